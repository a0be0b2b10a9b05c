/- Own work, printed: the functions compute these. -/
import Derived.Test.YtgcfokfcilgnlaaGreatWa23ax1
set_option linter.unusedVariables false
set_option linter.unusedSimpArgs false
namespace Go.Ac
open Go.Proofs
variable {cG cH cI cJ cX d6 d7 d9 dA dD:Int}
variable {cK cT dE:List Int}
variable {cM:(Int×List Int)⊕Bool}
variable {cN:(List Int)⊕(Bool×List Int)}
variable {cO:Bool×List Int}
variable {cP:(Int×List Int)}
variable {cQ:Int×List Int}
variable {cR:Int×Bool×List Int}
variable {cU:List X2}
variable {cV:AD}
variable {cW cY:List (Int×Bool)}
variable {cZ:(List (Int×Bool))}
variable {d3:(List Int)}
variable {d4:Bool}
variable {d5:List Xb}
variable {d8:List Xc}
variable {dB:Xb}
variable {dC:Xc}
variable {dF dG:MP Int Int}
variable {dH:(List Int×MP Int Int×MP Int Int)}
variable {dJ:List Int×MP Int Int×MP Int Int}
variable {dK:(Int×List Int)⊕(Unit⊕Unit)}
variable {dL:(List Int)⊕(List Int)}
variable {dM:(List Int×Int)}
variable {dN:Int×Int×Int}
variable {dO:Int×Int}
variable {dP:(Int×Int×Int×Int)}
variable {dQ:(Int×Int)}
variable {dR:Unit⊕Unit}
variable {dS:Unit⊕Int}
variable {dV dY eB:List X0}
variable {dX eC eE:X0}
variable {e9:(List X0)}
variable {eA:CE}
theorem ZE(rd:Option Nat)(us:List Value)(h:PU cG cH cI cJ cK=some cM):Lq 160 rd 466 ⟨sp 133 0 [rx 0,sI 1 cG,sI 2 cH,sI 7 cI,sI 8 cJ],[rW 0 56 1 dU cK,(997,.vals [.row 0] us)],[]⟩ (match (generalizing:=false) cM with
 | .inl cM=>(.normal,⟨sp 133 0 [rx 0,sI 1 cG,sI 2 cH,sI 7 cM.1,sI 8 cJ],[rW 0 56 1 dU cM.2,(997,.vals [.row 0] us)],[]⟩)
 | .inr cM=>(.ret,⟨sp 133 0 [sD 6 D.b cM],[rW 0 56 1 dU cK,(997,.vals [.row 0] us)],[]⟩)):=by
 unfold PU at h
 apply g0 (o:=cM)
 obtain⟨o4,h9,h⟩:=bS h
 refine gl (ZI rd us h9) ?_
 refine iB 37 h (fun h=> ?_) fun h=> ?_
 exact lp h
 refine iB 41 h (fun h=> ?_) fun h=> ?_
 exact lp h
 obtain⟨h12,h⟩:=cS h
 refine gQ h12.1<|gQ (AF dU h12.2) ?_
 obtain⟨x5,h13,h⟩:=xS h
 refine gG 51 (.el (dU x5)) (AG dU h13)<|gW 10056 (.sl ((cK.set o4.toNat x5).map dU)) ?_
 obtain⟨h14,h⟩:=cS h
 refine gQ h14.1<|gQ (AF dU h14.2) ?_
 obtain⟨x6,h15,h⟩:=xS h
 refine gG 55 (.el (dU x6)) (AG dU h15)<|gW 10057 (.sl (((cK.set o4.toNat x5).set (AA .sub .i64 o4 1).toNat x6).map dU)) ?_
 obtain⟨h16,h⟩:=cS h
 refine gQ h16.1<|gQ (AF dU h16.2) ?_
 obtain⟨h17,h⟩:=cS h
 refine gQ (A9 dU h17)<|gQ (AT dU cK o4 x5) ?_
 obtain⟨h18,h⟩:=cS h
 refine gQ h18.1<|gQ (AF dU h18.2) ?_
 obtain⟨h19,h⟩:=cS h
 refine gQ (A9 dU h19)<|gQ (AT dU (cK.set o4.toNat x5) (AA .sub .i64 o4 1) x6) ?_
 obtain⟨o13,h37,h⟩:=bS h
 refine gl (ZF rd us h37) ?_
 obtain⟨o20,h55,h⟩:=bS h
 refine gl (ZG rd us h55) ?_
 exact lp h
def Rg(us:List Value)(s1 s2:Int)(s7 s8:Int)(w0:List Int):St:=⟨sp 133 0 [rx 0,sI 1 s1,sI 2 s2,sI 7 s7,sI 8 s8],[rW 0 56 1 dU w0,(997,.vals [.row 0] us)],[]⟩
def Rh(us:List Value)(s1 s2:Int)(o:(List Int)⊕(Bool×List Int)):Ex×St:=match o with
 | .inl o=>(.exit 0,⟨sp 133 0 [],[rW 0 56 1 dU o,(997,.vals [.row 0] us)],[]⟩)
 | .inr o=>(.ret,⟨sp 133 0 [sD 6 D.b o.1],[rW 0 56 1 dU o.2,(997,.vals [.row 0] us)],[]⟩)
theorem ZH(rd:Option Nat)(us:List Value)(h:Mp cG cH cI cJ cK=some cN):Lq 160 rd 58 (Rg us cG cH cI cJ cK) ((Rh us cG cH) cN):=
 lL (fun s:Int×Int×List Int=>Rg us cG cH s.1 s.2.1 s.2.2) (Rh us cG cH) (cI,cJ,cK) (fun⟨cI,cJ,cK⟩ o h=>by
 unfold GI at h
 refine iB 14 h (fun h=> ?_) fun h=> ?_
 obtain⟨o21,h56,h⟩:=bS h
 refine gl (ZE rd us h56) ?_
 replace h:=AK h
 rcases h with⟨o22,rfl,h⟩|⟨o23,rfl,h⟩
 exact lb h
 exact lb h
 exact lb h) h
theorem aQ8(h:X5 cG cH cK=some cO):AL Tryz.prog 160 [.row 0,dI cG,dI cH] [rW 0 56 1 dU cK] (.d (D.b cO.1)) [rW 0 56 1 dU cO.2]:=by
 unfold X5 at h;refine XG.call (ks:=[0]) mixed fun us=> ?_;apply g0 (o:=cO);obtain⟨o24,h57,h⟩:=bS h;refine gl (ZH none us h57) ?_;replace h:=AK h;rcases h with⟨o25,rfl,h⟩|⟨o26,rfl,h⟩
 exact lX h (lv [6] [0,997]);exact lX h (lv [6] [0,997])
def SS(us:List Value)(s1 s10:Int)(w0:List Int)(s9:Int):St:=⟨sp 84 0 [rx 0,sI 1 s1,sI 9 s9,sI 10 s10],[rW 0 56 1 dU w0,(997,.vals [.row 0] us)],[]⟩
def ST(us:List Value)(s1 s10:Int)(w0:List Int)(o:Int):Ex×St:=(.exit 2,⟨sp 84 0 [rx 0,sI 1 s1,sI 9 o,sI 10 s10],[rW 0 56 1 dU w0,(997,.vals [.row 0] us)],[]⟩)
theorem aAo(rd:Option Nat)(us:List Value)(h:Pc cG cH cK cI=some cJ):Lq 162 rd 960 (SS us cG cH cK cI) ((ST us cG cH cK) cJ):=
 lL (fun s:Int=>SS us cG cH cK s) (ST us cG cH cK) cI (fun cI o h=>by
 unfold GO at h
 refine iB 32 h (fun h=> ?_) fun h=> ?_
 obtain⟨h10,h⟩:=cS h
 refine gQ h10.1<|gQ (AF dU h10.2) ?_
 obtain⟨x3,h11,h⟩:=xS h
 refine gG 36 (.el (dU x3)) (AG dU h11) ?_
 obtain⟨h12,h⟩:=cS h
 refine gQ h12.1<|gQ (AF dU h12.2) ?_
 obtain⟨x4,h13,h⟩:=xS h
 refine gG 40 (.el (dU x4)) (AG dU h13) ?_
 obtain⟨r5,h14,h⟩:=bS h
 refine gC 41 (Eo h14) ?_
 refine iB 43 h (fun h=> ?_) fun h=> ?_
 exact lb h
 exact lb h
 exact lb h) h
def SU(us:List Value)(s1 s9:Int)(w0:List Int)(s10:Int):St:=⟨sp 84 0 [rx 0,sI 1 s1,sI 9 s9,sI 10 s10],[rW 0 56 1 dU w0,(997,.vals [.row 0] us)],[]⟩
def SX(us:List Value)(s1 s9:Int)(w0:List Int)(o:Int):Ex×St:=(.exit 4,⟨sp 84 0 [rx 0,sI 1 s1,sI 9 s9,sI 10 o],[rW 0 56 1 dU w0,(997,.vals [.row 0] us)],[]⟩)
theorem aAp(rd:Option Nat)(us:List Value)(h:Pd cG cH cK cI=some cJ):Lq 162 rd 1924 (SU us cG cH cK cI) ((SX us cG cH cK) cJ):=
 lL (fun s:Int=>SU us cG cH cK s) (SX us cG cH cK) cI (fun cI o h=>by
 unfold GP at h
 refine iB 49 h (fun h=> ?_) fun h=> ?_
 obtain⟨h18,h⟩:=cS h
 refine gQ h18.1<|gQ (AF dU h18.2) ?_
 obtain⟨x7,h19,h⟩:=xS h
 refine gG 53 (.el (dU x7)) (AG dU h19) ?_
 obtain⟨h20,h⟩:=cS h
 refine gQ h20.1<|gQ (AF dU h20.2) ?_
 obtain⟨x8,h21,h⟩:=xS h
 refine gG 57 (.el (dU x8)) (AG dU h21) ?_
 obtain⟨r9,h22,h⟩:=bS h
 refine gQ (Eo h22) ?_
 cases r9
 replace h:=CF h
 refine gW 58 (.ret (.d (D.b false))) ?_
 exact lb h
 replace h:=CG h
 refine gW 58 (.ret (.d (D.b true))) ?_
 exact lb h
 exact lb h) h
def SQ(us:List Value)(s1 s9 s10:Int)(w0:List Int):St:=⟨sp 84 0 [rx 0,sI 1 s1,sI 9 s9,sI 10 s10],[rW 0 56 1 dU w0,(997,.vals [.row 0] us)],[]⟩
def SR(us:List Value)(s1:Int)(o:(Int×List Int)):Ex×St:=(.exit 0,⟨sp 84 0 [sI 9 o.1],[rW 0 56 1 dU o.2,(997,.vals [.row 0] us)],[]⟩)
theorem aAn(rd:Option Nat)(us:List Value)(h:Pb cG cH cI cK=some cP):Lq 162 rd 60 (SQ us cG cH cI cK) ((SR us cG) cP):=
 lL (fun s:Int×Int×List Int=>SQ us cG s.1 s.2.1 s.2.2) (SR us cG) (cH,cI,cK) (fun⟨cH,cI,cK⟩ o h=>by
 unfold Hj at h
 obtain⟨o6,h16,h⟩:=bS h
 refine gl (aAo rd us h16) ?_
 obtain⟨o10,h24,h⟩:=bS h
 refine gl (aAp rd us h24) ?_
 refine iB 64 h (fun h=> ?_) fun h=> ?_
 exact lb h
 obtain⟨h26,h⟩:=cS h
 refine gQ h26.1<|gQ (AF dU h26.2) ?_
 obtain⟨x11,h27,h⟩:=xS h
 refine gG 72 (.el (dU x11)) (AG dU h27)<|gW 10077 (.sl ((cK.set o6.toNat x11).map dU)) ?_
 obtain⟨h28,h⟩:=cS h
 refine gQ h28.1<|gQ (AF dU h28.2) ?_
 obtain⟨x12,h29,h⟩:=xS h
 refine gG 76 (.el (dU x12)) (AG dU h29)<|gW 10078 (.sl (((cK.set o6.toNat x11).set o10.toNat x12).map dU)) ?_
 obtain⟨h30,h⟩:=cS h
 refine gQ h30.1<|gQ (AF dU h30.2) ?_
 obtain⟨h31,h⟩:=cS h
 refine gQ (A9 dU h31)<|gQ (AT dU cK o6 x11) ?_
 obtain⟨h32,h⟩:=cS h
 refine gQ h32.1<|gQ (AF dU h32.2) ?_
 obtain⟨h33,h⟩:=cS h
 refine gQ (A9 dU h33)<|gQ (AT dU (cK.set o6.toNat x11) o10 x12) ?_
 exact lb h) h
theorem aJs(h:Xe cG cH cI cK=some cQ):AL Tryz.prog 162 [.row 0,dI cG,dI cH,dI cI] [rW 0 56 1 dU cK] (dI cQ.1) [rW 0 56 1 dU cQ.2]:=by unfold Xe at h;refine XG.call (ks:=[0]) mixed fun us=> ?_;apply g0 (o:=cQ);obtain⟨h1,h⟩:=cS h;refine gQ h1.1<|gQ (AF dU h1.2) ?_;obtain⟨x1,h2,h⟩:=xS h;refine gG 18 (.el (dU x1)) (AG dU h2)<|gW 10023 (.sl ((cK.set cG.toNat x1).map dU)) ?_;obtain⟨h3,h⟩:=cS h;refine gQ h3.1<|gQ (AF dU h3.2) ?_;obtain⟨x2,h4,h⟩:=xS h;refine gG 22 (.el (dU x2)) (AG dU h4)<|gW 10024 (.sl (((cK.set cG.toNat x1).set cI.toNat x2).map dU)) ?_;obtain⟨h5,h⟩:=cS h;refine gQ h5.1<|gQ (AF dU h5.2) ?_;obtain⟨h6,h⟩:=cS h;refine gQ (A9 dU h6)<|gQ (AT dU cK cG x1) ?_;obtain⟨h7,h⟩:=cS h;refine gQ h7.1<|gQ (AF dU h7.2) ?_;obtain⟨h8,h⟩:=cS h;refine gQ (A9 dU h8)<|gQ (AT dU (cK.set cG.toNat x1) cI x2) ?_;obtain⟨o13,h34,h⟩:=bS h;refine gl (aAn none us h34) ?_;exact lX h (lv [8] [0,997])
def Ro(us:List Value)(s1 s11:Int)(w0:List Int)(s10:Int):St:=⟨sp 168 0 [rx 0,sI 1 s1,sI 10 s10,sI 11 s11],[rW 0 56 1 dU w0,(997,.vals [.row 0] us)],[]⟩
def Rp(us:List Value)(s1 s11:Int)(w0:List Int)(o:Int):Ex×St:=(.exit 0,⟨sp 168 0 [rx 0,sI 1 s1,sI 10 o,sI 11 s11],[rW 0 56 1 dU w0,(997,.vals [.row 0] us)],[]⟩)
theorem ZL(rd:Option Nat)(us:List Value)(h:Mq cG cH cK cI=some cJ):Lq 163 rd 60 (Ro us cG cH cK cI) ((Rp us cG cH cK) cJ):=
 lL (fun s:Int=>Ro us cG cH cK s) (Rp us cG cH cK) cI (fun cI o h=>by
 unfold GM at h
 refine iB 33 h (fun h=> ?_) fun h=> ?_
 obtain⟨h10,h⟩:=cS h
 refine gQ h10.1<|gQ (AF dU h10.2) ?_
 obtain⟨x3,h11,h⟩:=xS h
 refine gG 37 (.el (dU x3)) (AG dU h11) ?_
 obtain⟨h12,h⟩:=cS h
 refine gQ h12.1<|gQ (AF dU h12.2) ?_
 obtain⟨x4,h13,h⟩:=xS h
 refine gG 41 (.el (dU x4)) (AG dU h13) ?_
 obtain⟨r5,h14,h⟩:=bS h
 refine gQ (Eo h14) ?_
 cases r5
 replace h:=CF h
 refine gW 42 (.ret (.d (D.b false))) ?_
 exact lb h
 replace h:=CG h
 refine gW 42 (.ret (.d (D.b true))) ?_
 exact lb h
 exact lb h) h
def Rq(us:List Value)(s1 s10:Int)(w0:List Int)(s11:Int):St:=⟨sp 168 0 [rx 0,sI 1 s1,sI 10 s10,sI 11 s11],[rW 0 56 1 dU w0,(997,.vals [.row 0] us)],[]⟩
def Rr(us:List Value)(s1 s10:Int)(w0:List Int)(o:Int):Ex×St:=(.exit 2,⟨sp 168 0 [rx 0,sI 1 s1,sI 10 s10,sI 11 o],[rW 0 56 1 dU w0,(997,.vals [.row 0] us)],[]⟩)
theorem ZM(rd:Option Nat)(us:List Value)(h:Mr cG cH cK cI=some cJ):Lq 163 rd 124 (Rq us cG cH cK cI) ((Rr us cG cH cK) cJ):=
 lL (fun s:Int=>Rq us cG cH cK s) (Rr us cG cH cK) cI (fun cI o h=>by
 unfold GN at h
 refine iB 49 h (fun h=> ?_) fun h=> ?_
 obtain⟨h18,h⟩:=cS h
 refine gQ h18.1<|gQ (AF dU h18.2) ?_
 obtain⟨x7,h19,h⟩:=xS h
 refine gG 53 (.el (dU x7)) (AG dU h19) ?_
 obtain⟨h20,h⟩:=cS h
 refine gQ h20.1<|gQ (AF dU h20.2) ?_
 obtain⟨x8,h21,h⟩:=xS h
 refine gG 57 (.el (dU x8)) (AG dU h21) ?_
 obtain⟨r9,h22,h⟩:=bS h
 refine gC 58 (Eo h22) ?_
 refine iB 60 h (fun h=> ?_) fun h=> ?_
 exact lb h
 exact lb h
 exact lb h) h
def Ru(us:List Value)(s1 s11:Int)(w0:List Int)(s10:Int):St:=⟨sp 168 0 [rx 0,sI 1 s1,sI 10 s10,sI 11 s11],[rW 0 56 1 dU w0,(997,.vals [.row 0] us)],[]⟩
def Rv(us:List Value)(s1 s11:Int)(w0:List Int)(o:Int):Ex×St:=(.exit 6,⟨sp 168 0 [rx 0,sI 1 s1,sI 10 o,sI 11 s11],[rW 0 56 1 dU w0,(997,.vals [.row 0] us)],[]⟩)
theorem ZQ(rd:Option Nat)(us:List Value)(h:ZP cG cH cK cI=some cJ):Lq 163 rd 65472 (Ru us cG cH cK cI) ((Rv us cG cH cK) cJ):=
 lL (fun s:Int=>Ru us cG cH cK s) (Rv us cG cH cK) cI (fun cI o h=>by
 unfold Ms at h
 refine iB 102 h (fun h=> ?_) fun h=> ?_
 obtain⟨h43,h⟩:=cS h
 refine gQ h43.1<|gQ (AF dU h43.2) ?_
 obtain⟨x15,h44,h⟩:=xS h
 refine gG 106 (.el (dU x15)) (AG dU h44) ?_
 obtain⟨h45,h⟩:=cS h
 refine gQ h45.1<|gQ (AF dU h45.2) ?_
 obtain⟨x16,h46,h⟩:=xS h
 refine gG 110 (.el (dU x16)) (AG dU h46) ?_
 obtain⟨r17,h47,h⟩:=bS h
 refine gQ (Eo h47) ?_
 cases r17
 replace h:=CF h
 refine gW 111 (.ret (.d (D.b false))) ?_
 exact lb h
 replace h:=CG h
 refine gW 111 (.ret (.d (D.b true))) ?_
 exact lb h
 exact lb h) h
def Rw(us:List Value)(s1 s10:Int)(w0:List Int)(s11:Int):St:=⟨sp 168 0 [rx 0,sI 1 s1,sI 10 s10,sI 11 s11],[rW 0 56 1 dU w0,(997,.vals [.row 0] us)],[]⟩
def Rx(us:List Value)(s1 s10:Int)(w0:List Int)(o:Int):Ex×St:=(.exit 8,⟨sp 168 0 [rx 0,sI 1 s1,sI 10 s10,sI 11 o],[rW 0 56 1 dU w0,(997,.vals [.row 0] us)],[]⟩)
theorem ZS(rd:Option Nat)(us:List Value)(h:ZR cG cH cK cI=some cJ):Lq 163 rd 130948 (Rw us cG cH cK cI) ((Rx us cG cH cK) cJ):=
 lL (fun s:Int=>Rw us cG cH cK s) (Rx us cG cH cK) cI (fun cI o h=>by
 unfold Mt at h
 refine iB 118 h (fun h=> ?_) fun h=> ?_
 obtain⟨h51,h⟩:=cS h
 refine gQ h51.1<|gQ (AF dU h51.2) ?_
 obtain⟨x19,h52,h⟩:=xS h
 refine gG 122 (.el (dU x19)) (AG dU h52) ?_
 obtain⟨h53,h⟩:=cS h
 refine gQ h53.1<|gQ (AF dU h53.2) ?_
 obtain⟨x20,h54,h⟩:=xS h
 refine gG 126 (.el (dU x20)) (AG dU h54) ?_
 obtain⟨r21,h55,h⟩:=bS h
 refine gC 127 (Eo h55) ?_
 refine iB 129 h (fun h=> ?_) fun h=> ?_
 exact lb h
 exact lb h
 exact lb h) h
def Rs(us:List Value)(s1 s10 s11:Int)(w0:List Int):St:=⟨sp 168 0 [rx 0,sI 1 s1,sI 10 s10,sI 11 s11],[rW 0 56 1 dU w0,(997,.vals [.row 0] us)],[]⟩
def Rt(us:List Value)(s1:Int)(o:(Int×List Int)):Ex×St:=(.exit 4,⟨sp 168 0 [rx 0,sI 1 s1,sI 11 o.1],[rW 0 56 1 dU o.2,(997,.vals [.row 0] us)],[]⟩)
theorem ZO(rd:Option Nat)(us:List Value)(h:PY cG cH cI cK=some cP):Lq 163 rd 4092 (Rs us cG cH cI cK) ((Rt us cG) cP):=
 lL (fun s:Int×Int×List Int=>Rs us cG s.1 s.2.1 s.2.2) (Rt us cG) (cH,cI,cK) (fun⟨cH,cI,cK⟩ o h=>by
 unfold HW at h
 obtain⟨o18,h49,h⟩:=bS h
 refine gl (ZQ rd us h49) ?_
 obtain⟨o22,h57,h⟩:=bS h
 refine gl (ZS rd us h57) ?_
 refine iB 134 h (fun h=> ?_) fun h=> ?_
 exact lb h
 obtain⟨h59,h⟩:=cS h
 refine gQ h59.1<|gQ (AF dU h59.2) ?_
 obtain⟨x23,h60,h⟩:=xS h
 refine gG 142 (.el (dU x23)) (AG dU h60)<|gW 10147 (.sl ((cK.set o18.toNat x23).map dU)) ?_
 obtain⟨h61,h⟩:=cS h
 refine gQ h61.1<|gQ (AF dU h61.2) ?_
 obtain⟨x24,h62,h⟩:=xS h
 refine gG 146 (.el (dU x24)) (AG dU h62)<|gW 10148 (.sl (((cK.set o18.toNat x23).set o22.toNat x24).map dU)) ?_
 obtain⟨h63,h⟩:=cS h
 refine gQ h63.1<|gQ (AF dU h63.2) ?_
 obtain⟨h64,h⟩:=cS h
 refine gQ (A9 dU h64)<|gQ (AT dU cK o18 x23) ?_
 obtain⟨h65,h⟩:=cS h
 refine gQ h65.1<|gQ (AF dU h65.2) ?_
 obtain⟨h66,h⟩:=cS h
 refine gQ (A9 dU h66)<|gQ (AT dU (cK.set o18.toNat x23) o22 x24) ?_
 exact lb h) h
theorem PZ(h:X6 cG cH cI cK=some cR):AL Tryz.prog 163 [.row 0,dI cG,dI cH,dI cI] [rW 0 56 1 dU cK] (.tup [dI cR.1,.d (D.b cR.2.1)]) [rW 0 56 1 dU cR.2.2]:=by unfold X6 at h;refine XG.call (ks:=[0]) mixed fun us=> ?_;apply g0 (o:=cR);obtain⟨h1,h⟩:=cS h;refine gQ h1.1<|gQ (AF dU h1.2) ?_;obtain⟨x1,h2,h⟩:=xS h;refine gG 19 (.el (dU x1)) (AG dU h2)<|gW 10024 (.sl ((cK.set cG.toNat x1).map dU)) ?_;obtain⟨h3,h⟩:=cS h;refine gQ h3.1<|gQ (AF dU h3.2) ?_;obtain⟨x2,h4,h⟩:=xS h;refine gG 23 (.el (dU x2)) (AG dU h4)<|gW 10025 (.sl (((cK.set cG.toNat x1).set cI.toNat x2).map dU)) ?_;obtain⟨h5,h⟩:=cS h;refine gQ h5.1<|gQ (AF dU h5.2) ?_;obtain⟨h6,h⟩:=cS h;refine gQ (A9 dU h6)<|gQ (AT dU cK cG x1) ?_;obtain⟨h7,h⟩:=cS h;refine gQ h7.1<|gQ (AF dU h7.2) ?_;obtain⟨h8,h⟩:=cS h;refine gQ (A9 dU h8)<|gQ (AT dU (cK.set cG.toNat x1) cI x2) ?_;obtain⟨o6,h16,h⟩:=bS h;refine gl (ZL none us h16) ?_;obtain⟨o10,h24,h⟩:=bS h;refine gl (ZM none us h24) ?_;refine iB 65 h (fun h=> ?_) fun h=> ?_;obtain⟨h26,h⟩:=cS h;refine gQ h26.1<|gQ (AF dU h26.2) ?_;obtain⟨x11,h27,h⟩:=xS h;refine gG 73 (.el (dU x11)) (AG dU h27)<|gW 10078 (.sl ((((cK.set cG.toNat x1).set cI.toNat x2).set o10.toNat x11).map dU)) ?_;obtain⟨h28,h⟩:=cS h;refine gQ h28.1<|gQ (AF dU h28.2) ?_;obtain⟨x12,h29,h⟩:=xS h;refine gG 77 (.el (dU x12)) (AG dU h29)<|gW 10079 (.sl (((((cK.set cG.toNat x1).set cI.toNat x2).set o10.toNat x11).set cG.toNat x12).map dU)) ?_;obtain⟨h30,h⟩:=cS h;refine gQ h30.1<|gQ (AF dU h30.2) ?_;obtain⟨h31,h⟩:=cS h;refine gQ (A9 dU h31)<|gQ (AT dU ((cK.set cG.toNat x1).set cI.toNat x2) o10 x11) ?_;obtain⟨h32,h⟩:=cS h;refine gQ h32.1<|gQ (AF dU h32.2) ?_;obtain⟨h33,h⟩:=cS h;refine gQ (A9 dU h33)<|gQ (AT dU (((cK.set cG.toNat x1).set cI.toNat x2).set o10.toNat x11) cG x12) ?_;exact lX h (lv [8,9] [0,997]);obtain⟨h34,h⟩:=cS h;refine gQ h34.1<|gQ (AF dU h34.2) ?_;obtain⟨x13,h35,h⟩:=xS h;refine gG 88 (.el (dU x13)) (AG dU h35)<|gW 10093 (.sl ((((cK.set cG.toNat x1).set cI.toNat x2).set o6.toNat x13).map dU)) ?_;obtain⟨h36,h⟩:=cS h;refine gQ h36.1<|gQ (AF dU h36.2) ?_;obtain⟨x14,h37,h⟩:=xS h;refine gG 92 (.el (dU x14)) (AG dU h37)<|gW 10094 (.sl (((((cK.set cG.toNat x1).set cI.toNat x2).set o6.toNat x13).set o10.toNat x14).map dU)) ?_;obtain⟨h38,h⟩:=cS h;refine gQ h38.1<|gQ (AF dU h38.2) ?_;obtain⟨h39,h⟩:=cS h;refine gQ (A9 dU h39)<|gQ (AT dU ((cK.set cG.toNat x1).set cI.toNat x2) o6 x13) ?_;obtain⟨h40,h⟩:=cS h;refine gQ h40.1<|gQ (AF dU h40.2) ?_;obtain⟨h41,h⟩:=cS h;refine gQ (A9 dU h41)<|gQ (AT dU (((cK.set cG.toNat x1).set cI.toNat x2).set o6.toNat x13) o10 x14) ?_;obtain⟨o25,h67,h⟩:=bS h;refine gl (ZO none us h67) ?_;obtain⟨h68,h⟩:=cS h;refine gQ h68.1<|gQ (AF dU h68.2) ?_;obtain⟨x26,h69,h⟩:=xS h;refine gG 160 (.el (dU x26)) (AG dU h69)<|gW 10165 (.sl ((o25.2.set o25.1.toNat x26).map dU)) ?_;obtain⟨h70,h⟩:=cS h;refine gQ h70.1<|gQ (AF dU h70.2) ?_;obtain⟨x27,h71,h⟩:=xS h;refine gG 164 (.el (dU x27)) (AG dU h71)<|gW 10166 (.sl (((o25.2.set o25.1.toNat x26).set cG.toNat x27).map dU)) ?_;obtain⟨h72,h⟩:=cS h;refine gQ h72.1<|gQ (AF dU h72.2) ?_;obtain⟨h73,h⟩:=cS h;refine gQ (A9 dU h73)<|gQ (AT dU o25.2 o25.1 x26) ?_;obtain⟨h74,h⟩:=cS h;refine gQ h74.1<|gQ (AF dU h74.2) ?_;obtain⟨h75,h⟩:=cS h;refine gQ (A9 dU h75)<|gQ (AT dU (o25.2.set o25.1.toNat x26) cG x27) ?_;exact lX h (lv [8,9] [0,997])
theorem aAc(rd:Option Nat)(self:Int->Int->Int->(List Int)->Option (List Int))(hs: ∀(a1 a2 a3:Int) (w0 r:List Int),self a1 a2 a3 w0=some r->AL Tryz.prog 132 [.row 0,dI a1,dI a2,dI a3] [rW 0 56 1 dU w0] (.tup []) [rW 0 56 1 dU r])(us:List Value){s1 s2 s3:Int}{s8 s9:Bool}{s10:Int}{s35:Bool}{w0:List Int}{o:(Int×List Int)}(h:Mv self s1 s2 s3 s8 s9 s10 s35 w0=some o):Lq 132 rd 1821 ⟨sp 134 0 [rx 0,sI 1 s1,sI 2 s2,sI 3 s3,sD 8 D.b s8,sD 9 D.b s9,sI 10 s10,sD 35 D.b s35],[rW 0 56 1 dU w0,(997,.vals [.row 0] us)],[]⟩ (.normal,⟨sp 134 0 [rx 0,sI 1 s1,sI 2 s2,sI 3 o.1,sD 8 D.b s8,sD 9 D.b s9,sI 10 s10],[rW 0 56 1 dU o.2,(997,.vals [.row 0] us)],[]⟩):=by unfold Mv at h;apply g0 (o:=o);cases s35;replace h:=CF h;exact lp h;replace h:=CG h;obtain⟨r3,h6,h⟩:=bS h;refine gG 39 (.cx false [(0,0)] [] (.tup []) [rW 0 56 1 dU r3]) (aRs h6) ?_;exact lp h
theorem aAd(rd:Option Nat)(self:Int->Int->Int->(List Int)->Option (List Int))(hs: ∀(a1 a2 a3:Int) (w0 r:List Int),self a1 a2 a3 w0=some r->AL Tryz.prog 132 [.row 0,dI a1,dI a2,dI a3] [rW 0 56 1 dU w0] (.tup []) [rW 0 56 1 dU r])(us:List Value){s1 s2 s3:Int}{s8 s9:Bool}{s10 s11 s12:Int}{s50:Bool}{w0:List Int}{o:(Int×Int×List Int)}(h:Mw self s1 s2 s3 s8 s9 s10 s11 s12 s50 w0=some o):Lq 132 rd 7293 ⟨sp 134 0 [rx 0,sI 1 s1,sI 2 s2,sI 3 s3,sD 8 D.b s8,sD 9 D.b s9,sI 10 s10,sI 11 s11,sI 12 s12,sD 50 D.b s50],[rW 0 56 1 dU w0,(997,.vals [.row 0] us)],[]⟩ (.normal,⟨sp 134 0 [rx 0,sI 1 s1,sI 2 s2,sI 3 s3,sD 8 D.b s8,sD 9 D.b s9,sI 10 s10,sI 11 o.1,sI 12 o.2.1],[rW 0 56 1 dU o.2.2,(997,.vals [.row 0] us)],[]⟩):=by unfold Mw at h;apply g0 (o:=o);cases s50;replace h:=CF h;exact lp h;replace h:=CG h;obtain⟨r6,h10,h⟩:=bS h;refine gG 54 (.cx false [(0,0)] [] (.tup []) [rW 0 56 1 dU r6]) (aSm h10) ?_;exact lp h
theorem KK(rd:Option Nat)(self:Int->Int->Int->(List Int)->Option (List Int))(hs: ∀(a1 a2 a3:Int) (w0 r:List Int),self a1 a2 a3 w0=some r->AL Tryz.prog 132 [.row 0,dI a1,dI a2,dI a3] [rW 0 56 1 dU w0] (.tup []) [rW 0 56 1 dU r])(us:List Value){s1 s2 s3:Int}{s8 s9:Bool}{s10 s11:Int}{s68:Bool}{w0:List Int}{o:(List Int)⊕(List Int)}(h:JS self s1 s2 s3 s8 s9 s10 s11 s68 w0=some o):Lq 132 rd 14589 ⟨sp 134 0 [rx 0,sI 1 s1,sI 2 s2,sI 3 s3,sD 8 D.b s8,sD 9 D.b s9,sI 10 s10,sI 11 s11,sD 68 D.b s68],[rW 0 56 1 dU w0,(997,.vals [.row 0] us)],[]⟩ (match (generalizing:=false) o with
 | .inl o=>(.normal,⟨sp 134 0 [rx 0,sI 1 s1,sI 2 s2,sI 3 s3,sD 8 D.b s8,sD 9 D.b s9,sI 10 s10,sI 11 s11],[rW 0 56 1 dU o,(997,.vals [.row 0] us)],[]⟩)
 | .inr o=>(.ret,⟨sp 134 0 [],[rW 0 56 1 dU o,(997,.vals [.row 0] us)],[]⟩)):=by
 unfold JS at h
 apply g0 (o:=o)
 cases s68
 replace h:=CF h
 exact lp h
 replace h:=CG h
 obtain⟨r8,h15,h⟩:=bS h
 refine gQ (aQ8 h15) ?_
 rcases r8 with⟨r8_1,r8_2⟩
 cases r8_1
 replace h:=CF h
 refine gW 72 (.cx false [(0,0)] [] (.d (D.b false)) [rW 0 56 1 dU r8_2]) ?_
 exact lp h
 replace h:=CG h
 refine gW 72 (.cx false [(0,0)] [] (.d (D.b true)) [rW 0 56 1 dU r8_2]) ?_
 exact lp h
theorem E2(rd:Option Nat)(self:Int->Int->Int->(List Int)->Option (List Int))(hs: ∀(a1 a2 a3:Int) (w0 r:List Int),self a1 a2 a3 w0=some r->AL Tryz.prog 132 [.row 0,dI a1,dI a2,dI a3] [rW 0 56 1 dU w0] (.tup []) [rW 0 56 1 dU r])(us:List Value){s1 s2 s3:Int}{s9:Bool}{s14 s16:Int}{s17 s18:Int}{s113:Bool}{w0:List Int}{o:(Int×Int×Bool×List Int)}(h:FX self s1 s2 s3 s9 s14 s16 s17 s18 s113 w0=some o):Lq 132 rd 466943 ⟨sp 134 0 [rx 0,sI 1 s1,sI 2 s2,sI 3 s3,sD 9 D.b s9,sI 14 s14,sI 16 s16,sI 17 s17,sI 18 s18,sD 113 D.b s113],[rW 0 56 1 dU w0,(997,.vals [.row 0] us)],[]⟩ (.normal,⟨sp 134 0 [rx 0,sI 1 o.1,sI 2 o.2.1,sI 3 s3,sD 8 D.b o.2.2.1,sD 9 D.b s9],[rW 0 56 1 dU o.2.2.2,(997,.vals [.row 0] us)],[]⟩):=by unfold FX at h;apply g0 (o:=o);cases s113;replace h:=CF h;obtain⟨r18,h29,h⟩:=bS h;refine gG 132 (.cx false [(0,0)] [] (.tup []) [rW 0 56 1 dU r18]) (hs (AA .add .i64 s14 1) s2 s3 w0 r18 h29) ?_;exact lp h;replace h:=CG h;obtain⟨r17,h28,h⟩:=bS h;refine gG 121 (.cx false [(0,0)] [] (.tup []) [rW 0 56 1 dU r17]) (hs s1 s14 s3 w0 r17 h28) ?_;exact lp h
theorem aAb(rd:Option Nat)(self:Int->Int->Int->(List Int)->Option (List Int))(hs: ∀(a1 a2 a3:Int) (w0 r:List Int),self a1 a2 a3 w0=some r->AL Tryz.prog 132 [.row 0,dI a1,dI a2,dI a3] [rW 0 56 1 dU w0] (.tup []) [rW 0 56 1 dU r])(us:List Value){s1 s2 s3:Int}{s8 s9:Bool}{w0:List Int}{o:(Int×Int×Int×Bool×Bool×List Int)⊕(List Int)}(h:Mu self s1 s2 s3 s8 s9 w0=some o):Lq 132 rd 28 ⟨sp 134 0 [rx 0,sI 1 s1,sI 2 s2,sI 3 s3,sD 8 D.b s8,sD 9 D.b s9],[rW 0 56 1 dU w0,(997,.vals [.row 0] us)],[]⟩ (match (generalizing:=false) o with
 | .inl o=>(.normal,⟨sp 134 0 [rx 0,sI 1 o.1,sI 2 o.2.1,sI 3 o.2.2.1,sD 8 D.b o.2.2.2.1,sD 9 D.b o.2.2.2.2.1],[rW 0 56 1 dU o.2.2.2.2.2,(997,.vals [.row 0] us)],[]⟩)
 | .inr o=>(.ret,⟨sp 134 0 [],[rW 0 56 1 dU o,(997,.vals [.row 0] us)],[]⟩)):=by
 unfold Mu at h
 apply g0 (o:=o)
 refine iB 23 h (fun h=> ?_) fun h=> ?_
 obtain⟨r1,h2,h⟩:=bS h
 refine gG 27 (.cx false [(0,0)] [] (.tup []) [rW 0 56 1 dU r1]) (aRx h2) ?_
 exact lp h
 refine iB 29 h (fun h=> ?_) fun h=> ?_
 obtain⟨r2,h4,h⟩:=bS h
 refine gG 33 (.cx false [(0,0)] [] (.tup []) [rW 0 56 1 dU r2]) (aRy h4) ?_
 exact lp h
 obtain⟨o4,h7,h⟩:=bS h
 refine gl (aAc rd self hs us h7) ?_
 obtain⟨r5,h8,h⟩:=bS h
 refine gG 46 (.lend [0] (.tup [dI r5.1,dI r5.2])) (aSt h8) ?_
 obtain⟨o7,h11,h⟩:=bS h
 refine gl (aAd rd self hs us h11) ?_
 refine iB 62 h (fun h=> ?_) fun h=> ?_
 refine iB 65 h (fun h=> ?_) fun h=> ?_
 obtain⟨o9,h17,h⟩:=bS h
 refine gl (KK rd self hs us h17) ?_
 replace h:=AK h
 rcases h with⟨o10,rfl,h⟩|⟨o11,rfl,h⟩
 refine iB 75 h (fun h=> ?_) fun h=> ?_
 obtain⟨h19,h⟩:=cS h
 refine gQ h19.1<|gQ (AF dU h19.2) ?_
 obtain⟨x12,h20,h⟩:=xS h
 refine gG 80 (.el (dU x12)) (AG dU h20) ?_
 obtain⟨h21,h⟩:=cS h
 refine gQ h21.1<|gQ (AF dU h21.2) ?_
 obtain⟨x13,h22,h⟩:=xS h
 refine gG 84 (.el (dU x13)) (AG dU h22) ?_
 obtain⟨r14,h23,h⟩:=bS h
 refine gC 85 (Eo h23) ?_
 refine iB 87 h (fun h=> ?_) fun h=> ?_
 obtain⟨r15,h25,h⟩:=bS h
 refine gG 92 (.cx false [(0,0)] [] (dI r15.1) [rW 0 56 1 dU r15.2]) (aJs h25) ?_
 exact lp h
 obtain⟨r16,h26,h⟩:=bS h
 refine gG 99 (.cx false [(0,0)] [] (.tup [dI r16.1,.d (D.b r16.2.1)]) [rW 0 56 1 dU r16.2.2]) (PZ h26)<|gQ (of_decide_eq_true rfl:(8:Int)≠0) ?_
 obtain⟨o19,h30,h⟩:=bS h
 refine gl (E2 rd self hs us h30) ?_
 exact lp h
 obtain⟨r20,h31,h⟩:=bS h
 refine gG 99 (.cx false [(0,0)] [] (.tup [dI r20.1,.d (D.b r20.2.1)]) [rW 0 56 1 dU r20.2.2]) (PZ h31)<|gQ (of_decide_eq_true rfl:(8:Int)≠0) ?_
 obtain⟨o21,h32,h⟩:=bS h
 refine gl (E2 rd self hs us h32) ?_
 exact lp h
 exact lp h
 obtain⟨o22,h33,h⟩:=bS h
 refine gl (KK rd self hs us h33) ?_
 replace h:=AK h
 rcases h with⟨o23,rfl,h⟩|⟨o24,rfl,h⟩
 refine iB 75 h (fun h=> ?_) fun h=> ?_
 obtain⟨h35,h⟩:=cS h
 refine gQ h35.1<|gQ (AF dU h35.2) ?_
 obtain⟨x25,h36,h⟩:=xS h
 refine gG 80 (.el (dU x25)) (AG dU h36) ?_
 obtain⟨h37,h⟩:=cS h
 refine gQ h37.1<|gQ (AF dU h37.2) ?_
 obtain⟨x26,h38,h⟩:=xS h
 refine gG 84 (.el (dU x26)) (AG dU h38) ?_
 obtain⟨r27,h39,h⟩:=bS h
 refine gC 85 (Eo h39) ?_
 refine iB 87 h (fun h=> ?_) fun h=> ?_
 obtain⟨r28,h41,h⟩:=bS h
 refine gG 92 (.cx false [(0,0)] [] (dI r28.1) [rW 0 56 1 dU r28.2]) (aJs h41) ?_
 exact lp h
 obtain⟨r29,h42,h⟩:=bS h
 refine gG 99 (.cx false [(0,0)] [] (.tup [dI r29.1,.d (D.b r29.2.1)]) [rW 0 56 1 dU r29.2.2]) (PZ h42)<|gQ (of_decide_eq_true rfl:(8:Int)≠0) ?_
 obtain⟨o30,h43,h⟩:=bS h
 refine gl (E2 rd self hs us h43) ?_
 exact lp h
 obtain⟨r31,h44,h⟩:=bS h
 refine gG 99 (.cx false [(0,0)] [] (.tup [dI r31.1,.d (D.b r31.2.1)]) [rW 0 56 1 dU r31.2.2]) (PZ h44)<|gQ (of_decide_eq_true rfl:(8:Int)≠0) ?_
 obtain⟨o32,h45,h⟩:=bS h
 refine gl (E2 rd self hs us h45) ?_
 exact lp h
 exact lp h
 obtain⟨o33,h46,h⟩:=bS h
 refine gl (KK rd self hs us h46) ?_
 replace h:=AK h
 rcases h with⟨o34,rfl,h⟩|⟨o35,rfl,h⟩
 refine iB 75 h (fun h=> ?_) fun h=> ?_
 obtain⟨h48,h⟩:=cS h
 refine gQ h48.1<|gQ (AF dU h48.2) ?_
 obtain⟨x36,h49,h⟩:=xS h
 refine gG 80 (.el (dU x36)) (AG dU h49) ?_
 obtain⟨h50,h⟩:=cS h
 refine gQ h50.1<|gQ (AF dU h50.2) ?_
 obtain⟨x37,h51,h⟩:=xS h
 refine gG 84 (.el (dU x37)) (AG dU h51) ?_
 obtain⟨r38,h52,h⟩:=bS h
 refine gC 85 (Eo h52) ?_
 refine iB 87 h (fun h=> ?_) fun h=> ?_
 obtain⟨r39,h54,h⟩:=bS h
 refine gG 92 (.cx false [(0,0)] [] (dI r39.1) [rW 0 56 1 dU r39.2]) (aJs h54) ?_
 exact lp h
 obtain⟨r40,h55,h⟩:=bS h
 refine gG 99 (.cx false [(0,0)] [] (.tup [dI r40.1,.d (D.b r40.2.1)]) [rW 0 56 1 dU r40.2.2]) (PZ h55)<|gQ (of_decide_eq_true rfl:(8:Int)≠0) ?_
 obtain⟨o41,h56,h⟩:=bS h
 refine gl (E2 rd self hs us h56) ?_
 exact lp h
 obtain⟨r42,h57,h⟩:=bS h
 refine gG 99 (.cx false [(0,0)] [] (.tup [dI r42.1,.d (D.b r42.2.1)]) [rW 0 56 1 dU r42.2.2]) (PZ h57)<|gQ (of_decide_eq_true rfl:(8:Int)≠0) ?_
 obtain⟨o43,h58,h⟩:=bS h
 refine gl (E2 rd self hs us h58) ?_
 exact lp h
 exact lp h
def SB(us:List Value)(s1 s2 s3:Int)(s8 s9:Bool)(w0:List Int):St:=⟨sp 134 0 [rx 0,sI 1 s1,sI 2 s2,sI 3 s3,sD 8 D.b s8,sD 9 D.b s9],[rW 0 56 1 dU w0,(997,.vals [.row 0] us)],[]⟩
def SC(us:List Value)(o:(List Int)):Ex×St:=(.ret,⟨sp 134 0 [],[rW 0 56 1 dU o,(997,.vals [.row 0] us)],[]⟩)
theorem aAf(rd:Option Nat)(self:Int->Int->Int->(List Int)->Option (List Int))(hs: ∀(a1 a2 a3:Int) (w0 r:List Int),self a1 a2 a3 w0=some r->AL Tryz.prog 132 [.row 0,dI a1,dI a2,dI a3] [rW 0 56 1 dU w0] (.tup []) [rW 0 56 1 dU r])(us:List Value){s1 s2 s3:Int}{s8 s9:Bool}{w0:List Int}{t:(List Int)}(h:Pa self s1 s2 s3 s8 s9 w0=some t):Lq 132 rd 14 (SB us s1 s2 s3 s8 s9 w0) ((SC us) t):=
 lL (fun s:Int×Int×Int×Bool×Bool×List Int=>SB us s.1 s.2.1 s.2.2.1 s.2.2.2.1 s.2.2.2.2.1 s.2.2.2.2.2) (SC us) (s1,s2,s3,s8,s9,w0) (fun⟨s1,s2,s3,s8,s9,w0⟩ o h=>by
 unfold Hc at h
 obtain⟨o44,h59,h⟩:=bS h
 refine gl (aAb rd self hs us h59) ?_
 replace h:=AK h
 rcases h with⟨o45,rfl,h⟩|⟨o46,rfl,h⟩
 exact lb h
 exact lb h) h
theorem aJl(self:Int->Int->Int->(List Int)->Option (List Int))(hs: ∀(a1 a2 a3:Int) (w0 r:List Int),self a1 a2 a3 w0=some r->AL Tryz.prog 132 [.row 0,dI a1,dI a2,dI a3] [rW 0 56 1 dU w0] (.tup []) [rW 0 56 1 dU r])(a1 a2 a3:Int)(w0 r:List Int)(h:aJk self a1 a2 a3 w0=some r):AL Tryz.prog 132 [.row 0,dI a1,dI a2,dI a3] [rW 0 56 1 dU w0] (.tup []) [rW 0 56 1 dU r]:=by unfold aJk at h;refine XG.call (ks:=[0]) mixed fun us=> ?_;apply g0 (o:=r);obtain⟨o47,h60,h⟩:=bS h;refine gl (aAf none self hs us h60) ?_;exact lX h (lv [] [0,997])
theorem SD: ∀(n:Nat) (a1 a2 a3:Int) (w0 r:List Int),aH3 n a1 a2 a3 w0=some r->AL Tryz.prog 132 [.row 0,dI a1,dI a2,dI a3] [rW 0 56 1 dU w0] (.tup []) [rW 0 56 1 dU r]
 |0,a1,a2,a3,w0,r,h=>by simp [aH3]at h
 |n+1,a1,a2,a3,w0,r,h=>aJl _ (SD n) a1 a2 a3 w0 r h
theorem aRb(h:X9 cG cH cI cK=some cT):AL Tryz.prog 132 [.row 0,dI cG,dI cH,dI cI] [rW 0 56 1 dU cK] (.tup []) [rW 0 56 1 dU cT]:=SD 100000 cG cH cI cK cT h
theorem aQa(h:Q5 cK=some cT):AL Tryz.prog 93 [.row 0] [rW 0 56 1 dU cK] (.tup []) [rW 0 56 1 dU cT]:=by unfold Q5 at h;refine XG.call (ks:=[0]) mixed fun us=> ?_;apply g0 (o:=cT);refine gN 4 dU cK ?_;obtain⟨r1,h1,h⟩:=bS h;refine gC 9 (aJa h1) ?_;obtain⟨r2,h2,h⟩:=bS h;refine gG 10 (.cx false [(0,0)] [] (.tup []) [rW 0 56 1 dU r2]) (aRb h2) ?_;exact lX h (lv [] [0,997])
theorem aQz(h:Qw cK=some cT):AL Tryz.prog 93 [.row 0] [(0,.bag 56 1 (cK.map dU))] (.tup []) [rW 0 56 1 dU cT]:=
 AL.bagE (R:=fun _=> .tup []) (X':=fun cT=> [rW 0 56 1 dU cT]) (fun _ _ h=>aQa h) cT h
def RY(s1:List X2)(s6 s15:Int)(s16 s30:Int)(w2:AD)(w5:List (Int×Bool))(s31:Int)(w7:List (Int×Bool)):St:=⟨sp 65 0 [sD 1 (D.l X2.D) s1,bx 2,rx 5,sI 6 s6,rx 7,sI 15 s15,sI 16 s16,sI 30 s30,sI 31 s31],[cL 2 AD.D w2,(5,.mapS (ms dU D.b w5)),(7,.mapS (ms dU D.b w7))],[]⟩
def RZ(s1:List X2)(s6 s15:Int)(s16 s30:Int)(w2:AD)(w5:List (Int×Bool))(o:(List (Int×Bool))):Ex×St:=(.exit 2,⟨sp 65 0 [sD 1 (D.l X2.D) s1,bx 2,rx 5,rx 7,sI 15 s15,sI 16 s16],[cL 2 AD.D w2,(5,.mapS (ms dU D.b w5)),(7,.mapS (ms dU D.b o))],[]⟩)
theorem ZB(rd:Option Nat)(h:aJe cU cG cH cI cJ cV cW cX cY=some cZ):Lq 67 rd 59802 (RY cU cG cH cI cJ cV cW cX cY) ((RZ cU cG cH cI cJ cV cW) cZ):=
 lL (fun s:Int×(List (Int×Bool))=>RY cU cG cH cI cJ cV cW s.1 s.2) (RZ cU cG cH cI cJ cV cW) (cX,cY) (fun⟨cX,cY⟩ o h=>by
 unfold HU at h
 refine iB 32 h (fun h=> ?_) fun h=> ?_
 obtain⟨r3,h5,h⟩:=bS h
 refine gG 40 (.cx false [(0,7)] [(1,40)] (.row 1) [(1,.mapS (ms dU D.b r3))]) (aRn h5) ?_
 exact lB h [.live [1,2,5,6,7,15,16,30,31],.keep [2,5,40],.ren 40 7,.sort]
 exact lb h) h
def GE(clk:Nat)(es:List (Nat×Int×Bool))(s1:List X2)(s15 s16:Int)(w2:AD)(w7 w5:List (Int×Bool))(sn:List Nat):St:=⟨sp 65 0 [sD 1 (D.l X2.D) s1,bx 2,rx 5,sI 15 s15,sI 16 s16,bx 43],[cL 2 AD.D w2,(5,.mapS (ms dU D.b w5)),(7,.map clk (dl dU D.b es)),(43,.mit 7 clk sn)],[]⟩
def GF(clk:Nat)(es:List (Nat×Int×Bool))(s1:List X2)(s15 s16:Int)(w2:AD)(w7:List (Int×Bool))(o:(List (Int×Bool))):Ex×St:=(.exit 4,⟨sp 65 0 [sD 1 (D.l X2.D) s1,bx 2,rx 5,sI 15 s15,sI 16 s16],[cL 2 AD.D w2,(5,.mapS (ms dU D.b o))],[]⟩)
def aJg(clk:Nat)(es:List (Nat×Int×Bool))(s1:List X2)(s15 s16:Int)(w2:AD)(w7 w5:List (Int×Bool)):St:=⟨sp 65 0 [sD 1 (D.l X2.D) s1,bx 2,rx 5,sI 15 s15,sI 16 s16],[cL 2 AD.D w2,(5,.mapS (ms dU D.b w5))],[]⟩
set_option maxRecDepth 100000 in
theorem Rb(rd:Option Nat)(clk:Nat)(es:List (Nat×Int×Bool))(s1:List X2)(s15 s16:Int)(w2:AD)(w7:List (Int×Bool))(k:Int)(v:Bool)(w5:List (Int×Bool))(sn:List Nat)(st:Nat)(hm:(st,k,v)∈es)(o:(List (Int×Bool)))(h:HV s1 s15 s16 w2 w7 k v w5=some o):Mf Tryz.prog rd (EE Tryz.prog 67) [0,1,1,1,1,0,0,1,1,0,0,1,0,1,1] ((⟨(GE clk es s1 s15 s16 w2 w7 w5 sn).E,Bt (GE clk es s1 s15 s16 w2 w7 w5 sn).B 43 (.mit 7 clk (sn++[st])),[]⟩:St).put (some 44) (.tup [bo true,.d (dU k),.d (D.b v)])) fun zx zs=>zx= .normal/\Wk zs ((fun s:(List (Int×Bool))=>GE clk es s1 s15 s16 w2 w7 s (sn++[st])) o):=by unfold HV at h;obtain rfl:=si h;exact FL mixed [(46,.en (dU k) (D.b v)),(10048,.ms (ms dU D.b (F4 k true w5)))] [] [.live [1,2,5,15,16,43],.keep [2,5,7,43]] (ai (Nf (fk:=dU) (fv:=D.b) (clk:=clk) (sn:=sn) hm) (ai (Nm (aIn Tryz.underlying56) D.b w5 k true) (ti))) (by kernel_rfl)
set_option maxRecDepth 100000 in
theorem Ra(rd:Option Nat)(clk:Nat)(es:List (Nat×Int×Bool))(s1:List X2)(s15 s16:Int)(w2:AD)(w7 w5:List (Int×Bool))(sn:List Nat):Mf Tryz.prog rd (EE Tryz.prog 67) [0,1,1,1,1,0,0,1,1,0,0,1,0,1,1] ((GE clk es s1 s15 s16 w2 w7 w5 sn).put (some 44) (.tup [bo false])) fun zx zs=>zx=(GF clk es s1 s15 s16 w2 w7 (KJ s1 s15 s16 w2 w7 w5)).1/\Wk zs (GF clk es s1 s15 s16 w2 w7 (KJ s1 s15 s16 w2 w7 w5)).2:=by refine Mf.wk (e:= .exit 4) (s1:=aJg clk es s1 s15 s16 w2 w7 w5) (FL mixed [] [] [.live [1,2,5,15,16],.keep [2,5]] (ti) (by kernel_rfl)) ?_;exact(Wk.canS 5 (by kernel_rfl) rfl)
set_option maxRecDepth 100000 in
theorem ZC(rd:Option Nat)(clk:Nat)(es:List (Nat×Int×Bool))(s1:List X2)(s15 s16:Int)(w2:AD)(w7 w5:List (Int×Bool))(hp:(es.map (·.2)).Perm w7)(o:(List (Int×Bool)))(h:aJf s1 s15 s16 w2 w7 w5=some o):FT Tryz.prog rd (EE Tryz.prog 67) [0,1,1,1,1,0,0,1,1,0,0,1,0,1,1] (GE clk es s1 s15 s16 w2 w7 w5 []) ((GF clk es s1 s15 s16 w2 w7) o).1 ((GF clk es s1 s15 s16 w2 w7) o).2:=
 Nb (fk:=dU) (fv:=D.b) (step:=(fun(x:Int×Bool) (s:(List (Int×Bool)))=>HV s1 s15 s16 w2 w7 x.1 x.2 s)) (s0:=w5) 43 44 43 7 clk es (fun(sn:List Nat) (s:(List (Int×Bool)))=>GE clk es s1 s15 s16 w2 w7 s sn) (GF clk es s1 s15 s16 w2 w7) (by kernel_rfl) (Oz (by rfl)) (fun _ _=>by kernel_rfl) (fun _ _=>by kernel_rfl) (fun _ _=>by kernel_rfl) hp
  (fun sn s k v st a hm h=>Rb rd clk es s1 s15 s16 w2 w7 k v s sn st hm a h) (fun sn s hc=>hc▸Ra rd clk es s1 s15 s16 w2 w7 s sn) h
theorem YX(rd:Option Nat)(h:YW cU cG cH cV cW cY=some cZ):Lq 67 rd 14951 ⟨sp 65 0 [sD 1 (D.l X2.D) cU,bx 2,rx 5,rx 7,sI 15 cG,sI 16 cH],[cL 2 AD.D cV,(5,.mapS (ms dU D.b cW)),(7,.mapS (ms dU D.b cY))],[]⟩ (.normal,⟨sp 65 0 [sD 1 (D.l X2.D) cU,bx 2,rx 5,sI 15 cG,sI 16 cH],[cL 2 AD.D cV,(5,.mapS (ms dU D.b cZ))],[]⟩):=by unfold YW at h;obtain⟨o5,h7,h⟩:=bS h;obtain rfl:=si h;exact Arr.lp (Arr.exact (fk:=dU) (fv:=D.b) (S:=cY) 7 (by kernel_rfl) fun clk es hp=>F5 mixed [] [⟨[0,1,1,1,1,0,0,1,1,0,0,1,0,1,1],[.live [1,2,5,15,16,43],.keep [2,5,7,43]],.exit 4,(GF clk es cU cG cH cV cY o5).2⟩] [.live [1,2,5,15,16],.keep [2,5]] (ai (ZC rd clk es cU cG cH cV cY cW hp o5 h7) (ti)) (by kernel_rfl))
def RW(s1:List X2)(s15:Int)(w2:AD)(s16:Int)(w5:List (Int×Bool)):St:=⟨sp 65 0 [sD 1 (D.l X2.D) s1,bx 2,rx 5,sI 15 s15,sI 16 s16],[cL 2 AD.D w2,(5,.mapS (ms dU D.b w5))],[]⟩
def RX(s1:List X2)(s15:Int)(w2:AD)(o:(List (Int×Bool))):Ex×St:=(.exit 0,⟨sp 65 0 [rx 5],[(5,.mapS (ms dU D.b o))],[]⟩)
theorem ZA(rd:Option Nat)(h:aJd cU cG cV cH cW=some cZ):Lq 67 rd 58 (RW cU cG cV cH cW) ((RX cU cG cV) cZ):=
 lL (fun s:Int×(List (Int×Bool))=>RW cU cG cV s.1 s.2) (RX cU cG cV) (cH,cW) (fun⟨cH,cW⟩ o h=>by
 unfold HT at h
 refine iB 17 h (fun h=> ?_) fun h=> ?_
 refine gW 19 .frz ?_
 obtain⟨r1,h2,h⟩:=bS h
 refine gC 22 (aSk h2)<|gQ (Nm (aIn Tryz.underlying56) D.b ([]:List (Int×Bool)) r1 true)<|gW 10019 (.ms (ms dU D.b (F4 r1 true ([]:List (Int×Bool)))))<|xX 27 Xd.D h fun x2 h=> ?_
 refine gN 30 dZ x2.types ?_
 obtain⟨o4,h6,h⟩:=bS h
 refine gL [.live [1,2,5,6,7,15,16,30,31],.keep [2,5,19],.ren 19 7,.sort] (ZB rd h6) ?_
 obtain⟨o6,h8,h⟩:=bS h
 refine gl (YX rd h8) ?_
 exact lb h
 exact lb h) h
def GG(clk:Nat)(es:List (Nat×Int×Bool))(w5:List (Int×Bool))(w10:List Int)(sn:List Nat):St:=⟨sp 65 0 [rx 10,bx 53],[(5,.map clk (dl dU D.b es)),rW 10 56 1 dU w10,(53,.mit 5 clk sn)],[]⟩
def GH(clk:Nat)(es:List (Nat×Int×Bool))(w5:List (Int×Bool))(o:List Int):Ex×St:=(.exit 6,⟨sp 65 0 [rx 10],[(10,.bag 56 1 (o.map dU))],[]⟩)
def aJi(clk:Nat)(es:List (Nat×Int×Bool))(w5:List (Int×Bool))(w10:List Int):St:=⟨sp 65 0 [rx 10],[rW 10 56 1 dU w10],[]⟩
set_option maxRecDepth 100000 in
theorem Rf(rd:Option Nat)(clk:Nat)(es:List (Nat×Int×Bool))(w5:List (Int×Bool))(k:Int)(v:Bool)(w10:List Int)(sn:List Nat)(st:Nat)(hm:(st,k,v)∈es)(o:List Int)(h:FW w5 k v w10=some o):Mf Tryz.prog rd (EE Tryz.prog 67) [0,1,0,1,1,1,1,1] ((⟨(GG clk es w5 w10 sn).E,Bt (GG clk es w5 w10 sn).B 53 (.mit 5 clk (sn++[st])),[]⟩:St).put (some 54) (.tup [bo true,.d (dU k),.d (D.b v)])) fun zx zs=>zx= .normal/\Wk zs ((fun s:List Int=>GG clk es w5 s (sn++[st])) o):=by unfold FW at h;obtain⟨h10,h⟩:=cS h;obtain rfl:=si h;exact FL mixed [(56,.en (dU k) (D.b v)),(61,.rwl ((w10++[k]).map dU))] [] [.live [10,53],.keep [5,53,61],.ren 61 10,.sort] (ai (Nf (fk:=dU) (fv:=D.b) (clk:=clk) (sn:=sn) hm) (ai (Ar dU [k]) (ai (Ar dU [k]) (ai (A6 dU h10) (ai (A5 dU w10 [k]) (ti)))))) (by kernel_rfl)
set_option maxRecDepth 100000 in
theorem Re(rd:Option Nat)(clk:Nat)(es:List (Nat×Int×Bool))(w5:List (Int×Bool))(w10:List Int)(sn:List Nat):Mf Tryz.prog rd (EE Tryz.prog 67) [0,1,0,1,1,1,1,1] ((GG clk es w5 w10 sn).put (some 54) (.tup [bo false])) fun zx zs=>zx=(GH clk es w5 (Mm w5 w10)).1/\Wk zs (GH clk es w5 (Mm w5 w10)).2:=by refine Mf.wk (e:= .exit 6) (s1:=aJi clk es w5 w10) (FL mixed [] [] [.live [10],.keep [10]] (ti) (by kernel_rfl)) ?_;exact(Wk.canB 10 (EB _).symm (by kernel_rfl) rfl)
set_option maxRecDepth 100000 in
theorem ZD(rd:Option Nat)(clk:Nat)(es:List (Nat×Int×Bool))(w5:List (Int×Bool))(w10:List Int)(hp:(es.map (·.2)).Perm w5)(o:List Int)(h:aJh w5 w10=some o):FT Tryz.prog rd (EE Tryz.prog 67) [0,1,0,1,1,1,1,1] (GG clk es w5 w10 []) ((GH clk es w5) o).1 ((GH clk es w5) o).2:=
 Nb (fk:=dU) (fv:=D.b) (step:=(fun(x:Int×Bool) (s:List Int)=>FW w5 x.1 x.2 s)) (s0:=w10) 53 54 53 5 clk es (fun(sn:List Nat) (s:List Int)=>GG clk es w5 s sn) (GH clk es w5) (by kernel_rfl) (Oz (by rfl)) (fun _ _=>by kernel_rfl) (fun _ _=>by kernel_rfl) (fun _ _=>by kernel_rfl) hp
  (fun sn s k v st a hm h=>Rf rd clk es w5 k v s sn st hm a h) (fun sn s hc=>hc▸Re rd clk es w5 s sn) h
theorem YZ(rd:Option Nat)(h:YY cW=some d3):Lq 67 rd 126 ⟨sp 65 0 [rx 5,(10,.nil)],[(5,.mapS (ms dU D.b cW))],[]⟩ (.normal,⟨sp 65 0 [rx 10],[(10,.bag 56 1 (d3.map dU))],[]⟩):=by unfold YY at h;obtain⟨o8,h11,h⟩:=bS h;obtain rfl:=si h;exact Arr.lp (Arr.exact (fk:=dU) (fv:=D.b) (S:=cW) 5 (by kernel_rfl) fun clk es hp=>F5 mixed [] [⟨[0,1,0,1,1,1,1,1],[.live [10,53],.keep [5,53],.nilw 10 10 56 1,.sort],.exit 6,(GH clk es cW o8).2⟩] [.live [10],.keep [10]] (ai (ZD rd clk es cW ([]:List Int) hp o8 h11) (ti)) (by kernel_rfl))
theorem aQ7(h:X4 cV cU=some cK):AL Tryz.prog 67 [.d (AD.D cV),.d ((D.l X2.D) cU)] [] (.d ((D.l dU) cK)) []:=by unfold X4 at h;apply g0 (o:=cK);refine gN 15 Xd.D cV.decls<|gW 12 .frz ?_;obtain⟨o7,h9,h⟩:=bS h;refine gL [.live [1,2,5,15,16],.keep [2,12],.ren 12 5,.sort] (ZA none h9)<|gQ (aL6 (aIn Tryz.underlying56) D.b o7 0)<|gW 10051 (.ms (ms dU D.b (NL 0 o7))) ?_;obtain⟨o9,h12,h⟩:=bS h;refine gl (YZ none h12) ?_;obtain⟨r10,h13,h⟩:=bS h;refine gG 63 (.cx true [(0,10)] [] (.tup []) [rW 0 56 1 dU r10]) (aQz h13) ?_;exact lF h [.frz 10]
theorem aQ0(h:Qx cG=some d4):AL Tryz.prog 40 [.d (dW cG)] [] (.d (D.b d4)) []:=by unfold Qx at h;apply g0 (o:=d4);exact lf h
theorem OA(rd:Option Nat)(h:SY cG cH cI cJ cX d5 d6 d7 d8 d9 dA d4 cV dB dC=some dD):Lq 69 rd 15310131 ⟨sp 69 0 [sD 1 dW cG,sD 2 dU cH,bx 3,sD 7 dW cI,sI 8 cJ,bx 9,sD 10 dW cX,bx 12,sD 14 (D.l Xb.D) d5,sI 15 d6,sI 16 d7,sD 28 (D.l Xc.D) d8,sI 29 d9,sI 30 dA,sD 46 D.b d4],[cL 3 AD.D cV,cL 9 Xb.D dB,cL 12 Xc.D dC],[]⟩ (.normal,⟨sp 69 0 [sD 1 dW cG,sD 2 dU cH,bx 3,sD 7 dW cI,sI 8 cJ,bx 9,sD 10 dW dD,sD 14 (D.l Xb.D) d5,sI 15 d6,sI 16 d7,sD 28 (D.l Xc.D) d8,sI 29 d9,sI 30 dA],[cL 3 AD.D cV,cL 9 Xb.D dB],[]⟩):=by unfold SY at h;apply g0 (o:=dD);cases d4;replace h:=CF h;exact lp h;replace h:=CG h;obtain⟨h10,h⟩:=cS h;refine gQ h10 ?_;exact lp h
theorem aAt(rd:Option Nat)(h:aAs cG cH cI cJ cX d5 d6 d7 d8 d9 dA cV dB=some dD):Lq 69 rd 1913766 ⟨sp 69 0 [sD 1 dW cG,sD 2 dU cH,bx 3,sD 7 dW cI,sI 8 cJ,bx 9,sD 10 dW cX,sD 14 (D.l Xb.D) d5,sI 15 d6,sI 16 d7,sD 28 (D.l Xc.D) d8,sI 29 d9,sI 30 dA],[cL 3 AD.D cV,cL 9 Xb.D dB],[]⟩ (.normal,⟨sp 69 0 [sD 1 dW cG,sD 2 dU cH,bx 3,sD 7 dW cI,sI 8 cJ,bx 9,sD 10 dW dD,sD 14 (D.l Xb.D) d5,sI 15 d6,sI 16 d7,sD 28 (D.l Xc.D) d8,sI 29 d9,sI 30 dA],[cL 3 AD.D cV,cL 9 Xb.D dB],[]⟩):=by unfold aAs at h;apply g0 (o:=dD);refine xX 32 Xc.D h fun x2 h=> ?_;refine iB 38 h (fun h=> ?_) fun h=> ?_;obtain⟨h8,h⟩:=cS h;refine gQ h8 ?_;obtain⟨o3,h11,h⟩:=bS h;refine gl (OA rd h11) ?_;exact lp h;obtain⟨o4,h12,h⟩:=bS h;refine gl (OA rd h12) ?_;exact lp h
def Sb(s1 s2:Int)(s7 s8:Int)(s14:List Xb)(s15 s16:Int)(s28:List Xc)(s29:Int)(w3:AD)(w9:Xb)(s10 s30:Int):St:=⟨sp 69 0 [sD 1 dW s1,sD 2 dU s2,bx 3,sD 7 dW s7,sI 8 s8,bx 9,sD 10 dW s10,sD 14 (D.l Xb.D) s14,sI 15 s15,sI 16 s16,sD 28 (D.l Xc.D) s28,sI 29 s29,sI 30 s30],[cL 3 AD.D w3,cL 9 Xb.D w9],[]⟩
def Sc(s1 s2:Int)(s7 s8:Int)(s14:List Xb)(s15 s16:Int)(s28:List Xc)(s29:Int)(w3:AD)(w9:Xb)(o:Int):Ex×St:=(.exit 2,⟨sp 69 0 [sD 1 dW s1,sD 2 dU s2,bx 3,sD 7 dW s7,sI 8 s8,bx 9,sD 10 dW o,sD 14 (D.l Xb.D) s14,sI 15 s15,sI 16 s16],[cL 3 AD.D w3,cL 9 Xb.D w9],[]⟩)
theorem aAw(rd:Option Nat)(h:aAv cG cH cI cJ d5 cX d6 d8 d7 cV dB d9 dA=some dD):Lq 69 rd 119610 (Sb cG cH cI cJ d5 cX d6 d8 d7 cV dB d9 dA) ((Sc cG cH cI cJ d5 cX d6 d8 d7 cV dB) dD):=
 lL (fun s:Int×Int=>Sb cG cH cI cJ d5 cX d6 d8 d7 cV dB s.1 s.2) (Sc cG cH cI cJ d5 cX d6 d8 d7 cV dB) (d9,dA) (fun⟨d9,dA⟩ o h=>by
 unfold Hk at h
 refine iB 31 h (fun h=> ?_) fun h=> ?_
 obtain⟨o5,h13,h⟩:=bS h
 refine gl (aAt rd h13) ?_
 exact lb h
 exact lb h) h
theorem OB(rd:Option Nat)(h:Mx cG cH cI cJ cX d5 d6 d7 d4 cV=some d9):Lq 69 rd 119613 ⟨sp 69 0 [sD 1 dW cG,sD 2 dU cH,bx 3,sD 7 dW cI,sI 8 cJ,sD 10 dW cX,sD 14 (D.l Xb.D) d5,sI 15 d6,sI 16 d7,sD 60 D.b d4],[cL 3 AD.D cV],[]⟩ (.normal,⟨sp 69 0 [sD 1 dW cG,sD 2 dU cH,bx 3,sD 7 dW cI,sD 10 dW d9,sD 14 (D.l Xb.D) d5,sI 15 d6,sI 16 d7],[cL 3 AD.D cV],[]⟩):=by unfold Mx at h;apply g0 (o:=d9);cases d4;replace h:=CF h;exact lp h;replace h:=CG h;obtain⟨h17,h⟩:=cS h;refine gQ h17 ?_;exact lp h
theorem aAr(rd:Option Nat)(h:aAq cG cH cI d5 cJ cX cV=some d6):Lq 69 rd 934 ⟨sp 69 0 [sD 1 dW cG,sD 2 dU cH,bx 3,sD 7 dW cI,sD 14 (D.l Xb.D) d5,sI 15 cJ,sI 16 cX],[cL 3 AD.D cV],[]⟩ (.normal,⟨sp 69 0 [sD 1 dW cG,sD 2 dU cH,bx 3,sD 7 dW d6,sD 14 (D.l Xb.D) d5,sI 15 cJ,sI 16 cX],[cL 3 AD.D cV],[]⟩):=by unfold aAq at h;apply g0 (o:=d6);refine xX 19 Xb.D h fun x1 h=> ?_;obtain⟨h3,h⟩:=cS h;refine gQ h3 ?_;refine iB 26 h (fun h=> ?_) fun h=> ?_;exact lp h;refine gN 29 Xc.D cV.trans ?_;obtain⟨o6,h14,h⟩:=bS h;refine gl (aAw rd h14) ?_;refine iB 56 h (fun h=> ?_) fun h=> ?_;obtain⟨o7,h18,h⟩:=bS h;refine gl (OB rd h18) ?_;exact lp h;obtain⟨o8,h19,h⟩:=bS h;refine gl (OB rd h19) ?_;exact lp h
def SZ(s1 s2:Int)(s14:List Xb)(s15:Int)(w3:AD)(s7 s16:Int):St:=⟨sp 69 0 [sD 1 dW s1,sD 2 dU s2,bx 3,sD 7 dW s7,sD 14 (D.l Xb.D) s14,sI 15 s15,sI 16 s16],[cL 3 AD.D w3],[]⟩
def Sa(s1 s2:Int)(s14:List Xb)(s15:Int)(w3:AD)(o:Int):Ex×St:=(.exit 0,⟨sp 69 0 [sD 7 dW o],[],[]⟩)
theorem aAu(rd:Option Nat)(h:aJt cG cH d5 cI cV cJ cX=some d6):Lq 69 rd 58 (SZ cG cH d5 cI cV cJ cX) ((Sa cG cH d5 cI cV) d6):=
 lL (fun s:Int×Int=>SZ cG cH d5 cI cV s.1 s.2) (Sa cG cH d5 cI cV) (cJ,cX) (fun⟨cJ,cX⟩ o h=>by
 unfold GQ at h
 refine iB 17 h (fun h=> ?_) fun h=> ?_
 obtain⟨o9,h20,h⟩:=bS h
 refine gl (aAr rd h20) ?_
 exact lb h
 exact lb h) h
theorem aRf(h:Xf cV cG cH=some cI):AL Tryz.prog 69 [.d (AD.D cV),.d (dW cG),.d (dU cH)] [] (.d (dW cI)) []:=by unfold Xf at h;apply g0 (o:=cI);refine gN 15 Xb.D cV.states ?_;obtain⟨o10,h21,h⟩:=bS h;refine gl (aAu none h21) ?_;exact lf h
theorem aCt(rd:Option Nat)(us:List Value)(h:aCs cK cG cH cI cT cJ cX d4 cV dE dF dG=some dH):Lq 39 rd 58346703 ⟨sp 84 0 [(3,.clo (.func 40) [] []),bx 4,rx 8,rx 9,rx 10,sD 11 (D.l dU) cK,sI 12 cG,sD 14 dU cH,sD 15 dW cI,sD 44 (D.l dU) cT,sI 45 cJ,sI 46 cX,sD 64 D.b d4],[cL 4 AD.D cV,rW 8 32 1 dW dE,(9,.map dF.clk (MP.dl dW dW dF)),(10,.map dG.clk (MP.dl dW dU dG)),(997,.vals [] us)],[]⟩ (.normal,⟨sp 84 0 [(3,.clo (.func 40) [] []),bx 4,rx 8,rx 9,rx 10,sD 11 (D.l dU) cK,sI 12 cG,sD 44 (D.l dU) cT,sI 45 cJ,sI 46 cX],[cL 4 AD.D cV,rW 8 32 1 dW dH.1,(9,.map dH.2.1.clk (MP.dl dW dW dH.2.1)),(10,.map dH.2.2.clk (MP.dl dW dU dH.2.2)),(997,.vals [] us)],[]⟩):=by unfold aCs at h;apply g0 (o:=dH);cases d4;replace h:=CF h;exact lp h;replace h:=CG h;refine gW 74 (.me (Gs 0 dF cI).clk (MP.dl dW dW (Gs 0 dF cI)) (dW (aUy 0 dF cI)) (Ng 0 dF cI))<|gW 10067 (.mp (EV dG cI cH).clk (MP.dl dW dU (EV dG cI cH)))<|gW 79 (.rwl ((dE++[cI]).map dW)) ?_;obtain⟨h14,h⟩:=cS h;refine gQ h14.1<|gQ (AF dW h14.2) ?_;obtain⟨x7,h15,h⟩:=xS h;refine gG 72 (.el (dW x7)) (AG dW h15)<|gW 10075 (.mp (QN (Gs 0 dF cI) ((Ng 0 dF cI:Nat):Int) x7).clk (MP.dl dW dW (QN (Gs 0 dF cI) ((Ng 0 dF cI:Nat):Int) x7))) ?_;obtain⟨h16,h⟩:=cS h;refine gQ (aMm (aIn Tryz.underlying32) dW 0 dF cI h16) ?_;obtain⟨h17,h⟩:=cS h;refine gQ (aMo dW dW (Gs 0 dF cI) ((Ng 0 dF cI:Nat):Int) x7 h17)<|gQ (Wz (aIn Tryz.underlying32) dU dG cI cH)<|gQ (Ar dW [cI])<|gQ (Ar dW [cI]) ?_;obtain⟨h18,h⟩:=cS h;refine gQ (A6 dW h18)<|gQ (A5 dW dE [cI]) ?_;exact lP h [.live [3,4,8,9,10,11,12,44,45,46],.keep [4,9,10,79,997],.ren 79 8,.sort]
theorem aCr(rd:Option Nat)(us:List Value)(h:aCq cK cG cT cH cI cV dE dF dG=some dH):Lq 39 rd 1823334 ⟨sp 84 0 [(3,.clo (.func 40) [] []),bx 4,rx 8,rx 9,rx 10,sD 11 (D.l dU) cK,sI 12 cG,sD 44 (D.l dU) cT,sI 45 cH,sI 46 cI],[cL 4 AD.D cV,rW 8 32 1 dW dE,(9,.map dF.clk (MP.dl dW dW dF)),(10,.map dG.clk (MP.dl dW dU dG)),(997,.vals [] us)],[]⟩ (.normal,⟨sp 84 0 [(3,.clo (.func 40) [] []),bx 4,rx 8,rx 9,rx 10,sD 11 (D.l dU) cK,sI 12 cG,sD 44 (D.l dU) cT,sI 45 cH,sI 46 cI],[cL 4 AD.D cV,rW 8 32 1 dW dH.1,(9,.map dH.2.1.clk (MP.dl dW dW dH.2.1)),(10,.map dH.2.2.clk (MP.dl dW dU dH.2.2)),(997,.vals [] us)],[]⟩):=by unfold aCq at h;apply g0 (o:=dH);refine xX 48 dU h fun x4 h=> ?_;obtain⟨h10,h⟩:=cS h;refine gQ h10.1<|gQ (AF dW h10.2) ?_;obtain⟨x5,h11,h⟩:=xS h;refine gG 54 (.el (dW x5)) (AG dW h11) ?_;obtain⟨r6,h12,h⟩:=bS h;refine gC 56 (aRf h12)<|gG 60 (.mg (dW (Ja 0 dF r6).1) (Ja 0 dF r6).2) (aMn (aIn Tryz.underlying32) dW 0 dF r6) ?_;obtain⟨o8,h19,h⟩:=bS h;refine gl (aCt rd us h19) ?_;exact lp h
def Tw(us:List Value)(s11:List Int)(s12:Int)(s44:List Int)(s45:Int)(w4:AD)(s46:Int)(w8:List Int)(w9 w10:MP Int Int):St:=⟨sp 84 0 [(3,.clo (.func 40) [] []),bx 4,rx 8,rx 9,rx 10,sD 11 (D.l dU) s11,sI 12 s12,sD 44 (D.l dU) s44,sI 45 s45,sI 46 s46],[cL 4 AD.D w4,rW 8 32 1 dW w8,(9,.map w9.clk (MP.dl dW dW w9)),(10,.map w10.clk (MP.dl dW dU w10)),(997,.vals [] us)],[]⟩
def Tx(us:List Value)(s11:List Int)(s12:Int)(s44:List Int)(s45:Int)(w4:AD)(o:(List Int×MP Int Int×MP Int Int)):Ex×St:=(.exit 2,⟨sp 84 0 [(3,.clo (.func 40) [] []),bx 4,rx 8,rx 9,rx 10,sD 11 (D.l dU) s11,sI 12 s12],[cL 4 AD.D w4,rW 8 32 1 dW o.1,(9,.map o.2.1.clk (MP.dl dW dW o.2.1)),(10,.map o.2.2.clk (MP.dl dW dU o.2.2)),(997,.vals [] us)],[]⟩)
theorem aCv(rd:Option Nat)(us:List Value)(h:aJ8 cK cG cT cH cV cI dE dF dG=some dH):Lq 39 rd 113958 (Tw us cK cG cT cH cV cI dE dF dG) ((Tx us cK cG cT cH cV) dH):=
 lL (fun s:Int×List Int×MP Int Int×MP Int Int=>Tw us cK cG cT cH cV s.1 s.2.1 s.2.2.1 s.2.2.2) (Tx us cK cG cT cH cV) (cI,dE,dF,dG) (fun⟨cI,dE,dF,dG⟩ o h=>by
 unfold H6 at h
 refine iB 47 h (fun h=> ?_) fun h=> ?_
 obtain⟨o9,h20,h⟩:=bS h
 refine gl (aCr rd us h20) ?_
 exact lb h
 exact lb h) h
def Tu(us:List Value)(s11:List Int)(w4:AD)(s12:Int)(w8:List Int)(w9 w10:MP Int Int):St:=⟨sp 84 0 [(3,.clo (.func 40) [] []),bx 4,rx 8,rx 9,rx 10,sD 11 (D.l dU) s11,sI 12 s12],[cL 4 AD.D w4,rW 8 32 1 dW w8,(9,.map w9.clk (MP.dl dW dW w9)),(10,.map w10.clk (MP.dl dW dU w10)),(997,.vals [] us)],[]⟩
def Tv(us:List Value)(s11:List Int)(w4:AD)(o:(List Int×MP Int Int×MP Int Int)):Ex×St:=(.exit 0,⟨sp 84 0 [rx 8,rx 9,rx 10],[rW 8 32 1 dW o.1,(9,.map o.2.1.clk (MP.dl dW dW o.2.1)),(10,.map o.2.2.clk (MP.dl dW dU o.2.2)),(997,.vals [] us)],[]⟩)
theorem aCu(rd:Option Nat)(us:List Value)(h:aJ7 cK cV cG cT dF dG=some dH):Lq 39 rd 890 (Tu us cK cV cG cT dF dG) ((Tv us cK cV) dH):=
 lL (fun s:Int×List Int×MP Int Int×MP Int Int=>Tu us cK cV s.1 s.2.1 s.2.2.1 s.2.2.2) (Tv us cK cV) (cG,cT,dF,dG) (fun⟨cG,cT,dF,dG⟩ o h=>by
 unfold H5 at h
 refine gN 30 dW cT ?_
 refine iB 31 h (fun h=> ?_) fun h=> ?_
 obtain⟨h3,h⟩:=cS h
 refine gQ h3.1<|gQ (AF dW h3.2) ?_
 obtain⟨x2,h4,h⟩:=xS h
 refine gG 38 (.el (dW x2)) (AG dW h4) ?_
 obtain⟨r3,h5,h⟩:=bS h
 refine gQ (aQ0 h5) ?_
 cases r3
 replace h:=CF h
 refine gN 45 dU cK<|gW 39 (.ret (.d (D.b false))) ?_
 obtain⟨o10,h21,h⟩:=bS h
 refine gl (aCv rd us h21) ?_
 exact lb h
 replace h:=CG h
 refine gW 39 (.ret (.d (D.b true)))<|gW 43 (.sl ((cT.take ((AA .add .i64 cG 1)).toNat).map dW)) ?_
 obtain⟨h7,h⟩:=cS h
 refine gQ h7.1<|gQ (aT4 dW h7.2)<|gQ (aO2 dW cT (AA .add .i64 cG 1)) ?_
 exact lB h [.live [8,9,10],.keep [9,10,43,997],.ren 43 8,.sort]
 exact lb h) h
theorem aR0(h:Xw cV cU cG=some dJ):AL Tryz.prog 39 [.d (AD.D cV),.d ((D.l X2.D) cU),.d (dW cG),.clo (.func 40) [] []] [] (.tup [.row 0,.row 1,.row 2]) [rW 0 32 1 dW dJ.1,(1,.map dJ.2.1.clk (MP.dl dW dW dJ.2.1)),(2,.map dJ.2.2.clk (MP.dl dW dU dJ.2.2))]:=by unfold Xw at h;refine XG.call (ks:=[]) mixed fun us=> ?_;apply g0 (o:=dJ);refine gW 22 .frz<|gW 10023 (.mp (EV (Gt:MP Int Int) cG cG).clk (MP.dl dW dW (EV (Gt:MP Int Int) cG cG))) ?_;obtain⟨r1,h1,h⟩:=bS h;refine gC 20 (aQ7 h1)<|gQ (Ar dW [cG])<|gQ (Wz (aIn Tryz.underlying32) dW (Gt:MP Int Int) cG cG) ?_;obtain⟨o11,h22,h⟩:=bS h;refine gL [.live [3,4,8,9,10,11,12],.keep [4,22,23,27,997],.ren 22 8,.ren 23 9,.ren 27 10,.sort] (aCu none us h22) ?_;exact lX h [.live [8,9,10],.keep [8,9,10,997],.ren 8 0,.ren 9 1,.ren 10 2,.sort]
theorem D7(h:Q4 cG=some d4):AL Tryz.prog 139 [.d (dW cG)] [] (.d (D.b d4)) []:=by unfold Q4 at h;apply g0 (o:=d4);exact lf h
theorem AS(h:Y6 cG cH=some d4):AL Tryz.prog 103 [.d (dW cG),.d (dW cH)] [] (.d (D.b d4)) []:=by unfold Y6 at h;apply g0 (o:=d4);obtain⟨r1,h1,h⟩:=bS h;refine gQ (D7 h1) ?_;cases r1;replace h:=CF h;refine gW 6 (.ret (.d (D.b false))) ?_;exact lf h;replace h:=CG h;refine gW 6 (.ret (.d (D.b true))) ?_;obtain⟨r2,h3,h⟩:=bS h;refine gC 9 (D7 h3) ?_;refine iB 12 h (fun h=> ?_) fun h=> ?_;exact lf h;exact lf h
def Be(us:List Value)(s1 s2:Int)(s6 s7:Int)(w0:List Int):St:=⟨sp 49 0 [rx 0,sI 1 s1,sI 2 s2,sI 6 s6,sI 7 s7],[rW 0 32 1 dW w0,(997,.vals [.row 0] us)],[]⟩
def Bf(us:List Value)(s1 s2 s6:Int)(o:(List Int)):Ex×St:=(.exit 2,⟨sp 49 0 [rx 0,sI 1 s1,sI 2 s2,sI 6 s6],[rW 0 32 1 dW o,(997,.vals [.row 0] us)],[]⟩)
theorem Cp(rd:Option Nat)(us:List Value)(h:Pl cG cH cI cJ cK=some d3):Lq 97 rd 402 (Be us cG cH cI cJ cK) ((Bf us cG cH cI) d3):=
 lL (fun s:Int×List Int=>Be us cG cH cI s.1 s.2) (Bf us cG cH cI) (cJ,cK) (fun⟨cJ,cK⟩ o h=>by
 unfold El at h
 refine iB 19 h (fun h=> ?_) fun h=> ?_
 obtain⟨h3,h⟩:=cS h
 refine gQ h3.1<|gQ (AF dW h3.2) ?_
 obtain⟨x1,h4,h⟩:=xS h
 refine gG 23 (.el (dW x1)) (AG dW h4) ?_
 obtain⟨h5,h⟩:=cS h
 refine gQ h5.1<|gQ (AF dW h5.2) ?_
 obtain⟨x2,h6,h⟩:=xS h
 refine gG 28 (.el (dW x2)) (AG dW h6) ?_
 obtain⟨r3,h7,h⟩:=bS h
 refine gQ (AS h7) ?_
 cases r3
 replace h:=CF h
 refine gW 29 (.ret (.d (D.b false))) ?_
 exact lb h
 replace h:=CG h
 refine gW 29 (.ret (.d (D.b true))) ?_
 obtain⟨h9,h⟩:=cS h
 refine gQ h9.1<|gQ (AF dW h9.2) ?_
 obtain⟨x4,h10,h⟩:=xS h
 refine gG 42 (.el (dW x4)) (AG dW h10)<|gW 10047 (.sl ((cK.set cJ.toNat x4).map dW)) ?_
 obtain⟨h11,h⟩:=cS h
 refine gQ h11.1<|gQ (AF dW h11.2) ?_
 obtain⟨x5,h12,h⟩:=xS h
 refine gG 46 (.el (dW x5)) (AG dW h12)<|gW 10048 (.sl (((cK.set cJ.toNat x4).set (AA .sub .i64 cJ 1).toNat x5).map dW)) ?_
 obtain⟨h13,h⟩:=cS h
 refine gQ h13.1<|gQ (AF dW h13.2) ?_
 obtain⟨h14,h⟩:=cS h
 refine gQ (A9 dW h14)<|gQ (AT dW cK cJ x4) ?_
 obtain⟨h15,h⟩:=cS h
 refine gQ h15.1<|gQ (AF dW h15.2) ?_
 obtain⟨h16,h⟩:=cS h
 refine gQ (A9 dW h16)<|gQ (AT dW (cK.set cJ.toNat x4) (AA .sub .i64 cJ 1) x5) ?_
 exact lb h
 exact lb h) h
def Bb(us:List Value)(s1 s2 s6:Int)(w0:List Int):St:=⟨sp 49 0 [rx 0,sI 1 s1,sI 2 s2,sI 6 s6],[rW 0 32 1 dW w0,(997,.vals [.row 0] us)],[]⟩
def Bc(us:List Value)(s1 s2:Int)(o:(List Int)):Ex×St:=(.exit 0,⟨sp 49 0 [],[rW 0 32 1 dW o,(997,.vals [.row 0] us)],[]⟩)
theorem Co(rd:Option Nat)(us:List Value)(h:Pk cG cH cI cK=some d3):Lq 97 rd 6 (Bb us cG cH cI cK) ((Bc us cG cH) d3):=
 lL (fun s:Int×List Int=>Bb us cG cH s.1 s.2) (Bc us cG cH) (cI,cK) (fun⟨cI,cK⟩ o h=>by
 unfold Ga at h
 refine iB 12 h (fun h=> ?_) fun h=> ?_
 obtain⟨o6,h17,h⟩:=bS h
 refine gl (Cp rd us h17) ?_
 exact lb h
 exact lb h) h
theorem C6(h:Xu cG cH cK=some cT):AL Tryz.prog 97 [.row 0,dI cG,dI cH] [rW 0 32 1 dW cK] (.tup []) [rW 0 32 1 dW cT]:=by unfold Xu at h;refine XG.call (ks:=[0]) mixed fun us=> ?_;apply g0 (o:=cT);obtain⟨o7,h18,h⟩:=bS h;refine gl (Co none us h18) ?_;exact lX h (lv [] [0,997])
theorem Bz(rd:Option Nat)(us:List Value)(h:KO cG cH cI cJ d4 cK=some cX):Lq 134 rd 397 ⟨sp 76 0 [rx 0,sI 2 cG,sI 3 cH,sI 8 cI,sI 9 cJ,sD 36 D.b d4],[rW 0 32 1 dW cK,(997,.vals [.row 0] us)],[]⟩ (.normal,⟨sp 76 0 [rx 0,sI 2 cG,sI 3 cH,sI 8 cI,sI 9 cX],[rW 0 32 1 dW cK,(997,.vals [.row 0] us)],[]⟩):=by unfold KO at h;apply g0 (o:=cX);cases d4;replace h:=CF h;exact lp h;replace h:=CG h;exact lp h
theorem DF(rd:Option Nat)(us:List Value)(h:JT cG cH cI cK=some dK):Lq 134 rd 12 ⟨sp 76 0 [rx 0,sI 2 cG,sI 3 cH,sI 8 cI],[rW 0 32 1 dW cK,(997,.vals [.row 0] us)],[]⟩ (match (generalizing:=false) dK with
 | .inl dK=>(.normal,⟨sp 76 0 [rx 0,sI 2 cG,sI 3 cH,sI 8 dK.1],[rW 0 32 1 dW dK.2,(997,.vals [.row 0] us)],[]⟩)
 | .inr dK=>match (generalizing:=false) dK with
 | .inl dK=>(.exit 0,⟨sp 76 0 [],[rW 0 32 1 dW cK,(997,.vals [.row 0] us)],[]⟩)
 | .inr dK=>(.ret,⟨sp 76 0 [],[rW 0 32 1 dW cK,(997,.vals [.row 0] us)],[]⟩)):=by
 unfold JT at h
 apply g0 (o:=dK)
 refine iB 16 h (fun h=> ?_) fun h=> ?_
 exact lp h
 refine iB 21 h (fun h=> ?_) fun h=> ?_
 obtain⟨h3,h⟩:=cS h
 refine gQ h3.1<|gQ (AF dW h3.2) ?_
 obtain⟨x1,h4,h⟩:=xS h
 refine gG 27 (.el (dW x1)) (AG dW h4) ?_
 obtain⟨h5,h⟩:=cS h
 refine gQ h5.1<|gQ (AF dW h5.2) ?_
 obtain⟨x2,h6,h⟩:=xS h
 refine gG 34 (.el (dW x2)) (AG dW h6) ?_
 obtain⟨r3,h7,h⟩:=bS h
 refine gC 35 (AS h7) ?_
 obtain⟨o4,h9,h⟩:=bS h
 refine gl (Bz rd us h9) ?_
 obtain⟨h10,h⟩:=cS h
 refine gQ h10.1<|gQ (AF dW h10.2) ?_
 obtain⟨x5,h11,h⟩:=xS h
 refine gG 44 (.el (dW x5)) (AG dW h11) ?_
 obtain⟨h12,h⟩:=cS h
 refine gQ h12.1<|gQ (AF dW h12.2) ?_
 obtain⟨x6,h13,h⟩:=xS h
 refine gG 50 (.el (dW x6)) (AG dW h13) ?_
 obtain⟨r7,h14,h⟩:=bS h
 refine gC 51 (AS h14) ?_
 refine iB 52 h (fun h=> ?_) fun h=> ?_
 exact lp h
 obtain⟨h16,h⟩:=cS h
 refine gQ h16.1<|gQ (AF dW h16.2) ?_
 obtain⟨x8,h17,h⟩:=xS h
 refine gG 66 (.el (dW x8)) (AG dW h17)<|gW 10073 (.sl ((cK.set (AA .add .i64 cH cI).toNat x8).map dW)) ?_
 obtain⟨h18,h⟩:=cS h
 refine gQ h18.1<|gQ (AF dW h18.2) ?_
 obtain⟨x9,h19,h⟩:=xS h
 refine gG 72 (.el (dW x9)) (AG dW h19)<|gW 10074 (.sl (((cK.set (AA .add .i64 cH cI).toNat x8).set (AA .add .i64 cH o4).toNat x9).map dW)) ?_
 obtain⟨h20,h⟩:=cS h
 refine gQ h20.1<|gQ (AF dW h20.2) ?_
 obtain⟨h21,h⟩:=cS h
 refine gQ (A9 dW h21)<|gQ (AT dW cK (AA .add .i64 cH cI) x8) ?_
 obtain⟨h22,h⟩:=cS h
 refine gQ h22.1<|gQ (AF dW h22.2) ?_
 obtain⟨h23,h⟩:=cS h
 refine gQ (A9 dW h23)<|gQ (AT dW (cK.set (AA .add .i64 cH cI).toNat x8) (AA .add .i64 cH o4) x9) ?_
 exact lp h
 obtain⟨o10,h24,h⟩:=bS h
 refine gl (Bz rd us h24) ?_
 obtain⟨h25,h⟩:=cS h
 refine gQ h25.1<|gQ (AF dW h25.2) ?_
 obtain⟨x11,h26,h⟩:=xS h
 refine gG 44 (.el (dW x11)) (AG dW h26) ?_
 obtain⟨h27,h⟩:=cS h
 refine gQ h27.1<|gQ (AF dW h27.2) ?_
 obtain⟨x12,h28,h⟩:=xS h
 refine gG 50 (.el (dW x12)) (AG dW h28) ?_
 obtain⟨r13,h29,h⟩:=bS h
 refine gC 51 (AS h29) ?_
 refine iB 52 h (fun h=> ?_) fun h=> ?_
 exact lp h
 obtain⟨h31,h⟩:=cS h
 refine gQ h31.1<|gQ (AF dW h31.2) ?_
 obtain⟨x14,h32,h⟩:=xS h
 refine gG 66 (.el (dW x14)) (AG dW h32)<|gW 10073 (.sl ((cK.set (AA .add .i64 cH cI).toNat x14).map dW)) ?_
 obtain⟨h33,h⟩:=cS h
 refine gQ h33.1<|gQ (AF dW h33.2) ?_
 obtain⟨x15,h34,h⟩:=xS h
 refine gG 72 (.el (dW x15)) (AG dW h34)<|gW 10074 (.sl (((cK.set (AA .add .i64 cH cI).toNat x14).set (AA .add .i64 cH o10).toNat x15).map dW)) ?_
 obtain⟨h35,h⟩:=cS h
 refine gQ h35.1<|gQ (AF dW h35.2) ?_
 obtain⟨h36,h⟩:=cS h
 refine gQ (A9 dW h36)<|gQ (AT dW cK (AA .add .i64 cH cI) x14) ?_
 obtain⟨h37,h⟩:=cS h
 refine gQ h37.1<|gQ (AF dW h37.2) ?_
 obtain⟨h38,h⟩:=cS h
 refine gQ (A9 dW h38)<|gQ (AT dW (cK.set (AA .add .i64 cH cI).toNat x14) (AA .add .i64 cH o10) x15) ?_
 exact lp h
def CC(us:List Value)(s2 s3 s8:Int)(w0:List Int):St:=⟨sp 76 0 [rx 0,sI 2 s2,sI 3 s3,sI 8 s8],[rW 0 32 1 dW w0,(997,.vals [.row 0] us)],[]⟩
def CD(us:List Value)(s2 s3:Int)(o:(List Int)⊕(List Int)):Ex×St:=match o with
 | .inl o=>(.exit 0,⟨sp 76 0 [],[rW 0 32 1 dW o,(997,.vals [.row 0] us)],[]⟩)
 | .inr o=>(.ret,⟨sp 76 0 [],[rW 0 32 1 dW o,(997,.vals [.row 0] us)],[]⟩)
theorem DG(rd:Option Nat)(us:List Value)(h:Pe cG cH cI cK=some dL):Lq 134 rd 6 (CC us cG cH cI cK) ((CD us cG cH) dL):=
 lL (fun s:Int×List Int=>CC us cG cH s.1 s.2) (CD us cG cH) (cI,cK) (fun⟨cI,cK⟩ o h=>by
 unfold EP at h
 obtain⟨o16,h39,h⟩:=bS h
 refine gl (DF rd us h39) ?_
 replace h:=AK h
 rcases h with⟨o17,rfl,h⟩|⟨o18,rfl,h⟩
 exact lb h
 replace h:=AK h
 rcases h with⟨o19,rfl,h⟩|⟨o20,rfl,h⟩
 exact lb h
 exact lb h) h
theorem CO(h:Xm cG cH cI cK=some cT):AL Tryz.prog 134 [.row 0,dI cG,dI cH,dI cI] [rW 0 32 1 dW cK] (.tup []) [rW 0 32 1 dW cT]:=by
 unfold Xm at h;refine XG.call (ks:=[0]) mixed fun us=> ?_;apply g0 (o:=cT);obtain⟨o21,h40,h⟩:=bS h;refine gl (DG none us h40) ?_;replace h:=AK h;rcases h with⟨o22,rfl,h⟩|⟨o23,rfl,h⟩
 exact lX h (lv [] [0,997]);exact lX h (lv [] [0,997])
def B8(us:List Value)(s6 s7:Int)(s8 s9:Int)(w0:List Int):St:=⟨sp 56 0 [rx 0,sI 6 s6,sI 7 s7,sI 8 s8,sI 9 s9],[rW 0 32 1 dW w0,(997,.vals [.row 0] us)],[]⟩
def B9(us:List Value)(s6 s7 s8:Int)(o:(List Int)):Ex×St:=(.exit 0,⟨sp 56 0 [rx 0,sI 6 s6,sI 7 s7,sI 8 s8],[rW 0 32 1 dW o,(997,.vals [.row 0] us)],[]⟩)
theorem DD(rd:Option Nat)(us:List Value)(h:Pn cG cH cI cJ cK=some d3):Lq 98 rd 122 (B8 us cG cH cI cJ cK) ((B9 us cG cH cI) d3):=
 lL (fun s:Int×List Int=>B8 us cG cH cI s.1 s.2) (B9 us cG cH cI) (cJ,cK) (fun⟨cJ,cK⟩ o h=>by
 unfold Gb at h
 refine iB 19 h (fun h=> ?_) fun h=> ?_
 obtain⟨r1,h2,h⟩:=bS h
 refine gG 26 (.cx false [(0,0)] [] (.tup []) [rW 0 32 1 dW r1]) (CO h2) ?_
 exact lb h
 exact lb h) h
def CA(us:List Value)(s6 s7 s10:Int)(w0:List Int):St:=⟨sp 56 0 [rx 0,sI 6 s6,sI 7 s7,sI 10 s10],[rW 0 32 1 dW w0,(997,.vals [.row 0] us)],[]⟩
def CB(us:List Value)(s6 s7:Int)(o:(List Int)):Ex×St:=(.exit 2,⟨sp 56 0 [],[rW 0 32 1 dW o,(997,.vals [.row 0] us)],[]⟩)
theorem DE(rd:Option Nat)(us:List Value)(h:Po cG cH cI cK=some d3):Lq 98 rd 126 (CA us cG cH cI cK) ((CB us cG cH) d3):=
 lL (fun s:Int×List Int=>CA us cG cH s.1 s.2) (CB us cG cH) (cI,cK) (fun⟨cI,cK⟩ o h=>by
 unfold Gc at h
 refine iB 30 h (fun h=> ?_) fun h=> ?_
 obtain⟨h5,h⟩:=cS h
 refine gQ h5.1<|gQ (AF dW h5.2) ?_
 obtain⟨x3,h6,h⟩:=xS h
 refine gG 44 (.el (dW x3)) (AG dW h6)<|gW 10049 (.sl ((cK.set cG.toNat x3).map dW)) ?_
 obtain⟨h7,h⟩:=cS h
 refine gQ h7.1<|gQ (AF dW h7.2) ?_
 obtain⟨x4,h8,h⟩:=xS h
 refine gG 48 (.el (dW x4)) (AG dW h8)<|gW 10050 (.sl (((cK.set cG.toNat x3).set (AA .add .i64 cG cI).toNat x4).map dW)) ?_
 obtain⟨h9,h⟩:=cS h
 refine gQ h9.1<|gQ (AF dW h9.2) ?_
 obtain⟨h10,h⟩:=cS h
 refine gQ (A9 dW h10)<|gQ (AT dW cK cG x3) ?_
 obtain⟨h11,h⟩:=cS h
 refine gQ h11.1<|gQ (AF dW h11.2) ?_
 obtain⟨h12,h⟩:=cS h
 refine gQ (A9 dW h12)<|gQ (AT dW (cK.set cG.toNat x3) (AA .add .i64 cG cI) x4) ?_
 obtain⟨r5,h13,h⟩:=bS h
 refine gG 55 (.cx false [(0,0)] [] (.tup []) [rW 0 32 1 dW r5]) (CO h13) ?_
 exact lb h
 exact lb h) h
theorem Da(h:Xv cG cH cK=some cT):AL Tryz.prog 98 [.row 0,dI cG,dI cH] [rW 0 32 1 dW cK] (.tup []) [rW 0 32 1 dW cT]:=by unfold Xv at h;refine XG.call (ks:=[0]) mixed fun us=> ?_;apply g0 (o:=cT);refine gQ (of_decide_eq_true rfl:(2:Int)≠0) ?_;obtain⟨o2,h3,h⟩:=bS h;refine gl (DD none us h3) ?_;obtain⟨o6,h14,h⟩:=bS h;refine gl (DE none us h14) ?_;exact lX h (lv [] [0,997])
theorem Cl(rd:Option Nat)(us:List Value)(h:Mz cG cH cI cJ cX d4 cK d6=some d7):Lq 99 rd 30501 ⟨sp 65 0 [rx 0,sI 1 cG,sI 6 cH,bx 7,sD 8 dU cI,sI 9 cJ,sI 10 cX,sD 43 D.b d4],[rW 0 32 1 dW cK,(7,.cells ([.d (dU d6)])),(997,.vals [.row 0] us)],[]⟩ (.normal,⟨sp 65 0 [rx 0,sI 1 cG,sI 6 cH,bx 7,sD 8 dU cI,sI 9 cJ,sI 10 d7],[rW 0 32 1 dW cK,(7,.cells ([.d (dU d6)])),(997,.vals [.row 0] us)],[]⟩):=by unfold Mz at h;apply g0 (o:=d7);cases d4;replace h:=CF h;exact lp h;replace h:=CG h;exact lp h
theorem Ck(rd:Option Nat)(us:List Value)(h:Pi cG cH cI cJ cK cX=some dM):Lq 99 rd 1906 ⟨sp 65 0 [rx 0,sI 1 cG,sI 6 cH,bx 7,sD 8 dU cI,sI 9 cJ],[rW 0 32 1 dW cK,(7,.cells ([.d (dU cX)])),(997,.vals [.row 0] us)],[]⟩ (.normal,⟨sp 65 0 [rx 0,sI 1 cG,sI 6 cH,bx 7,sD 8 dU cI,sI 9 cJ],[rW 0 32 1 dW dM.1,(7,.cells ([.d (dU dM.2)])),(997,.vals [.row 0] us)],[]⟩):=by unfold Pi at h;apply g0 (o:=dM);obtain⟨r2,h4,h⟩:=bS h;refine gG 36 (.cx false [(0,7)] [] (.d (dU r2.1)) [(0,.cells ([.d (dU r2.2)]))]) (aNr h4) ?_;obtain⟨o3,h6,h⟩:=bS h;refine gl (Cl rd us h6) ?_;obtain⟨h7,h⟩:=cS h;refine gQ h7.1<|gQ (AF dW h7.2) ?_;obtain⟨x4,h8,h⟩:=xS h;refine gG 58 (.el (dW x4)) (AG dW h8)<|gW 10063 (.sl ((cK.set cJ.toNat x4).map dW)) ?_;obtain⟨h9,h⟩:=cS h;refine gQ h9.1<|gQ (AF dW h9.2) ?_;obtain⟨x5,h10,h⟩:=xS h;refine gG 62 (.el (dW x5)) (AG dW h10)<|gW 10064 (.sl (((cK.set cJ.toNat x4).set (AA .add .i64 cG o3).toNat x5).map dW)) ?_;obtain⟨h11,h⟩:=cS h;refine gQ h11.1<|gQ (AF dW h11.2) ?_;obtain⟨h12,h⟩:=cS h;refine gQ (A9 dW h12)<|gQ (AT dW cK cJ x4) ?_;obtain⟨h13,h⟩:=cS h;refine gQ h13.1<|gQ (AF dW h13.2) ?_;obtain⟨h14,h⟩:=cS h;refine gQ (A9 dW h14)<|gQ (AT dW (cK.set cJ.toNat x4) (AA .add .i64 cG o3) x5) ?_;exact lp h
def BZ(us:List Value)(s1 s6:Int)(s8 s9:Int)(w0:List Int)(w7:Int):St:=⟨sp 65 0 [rx 0,sI 1 s1,sI 6 s6,bx 7,sD 8 dU s8,sI 9 s9],[rW 0 32 1 dW w0,(7,.cells ([.d (dU w7)])),(997,.vals [.row 0] us)],[]⟩
def Ba(us:List Value)(s1 s6 s8:Int)(o:(List Int)):Ex×St:=(.exit 0,⟨sp 65 0 [],[rW 0 32 1 dW o,(997,.vals [.row 0] us)],[]⟩)
theorem Cm(rd:Option Nat)(us:List Value)(h:Pj cG cH cI cJ cK cX=some d3):Lq 99 rd 238 (BZ us cG cH cI cJ cK cX) ((Ba us cG cH cI) d3):=
 lL (fun s:Int×List Int×Int=>BZ us cG cH cI s.1 s.2.1 s.2.2) (Ba us cG cH cI) (cJ,cK,cX) (fun⟨cJ,cK,cX⟩ o h=>by
 unfold GY at h
 refine gQ (of_decide_eq_true rfl:(4:Int)≠0) ?_
 refine iB 33 h (fun h=> ?_) fun h=> ?_
 obtain⟨o6,h15,h⟩:=bS h
 refine gl (Ck rd us h15) ?_
 exact lb h
 exact lb h) h
theorem Cj(rd:Option Nat)(us:List Value)(h:Ph cG cH d4 cK=some d3):Lq 99 rd 7 ⟨sp 65 0 [rx 0,sI 1 cG,sI 6 cH,sD 15 D.b d4],[rW 0 32 1 dW cK,(997,.vals [.row 0] us)],[]⟩ (.normal,⟨sp 65 0 [],[rW 0 32 1 dW d3,(997,.vals [.row 0] us)],[]⟩):=by unfold Ph at h;apply g0 (o:=d3);cases d4;replace h:=CF h;exact lp h;replace h:=CG h;obtain⟨r1,h2,h⟩:=bS h;refine gC 19 (aNq h2)<|gQ (of_decide_eq_true rfl:(4:Int)≠0) ?_;obtain⟨o7,h16,h⟩:=bS h;refine gl (Cm rd us h16) ?_;exact lp h
theorem C5(h:Xq cG cH cK=some cT):AL Tryz.prog 99 [.row 0,dI cG,dI cH] [rW 0 32 1 dW cK] (.tup []) [rW 0 32 1 dW cT]:=by unfold Xq at h;refine XG.call (ks:=[0]) mixed fun us=> ?_;apply g0 (o:=cT);obtain⟨o8,h17,h⟩:=bS h;refine gl (Cj none us h17) ?_;exact lX h (lv [] [0,997])
theorem BJ(h:Zq cK cG cH cI=some dN):AL Tryz.prog 164 [.d ((D.l dW) cK),dI cG,dI cH,.box 0 0] [(0,.cells ([dI cI]))] (.tup [dI dN.1,dI dN.2.1]) [(0,.cells ([dI dN.2.2]))]:=by unfold Zq at h;refine XG.call (ks:=[3]) mixed fun us=> ?_;apply g0 (o:=dN);refine xX 12 dW h fun x1 h=> ?_;refine xX 16 dW h fun x2 h=> ?_;obtain⟨r3,h3,h⟩:=bS h;refine gQ (AS h3) ?_;cases r3;replace h:=CF h;refine gW 18 (.ret (.d (D.b false))) ?_;exact lX h (lv [8,9] [0,997]);replace h:=CG h;refine gW 18 (.ret (.d (D.b true))) ?_;exact lX h (lv [8,9] [0,997])
theorem CH(h:Zx cK cG cH cI cJ=some dO):AL Tryz.prog 138 [.d ((D.l dW) cK),dI cG,dI cH,dI cI,.box 0 0] [(0,.cells ([dI cJ]))] (dI dO.1) [(0,.cells ([dI dO.2]))]:=by unfold Zx at h;refine XG.call (ks:=[4]) mixed fun us=> ?_;apply g0 (o:=dO);obtain⟨r1,h1,h⟩:=bS h;refine gG 16 (.cx false [(0,0)] [] (.tup [dI r1.1,dI r1.2.1]) [(0,.cells ([dI r1.2.2]))]) (BJ h1) ?_;obtain⟨r2,h2,h⟩:=bS h;refine gG 24 (.cx false [(0,0)] [] (.tup [dI r2.1,dI r2.2.1]) [(0,.cells ([dI r2.2.2]))]) (BJ h2) ?_;obtain⟨r3,h3,h⟩:=bS h;refine gG 32 (.cx false [(0,0)] [] (.tup [dI r3.1,dI r3.2.1]) [(0,.cells ([dI r3.2.2]))]) (BJ h3) ?_;exact lX h (lv [10] [0,997])
theorem Ap(h:Zr cK cG cH=some dO):AL Tryz.prog 137 [.d ((D.l dW) cK),dI cG,.box 0 0] [(0,.cells ([dI cH]))] (dI dO.1) [(0,.cells ([dI dO.2]))]:=by unfold Zr at h;refine XG.call (ks:=[2]) mixed fun us=> ?_;apply g0 (o:=dO);obtain⟨r1,h1,h⟩:=bS h;refine gG 14 (.cx false [(0,0)] [] (dI r1.1) [(0,.cells ([dI r1.2]))]) (CH h1) ?_;exact lX h (lv [6] [0,997])
theorem C4(rd:Option Nat)(h:M1 cK cG cH cI d4 cJ=some dP):Lq 100 rd 4073 ⟨sp 57 0 [sD 0 (D.l dW) cK,bx 9,sI 10 cG,sI 11 cH,sI 12 cI,sD 34 D.b d4],[(9,.cells ([dI cJ]))],[]⟩ (.normal,⟨sp 57 0 [sD 0 (D.l dW) cK,bx 9,sI 10 dP.1,sI 11 dP.2.1,sI 12 dP.2.2.1],[(9,.cells ([dI dP.2.2.2]))],[]⟩):=by unfold M1 at h;apply g0 (o:=dP);cases d4;replace h:=CF h;exact lp h;replace h:=CG h;obtain⟨r1,h3,h⟩:=bS h;refine gG 37 (.cx false [(0,9)] [] (dI r1.1) [(0,.cells ([dI r1.2]))]) (Ap h3) ?_;obtain⟨r2,h4,h⟩:=bS h;refine gG 40 (.cx false [(0,9)] [] (dI r2.1) [(0,.cells ([dI r2.2]))]) (Ap h4) ?_;obtain⟨r3,h5,h⟩:=bS h;refine gG 43 (.cx false [(0,9)] [] (dI r3.1) [(0,.cells ([dI r3.2]))]) (Ap h5) ?_;exact lp h
theorem C3(rd:Option Nat)(h:Pt cK cG cH cI cJ d4 cX=some dQ):Lq 100 rd 509 ⟨sp 57 0 [sD 0 (D.l dW) cK,sI 8 cG,bx 9,sI 10 cH,sI 11 cI,sI 12 cJ,sD 32 D.b d4],[(9,.cells ([dI cX]))],[]⟩ (.normal,⟨sp 57 0 [bx 9,sI 11 dQ.1],[(9,.cells ([dI dQ.2]))],[]⟩):=by unfold Pt at h;apply g0 (o:=dQ);cases d4;replace h:=CF h;exact lp h;replace h:=CG h;obtain⟨o4,h6,h⟩:=bS h;refine gl (C4 rd h6) ?_;obtain⟨r5,h7,h⟩:=bS h;refine gG 48 (.cx false [(0,9)] [] (dI r5.1) [(0,.cells ([dI r5.2]))]) (CH h7) ?_;exact lp h
theorem DC(h:Yr cK cG cH=some dO):AL Tryz.prog 100 [.d ((D.l dW) cK),dI cG,dI cH] [] (.tup [dI dO.1,dI dO.2]) []:=by unfold Yr at h;apply g0 (o:=dO);refine gQ (of_decide_eq_true rfl:(4:Int)≠0)<|gQ (of_decide_eq_true rfl:(4:Int)≠0)<|gQ (of_decide_eq_true rfl:(4:Int)≠0) ?_;obtain⟨o6,h8,h⟩:=bS h;refine gl (C3 none h8) ?_;refine iB 51 h (fun h=> ?_) fun h=> ?_;exact lf h;refine iB 54 h (fun h=> ?_) fun h=> ?_;exact lf h;exact lf h
def Br(us:List Value)(s6 s7:Int)(w0:List Int):St:=⟨sp 32 0 [rx 0,sI 6 s6,sI 7 s7],[rW 0 32 1 dW w0,(997,.vals [.row 0] us)],[]⟩
def Bs(us:List Value)(o:(List Int)):Ex×St:=(.exit 0,⟨sp 32 0 [],[rW 0 32 1 dW o,(997,.vals [.row 0] us)],[]⟩)
theorem Cy(rd:Option Nat)(us:List Value)(h:Ps cG cH cK=some d3):Lq 101 rd 14 (Br us cG cH cK) ((Bs us) d3):=
 lL (fun s:Int×Int×List Int=>Br us s.1 s.2.1 s.2.2) (Bs us) (cG,cH,cK) (fun⟨cG,cH,cK⟩ o h=>by
 unfold IN at h
 refine iB 13 h (fun h=> ?_) fun h=> ?_
 obtain⟨h2,h⟩:=cS h
 refine gQ h2.1<|gQ (AF dW h2.2) ?_
 obtain⟨x1,h3,h⟩:=xS h
 refine gG 21 (.el (dW x1)) (AG dW h3)<|gW 10026 (.sl ((cK.set cG.toNat x1).map dW)) ?_
 obtain⟨h4,h⟩:=cS h
 refine gQ h4.1<|gQ (AF dW h4.2) ?_
 obtain⟨x2,h5,h⟩:=xS h
 refine gG 25 (.el (dW x2)) (AG dW h5)<|gW 10027 (.sl (((cK.set cG.toNat x1).set cH.toNat x2).map dW)) ?_
 obtain⟨h6,h⟩:=cS h
 refine gQ h6.1<|gQ (AF dW h6.2) ?_
 obtain⟨h7,h⟩:=cS h
 refine gQ (A9 dW h7)<|gQ (AT dW cK cG x1) ?_
 obtain⟨h8,h⟩:=cS h
 refine gQ h8.1<|gQ (AF dW h8.2) ?_
 obtain⟨h9,h⟩:=cS h
 refine gQ (A9 dW h9)<|gQ (AT dW (cK.set cG.toNat x1) cH x2) ?_
 exact lb h
 exact lb h) h
theorem C9(h:Yl cG cH cK=some cT):AL Tryz.prog 101 [.row 0,dI cG,dI cH] [rW 0 32 1 dW cK] (.tup []) [rW 0 32 1 dW cT]:=by unfold Yl at h;refine XG.call (ks:=[0]) mixed fun us=> ?_;apply g0 (o:=cT);obtain⟨o3,h10,h⟩:=bS h;refine gl (Cy none us h10) ?_;exact lX h (lv [] [0,997])
def Ax(us:List Value)(s1 s2 s8:Int)(w0:List Int)(s7:Int):St:=⟨sp 133 0 [rx 0,sI 1 s1,sI 2 s2,sI 7 s7,sI 8 s8],[rW 0 32 1 dW w0,(997,.vals [.row 0] us)],[]⟩
def Ay(us:List Value)(s1 s2 s8:Int)(w0:List Int)(o:Int):Ex×St:=(.exit 2,⟨sp 133 0 [rx 0,sI 1 s1,sI 2 s2,sI 7 o,sI 8 s8],[rW 0 32 1 dW w0,(997,.vals [.row 0] us)],[]⟩)
theorem B4(rd:Option Nat)(us:List Value)(h:PV cG cH cI cK cJ=some cX):Lq 102 rd 3728 (Ax us cG cH cI cK cJ) ((Ay us cG cH cI cK) cX):=
 lL (fun s:Int=>Ax us cG cH cI cK s) (Ay us cG cH cI cK) cJ (fun cJ o h=>by
 unfold GJ at h
 refine iB 20 h (fun h=> ?_) fun h=> ?_
 obtain⟨h3,h⟩:=cS h
 refine gQ h3.1<|gQ (AF dW h3.2) ?_
 obtain⟨x1,h4,h⟩:=xS h
 refine gG 24 (.el (dW x1)) (AG dW h4) ?_
 obtain⟨h5,h⟩:=cS h
 refine gQ h5.1<|gQ (AF dW h5.2) ?_
 obtain⟨x2,h6,h⟩:=xS h
 refine gG 29 (.el (dW x2)) (AG dW h6) ?_
 obtain⟨r3,h7,h⟩:=bS h
 refine gC 30 (AS h7) ?_
 refine iB 32 h (fun h=> ?_) fun h=> ?_
 exact lb h
 exact lb h
 exact lb h) h
def Az(us:List Value)(s1 s2:Int)(s7 s8 s9:Int)(w0:List Int):St:=⟨sp 133 0 [rx 0,sI 1 s1,sI 2 s2,sI 7 s7,sI 8 s8,sI 9 s9],[rW 0 32 1 dW w0,(997,.vals [.row 0] us)],[]⟩
def A0(us:List Value)(s1 s2:Int)(s7 s8:Int)(o:(List Int)):Ex×St:=(.exit 4,⟨sp 133 0 [rx 0,sI 1 s1,sI 2 s2,sI 7 s7,sI 8 s8],[rW 0 32 1 dW o,(997,.vals [.row 0] us)],[]⟩)
theorem B5(rd:Option Nat)(us:List Value)(h:PW cG cH cI cJ cX cK=some d3):Lq 102 rd 477674 (Az us cG cH cI cJ cX cK) ((A0 us cG cH cI cJ) d3):=
 lL (fun s:Int×List Int=>Az us cG cH cI cJ s.1 s.2) (A0 us cG cH cI cJ) (cX,cK) (fun⟨cX,cK⟩ o h=>by
 unfold GK at h
 refine iB 65 h (fun h=> ?_) fun h=> ?_
 obtain⟨h22,h⟩:=cS h
 refine gQ h22.1<|gQ (AF dW h22.2) ?_
 obtain⟨x7,h23,h⟩:=xS h
 refine gG 71 (.el (dW x7)) (AG dW h23) ?_
 obtain⟨h24,h⟩:=cS h
 refine gQ h24.1<|gQ (AF dW h24.2) ?_
 obtain⟨x8,h25,h⟩:=xS h
 refine gG 76 (.el (dW x8)) (AG dW h25) ?_
 obtain⟨r9,h26,h⟩:=bS h
 refine gC 77 (AS h26) ?_
 refine iB 78 h (fun h=> ?_) fun h=> ?_
 exact lb h
 obtain⟨h28,h⟩:=cS h
 refine gQ h28.1<|gQ (AF dW h28.2) ?_
 obtain⟨x10,h29,h⟩:=xS h
 refine gG 88 (.el (dW x10)) (AG dW h29)<|gW 10093 (.sl ((cK.set cX.toNat x10).map dW)) ?_
 obtain⟨h30,h⟩:=cS h
 refine gQ h30.1<|gQ (AF dW h30.2) ?_
 obtain⟨x11,h31,h⟩:=xS h
 refine gG 92 (.el (dW x11)) (AG dW h31)<|gW 10094 (.sl (((cK.set cX.toNat x10).set (AA .sub .i64 cX 1).toNat x11).map dW)) ?_
 obtain⟨h32,h⟩:=cS h
 refine gQ h32.1<|gQ (AF dW h32.2) ?_
 obtain⟨h33,h⟩:=cS h
 refine gQ (A9 dW h33)<|gQ (AT dW cK cX x10) ?_
 obtain⟨h34,h⟩:=cS h
 refine gQ h34.1<|gQ (AF dW h34.2) ?_
 obtain⟨h35,h⟩:=cS h
 refine gQ (A9 dW h35)<|gQ (AT dW (cK.set cX.toNat x10) (AA .sub .i64 cX 1) x11) ?_
 exact lb h
 exact lb h) h
theorem B1(rd:Option Nat)(us:List Value)(h:Mn cG cH cI cJ d4 cK=some d3):Lq 102 rd 59709 ⟨sp 133 0 [rx 0,sI 1 cG,sI 2 cH,sI 7 cI,sI 8 cJ,sD 61 D.b d4],[rW 0 32 1 dW cK,(997,.vals [.row 0] us)],[]⟩ (.normal,⟨sp 133 0 [rx 0,sI 1 cG,sI 2 cH,sI 7 cI,sI 8 cJ],[rW 0 32 1 dW d3,(997,.vals [.row 0] us)],[]⟩):=by unfold Mn at h;apply g0 (o:=d3);cases d4;replace h:=CF h;exact lp h;replace h:=CG h;obtain⟨o12,h36,h⟩:=bS h;refine gl (B5 rd us h36) ?_;exact lp h
def A3(us:List Value)(s1 s2:Int)(s7 s8 s10:Int)(w0:List Int):St:=⟨sp 133 0 [rx 0,sI 1 s1,sI 2 s2,sI 7 s7,sI 8 s8,sI 10 s10],[rW 0 32 1 dW w0,(997,.vals [.row 0] us)],[]⟩
def A4(us:List Value)(s1 s2:Int)(s7 s8:Int)(o:(List Int)):Ex×St:=(.exit 6,⟨sp 133 0 [rx 0,sI 1 s1,sI 2 s2,sI 7 s7,sI 8 s8],[rW 0 32 1 dW o,(997,.vals [.row 0] us)],[]⟩)
theorem B6(rd:Option Nat)(us:List Value)(h:PX cG cH cI cJ cX cK=some d3):Lq 102 rd 477690 (A3 us cG cH cI cJ cX cK) ((A4 us cG cH cI cJ) d3):=
 lL (fun s:Int×List Int=>A3 us cG cH cI cJ s.1 s.2) (A4 us cG cH cI cJ) (cX,cK) (fun⟨cX,cK⟩ o h=>by
 unfold GL at h
 refine iB 103 h (fun h=> ?_) fun h=> ?_
 obtain⟨h40,h⟩:=cS h
 refine gQ h40.1<|gQ (AF dW h40.2) ?_
 obtain⟨x14,h41,h⟩:=xS h
 refine gG 109 (.el (dW x14)) (AG dW h41) ?_
 obtain⟨h42,h⟩:=cS h
 refine gQ h42.1<|gQ (AF dW h42.2) ?_
 obtain⟨x15,h43,h⟩:=xS h
 refine gG 114 (.el (dW x15)) (AG dW h43) ?_
 obtain⟨r16,h44,h⟩:=bS h
 refine gC 115 (AS h44) ?_
 refine iB 116 h (fun h=> ?_) fun h=> ?_
 exact lb h
 obtain⟨h46,h⟩:=cS h
 refine gQ h46.1<|gQ (AF dW h46.2) ?_
 obtain⟨x17,h47,h⟩:=xS h
 refine gG 126 (.el (dW x17)) (AG dW h47)<|gW 10131 (.sl ((cK.set cX.toNat x17).map dW)) ?_
 obtain⟨h48,h⟩:=cS h
 refine gQ h48.1<|gQ (AF dW h48.2) ?_
 obtain⟨x18,h49,h⟩:=xS h
 refine gG 130 (.el (dW x18)) (AG dW h49)<|gW 10132 (.sl (((cK.set cX.toNat x17).set (AA .sub .i64 cX 1).toNat x18).map dW)) ?_
 obtain⟨h50,h⟩:=cS h
 refine gQ h50.1<|gQ (AF dW h50.2) ?_
 obtain⟨h51,h⟩:=cS h
 refine gQ (A9 dW h51)<|gQ (AT dW cK cX x17) ?_
 obtain⟨h52,h⟩:=cS h
 refine gQ h52.1<|gQ (AF dW h52.2) ?_
 obtain⟨h53,h⟩:=cS h
 refine gQ (A9 dW h53)<|gQ (AT dW (cK.set cX.toNat x17) (AA .sub .i64 cX 1) x18) ?_
 exact lb h
 exact lb h) h
theorem B2(rd:Option Nat)(us:List Value)(h:Mo cG cH cI cJ d4 cK=some d3):Lq 102 rd 59711 ⟨sp 133 0 [rx 0,sI 1 cG,sI 2 cH,sI 7 cI,sI 8 cJ,sD 98 D.b d4],[rW 0 32 1 dW cK,(997,.vals [.row 0] us)],[]⟩ (.normal,⟨sp 133 0 [rx 0,sI 1 cG,sI 2 cH,sI 7 cI,sI 8 cJ],[rW 0 32 1 dW d3,(997,.vals [.row 0] us)],[]⟩):=by unfold Mo at h;apply g0 (o:=d3);cases d4;replace h:=CF h;exact lp h;replace h:=CG h;obtain⟨o19,h54,h⟩:=bS h;refine gl (B6 rd us h54) ?_;exact lp h
theorem B0(rd:Option Nat)(us:List Value)(h:PU cG cH cI cJ cK=some cM):Lq 102 rd 466 ⟨sp 133 0 [rx 0,sI 1 cG,sI 2 cH,sI 7 cI,sI 8 cJ],[rW 0 32 1 dW cK,(997,.vals [.row 0] us)],[]⟩ (match (generalizing:=false) cM with
 | .inl cM=>(.normal,⟨sp 133 0 [rx 0,sI 1 cG,sI 2 cH,sI 7 cM.1,sI 8 cJ],[rW 0 32 1 dW cM.2,(997,.vals [.row 0] us)],[]⟩)
 | .inr cM=>(.ret,⟨sp 133 0 [sD 6 D.b cM],[rW 0 32 1 dW cK,(997,.vals [.row 0] us)],[]⟩)):=by
 unfold PU at h
 apply g0 (o:=cM)
 obtain⟨o4,h9,h⟩:=bS h
 refine gl (B4 rd us h9) ?_
 refine iB 37 h (fun h=> ?_) fun h=> ?_
 exact lp h
 refine iB 41 h (fun h=> ?_) fun h=> ?_
 exact lp h
 obtain⟨h12,h⟩:=cS h
 refine gQ h12.1<|gQ (AF dW h12.2) ?_
 obtain⟨x5,h13,h⟩:=xS h
 refine gG 51 (.el (dW x5)) (AG dW h13)<|gW 10056 (.sl ((cK.set o4.toNat x5).map dW)) ?_
 obtain⟨h14,h⟩:=cS h
 refine gQ h14.1<|gQ (AF dW h14.2) ?_
 obtain⟨x6,h15,h⟩:=xS h
 refine gG 55 (.el (dW x6)) (AG dW h15)<|gW 10057 (.sl (((cK.set o4.toNat x5).set (AA .sub .i64 o4 1).toNat x6).map dW)) ?_
 obtain⟨h16,h⟩:=cS h
 refine gQ h16.1<|gQ (AF dW h16.2) ?_
 obtain⟨h17,h⟩:=cS h
 refine gQ (A9 dW h17)<|gQ (AT dW cK o4 x5) ?_
 obtain⟨h18,h⟩:=cS h
 refine gQ h18.1<|gQ (AF dW h18.2) ?_
 obtain⟨h19,h⟩:=cS h
 refine gQ (A9 dW h19)<|gQ (AT dW (cK.set o4.toNat x5) (AA .sub .i64 o4 1) x6) ?_
 obtain⟨o13,h37,h⟩:=bS h
 refine gl (B1 rd us h37) ?_
 obtain⟨o20,h55,h⟩:=bS h
 refine gl (B2 rd us h55) ?_
 exact lp h
def Av(us:List Value)(s1 s2:Int)(s7 s8:Int)(w0:List Int):St:=⟨sp 133 0 [rx 0,sI 1 s1,sI 2 s2,sI 7 s7,sI 8 s8],[rW 0 32 1 dW w0,(997,.vals [.row 0] us)],[]⟩
def Aw(us:List Value)(s1 s2:Int)(o:(List Int)⊕(Bool×List Int)):Ex×St:=match o with
 | .inl o=>(.exit 0,⟨sp 133 0 [],[rW 0 32 1 dW o,(997,.vals [.row 0] us)],[]⟩)
 | .inr o=>(.ret,⟨sp 133 0 [sD 6 D.b o.1],[rW 0 32 1 dW o.2,(997,.vals [.row 0] us)],[]⟩)
theorem B3(rd:Option Nat)(us:List Value)(h:Mp cG cH cI cJ cK=some cN):Lq 102 rd 58 (Av us cG cH cI cJ cK) ((Aw us cG cH) cN):=
 lL (fun s:Int×Int×List Int=>Av us cG cH s.1 s.2.1 s.2.2) (Aw us cG cH) (cI,cJ,cK) (fun⟨cI,cJ,cK⟩ o h=>by
 unfold GI at h
 refine iB 14 h (fun h=> ?_) fun h=> ?_
 obtain⟨o21,h56,h⟩:=bS h
 refine gl (B0 rd us h56) ?_
 replace h:=AK h
 rcases h with⟨o22,rfl,h⟩|⟨o23,rfl,h⟩
 exact lb h
 exact lb h
 exact lb h) h
theorem CN(h:X5 cG cH cK=some cO):AL Tryz.prog 102 [.row 0,dI cG,dI cH] [rW 0 32 1 dW cK] (.d (D.b cO.1)) [rW 0 32 1 dW cO.2]:=by
 unfold X5 at h;refine XG.call (ks:=[0]) mixed fun us=> ?_;apply g0 (o:=cO);obtain⟨o24,h57,h⟩:=bS h;refine gl (B3 none us h57) ?_;replace h:=AK h;rcases h with⟨o25,rfl,h⟩|⟨o26,rfl,h⟩
 exact lX h (lv [6] [0,997]);exact lX h (lv [6] [0,997])
def BM(us:List Value)(s1 s10:Int)(w0:List Int)(s9:Int):St:=⟨sp 84 0 [rx 0,sI 1 s1,sI 9 s9,sI 10 s10],[rW 0 32 1 dW w0,(997,.vals [.row 0] us)],[]⟩
def BN(us:List Value)(s1 s10:Int)(w0:List Int)(o:Int):Ex×St:=(.exit 2,⟨sp 84 0 [rx 0,sI 1 s1,sI 9 o,sI 10 s10],[rW 0 32 1 dW w0,(997,.vals [.row 0] us)],[]⟩)
theorem CW(rd:Option Nat)(us:List Value)(h:Pc cG cH cK cI=some cJ):Lq 104 rd 960 (BM us cG cH cK cI) ((BN us cG cH cK) cJ):=
 lL (fun s:Int=>BM us cG cH cK s) (BN us cG cH cK) cI (fun cI o h=>by
 unfold GO at h
 refine iB 32 h (fun h=> ?_) fun h=> ?_
 obtain⟨h10,h⟩:=cS h
 refine gQ h10.1<|gQ (AF dW h10.2) ?_
 obtain⟨x3,h11,h⟩:=xS h
 refine gG 36 (.el (dW x3)) (AG dW h11) ?_
 obtain⟨h12,h⟩:=cS h
 refine gQ h12.1<|gQ (AF dW h12.2) ?_
 obtain⟨x4,h13,h⟩:=xS h
 refine gG 40 (.el (dW x4)) (AG dW h13) ?_
 obtain⟨r5,h14,h⟩:=bS h
 refine gC 41 (AS h14) ?_
 refine iB 43 h (fun h=> ?_) fun h=> ?_
 exact lb h
 exact lb h
 exact lb h) h
def BO(us:List Value)(s1 s9:Int)(w0:List Int)(s10:Int):St:=⟨sp 84 0 [rx 0,sI 1 s1,sI 9 s9,sI 10 s10],[rW 0 32 1 dW w0,(997,.vals [.row 0] us)],[]⟩
def BP(us:List Value)(s1 s9:Int)(w0:List Int)(o:Int):Ex×St:=(.exit 4,⟨sp 84 0 [rx 0,sI 1 s1,sI 9 s9,sI 10 o],[rW 0 32 1 dW w0,(997,.vals [.row 0] us)],[]⟩)
theorem CX(rd:Option Nat)(us:List Value)(h:Pd cG cH cK cI=some cJ):Lq 104 rd 1924 (BO us cG cH cK cI) ((BP us cG cH cK) cJ):=
 lL (fun s:Int=>BO us cG cH cK s) (BP us cG cH cK) cI (fun cI o h=>by
 unfold GP at h
 refine iB 49 h (fun h=> ?_) fun h=> ?_
 obtain⟨h18,h⟩:=cS h
 refine gQ h18.1<|gQ (AF dW h18.2) ?_
 obtain⟨x7,h19,h⟩:=xS h
 refine gG 53 (.el (dW x7)) (AG dW h19) ?_
 obtain⟨h20,h⟩:=cS h
 refine gQ h20.1<|gQ (AF dW h20.2) ?_
 obtain⟨x8,h21,h⟩:=xS h
 refine gG 57 (.el (dW x8)) (AG dW h21) ?_
 obtain⟨r9,h22,h⟩:=bS h
 refine gQ (AS h22) ?_
 cases r9
 replace h:=CF h
 refine gW 58 (.ret (.d (D.b false))) ?_
 exact lb h
 replace h:=CG h
 refine gW 58 (.ret (.d (D.b true))) ?_
 exact lb h
 exact lb h) h
def BK(us:List Value)(s1 s9 s10:Int)(w0:List Int):St:=⟨sp 84 0 [rx 0,sI 1 s1,sI 9 s9,sI 10 s10],[rW 0 32 1 dW w0,(997,.vals [.row 0] us)],[]⟩
def BL(us:List Value)(s1:Int)(o:(Int×List Int)):Ex×St:=(.exit 0,⟨sp 84 0 [sI 9 o.1],[rW 0 32 1 dW o.2,(997,.vals [.row 0] us)],[]⟩)
theorem CV(rd:Option Nat)(us:List Value)(h:Pb cG cH cI cK=some cP):Lq 104 rd 60 (BK us cG cH cI cK) ((BL us cG) cP):=
 lL (fun s:Int×Int×List Int=>BK us cG s.1 s.2.1 s.2.2) (BL us cG) (cH,cI,cK) (fun⟨cH,cI,cK⟩ o h=>by
 unfold Hj at h
 obtain⟨o6,h16,h⟩:=bS h
 refine gl (CW rd us h16) ?_
 obtain⟨o10,h24,h⟩:=bS h
 refine gl (CX rd us h24) ?_
 refine iB 64 h (fun h=> ?_) fun h=> ?_
 exact lb h
 obtain⟨h26,h⟩:=cS h
 refine gQ h26.1<|gQ (AF dW h26.2) ?_
 obtain⟨x11,h27,h⟩:=xS h
 refine gG 72 (.el (dW x11)) (AG dW h27)<|gW 10077 (.sl ((cK.set o6.toNat x11).map dW)) ?_
 obtain⟨h28,h⟩:=cS h
 refine gQ h28.1<|gQ (AF dW h28.2) ?_
 obtain⟨x12,h29,h⟩:=xS h
 refine gG 76 (.el (dW x12)) (AG dW h29)<|gW 10078 (.sl (((cK.set o6.toNat x11).set o10.toNat x12).map dW)) ?_
 obtain⟨h30,h⟩:=cS h
 refine gQ h30.1<|gQ (AF dW h30.2) ?_
 obtain⟨h31,h⟩:=cS h
 refine gQ (A9 dW h31)<|gQ (AT dW cK o6 x11) ?_
 obtain⟨h32,h⟩:=cS h
 refine gQ h32.1<|gQ (AF dW h32.2) ?_
 obtain⟨h33,h⟩:=cS h
 refine gQ (A9 dW h33)<|gQ (AT dW (cK.set o6.toNat x11) o10 x12) ?_
 exact lb h) h
theorem Aq(h:Xe cG cH cI cK=some cQ):AL Tryz.prog 104 [.row 0,dI cG,dI cH,dI cI] [rW 0 32 1 dW cK] (dI cQ.1) [rW 0 32 1 dW cQ.2]:=by unfold Xe at h;refine XG.call (ks:=[0]) mixed fun us=> ?_;apply g0 (o:=cQ);obtain⟨h1,h⟩:=cS h;refine gQ h1.1<|gQ (AF dW h1.2) ?_;obtain⟨x1,h2,h⟩:=xS h;refine gG 18 (.el (dW x1)) (AG dW h2)<|gW 10023 (.sl ((cK.set cG.toNat x1).map dW)) ?_;obtain⟨h3,h⟩:=cS h;refine gQ h3.1<|gQ (AF dW h3.2) ?_;obtain⟨x2,h4,h⟩:=xS h;refine gG 22 (.el (dW x2)) (AG dW h4)<|gW 10024 (.sl (((cK.set cG.toNat x1).set cI.toNat x2).map dW)) ?_;obtain⟨h5,h⟩:=cS h;refine gQ h5.1<|gQ (AF dW h5.2) ?_;obtain⟨h6,h⟩:=cS h;refine gQ (A9 dW h6)<|gQ (AT dW cK cG x1) ?_;obtain⟨h7,h⟩:=cS h;refine gQ h7.1<|gQ (AF dW h7.2) ?_;obtain⟨h8,h⟩:=cS h;refine gQ (A9 dW h8)<|gQ (AT dW (cK.set cG.toNat x1) cI x2) ?_;obtain⟨o13,h34,h⟩:=bS h;refine gl (CV none us h34) ?_;exact lX h (lv [8] [0,997])
def Bg(us:List Value)(s1 s11:Int)(w0:List Int)(s10:Int):St:=⟨sp 168 0 [rx 0,sI 1 s1,sI 10 s10,sI 11 s11],[rW 0 32 1 dW w0,(997,.vals [.row 0] us)],[]⟩
def Bh(us:List Value)(s1 s11:Int)(w0:List Int)(o:Int):Ex×St:=(.exit 0,⟨sp 168 0 [rx 0,sI 1 s1,sI 10 o,sI 11 s11],[rW 0 32 1 dW w0,(997,.vals [.row 0] us)],[]⟩)
theorem Ct(rd:Option Nat)(us:List Value)(h:Mq cG cH cK cI=some cJ):Lq 105 rd 60 (Bg us cG cH cK cI) ((Bh us cG cH cK) cJ):=
 lL (fun s:Int=>Bg us cG cH cK s) (Bh us cG cH cK) cI (fun cI o h=>by
 unfold GM at h
 refine iB 33 h (fun h=> ?_) fun h=> ?_
 obtain⟨h10,h⟩:=cS h
 refine gQ h10.1<|gQ (AF dW h10.2) ?_
 obtain⟨x3,h11,h⟩:=xS h
 refine gG 37 (.el (dW x3)) (AG dW h11) ?_
 obtain⟨h12,h⟩:=cS h
 refine gQ h12.1<|gQ (AF dW h12.2) ?_
 obtain⟨x4,h13,h⟩:=xS h
 refine gG 41 (.el (dW x4)) (AG dW h13) ?_
 obtain⟨r5,h14,h⟩:=bS h
 refine gQ (AS h14) ?_
 cases r5
 replace h:=CF h
 refine gW 42 (.ret (.d (D.b false))) ?_
 exact lb h
 replace h:=CG h
 refine gW 42 (.ret (.d (D.b true))) ?_
 exact lb h
 exact lb h) h
def Bi(us:List Value)(s1 s10:Int)(w0:List Int)(s11:Int):St:=⟨sp 168 0 [rx 0,sI 1 s1,sI 10 s10,sI 11 s11],[rW 0 32 1 dW w0,(997,.vals [.row 0] us)],[]⟩
def Bj(us:List Value)(s1 s10:Int)(w0:List Int)(o:Int):Ex×St:=(.exit 2,⟨sp 168 0 [rx 0,sI 1 s1,sI 10 s10,sI 11 o],[rW 0 32 1 dW w0,(997,.vals [.row 0] us)],[]⟩)
theorem Cu(rd:Option Nat)(us:List Value)(h:Mr cG cH cK cI=some cJ):Lq 105 rd 124 (Bi us cG cH cK cI) ((Bj us cG cH cK) cJ):=
 lL (fun s:Int=>Bi us cG cH cK s) (Bj us cG cH cK) cI (fun cI o h=>by
 unfold GN at h
 refine iB 49 h (fun h=> ?_) fun h=> ?_
 obtain⟨h18,h⟩:=cS h
 refine gQ h18.1<|gQ (AF dW h18.2) ?_
 obtain⟨x7,h19,h⟩:=xS h
 refine gG 53 (.el (dW x7)) (AG dW h19) ?_
 obtain⟨h20,h⟩:=cS h
 refine gQ h20.1<|gQ (AF dW h20.2) ?_
 obtain⟨x8,h21,h⟩:=xS h
 refine gG 57 (.el (dW x8)) (AG dW h21) ?_
 obtain⟨r9,h22,h⟩:=bS h
 refine gC 58 (AS h22) ?_
 refine iB 60 h (fun h=> ?_) fun h=> ?_
 exact lb h
 exact lb h
 exact lb h) h
def Bn(us:List Value)(s1 s11:Int)(w0:List Int)(s10:Int):St:=⟨sp 168 0 [rx 0,sI 1 s1,sI 10 s10,sI 11 s11],[rW 0 32 1 dW w0,(997,.vals [.row 0] us)],[]⟩
def Bo(us:List Value)(s1 s11:Int)(w0:List Int)(o:Int):Ex×St:=(.exit 6,⟨sp 168 0 [rx 0,sI 1 s1,sI 10 o,sI 11 s11],[rW 0 32 1 dW w0,(997,.vals [.row 0] us)],[]⟩)
theorem Cw(rd:Option Nat)(us:List Value)(h:ZP cG cH cK cI=some cJ):Lq 105 rd 65472 (Bn us cG cH cK cI) ((Bo us cG cH cK) cJ):=
 lL (fun s:Int=>Bn us cG cH cK s) (Bo us cG cH cK) cI (fun cI o h=>by
 unfold Ms at h
 refine iB 102 h (fun h=> ?_) fun h=> ?_
 obtain⟨h43,h⟩:=cS h
 refine gQ h43.1<|gQ (AF dW h43.2) ?_
 obtain⟨x15,h44,h⟩:=xS h
 refine gG 106 (.el (dW x15)) (AG dW h44) ?_
 obtain⟨h45,h⟩:=cS h
 refine gQ h45.1<|gQ (AF dW h45.2) ?_
 obtain⟨x16,h46,h⟩:=xS h
 refine gG 110 (.el (dW x16)) (AG dW h46) ?_
 obtain⟨r17,h47,h⟩:=bS h
 refine gQ (AS h47) ?_
 cases r17
 replace h:=CF h
 refine gW 111 (.ret (.d (D.b false))) ?_
 exact lb h
 replace h:=CG h
 refine gW 111 (.ret (.d (D.b true))) ?_
 exact lb h
 exact lb h) h
def Bp(us:List Value)(s1 s10:Int)(w0:List Int)(s11:Int):St:=⟨sp 168 0 [rx 0,sI 1 s1,sI 10 s10,sI 11 s11],[rW 0 32 1 dW w0,(997,.vals [.row 0] us)],[]⟩
def Bq(us:List Value)(s1 s10:Int)(w0:List Int)(o:Int):Ex×St:=(.exit 8,⟨sp 168 0 [rx 0,sI 1 s1,sI 10 s10,sI 11 o],[rW 0 32 1 dW w0,(997,.vals [.row 0] us)],[]⟩)
theorem Cx(rd:Option Nat)(us:List Value)(h:ZR cG cH cK cI=some cJ):Lq 105 rd 130948 (Bp us cG cH cK cI) ((Bq us cG cH cK) cJ):=
 lL (fun s:Int=>Bp us cG cH cK s) (Bq us cG cH cK) cI (fun cI o h=>by
 unfold Mt at h
 refine iB 118 h (fun h=> ?_) fun h=> ?_
 obtain⟨h51,h⟩:=cS h
 refine gQ h51.1<|gQ (AF dW h51.2) ?_
 obtain⟨x19,h52,h⟩:=xS h
 refine gG 122 (.el (dW x19)) (AG dW h52) ?_
 obtain⟨h53,h⟩:=cS h
 refine gQ h53.1<|gQ (AF dW h53.2) ?_
 obtain⟨x20,h54,h⟩:=xS h
 refine gG 126 (.el (dW x20)) (AG dW h54) ?_
 obtain⟨r21,h55,h⟩:=bS h
 refine gC 127 (AS h55) ?_
 refine iB 129 h (fun h=> ?_) fun h=> ?_
 exact lb h
 exact lb h
 exact lb h) h
def Bl(us:List Value)(s1 s10 s11:Int)(w0:List Int):St:=⟨sp 168 0 [rx 0,sI 1 s1,sI 10 s10,sI 11 s11],[rW 0 32 1 dW w0,(997,.vals [.row 0] us)],[]⟩
def Bm(us:List Value)(s1:Int)(o:(Int×List Int)):Ex×St:=(.exit 4,⟨sp 168 0 [rx 0,sI 1 s1,sI 11 o.1],[rW 0 32 1 dW o.2,(997,.vals [.row 0] us)],[]⟩)
theorem Cv(rd:Option Nat)(us:List Value)(h:PY cG cH cI cK=some cP):Lq 105 rd 4092 (Bl us cG cH cI cK) ((Bm us cG) cP):=
 lL (fun s:Int×Int×List Int=>Bl us cG s.1 s.2.1 s.2.2) (Bm us cG) (cH,cI,cK) (fun⟨cH,cI,cK⟩ o h=>by
 unfold HW at h
 obtain⟨o18,h49,h⟩:=bS h
 refine gl (Cw rd us h49) ?_
 obtain⟨o22,h57,h⟩:=bS h
 refine gl (Cx rd us h57) ?_
 refine iB 134 h (fun h=> ?_) fun h=> ?_
 exact lb h
 obtain⟨h59,h⟩:=cS h
 refine gQ h59.1<|gQ (AF dW h59.2) ?_
 obtain⟨x23,h60,h⟩:=xS h
 refine gG 142 (.el (dW x23)) (AG dW h60)<|gW 10147 (.sl ((cK.set o18.toNat x23).map dW)) ?_
 obtain⟨h61,h⟩:=cS h
 refine gQ h61.1<|gQ (AF dW h61.2) ?_
 obtain⟨x24,h62,h⟩:=xS h
 refine gG 146 (.el (dW x24)) (AG dW h62)<|gW 10148 (.sl (((cK.set o18.toNat x23).set o22.toNat x24).map dW)) ?_
 obtain⟨h63,h⟩:=cS h
 refine gQ h63.1<|gQ (AF dW h63.2) ?_
 obtain⟨h64,h⟩:=cS h
 refine gQ (A9 dW h64)<|gQ (AT dW cK o18 x23) ?_
 obtain⟨h65,h⟩:=cS h
 refine gQ h65.1<|gQ (AF dW h65.2) ?_
 obtain⟨h66,h⟩:=cS h
 refine gQ (A9 dW h66)<|gQ (AT dW (cK.set o18.toNat x23) o22 x24) ?_
 exact lb h) h
theorem AZ(h:X6 cG cH cI cK=some cR):AL Tryz.prog 105 [.row 0,dI cG,dI cH,dI cI] [rW 0 32 1 dW cK] (.tup [dI cR.1,.d (D.b cR.2.1)]) [rW 0 32 1 dW cR.2.2]:=by unfold X6 at h;refine XG.call (ks:=[0]) mixed fun us=> ?_;apply g0 (o:=cR);obtain⟨h1,h⟩:=cS h;refine gQ h1.1<|gQ (AF dW h1.2) ?_;obtain⟨x1,h2,h⟩:=xS h;refine gG 19 (.el (dW x1)) (AG dW h2)<|gW 10024 (.sl ((cK.set cG.toNat x1).map dW)) ?_;obtain⟨h3,h⟩:=cS h;refine gQ h3.1<|gQ (AF dW h3.2) ?_;obtain⟨x2,h4,h⟩:=xS h;refine gG 23 (.el (dW x2)) (AG dW h4)<|gW 10025 (.sl (((cK.set cG.toNat x1).set cI.toNat x2).map dW)) ?_;obtain⟨h5,h⟩:=cS h;refine gQ h5.1<|gQ (AF dW h5.2) ?_;obtain⟨h6,h⟩:=cS h;refine gQ (A9 dW h6)<|gQ (AT dW cK cG x1) ?_;obtain⟨h7,h⟩:=cS h;refine gQ h7.1<|gQ (AF dW h7.2) ?_;obtain⟨h8,h⟩:=cS h;refine gQ (A9 dW h8)<|gQ (AT dW (cK.set cG.toNat x1) cI x2) ?_;obtain⟨o6,h16,h⟩:=bS h;refine gl (Ct none us h16) ?_;obtain⟨o10,h24,h⟩:=bS h;refine gl (Cu none us h24) ?_;refine iB 65 h (fun h=> ?_) fun h=> ?_;obtain⟨h26,h⟩:=cS h;refine gQ h26.1<|gQ (AF dW h26.2) ?_;obtain⟨x11,h27,h⟩:=xS h;refine gG 73 (.el (dW x11)) (AG dW h27)<|gW 10078 (.sl ((((cK.set cG.toNat x1).set cI.toNat x2).set o10.toNat x11).map dW)) ?_;obtain⟨h28,h⟩:=cS h;refine gQ h28.1<|gQ (AF dW h28.2) ?_;obtain⟨x12,h29,h⟩:=xS h;refine gG 77 (.el (dW x12)) (AG dW h29)<|gW 10079 (.sl (((((cK.set cG.toNat x1).set cI.toNat x2).set o10.toNat x11).set cG.toNat x12).map dW)) ?_;obtain⟨h30,h⟩:=cS h;refine gQ h30.1<|gQ (AF dW h30.2) ?_;obtain⟨h31,h⟩:=cS h;refine gQ (A9 dW h31)<|gQ (AT dW ((cK.set cG.toNat x1).set cI.toNat x2) o10 x11) ?_;obtain⟨h32,h⟩:=cS h;refine gQ h32.1<|gQ (AF dW h32.2) ?_;obtain⟨h33,h⟩:=cS h;refine gQ (A9 dW h33)<|gQ (AT dW (((cK.set cG.toNat x1).set cI.toNat x2).set o10.toNat x11) cG x12) ?_;exact lX h (lv [8,9] [0,997]);obtain⟨h34,h⟩:=cS h;refine gQ h34.1<|gQ (AF dW h34.2) ?_;obtain⟨x13,h35,h⟩:=xS h;refine gG 88 (.el (dW x13)) (AG dW h35)<|gW 10093 (.sl ((((cK.set cG.toNat x1).set cI.toNat x2).set o6.toNat x13).map dW)) ?_;obtain⟨h36,h⟩:=cS h;refine gQ h36.1<|gQ (AF dW h36.2) ?_;obtain⟨x14,h37,h⟩:=xS h;refine gG 92 (.el (dW x14)) (AG dW h37)<|gW 10094 (.sl (((((cK.set cG.toNat x1).set cI.toNat x2).set o6.toNat x13).set o10.toNat x14).map dW)) ?_;obtain⟨h38,h⟩:=cS h;refine gQ h38.1<|gQ (AF dW h38.2) ?_;obtain⟨h39,h⟩:=cS h;refine gQ (A9 dW h39)<|gQ (AT dW ((cK.set cG.toNat x1).set cI.toNat x2) o6 x13) ?_;obtain⟨h40,h⟩:=cS h;refine gQ h40.1<|gQ (AF dW h40.2) ?_;obtain⟨h41,h⟩:=cS h;refine gQ (A9 dW h41)<|gQ (AT dW (((cK.set cG.toNat x1).set cI.toNat x2).set o6.toNat x13) o10 x14) ?_;obtain⟨o25,h67,h⟩:=bS h;refine gl (Cv none us h67) ?_;obtain⟨h68,h⟩:=cS h;refine gQ h68.1<|gQ (AF dW h68.2) ?_;obtain⟨x26,h69,h⟩:=xS h;refine gG 160 (.el (dW x26)) (AG dW h69)<|gW 10165 (.sl ((o25.2.set o25.1.toNat x26).map dW)) ?_;obtain⟨h70,h⟩:=cS h;refine gQ h70.1<|gQ (AF dW h70.2) ?_;obtain⟨x27,h71,h⟩:=xS h;refine gG 164 (.el (dW x27)) (AG dW h71)<|gW 10166 (.sl (((o25.2.set o25.1.toNat x26).set cG.toNat x27).map dW)) ?_;obtain⟨h72,h⟩:=cS h;refine gQ h72.1<|gQ (AF dW h72.2) ?_;obtain⟨h73,h⟩:=cS h;refine gQ (A9 dW h73)<|gQ (AT dW o25.2 o25.1 x26) ?_;obtain⟨h74,h⟩:=cS h;refine gQ h74.1<|gQ (AF dW h74.2) ?_;obtain⟨h75,h⟩:=cS h;refine gQ (A9 dW h75)<|gQ (AT dW (o25.2.set o25.1.toNat x26) cG x27) ?_;exact lX h (lv [8,9] [0,997])
theorem DR(rd:Option Nat)(self:Int->Int->Int->(List Int)->Option (List Int))(hs: ∀(a1 a2 a3:Int) (w0 r:List Int),self a1 a2 a3 w0=some r->AL Tryz.prog 72 [.row 0,dI a1,dI a2,dI a3] [rW 0 32 1 dW w0] (.tup []) [rW 0 32 1 dW r])(us:List Value){s1 s2 s3:Int}{s8 s9:Bool}{s10:Int}{s35:Bool}{w0:List Int}{o:(Int×List Int)}(h:Mv self s1 s2 s3 s8 s9 s10 s35 w0=some o):Lq 72 rd 1821 ⟨sp 134 0 [rx 0,sI 1 s1,sI 2 s2,sI 3 s3,sD 8 D.b s8,sD 9 D.b s9,sI 10 s10,sD 35 D.b s35],[rW 0 32 1 dW w0,(997,.vals [.row 0] us)],[]⟩ (.normal,⟨sp 134 0 [rx 0,sI 1 s1,sI 2 s2,sI 3 o.1,sD 8 D.b s8,sD 9 D.b s9,sI 10 s10],[rW 0 32 1 dW o.2,(997,.vals [.row 0] us)],[]⟩):=by unfold Mv at h;apply g0 (o:=o);cases s35;replace h:=CF h;exact lp h;replace h:=CG h;obtain⟨r3,h6,h⟩:=bS h;refine gG 39 (.cx false [(0,0)] [] (.tup []) [rW 0 32 1 dW r3]) (C5 h6) ?_;exact lp h
theorem DT(rd:Option Nat)(self:Int->Int->Int->(List Int)->Option (List Int))(hs: ∀(a1 a2 a3:Int) (w0 r:List Int),self a1 a2 a3 w0=some r->AL Tryz.prog 72 [.row 0,dI a1,dI a2,dI a3] [rW 0 32 1 dW w0] (.tup []) [rW 0 32 1 dW r])(us:List Value){s1 s2 s3:Int}{s8 s9:Bool}{s10 s11 s12:Int}{s50:Bool}{w0:List Int}{o:(Int×Int×List Int)}(h:Mw self s1 s2 s3 s8 s9 s10 s11 s12 s50 w0=some o):Lq 72 rd 7293 ⟨sp 134 0 [rx 0,sI 1 s1,sI 2 s2,sI 3 s3,sD 8 D.b s8,sD 9 D.b s9,sI 10 s10,sI 11 s11,sI 12 s12,sD 50 D.b s50],[rW 0 32 1 dW w0,(997,.vals [.row 0] us)],[]⟩ (.normal,⟨sp 134 0 [rx 0,sI 1 s1,sI 2 s2,sI 3 s3,sD 8 D.b s8,sD 9 D.b s9,sI 10 s10,sI 11 o.1,sI 12 o.2.1],[rW 0 32 1 dW o.2.2,(997,.vals [.row 0] us)],[]⟩):=by unfold Mw at h;apply g0 (o:=o);cases s50;replace h:=CF h;exact lp h;replace h:=CG h;obtain⟨r6,h10,h⟩:=bS h;refine gG 54 (.cx false [(0,0)] [] (.tup []) [rW 0 32 1 dW r6]) (C9 h10) ?_;exact lp h
theorem BF(rd:Option Nat)(self:Int->Int->Int->(List Int)->Option (List Int))(hs: ∀(a1 a2 a3:Int) (w0 r:List Int),self a1 a2 a3 w0=some r->AL Tryz.prog 72 [.row 0,dI a1,dI a2,dI a3] [rW 0 32 1 dW w0] (.tup []) [rW 0 32 1 dW r])(us:List Value){s1 s2 s3:Int}{s8 s9:Bool}{s10 s11:Int}{s68:Bool}{w0:List Int}{o:(List Int)⊕(List Int)}(h:JS self s1 s2 s3 s8 s9 s10 s11 s68 w0=some o):Lq 72 rd 14589 ⟨sp 134 0 [rx 0,sI 1 s1,sI 2 s2,sI 3 s3,sD 8 D.b s8,sD 9 D.b s9,sI 10 s10,sI 11 s11,sD 68 D.b s68],[rW 0 32 1 dW w0,(997,.vals [.row 0] us)],[]⟩ (match (generalizing:=false) o with
 | .inl o=>(.normal,⟨sp 134 0 [rx 0,sI 1 s1,sI 2 s2,sI 3 s3,sD 8 D.b s8,sD 9 D.b s9,sI 10 s10,sI 11 s11],[rW 0 32 1 dW o,(997,.vals [.row 0] us)],[]⟩)
 | .inr o=>(.ret,⟨sp 134 0 [],[rW 0 32 1 dW o,(997,.vals [.row 0] us)],[]⟩)):=by
 unfold JS at h
 apply g0 (o:=o)
 cases s68
 replace h:=CF h
 exact lp h
 replace h:=CG h
 obtain⟨r8,h15,h⟩:=bS h
 refine gQ (CN h15) ?_
 rcases r8 with⟨r8_1,r8_2⟩
 cases r8_1
 replace h:=CF h
 refine gW 72 (.cx false [(0,0)] [] (.d (D.b false)) [rW 0 32 1 dW r8_2]) ?_
 exact lp h
 replace h:=CG h
 refine gW 72 (.cx false [(0,0)] [] (.d (D.b true)) [rW 0 32 1 dW r8_2]) ?_
 exact lp h
theorem Ab(rd:Option Nat)(self:Int->Int->Int->(List Int)->Option (List Int))(hs: ∀(a1 a2 a3:Int) (w0 r:List Int),self a1 a2 a3 w0=some r->AL Tryz.prog 72 [.row 0,dI a1,dI a2,dI a3] [rW 0 32 1 dW w0] (.tup []) [rW 0 32 1 dW r])(us:List Value){s1 s2 s3:Int}{s9:Bool}{s14 s16:Int}{s17 s18:Int}{s113:Bool}{w0:List Int}{o:(Int×Int×Bool×List Int)}(h:FX self s1 s2 s3 s9 s14 s16 s17 s18 s113 w0=some o):Lq 72 rd 466943 ⟨sp 134 0 [rx 0,sI 1 s1,sI 2 s2,sI 3 s3,sD 9 D.b s9,sI 14 s14,sI 16 s16,sI 17 s17,sI 18 s18,sD 113 D.b s113],[rW 0 32 1 dW w0,(997,.vals [.row 0] us)],[]⟩ (.normal,⟨sp 134 0 [rx 0,sI 1 o.1,sI 2 o.2.1,sI 3 s3,sD 8 D.b o.2.2.1,sD 9 D.b s9],[rW 0 32 1 dW o.2.2.2,(997,.vals [.row 0] us)],[]⟩):=by unfold FX at h;apply g0 (o:=o);cases s113;replace h:=CF h;obtain⟨r18,h29,h⟩:=bS h;refine gG 132 (.cx false [(0,0)] [] (.tup []) [rW 0 32 1 dW r18]) (hs (AA .add .i64 s14 1) s2 s3 w0 r18 h29) ?_;exact lp h;replace h:=CG h;obtain⟨r17,h28,h⟩:=bS h;refine gG 121 (.cx false [(0,0)] [] (.tup []) [rW 0 32 1 dW r17]) (hs s1 s14 s3 w0 r17 h28) ?_;exact lp h
theorem DQ(rd:Option Nat)(self:Int->Int->Int->(List Int)->Option (List Int))(hs: ∀(a1 a2 a3:Int) (w0 r:List Int),self a1 a2 a3 w0=some r->AL Tryz.prog 72 [.row 0,dI a1,dI a2,dI a3] [rW 0 32 1 dW w0] (.tup []) [rW 0 32 1 dW r])(us:List Value){s1 s2 s3:Int}{s8 s9:Bool}{w0:List Int}{o:(Int×Int×Int×Bool×Bool×List Int)⊕(List Int)}(h:Mu self s1 s2 s3 s8 s9 w0=some o):Lq 72 rd 28 ⟨sp 134 0 [rx 0,sI 1 s1,sI 2 s2,sI 3 s3,sD 8 D.b s8,sD 9 D.b s9],[rW 0 32 1 dW w0,(997,.vals [.row 0] us)],[]⟩ (match (generalizing:=false) o with
 | .inl o=>(.normal,⟨sp 134 0 [rx 0,sI 1 o.1,sI 2 o.2.1,sI 3 o.2.2.1,sD 8 D.b o.2.2.2.1,sD 9 D.b o.2.2.2.2.1],[rW 0 32 1 dW o.2.2.2.2.2,(997,.vals [.row 0] us)],[]⟩)
 | .inr o=>(.ret,⟨sp 134 0 [],[rW 0 32 1 dW o,(997,.vals [.row 0] us)],[]⟩)):=by
 unfold Mu at h
 apply g0 (o:=o)
 refine iB 23 h (fun h=> ?_) fun h=> ?_
 obtain⟨r1,h2,h⟩:=bS h
 refine gG 27 (.cx false [(0,0)] [] (.tup []) [rW 0 32 1 dW r1]) (C6 h2) ?_
 exact lp h
 refine iB 29 h (fun h=> ?_) fun h=> ?_
 obtain⟨r2,h4,h⟩:=bS h
 refine gG 33 (.cx false [(0,0)] [] (.tup []) [rW 0 32 1 dW r2]) (Da h4) ?_
 exact lp h
 obtain⟨o4,h7,h⟩:=bS h
 refine gl (DR rd self hs us h7) ?_
 obtain⟨r5,h8,h⟩:=bS h
 refine gG 46 (.lend [0] (.tup [dI r5.1,dI r5.2])) (DC h8) ?_
 obtain⟨o7,h11,h⟩:=bS h
 refine gl (DT rd self hs us h11) ?_
 refine iB 62 h (fun h=> ?_) fun h=> ?_
 refine iB 65 h (fun h=> ?_) fun h=> ?_
 obtain⟨o9,h17,h⟩:=bS h
 refine gl (BF rd self hs us h17) ?_
 replace h:=AK h
 rcases h with⟨o10,rfl,h⟩|⟨o11,rfl,h⟩
 refine iB 75 h (fun h=> ?_) fun h=> ?_
 obtain⟨h19,h⟩:=cS h
 refine gQ h19.1<|gQ (AF dW h19.2) ?_
 obtain⟨x12,h20,h⟩:=xS h
 refine gG 80 (.el (dW x12)) (AG dW h20) ?_
 obtain⟨h21,h⟩:=cS h
 refine gQ h21.1<|gQ (AF dW h21.2) ?_
 obtain⟨x13,h22,h⟩:=xS h
 refine gG 84 (.el (dW x13)) (AG dW h22) ?_
 obtain⟨r14,h23,h⟩:=bS h
 refine gC 85 (AS h23) ?_
 refine iB 87 h (fun h=> ?_) fun h=> ?_
 obtain⟨r15,h25,h⟩:=bS h
 refine gG 92 (.cx false [(0,0)] [] (dI r15.1) [rW 0 32 1 dW r15.2]) (Aq h25) ?_
 exact lp h
 obtain⟨r16,h26,h⟩:=bS h
 refine gG 99 (.cx false [(0,0)] [] (.tup [dI r16.1,.d (D.b r16.2.1)]) [rW 0 32 1 dW r16.2.2]) (AZ h26)<|gQ (of_decide_eq_true rfl:(8:Int)≠0) ?_
 obtain⟨o19,h30,h⟩:=bS h
 refine gl (Ab rd self hs us h30) ?_
 exact lp h
 obtain⟨r20,h31,h⟩:=bS h
 refine gG 99 (.cx false [(0,0)] [] (.tup [dI r20.1,.d (D.b r20.2.1)]) [rW 0 32 1 dW r20.2.2]) (AZ h31)<|gQ (of_decide_eq_true rfl:(8:Int)≠0) ?_
 obtain⟨o21,h32,h⟩:=bS h
 refine gl (Ab rd self hs us h32) ?_
 exact lp h
 exact lp h
 obtain⟨o22,h33,h⟩:=bS h
 refine gl (BF rd self hs us h33) ?_
 replace h:=AK h
 rcases h with⟨o23,rfl,h⟩|⟨o24,rfl,h⟩
 refine iB 75 h (fun h=> ?_) fun h=> ?_
 obtain⟨h35,h⟩:=cS h
 refine gQ h35.1<|gQ (AF dW h35.2) ?_
 obtain⟨x25,h36,h⟩:=xS h
 refine gG 80 (.el (dW x25)) (AG dW h36) ?_
 obtain⟨h37,h⟩:=cS h
 refine gQ h37.1<|gQ (AF dW h37.2) ?_
 obtain⟨x26,h38,h⟩:=xS h
 refine gG 84 (.el (dW x26)) (AG dW h38) ?_
 obtain⟨r27,h39,h⟩:=bS h
 refine gC 85 (AS h39) ?_
 refine iB 87 h (fun h=> ?_) fun h=> ?_
 obtain⟨r28,h41,h⟩:=bS h
 refine gG 92 (.cx false [(0,0)] [] (dI r28.1) [rW 0 32 1 dW r28.2]) (Aq h41) ?_
 exact lp h
 obtain⟨r29,h42,h⟩:=bS h
 refine gG 99 (.cx false [(0,0)] [] (.tup [dI r29.1,.d (D.b r29.2.1)]) [rW 0 32 1 dW r29.2.2]) (AZ h42)<|gQ (of_decide_eq_true rfl:(8:Int)≠0) ?_
 obtain⟨o30,h43,h⟩:=bS h
 refine gl (Ab rd self hs us h43) ?_
 exact lp h
 obtain⟨r31,h44,h⟩:=bS h
 refine gG 99 (.cx false [(0,0)] [] (.tup [dI r31.1,.d (D.b r31.2.1)]) [rW 0 32 1 dW r31.2.2]) (AZ h44)<|gQ (of_decide_eq_true rfl:(8:Int)≠0) ?_
 obtain⟨o32,h45,h⟩:=bS h
 refine gl (Ab rd self hs us h45) ?_
 exact lp h
 exact lp h
 obtain⟨o33,h46,h⟩:=bS h
 refine gl (BF rd self hs us h46) ?_
 replace h:=AK h
 rcases h with⟨o34,rfl,h⟩|⟨o35,rfl,h⟩
 refine iB 75 h (fun h=> ?_) fun h=> ?_
 obtain⟨h48,h⟩:=cS h
 refine gQ h48.1<|gQ (AF dW h48.2) ?_
 obtain⟨x36,h49,h⟩:=xS h
 refine gG 80 (.el (dW x36)) (AG dW h49) ?_
 obtain⟨h50,h⟩:=cS h
 refine gQ h50.1<|gQ (AF dW h50.2) ?_
 obtain⟨x37,h51,h⟩:=xS h
 refine gG 84 (.el (dW x37)) (AG dW h51) ?_
 obtain⟨r38,h52,h⟩:=bS h
 refine gC 85 (AS h52) ?_
 refine iB 87 h (fun h=> ?_) fun h=> ?_
 obtain⟨r39,h54,h⟩:=bS h
 refine gG 92 (.cx false [(0,0)] [] (dI r39.1) [rW 0 32 1 dW r39.2]) (Aq h54) ?_
 exact lp h
 obtain⟨r40,h55,h⟩:=bS h
 refine gG 99 (.cx false [(0,0)] [] (.tup [dI r40.1,.d (D.b r40.2.1)]) [rW 0 32 1 dW r40.2.2]) (AZ h55)<|gQ (of_decide_eq_true rfl:(8:Int)≠0) ?_
 obtain⟨o41,h56,h⟩:=bS h
 refine gl (Ab rd self hs us h56) ?_
 exact lp h
 obtain⟨r42,h57,h⟩:=bS h
 refine gG 99 (.cx false [(0,0)] [] (.tup [dI r42.1,.d (D.b r42.2.1)]) [rW 0 32 1 dW r42.2.2]) (AZ h57)<|gQ (of_decide_eq_true rfl:(8:Int)≠0) ?_
 obtain⟨o43,h58,h⟩:=bS h
 refine gl (Ab rd self hs us h58) ?_
 exact lp h
 exact lp h
def CI(us:List Value)(s1 s2 s3:Int)(s8 s9:Bool)(w0:List Int):St:=⟨sp 134 0 [rx 0,sI 1 s1,sI 2 s2,sI 3 s3,sD 8 D.b s8,sD 9 D.b s9],[rW 0 32 1 dW w0,(997,.vals [.row 0] us)],[]⟩
def CJ(us:List Value)(o:(List Int)):Ex×St:=(.ret,⟨sp 134 0 [],[rW 0 32 1 dW o,(997,.vals [.row 0] us)],[]⟩)
theorem DU(rd:Option Nat)(self:Int->Int->Int->(List Int)->Option (List Int))(hs: ∀(a1 a2 a3:Int) (w0 r:List Int),self a1 a2 a3 w0=some r->AL Tryz.prog 72 [.row 0,dI a1,dI a2,dI a3] [rW 0 32 1 dW w0] (.tup []) [rW 0 32 1 dW r])(us:List Value){s1 s2 s3:Int}{s8 s9:Bool}{w0:List Int}{t:(List Int)}(h:Pa self s1 s2 s3 s8 s9 w0=some t):Lq 72 rd 14 (CI us s1 s2 s3 s8 s9 w0) ((CJ us) t):=
 lL (fun s:Int×Int×Int×Bool×Bool×List Int=>CI us s.1 s.2.1 s.2.2.1 s.2.2.2.1 s.2.2.2.2.1 s.2.2.2.2.2) (CJ us) (s1,s2,s3,s8,s9,w0) (fun⟨s1,s2,s3,s8,s9,w0⟩ o h=>by
 unfold Hc at h
 obtain⟨o44,h59,h⟩:=bS h
 refine gl (DQ rd self hs us h59) ?_
 replace h:=AK h
 rcases h with⟨o45,rfl,h⟩|⟨o46,rfl,h⟩
 exact lb h
 exact lb h) h
theorem DZ(self:Int->Int->Int->(List Int)->Option (List Int))(hs: ∀(a1 a2 a3:Int) (w0 r:List Int),self a1 a2 a3 w0=some r->AL Tryz.prog 72 [.row 0,dI a1,dI a2,dI a3] [rW 0 32 1 dW w0] (.tup []) [rW 0 32 1 dW r])(a1 a2 a3:Int)(w0 r:List Int)(h:aJk self a1 a2 a3 w0=some r):AL Tryz.prog 72 [.row 0,dI a1,dI a2,dI a3] [rW 0 32 1 dW w0] (.tup []) [rW 0 32 1 dW r]:=by unfold aJk at h;refine XG.call (ks:=[0]) mixed fun us=> ?_;apply g0 (o:=r);obtain⟨o47,h60,h⟩:=bS h;refine gl (DU none self hs us h60) ?_;exact lX h (lv [] [0,997])
theorem CK: ∀(n:Nat) (a1 a2 a3:Int) (w0 r:List Int),aH3 n a1 a2 a3 w0=some r->AL Tryz.prog 72 [.row 0,dI a1,dI a2,dI a3] [rW 0 32 1 dW w0] (.tup []) [rW 0 32 1 dW r]
 |0,a1,a2,a3,w0,r,h=>by simp [aH3]at h
 |n+1,a1,a2,a3,w0,r,h=>DZ _ (CK n) a1 a2 a3 w0 r h
theorem Dk(h:X9 cG cH cI cK=some cT):AL Tryz.prog 72 [.row 0,dI cG,dI cH,dI cI] [rW 0 32 1 dW cK] (.tup []) [rW 0 32 1 dW cT]:=CK 100000 cG cH cI cK cT h
theorem D3(h:Q5 cK=some cT):AL Tryz.prog 41 [.row 0] [rW 0 32 1 dW cK] (.tup []) [rW 0 32 1 dW cT]:=by unfold Q5 at h;refine XG.call (ks:=[0]) mixed fun us=> ?_;apply g0 (o:=cT);refine gN 4 dW cK ?_;obtain⟨r1,h1,h⟩:=bS h;refine gC 9 (aJa h1) ?_;obtain⟨r2,h2,h⟩:=bS h;refine gG 10 (.cx false [(0,0)] [] (.tup []) [rW 0 32 1 dW r2]) (Dk h2) ?_;exact lX h (lv [] [0,997])
theorem aOr(h:Zv cV cU cG=some cK):AL Tryz.prog 11 [.d (AD.D cV),.d ((D.l X2.D) cU),.d (dW cG)] [] (.d ((D.l dW) cK)) []:=by unfold Zv at h;apply g0 (o:=cK);obtain⟨r1,h1,h⟩:=bS h;refine gG 14 (.cx false [] [(0,14),(1,421),(2,428)] (.tup [.row 0,.row 1,.row 2]) [rW 0 32 1 dW r1.1,(1,.map r1.2.1.clk (MP.dl dW dW r1.2.1)),(2,.map r1.2.2.clk (MP.dl dW dU r1.2.2))]) (aR0 h1) ?_;obtain⟨r2,h2,h⟩:=bS h;refine gG 19 (.cx false [(0,14)] [] (.tup []) [rW 0 32 1 dW r2]) (D3 h2) ?_;exact lF h [.frz 14]
def VD(s1:Int)(s8:List Xb)(s9 s10:Int):St:=⟨sp 26 0 [sD 1 dW s1,sD 8 (D.l Xb.D) s8,sI 9 s9,sI 10 s10],[],[]⟩
def VE(s1:Int)(s8:List Xb)(s9:Int)(o:Unit⊕Unit):Ex×St:=match o with
 | .inl o=>(.exit 0,⟨sp 26 0 [],[],[]⟩)
 | .inr o=>(.ret,⟨sp 26 0 [sD 4 D.b true],[],[]⟩)
theorem aFd(rd:Option Nat)(h:aKv cG d5 cH cI=some dR):Lq 52 rd 26 (VD cG d5 cH cI) ((VE cG d5 cH) dR):=
 lL (fun s:Int=>VD cG d5 cH s) (VE cG d5 cH) cI (fun cI o h=>by
 unfold IT at h
 refine iB 11 h (fun h=> ?_) fun h=> ?_
 refine xX 13 Xb.D h fun x1 h=> ?_
 refine iB 17 h (fun h=> ?_) fun h=> ?_
 obtain⟨h4,h⟩:=cS h
 refine gQ h4 ?_
 refine iB 24 h (fun h=> ?_) fun h=> ?_
 exact lb h
 exact lb h
 exact lb h
 exact lb h) h
theorem aOc(h:Yv cV cG=some d4):AL Tryz.prog 52 [.d (AD.D cV),.d (dW cG)] [] (.d (D.b d4)) []:=by
 unfold Yv at h;apply g0 (o:=d4);refine gN 9 Xb.D cV.states ?_;obtain⟨o2,h6,h⟩:=bS h;refine gl (aFd none h6) ?_;replace h:=AK h;rcases h with⟨o3,rfl,h⟩|⟨o4,rfl,h⟩
 exact lf h;exact lf h
theorem aQ1(h:Qy cG cV=some d4):AL Tryz.prog 75 [.d (dW cG),.eptr (D.cells (AD.D cV))] [] (.d (D.b d4)) []:=by unfold Qy at h;apply g0 (o:=d4);obtain⟨r1,h1,h⟩:=bS h;refine gC 6 (aOc h1) ?_;exact lf h
def Vs(s0:List Int)(s1:AD)(s7 s8:Int):St:=⟨sp 19 0 [sD 0 (D.l dW) s0,(1,.clo (.func 75) [] [.eptr (D.cells (AD.D s1))]),sI 7 s7,sI 8 s8],[],[]⟩
def Vt(s0:List Int)(s1:AD)(s7:Int)(o:Unit⊕Int):Ex×St:=match o with
 | .inl o=>(.exit 0,⟨sp 19 0 [],[],[]⟩)
 | .inr o=>(.ret,⟨sp 19 0 [sI 4 o],[],[]⟩)
theorem aF0(rd:Option Nat)(h:aLa cK cV cG cH=some dS):Lq 108 rd 26 (Vs cK cV cG cH) ((Vt cK cV cG) dS):=
 lL (fun s:Int=>Vs cK cV cG s) (Vt cK cV cG) cH (fun cH o h=>by
 unfold Ij at h
 refine iB 9 h (fun h=> ?_) fun h=> ?_
 refine xX 14 dW h fun x1 h=> ?_
 obtain⟨r2,h3,h⟩:=bS h
 refine gQ (aQ1 h3) ?_
 cases r2
 replace h:=CF h
 refine gW 16 (.ret (.d (D.b false))) ?_
 exact lb h
 replace h:=CG h
 refine gW 16 (.ret (.d (D.b true))) ?_
 exact lb h
 exact lb h) h
theorem aTl(h:Zf cK cV=some cG):AL Tryz.prog 108 [.d ((D.l dW) cK),.clo (.func 75) [] [.eptr (D.cells (AD.D cV))]] [] (dI cG) []:=by
 unfold Zf at h;apply g0 (o:=cG);refine gN 7 dW cK ?_;obtain⟨o3,h5,h⟩:=bS h;refine gl (aF0 none h5) ?_;replace h:=AK h;rcases h with⟨o4,rfl,h⟩|⟨o5,rfl,h⟩
 exact lf h;exact lf h
theorem aQs(h:Qp cK cV=some d4):AL Tryz.prog 76 [.d ((D.l dW) cK),.clo (.func 75) [] [.eptr (D.cells (AD.D cV))]] [] (.d (D.b d4)) []:=by unfold Qp at h;apply g0 (o:=d4);obtain⟨r1,h1,h⟩:=bS h;refine gC 7 (aTl h1) ?_;exact lf h
theorem aQ2(h:Qz cG cV=some d4):AL Tryz.prog 74 [.d (dW cG),.eptr (D.cells (AD.D cV))] [] (.d (D.b d4)) []:=by unfold Qz at h;apply g0 (o:=d4);obtain⟨r1,h1,h⟩:=bS h;refine gC 6 (aOc h1) ?_;exact lf h
def Vu(s0:List Int)(s1:AD)(s7 s8:Int):St:=⟨sp 19 0 [sD 0 (D.l dW) s0,(1,.clo (.func 74) [] [.eptr (D.cells (AD.D s1))]),sI 7 s7,sI 8 s8],[],[]⟩
def Vv(s0:List Int)(s1:AD)(s7:Int)(o:Unit⊕Int):Ex×St:=match o with
 | .inl o=>(.exit 0,⟨sp 19 0 [],[],[]⟩)
 | .inr o=>(.ret,⟨sp 19 0 [sI 4 o],[],[]⟩)
theorem aF1(rd:Option Nat)(h:aLb cK cV cG cH=some dS):Lq 108 rd 26 (Vu cK cV cG cH) ((Vv cK cV cG) dS):=
 lL (fun s:Int=>Vu cK cV cG s) (Vv cK cV cG) cH (fun cH o h=>by
 unfold Ik at h
 refine iB 9 h (fun h=> ?_) fun h=> ?_
 refine xX 14 dW h fun x1 h=> ?_
 obtain⟨r2,h3,h⟩:=bS h
 refine gQ (aQ2 h3) ?_
 cases r2
 replace h:=CF h
 refine gW 16 (.ret (.d (D.b false))) ?_
 exact lb h
 replace h:=CG h
 refine gW 16 (.ret (.d (D.b true))) ?_
 exact lb h
 exact lb h) h
theorem aTm(h:Zg cK cV=some cG):AL Tryz.prog 108 [.d ((D.l dW) cK),.clo (.func 74) [] [.eptr (D.cells (AD.D cV))]] [] (dI cG) []:=by
 unfold Zg at h;apply g0 (o:=cG);refine gN 7 dW cK ?_;obtain⟨o3,h5,h⟩:=bS h;refine gl (aF1 none h5) ?_;replace h:=AK h;rcases h with⟨o4,rfl,h⟩|⟨o5,rfl,h⟩
 exact lf h;exact lf h
theorem aQt(h:Qq cK cV=some d4):AL Tryz.prog 76 [.d ((D.l dW) cK),.clo (.func 74) [] [.eptr (D.cells (AD.D cV))]] [] (.d (D.b d4)) []:=by unfold Qq at h;apply g0 (o:=d4);obtain⟨r1,h1,h⟩:=bS h;refine gC 7 (aTm h1) ?_;exact lf h
theorem aQu(h:Qr cV cK=some cG):AL Tryz.prog 42 [.d (AD.D cV),.d ((D.l dW) cK)] [] (dI cG) []:=by unfold Qr at h;apply g0 (o:=cG);refine gW 2 .frz ?_;obtain⟨r1,h1,h⟩:=bS h;refine gC 12 (aQs h1) ?_;refine iB 9 h (fun h=> ?_) fun h=> ?_;exact lf h;obtain⟨r2,h3,h⟩:=bS h;refine gC 17 (aQt h3) ?_;refine iB 14 h (fun h=> ?_) fun h=> ?_;exact lf h;exact lf h
theorem aOk(h:Zn cV cU cG=some cH):AL Tryz.prog 12 [.d (AD.D cV),.d ((D.l X2.D) cU),.d (dW cG)] [] (dI cH) []:=by unfold Zn at h;apply g0 (o:=cH);obtain⟨r1,h1,h⟩:=bS h;refine gC 11 (aOr h1) ?_;obtain⟨r2,h2,h⟩:=bS h;refine gC 12 (aQu h2) ?_;exact lf h
theorem aLh(h:Zw=some d4):AL Tryz.prog 9 [] [] (.d (D.b d4)) []:=by unfold Zw at h;apply g0 (o:=d4);refine gQ (Ar Xb.D ([Xb.mk ([115]:List UInt8) false true,Xb.mk ([116]:List UInt8) true false])) ?_;obtain⟨r1,h1,h⟩:=bS h;refine gC 7 (aLd h1) ?_;refine iB 9 h (fun h=> ?_) fun h=> ?_;obtain⟨r2,h3,h⟩:=bS h;refine gC 11 (aLd h3) ?_;refine iB 14 h (fun h=> ?_) fun h=> ?_;obtain⟨r3,h5,h⟩:=bS h;refine gC 16 (aRw h5) ?_;refine iB 19 h (fun h=> ?_) fun h=> ?_;obtain⟨r4,h7,h⟩:=bS h;refine gC 21 (aOk h7) ?_;exact lf h;exact lf h;exact lf h;exact lf h
def Uh(s0:List X0)(w3:X0)(s5:Int):St:=⟨sp 48 0 [sD 0 (D.l X0.D) s0,bx 3,sI 5 s5],[cL 3 X0.D w3],[]⟩
def Ui(s0:List X0)(w3:X0)(o:Int):Ex×St:=(.exit 0,⟨sp 48 0 [sD 0 (D.l X0.D) s0,bx 3,sI 5 o],[cL 3 X0.D w3],[]⟩)
theorem aEk(rd:Option Nat)(h:aKk dV dX cG=some cH):Lq 119 rd 28 (Uh dV dX cG) ((Ui dV dX) cH):=
 lL (fun s:Int=>Uh dV dX s) (Ui dV dX) cG (fun cG o h=>by
 unfold IK at h
 refine iB 11 h (fun h=> ?_) fun h=> ?_
 refine xX 16 X0.D h fun x1 h=> ?_
 obtain⟨r2,h3,h⟩:=bS h
 refine gQ (aLe h3) ?_
 cases r2
 replace h:=CF h
 refine gW 18 (.ret (.d (D.b false))) ?_
 exact lb h
 replace h:=CG h
 refine gW 18 (.ret (.d (D.b true))) ?_
 exact lb h
 exact lb h) h
theorem Pr(h:Yd dV dX=some dY):AL Tryz.prog 119 [.d ((D.l X0.D) dV),.d (X0.D dX)] [] (.d ((D.l X0.D) dY)) []:=by unfold Yd at h;apply g0 (o:=dY);refine gN 8 X0.D dV ?_;obtain⟨o3,h5,h⟩:=bS h;refine gl (aEk none h5) ?_;refine iB 24 h (fun h=> ?_) fun h=> ?_;refine xX 28 X0.D h fun x4 h=> ?_;refine iB 32 h (fun h=> ?_) fun h=> ?_;exact lf h;refine gQ (Ar X0.D ([]:List X0))<|gW 37 (.sl ((sub dV 0 o3).map X0.D))<|gW 38 (.sl ((([]:List X0)++(sub dV 0 o3)).map X0.D))<|gW 42 (.sl (((([]:List X0)++(sub dV 0 o3))++[dX]).map X0.D))<|gW 46 (.sl ((sub dV o3 (dV.length:Int)).map X0.D))<|gW 47 (.sl ((((([]:List X0)++(sub dV 0 o3))++[dX])++(sub dV o3 (dV.length:Int))).map X0.D)) ?_;obtain⟨h9,h⟩:=cS h;refine gQ (Fq X0.D h9)<|gQ (Ar X0.D (sub dV 0 o3)) ?_;obtain⟨h10,h⟩:=cS h;refine gQ (A6 X0.D h10)<|gQ (A5 X0.D ([]:List X0) (sub dV 0 o3))<|gQ (Ar X0.D [dX])<|gQ (Ar X0.D [dX]) ?_;obtain⟨h11,h⟩:=cS h;refine gQ (A6 X0.D h11)<|gQ (A5 X0.D (([]:List X0)++(sub dV 0 o3)) [dX]) ?_;obtain⟨h12,h⟩:=cS h;refine gQ (Fp X0.D h12)<|gQ (Ar X0.D (sub dV o3 (dV.length:Int))) ?_;obtain⟨h13,h⟩:=cS h;refine gQ (A6 X0.D h13)<|gQ (A5 X0.D ((([]:List X0)++(sub dV 0 o3))++[dX]) (sub dV o3 (dV.length:Int))) ?_;exact lf h;refine gQ (Ar X0.D ([]:List X0))<|gW 37 (.sl ((sub dV 0 o3).map X0.D))<|gW 38 (.sl ((([]:List X0)++(sub dV 0 o3)).map X0.D))<|gW 42 (.sl (((([]:List X0)++(sub dV 0 o3))++[dX]).map X0.D))<|gW 46 (.sl ((sub dV o3 (dV.length:Int)).map X0.D))<|gW 47 (.sl ((((([]:List X0)++(sub dV 0 o3))++[dX])++(sub dV o3 (dV.length:Int))).map X0.D)) ?_;obtain⟨h14,h⟩:=cS h;refine gQ (Fq X0.D h14)<|gQ (Ar X0.D (sub dV 0 o3)) ?_;obtain⟨h15,h⟩:=cS h;refine gQ (A6 X0.D h15)<|gQ (A5 X0.D ([]:List X0) (sub dV 0 o3))<|gQ (Ar X0.D [dX])<|gQ (Ar X0.D [dX]) ?_;obtain⟨h16,h⟩:=cS h;refine gQ (A6 X0.D h16)<|gQ (A5 X0.D (([]:List X0)++(sub dV 0 o3)) [dX]) ?_;obtain⟨h17,h⟩:=cS h;refine gQ (Fp X0.D h17)<|gQ (Ar X0.D (sub dV o3 (dV.length:Int))) ?_;obtain⟨h18,h⟩:=cS h;refine gQ (A6 X0.D h18)<|gQ (A5 X0.D ((([]:List X0)++(sub dV 0 o3))++[dX]) (sub dV o3 (dV.length:Int))) ?_;exact lf h
theorem aBc(rd:Option Nat)(h:S1 cG d4 cV=some e9):Lq 118 rd 29 ⟨sp 56 0 [sI 1 cG,bx 2,(5,.nil),sD 10 D.b d4],[cL 2 AD.D cV],[]⟩ (.normal,⟨sp 56 0 [sI 1 cG,bx 2,rx 5],[cL 2 AD.D cV,(5,.row 62 4 (e9.map X0.D))],[]⟩):=by unfold S1 at h;apply g0 (o:=e9);cases d4;replace h:=CF h;exact lP h [.live [1,2,5],.keep [2],.nil 5 5 62 4,.sort];replace h:=CG h;refine gQ (Ar X0.D ([X0.mk 3 0 ([]:List UInt8) false,X0.mk 3 0 ([]:List UInt8) true])) ?_;exact lP h [.live [1,2,5],.keep [2,13],.ren 13 5,.sort]
theorem OE(rd:Option Nat)(h:S4 cG dV cH cI d4 cV eA=some e9):Lq 118 rd 500883 ⟨sp 56 0 [sI 1 cG,bx 2,sD 5 (D.l X0.D) dV,sI 6 cH,sI 7 cI,bx 8,sD 50 D.b d4],[cL 2 AD.D cV,cL 8 CE.D eA],[]⟩ (.normal,⟨sp 56 0 [sI 1 cG,bx 2,sD 5 (D.l X0.D) e9,sI 6 cH,sI 7 cI],[cL 2 AD.D cV],[]⟩):=by unfold S4 at h;apply g0 (o:=e9);cases d4;replace h:=CF h;exact lp h;replace h:=CG h;obtain⟨r12,h20,h⟩:=bS h;refine gC 54 (Pr h20) ?_;exact lp h
theorem aBe(rd:Option Nat)(h:aBd cG dV cH cI cV=some e9):Lq 118 rd 62610 ⟨sp 56 0 [sI 1 cG,bx 2,sD 5 (D.l X0.D) dV,sI 6 cH,sI 7 cI],[cL 2 AD.D cV],[]⟩ (.normal,⟨sp 56 0 [sI 1 cG,bx 2,sD 5 (D.l X0.D) e9,sI 6 cH,sI 7 cI],[cL 2 AD.D cV],[]⟩):=by unfold aBd at h;apply g0 (o:=e9);refine xX 35 X3.D h fun x10 h=> ?_;refine xX 39 CE.D h fun x11 h=> ?_;refine iB 44 h (fun h=> ?_) fun h=> ?_;obtain⟨o13,h21,h⟩:=bS h;refine gl (OE rd h21) ?_;exact lp h;obtain⟨o14,h22,h⟩:=bS h;refine gl (OE rd h22) ?_;exact lp h
def S7(s1 s6:Int)(w2:AD)(s5:List X0)(s7:Int):St:=⟨sp 56 0 [sI 1 s1,bx 2,sD 5 (D.l X0.D) s5,sI 6 s6,sI 7 s7],[cL 2 AD.D w2],[]⟩
def S8(s1 s6:Int)(w2:AD)(o:(List X0)):Ex×St:=(.exit 2,⟨sp 56 0 [sI 1 s1,bx 2,sD 5 (D.l X0.D) o,sI 6 s6],[cL 2 AD.D w2],[]⟩)
theorem aBh(rd:Option Nat)(h:aBg cG cH cV dV cI=some e9):Lq 118 rd 7826 (S7 cG cH cV dV cI) ((S8 cG cH cV) e9):=
 lL (fun s:List X0×Int=>S7 cG cH cV s.1 s.2) (S8 cG cH cV) (dV,cI) (fun⟨dV,cI⟩ o h=>by
 unfold Hs at h
 refine xX 25 X3.D h fun x17 h=> ?_
 refine gN 28 CE.D x17.args ?_
 refine iB 29 h (fun h=> ?_) fun h=> ?_
 obtain⟨o18,h28,h⟩:=bS h
 refine gl (aBe rd h28) ?_
 exact lb h
 exact lb h) h
def S5(s1:Int)(w2:AD)(s5:List X0)(s6:Int):St:=⟨sp 56 0 [sI 1 s1,bx 2,sD 5 (D.l X0.D) s5,sI 6 s6],[cL 2 AD.D w2],[]⟩
def S6(s1:Int)(w2:AD)(o:(List X0)):Ex×St:=(.exit 0,⟨sp 56 0 [sD 5 (D.l X0.D) o],[],[]⟩)
theorem aBf(rd:Option Nat)(h:aJv cG cV dV cH=some e9):Lq 118 rd 122 (S5 cG cV dV cH) ((S6 cG cV) e9):=
 lL (fun s:List X0×Int=>S5 cG cV s.1 s.2) (S6 cG cV) (dV,cH) (fun⟨dV,cH⟩ o h=>by
 unfold Hr at h
 refine gN 17 X3.D cV.symbols ?_
 refine iB 18 h (fun h=> ?_) fun h=> ?_
 obtain⟨o19,h29,h⟩:=bS h
 refine gl (aBh rd h29) ?_
 exact lb h
 exact lb h) h
theorem aRk(h:Xj cV cG=some dV):AL Tryz.prog 118 [.d (AD.D cV),dI cG] [] (.d ((D.l X0.D) dV)) []:=by unfold Xj at h;apply g0 (o:=dV);obtain⟨o1,h2,h⟩:=bS h;refine gl (aBc none h2) ?_;obtain⟨o20,h30,h⟩:=bS h;refine gL [.look 5,.live [1,2,5,6],.keep [2]] (aBf none h30) ?_;exact lf h
theorem aEr(rd:Option Nat)(h:aKn dV cG dY cH d4=some e9):Lq 122 rd 1865 ⟨sp 27 0 [sD 0 (D.l X0.D) dV,sI 1 cG,sD 5 (D.l X0.D) dY,sI 6 cH,sD 19 D.b d4],[],[]⟩ (.normal,⟨sp 27 0 [sD 0 (D.l X0.D) dV,sI 1 cG,sD 5 (D.l X0.D) e9,sI 6 cH],[],[]⟩):=by unfold aKn at h;apply g0 (o:=e9);cases d4;replace h:=CF h;exact lp h;replace h:=CG h;refine xX 23 X0.D h fun x7 h=> ?_;obtain⟨r8,h12,h⟩:=bS h;refine gC 25 (Pr h12) ?_;exact lp h
theorem aEq(rd:Option Nat)(h:aKm dV cG dY cH=some e9):Lq 122 rd 466 ⟨sp 27 0 [sD 0 (D.l X0.D) dV,sI 1 cG,sD 5 (D.l X0.D) dY,sI 6 cH],[],[]⟩ (.normal,⟨sp 27 0 [sD 0 (D.l X0.D) dV,sI 1 cG,sD 5 (D.l X0.D) e9,sI 6 cH],[],[]⟩):=by unfold aKm at h;apply g0 (o:=e9);refine xX 15 X0.D h fun x6 h=> ?_;obtain⟨o9,h13,h⟩:=bS h;refine gl (aEr rd h13) ?_;exact lp h
def Ul(s0:List X0)(s1:Int)(s5:List X0)(s6:Int):St:=⟨sp 27 0 [sD 0 (D.l X0.D) s0,sI 1 s1,sD 5 (D.l X0.D) s5,sI 6 s6],[],[]⟩
def Um(s0:List X0)(s1:Int)(o:(List X0)):Ex×St:=(.exit 0,⟨sp 27 0 [sD 5 (D.l X0.D) o],[],[]⟩)
theorem aEu(rd:Option Nat)(h:aEs dV cG dY cH=some e9):Lq 122 rd 58 (Ul dV cG dY cH) ((Um dV cG) e9):=
 lL (fun s:List X0×Int=>Ul dV cG s.1 s.2) (Um dV cG) (dY,cH) (fun⟨dY,cH⟩ o h=>by
 unfold KQ at h
 refine gN 9 X0.D dV ?_
 refine iB 10 h (fun h=> ?_) fun h=> ?_
 obtain⟨o10,h14,h⟩:=bS h
 refine gl (aEq rd h14) ?_
 exact lb h
 exact lb h) h
theorem aSl(h:Yg dV cG=some dY):AL Tryz.prog 122 [.d ((D.l X0.D) dV),dI cG] [] (.d ((D.l X0.D) dY)) []:=by unfold Yg at h;apply g0 (o:=dY);obtain⟨o11,h15,h⟩:=bS h;refine gL [.look 5,.live [0,1,5,6],.keep []] (aEu none h15) ?_;exact lf h
def VF(s1 s5:List X0)(s6:Int):St:=⟨sp 21 0 [sD 1 (D.l X0.D) s1,sD 5 (D.l X0.D) s5,sI 6 s6],[],[]⟩
def VG(s1:List X0)(o:(List X0)):Ex×St:=(.exit 0,⟨sp 21 0 [sD 5 (D.l X0.D) o],[],[]⟩)
theorem aFg(rd:Option Nat)(h:aFe dV dY cG=some e9):Lq 121 rd 58 (VF dV dY cG) ((VG dV) e9):=
 lL (fun s:List X0×Int=>VF dV s.1 s.2) (VG dV) (dY,cG) (fun⟨dY,cG⟩ o h=>by
 unfold KT at h
 refine gN 10 X0.D dV ?_
 refine iB 11 h (fun h=> ?_) fun h=> ?_
 refine xX 17 X0.D h fun x1 h=> ?_
 obtain⟨r2,h3,h⟩:=bS h
 refine gC 19 (Pr h3) ?_
 exact lb h
 exact lb h) h
theorem aSy(h:Yw dV dY=some eB):AL Tryz.prog 121 [.d ((D.l X0.D) dV),.d ((D.l X0.D) dY)] [] (.d ((D.l X0.D) eB)) []:=by unfold Yw at h;apply g0 (o:=eB);obtain⟨o3,h4,h⟩:=bS h;refine gl (aFg none h4) ?_;exact lf h
theorem aQh(h:Qe dV dX=some d4):AL Tryz.prog 145 [.d ((D.l X0.D) dV),.d (X0.D dX)] [] (.d (D.b d4)) []:=by unfold Qe at h;apply g0 (o:=d4);refine gW 10 (.int (dV.length:Int)) ?_;obtain⟨r1,h1,h⟩:=bS h;refine gC 7 (Pr h1)<|gN 8 X0.D r1<|gQ (ET X0.D dV) ?_;exact lf h
theorem aDs(rd:Option Nat)(h:aDr cG dV d4 dX eC=some eE):Lq 120 rd 453 ⟨sp 22 0 [sI 0 cG,sD 1 (D.l X0.D) dV,bx 4,bx 5,sD 12 D.b d4],[cL 4 X0.D dX,cL 5 X0.D eC],[]⟩ (.normal,⟨sp 22 0 [sI 0 cG,sD 1 (D.l X0.D) dV,bx 4,bx 5],[cL 4 X0.D dX,cL 5 X0.D eE],[]⟩):=by unfold aDr at h;apply g0 (o:=eE);cases d4;replace h:=CF h;refine gW 19 (.str (eC.str++([97]:List UInt8))) ?_;obtain⟨h4,h⟩:=cS h;refine gQ (JL h4) ?_;exact lp h;replace h:=CG h;exact lp h
theorem aDq(rd:Option Nat)(h:UP cG dV dX eC=some eE):Lq 120 rd 113 ⟨sp 22 0 [sI 0 cG,sD 1 (D.l X0.D) dV,bx 4,bx 5],[cL 4 X0.D dX,cL 5 X0.D eC],[]⟩ (.normal,⟨sp 22 0 [sI 0 cG,sD 1 (D.l X0.D) dV,bx 4,bx 5],[cL 4 X0.D dX,cL 5 X0.D eE],[]⟩):=by unfold UP at h;apply g0 (o:=eE);obtain⟨o2,h5,h⟩:=bS h;refine gl (aDs rd h5) ?_;exact lp h
def UR(s0:Int)(s1:List X0)(w4 w5:X0):St:=⟨sp 22 0 [sI 0 s0,sD 1 (D.l X0.D) s1,bx 4,bx 5],[cL 4 X0.D w4,cL 5 X0.D w5],[]⟩
def US(s0:Int)(s1:List X0)(w4 o:X0):Ex×St:=(.exit 0,⟨sp 22 0 [bx 4,bx 5],[cL 4 X0.D w4,cL 5 X0.D o],[]⟩)
theorem aDt(rd:Option Nat)(h:UQ cG dV dX eC=some eE):Lq 120 rd 28 (UR cG dV dX eC) ((US cG dV dX) eE):=
 lL (fun s:X0=>UR cG dV dX s) (US cG dV dX) eC (fun eC o h=>by
 unfold IE at h
 obtain⟨r1,h1,h⟩:=bS h
 refine gQ (aQh h1) ?_
 cases r1
 replace h:=CF h
 refine gW 10 (.ret (.d (D.b false))) ?_
 exact lb h
 replace h:=CG h
 refine gW 10 (.ret (.d (D.b true))) ?_
 obtain⟨o3,h6,h⟩:=bS h
 refine gl (aDq rd h6) ?_
 exact lb h) h
theorem aSa(h:Y4 cG dV=some dX):AL Tryz.prog 120 [dI cG,.d ((D.l X0.D) dV)] [] (.d (X0.D dX)) []:=by unfold Y4 at h;apply g0 (o:=dX);obtain⟨o4,h7,h⟩:=bS h;refine gl (aDt none h7) ?_;exact lf h
theorem aDy(rd:Option Nat)(h:aDx cG cU dV dY cH d4=some e9):Lq 85 rd 1865 ⟨sp 47 0 [sI 1 cG,sD 2 (D.l X2.D) cU,sD 3 (D.l X0.D) dV,sD 9 (D.l X0.D) dY,sI 10 cH,sD 27 D.b d4],[],[]⟩ (.normal,⟨sp 47 0 [sI 1 cG,sD 2 (D.l X2.D) cU,sD 3 (D.l X0.D) dV,sD 9 (D.l X0.D) e9,sI 10 cH],[],[]⟩):=by unfold aDx at h;apply g0 (o:=e9);cases d4;replace h:=CF h;exact lp h;replace h:=CG h;refine xX 31 X2.D h fun x3 h=> ?_;obtain⟨r4,h6,h⟩:=bS h;refine gC 34 (Pr h6) ?_;exact lp h
theorem aDw(rd:Option Nat)(h:aDv cG cU dV dY cH=some e9):Lq 85 rd 466 ⟨sp 47 0 [sI 1 cG,sD 2 (D.l X2.D) cU,sD 3 (D.l X0.D) dV,sD 9 (D.l X0.D) dY,sI 10 cH],[],[]⟩ (.normal,⟨sp 47 0 [sI 1 cG,sD 2 (D.l X2.D) cU,sD 3 (D.l X0.D) dV,sD 9 (D.l X0.D) e9,sI 10 cH],[],[]⟩):=by unfold aDv at h;apply g0 (o:=e9);refine xX 22 X2.D h fun x2 h=> ?_;obtain⟨o5,h7,h⟩:=bS h;refine gl (aDy rd h7) ?_;exact lp h
def UW(s1:Int)(s2:List X2)(s3 s9:List X0)(s10:Int):St:=⟨sp 47 0 [sI 1 s1,sD 2 (D.l X2.D) s2,sD 3 (D.l X0.D) s3,sD 9 (D.l X0.D) s9,sI 10 s10],[],[]⟩
def UX(s1:Int)(s2:List X2)(s3:List X0)(o:(List X0)):Ex×St:=(.exit 0,⟨sp 47 0 [sI 1 s1,sD 3 (D.l X0.D) s3,sD 9 (D.l X0.D) o],[],[]⟩)
theorem aD0(rd:Option Nat)(h:aDz cG cU dV dY cH=some e9):Lq 85 rd 58 (UW cG cU dV dY cH) ((UX cG cU dV) e9):=
 lL (fun s:List X0×Int=>UW cG cU dV s.1 s.2) (UX cG cU dV) (dY,cH) (fun⟨dY,cH⟩ o h=>by
 unfold IG at h
 refine gN 16 X2.D cU ?_
 refine iB 17 h (fun h=> ?_) fun h=> ?_
 obtain⟨o6,h8,h⟩:=bS h
 refine gl (aDw rd h8) ?_
 exact lb h
 exact lb h) h
theorem aSc(h:Y7 cV cG cU dV=some dY):AL Tryz.prog 85 [.d (AD.D cV),dI cG,.d ((D.l X2.D) cU),.d ((D.l X0.D) dV)] [] (.d ((D.l X0.D) dY)) []:=by unfold Y7 at h;apply g0 (o:=dY);obtain⟨r1,h1,h⟩:=bS h;refine gC 13 (aRk h1) ?_;obtain⟨o7,h9,h⟩:=bS h;refine gl (aD0 none h9) ?_;refine iB 36 h (fun h=> ?_) fun h=> ?_;exact lf h;obtain⟨r8,h11,h⟩:=bS h;refine gC 43 (aSl h11) ?_;obtain⟨r9,h12,h⟩:=bS h;refine gC 44 (aSy h12) ?_;obtain⟨r10,h13,h⟩:=bS h;refine gC 45 (aSa h13) ?_;obtain⟨r11,h14,h⟩:=bS h;refine gC 46 (Pr h14) ?_;exact lf h
def UT(s1:Int)(s2:List X2)(s3 s4 s12:List X0)(w5:AD)(s13:Int)(w11:List X8):St:=⟨sp 72 0 [sI 1 s1,sD 2 (D.l X2.D) s2,sD 3 (D.l X0.D) s3,sD 4 (D.l X0.D) s4,bx 5,rx 11,sD 12 (D.l X0.D) s12,sI 13 s13],[cL 5 AD.D w5,(11,.row 70 2 (w11.map X8.D))],[]⟩
def UU(s1:Int)(s2:List X2)(s3 s4 s12:List X0)(w5:AD)(o:(List X8)):Ex×St:=(.exit 0,⟨sp 72 0 [rx 11],[(11,.row 70 2 (o.map X8.D))],[]⟩)
end Go.Ac
