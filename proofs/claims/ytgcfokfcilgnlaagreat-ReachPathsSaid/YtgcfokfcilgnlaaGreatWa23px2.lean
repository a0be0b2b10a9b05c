/- Own work, printed: the functions compute these. -/
import Derived.Test.YtgcfokfcilgnlaaGreatWa23px1
set_option linter.unusedVariables false
set_option linter.unusedSimpArgs false
namespace Go.Ac
open Go.Proofs
variable {cG cH cI cJ cX d7 d8 dA dB dE:Int}
variable {cK cT dF:List Int}
variable {cM:(Int×List Int)⊕Bool}
variable {cN:(List Int)⊕(Bool×List Int)}
variable {cO:Bool×List Int}
variable {cP:(Int×List Int)}
variable {cQ:Int×List Int}
variable {cR:Int×Bool×List Int}
variable {cU:List X2}
variable {cV dY:AD}
variable {cW cY:List (Int×Bool)}
variable {cZ:(List (Int×Bool))}
variable {d4:(List Int)}
variable {d5 dX:Bool}
variable {d6:List Xb}
variable {d9:List Xc}
variable {dC:Xb}
variable {dD:Xc}
variable {dG dH:MP Int Int}
variable {dJ:(List Int×MP Int Int×MP Int Int)}
variable {dK:List Int×MP Int Int×MP Int Int}
variable {dL:(Int×List Int)⊕(Unit⊕Unit)}
variable {dM:(List Int)⊕(List Int)}
variable {dN:(List Int×Int)}
variable {dO:Int×Int×Int}
variable {dP:Int×Int}
variable {dQ:(Int×Int×Int×Int)}
variable {dR:(Int×Int)}
variable {dS:Unit⊕Unit}
variable {dV:Unit⊕Int}
variable {e9:List Int×Bool}
variable {eA eC:List X0}
variable {eB:X0}
variable {eE:(List X0)}
variable {eF:CH}
theorem aAk(rd:Option Nat)(us:List Value)(h:Pl cG cH cI cJ cK=some cM):Lq 160 rd 466 ⟨sp 133 0 [rx 0,sI 1 cG,sI 2 cH,sI 7 cI,sI 8 cJ],[rW 0 56 1 dU cK,(997,.vals [.row 0] us)],[]⟩ (match (generalizing:=false) cM with
 | .inl cM=>(.normal,⟨sp 133 0 [rx 0,sI 1 cG,sI 2 cH,sI 7 cM.1,sI 8 cJ],[rW 0 56 1 dU cM.2,(997,.vals [.row 0] us)],[]⟩)
 | .inr cM=>(.ret,⟨sp 133 0 [sD 6 D.b cM],[rW 0 56 1 dU cK,(997,.vals [.row 0] us)],[]⟩)):=by
 unfold Pl at h
 apply g0 (o:=cM)
 obtain⟨o4,h9,h⟩:=bS h
 refine gl (aAo rd us h9) ?_
 refine iB 37 h (fun h=> ?_) fun h=> ?_
 exact lp h
 refine iB 41 h (fun h=> ?_) fun h=> ?_
 exact lp h
 obtain⟨h12,h⟩:=cS h
 refine gQ h12.1<|gQ (AF dU h12.2) ?_
 obtain⟨x5,h13,h⟩:=xS h
 refine gG 51 (.el (dU x5)) (AG dU h13)<|gW 10056 (.sl ((cK.set o4.toNat x5).map dU)) ?_
 obtain⟨h14,h⟩:=cS h
 refine gQ h14.1<|gQ (AF dU h14.2) ?_
 obtain⟨x6,h15,h⟩:=xS h
 refine gG 55 (.el (dU x6)) (AG dU h15)<|gW 10057 (.sl (((cK.set o4.toNat x5).set (AA .sub .i64 o4 1).toNat x6).map dU)) ?_
 obtain⟨h16,h⟩:=cS h
 refine gQ h16.1<|gQ (AF dU h16.2) ?_
 obtain⟨h17,h⟩:=cS h
 refine gQ (A8 dU h17)<|gQ (AS dU cK o4 x5) ?_
 obtain⟨h18,h⟩:=cS h
 refine gQ h18.1<|gQ (AF dU h18.2) ?_
 obtain⟨h19,h⟩:=cS h
 refine gQ (A8 dU h19)<|gQ (AS dU (cK.set o4.toNat x5) (AA .sub .i64 o4 1) x6) ?_
 obtain⟨o13,h37,h⟩:=bS h
 refine gl (aAl rd us h37) ?_
 obtain⟨o20,h55,h⟩:=bS h
 refine gl (aAm rd us h55) ?_
 exact lp h
def Rw(us:List Value)(s1 s2:Int)(s7 s8:Int)(w0:List Int):St:=⟨sp 133 0 [rx 0,sI 1 s1,sI 2 s2,sI 7 s7,sI 8 s8],[rW 0 56 1 dU w0,(997,.vals [.row 0] us)],[]⟩
def Rx(us:List Value)(s1 s2:Int)(o:(List Int)⊕(Bool×List Int)):Ex×St:=match o with
 | .inl o=>(.exit 0,⟨sp 133 0 [],[rW 0 56 1 dU o,(997,.vals [.row 0] us)],[]⟩)
 | .inr o=>(.ret,⟨sp 133 0 [sD 6 D.b o.1],[rW 0 56 1 dU o.2,(997,.vals [.row 0] us)],[]⟩)
theorem aAn(rd:Option Nat)(us:List Value)(h:M5 cG cH cI cJ cK=some cN):Lq 160 rd 58 (Rw us cG cH cI cJ cK) ((Rx us cG cH) cN):=
 lL (fun s:Int×Int×List Int=>Rw us cG cH s.1 s.2.1 s.2.2) (Rx us cG cH) (cI,cJ,cK) (fun⟨cI,cJ,cK⟩ o h=>by
 unfold GT at h
 refine iB 14 h (fun h=> ?_) fun h=> ?_
 obtain⟨o21,h56,h⟩:=bS h
 refine gl (aAk rd us h56) ?_
 replace h:=AK h
 rcases h with⟨o22,rfl,h⟩|⟨o23,rfl,h⟩
 exact lb h
 exact lb h
 exact lb h) h
theorem aSf(h:X5 cG cH cK=some cO):AL Tryz.prog 160 [.row 0,dI cG,dI cH] [rW 0 56 1 dU cK] (.d (D.b cO.1)) [rW 0 56 1 dU cO.2]:=by
 unfold X5 at h;refine XG.call (ks:=[0]) mixed fun us=> ?_;apply g0 (o:=cO);obtain⟨o24,h57,h⟩:=bS h;refine gl (aAn none us h57) ?_;replace h:=AK h;rcases h with⟨o25,rfl,h⟩|⟨o26,rfl,h⟩
 exact lX h (lv [6] [0,997]);exact lX h (lv [6] [0,997])
def Sk(us:List Value)(s1 s10:Int)(w0:List Int)(s9:Int):St:=⟨sp 84 0 [rx 0,sI 1 s1,sI 9 s9,sI 10 s10],[rW 0 56 1 dU w0,(997,.vals [.row 0] us)],[]⟩
def Sl(us:List Value)(s1 s10:Int)(w0:List Int)(o:Int):Ex×St:=(.exit 2,⟨sp 84 0 [rx 0,sI 1 s1,sI 9 o,sI 10 s10],[rW 0 56 1 dU w0,(997,.vals [.row 0] us)],[]⟩)
theorem aBk(rd:Option Nat)(us:List Value)(h:Pu cG cH cK cI=some cJ):Lq 162 rd 960 (Sk us cG cH cK cI) ((Sl us cG cH cK) cJ):=
 lL (fun s:Int=>Sk us cG cH cK s) (Sl us cG cH cK) cI (fun cI o h=>by
 unfold GZ at h
 refine iB 32 h (fun h=> ?_) fun h=> ?_
 obtain⟨h10,h⟩:=cS h
 refine gQ h10.1<|gQ (AF dU h10.2) ?_
 obtain⟨x3,h11,h⟩:=xS h
 refine gG 36 (.el (dU x3)) (AG dU h11) ?_
 obtain⟨h12,h⟩:=cS h
 refine gQ h12.1<|gQ (AF dU h12.2) ?_
 obtain⟨x4,h13,h⟩:=xS h
 refine gG 40 (.el (dU x4)) (AG dU h13) ?_
 obtain⟨r5,h14,h⟩:=bS h
 refine gC 41 (Ey h14) ?_
 refine iB 43 h (fun h=> ?_) fun h=> ?_
 exact lb h
 exact lb h
 exact lb h) h
def Sm(us:List Value)(s1 s9:Int)(w0:List Int)(s10:Int):St:=⟨sp 84 0 [rx 0,sI 1 s1,sI 9 s9,sI 10 s10],[rW 0 56 1 dU w0,(997,.vals [.row 0] us)],[]⟩
def Sn(us:List Value)(s1 s9:Int)(w0:List Int)(o:Int):Ex×St:=(.exit 4,⟨sp 84 0 [rx 0,sI 1 s1,sI 9 s9,sI 10 o],[rW 0 56 1 dU w0,(997,.vals [.row 0] us)],[]⟩)
theorem aBl(rd:Option Nat)(us:List Value)(h:Pv cG cH cK cI=some cJ):Lq 162 rd 1924 (Sm us cG cH cK cI) ((Sn us cG cH cK) cJ):=
 lL (fun s:Int=>Sm us cG cH cK s) (Sn us cG cH cK) cI (fun cI o h=>by
 unfold Ga at h
 refine iB 49 h (fun h=> ?_) fun h=> ?_
 obtain⟨h18,h⟩:=cS h
 refine gQ h18.1<|gQ (AF dU h18.2) ?_
 obtain⟨x7,h19,h⟩:=xS h
 refine gG 53 (.el (dU x7)) (AG dU h19) ?_
 obtain⟨h20,h⟩:=cS h
 refine gQ h20.1<|gQ (AF dU h20.2) ?_
 obtain⟨x8,h21,h⟩:=xS h
 refine gG 57 (.el (dU x8)) (AG dU h21) ?_
 obtain⟨r9,h22,h⟩:=bS h
 refine gQ (Ey h22) ?_
 cases r9
 replace h:=CF h
 refine gW 58 (.ret (.d (D.b false))) ?_
 exact lb h
 replace h:=CG h
 refine gW 58 (.ret (.d (D.b true))) ?_
 exact lb h
 exact lb h) h
def Si(us:List Value)(s1 s9 s10:Int)(w0:List Int):St:=⟨sp 84 0 [rx 0,sI 1 s1,sI 9 s9,sI 10 s10],[rW 0 56 1 dU w0,(997,.vals [.row 0] us)],[]⟩
def Sj(us:List Value)(s1:Int)(o:(Int×List Int)):Ex×St:=(.exit 0,⟨sp 84 0 [sI 9 o.1],[rW 0 56 1 dU o.2,(997,.vals [.row 0] us)],[]⟩)
theorem aBj(rd:Option Nat)(us:List Value)(h:Pt cG cH cI cK=some cP):Lq 162 rd 60 (Si us cG cH cI cK) ((Sj us cG) cP):=
 lL (fun s:Int×Int×List Int=>Si us cG s.1 s.2.1 s.2.2) (Sj us cG) (cH,cI,cK) (fun⟨cH,cI,cK⟩ o h=>by
 unfold Hv at h
 obtain⟨o6,h16,h⟩:=bS h
 refine gl (aBk rd us h16) ?_
 obtain⟨o10,h24,h⟩:=bS h
 refine gl (aBl rd us h24) ?_
 refine iB 64 h (fun h=> ?_) fun h=> ?_
 exact lb h
 obtain⟨h26,h⟩:=cS h
 refine gQ h26.1<|gQ (AF dU h26.2) ?_
 obtain⟨x11,h27,h⟩:=xS h
 refine gG 72 (.el (dU x11)) (AG dU h27)<|gW 10077 (.sl ((cK.set o6.toNat x11).map dU)) ?_
 obtain⟨h28,h⟩:=cS h
 refine gQ h28.1<|gQ (AF dU h28.2) ?_
 obtain⟨x12,h29,h⟩:=xS h
 refine gG 76 (.el (dU x12)) (AG dU h29)<|gW 10078 (.sl (((cK.set o6.toNat x11).set o10.toNat x12).map dU)) ?_
 obtain⟨h30,h⟩:=cS h
 refine gQ h30.1<|gQ (AF dU h30.2) ?_
 obtain⟨h31,h⟩:=cS h
 refine gQ (A8 dU h31)<|gQ (AS dU cK o6 x11) ?_
 obtain⟨h32,h⟩:=cS h
 refine gQ h32.1<|gQ (AF dU h32.2) ?_
 obtain⟨h33,h⟩:=cS h
 refine gQ (A8 dU h33)<|gQ (AS dU (cK.set o6.toNat x11) o10 x12) ?_
 exact lb h) h
theorem aKs(h:Xe cG cH cI cK=some cQ):AL Tryz.prog 162 [.row 0,dI cG,dI cH,dI cI] [rW 0 56 1 dU cK] (dI cQ.1) [rW 0 56 1 dU cQ.2]:=by unfold Xe at h;refine XG.call (ks:=[0]) mixed fun us=> ?_;apply g0 (o:=cQ);obtain⟨h1,h⟩:=cS h;refine gQ h1.1<|gQ (AF dU h1.2) ?_;obtain⟨x1,h2,h⟩:=xS h;refine gG 18 (.el (dU x1)) (AG dU h2)<|gW 10023 (.sl ((cK.set cG.toNat x1).map dU)) ?_;obtain⟨h3,h⟩:=cS h;refine gQ h3.1<|gQ (AF dU h3.2) ?_;obtain⟨x2,h4,h⟩:=xS h;refine gG 22 (.el (dU x2)) (AG dU h4)<|gW 10024 (.sl (((cK.set cG.toNat x1).set cI.toNat x2).map dU)) ?_;obtain⟨h5,h⟩:=cS h;refine gQ h5.1<|gQ (AF dU h5.2) ?_;obtain⟨h6,h⟩:=cS h;refine gQ (A8 dU h6)<|gQ (AS dU cK cG x1) ?_;obtain⟨h7,h⟩:=cS h;refine gQ h7.1<|gQ (AF dU h7.2) ?_;obtain⟨h8,h⟩:=cS h;refine gQ (A8 dU h8)<|gQ (AS dU (cK.set cG.toNat x1) cI x2) ?_;obtain⟨o13,h34,h⟩:=bS h;refine gl (aBj none us h34) ?_;exact lX h (lv [8] [0,997])
def R4(us:List Value)(s1 s11:Int)(w0:List Int)(s10:Int):St:=⟨sp 168 0 [rx 0,sI 1 s1,sI 10 s10,sI 11 s11],[rW 0 56 1 dU w0,(997,.vals [.row 0] us)],[]⟩
def R5(us:List Value)(s1 s11:Int)(w0:List Int)(o:Int):Ex×St:=(.exit 0,⟨sp 168 0 [rx 0,sI 1 s1,sI 10 o,sI 11 s11],[rW 0 56 1 dU w0,(997,.vals [.row 0] us)],[]⟩)
theorem aAr(rd:Option Nat)(us:List Value)(h:M6 cG cH cK cI=some cJ):Lq 163 rd 60 (R4 us cG cH cK cI) ((R5 us cG cH cK) cJ):=
 lL (fun s:Int=>R4 us cG cH cK s) (R5 us cG cH cK) cI (fun cI o h=>by
 unfold GX at h
 refine iB 33 h (fun h=> ?_) fun h=> ?_
 obtain⟨h10,h⟩:=cS h
 refine gQ h10.1<|gQ (AF dU h10.2) ?_
 obtain⟨x3,h11,h⟩:=xS h
 refine gG 37 (.el (dU x3)) (AG dU h11) ?_
 obtain⟨h12,h⟩:=cS h
 refine gQ h12.1<|gQ (AF dU h12.2) ?_
 obtain⟨x4,h13,h⟩:=xS h
 refine gG 41 (.el (dU x4)) (AG dU h13) ?_
 obtain⟨r5,h14,h⟩:=bS h
 refine gQ (Ey h14) ?_
 cases r5
 replace h:=CF h
 refine gW 42 (.ret (.d (D.b false))) ?_
 exact lb h
 replace h:=CG h
 refine gW 42 (.ret (.d (D.b true))) ?_
 exact lb h
 exact lb h) h
def R6(us:List Value)(s1 s10:Int)(w0:List Int)(s11:Int):St:=⟨sp 168 0 [rx 0,sI 1 s1,sI 10 s10,sI 11 s11],[rW 0 56 1 dU w0,(997,.vals [.row 0] us)],[]⟩
def R7(us:List Value)(s1 s10:Int)(w0:List Int)(o:Int):Ex×St:=(.exit 2,⟨sp 168 0 [rx 0,sI 1 s1,sI 10 s10,sI 11 o],[rW 0 56 1 dU w0,(997,.vals [.row 0] us)],[]⟩)
theorem aAs(rd:Option Nat)(us:List Value)(h:M7 cG cH cK cI=some cJ):Lq 163 rd 124 (R6 us cG cH cK cI) ((R7 us cG cH cK) cJ):=
 lL (fun s:Int=>R6 us cG cH cK s) (R7 us cG cH cK) cI (fun cI o h=>by
 unfold GY at h
 refine iB 49 h (fun h=> ?_) fun h=> ?_
 obtain⟨h18,h⟩:=cS h
 refine gQ h18.1<|gQ (AF dU h18.2) ?_
 obtain⟨x7,h19,h⟩:=xS h
 refine gG 53 (.el (dU x7)) (AG dU h19) ?_
 obtain⟨h20,h⟩:=cS h
 refine gQ h20.1<|gQ (AF dU h20.2) ?_
 obtain⟨x8,h21,h⟩:=xS h
 refine gG 57 (.el (dU x8)) (AG dU h21) ?_
 obtain⟨r9,h22,h⟩:=bS h
 refine gC 58 (Ey h22) ?_
 refine iB 60 h (fun h=> ?_) fun h=> ?_
 exact lb h
 exact lb h
 exact lb h) h
def SA(us:List Value)(s1 s11:Int)(w0:List Int)(s10:Int):St:=⟨sp 168 0 [rx 0,sI 1 s1,sI 10 s10,sI 11 s11],[rW 0 56 1 dU w0,(997,.vals [.row 0] us)],[]⟩
def SB(us:List Value)(s1 s11:Int)(w0:List Int)(o:Int):Ex×St:=(.exit 6,⟨sp 168 0 [rx 0,sI 1 s1,sI 10 o,sI 11 s11],[rW 0 56 1 dU w0,(997,.vals [.row 0] us)],[]⟩)
theorem aAw(rd:Option Nat)(us:List Value)(h:aAv cG cH cK cI=some cJ):Lq 163 rd 65472 (SA us cG cH cK cI) ((SB us cG cH cK) cJ):=
 lL (fun s:Int=>SA us cG cH cK s) (SB us cG cH cK) cI (fun cI o h=>by
 unfold M8 at h
 refine iB 102 h (fun h=> ?_) fun h=> ?_
 obtain⟨h43,h⟩:=cS h
 refine gQ h43.1<|gQ (AF dU h43.2) ?_
 obtain⟨x15,h44,h⟩:=xS h
 refine gG 106 (.el (dU x15)) (AG dU h44) ?_
 obtain⟨h45,h⟩:=cS h
 refine gQ h45.1<|gQ (AF dU h45.2) ?_
 obtain⟨x16,h46,h⟩:=xS h
 refine gG 110 (.el (dU x16)) (AG dU h46) ?_
 obtain⟨r17,h47,h⟩:=bS h
 refine gQ (Ey h47) ?_
 cases r17
 replace h:=CF h
 refine gW 111 (.ret (.d (D.b false))) ?_
 exact lb h
 replace h:=CG h
 refine gW 111 (.ret (.d (D.b true))) ?_
 exact lb h
 exact lb h) h
def SC(us:List Value)(s1 s10:Int)(w0:List Int)(s11:Int):St:=⟨sp 168 0 [rx 0,sI 1 s1,sI 10 s10,sI 11 s11],[rW 0 56 1 dU w0,(997,.vals [.row 0] us)],[]⟩
def SD(us:List Value)(s1 s10:Int)(w0:List Int)(o:Int):Ex×St:=(.exit 8,⟨sp 168 0 [rx 0,sI 1 s1,sI 10 s10,sI 11 o],[rW 0 56 1 dU w0,(997,.vals [.row 0] us)],[]⟩)
theorem aAy(rd:Option Nat)(us:List Value)(h:aAx cG cH cK cI=some cJ):Lq 163 rd 130948 (SC us cG cH cK cI) ((SD us cG cH cK) cJ):=
 lL (fun s:Int=>SC us cG cH cK s) (SD us cG cH cK) cI (fun cI o h=>by
 unfold M9 at h
 refine iB 118 h (fun h=> ?_) fun h=> ?_
 obtain⟨h51,h⟩:=cS h
 refine gQ h51.1<|gQ (AF dU h51.2) ?_
 obtain⟨x19,h52,h⟩:=xS h
 refine gG 122 (.el (dU x19)) (AG dU h52) ?_
 obtain⟨h53,h⟩:=cS h
 refine gQ h53.1<|gQ (AF dU h53.2) ?_
 obtain⟨x20,h54,h⟩:=xS h
 refine gG 126 (.el (dU x20)) (AG dU h54) ?_
 obtain⟨r21,h55,h⟩:=bS h
 refine gC 127 (Ey h55) ?_
 refine iB 129 h (fun h=> ?_) fun h=> ?_
 exact lb h
 exact lb h
 exact lb h) h
def R8(us:List Value)(s1 s10 s11:Int)(w0:List Int):St:=⟨sp 168 0 [rx 0,sI 1 s1,sI 10 s10,sI 11 s11],[rW 0 56 1 dU w0,(997,.vals [.row 0] us)],[]⟩
def R9(us:List Value)(s1:Int)(o:(Int×List Int)):Ex×St:=(.exit 4,⟨sp 168 0 [rx 0,sI 1 s1,sI 11 o.1],[rW 0 56 1 dU o.2,(997,.vals [.row 0] us)],[]⟩)
theorem aAu(rd:Option Nat)(us:List Value)(h:Pq cG cH cI cK=some cP):Lq 163 rd 4092 (R8 us cG cH cI cK) ((R9 us cG) cP):=
 lL (fun s:Int×Int×List Int=>R8 us cG s.1 s.2.1 s.2.2) (R9 us cG) (cH,cI,cK) (fun⟨cH,cI,cK⟩ o h=>by
 unfold Hh at h
 obtain⟨o18,h49,h⟩:=bS h
 refine gl (aAw rd us h49) ?_
 obtain⟨o22,h57,h⟩:=bS h
 refine gl (aAy rd us h57) ?_
 refine iB 134 h (fun h=> ?_) fun h=> ?_
 exact lb h
 obtain⟨h59,h⟩:=cS h
 refine gQ h59.1<|gQ (AF dU h59.2) ?_
 obtain⟨x23,h60,h⟩:=xS h
 refine gG 142 (.el (dU x23)) (AG dU h60)<|gW 10147 (.sl ((cK.set o18.toNat x23).map dU)) ?_
 obtain⟨h61,h⟩:=cS h
 refine gQ h61.1<|gQ (AF dU h61.2) ?_
 obtain⟨x24,h62,h⟩:=xS h
 refine gG 146 (.el (dU x24)) (AG dU h62)<|gW 10148 (.sl (((cK.set o18.toNat x23).set o22.toNat x24).map dU)) ?_
 obtain⟨h63,h⟩:=cS h
 refine gQ h63.1<|gQ (AF dU h63.2) ?_
 obtain⟨h64,h⟩:=cS h
 refine gQ (A8 dU h64)<|gQ (AS dU cK o18 x23) ?_
 obtain⟨h65,h⟩:=cS h
 refine gQ h65.1<|gQ (AF dU h65.2) ?_
 obtain⟨h66,h⟩:=cS h
 refine gQ (A8 dU h66)<|gQ (AS dU (cK.set o18.toNat x23) o22 x24) ?_
 exact lb h) h
theorem Pr(h:X6 cG cH cI cK=some cR):AL Tryz.prog 163 [.row 0,dI cG,dI cH,dI cI] [rW 0 56 1 dU cK] (.tup [dI cR.1,.d (D.b cR.2.1)]) [rW 0 56 1 dU cR.2.2]:=by unfold X6 at h;refine XG.call (ks:=[0]) mixed fun us=> ?_;apply g0 (o:=cR);obtain⟨h1,h⟩:=cS h;refine gQ h1.1<|gQ (AF dU h1.2) ?_;obtain⟨x1,h2,h⟩:=xS h;refine gG 19 (.el (dU x1)) (AG dU h2)<|gW 10024 (.sl ((cK.set cG.toNat x1).map dU)) ?_;obtain⟨h3,h⟩:=cS h;refine gQ h3.1<|gQ (AF dU h3.2) ?_;obtain⟨x2,h4,h⟩:=xS h;refine gG 23 (.el (dU x2)) (AG dU h4)<|gW 10025 (.sl (((cK.set cG.toNat x1).set cI.toNat x2).map dU)) ?_;obtain⟨h5,h⟩:=cS h;refine gQ h5.1<|gQ (AF dU h5.2) ?_;obtain⟨h6,h⟩:=cS h;refine gQ (A8 dU h6)<|gQ (AS dU cK cG x1) ?_;obtain⟨h7,h⟩:=cS h;refine gQ h7.1<|gQ (AF dU h7.2) ?_;obtain⟨h8,h⟩:=cS h;refine gQ (A8 dU h8)<|gQ (AS dU (cK.set cG.toNat x1) cI x2) ?_;obtain⟨o6,h16,h⟩:=bS h;refine gl (aAr none us h16) ?_;obtain⟨o10,h24,h⟩:=bS h;refine gl (aAs none us h24) ?_;refine iB 65 h (fun h=> ?_) fun h=> ?_;obtain⟨h26,h⟩:=cS h;refine gQ h26.1<|gQ (AF dU h26.2) ?_;obtain⟨x11,h27,h⟩:=xS h;refine gG 73 (.el (dU x11)) (AG dU h27)<|gW 10078 (.sl ((((cK.set cG.toNat x1).set cI.toNat x2).set o10.toNat x11).map dU)) ?_;obtain⟨h28,h⟩:=cS h;refine gQ h28.1<|gQ (AF dU h28.2) ?_;obtain⟨x12,h29,h⟩:=xS h;refine gG 77 (.el (dU x12)) (AG dU h29)<|gW 10079 (.sl (((((cK.set cG.toNat x1).set cI.toNat x2).set o10.toNat x11).set cG.toNat x12).map dU)) ?_;obtain⟨h30,h⟩:=cS h;refine gQ h30.1<|gQ (AF dU h30.2) ?_;obtain⟨h31,h⟩:=cS h;refine gQ (A8 dU h31)<|gQ (AS dU ((cK.set cG.toNat x1).set cI.toNat x2) o10 x11) ?_;obtain⟨h32,h⟩:=cS h;refine gQ h32.1<|gQ (AF dU h32.2) ?_;obtain⟨h33,h⟩:=cS h;refine gQ (A8 dU h33)<|gQ (AS dU (((cK.set cG.toNat x1).set cI.toNat x2).set o10.toNat x11) cG x12) ?_;exact lX h (lv [8,9] [0,997]);obtain⟨h34,h⟩:=cS h;refine gQ h34.1<|gQ (AF dU h34.2) ?_;obtain⟨x13,h35,h⟩:=xS h;refine gG 88 (.el (dU x13)) (AG dU h35)<|gW 10093 (.sl ((((cK.set cG.toNat x1).set cI.toNat x2).set o6.toNat x13).map dU)) ?_;obtain⟨h36,h⟩:=cS h;refine gQ h36.1<|gQ (AF dU h36.2) ?_;obtain⟨x14,h37,h⟩:=xS h;refine gG 92 (.el (dU x14)) (AG dU h37)<|gW 10094 (.sl (((((cK.set cG.toNat x1).set cI.toNat x2).set o6.toNat x13).set o10.toNat x14).map dU)) ?_;obtain⟨h38,h⟩:=cS h;refine gQ h38.1<|gQ (AF dU h38.2) ?_;obtain⟨h39,h⟩:=cS h;refine gQ (A8 dU h39)<|gQ (AS dU ((cK.set cG.toNat x1).set cI.toNat x2) o6 x13) ?_;obtain⟨h40,h⟩:=cS h;refine gQ h40.1<|gQ (AF dU h40.2) ?_;obtain⟨h41,h⟩:=cS h;refine gQ (A8 dU h41)<|gQ (AS dU (((cK.set cG.toNat x1).set cI.toNat x2).set o6.toNat x13) o10 x14) ?_;obtain⟨o25,h67,h⟩:=bS h;refine gl (aAu none us h67) ?_;obtain⟨h68,h⟩:=cS h;refine gQ h68.1<|gQ (AF dU h68.2) ?_;obtain⟨x26,h69,h⟩:=xS h;refine gG 160 (.el (dU x26)) (AG dU h69)<|gW 10165 (.sl ((o25.2.set o25.1.toNat x26).map dU)) ?_;obtain⟨h70,h⟩:=cS h;refine gQ h70.1<|gQ (AF dU h70.2) ?_;obtain⟨x27,h71,h⟩:=xS h;refine gG 164 (.el (dU x27)) (AG dU h71)<|gW 10166 (.sl (((o25.2.set o25.1.toNat x26).set cG.toNat x27).map dU)) ?_;obtain⟨h72,h⟩:=cS h;refine gQ h72.1<|gQ (AF dU h72.2) ?_;obtain⟨h73,h⟩:=cS h;refine gQ (A8 dU h73)<|gQ (AS dU o25.2 o25.1 x26) ?_;obtain⟨h74,h⟩:=cS h;refine gQ h74.1<|gQ (AF dU h74.2) ?_;obtain⟨h75,h⟩:=cS h;refine gQ (A8 dU h75)<|gQ (AS dU (o25.2.set o25.1.toNat x26) cG x27) ?_;exact lX h (lv [8,9] [0,997])
theorem aA8(rd:Option Nat)(self:Int->Int->Int->(List Int)->Option (List Int))(hs: ∀(a1 a2 a3:Int) (w0 r:List Int),self a1 a2 a3 w0=some r->AL Tryz.prog 132 [.row 0,dI a1,dI a2,dI a3] [rW 0 56 1 dU w0] (.tup []) [rW 0 56 1 dU r])(us:List Value){s1 s2 s3:Int}{s8 s9:Bool}{s10:Int}{s35:Bool}{w0:List Int}{o:(Int×List Int)}(h:NB self s1 s2 s3 s8 s9 s10 s35 w0=some o):Lq 132 rd 1821 ⟨sp 134 0 [rx 0,sI 1 s1,sI 2 s2,sI 3 s3,sD 8 D.b s8,sD 9 D.b s9,sI 10 s10,sD 35 D.b s35],[rW 0 56 1 dU w0,(997,.vals [.row 0] us)],[]⟩ (.normal,⟨sp 134 0 [rx 0,sI 1 s1,sI 2 s2,sI 3 o.1,sD 8 D.b s8,sD 9 D.b s9,sI 10 s10],[rW 0 56 1 dU o.2,(997,.vals [.row 0] us)],[]⟩):=by unfold NB at h;apply g0 (o:=o);cases s35;replace h:=CF h;exact lp h;replace h:=CG h;obtain⟨r3,h6,h⟩:=bS h;refine gG 39 (.cx false [(0,0)] [] (.tup []) [rW 0 56 1 dU r3]) (aSw h6) ?_;exact lp h
theorem aA9(rd:Option Nat)(self:Int->Int->Int->(List Int)->Option (List Int))(hs: ∀(a1 a2 a3:Int) (w0 r:List Int),self a1 a2 a3 w0=some r->AL Tryz.prog 132 [.row 0,dI a1,dI a2,dI a3] [rW 0 56 1 dU w0] (.tup []) [rW 0 56 1 dU r])(us:List Value){s1 s2 s3:Int}{s8 s9:Bool}{s10 s11 s12:Int}{s50:Bool}{w0:List Int}{o:(Int×Int×List Int)}(h:NC self s1 s2 s3 s8 s9 s10 s11 s12 s50 w0=some o):Lq 132 rd 7293 ⟨sp 134 0 [rx 0,sI 1 s1,sI 2 s2,sI 3 s3,sD 8 D.b s8,sD 9 D.b s9,sI 10 s10,sI 11 s11,sI 12 s12,sD 50 D.b s50],[rW 0 56 1 dU w0,(997,.vals [.row 0] us)],[]⟩ (.normal,⟨sp 134 0 [rx 0,sI 1 s1,sI 2 s2,sI 3 s3,sD 8 D.b s8,sD 9 D.b s9,sI 10 s10,sI 11 o.1,sI 12 o.2.1],[rW 0 56 1 dU o.2.2,(997,.vals [.row 0] us)],[]⟩):=by unfold NC at h;apply g0 (o:=o);cases s50;replace h:=CF h;exact lp h;replace h:=CG h;obtain⟨r6,h10,h⟩:=bS h;refine gG 54 (.cx false [(0,0)] [] (.tup []) [rW 0 56 1 dU r6]) (aTo h10) ?_;exact lp h
theorem KZ(rd:Option Nat)(self:Int->Int->Int->(List Int)->Option (List Int))(hs: ∀(a1 a2 a3:Int) (w0 r:List Int),self a1 a2 a3 w0=some r->AL Tryz.prog 132 [.row 0,dI a1,dI a2,dI a3] [rW 0 56 1 dU w0] (.tup []) [rW 0 56 1 dU r])(us:List Value){s1 s2 s3:Int}{s8 s9:Bool}{s10 s11:Int}{s68:Bool}{w0:List Int}{o:(List Int)⊕(List Int)}(h:Jg self s1 s2 s3 s8 s9 s10 s11 s68 w0=some o):Lq 132 rd 14589 ⟨sp 134 0 [rx 0,sI 1 s1,sI 2 s2,sI 3 s3,sD 8 D.b s8,sD 9 D.b s9,sI 10 s10,sI 11 s11,sD 68 D.b s68],[rW 0 56 1 dU w0,(997,.vals [.row 0] us)],[]⟩ (match (generalizing:=false) o with
 | .inl o=>(.normal,⟨sp 134 0 [rx 0,sI 1 s1,sI 2 s2,sI 3 s3,sD 8 D.b s8,sD 9 D.b s9,sI 10 s10,sI 11 s11],[rW 0 56 1 dU o,(997,.vals [.row 0] us)],[]⟩)
 | .inr o=>(.ret,⟨sp 134 0 [],[rW 0 56 1 dU o,(997,.vals [.row 0] us)],[]⟩)):=by
 unfold Jg at h
 apply g0 (o:=o)
 cases s68
 replace h:=CF h
 exact lp h
 replace h:=CG h
 obtain⟨r8,h15,h⟩:=bS h
 refine gQ (aSf h15) ?_
 rcases r8 with⟨r8_1,r8_2⟩
 cases r8_1
 replace h:=CF h
 refine gW 72 (.cx false [(0,0)] [] (.d (D.b false)) [rW 0 56 1 dU r8_2]) ?_
 exact lp h
 replace h:=CG h
 refine gW 72 (.cx false [(0,0)] [] (.d (D.b true)) [rW 0 56 1 dU r8_2]) ?_
 exact lp h
theorem FA(rd:Option Nat)(self:Int->Int->Int->(List Int)->Option (List Int))(hs: ∀(a1 a2 a3:Int) (w0 r:List Int),self a1 a2 a3 w0=some r->AL Tryz.prog 132 [.row 0,dI a1,dI a2,dI a3] [rW 0 56 1 dU w0] (.tup []) [rW 0 56 1 dU r])(us:List Value){s1 s2 s3:Int}{s9:Bool}{s14 s16:Int}{s17 s18:Int}{s113:Bool}{w0:List Int}{o:(Int×Int×Bool×List Int)}(h:Fj self s1 s2 s3 s9 s14 s16 s17 s18 s113 w0=some o):Lq 132 rd 466943 ⟨sp 134 0 [rx 0,sI 1 s1,sI 2 s2,sI 3 s3,sD 9 D.b s9,sI 14 s14,sI 16 s16,sI 17 s17,sI 18 s18,sD 113 D.b s113],[rW 0 56 1 dU w0,(997,.vals [.row 0] us)],[]⟩ (.normal,⟨sp 134 0 [rx 0,sI 1 o.1,sI 2 o.2.1,sI 3 s3,sD 8 D.b o.2.2.1,sD 9 D.b s9],[rW 0 56 1 dU o.2.2.2,(997,.vals [.row 0] us)],[]⟩):=by unfold Fj at h;apply g0 (o:=o);cases s113;replace h:=CF h;obtain⟨r18,h29,h⟩:=bS h;refine gG 132 (.cx false [(0,0)] [] (.tup []) [rW 0 56 1 dU r18]) (hs (AA .add .i64 s14 1) s2 s3 w0 r18 h29) ?_;exact lp h;replace h:=CG h;obtain⟨r17,h28,h⟩:=bS h;refine gG 121 (.cx false [(0,0)] [] (.tup []) [rW 0 56 1 dU r17]) (hs s1 s14 s3 w0 r17 h28) ?_;exact lp h
theorem aA7(rd:Option Nat)(self:Int->Int->Int->(List Int)->Option (List Int))(hs: ∀(a1 a2 a3:Int) (w0 r:List Int),self a1 a2 a3 w0=some r->AL Tryz.prog 132 [.row 0,dI a1,dI a2,dI a3] [rW 0 56 1 dU w0] (.tup []) [rW 0 56 1 dU r])(us:List Value){s1 s2 s3:Int}{s8 s9:Bool}{w0:List Int}{o:(Int×Int×Int×Bool×Bool×List Int)⊕(List Int)}(h:NA self s1 s2 s3 s8 s9 w0=some o):Lq 132 rd 28 ⟨sp 134 0 [rx 0,sI 1 s1,sI 2 s2,sI 3 s3,sD 8 D.b s8,sD 9 D.b s9],[rW 0 56 1 dU w0,(997,.vals [.row 0] us)],[]⟩ (match (generalizing:=false) o with
 | .inl o=>(.normal,⟨sp 134 0 [rx 0,sI 1 o.1,sI 2 o.2.1,sI 3 o.2.2.1,sD 8 D.b o.2.2.2.1,sD 9 D.b o.2.2.2.2.1],[rW 0 56 1 dU o.2.2.2.2.2,(997,.vals [.row 0] us)],[]⟩)
 | .inr o=>(.ret,⟨sp 134 0 [],[rW 0 56 1 dU o,(997,.vals [.row 0] us)],[]⟩)):=by
 unfold NA at h
 apply g0 (o:=o)
 refine iB 23 h (fun h=> ?_) fun h=> ?_
 obtain⟨r1,h2,h⟩:=bS h
 refine gG 27 (.cx false [(0,0)] [] (.tup []) [rW 0 56 1 dU r1]) (aS0 h2) ?_
 exact lp h
 refine iB 29 h (fun h=> ?_) fun h=> ?_
 obtain⟨r2,h4,h⟩:=bS h
 refine gG 33 (.cx false [(0,0)] [] (.tup []) [rW 0 56 1 dU r2]) (aS1 h4) ?_
 exact lp h
 obtain⟨o4,h7,h⟩:=bS h
 refine gl (aA8 rd self hs us h7) ?_
 obtain⟨r5,h8,h⟩:=bS h
 refine gG 46 (.lend [0] (.tup [dI r5.1,dI r5.2])) (aTx h8) ?_
 obtain⟨o7,h11,h⟩:=bS h
 refine gl (aA9 rd self hs us h11) ?_
 refine iB 62 h (fun h=> ?_) fun h=> ?_
 refine iB 65 h (fun h=> ?_) fun h=> ?_
 obtain⟨o9,h17,h⟩:=bS h
 refine gl (KZ rd self hs us h17) ?_
 replace h:=AK h
 rcases h with⟨o10,rfl,h⟩|⟨o11,rfl,h⟩
 refine iB 75 h (fun h=> ?_) fun h=> ?_
 obtain⟨h19,h⟩:=cS h
 refine gQ h19.1<|gQ (AF dU h19.2) ?_
 obtain⟨x12,h20,h⟩:=xS h
 refine gG 80 (.el (dU x12)) (AG dU h20) ?_
 obtain⟨h21,h⟩:=cS h
 refine gQ h21.1<|gQ (AF dU h21.2) ?_
 obtain⟨x13,h22,h⟩:=xS h
 refine gG 84 (.el (dU x13)) (AG dU h22) ?_
 obtain⟨r14,h23,h⟩:=bS h
 refine gC 85 (Ey h23) ?_
 refine iB 87 h (fun h=> ?_) fun h=> ?_
 obtain⟨r15,h25,h⟩:=bS h
 refine gG 92 (.cx false [(0,0)] [] (dI r15.1) [rW 0 56 1 dU r15.2]) (aKs h25) ?_
 exact lp h
 obtain⟨r16,h26,h⟩:=bS h
 refine gG 99 (.cx false [(0,0)] [] (.tup [dI r16.1,.d (D.b r16.2.1)]) [rW 0 56 1 dU r16.2.2]) (Pr h26)<|gQ (of_decide_eq_true rfl:(8:Int)≠0) ?_
 obtain⟨o19,h30,h⟩:=bS h
 refine gl (FA rd self hs us h30) ?_
 exact lp h
 obtain⟨r20,h31,h⟩:=bS h
 refine gG 99 (.cx false [(0,0)] [] (.tup [dI r20.1,.d (D.b r20.2.1)]) [rW 0 56 1 dU r20.2.2]) (Pr h31)<|gQ (of_decide_eq_true rfl:(8:Int)≠0) ?_
 obtain⟨o21,h32,h⟩:=bS h
 refine gl (FA rd self hs us h32) ?_
 exact lp h
 exact lp h
 obtain⟨o22,h33,h⟩:=bS h
 refine gl (KZ rd self hs us h33) ?_
 replace h:=AK h
 rcases h with⟨o23,rfl,h⟩|⟨o24,rfl,h⟩
 refine iB 75 h (fun h=> ?_) fun h=> ?_
 obtain⟨h35,h⟩:=cS h
 refine gQ h35.1<|gQ (AF dU h35.2) ?_
 obtain⟨x25,h36,h⟩:=xS h
 refine gG 80 (.el (dU x25)) (AG dU h36) ?_
 obtain⟨h37,h⟩:=cS h
 refine gQ h37.1<|gQ (AF dU h37.2) ?_
 obtain⟨x26,h38,h⟩:=xS h
 refine gG 84 (.el (dU x26)) (AG dU h38) ?_
 obtain⟨r27,h39,h⟩:=bS h
 refine gC 85 (Ey h39) ?_
 refine iB 87 h (fun h=> ?_) fun h=> ?_
 obtain⟨r28,h41,h⟩:=bS h
 refine gG 92 (.cx false [(0,0)] [] (dI r28.1) [rW 0 56 1 dU r28.2]) (aKs h41) ?_
 exact lp h
 obtain⟨r29,h42,h⟩:=bS h
 refine gG 99 (.cx false [(0,0)] [] (.tup [dI r29.1,.d (D.b r29.2.1)]) [rW 0 56 1 dU r29.2.2]) (Pr h42)<|gQ (of_decide_eq_true rfl:(8:Int)≠0) ?_
 obtain⟨o30,h43,h⟩:=bS h
 refine gl (FA rd self hs us h43) ?_
 exact lp h
 obtain⟨r31,h44,h⟩:=bS h
 refine gG 99 (.cx false [(0,0)] [] (.tup [dI r31.1,.d (D.b r31.2.1)]) [rW 0 56 1 dU r31.2.2]) (Pr h44)<|gQ (of_decide_eq_true rfl:(8:Int)≠0) ?_
 obtain⟨o32,h45,h⟩:=bS h
 refine gl (FA rd self hs us h45) ?_
 exact lp h
 exact lp h
 obtain⟨o33,h46,h⟩:=bS h
 refine gl (KZ rd self hs us h46) ?_
 replace h:=AK h
 rcases h with⟨o34,rfl,h⟩|⟨o35,rfl,h⟩
 refine iB 75 h (fun h=> ?_) fun h=> ?_
 obtain⟨h48,h⟩:=cS h
 refine gQ h48.1<|gQ (AF dU h48.2) ?_
 obtain⟨x36,h49,h⟩:=xS h
 refine gG 80 (.el (dU x36)) (AG dU h49) ?_
 obtain⟨h50,h⟩:=cS h
 refine gQ h50.1<|gQ (AF dU h50.2) ?_
 obtain⟨x37,h51,h⟩:=xS h
 refine gG 84 (.el (dU x37)) (AG dU h51) ?_
 obtain⟨r38,h52,h⟩:=bS h
 refine gC 85 (Ey h52) ?_
 refine iB 87 h (fun h=> ?_) fun h=> ?_
 obtain⟨r39,h54,h⟩:=bS h
 refine gG 92 (.cx false [(0,0)] [] (dI r39.1) [rW 0 56 1 dU r39.2]) (aKs h54) ?_
 exact lp h
 obtain⟨r40,h55,h⟩:=bS h
 refine gG 99 (.cx false [(0,0)] [] (.tup [dI r40.1,.d (D.b r40.2.1)]) [rW 0 56 1 dU r40.2.2]) (Pr h55)<|gQ (of_decide_eq_true rfl:(8:Int)≠0) ?_
 obtain⟨o41,h56,h⟩:=bS h
 refine gl (FA rd self hs us h56) ?_
 exact lp h
 obtain⟨r42,h57,h⟩:=bS h
 refine gG 99 (.cx false [(0,0)] [] (.tup [dI r42.1,.d (D.b r42.2.1)]) [rW 0 56 1 dU r42.2.2]) (Pr h57)<|gQ (of_decide_eq_true rfl:(8:Int)≠0) ?_
 obtain⟨o43,h58,h⟩:=bS h
 refine gl (FA rd self hs us h58) ?_
 exact lp h
 exact lp h
def SR(us:List Value)(s1 s2 s3:Int)(s8 s9:Bool)(w0:List Int):St:=⟨sp 134 0 [rx 0,sI 1 s1,sI 2 s2,sI 3 s3,sD 8 D.b s8,sD 9 D.b s9],[rW 0 56 1 dU w0,(997,.vals [.row 0] us)],[]⟩
def SS(us:List Value)(o:(List Int)):Ex×St:=(.ret,⟨sp 134 0 [],[rW 0 56 1 dU o,(997,.vals [.row 0] us)],[]⟩)
theorem aBb(rd:Option Nat)(self:Int->Int->Int->(List Int)->Option (List Int))(hs: ∀(a1 a2 a3:Int) (w0 r:List Int),self a1 a2 a3 w0=some r->AL Tryz.prog 132 [.row 0,dI a1,dI a2,dI a3] [rW 0 56 1 dU w0] (.tup []) [rW 0 56 1 dU r])(us:List Value){s1 s2 s3:Int}{s8 s9:Bool}{w0:List Int}{t:(List Int)}(h:Ps self s1 s2 s3 s8 s9 w0=some t):Lq 132 rd 14 (SR us s1 s2 s3 s8 s9 w0) ((SS us) t):=
 lL (fun s:Int×Int×Int×Bool×Bool×List Int=>SR us s.1 s.2.1 s.2.2.1 s.2.2.2.1 s.2.2.2.2.1 s.2.2.2.2.2) (SS us) (s1,s2,s3,s8,s9,w0) (fun⟨s1,s2,s3,s8,s9,w0⟩ o h=>by
 unfold Hn at h
 obtain⟨o44,h59,h⟩:=bS h
 refine gl (aA7 rd self hs us h59) ?_
 replace h:=AK h
 rcases h with⟨o45,rfl,h⟩|⟨o46,rfl,h⟩
 exact lb h
 exact lb h) h
theorem aKl(self:Int->Int->Int->(List Int)->Option (List Int))(hs: ∀(a1 a2 a3:Int) (w0 r:List Int),self a1 a2 a3 w0=some r->AL Tryz.prog 132 [.row 0,dI a1,dI a2,dI a3] [rW 0 56 1 dU w0] (.tup []) [rW 0 56 1 dU r])(a1 a2 a3:Int)(w0 r:List Int)(h:aKk self a1 a2 a3 w0=some r):AL Tryz.prog 132 [.row 0,dI a1,dI a2,dI a3] [rW 0 56 1 dU w0] (.tup []) [rW 0 56 1 dU r]:=by unfold aKk at h;refine XG.call (ks:=[0]) mixed fun us=> ?_;apply g0 (o:=r);obtain⟨o47,h60,h⟩:=bS h;refine gl (aBb none self hs us h60) ?_;exact lX h (lv [] [0,997])
theorem ST: ∀(n:Nat) (a1 a2 a3:Int) (w0 r:List Int),aI2 n a1 a2 a3 w0=some r->AL Tryz.prog 132 [.row 0,dI a1,dI a2,dI a3] [rW 0 56 1 dU w0] (.tup []) [rW 0 56 1 dU r]
 |0,a1,a2,a3,w0,r,h=>by simp [aI2]at h
 |n+1,a1,a2,a3,w0,r,h=>aKl _ (ST n) a1 a2 a3 w0 r h
theorem aSi(h:X9 cG cH cI cK=some cT):AL Tryz.prog 132 [.row 0,dI cG,dI cH,dI cI] [rW 0 56 1 dU cK] (.tup []) [rW 0 56 1 dU cT]:=ST 100000 cG cH cI cK cT h
theorem aRf(h:Q7 cK=some cT):AL Tryz.prog 93 [.row 0] [rW 0 56 1 dU cK] (.tup []) [rW 0 56 1 dU cT]:=by unfold Q7 at h;refine XG.call (ks:=[0]) mixed fun us=> ?_;apply g0 (o:=cT);refine gN 4 dU cK ?_;obtain⟨r1,h1,h⟩:=bS h;refine gC 9 (aKa h1) ?_;obtain⟨r2,h2,h⟩:=bS h;refine gG 10 (.cx false [(0,0)] [] (.tup []) [rW 0 56 1 dU r2]) (aSi h2) ?_;exact lX h (lv [] [0,997])
theorem aR7(h:Qz cK=some cT):AL Tryz.prog 93 [.row 0] [(0,.bag 56 1 (cK.map dU))] (.tup []) [rW 0 56 1 dU cT]:=
 AL.bagE (R:=fun _=> .tup []) (X':=fun cT=> [rW 0 56 1 dU cT]) (fun _ _ h=>aRf h) cT h
def Rq(s1:List X2)(s6 s15:Int)(s16 s30:Int)(w2:AD)(w5:List (Int×Bool))(s31:Int)(w7:List (Int×Bool)):St:=⟨sp 65 0 [sD 1 (D.l X2.D) s1,bx 2,rx 5,sI 6 s6,rx 7,sI 15 s15,sI 16 s16,sI 30 s30,sI 31 s31],[cL 2 AD.D w2,(5,.mapS (ms dU D.b w5)),(7,.mapS (ms dU D.b w7))],[]⟩
def Rr(s1:List X2)(s6 s15:Int)(s16 s30:Int)(w2:AD)(w5:List (Int×Bool))(o:(List (Int×Bool))):Ex×St:=(.exit 2,⟨sp 65 0 [sD 1 (D.l X2.D) s1,bx 2,rx 5,rx 7,sI 15 s15,sI 16 s16],[cL 2 AD.D w2,(5,.mapS (ms dU D.b w5)),(7,.mapS (ms dU D.b o))],[]⟩)
theorem aAh(rd:Option Nat)(h:aKe cU cG cH cI cJ cV cW cX cY=some cZ):Lq 67 rd 59802 (Rq cU cG cH cI cJ cV cW cX cY) ((Rr cU cG cH cI cJ cV cW) cZ):=
 lL (fun s:Int×(List (Int×Bool))=>Rq cU cG cH cI cJ cV cW s.1 s.2) (Rr cU cG cH cI cJ cV cW) (cX,cY) (fun⟨cX,cY⟩ o h=>by
 unfold Hf at h
 refine iB 32 h (fun h=> ?_) fun h=> ?_
 obtain⟨r3,h5,h⟩:=bS h
 refine gG 40 (.cx false [(0,7)] [(1,40)] (.row 1) [(1,.mapS (ms dU D.b r3))]) (aSs h5) ?_
 exact lB h [.live [1,2,5,6,7,15,16,30,31],.keep [2,5,40],.ren 40 7,.sort]
 exact lb h) h
def GP(clk:Nat)(es:List (Nat×Int×Bool))(s1:List X2)(s15 s16:Int)(w2:AD)(w7 w5:List (Int×Bool))(sn:List Nat):St:=⟨sp 65 0 [sD 1 (D.l X2.D) s1,bx 2,rx 5,sI 15 s15,sI 16 s16,bx 43],[cL 2 AD.D w2,(5,.mapS (ms dU D.b w5)),(7,.map clk (dl dU D.b es)),(43,.mit 7 clk sn)],[]⟩
def GQ(clk:Nat)(es:List (Nat×Int×Bool))(s1:List X2)(s15 s16:Int)(w2:AD)(w7:List (Int×Bool))(o:(List (Int×Bool))):Ex×St:=(.exit 4,⟨sp 65 0 [sD 1 (D.l X2.D) s1,bx 2,rx 5,sI 15 s15,sI 16 s16],[cL 2 AD.D w2,(5,.mapS (ms dU D.b o))],[]⟩)
def aKg(clk:Nat)(es:List (Nat×Int×Bool))(s1:List X2)(s15 s16:Int)(w2:AD)(w7 w5:List (Int×Bool)):St:=⟨sp 65 0 [sD 1 (D.l X2.D) s1,bx 2,rx 5,sI 15 s15,sI 16 s16],[cL 2 AD.D w2,(5,.mapS (ms dU D.b w5))],[]⟩
set_option maxRecDepth 100000 in
theorem Rt(rd:Option Nat)(clk:Nat)(es:List (Nat×Int×Bool))(s1:List X2)(s15 s16:Int)(w2:AD)(w7:List (Int×Bool))(k:Int)(v:Bool)(w5:List (Int×Bool))(sn:List Nat)(st:Nat)(hm:(st,k,v)∈es)(o:(List (Int×Bool)))(h:Hg s1 s15 s16 w2 w7 k v w5=some o):Mv Tryz.prog rd (EK Tryz.prog 67) [0,1,1,1,1,0,0,1,1,0,0,1,0,1,1] ((⟨(GP clk es s1 s15 s16 w2 w7 w5 sn).E,Bt (GP clk es s1 s15 s16 w2 w7 w5 sn).B 43 (.mit 7 clk (sn++[st])),[]⟩:St).put (some 44) (.tup [bo true,.d (dU k),.d (D.b v)])) fun zx zs=>zx= .normal/\Wk zs ((fun s:(List (Int×Bool))=>GP clk es s1 s15 s16 w2 w7 s (sn++[st])) o):=by unfold Hg at h;obtain rfl:=si h;exact FX mixed [(46,.en (dU k) (D.b v)),(10048,.ms (ms dU D.b (GF k true w5)))] [] [.live [1,2,5,15,16,43],.keep [2,5,7,43]] (ai (Nw (fk:=dU) (fv:=D.b) (clk:=clk) (sn:=sn) hm) (ai (N4 (PG Tryz.underlying56) D.b w5 k true) (ti))) (by kernel_rfl)
set_option maxRecDepth 100000 in
theorem Rs(rd:Option Nat)(clk:Nat)(es:List (Nat×Int×Bool))(s1:List X2)(s15 s16:Int)(w2:AD)(w7 w5:List (Int×Bool))(sn:List Nat):Mv Tryz.prog rd (EK Tryz.prog 67) [0,1,1,1,1,0,0,1,1,0,0,1,0,1,1] ((GP clk es s1 s15 s16 w2 w7 w5 sn).put (some 44) (.tup [bo false])) fun zx zs=>zx=(GQ clk es s1 s15 s16 w2 w7 (KY s1 s15 s16 w2 w7 w5)).1/\Wk zs (GQ clk es s1 s15 s16 w2 w7 (KY s1 s15 s16 w2 w7 w5)).2:=by refine Mv.wk (e:= .exit 4) (s1:=aKg clk es s1 s15 s16 w2 w7 w5) (FX mixed [] [] [.live [1,2,5,15,16],.keep [2,5]] (ti) (by kernel_rfl)) ?_;exact(Wk.canS 5 (by kernel_rfl) rfl)
set_option maxRecDepth 100000 in
theorem aAi(rd:Option Nat)(clk:Nat)(es:List (Nat×Int×Bool))(s1:List X2)(s15 s16:Int)(w2:AD)(w7 w5:List (Int×Bool))(hp:(es.map (·.2)).Perm w7)(o:(List (Int×Bool)))(h:aKf s1 s15 s16 w2 w7 w5=some o):Ff Tryz.prog rd (EK Tryz.prog 67) [0,1,1,1,1,0,0,1,1,0,0,1,0,1,1] (GP clk es s1 s15 s16 w2 w7 w5 []) ((GQ clk es s1 s15 s16 w2 w7) o).1 ((GQ clk es s1 s15 s16 w2 w7) o).2:=
 Nt (fk:=dU) (fv:=D.b) (step:=(fun(x:Int×Bool) (s:(List (Int×Bool)))=>Hg s1 s15 s16 w2 w7 x.1 x.2 s)) (s0:=w5) 43 44 43 7 clk es (fun(sn:List Nat) (s:(List (Int×Bool)))=>GP clk es s1 s15 s16 w2 w7 s sn) (GQ clk es s1 s15 s16 w2 w7) (by kernel_rfl) (PE (by rfl)) (fun _ _=>by kernel_rfl) (fun _ _=>by kernel_rfl) (fun _ _=>by kernel_rfl) hp
  (fun sn s k v st a hm h=>Rt rd clk es s1 s15 s16 w2 w7 k v s sn st hm a h) (fun sn s hc=>hc▸Rs rd clk es s1 s15 s16 w2 w7 s sn) h
theorem aAd(rd:Option Nat)(h:aAc cU cG cH cV cW cY=some cZ):Lq 67 rd 14951 ⟨sp 65 0 [sD 1 (D.l X2.D) cU,bx 2,rx 5,rx 7,sI 15 cG,sI 16 cH],[cL 2 AD.D cV,(5,.mapS (ms dU D.b cW)),(7,.mapS (ms dU D.b cY))],[]⟩ (.normal,⟨sp 65 0 [sD 1 (D.l X2.D) cU,bx 2,rx 5,sI 15 cG,sI 16 cH],[cL 2 AD.D cV,(5,.mapS (ms dU D.b cZ))],[]⟩):=by unfold aAc at h;obtain⟨o5,h7,h⟩:=bS h;obtain rfl:=si h;exact Arr.lp (Arr.exact (fk:=dU) (fv:=D.b) (S:=cY) 7 (by kernel_rfl) fun clk es hp=>GG mixed [] [⟨[0,1,1,1,1,0,0,1,1,0,0,1,0,1,1],[.live [1,2,5,15,16,43],.keep [2,5,7,43]],.exit 4,(GQ clk es cU cG cH cV cY o5).2⟩] [.live [1,2,5,15,16],.keep [2,5]] (ai (aAi rd clk es cU cG cH cV cY cW hp o5 h7) (ti)) (by kernel_rfl))
def Ro(s1:List X2)(s15:Int)(w2:AD)(s16:Int)(w5:List (Int×Bool)):St:=⟨sp 65 0 [sD 1 (D.l X2.D) s1,bx 2,rx 5,sI 15 s15,sI 16 s16],[cL 2 AD.D w2,(5,.mapS (ms dU D.b w5))],[]⟩
def Rp(s1:List X2)(s15:Int)(w2:AD)(o:(List (Int×Bool))):Ex×St:=(.exit 0,⟨sp 65 0 [rx 5],[(5,.mapS (ms dU D.b o))],[]⟩)
theorem aAg(rd:Option Nat)(h:aKd cU cG cV cH cW=some cZ):Lq 67 rd 58 (Ro cU cG cV cH cW) ((Rp cU cG cV) cZ):=
 lL (fun s:Int×(List (Int×Bool))=>Ro cU cG cV s.1 s.2) (Rp cU cG cV) (cH,cW) (fun⟨cH,cW⟩ o h=>by
 unfold He at h
 refine iB 17 h (fun h=> ?_) fun h=> ?_
 refine gW 19 .frz ?_
 obtain⟨r1,h2,h⟩:=bS h
 refine gC 22 (aTm h2)<|gQ (N4 (PG Tryz.underlying56) D.b ([]:List (Int×Bool)) r1 true)<|gW 10019 (.ms (ms dU D.b (GF r1 true ([]:List (Int×Bool)))))<|xX 27 Xd.D h fun x2 h=> ?_
 refine gN 30 dZ x2.types ?_
 obtain⟨o4,h6,h⟩:=bS h
 refine gL [.live [1,2,5,6,7,15,16,30,31],.keep [2,5,19],.ren 19 7,.sort] (aAh rd h6) ?_
 obtain⟨o6,h8,h⟩:=bS h
 refine gl (aAd rd h8) ?_
 exact lb h
 exact lb h) h
def GR(clk:Nat)(es:List (Nat×Int×Bool))(w5:List (Int×Bool))(w10:List Int)(sn:List Nat):St:=⟨sp 65 0 [rx 10,bx 53],[(5,.map clk (dl dU D.b es)),rW 10 56 1 dU w10,(53,.mit 5 clk sn)],[]⟩
def GS(clk:Nat)(es:List (Nat×Int×Bool))(w5:List (Int×Bool))(o:List Int):Ex×St:=(.exit 6,⟨sp 65 0 [rx 10],[(10,.bag 56 1 (o.map dU))],[]⟩)
def aKi(clk:Nat)(es:List (Nat×Int×Bool))(w5:List (Int×Bool))(w10:List Int):St:=⟨sp 65 0 [rx 10],[rW 10 56 1 dU w10],[]⟩
set_option maxRecDepth 100000 in
theorem Rv(rd:Option Nat)(clk:Nat)(es:List (Nat×Int×Bool))(w5:List (Int×Bool))(k:Int)(v:Bool)(w10:List Int)(sn:List Nat)(st:Nat)(hm:(st,k,v)∈es)(o:List Int)(h:Fi w5 k v w10=some o):Mv Tryz.prog rd (EK Tryz.prog 67) [0,1,0,1,1,1,1,1] ((⟨(GR clk es w5 w10 sn).E,Bt (GR clk es w5 w10 sn).B 53 (.mit 5 clk (sn++[st])),[]⟩:St).put (some 54) (.tup [bo true,.d (dU k),.d (D.b v)])) fun zx zs=>zx= .normal/\Wk zs ((fun s:List Int=>GR clk es w5 s (sn++[st])) o):=by unfold Fi at h;obtain⟨h10,h⟩:=cS h;obtain rfl:=si h;exact FX mixed [(56,.en (dU k) (D.b v)),(61,.rwl ((w10++[k]).map dU))] [] [.live [10,53],.keep [5,53,61],.ren 61 10,.sort] (ai (Nw (fk:=dU) (fv:=D.b) (clk:=clk) (sn:=sn) hm) (ai (An dU [k]) (ai (An dU [k]) (ai (Au dU h10) (ai (At dU w10 [k]) (ti)))))) (by kernel_rfl)
set_option maxRecDepth 100000 in
theorem Ru(rd:Option Nat)(clk:Nat)(es:List (Nat×Int×Bool))(w5:List (Int×Bool))(w10:List Int)(sn:List Nat):Mv Tryz.prog rd (EK Tryz.prog 67) [0,1,0,1,1,1,1,1] ((GR clk es w5 w10 sn).put (some 54) (.tup [bo false])) fun zx zs=>zx=(GS clk es w5 (M2 w5 w10)).1/\Wk zs (GS clk es w5 (M2 w5 w10)).2:=by refine Mv.wk (e:= .exit 6) (s1:=aKi clk es w5 w10) (FX mixed [] [] [.live [10],.keep [10]] (ti) (by kernel_rfl)) ?_;exact(Wk.canB 10 (EH _).symm (by kernel_rfl) rfl)
set_option maxRecDepth 100000 in
theorem aAj(rd:Option Nat)(clk:Nat)(es:List (Nat×Int×Bool))(w5:List (Int×Bool))(w10:List Int)(hp:(es.map (·.2)).Perm w5)(o:List Int)(h:aKh w5 w10=some o):Ff Tryz.prog rd (EK Tryz.prog 67) [0,1,0,1,1,1,1,1] (GR clk es w5 w10 []) ((GS clk es w5) o).1 ((GS clk es w5) o).2:=
 Nt (fk:=dU) (fv:=D.b) (step:=(fun(x:Int×Bool) (s:List Int)=>Fi w5 x.1 x.2 s)) (s0:=w10) 53 54 53 5 clk es (fun(sn:List Nat) (s:List Int)=>GR clk es w5 s sn) (GS clk es w5) (by kernel_rfl) (PE (by rfl)) (fun _ _=>by kernel_rfl) (fun _ _=>by kernel_rfl) (fun _ _=>by kernel_rfl) hp
  (fun sn s k v st a hm h=>Rv rd clk es w5 k v s sn st hm a h) (fun sn s hc=>hc▸Ru rd clk es w5 s sn) h
theorem aAf(rd:Option Nat)(h:aAe cW=some d4):Lq 67 rd 126 ⟨sp 65 0 [rx 5,(10,.nil)],[(5,.mapS (ms dU D.b cW))],[]⟩ (.normal,⟨sp 65 0 [rx 10],[(10,.bag 56 1 (d4.map dU))],[]⟩):=by unfold aAe at h;obtain⟨o8,h11,h⟩:=bS h;obtain rfl:=si h;exact Arr.lp (Arr.exact (fk:=dU) (fv:=D.b) (S:=cW) 5 (by kernel_rfl) fun clk es hp=>GG mixed [] [⟨[0,1,0,1,1,1,1,1],[.live [10,53],.keep [5,53],.nilw 10 10 56 1,.sort],.exit 6,(GS clk es cW o8).2⟩] [.live [10],.keep [10]] (ai (aAj rd clk es cW ([]:List Int) hp o8 h11) (ti)) (by kernel_rfl))
theorem aOx(h:X4 cV cU=some cK):AL Tryz.prog 67 [.d (AD.D cV),.d ((D.l X2.D) cU)] [] (.d ((D.l dU) cK)) []:=by unfold X4 at h;apply g0 (o:=cK);refine gN 15 Xd.D cV.decls<|gW 12 .frz ?_;obtain⟨o7,h9,h⟩:=bS h;refine gL [.live [1,2,5,15,16],.keep [2,12],.ren 12 5,.sort] (aAg none h9)<|gQ (aNb (PG Tryz.underlying56) D.b o7 0)<|gW 10051 (.ms (ms dU D.b (Nc 0 o7))) ?_;obtain⟨o9,h12,h⟩:=bS h;refine gl (aAf none h12) ?_;obtain⟨r10,h13,h⟩:=bS h;refine gG 63 (.cx true [(0,10)] [] (.tup []) [rW 0 56 1 dU r10]) (aR7 h13) ?_;exact lF h [.frz 10]
theorem aR8(h:U0 cG=some d5):AL Tryz.prog 40 [.d (dW cG)] [] (.d (D.b d5)) []:=by unfold U0 at h;apply g0 (o:=d5);exact lf h
theorem OT(rd:Option Nat)(h:Sv cG cH cI cJ cX d6 d7 d8 d9 dA dB d5 cV dC dD=some dE):Lq 69 rd 15310131 ⟨sp 69 0 [sD 1 dW cG,sD 2 dU cH,bx 3,sD 7 dW cI,sI 8 cJ,bx 9,sD 10 dW cX,bx 12,sD 14 (D.l Xb.D) d6,sI 15 d7,sI 16 d8,sD 28 (D.l Xc.D) d9,sI 29 dA,sI 30 dB,sD 46 D.b d5],[cL 3 AD.D cV,cL 9 Xb.D dC,cL 12 Xc.D dD],[]⟩ (.normal,⟨sp 69 0 [sD 1 dW cG,sD 2 dU cH,bx 3,sD 7 dW cI,sI 8 cJ,bx 9,sD 10 dW dE,sD 14 (D.l Xb.D) d6,sI 15 d7,sI 16 d8,sD 28 (D.l Xc.D) d9,sI 29 dA,sI 30 dB],[cL 3 AD.D cV,cL 9 Xb.D dC],[]⟩):=by unfold Sv at h;apply g0 (o:=dE);cases d5;replace h:=CF h;exact lp h;replace h:=CG h;obtain⟨h10,h⟩:=cS h;refine gQ h10 ?_;exact lp h
theorem aBw(rd:Option Nat)(h:aBv cG cH cI cJ cX d6 d7 d8 d9 dA dB cV dC=some dE):Lq 69 rd 1913766 ⟨sp 69 0 [sD 1 dW cG,sD 2 dU cH,bx 3,sD 7 dW cI,sI 8 cJ,bx 9,sD 10 dW cX,sD 14 (D.l Xb.D) d6,sI 15 d7,sI 16 d8,sD 28 (D.l Xc.D) d9,sI 29 dA,sI 30 dB],[cL 3 AD.D cV,cL 9 Xb.D dC],[]⟩ (.normal,⟨sp 69 0 [sD 1 dW cG,sD 2 dU cH,bx 3,sD 7 dW cI,sI 8 cJ,bx 9,sD 10 dW dE,sD 14 (D.l Xb.D) d6,sI 15 d7,sI 16 d8,sD 28 (D.l Xc.D) d9,sI 29 dA,sI 30 dB],[cL 3 AD.D cV,cL 9 Xb.D dC],[]⟩):=by unfold aBv at h;apply g0 (o:=dE);refine xX 32 Xc.D h fun x2 h=> ?_;refine iB 38 h (fun h=> ?_) fun h=> ?_;obtain⟨h8,h⟩:=cS h;refine gQ h8 ?_;obtain⟨o3,h11,h⟩:=bS h;refine gl (OT rd h11) ?_;exact lp h;obtain⟨o4,h12,h⟩:=bS h;refine gl (OT rd h12) ?_;exact lp h
def Sy(s1 s2:Int)(s7 s8:Int)(s14:List Xb)(s15 s16:Int)(s28:List Xc)(s29:Int)(w3:AD)(w9:Xb)(s10 s30:Int):St:=⟨sp 69 0 [sD 1 dW s1,sD 2 dU s2,bx 3,sD 7 dW s7,sI 8 s8,bx 9,sD 10 dW s10,sD 14 (D.l Xb.D) s14,sI 15 s15,sI 16 s16,sD 28 (D.l Xc.D) s28,sI 29 s29,sI 30 s30],[cL 3 AD.D w3,cL 9 Xb.D w9],[]⟩
def Sz(s1 s2:Int)(s7 s8:Int)(s14:List Xb)(s15 s16:Int)(s28:List Xc)(s29:Int)(w3:AD)(w9:Xb)(o:Int):Ex×St:=(.exit 2,⟨sp 69 0 [sD 1 dW s1,sD 2 dU s2,bx 3,sD 7 dW s7,sI 8 s8,bx 9,sD 10 dW o,sD 14 (D.l Xb.D) s14,sI 15 s15,sI 16 s16],[cL 3 AD.D w3,cL 9 Xb.D w9],[]⟩)
theorem aBz(rd:Option Nat)(h:aBy cG cH cI cJ d6 cX d7 d9 d8 cV dC dA dB=some dE):Lq 69 rd 119610 (Sy cG cH cI cJ d6 cX d7 d9 d8 cV dC dA dB) ((Sz cG cH cI cJ d6 cX d7 d9 d8 cV dC) dE):=
 lL (fun s:Int×Int=>Sy cG cH cI cJ d6 cX d7 d9 d8 cV dC s.1 s.2) (Sz cG cH cI cJ d6 cX d7 d9 d8 cV dC) (dA,dB) (fun⟨dA,dB⟩ o h=>by
 unfold Hy at h
 refine iB 31 h (fun h=> ?_) fun h=> ?_
 obtain⟨o5,h13,h⟩:=bS h
 refine gl (aBw rd h13) ?_
 exact lb h
 exact lb h) h
theorem OU(rd:Option Nat)(h:NE cG cH cI cJ cX d6 d7 d8 d5 cV=some dA):Lq 69 rd 119613 ⟨sp 69 0 [sD 1 dW cG,sD 2 dU cH,bx 3,sD 7 dW cI,sI 8 cJ,sD 10 dW cX,sD 14 (D.l Xb.D) d6,sI 15 d7,sI 16 d8,sD 60 D.b d5],[cL 3 AD.D cV],[]⟩ (.normal,⟨sp 69 0 [sD 1 dW cG,sD 2 dU cH,bx 3,sD 7 dW cI,sD 10 dW dA,sD 14 (D.l Xb.D) d6,sI 15 d7,sI 16 d8],[cL 3 AD.D cV],[]⟩):=by unfold NE at h;apply g0 (o:=dA);cases d5;replace h:=CF h;exact lp h;replace h:=CG h;obtain⟨h17,h⟩:=cS h;refine gQ h17 ?_;exact lp h
theorem aBu(rd:Option Nat)(h:aBt cG cH cI d6 cJ cX cV=some d7):Lq 69 rd 934 ⟨sp 69 0 [sD 1 dW cG,sD 2 dU cH,bx 3,sD 7 dW cI,sD 14 (D.l Xb.D) d6,sI 15 cJ,sI 16 cX],[cL 3 AD.D cV],[]⟩ (.normal,⟨sp 69 0 [sD 1 dW cG,sD 2 dU cH,bx 3,sD 7 dW d7,sD 14 (D.l Xb.D) d6,sI 15 cJ,sI 16 cX],[cL 3 AD.D cV],[]⟩):=by unfold aBt at h;apply g0 (o:=d7);refine xX 19 Xb.D h fun x1 h=> ?_;obtain⟨h3,h⟩:=cS h;refine gQ h3 ?_;refine iB 26 h (fun h=> ?_) fun h=> ?_;exact lp h;refine gN 29 Xc.D cV.trans ?_;obtain⟨o6,h14,h⟩:=bS h;refine gl (aBz rd h14) ?_;refine iB 56 h (fun h=> ?_) fun h=> ?_;obtain⟨o7,h18,h⟩:=bS h;refine gl (OU rd h18) ?_;exact lp h;obtain⟨o8,h19,h⟩:=bS h;refine gl (OU rd h19) ?_;exact lp h
def Sw(s1 s2:Int)(s14:List Xb)(s15:Int)(w3:AD)(s7 s16:Int):St:=⟨sp 69 0 [sD 1 dW s1,sD 2 dU s2,bx 3,sD 7 dW s7,sD 14 (D.l Xb.D) s14,sI 15 s15,sI 16 s16],[cL 3 AD.D w3],[]⟩
def Sx(s1 s2:Int)(s14:List Xb)(s15:Int)(w3:AD)(o:Int):Ex×St:=(.exit 0,⟨sp 69 0 [sD 7 dW o],[],[]⟩)
theorem aBx(rd:Option Nat)(h:aKv cG cH d6 cI cV cJ cX=some d7):Lq 69 rd 58 (Sw cG cH d6 cI cV cJ cX) ((Sx cG cH d6 cI cV) d7):=
 lL (fun s:Int×Int=>Sw cG cH d6 cI cV s.1 s.2) (Sx cG cH d6 cI cV) (cJ,cX) (fun⟨cJ,cX⟩ o h=>by
 unfold Gc at h
 refine iB 17 h (fun h=> ?_) fun h=> ?_
 obtain⟨o9,h20,h⟩:=bS h
 refine gl (aBu rd h20) ?_
 exact lb h
 exact lb h) h
theorem aO2(h:Xg cV cG cH=some cI):AL Tryz.prog 69 [.d (AD.D cV),.d (dW cG),.d (dU cH)] [] (.d (dW cI)) []:=by unfold Xg at h;apply g0 (o:=cI);refine gN 15 Xb.D cV.states ?_;obtain⟨o10,h21,h⟩:=bS h;refine gl (aBx none h21) ?_;exact lf h
theorem aDp(rd:Option Nat)(us:List Value)(h:aDo cK cG cH cI cT cJ cX d5 cV dF dG dH=some dJ):Lq 39 rd 58346703 ⟨sp 84 0 [(3,.clo (.func 40) [] []),bx 4,rx 8,rx 9,rx 10,sD 11 (D.l dU) cK,sI 12 cG,sD 14 dU cH,sD 15 dW cI,sD 44 (D.l dU) cT,sI 45 cJ,sI 46 cX,sD 64 D.b d5],[cL 4 AD.D cV,rW 8 32 1 dW dF,(9,.map dG.clk (MP.dl dW dW dG)),(10,.map dH.clk (MP.dl dW dU dH)),(997,.vals [] us)],[]⟩ (.normal,⟨sp 84 0 [(3,.clo (.func 40) [] []),bx 4,rx 8,rx 9,rx 10,sD 11 (D.l dU) cK,sI 12 cG,sD 44 (D.l dU) cT,sI 45 cJ,sI 46 cX],[cL 4 AD.D cV,rW 8 32 1 dW dJ.1,(9,.map dJ.2.1.clk (MP.dl dW dW dJ.2.1)),(10,.map dJ.2.2.clk (MP.dl dW dU dJ.2.2)),(997,.vals [] us)],[]⟩):=by unfold aDo at h;apply g0 (o:=dJ);cases d5;replace h:=CF h;exact lp h;replace h:=CG h;refine gW 74 (.me (Ei 0 dG cI).clk (MP.dl dW dW (Ei 0 dG cI)) (dW (aVd 0 dG cI)) (Je 0 dG cI))<|gW 10067 (.mp (C8 dH cI cH).clk (MP.dl dW dU (C8 dH cI cH)))<|gW 79 (.rwl ((dF++[cI]).map dW)) ?_;obtain⟨h14,h⟩:=cS h;refine gQ h14.1<|gQ (AF dW h14.2) ?_;obtain⟨x7,h15,h⟩:=xS h;refine gG 72 (.el (dW x7)) (AG dW h15)<|gW 10075 (.mp (LE (Ei 0 dG cI) ((Je 0 dG cI:Nat):Int) x7).clk (MP.dl dW dW (LE (Ei 0 dG cI) ((Je 0 dG cI:Nat):Int) x7))) ?_;obtain⟨h16,h⟩:=cS h;refine gQ (XT (PG Tryz.underlying32) dW 0 dG cI h16) ?_;obtain⟨h17,h⟩:=cS h;refine gQ (XW dW dW (Ei 0 dG cI) ((Je 0 dG cI:Nat):Int) x7 h17)<|gQ (LD (PG Tryz.underlying32) dU dH cI cH)<|gQ (An dW [cI])<|gQ (An dW [cI]) ?_;obtain⟨h18,h⟩:=cS h;refine gQ (Au dW h18)<|gQ (At dW dF [cI]) ?_;exact lP h [.live [3,4,8,9,10,11,12,44,45,46],.keep [4,9,10,79,997],.ren 79 8,.sort]
theorem aDn(rd:Option Nat)(us:List Value)(h:aDm cK cG cT cH cI cV dF dG dH=some dJ):Lq 39 rd 1823334 ⟨sp 84 0 [(3,.clo (.func 40) [] []),bx 4,rx 8,rx 9,rx 10,sD 11 (D.l dU) cK,sI 12 cG,sD 44 (D.l dU) cT,sI 45 cH,sI 46 cI],[cL 4 AD.D cV,rW 8 32 1 dW dF,(9,.map dG.clk (MP.dl dW dW dG)),(10,.map dH.clk (MP.dl dW dU dH)),(997,.vals [] us)],[]⟩ (.normal,⟨sp 84 0 [(3,.clo (.func 40) [] []),bx 4,rx 8,rx 9,rx 10,sD 11 (D.l dU) cK,sI 12 cG,sD 44 (D.l dU) cT,sI 45 cH,sI 46 cI],[cL 4 AD.D cV,rW 8 32 1 dW dJ.1,(9,.map dJ.2.1.clk (MP.dl dW dW dJ.2.1)),(10,.map dJ.2.2.clk (MP.dl dW dU dJ.2.2)),(997,.vals [] us)],[]⟩):=by unfold aDm at h;apply g0 (o:=dJ);refine xX 48 dU h fun x4 h=> ?_;obtain⟨h10,h⟩:=cS h;refine gQ h10.1<|gQ (AF dW h10.2) ?_;obtain⟨x5,h11,h⟩:=xS h;refine gG 54 (.el (dW x5)) (AG dW h11) ?_;obtain⟨r6,h12,h⟩:=bS h;refine gC 56 (aO2 h12)<|gG 60 (.mg (dW (DU 0 dG r6).1) (DU 0 dG r6).2) (LC (PG Tryz.underlying32) dW 0 dG r6) ?_;obtain⟨o8,h19,h⟩:=bS h;refine gl (aDp rd us h19) ?_;exact lp h
def UE(us:List Value)(s11:List Int)(s12:Int)(s44:List Int)(s45:Int)(w4:AD)(s46:Int)(w8:List Int)(w9 w10:MP Int Int):St:=⟨sp 84 0 [(3,.clo (.func 40) [] []),bx 4,rx 8,rx 9,rx 10,sD 11 (D.l dU) s11,sI 12 s12,sD 44 (D.l dU) s44,sI 45 s45,sI 46 s46],[cL 4 AD.D w4,rW 8 32 1 dW w8,(9,.map w9.clk (MP.dl dW dW w9)),(10,.map w10.clk (MP.dl dW dU w10)),(997,.vals [] us)],[]⟩
def UF(us:List Value)(s11:List Int)(s12:Int)(s44:List Int)(s45:Int)(w4:AD)(o:(List Int×MP Int Int×MP Int Int)):Ex×St:=(.exit 2,⟨sp 84 0 [(3,.clo (.func 40) [] []),bx 4,rx 8,rx 9,rx 10,sD 11 (D.l dU) s11,sI 12 s12],[cL 4 AD.D w4,rW 8 32 1 dW o.1,(9,.map o.2.1.clk (MP.dl dW dW o.2.1)),(10,.map o.2.2.clk (MP.dl dW dU o.2.2)),(997,.vals [] us)],[]⟩)
theorem aDr(rd:Option Nat)(us:List Value)(h:aLa cK cG cT cH cV cI dF dG dH=some dJ):Lq 39 rd 113958 (UE us cK cG cT cH cV cI dF dG dH) ((UF us cK cG cT cH cV) dJ):=
 lL (fun s:Int×List Int×MP Int Int×MP Int Int=>UE us cK cG cT cH cV s.1 s.2.1 s.2.2.1 s.2.2.2) (UF us cK cG cT cH cV) (cI,dF,dG,dH) (fun⟨cI,dF,dG,dH⟩ o h=>by
 unfold IG at h
 refine iB 47 h (fun h=> ?_) fun h=> ?_
 obtain⟨o9,h20,h⟩:=bS h
 refine gl (aDn rd us h20) ?_
 exact lb h
 exact lb h) h
def UC(us:List Value)(s11:List Int)(w4:AD)(s12:Int)(w8:List Int)(w9 w10:MP Int Int):St:=⟨sp 84 0 [(3,.clo (.func 40) [] []),bx 4,rx 8,rx 9,rx 10,sD 11 (D.l dU) s11,sI 12 s12],[cL 4 AD.D w4,rW 8 32 1 dW w8,(9,.map w9.clk (MP.dl dW dW w9)),(10,.map w10.clk (MP.dl dW dU w10)),(997,.vals [] us)],[]⟩
def UD(us:List Value)(s11:List Int)(w4:AD)(o:(List Int×MP Int Int×MP Int Int)):Ex×St:=(.exit 0,⟨sp 84 0 [rx 8,rx 9,rx 10],[rW 8 32 1 dW o.1,(9,.map o.2.1.clk (MP.dl dW dW o.2.1)),(10,.map o.2.2.clk (MP.dl dW dU o.2.2)),(997,.vals [] us)],[]⟩)
theorem aDq(rd:Option Nat)(us:List Value)(h:aK9 cK cV cG cT dG dH=some dJ):Lq 39 rd 890 (UC us cK cV cG cT dG dH) ((UD us cK cV) dJ):=
 lL (fun s:Int×List Int×MP Int Int×MP Int Int=>UC us cK cV s.1 s.2.1 s.2.2.1 s.2.2.2) (UD us cK cV) (cG,cT,dG,dH) (fun⟨cG,cT,dG,dH⟩ o h=>by
 unfold IF at h
 refine gN 30 dW cT ?_
 refine iB 31 h (fun h=> ?_) fun h=> ?_
 obtain⟨h3,h⟩:=cS h
 refine gQ h3.1<|gQ (AF dW h3.2) ?_
 obtain⟨x2,h4,h⟩:=xS h
 refine gG 38 (.el (dW x2)) (AG dW h4) ?_
 obtain⟨r3,h5,h⟩:=bS h
 refine gQ (aR8 h5) ?_
 cases r3
 replace h:=CF h
 refine gN 45 dU cK<|gW 39 (.ret (.d (D.b false))) ?_
 obtain⟨o10,h21,h⟩:=bS h
 refine gl (aDr rd us h21) ?_
 exact lb h
 replace h:=CG h
 refine gW 39 (.ret (.d (D.b true)))<|gW 43 (.sl ((cT.take ((AA .add .i64 cG 1)).toNat).map dW)) ?_
 obtain⟨h7,h⟩:=cS h
 refine gQ h7.1<|gQ (aQc dW h7.2)<|gQ (aJg dW cT (AA .add .i64 cG 1)) ?_
 exact lB h [.live [8,9,10],.keep [9,10,43,997],.ren 43 8,.sort]
 exact lb h) h
theorem aS3(h:Xw cV cU cG=some dK):AL Tryz.prog 39 [.d (AD.D cV),.d ((D.l X2.D) cU),.d (dW cG),.clo (.func 40) [] []] [] (.tup [.row 0,.row 1,.row 2]) [rW 0 32 1 dW dK.1,(1,.map dK.2.1.clk (MP.dl dW dW dK.2.1)),(2,.map dK.2.2.clk (MP.dl dW dU dK.2.2))]:=by unfold Xw at h;refine XG.call (ks:=[]) mixed fun us=> ?_;apply g0 (o:=dK);refine gW 22 .frz<|gW 10023 (.mp (C8 (EN:MP Int Int) cG cG).clk (MP.dl dW dW (C8 (EN:MP Int Int) cG cG))) ?_;obtain⟨r1,h1,h⟩:=bS h;refine gC 20 (aOx h1)<|gQ (An dW [cG])<|gQ (LD (PG Tryz.underlying32) dW (EN:MP Int Int) cG cG) ?_;obtain⟨o11,h22,h⟩:=bS h;refine gL [.live [3,4,8,9,10,11,12],.keep [4,22,23,27,997],.ren 22 8,.ren 23 9,.ren 27 10,.sort] (aDq none us h22) ?_;exact lX h [.live [8,9,10],.keep [8,9,10,997],.ren 8 0,.ren 9 1,.ren 10 2,.sort]
theorem ED(h:Q5 cG=some d5):AL Tryz.prog 139 [.d (dW cG)] [] (.d (D.b d5)) []:=by unfold Q5 at h;apply g0 (o:=d5);exact lf h
theorem AT(h:Y7 cG cH=some d5):AL Tryz.prog 103 [.d (dW cG),.d (dW cH)] [] (.d (D.b d5)) []:=by unfold Y7 at h;apply g0 (o:=d5);obtain⟨r1,h1,h⟩:=bS h;refine gQ (ED h1) ?_;cases r1;replace h:=CF h;refine gW 6 (.ret (.d (D.b false))) ?_;exact lf h;replace h:=CG h;refine gW 6 (.ret (.d (D.b true))) ?_;obtain⟨r2,h3,h⟩:=bS h;refine gC 9 (ED h3) ?_;refine iB 12 h (fun h=> ?_) fun h=> ?_;exact lf h;exact lf h
def Be(us:List Value)(s1 s2:Int)(s6 s7:Int)(w0:List Int):St:=⟨sp 49 0 [rx 0,sI 1 s1,sI 2 s2,sI 6 s6,sI 7 s7],[rW 0 32 1 dW w0,(997,.vals [.row 0] us)],[]⟩
def Bf(us:List Value)(s1 s2 s6:Int)(o:(List Int)):Ex×St:=(.exit 2,⟨sp 49 0 [rx 0,sI 1 s1,sI 2 s2,sI 6 s6],[rW 0 32 1 dW o,(997,.vals [.row 0] us)],[]⟩)
theorem Cs(rd:Option Nat)(us:List Value)(h:P3 cG cH cI cJ cK=some d4):Lq 97 rd 402 (Be us cG cH cI cJ cK) ((Bf us cG cH cI) d4):=
 lL (fun s:Int×List Int=>Be us cG cH cI s.1 s.2) (Bf us cG cH cI) (cJ,cK) (fun⟨cJ,cK⟩ o h=>by
 unfold Eu at h
 refine iB 19 h (fun h=> ?_) fun h=> ?_
 obtain⟨h3,h⟩:=cS h
 refine gQ h3.1<|gQ (AF dW h3.2) ?_
 obtain⟨x1,h4,h⟩:=xS h
 refine gG 23 (.el (dW x1)) (AG dW h4) ?_
 obtain⟨h5,h⟩:=cS h
 refine gQ h5.1<|gQ (AF dW h5.2) ?_
 obtain⟨x2,h6,h⟩:=xS h
 refine gG 28 (.el (dW x2)) (AG dW h6) ?_
 obtain⟨r3,h7,h⟩:=bS h
 refine gQ (AT h7) ?_
 cases r3
 replace h:=CF h
 refine gW 29 (.ret (.d (D.b false))) ?_
 exact lb h
 replace h:=CG h
 refine gW 29 (.ret (.d (D.b true))) ?_
 obtain⟨h9,h⟩:=cS h
 refine gQ h9.1<|gQ (AF dW h9.2) ?_
 obtain⟨x4,h10,h⟩:=xS h
 refine gG 42 (.el (dW x4)) (AG dW h10)<|gW 10047 (.sl ((cK.set cJ.toNat x4).map dW)) ?_
 obtain⟨h11,h⟩:=cS h
 refine gQ h11.1<|gQ (AF dW h11.2) ?_
 obtain⟨x5,h12,h⟩:=xS h
 refine gG 46 (.el (dW x5)) (AG dW h12)<|gW 10048 (.sl (((cK.set cJ.toNat x4).set (AA .sub .i64 cJ 1).toNat x5).map dW)) ?_
 obtain⟨h13,h⟩:=cS h
 refine gQ h13.1<|gQ (AF dW h13.2) ?_
 obtain⟨h14,h⟩:=cS h
 refine gQ (A8 dW h14)<|gQ (AS dW cK cJ x4) ?_
 obtain⟨h15,h⟩:=cS h
 refine gQ h15.1<|gQ (AF dW h15.2) ?_
 obtain⟨h16,h⟩:=cS h
 refine gQ (A8 dW h16)<|gQ (AS dW (cK.set cJ.toNat x4) (AA .sub .i64 cJ 1) x5) ?_
 exact lb h
 exact lb h) h
def Bb(us:List Value)(s1 s2 s6:Int)(w0:List Int):St:=⟨sp 49 0 [rx 0,sI 1 s1,sI 2 s2,sI 6 s6],[rW 0 32 1 dW w0,(997,.vals [.row 0] us)],[]⟩
def Bc(us:List Value)(s1 s2:Int)(o:(List Int)):Ex×St:=(.exit 0,⟨sp 49 0 [],[rW 0 32 1 dW o,(997,.vals [.row 0] us)],[]⟩)
theorem Cr(rd:Option Nat)(us:List Value)(h:P2 cG cH cI cK=some d4):Lq 97 rd 6 (Bb us cG cH cI cK) ((Bc us cG cH) d4):=
 lL (fun s:Int×List Int=>Bb us cG cH s.1 s.2) (Bc us cG cH) (cI,cK) (fun⟨cI,cK⟩ o h=>by
 unfold Gm at h
 refine iB 12 h (fun h=> ?_) fun h=> ?_
 obtain⟨o6,h17,h⟩:=bS h
 refine gl (Cs rd us h17) ?_
 exact lb h
 exact lb h) h
theorem DA(h:Xt cG cH cK=some cT):AL Tryz.prog 97 [.row 0,dI cG,dI cH] [rW 0 32 1 dW cK] (.tup []) [rW 0 32 1 dW cT]:=by unfold Xt at h;refine XG.call (ks:=[0]) mixed fun us=> ?_;apply g0 (o:=cT);obtain⟨o7,h18,h⟩:=bS h;refine gl (Cr none us h18) ?_;exact lX h (lv [] [0,997])
theorem B0(rd:Option Nat)(us:List Value)(h:Kd cG cH cI cJ d5 cK=some cX):Lq 134 rd 397 ⟨sp 76 0 [rx 0,sI 2 cG,sI 3 cH,sI 8 cI,sI 9 cJ,sD 36 D.b d5],[rW 0 32 1 dW cK,(997,.vals [.row 0] us)],[]⟩ (.normal,⟨sp 76 0 [rx 0,sI 2 cG,sI 3 cH,sI 8 cI,sI 9 cX],[rW 0 32 1 dW cK,(997,.vals [.row 0] us)],[]⟩):=by unfold Kd at h;apply g0 (o:=cX);cases d5;replace h:=CF h;exact lp h;replace h:=CG h;exact lp h
theorem DJ(rd:Option Nat)(us:List Value)(h:Jh cG cH cI cK=some dL):Lq 134 rd 12 ⟨sp 76 0 [rx 0,sI 2 cG,sI 3 cH,sI 8 cI],[rW 0 32 1 dW cK,(997,.vals [.row 0] us)],[]⟩ (match (generalizing:=false) dL with
 | .inl dL=>(.normal,⟨sp 76 0 [rx 0,sI 2 cG,sI 3 cH,sI 8 dL.1],[rW 0 32 1 dW dL.2,(997,.vals [.row 0] us)],[]⟩)
 | .inr dL=>match (generalizing:=false) dL with
 | .inl dL=>(.exit 0,⟨sp 76 0 [],[rW 0 32 1 dW cK,(997,.vals [.row 0] us)],[]⟩)
 | .inr dL=>(.ret,⟨sp 76 0 [],[rW 0 32 1 dW cK,(997,.vals [.row 0] us)],[]⟩)):=by
 unfold Jh at h
 apply g0 (o:=dL)
 refine iB 16 h (fun h=> ?_) fun h=> ?_
 exact lp h
 refine iB 21 h (fun h=> ?_) fun h=> ?_
 obtain⟨h3,h⟩:=cS h
 refine gQ h3.1<|gQ (AF dW h3.2) ?_
 obtain⟨x1,h4,h⟩:=xS h
 refine gG 27 (.el (dW x1)) (AG dW h4) ?_
 obtain⟨h5,h⟩:=cS h
 refine gQ h5.1<|gQ (AF dW h5.2) ?_
 obtain⟨x2,h6,h⟩:=xS h
 refine gG 34 (.el (dW x2)) (AG dW h6) ?_
 obtain⟨r3,h7,h⟩:=bS h
 refine gC 35 (AT h7) ?_
 obtain⟨o4,h9,h⟩:=bS h
 refine gl (B0 rd us h9) ?_
 obtain⟨h10,h⟩:=cS h
 refine gQ h10.1<|gQ (AF dW h10.2) ?_
 obtain⟨x5,h11,h⟩:=xS h
 refine gG 44 (.el (dW x5)) (AG dW h11) ?_
 obtain⟨h12,h⟩:=cS h
 refine gQ h12.1<|gQ (AF dW h12.2) ?_
 obtain⟨x6,h13,h⟩:=xS h
 refine gG 50 (.el (dW x6)) (AG dW h13) ?_
 obtain⟨r7,h14,h⟩:=bS h
 refine gC 51 (AT h14) ?_
 refine iB 52 h (fun h=> ?_) fun h=> ?_
 exact lp h
 obtain⟨h16,h⟩:=cS h
 refine gQ h16.1<|gQ (AF dW h16.2) ?_
 obtain⟨x8,h17,h⟩:=xS h
 refine gG 66 (.el (dW x8)) (AG dW h17)<|gW 10073 (.sl ((cK.set (AA .add .i64 cH cI).toNat x8).map dW)) ?_
 obtain⟨h18,h⟩:=cS h
 refine gQ h18.1<|gQ (AF dW h18.2) ?_
 obtain⟨x9,h19,h⟩:=xS h
 refine gG 72 (.el (dW x9)) (AG dW h19)<|gW 10074 (.sl (((cK.set (AA .add .i64 cH cI).toNat x8).set (AA .add .i64 cH o4).toNat x9).map dW)) ?_
 obtain⟨h20,h⟩:=cS h
 refine gQ h20.1<|gQ (AF dW h20.2) ?_
 obtain⟨h21,h⟩:=cS h
 refine gQ (A8 dW h21)<|gQ (AS dW cK (AA .add .i64 cH cI) x8) ?_
 obtain⟨h22,h⟩:=cS h
 refine gQ h22.1<|gQ (AF dW h22.2) ?_
 obtain⟨h23,h⟩:=cS h
 refine gQ (A8 dW h23)<|gQ (AS dW (cK.set (AA .add .i64 cH cI).toNat x8) (AA .add .i64 cH o4) x9) ?_
 exact lp h
 obtain⟨o10,h24,h⟩:=bS h
 refine gl (B0 rd us h24) ?_
 obtain⟨h25,h⟩:=cS h
 refine gQ h25.1<|gQ (AF dW h25.2) ?_
 obtain⟨x11,h26,h⟩:=xS h
 refine gG 44 (.el (dW x11)) (AG dW h26) ?_
 obtain⟨h27,h⟩:=cS h
 refine gQ h27.1<|gQ (AF dW h27.2) ?_
 obtain⟨x12,h28,h⟩:=xS h
 refine gG 50 (.el (dW x12)) (AG dW h28) ?_
 obtain⟨r13,h29,h⟩:=bS h
 refine gC 51 (AT h29) ?_
 refine iB 52 h (fun h=> ?_) fun h=> ?_
 exact lp h
 obtain⟨h31,h⟩:=cS h
 refine gQ h31.1<|gQ (AF dW h31.2) ?_
 obtain⟨x14,h32,h⟩:=xS h
 refine gG 66 (.el (dW x14)) (AG dW h32)<|gW 10073 (.sl ((cK.set (AA .add .i64 cH cI).toNat x14).map dW)) ?_
 obtain⟨h33,h⟩:=cS h
 refine gQ h33.1<|gQ (AF dW h33.2) ?_
 obtain⟨x15,h34,h⟩:=xS h
 refine gG 72 (.el (dW x15)) (AG dW h34)<|gW 10074 (.sl (((cK.set (AA .add .i64 cH cI).toNat x14).set (AA .add .i64 cH o10).toNat x15).map dW)) ?_
 obtain⟨h35,h⟩:=cS h
 refine gQ h35.1<|gQ (AF dW h35.2) ?_
 obtain⟨h36,h⟩:=cS h
 refine gQ (A8 dW h36)<|gQ (AS dW cK (AA .add .i64 cH cI) x14) ?_
 obtain⟨h37,h⟩:=cS h
 refine gQ h37.1<|gQ (AF dW h37.2) ?_
 obtain⟨h38,h⟩:=cS h
 refine gQ (A8 dW h38)<|gQ (AS dW (cK.set (AA .add .i64 cH cI).toNat x14) (AA .add .i64 cH o10) x15) ?_
 exact lp h
def CD(us:List Value)(s2 s3 s8:Int)(w0:List Int):St:=⟨sp 76 0 [rx 0,sI 2 s2,sI 3 s3,sI 8 s8],[rW 0 32 1 dW w0,(997,.vals [.row 0] us)],[]⟩
def CE(us:List Value)(s2 s3:Int)(o:(List Int)⊕(List Int)):Ex×St:=match o with
 | .inl o=>(.exit 0,⟨sp 76 0 [],[rW 0 32 1 dW o,(997,.vals [.row 0] us)],[]⟩)
 | .inr o=>(.ret,⟨sp 76 0 [],[rW 0 32 1 dW o,(997,.vals [.row 0] us)],[]⟩)
theorem DK(rd:Option Nat)(us:List Value)(h:Px cG cH cI cK=some dM):Lq 134 rd 6 (CD us cG cH cI cK) ((CE us cG cH) dM):=
 lL (fun s:Int×List Int=>CD us cG cH s.1 s.2) (CE us cG cH) (cI,cK) (fun⟨cI,cK⟩ o h=>by
 unfold EW at h
 obtain⟨o16,h39,h⟩:=bS h
 refine gl (DJ rd us h39) ?_
 replace h:=AK h
 rcases h with⟨o17,rfl,h⟩|⟨o18,rfl,h⟩
 exact lb h
 replace h:=AK h
 rcases h with⟨o19,rfl,h⟩|⟨o20,rfl,h⟩
 exact lb h
 exact lb h) h
theorem CP(h:Xn cG cH cI cK=some cT):AL Tryz.prog 134 [.row 0,dI cG,dI cH,dI cI] [rW 0 32 1 dW cK] (.tup []) [rW 0 32 1 dW cT]:=by
 unfold Xn at h;refine XG.call (ks:=[0]) mixed fun us=> ?_;apply g0 (o:=cT);obtain⟨o21,h40,h⟩:=bS h;refine gl (DK none us h40) ?_;replace h:=AK h;rcases h with⟨o22,rfl,h⟩|⟨o23,rfl,h⟩
 exact lX h (lv [] [0,997]);exact lX h (lv [] [0,997])
def B9(us:List Value)(s6 s7:Int)(s8 s9:Int)(w0:List Int):St:=⟨sp 56 0 [rx 0,sI 6 s6,sI 7 s7,sI 8 s8,sI 9 s9],[rW 0 32 1 dW w0,(997,.vals [.row 0] us)],[]⟩
def CA(us:List Value)(s6 s7 s8:Int)(o:(List Int)):Ex×St:=(.exit 0,⟨sp 56 0 [rx 0,sI 6 s6,sI 7 s7,sI 8 s8],[rW 0 32 1 dW o,(997,.vals [.row 0] us)],[]⟩)
theorem DH(rd:Option Nat)(us:List Value)(h:P4 cG cH cI cJ cK=some d4):Lq 98 rd 122 (B9 us cG cH cI cJ cK) ((CA us cG cH cI) d4):=
 lL (fun s:Int×List Int=>B9 us cG cH cI s.1 s.2) (CA us cG cH cI) (cJ,cK) (fun⟨cJ,cK⟩ o h=>by
 unfold Gp at h
 refine iB 19 h (fun h=> ?_) fun h=> ?_
 obtain⟨r1,h2,h⟩:=bS h
 refine gG 26 (.cx false [(0,0)] [] (.tup []) [rW 0 32 1 dW r1]) (CP h2) ?_
 exact lb h
 exact lb h) h
def CB(us:List Value)(s6 s7 s10:Int)(w0:List Int):St:=⟨sp 56 0 [rx 0,sI 6 s6,sI 7 s7,sI 10 s10],[rW 0 32 1 dW w0,(997,.vals [.row 0] us)],[]⟩
def CC(us:List Value)(s6 s7:Int)(o:(List Int)):Ex×St:=(.exit 2,⟨sp 56 0 [],[rW 0 32 1 dW o,(997,.vals [.row 0] us)],[]⟩)
theorem DI(rd:Option Nat)(us:List Value)(h:P5 cG cH cI cK=some d4):Lq 98 rd 126 (CB us cG cH cI cK) ((CC us cG cH) d4):=
 lL (fun s:Int×List Int=>CB us cG cH s.1 s.2) (CC us cG cH) (cI,cK) (fun⟨cI,cK⟩ o h=>by
 unfold Gq at h
 refine iB 30 h (fun h=> ?_) fun h=> ?_
 obtain⟨h5,h⟩:=cS h
 refine gQ h5.1<|gQ (AF dW h5.2) ?_
 obtain⟨x3,h6,h⟩:=xS h
 refine gG 44 (.el (dW x3)) (AG dW h6)<|gW 10049 (.sl ((cK.set cG.toNat x3).map dW)) ?_
 obtain⟨h7,h⟩:=cS h
 refine gQ h7.1<|gQ (AF dW h7.2) ?_
 obtain⟨x4,h8,h⟩:=xS h
 refine gG 48 (.el (dW x4)) (AG dW h8)<|gW 10050 (.sl (((cK.set cG.toNat x3).set (AA .add .i64 cG cI).toNat x4).map dW)) ?_
 obtain⟨h9,h⟩:=cS h
 refine gQ h9.1<|gQ (AF dW h9.2) ?_
 obtain⟨h10,h⟩:=cS h
 refine gQ (A8 dW h10)<|gQ (AS dW cK cG x3) ?_
 obtain⟨h11,h⟩:=cS h
 refine gQ h11.1<|gQ (AF dW h11.2) ?_
 obtain⟨h12,h⟩:=cS h
 refine gQ (A8 dW h12)<|gQ (AS dW (cK.set cG.toNat x3) (AA .add .i64 cG cI) x4) ?_
 obtain⟨r5,h13,h⟩:=bS h
 refine gG 55 (.cx false [(0,0)] [] (.tup []) [rW 0 32 1 dW r5]) (CP h13) ?_
 exact lb h
 exact lb h) h
theorem Dg(h:Xv cG cH cK=some cT):AL Tryz.prog 98 [.row 0,dI cG,dI cH] [rW 0 32 1 dW cK] (.tup []) [rW 0 32 1 dW cT]:=by unfold Xv at h;refine XG.call (ks:=[0]) mixed fun us=> ?_;apply g0 (o:=cT);refine gQ (of_decide_eq_true rfl:(2:Int)≠0) ?_;obtain⟨o2,h3,h⟩:=bS h;refine gl (DH none us h3) ?_;obtain⟨o6,h14,h⟩:=bS h;refine gl (DI none us h14) ?_;exact lX h (lv [] [0,997])
theorem Cp(rd:Option Nat)(us:List Value)(h:NF cG cH cI cJ cX d5 cK d7=some d8):Lq 99 rd 30501 ⟨sp 65 0 [rx 0,sI 1 cG,sI 6 cH,bx 7,sD 8 dU cI,sI 9 cJ,sI 10 cX,sD 43 D.b d5],[rW 0 32 1 dW cK,(7,.cells ([.d (dU d7)])),(997,.vals [.row 0] us)],[]⟩ (.normal,⟨sp 65 0 [rx 0,sI 1 cG,sI 6 cH,bx 7,sD 8 dU cI,sI 9 cJ,sI 10 d8],[rW 0 32 1 dW cK,(7,.cells ([.d (dU d7)])),(997,.vals [.row 0] us)],[]⟩):=by unfold NF at h;apply g0 (o:=d8);cases d5;replace h:=CF h;exact lp h;replace h:=CG h;exact lp h
theorem Co(rd:Option Nat)(us:List Value)(h:P0 cG cH cI cJ cK cX=some dN):Lq 99 rd 1906 ⟨sp 65 0 [rx 0,sI 1 cG,sI 6 cH,bx 7,sD 8 dU cI,sI 9 cJ],[rW 0 32 1 dW cK,(7,.cells ([.d (dU cX)])),(997,.vals [.row 0] us)],[]⟩ (.normal,⟨sp 65 0 [rx 0,sI 1 cG,sI 6 cH,bx 7,sD 8 dU cI,sI 9 cJ],[rW 0 32 1 dW dN.1,(7,.cells ([.d (dU dN.2)])),(997,.vals [.row 0] us)],[]⟩):=by unfold P0 at h;apply g0 (o:=dN);obtain⟨r2,h4,h⟩:=bS h;refine gG 36 (.cx false [(0,7)] [] (.d (dU r2.1)) [(0,.cells ([.d (dU r2.2)]))]) (aOv h4) ?_;obtain⟨o3,h6,h⟩:=bS h;refine gl (Cp rd us h6) ?_;obtain⟨h7,h⟩:=cS h;refine gQ h7.1<|gQ (AF dW h7.2) ?_;obtain⟨x4,h8,h⟩:=xS h;refine gG 58 (.el (dW x4)) (AG dW h8)<|gW 10063 (.sl ((cK.set cJ.toNat x4).map dW)) ?_;obtain⟨h9,h⟩:=cS h;refine gQ h9.1<|gQ (AF dW h9.2) ?_;obtain⟨x5,h10,h⟩:=xS h;refine gG 62 (.el (dW x5)) (AG dW h10)<|gW 10064 (.sl (((cK.set cJ.toNat x4).set (AA .add .i64 cG o3).toNat x5).map dW)) ?_;obtain⟨h11,h⟩:=cS h;refine gQ h11.1<|gQ (AF dW h11.2) ?_;obtain⟨h12,h⟩:=cS h;refine gQ (A8 dW h12)<|gQ (AS dW cK cJ x4) ?_;obtain⟨h13,h⟩:=cS h;refine gQ h13.1<|gQ (AF dW h13.2) ?_;obtain⟨h14,h⟩:=cS h;refine gQ (A8 dW h14)<|gQ (AS dW (cK.set cJ.toNat x4) (AA .add .i64 cG o3) x5) ?_;exact lp h
def BZ(us:List Value)(s1 s6:Int)(s8 s9:Int)(w0:List Int)(w7:Int):St:=⟨sp 65 0 [rx 0,sI 1 s1,sI 6 s6,bx 7,sD 8 dU s8,sI 9 s9],[rW 0 32 1 dW w0,(7,.cells ([.d (dU w7)])),(997,.vals [.row 0] us)],[]⟩
def Ba(us:List Value)(s1 s6 s8:Int)(o:(List Int)):Ex×St:=(.exit 0,⟨sp 65 0 [],[rW 0 32 1 dW o,(997,.vals [.row 0] us)],[]⟩)
theorem Cq(rd:Option Nat)(us:List Value)(h:P1 cG cH cI cJ cK cX=some d4):Lq 99 rd 238 (BZ us cG cH cI cJ cK cX) ((Ba us cG cH cI) d4):=
 lL (fun s:Int×List Int×Int=>BZ us cG cH cI s.1 s.2.1 s.2.2) (Ba us cG cH cI) (cJ,cK,cX) (fun⟨cJ,cK,cX⟩ o h=>by
 unfold Gj at h
 refine gQ (of_decide_eq_true rfl:(4:Int)≠0) ?_
 refine iB 33 h (fun h=> ?_) fun h=> ?_
 obtain⟨o6,h15,h⟩:=bS h
 refine gl (Co rd us h15) ?_
 exact lb h
 exact lb h) h
theorem Cm(rd:Option Nat)(us:List Value)(h:Pz cG cH d5 cK=some d4):Lq 99 rd 7 ⟨sp 65 0 [rx 0,sI 1 cG,sI 6 cH,sD 15 D.b d5],[rW 0 32 1 dW cK,(997,.vals [.row 0] us)],[]⟩ (.normal,⟨sp 65 0 [],[rW 0 32 1 dW d4,(997,.vals [.row 0] us)],[]⟩):=by unfold Pz at h;apply g0 (o:=d4);cases d5;replace h:=CF h;exact lp h;replace h:=CG h;obtain⟨r1,h2,h⟩:=bS h;refine gC 19 (aOu h2)<|gQ (of_decide_eq_true rfl:(4:Int)≠0) ?_;obtain⟨o7,h16,h⟩:=bS h;refine gl (Cq rd us h16) ?_;exact lp h
theorem C9(h:Xq cG cH cK=some cT):AL Tryz.prog 99 [.row 0,dI cG,dI cH] [rW 0 32 1 dW cK] (.tup []) [rW 0 32 1 dW cT]:=by unfold Xq at h;refine XG.call (ks:=[0]) mixed fun us=> ?_;apply g0 (o:=cT);obtain⟨o8,h17,h⟩:=bS h;refine gl (Cm none us h17) ?_;exact lX h (lv [] [0,997])
theorem BJ(h:Zs cK cG cH cI=some dO):AL Tryz.prog 164 [.d ((D.l dW) cK),dI cG,dI cH,.box 0 0] [(0,.cells ([dI cI]))] (.tup [dI dO.1,dI dO.2.1]) [(0,.cells ([dI dO.2.2]))]:=by unfold Zs at h;refine XG.call (ks:=[3]) mixed fun us=> ?_;apply g0 (o:=dO);refine xX 12 dW h fun x1 h=> ?_;refine xX 16 dW h fun x2 h=> ?_;obtain⟨r3,h3,h⟩:=bS h;refine gQ (AT h3) ?_;cases r3;replace h:=CF h;refine gW 18 (.ret (.d (D.b false))) ?_;exact lX h (lv [8,9] [0,997]);replace h:=CG h;refine gW 18 (.ret (.d (D.b true))) ?_;exact lX h (lv [8,9] [0,997])
theorem CI(h:Zx cK cG cH cI cJ=some dP):AL Tryz.prog 138 [.d ((D.l dW) cK),dI cG,dI cH,dI cI,.box 0 0] [(0,.cells ([dI cJ]))] (dI dP.1) [(0,.cells ([dI dP.2]))]:=by unfold Zx at h;refine XG.call (ks:=[4]) mixed fun us=> ?_;apply g0 (o:=dP);obtain⟨r1,h1,h⟩:=bS h;refine gG 16 (.cx false [(0,0)] [] (.tup [dI r1.1,dI r1.2.1]) [(0,.cells ([dI r1.2.2]))]) (BJ h1) ?_;obtain⟨r2,h2,h⟩:=bS h;refine gG 24 (.cx false [(0,0)] [] (.tup [dI r2.1,dI r2.2.1]) [(0,.cells ([dI r2.2.2]))]) (BJ h2) ?_;obtain⟨r3,h3,h⟩:=bS h;refine gG 32 (.cx false [(0,0)] [] (.tup [dI r3.1,dI r3.2.1]) [(0,.cells ([dI r3.2.2]))]) (BJ h3) ?_;exact lX h (lv [10] [0,997])
theorem Ar(h:Zt cK cG cH=some dP):AL Tryz.prog 137 [.d ((D.l dW) cK),dI cG,.box 0 0] [(0,.cells ([dI cH]))] (dI dP.1) [(0,.cells ([dI dP.2]))]:=by unfold Zt at h;refine XG.call (ks:=[2]) mixed fun us=> ?_;apply g0 (o:=dP);obtain⟨r1,h1,h⟩:=bS h;refine gG 14 (.cx false [(0,0)] [] (dI r1.1) [(0,.cells ([dI r1.2]))]) (CI h1) ?_;exact lX h (lv [6] [0,997])
theorem C7(rd:Option Nat)(h:NH cK cG cH cI d5 cJ=some dQ):Lq 100 rd 4073 ⟨sp 57 0 [sD 0 (D.l dW) cK,bx 9,sI 10 cG,sI 11 cH,sI 12 cI,sD 34 D.b d5],[(9,.cells ([dI cJ]))],[]⟩ (.normal,⟨sp 57 0 [sD 0 (D.l dW) cK,bx 9,sI 10 dQ.1,sI 11 dQ.2.1,sI 12 dQ.2.2.1],[(9,.cells ([dI dQ.2.2.2]))],[]⟩):=by unfold NH at h;apply g0 (o:=dQ);cases d5;replace h:=CF h;exact lp h;replace h:=CG h;obtain⟨r1,h3,h⟩:=bS h;refine gG 37 (.cx false [(0,9)] [] (dI r1.1) [(0,.cells ([dI r1.2]))]) (Ar h3) ?_;obtain⟨r2,h4,h⟩:=bS h;refine gG 40 (.cx false [(0,9)] [] (dI r2.1) [(0,.cells ([dI r2.2]))]) (Ar h4) ?_;obtain⟨r3,h5,h⟩:=bS h;refine gG 43 (.cx false [(0,9)] [] (dI r3.1) [(0,.cells ([dI r3.2]))]) (Ar h5) ?_;exact lp h
theorem C6(rd:Option Nat)(h:QA cK cG cH cI cJ d5 cX=some dR):Lq 100 rd 509 ⟨sp 57 0 [sD 0 (D.l dW) cK,sI 8 cG,bx 9,sI 10 cH,sI 11 cI,sI 12 cJ,sD 32 D.b d5],[(9,.cells ([dI cX]))],[]⟩ (.normal,⟨sp 57 0 [bx 9,sI 11 dR.1],[(9,.cells ([dI dR.2]))],[]⟩):=by unfold QA at h;apply g0 (o:=dR);cases d5;replace h:=CF h;exact lp h;replace h:=CG h;obtain⟨o4,h6,h⟩:=bS h;refine gl (C7 rd h6) ?_;obtain⟨r5,h7,h⟩:=bS h;refine gG 48 (.cx false [(0,9)] [] (dI r5.1) [(0,.cells ([dI r5.2]))]) (CI h7) ?_;exact lp h
theorem DG(h:Yt cK cG cH=some dP):AL Tryz.prog 100 [.d ((D.l dW) cK),dI cG,dI cH] [] (.tup [dI dP.1,dI dP.2]) []:=by unfold Yt at h;apply g0 (o:=dP);refine gQ (of_decide_eq_true rfl:(4:Int)≠0)<|gQ (of_decide_eq_true rfl:(4:Int)≠0)<|gQ (of_decide_eq_true rfl:(4:Int)≠0) ?_;obtain⟨o6,h8,h⟩:=bS h;refine gl (C6 none h8) ?_;refine iB 51 h (fun h=> ?_) fun h=> ?_;exact lf h;refine iB 54 h (fun h=> ?_) fun h=> ?_;exact lf h;exact lf h
def Br(us:List Value)(s6 s7:Int)(w0:List Int):St:=⟨sp 32 0 [rx 0,sI 6 s6,sI 7 s7],[rW 0 32 1 dW w0,(997,.vals [.row 0] us)],[]⟩
def Bs(us:List Value)(o:(List Int)):Ex×St:=(.exit 0,⟨sp 32 0 [],[rW 0 32 1 dW o,(997,.vals [.row 0] us)],[]⟩)
theorem C1(rd:Option Nat)(us:List Value)(h:P9 cG cH cK=some d4):Lq 101 rd 14 (Br us cG cH cK) ((Bs us) d4):=
 lL (fun s:Int×Int×List Int=>Br us s.1 s.2.1 s.2.2) (Bs us) (cG,cH,cK) (fun⟨cG,cH,cK⟩ o h=>by
 unfold IX at h
 refine iB 13 h (fun h=> ?_) fun h=> ?_
 obtain⟨h2,h⟩:=cS h
 refine gQ h2.1<|gQ (AF dW h2.2) ?_
 obtain⟨x1,h3,h⟩:=xS h
 refine gG 21 (.el (dW x1)) (AG dW h3)<|gW 10026 (.sl ((cK.set cG.toNat x1).map dW)) ?_
 obtain⟨h4,h⟩:=cS h
 refine gQ h4.1<|gQ (AF dW h4.2) ?_
 obtain⟨x2,h5,h⟩:=xS h
 refine gG 25 (.el (dW x2)) (AG dW h5)<|gW 10027 (.sl (((cK.set cG.toNat x1).set cH.toNat x2).map dW)) ?_
 obtain⟨h6,h⟩:=cS h
 refine gQ h6.1<|gQ (AF dW h6.2) ?_
 obtain⟨h7,h⟩:=cS h
 refine gQ (A8 dW h7)<|gQ (AS dW cK cG x1) ?_
 obtain⟨h8,h⟩:=cS h
 refine gQ h8.1<|gQ (AF dW h8.2) ?_
 obtain⟨h9,h⟩:=cS h
 refine gQ (A8 dW h9)<|gQ (AS dW (cK.set cG.toNat x1) cH x2) ?_
 exact lb h
 exact lb h) h
theorem DD(h:Ym cG cH cK=some cT):AL Tryz.prog 101 [.row 0,dI cG,dI cH] [rW 0 32 1 dW cK] (.tup []) [rW 0 32 1 dW cT]:=by unfold Ym at h;refine XG.call (ks:=[0]) mixed fun us=> ?_;apply g0 (o:=cT);obtain⟨o3,h10,h⟩:=bS h;refine gl (C1 none us h10) ?_;exact lX h (lv [] [0,997])
def A0(us:List Value)(s1 s2 s8:Int)(w0:List Int)(s7:Int):St:=⟨sp 133 0 [rx 0,sI 1 s1,sI 2 s2,sI 7 s7,sI 8 s8],[rW 0 32 1 dW w0,(997,.vals [.row 0] us)],[]⟩
def A3(us:List Value)(s1 s2 s8:Int)(w0:List Int)(o:Int):Ex×St:=(.exit 2,⟨sp 133 0 [rx 0,sI 1 s1,sI 2 s2,sI 7 o,sI 8 s8],[rW 0 32 1 dW w0,(997,.vals [.row 0] us)],[]⟩)
theorem B5(rd:Option Nat)(us:List Value)(h:Pn cG cH cI cK cJ=some cX):Lq 102 rd 3728 (A0 us cG cH cI cK cJ) ((A3 us cG cH cI cK) cX):=
 lL (fun s:Int=>A0 us cG cH cI cK s) (A3 us cG cH cI cK) cJ (fun cJ o h=>by
 unfold GU at h
 refine iB 20 h (fun h=> ?_) fun h=> ?_
 obtain⟨h3,h⟩:=cS h
 refine gQ h3.1<|gQ (AF dW h3.2) ?_
 obtain⟨x1,h4,h⟩:=xS h
 refine gG 24 (.el (dW x1)) (AG dW h4) ?_
 obtain⟨h5,h⟩:=cS h
 refine gQ h5.1<|gQ (AF dW h5.2) ?_
 obtain⟨x2,h6,h⟩:=xS h
 refine gG 29 (.el (dW x2)) (AG dW h6) ?_
 obtain⟨r3,h7,h⟩:=bS h
 refine gC 30 (AT h7) ?_
 refine iB 32 h (fun h=> ?_) fun h=> ?_
 exact lb h
 exact lb h
 exact lb h) h
def A4(us:List Value)(s1 s2:Int)(s7 s8 s9:Int)(w0:List Int):St:=⟨sp 133 0 [rx 0,sI 1 s1,sI 2 s2,sI 7 s7,sI 8 s8,sI 9 s9],[rW 0 32 1 dW w0,(997,.vals [.row 0] us)],[]⟩
def A5(us:List Value)(s1 s2:Int)(s7 s8:Int)(o:(List Int)):Ex×St:=(.exit 4,⟨sp 133 0 [rx 0,sI 1 s1,sI 2 s2,sI 7 s7,sI 8 s8],[rW 0 32 1 dW o,(997,.vals [.row 0] us)],[]⟩)
theorem B6(rd:Option Nat)(us:List Value)(h:Po cG cH cI cJ cX cK=some d4):Lq 102 rd 477674 (A4 us cG cH cI cJ cX cK) ((A5 us cG cH cI cJ) d4):=
 lL (fun s:Int×List Int=>A4 us cG cH cI cJ s.1 s.2) (A5 us cG cH cI cJ) (cX,cK) (fun⟨cX,cK⟩ o h=>by
 unfold GV at h
 refine iB 65 h (fun h=> ?_) fun h=> ?_
 obtain⟨h22,h⟩:=cS h
 refine gQ h22.1<|gQ (AF dW h22.2) ?_
 obtain⟨x7,h23,h⟩:=xS h
 refine gG 71 (.el (dW x7)) (AG dW h23) ?_
 obtain⟨h24,h⟩:=cS h
 refine gQ h24.1<|gQ (AF dW h24.2) ?_
 obtain⟨x8,h25,h⟩:=xS h
 refine gG 76 (.el (dW x8)) (AG dW h25) ?_
 obtain⟨r9,h26,h⟩:=bS h
 refine gC 77 (AT h26) ?_
 refine iB 78 h (fun h=> ?_) fun h=> ?_
 exact lb h
 obtain⟨h28,h⟩:=cS h
 refine gQ h28.1<|gQ (AF dW h28.2) ?_
 obtain⟨x10,h29,h⟩:=xS h
 refine gG 88 (.el (dW x10)) (AG dW h29)<|gW 10093 (.sl ((cK.set cX.toNat x10).map dW)) ?_
 obtain⟨h30,h⟩:=cS h
 refine gQ h30.1<|gQ (AF dW h30.2) ?_
 obtain⟨x11,h31,h⟩:=xS h
 refine gG 92 (.el (dW x11)) (AG dW h31)<|gW 10094 (.sl (((cK.set cX.toNat x10).set (AA .sub .i64 cX 1).toNat x11).map dW)) ?_
 obtain⟨h32,h⟩:=cS h
 refine gQ h32.1<|gQ (AF dW h32.2) ?_
 obtain⟨h33,h⟩:=cS h
 refine gQ (A8 dW h33)<|gQ (AS dW cK cX x10) ?_
 obtain⟨h34,h⟩:=cS h
 refine gQ h34.1<|gQ (AF dW h34.2) ?_
 obtain⟨h35,h⟩:=cS h
 refine gQ (A8 dW h35)<|gQ (AS dW (cK.set cX.toNat x10) (AA .sub .i64 cX 1) x11) ?_
 exact lb h
 exact lb h) h
theorem B2(rd:Option Nat)(us:List Value)(h:M3 cG cH cI cJ d5 cK=some d4):Lq 102 rd 59709 ⟨sp 133 0 [rx 0,sI 1 cG,sI 2 cH,sI 7 cI,sI 8 cJ,sD 61 D.b d5],[rW 0 32 1 dW cK,(997,.vals [.row 0] us)],[]⟩ (.normal,⟨sp 133 0 [rx 0,sI 1 cG,sI 2 cH,sI 7 cI,sI 8 cJ],[rW 0 32 1 dW d4,(997,.vals [.row 0] us)],[]⟩):=by unfold M3 at h;apply g0 (o:=d4);cases d5;replace h:=CF h;exact lp h;replace h:=CG h;obtain⟨o12,h36,h⟩:=bS h;refine gl (B6 rd us h36) ?_;exact lp h
def A6(us:List Value)(s1 s2:Int)(s7 s8 s10:Int)(w0:List Int):St:=⟨sp 133 0 [rx 0,sI 1 s1,sI 2 s2,sI 7 s7,sI 8 s8,sI 10 s10],[rW 0 32 1 dW w0,(997,.vals [.row 0] us)],[]⟩
def A7(us:List Value)(s1 s2:Int)(s7 s8:Int)(o:(List Int)):Ex×St:=(.exit 6,⟨sp 133 0 [rx 0,sI 1 s1,sI 2 s2,sI 7 s7,sI 8 s8],[rW 0 32 1 dW o,(997,.vals [.row 0] us)],[]⟩)
theorem B8(rd:Option Nat)(us:List Value)(h:Pp cG cH cI cJ cX cK=some d4):Lq 102 rd 477690 (A6 us cG cH cI cJ cX cK) ((A7 us cG cH cI cJ) d4):=
 lL (fun s:Int×List Int=>A6 us cG cH cI cJ s.1 s.2) (A7 us cG cH cI cJ) (cX,cK) (fun⟨cX,cK⟩ o h=>by
 unfold GW at h
 refine iB 103 h (fun h=> ?_) fun h=> ?_
 obtain⟨h40,h⟩:=cS h
 refine gQ h40.1<|gQ (AF dW h40.2) ?_
 obtain⟨x14,h41,h⟩:=xS h
 refine gG 109 (.el (dW x14)) (AG dW h41) ?_
 obtain⟨h42,h⟩:=cS h
 refine gQ h42.1<|gQ (AF dW h42.2) ?_
 obtain⟨x15,h43,h⟩:=xS h
 refine gG 114 (.el (dW x15)) (AG dW h43) ?_
 obtain⟨r16,h44,h⟩:=bS h
 refine gC 115 (AT h44) ?_
 refine iB 116 h (fun h=> ?_) fun h=> ?_
 exact lb h
 obtain⟨h46,h⟩:=cS h
 refine gQ h46.1<|gQ (AF dW h46.2) ?_
 obtain⟨x17,h47,h⟩:=xS h
 refine gG 126 (.el (dW x17)) (AG dW h47)<|gW 10131 (.sl ((cK.set cX.toNat x17).map dW)) ?_
 obtain⟨h48,h⟩:=cS h
 refine gQ h48.1<|gQ (AF dW h48.2) ?_
 obtain⟨x18,h49,h⟩:=xS h
 refine gG 130 (.el (dW x18)) (AG dW h49)<|gW 10132 (.sl (((cK.set cX.toNat x17).set (AA .sub .i64 cX 1).toNat x18).map dW)) ?_
 obtain⟨h50,h⟩:=cS h
 refine gQ h50.1<|gQ (AF dW h50.2) ?_
 obtain⟨h51,h⟩:=cS h
 refine gQ (A8 dW h51)<|gQ (AS dW cK cX x17) ?_
 obtain⟨h52,h⟩:=cS h
 refine gQ h52.1<|gQ (AF dW h52.2) ?_
 obtain⟨h53,h⟩:=cS h
 refine gQ (A8 dW h53)<|gQ (AS dW (cK.set cX.toNat x17) (AA .sub .i64 cX 1) x18) ?_
 exact lb h
 exact lb h) h
theorem B3(rd:Option Nat)(us:List Value)(h:M4 cG cH cI cJ d5 cK=some d4):Lq 102 rd 59711 ⟨sp 133 0 [rx 0,sI 1 cG,sI 2 cH,sI 7 cI,sI 8 cJ,sD 98 D.b d5],[rW 0 32 1 dW cK,(997,.vals [.row 0] us)],[]⟩ (.normal,⟨sp 133 0 [rx 0,sI 1 cG,sI 2 cH,sI 7 cI,sI 8 cJ],[rW 0 32 1 dW d4,(997,.vals [.row 0] us)],[]⟩):=by unfold M4 at h;apply g0 (o:=d4);cases d5;replace h:=CF h;exact lp h;replace h:=CG h;obtain⟨o19,h54,h⟩:=bS h;refine gl (B8 rd us h54) ?_;exact lp h
theorem B1(rd:Option Nat)(us:List Value)(h:Pl cG cH cI cJ cK=some cM):Lq 102 rd 466 ⟨sp 133 0 [rx 0,sI 1 cG,sI 2 cH,sI 7 cI,sI 8 cJ],[rW 0 32 1 dW cK,(997,.vals [.row 0] us)],[]⟩ (match (generalizing:=false) cM with
 | .inl cM=>(.normal,⟨sp 133 0 [rx 0,sI 1 cG,sI 2 cH,sI 7 cM.1,sI 8 cJ],[rW 0 32 1 dW cM.2,(997,.vals [.row 0] us)],[]⟩)
 | .inr cM=>(.ret,⟨sp 133 0 [sD 6 D.b cM],[rW 0 32 1 dW cK,(997,.vals [.row 0] us)],[]⟩)):=by
 unfold Pl at h
 apply g0 (o:=cM)
 obtain⟨o4,h9,h⟩:=bS h
 refine gl (B5 rd us h9) ?_
 refine iB 37 h (fun h=> ?_) fun h=> ?_
 exact lp h
 refine iB 41 h (fun h=> ?_) fun h=> ?_
 exact lp h
 obtain⟨h12,h⟩:=cS h
 refine gQ h12.1<|gQ (AF dW h12.2) ?_
 obtain⟨x5,h13,h⟩:=xS h
 refine gG 51 (.el (dW x5)) (AG dW h13)<|gW 10056 (.sl ((cK.set o4.toNat x5).map dW)) ?_
 obtain⟨h14,h⟩:=cS h
 refine gQ h14.1<|gQ (AF dW h14.2) ?_
 obtain⟨x6,h15,h⟩:=xS h
 refine gG 55 (.el (dW x6)) (AG dW h15)<|gW 10057 (.sl (((cK.set o4.toNat x5).set (AA .sub .i64 o4 1).toNat x6).map dW)) ?_
 obtain⟨h16,h⟩:=cS h
 refine gQ h16.1<|gQ (AF dW h16.2) ?_
 obtain⟨h17,h⟩:=cS h
 refine gQ (A8 dW h17)<|gQ (AS dW cK o4 x5) ?_
 obtain⟨h18,h⟩:=cS h
 refine gQ h18.1<|gQ (AF dW h18.2) ?_
 obtain⟨h19,h⟩:=cS h
 refine gQ (A8 dW h19)<|gQ (AS dW (cK.set o4.toNat x5) (AA .sub .i64 o4 1) x6) ?_
 obtain⟨o13,h37,h⟩:=bS h
 refine gl (B2 rd us h37) ?_
 obtain⟨o20,h55,h⟩:=bS h
 refine gl (B3 rd us h55) ?_
 exact lp h
def Ay(us:List Value)(s1 s2:Int)(s7 s8:Int)(w0:List Int):St:=⟨sp 133 0 [rx 0,sI 1 s1,sI 2 s2,sI 7 s7,sI 8 s8],[rW 0 32 1 dW w0,(997,.vals [.row 0] us)],[]⟩
def Az(us:List Value)(s1 s2:Int)(o:(List Int)⊕(Bool×List Int)):Ex×St:=match o with
 | .inl o=>(.exit 0,⟨sp 133 0 [],[rW 0 32 1 dW o,(997,.vals [.row 0] us)],[]⟩)
 | .inr o=>(.ret,⟨sp 133 0 [sD 6 D.b o.1],[rW 0 32 1 dW o.2,(997,.vals [.row 0] us)],[]⟩)
theorem B4(rd:Option Nat)(us:List Value)(h:M5 cG cH cI cJ cK=some cN):Lq 102 rd 58 (Ay us cG cH cI cJ cK) ((Az us cG cH) cN):=
 lL (fun s:Int×Int×List Int=>Ay us cG cH s.1 s.2.1 s.2.2) (Az us cG cH) (cI,cJ,cK) (fun⟨cI,cJ,cK⟩ o h=>by
 unfold GT at h
 refine iB 14 h (fun h=> ?_) fun h=> ?_
 obtain⟨o21,h56,h⟩:=bS h
 refine gl (B1 rd us h56) ?_
 replace h:=AK h
 rcases h with⟨o22,rfl,h⟩|⟨o23,rfl,h⟩
 exact lb h
 exact lb h
 exact lb h) h
theorem CO(h:X5 cG cH cK=some cO):AL Tryz.prog 102 [.row 0,dI cG,dI cH] [rW 0 32 1 dW cK] (.d (D.b cO.1)) [rW 0 32 1 dW cO.2]:=by
 unfold X5 at h;refine XG.call (ks:=[0]) mixed fun us=> ?_;apply g0 (o:=cO);obtain⟨o24,h57,h⟩:=bS h;refine gl (B4 none us h57) ?_;replace h:=AK h;rcases h with⟨o25,rfl,h⟩|⟨o26,rfl,h⟩
 exact lX h (lv [6] [0,997]);exact lX h (lv [6] [0,997])
def BM(us:List Value)(s1 s10:Int)(w0:List Int)(s9:Int):St:=⟨sp 84 0 [rx 0,sI 1 s1,sI 9 s9,sI 10 s10],[rW 0 32 1 dW w0,(997,.vals [.row 0] us)],[]⟩
def BN(us:List Value)(s1 s10:Int)(w0:List Int)(o:Int):Ex×St:=(.exit 2,⟨sp 84 0 [rx 0,sI 1 s1,sI 9 o,sI 10 s10],[rW 0 32 1 dW w0,(997,.vals [.row 0] us)],[]⟩)
theorem CY(rd:Option Nat)(us:List Value)(h:Pu cG cH cK cI=some cJ):Lq 104 rd 960 (BM us cG cH cK cI) ((BN us cG cH cK) cJ):=
 lL (fun s:Int=>BM us cG cH cK s) (BN us cG cH cK) cI (fun cI o h=>by
 unfold GZ at h
 refine iB 32 h (fun h=> ?_) fun h=> ?_
 obtain⟨h10,h⟩:=cS h
 refine gQ h10.1<|gQ (AF dW h10.2) ?_
 obtain⟨x3,h11,h⟩:=xS h
 refine gG 36 (.el (dW x3)) (AG dW h11) ?_
 obtain⟨h12,h⟩:=cS h
 refine gQ h12.1<|gQ (AF dW h12.2) ?_
 obtain⟨x4,h13,h⟩:=xS h
 refine gG 40 (.el (dW x4)) (AG dW h13) ?_
 obtain⟨r5,h14,h⟩:=bS h
 refine gC 41 (AT h14) ?_
 refine iB 43 h (fun h=> ?_) fun h=> ?_
 exact lb h
 exact lb h
 exact lb h) h
def BO(us:List Value)(s1 s9:Int)(w0:List Int)(s10:Int):St:=⟨sp 84 0 [rx 0,sI 1 s1,sI 9 s9,sI 10 s10],[rW 0 32 1 dW w0,(997,.vals [.row 0] us)],[]⟩
def BP(us:List Value)(s1 s9:Int)(w0:List Int)(o:Int):Ex×St:=(.exit 4,⟨sp 84 0 [rx 0,sI 1 s1,sI 9 s9,sI 10 o],[rW 0 32 1 dW w0,(997,.vals [.row 0] us)],[]⟩)
theorem CZ(rd:Option Nat)(us:List Value)(h:Pv cG cH cK cI=some cJ):Lq 104 rd 1924 (BO us cG cH cK cI) ((BP us cG cH cK) cJ):=
 lL (fun s:Int=>BO us cG cH cK s) (BP us cG cH cK) cI (fun cI o h=>by
 unfold Ga at h
 refine iB 49 h (fun h=> ?_) fun h=> ?_
 obtain⟨h18,h⟩:=cS h
 refine gQ h18.1<|gQ (AF dW h18.2) ?_
 obtain⟨x7,h19,h⟩:=xS h
 refine gG 53 (.el (dW x7)) (AG dW h19) ?_
 obtain⟨h20,h⟩:=cS h
 refine gQ h20.1<|gQ (AF dW h20.2) ?_
 obtain⟨x8,h21,h⟩:=xS h
 refine gG 57 (.el (dW x8)) (AG dW h21) ?_
 obtain⟨r9,h22,h⟩:=bS h
 refine gQ (AT h22) ?_
 cases r9
 replace h:=CF h
 refine gW 58 (.ret (.d (D.b false))) ?_
 exact lb h
 replace h:=CG h
 refine gW 58 (.ret (.d (D.b true))) ?_
 exact lb h
 exact lb h) h
def BK(us:List Value)(s1 s9 s10:Int)(w0:List Int):St:=⟨sp 84 0 [rx 0,sI 1 s1,sI 9 s9,sI 10 s10],[rW 0 32 1 dW w0,(997,.vals [.row 0] us)],[]⟩
def BL(us:List Value)(s1:Int)(o:(Int×List Int)):Ex×St:=(.exit 0,⟨sp 84 0 [sI 9 o.1],[rW 0 32 1 dW o.2,(997,.vals [.row 0] us)],[]⟩)
theorem CW(rd:Option Nat)(us:List Value)(h:Pt cG cH cI cK=some cP):Lq 104 rd 60 (BK us cG cH cI cK) ((BL us cG) cP):=
 lL (fun s:Int×Int×List Int=>BK us cG s.1 s.2.1 s.2.2) (BL us cG) (cH,cI,cK) (fun⟨cH,cI,cK⟩ o h=>by
 unfold Hv at h
 obtain⟨o6,h16,h⟩:=bS h
 refine gl (CY rd us h16) ?_
 obtain⟨o10,h24,h⟩:=bS h
 refine gl (CZ rd us h24) ?_
 refine iB 64 h (fun h=> ?_) fun h=> ?_
 exact lb h
 obtain⟨h26,h⟩:=cS h
 refine gQ h26.1<|gQ (AF dW h26.2) ?_
 obtain⟨x11,h27,h⟩:=xS h
 refine gG 72 (.el (dW x11)) (AG dW h27)<|gW 10077 (.sl ((cK.set o6.toNat x11).map dW)) ?_
 obtain⟨h28,h⟩:=cS h
 refine gQ h28.1<|gQ (AF dW h28.2) ?_
 obtain⟨x12,h29,h⟩:=xS h
 refine gG 76 (.el (dW x12)) (AG dW h29)<|gW 10078 (.sl (((cK.set o6.toNat x11).set o10.toNat x12).map dW)) ?_
 obtain⟨h30,h⟩:=cS h
 refine gQ h30.1<|gQ (AF dW h30.2) ?_
 obtain⟨h31,h⟩:=cS h
 refine gQ (A8 dW h31)<|gQ (AS dW cK o6 x11) ?_
 obtain⟨h32,h⟩:=cS h
 refine gQ h32.1<|gQ (AF dW h32.2) ?_
 obtain⟨h33,h⟩:=cS h
 refine gQ (A8 dW h33)<|gQ (AS dW (cK.set o6.toNat x11) o10 x12) ?_
 exact lb h) h
theorem As(h:Xe cG cH cI cK=some cQ):AL Tryz.prog 104 [.row 0,dI cG,dI cH,dI cI] [rW 0 32 1 dW cK] (dI cQ.1) [rW 0 32 1 dW cQ.2]:=by unfold Xe at h;refine XG.call (ks:=[0]) mixed fun us=> ?_;apply g0 (o:=cQ);obtain⟨h1,h⟩:=cS h;refine gQ h1.1<|gQ (AF dW h1.2) ?_;obtain⟨x1,h2,h⟩:=xS h;refine gG 18 (.el (dW x1)) (AG dW h2)<|gW 10023 (.sl ((cK.set cG.toNat x1).map dW)) ?_;obtain⟨h3,h⟩:=cS h;refine gQ h3.1<|gQ (AF dW h3.2) ?_;obtain⟨x2,h4,h⟩:=xS h;refine gG 22 (.el (dW x2)) (AG dW h4)<|gW 10024 (.sl (((cK.set cG.toNat x1).set cI.toNat x2).map dW)) ?_;obtain⟨h5,h⟩:=cS h;refine gQ h5.1<|gQ (AF dW h5.2) ?_;obtain⟨h6,h⟩:=cS h;refine gQ (A8 dW h6)<|gQ (AS dW cK cG x1) ?_;obtain⟨h7,h⟩:=cS h;refine gQ h7.1<|gQ (AF dW h7.2) ?_;obtain⟨h8,h⟩:=cS h;refine gQ (A8 dW h8)<|gQ (AS dW (cK.set cG.toNat x1) cI x2) ?_;obtain⟨o13,h34,h⟩:=bS h;refine gl (CW none us h34) ?_;exact lX h (lv [8] [0,997])
def Bg(us:List Value)(s1 s11:Int)(w0:List Int)(s10:Int):St:=⟨sp 168 0 [rx 0,sI 1 s1,sI 10 s10,sI 11 s11],[rW 0 32 1 dW w0,(997,.vals [.row 0] us)],[]⟩
def Bh(us:List Value)(s1 s11:Int)(w0:List Int)(o:Int):Ex×St:=(.exit 0,⟨sp 168 0 [rx 0,sI 1 s1,sI 10 o,sI 11 s11],[rW 0 32 1 dW w0,(997,.vals [.row 0] us)],[]⟩)
theorem Cw(rd:Option Nat)(us:List Value)(h:M6 cG cH cK cI=some cJ):Lq 105 rd 60 (Bg us cG cH cK cI) ((Bh us cG cH cK) cJ):=
 lL (fun s:Int=>Bg us cG cH cK s) (Bh us cG cH cK) cI (fun cI o h=>by
 unfold GX at h
 refine iB 33 h (fun h=> ?_) fun h=> ?_
 obtain⟨h10,h⟩:=cS h
 refine gQ h10.1<|gQ (AF dW h10.2) ?_
 obtain⟨x3,h11,h⟩:=xS h
 refine gG 37 (.el (dW x3)) (AG dW h11) ?_
 obtain⟨h12,h⟩:=cS h
 refine gQ h12.1<|gQ (AF dW h12.2) ?_
 obtain⟨x4,h13,h⟩:=xS h
 refine gG 41 (.el (dW x4)) (AG dW h13) ?_
 obtain⟨r5,h14,h⟩:=bS h
 refine gQ (AT h14) ?_
 cases r5
 replace h:=CF h
 refine gW 42 (.ret (.d (D.b false))) ?_
 exact lb h
 replace h:=CG h
 refine gW 42 (.ret (.d (D.b true))) ?_
 exact lb h
 exact lb h) h
def Bi(us:List Value)(s1 s10:Int)(w0:List Int)(s11:Int):St:=⟨sp 168 0 [rx 0,sI 1 s1,sI 10 s10,sI 11 s11],[rW 0 32 1 dW w0,(997,.vals [.row 0] us)],[]⟩
def Bj(us:List Value)(s1 s10:Int)(w0:List Int)(o:Int):Ex×St:=(.exit 2,⟨sp 168 0 [rx 0,sI 1 s1,sI 10 s10,sI 11 o],[rW 0 32 1 dW w0,(997,.vals [.row 0] us)],[]⟩)
theorem Cx(rd:Option Nat)(us:List Value)(h:M7 cG cH cK cI=some cJ):Lq 105 rd 124 (Bi us cG cH cK cI) ((Bj us cG cH cK) cJ):=
 lL (fun s:Int=>Bi us cG cH cK s) (Bj us cG cH cK) cI (fun cI o h=>by
 unfold GY at h
 refine iB 49 h (fun h=> ?_) fun h=> ?_
 obtain⟨h18,h⟩:=cS h
 refine gQ h18.1<|gQ (AF dW h18.2) ?_
 obtain⟨x7,h19,h⟩:=xS h
 refine gG 53 (.el (dW x7)) (AG dW h19) ?_
 obtain⟨h20,h⟩:=cS h
 refine gQ h20.1<|gQ (AF dW h20.2) ?_
 obtain⟨x8,h21,h⟩:=xS h
 refine gG 57 (.el (dW x8)) (AG dW h21) ?_
 obtain⟨r9,h22,h⟩:=bS h
 refine gC 58 (AT h22) ?_
 refine iB 60 h (fun h=> ?_) fun h=> ?_
 exact lb h
 exact lb h
 exact lb h) h
def Bn(us:List Value)(s1 s11:Int)(w0:List Int)(s10:Int):St:=⟨sp 168 0 [rx 0,sI 1 s1,sI 10 s10,sI 11 s11],[rW 0 32 1 dW w0,(997,.vals [.row 0] us)],[]⟩
def Bo(us:List Value)(s1 s11:Int)(w0:List Int)(o:Int):Ex×St:=(.exit 6,⟨sp 168 0 [rx 0,sI 1 s1,sI 10 o,sI 11 s11],[rW 0 32 1 dW w0,(997,.vals [.row 0] us)],[]⟩)
theorem Cz(rd:Option Nat)(us:List Value)(h:aAv cG cH cK cI=some cJ):Lq 105 rd 65472 (Bn us cG cH cK cI) ((Bo us cG cH cK) cJ):=
 lL (fun s:Int=>Bn us cG cH cK s) (Bo us cG cH cK) cI (fun cI o h=>by
 unfold M8 at h
 refine iB 102 h (fun h=> ?_) fun h=> ?_
 obtain⟨h43,h⟩:=cS h
 refine gQ h43.1<|gQ (AF dW h43.2) ?_
 obtain⟨x15,h44,h⟩:=xS h
 refine gG 106 (.el (dW x15)) (AG dW h44) ?_
 obtain⟨h45,h⟩:=cS h
 refine gQ h45.1<|gQ (AF dW h45.2) ?_
 obtain⟨x16,h46,h⟩:=xS h
 refine gG 110 (.el (dW x16)) (AG dW h46) ?_
 obtain⟨r17,h47,h⟩:=bS h
 refine gQ (AT h47) ?_
 cases r17
 replace h:=CF h
 refine gW 111 (.ret (.d (D.b false))) ?_
 exact lb h
 replace h:=CG h
 refine gW 111 (.ret (.d (D.b true))) ?_
 exact lb h
 exact lb h) h
def Bp(us:List Value)(s1 s10:Int)(w0:List Int)(s11:Int):St:=⟨sp 168 0 [rx 0,sI 1 s1,sI 10 s10,sI 11 s11],[rW 0 32 1 dW w0,(997,.vals [.row 0] us)],[]⟩
def Bq(us:List Value)(s1 s10:Int)(w0:List Int)(o:Int):Ex×St:=(.exit 8,⟨sp 168 0 [rx 0,sI 1 s1,sI 10 s10,sI 11 o],[rW 0 32 1 dW w0,(997,.vals [.row 0] us)],[]⟩)
theorem C0(rd:Option Nat)(us:List Value)(h:aAx cG cH cK cI=some cJ):Lq 105 rd 130948 (Bp us cG cH cK cI) ((Bq us cG cH cK) cJ):=
 lL (fun s:Int=>Bp us cG cH cK s) (Bq us cG cH cK) cI (fun cI o h=>by
 unfold M9 at h
 refine iB 118 h (fun h=> ?_) fun h=> ?_
 obtain⟨h51,h⟩:=cS h
 refine gQ h51.1<|gQ (AF dW h51.2) ?_
 obtain⟨x19,h52,h⟩:=xS h
 refine gG 122 (.el (dW x19)) (AG dW h52) ?_
 obtain⟨h53,h⟩:=cS h
 refine gQ h53.1<|gQ (AF dW h53.2) ?_
 obtain⟨x20,h54,h⟩:=xS h
 refine gG 126 (.el (dW x20)) (AG dW h54) ?_
 obtain⟨r21,h55,h⟩:=bS h
 refine gC 127 (AT h55) ?_
 refine iB 129 h (fun h=> ?_) fun h=> ?_
 exact lb h
 exact lb h
 exact lb h) h
def Bl(us:List Value)(s1 s10 s11:Int)(w0:List Int):St:=⟨sp 168 0 [rx 0,sI 1 s1,sI 10 s10,sI 11 s11],[rW 0 32 1 dW w0,(997,.vals [.row 0] us)],[]⟩
def Bm(us:List Value)(s1:Int)(o:(Int×List Int)):Ex×St:=(.exit 4,⟨sp 168 0 [rx 0,sI 1 s1,sI 11 o.1],[rW 0 32 1 dW o.2,(997,.vals [.row 0] us)],[]⟩)
theorem Cy(rd:Option Nat)(us:List Value)(h:Pq cG cH cI cK=some cP):Lq 105 rd 4092 (Bl us cG cH cI cK) ((Bm us cG) cP):=
 lL (fun s:Int×Int×List Int=>Bl us cG s.1 s.2.1 s.2.2) (Bm us cG) (cH,cI,cK) (fun⟨cH,cI,cK⟩ o h=>by
 unfold Hh at h
 obtain⟨o18,h49,h⟩:=bS h
 refine gl (Cz rd us h49) ?_
 obtain⟨o22,h57,h⟩:=bS h
 refine gl (C0 rd us h57) ?_
 refine iB 134 h (fun h=> ?_) fun h=> ?_
 exact lb h
 obtain⟨h59,h⟩:=cS h
 refine gQ h59.1<|gQ (AF dW h59.2) ?_
 obtain⟨x23,h60,h⟩:=xS h
 refine gG 142 (.el (dW x23)) (AG dW h60)<|gW 10147 (.sl ((cK.set o18.toNat x23).map dW)) ?_
 obtain⟨h61,h⟩:=cS h
 refine gQ h61.1<|gQ (AF dW h61.2) ?_
 obtain⟨x24,h62,h⟩:=xS h
 refine gG 146 (.el (dW x24)) (AG dW h62)<|gW 10148 (.sl (((cK.set o18.toNat x23).set o22.toNat x24).map dW)) ?_
 obtain⟨h63,h⟩:=cS h
 refine gQ h63.1<|gQ (AF dW h63.2) ?_
 obtain⟨h64,h⟩:=cS h
 refine gQ (A8 dW h64)<|gQ (AS dW cK o18 x23) ?_
 obtain⟨h65,h⟩:=cS h
 refine gQ h65.1<|gQ (AF dW h65.2) ?_
 obtain⟨h66,h⟩:=cS h
 refine gQ (A8 dW h66)<|gQ (AS dW (cK.set o18.toNat x23) o22 x24) ?_
 exact lb h) h
theorem Aa(h:X6 cG cH cI cK=some cR):AL Tryz.prog 105 [.row 0,dI cG,dI cH,dI cI] [rW 0 32 1 dW cK] (.tup [dI cR.1,.d (D.b cR.2.1)]) [rW 0 32 1 dW cR.2.2]:=by unfold X6 at h;refine XG.call (ks:=[0]) mixed fun us=> ?_;apply g0 (o:=cR);obtain⟨h1,h⟩:=cS h;refine gQ h1.1<|gQ (AF dW h1.2) ?_;obtain⟨x1,h2,h⟩:=xS h;refine gG 19 (.el (dW x1)) (AG dW h2)<|gW 10024 (.sl ((cK.set cG.toNat x1).map dW)) ?_;obtain⟨h3,h⟩:=cS h;refine gQ h3.1<|gQ (AF dW h3.2) ?_;obtain⟨x2,h4,h⟩:=xS h;refine gG 23 (.el (dW x2)) (AG dW h4)<|gW 10025 (.sl (((cK.set cG.toNat x1).set cI.toNat x2).map dW)) ?_;obtain⟨h5,h⟩:=cS h;refine gQ h5.1<|gQ (AF dW h5.2) ?_;obtain⟨h6,h⟩:=cS h;refine gQ (A8 dW h6)<|gQ (AS dW cK cG x1) ?_;obtain⟨h7,h⟩:=cS h;refine gQ h7.1<|gQ (AF dW h7.2) ?_;obtain⟨h8,h⟩:=cS h;refine gQ (A8 dW h8)<|gQ (AS dW (cK.set cG.toNat x1) cI x2) ?_;obtain⟨o6,h16,h⟩:=bS h;refine gl (Cw none us h16) ?_;obtain⟨o10,h24,h⟩:=bS h;refine gl (Cx none us h24) ?_;refine iB 65 h (fun h=> ?_) fun h=> ?_;obtain⟨h26,h⟩:=cS h;refine gQ h26.1<|gQ (AF dW h26.2) ?_;obtain⟨x11,h27,h⟩:=xS h;refine gG 73 (.el (dW x11)) (AG dW h27)<|gW 10078 (.sl ((((cK.set cG.toNat x1).set cI.toNat x2).set o10.toNat x11).map dW)) ?_;obtain⟨h28,h⟩:=cS h;refine gQ h28.1<|gQ (AF dW h28.2) ?_;obtain⟨x12,h29,h⟩:=xS h;refine gG 77 (.el (dW x12)) (AG dW h29)<|gW 10079 (.sl (((((cK.set cG.toNat x1).set cI.toNat x2).set o10.toNat x11).set cG.toNat x12).map dW)) ?_;obtain⟨h30,h⟩:=cS h;refine gQ h30.1<|gQ (AF dW h30.2) ?_;obtain⟨h31,h⟩:=cS h;refine gQ (A8 dW h31)<|gQ (AS dW ((cK.set cG.toNat x1).set cI.toNat x2) o10 x11) ?_;obtain⟨h32,h⟩:=cS h;refine gQ h32.1<|gQ (AF dW h32.2) ?_;obtain⟨h33,h⟩:=cS h;refine gQ (A8 dW h33)<|gQ (AS dW (((cK.set cG.toNat x1).set cI.toNat x2).set o10.toNat x11) cG x12) ?_;exact lX h (lv [8,9] [0,997]);obtain⟨h34,h⟩:=cS h;refine gQ h34.1<|gQ (AF dW h34.2) ?_;obtain⟨x13,h35,h⟩:=xS h;refine gG 88 (.el (dW x13)) (AG dW h35)<|gW 10093 (.sl ((((cK.set cG.toNat x1).set cI.toNat x2).set o6.toNat x13).map dW)) ?_;obtain⟨h36,h⟩:=cS h;refine gQ h36.1<|gQ (AF dW h36.2) ?_;obtain⟨x14,h37,h⟩:=xS h;refine gG 92 (.el (dW x14)) (AG dW h37)<|gW 10094 (.sl (((((cK.set cG.toNat x1).set cI.toNat x2).set o6.toNat x13).set o10.toNat x14).map dW)) ?_;obtain⟨h38,h⟩:=cS h;refine gQ h38.1<|gQ (AF dW h38.2) ?_;obtain⟨h39,h⟩:=cS h;refine gQ (A8 dW h39)<|gQ (AS dW ((cK.set cG.toNat x1).set cI.toNat x2) o6 x13) ?_;obtain⟨h40,h⟩:=cS h;refine gQ h40.1<|gQ (AF dW h40.2) ?_;obtain⟨h41,h⟩:=cS h;refine gQ (A8 dW h41)<|gQ (AS dW (((cK.set cG.toNat x1).set cI.toNat x2).set o6.toNat x13) o10 x14) ?_;obtain⟨o25,h67,h⟩:=bS h;refine gl (Cy none us h67) ?_;obtain⟨h68,h⟩:=cS h;refine gQ h68.1<|gQ (AF dW h68.2) ?_;obtain⟨x26,h69,h⟩:=xS h;refine gG 160 (.el (dW x26)) (AG dW h69)<|gW 10165 (.sl ((o25.2.set o25.1.toNat x26).map dW)) ?_;obtain⟨h70,h⟩:=cS h;refine gQ h70.1<|gQ (AF dW h70.2) ?_;obtain⟨x27,h71,h⟩:=xS h;refine gG 164 (.el (dW x27)) (AG dW h71)<|gW 10166 (.sl (((o25.2.set o25.1.toNat x26).set cG.toNat x27).map dW)) ?_;obtain⟨h72,h⟩:=cS h;refine gQ h72.1<|gQ (AF dW h72.2) ?_;obtain⟨h73,h⟩:=cS h;refine gQ (A8 dW h73)<|gQ (AS dW o25.2 o25.1 x26) ?_;obtain⟨h74,h⟩:=cS h;refine gQ h74.1<|gQ (AF dW h74.2) ?_;obtain⟨h75,h⟩:=cS h;refine gQ (A8 dW h75)<|gQ (AS dW (o25.2.set o25.1.toNat x26) cG x27) ?_;exact lX h (lv [8,9] [0,997])
theorem DW(rd:Option Nat)(self:Int->Int->Int->(List Int)->Option (List Int))(hs: ∀(a1 a2 a3:Int) (w0 r:List Int),self a1 a2 a3 w0=some r->AL Tryz.prog 72 [.row 0,dI a1,dI a2,dI a3] [rW 0 32 1 dW w0] (.tup []) [rW 0 32 1 dW r])(us:List Value){s1 s2 s3:Int}{s8 s9:Bool}{s10:Int}{s35:Bool}{w0:List Int}{o:(Int×List Int)}(h:NB self s1 s2 s3 s8 s9 s10 s35 w0=some o):Lq 72 rd 1821 ⟨sp 134 0 [rx 0,sI 1 s1,sI 2 s2,sI 3 s3,sD 8 D.b s8,sD 9 D.b s9,sI 10 s10,sD 35 D.b s35],[rW 0 32 1 dW w0,(997,.vals [.row 0] us)],[]⟩ (.normal,⟨sp 134 0 [rx 0,sI 1 s1,sI 2 s2,sI 3 o.1,sD 8 D.b s8,sD 9 D.b s9,sI 10 s10],[rW 0 32 1 dW o.2,(997,.vals [.row 0] us)],[]⟩):=by unfold NB at h;apply g0 (o:=o);cases s35;replace h:=CF h;exact lp h;replace h:=CG h;obtain⟨r3,h6,h⟩:=bS h;refine gG 39 (.cx false [(0,0)] [] (.tup []) [rW 0 32 1 dW r3]) (C9 h6) ?_;exact lp h
theorem DX(rd:Option Nat)(self:Int->Int->Int->(List Int)->Option (List Int))(hs: ∀(a1 a2 a3:Int) (w0 r:List Int),self a1 a2 a3 w0=some r->AL Tryz.prog 72 [.row 0,dI a1,dI a2,dI a3] [rW 0 32 1 dW w0] (.tup []) [rW 0 32 1 dW r])(us:List Value){s1 s2 s3:Int}{s8 s9:Bool}{s10 s11 s12:Int}{s50:Bool}{w0:List Int}{o:(Int×Int×List Int)}(h:NC self s1 s2 s3 s8 s9 s10 s11 s12 s50 w0=some o):Lq 72 rd 7293 ⟨sp 134 0 [rx 0,sI 1 s1,sI 2 s2,sI 3 s3,sD 8 D.b s8,sD 9 D.b s9,sI 10 s10,sI 11 s11,sI 12 s12,sD 50 D.b s50],[rW 0 32 1 dW w0,(997,.vals [.row 0] us)],[]⟩ (.normal,⟨sp 134 0 [rx 0,sI 1 s1,sI 2 s2,sI 3 s3,sD 8 D.b s8,sD 9 D.b s9,sI 10 s10,sI 11 o.1,sI 12 o.2.1],[rW 0 32 1 dW o.2.2,(997,.vals [.row 0] us)],[]⟩):=by unfold NC at h;apply g0 (o:=o);cases s50;replace h:=CF h;exact lp h;replace h:=CG h;obtain⟨r6,h10,h⟩:=bS h;refine gG 54 (.cx false [(0,0)] [] (.tup []) [rW 0 32 1 dW r6]) (DD h10) ?_;exact lp h
theorem BF(rd:Option Nat)(self:Int->Int->Int->(List Int)->Option (List Int))(hs: ∀(a1 a2 a3:Int) (w0 r:List Int),self a1 a2 a3 w0=some r->AL Tryz.prog 72 [.row 0,dI a1,dI a2,dI a3] [rW 0 32 1 dW w0] (.tup []) [rW 0 32 1 dW r])(us:List Value){s1 s2 s3:Int}{s8 s9:Bool}{s10 s11:Int}{s68:Bool}{w0:List Int}{o:(List Int)⊕(List Int)}(h:Jg self s1 s2 s3 s8 s9 s10 s11 s68 w0=some o):Lq 72 rd 14589 ⟨sp 134 0 [rx 0,sI 1 s1,sI 2 s2,sI 3 s3,sD 8 D.b s8,sD 9 D.b s9,sI 10 s10,sI 11 s11,sD 68 D.b s68],[rW 0 32 1 dW w0,(997,.vals [.row 0] us)],[]⟩ (match (generalizing:=false) o with
 | .inl o=>(.normal,⟨sp 134 0 [rx 0,sI 1 s1,sI 2 s2,sI 3 s3,sD 8 D.b s8,sD 9 D.b s9,sI 10 s10,sI 11 s11],[rW 0 32 1 dW o,(997,.vals [.row 0] us)],[]⟩)
 | .inr o=>(.ret,⟨sp 134 0 [],[rW 0 32 1 dW o,(997,.vals [.row 0] us)],[]⟩)):=by
 unfold Jg at h
 apply g0 (o:=o)
 cases s68
 replace h:=CF h
 exact lp h
 replace h:=CG h
 obtain⟨r8,h15,h⟩:=bS h
 refine gQ (CO h15) ?_
 rcases r8 with⟨r8_1,r8_2⟩
 cases r8_1
 replace h:=CF h
 refine gW 72 (.cx false [(0,0)] [] (.d (D.b false)) [rW 0 32 1 dW r8_2]) ?_
 exact lp h
 replace h:=CG h
 refine gW 72 (.cx false [(0,0)] [] (.d (D.b true)) [rW 0 32 1 dW r8_2]) ?_
 exact lp h
theorem Ab(rd:Option Nat)(self:Int->Int->Int->(List Int)->Option (List Int))(hs: ∀(a1 a2 a3:Int) (w0 r:List Int),self a1 a2 a3 w0=some r->AL Tryz.prog 72 [.row 0,dI a1,dI a2,dI a3] [rW 0 32 1 dW w0] (.tup []) [rW 0 32 1 dW r])(us:List Value){s1 s2 s3:Int}{s9:Bool}{s14 s16:Int}{s17 s18:Int}{s113:Bool}{w0:List Int}{o:(Int×Int×Bool×List Int)}(h:Fj self s1 s2 s3 s9 s14 s16 s17 s18 s113 w0=some o):Lq 72 rd 466943 ⟨sp 134 0 [rx 0,sI 1 s1,sI 2 s2,sI 3 s3,sD 9 D.b s9,sI 14 s14,sI 16 s16,sI 17 s17,sI 18 s18,sD 113 D.b s113],[rW 0 32 1 dW w0,(997,.vals [.row 0] us)],[]⟩ (.normal,⟨sp 134 0 [rx 0,sI 1 o.1,sI 2 o.2.1,sI 3 s3,sD 8 D.b o.2.2.1,sD 9 D.b s9],[rW 0 32 1 dW o.2.2.2,(997,.vals [.row 0] us)],[]⟩):=by unfold Fj at h;apply g0 (o:=o);cases s113;replace h:=CF h;obtain⟨r18,h29,h⟩:=bS h;refine gG 132 (.cx false [(0,0)] [] (.tup []) [rW 0 32 1 dW r18]) (hs (AA .add .i64 s14 1) s2 s3 w0 r18 h29) ?_;exact lp h;replace h:=CG h;obtain⟨r17,h28,h⟩:=bS h;refine gG 121 (.cx false [(0,0)] [] (.tup []) [rW 0 32 1 dW r17]) (hs s1 s14 s3 w0 r17 h28) ?_;exact lp h
theorem DV(rd:Option Nat)(self:Int->Int->Int->(List Int)->Option (List Int))(hs: ∀(a1 a2 a3:Int) (w0 r:List Int),self a1 a2 a3 w0=some r->AL Tryz.prog 72 [.row 0,dI a1,dI a2,dI a3] [rW 0 32 1 dW w0] (.tup []) [rW 0 32 1 dW r])(us:List Value){s1 s2 s3:Int}{s8 s9:Bool}{w0:List Int}{o:(Int×Int×Int×Bool×Bool×List Int)⊕(List Int)}(h:NA self s1 s2 s3 s8 s9 w0=some o):Lq 72 rd 28 ⟨sp 134 0 [rx 0,sI 1 s1,sI 2 s2,sI 3 s3,sD 8 D.b s8,sD 9 D.b s9],[rW 0 32 1 dW w0,(997,.vals [.row 0] us)],[]⟩ (match (generalizing:=false) o with
 | .inl o=>(.normal,⟨sp 134 0 [rx 0,sI 1 o.1,sI 2 o.2.1,sI 3 o.2.2.1,sD 8 D.b o.2.2.2.1,sD 9 D.b o.2.2.2.2.1],[rW 0 32 1 dW o.2.2.2.2.2,(997,.vals [.row 0] us)],[]⟩)
 | .inr o=>(.ret,⟨sp 134 0 [],[rW 0 32 1 dW o,(997,.vals [.row 0] us)],[]⟩)):=by
 unfold NA at h
 apply g0 (o:=o)
 refine iB 23 h (fun h=> ?_) fun h=> ?_
 obtain⟨r1,h2,h⟩:=bS h
 refine gG 27 (.cx false [(0,0)] [] (.tup []) [rW 0 32 1 dW r1]) (DA h2) ?_
 exact lp h
 refine iB 29 h (fun h=> ?_) fun h=> ?_
 obtain⟨r2,h4,h⟩:=bS h
 refine gG 33 (.cx false [(0,0)] [] (.tup []) [rW 0 32 1 dW r2]) (Dg h4) ?_
 exact lp h
 obtain⟨o4,h7,h⟩:=bS h
 refine gl (DW rd self hs us h7) ?_
 obtain⟨r5,h8,h⟩:=bS h
 refine gG 46 (.lend [0] (.tup [dI r5.1,dI r5.2])) (DG h8) ?_
 obtain⟨o7,h11,h⟩:=bS h
 refine gl (DX rd self hs us h11) ?_
 refine iB 62 h (fun h=> ?_) fun h=> ?_
 refine iB 65 h (fun h=> ?_) fun h=> ?_
 obtain⟨o9,h17,h⟩:=bS h
 refine gl (BF rd self hs us h17) ?_
 replace h:=AK h
 rcases h with⟨o10,rfl,h⟩|⟨o11,rfl,h⟩
 refine iB 75 h (fun h=> ?_) fun h=> ?_
 obtain⟨h19,h⟩:=cS h
 refine gQ h19.1<|gQ (AF dW h19.2) ?_
 obtain⟨x12,h20,h⟩:=xS h
 refine gG 80 (.el (dW x12)) (AG dW h20) ?_
 obtain⟨h21,h⟩:=cS h
 refine gQ h21.1<|gQ (AF dW h21.2) ?_
 obtain⟨x13,h22,h⟩:=xS h
 refine gG 84 (.el (dW x13)) (AG dW h22) ?_
 obtain⟨r14,h23,h⟩:=bS h
 refine gC 85 (AT h23) ?_
 refine iB 87 h (fun h=> ?_) fun h=> ?_
 obtain⟨r15,h25,h⟩:=bS h
 refine gG 92 (.cx false [(0,0)] [] (dI r15.1) [rW 0 32 1 dW r15.2]) (As h25) ?_
 exact lp h
 obtain⟨r16,h26,h⟩:=bS h
 refine gG 99 (.cx false [(0,0)] [] (.tup [dI r16.1,.d (D.b r16.2.1)]) [rW 0 32 1 dW r16.2.2]) (Aa h26)<|gQ (of_decide_eq_true rfl:(8:Int)≠0) ?_
 obtain⟨o19,h30,h⟩:=bS h
 refine gl (Ab rd self hs us h30) ?_
 exact lp h
 obtain⟨r20,h31,h⟩:=bS h
 refine gG 99 (.cx false [(0,0)] [] (.tup [dI r20.1,.d (D.b r20.2.1)]) [rW 0 32 1 dW r20.2.2]) (Aa h31)<|gQ (of_decide_eq_true rfl:(8:Int)≠0) ?_
 obtain⟨o21,h32,h⟩:=bS h
 refine gl (Ab rd self hs us h32) ?_
 exact lp h
 exact lp h
 obtain⟨o22,h33,h⟩:=bS h
 refine gl (BF rd self hs us h33) ?_
 replace h:=AK h
 rcases h with⟨o23,rfl,h⟩|⟨o24,rfl,h⟩
 refine iB 75 h (fun h=> ?_) fun h=> ?_
 obtain⟨h35,h⟩:=cS h
 refine gQ h35.1<|gQ (AF dW h35.2) ?_
 obtain⟨x25,h36,h⟩:=xS h
 refine gG 80 (.el (dW x25)) (AG dW h36) ?_
 obtain⟨h37,h⟩:=cS h
 refine gQ h37.1<|gQ (AF dW h37.2) ?_
 obtain⟨x26,h38,h⟩:=xS h
 refine gG 84 (.el (dW x26)) (AG dW h38) ?_
 obtain⟨r27,h39,h⟩:=bS h
 refine gC 85 (AT h39) ?_
 refine iB 87 h (fun h=> ?_) fun h=> ?_
 obtain⟨r28,h41,h⟩:=bS h
 refine gG 92 (.cx false [(0,0)] [] (dI r28.1) [rW 0 32 1 dW r28.2]) (As h41) ?_
 exact lp h
 obtain⟨r29,h42,h⟩:=bS h
 refine gG 99 (.cx false [(0,0)] [] (.tup [dI r29.1,.d (D.b r29.2.1)]) [rW 0 32 1 dW r29.2.2]) (Aa h42)<|gQ (of_decide_eq_true rfl:(8:Int)≠0) ?_
 obtain⟨o30,h43,h⟩:=bS h
 refine gl (Ab rd self hs us h43) ?_
 exact lp h
 obtain⟨r31,h44,h⟩:=bS h
 refine gG 99 (.cx false [(0,0)] [] (.tup [dI r31.1,.d (D.b r31.2.1)]) [rW 0 32 1 dW r31.2.2]) (Aa h44)<|gQ (of_decide_eq_true rfl:(8:Int)≠0) ?_
 obtain⟨o32,h45,h⟩:=bS h
 refine gl (Ab rd self hs us h45) ?_
 exact lp h
 exact lp h
 obtain⟨o33,h46,h⟩:=bS h
 refine gl (BF rd self hs us h46) ?_
 replace h:=AK h
 rcases h with⟨o34,rfl,h⟩|⟨o35,rfl,h⟩
 refine iB 75 h (fun h=> ?_) fun h=> ?_
 obtain⟨h48,h⟩:=cS h
 refine gQ h48.1<|gQ (AF dW h48.2) ?_
 obtain⟨x36,h49,h⟩:=xS h
 refine gG 80 (.el (dW x36)) (AG dW h49) ?_
 obtain⟨h50,h⟩:=cS h
 refine gQ h50.1<|gQ (AF dW h50.2) ?_
 obtain⟨x37,h51,h⟩:=xS h
 refine gG 84 (.el (dW x37)) (AG dW h51) ?_
 obtain⟨r38,h52,h⟩:=bS h
 refine gC 85 (AT h52) ?_
 refine iB 87 h (fun h=> ?_) fun h=> ?_
 obtain⟨r39,h54,h⟩:=bS h
 refine gG 92 (.cx false [(0,0)] [] (dI r39.1) [rW 0 32 1 dW r39.2]) (As h54) ?_
 exact lp h
 obtain⟨r40,h55,h⟩:=bS h
 refine gG 99 (.cx false [(0,0)] [] (.tup [dI r40.1,.d (D.b r40.2.1)]) [rW 0 32 1 dW r40.2.2]) (Aa h55)<|gQ (of_decide_eq_true rfl:(8:Int)≠0) ?_
 obtain⟨o41,h56,h⟩:=bS h
 refine gl (Ab rd self hs us h56) ?_
 exact lp h
 obtain⟨r42,h57,h⟩:=bS h
 refine gG 99 (.cx false [(0,0)] [] (.tup [dI r42.1,.d (D.b r42.2.1)]) [rW 0 32 1 dW r42.2.2]) (Aa h57)<|gQ (of_decide_eq_true rfl:(8:Int)≠0) ?_
 obtain⟨o43,h58,h⟩:=bS h
 refine gl (Ab rd self hs us h58) ?_
 exact lp h
 exact lp h
def CJ(us:List Value)(s1 s2 s3:Int)(s8 s9:Bool)(w0:List Int):St:=⟨sp 134 0 [rx 0,sI 1 s1,sI 2 s2,sI 3 s3,sD 8 D.b s8,sD 9 D.b s9],[rW 0 32 1 dW w0,(997,.vals [.row 0] us)],[]⟩
def CK(us:List Value)(o:(List Int)):Ex×St:=(.ret,⟨sp 134 0 [],[rW 0 32 1 dW o,(997,.vals [.row 0] us)],[]⟩)
theorem DY(rd:Option Nat)(self:Int->Int->Int->(List Int)->Option (List Int))(hs: ∀(a1 a2 a3:Int) (w0 r:List Int),self a1 a2 a3 w0=some r->AL Tryz.prog 72 [.row 0,dI a1,dI a2,dI a3] [rW 0 32 1 dW w0] (.tup []) [rW 0 32 1 dW r])(us:List Value){s1 s2 s3:Int}{s8 s9:Bool}{w0:List Int}{t:(List Int)}(h:Ps self s1 s2 s3 s8 s9 w0=some t):Lq 72 rd 14 (CJ us s1 s2 s3 s8 s9 w0) ((CK us) t):=
 lL (fun s:Int×Int×Int×Bool×Bool×List Int=>CJ us s.1 s.2.1 s.2.2.1 s.2.2.2.1 s.2.2.2.2.1 s.2.2.2.2.2) (CK us) (s1,s2,s3,s8,s9,w0) (fun⟨s1,s2,s3,s8,s9,w0⟩ o h=>by
 unfold Hn at h
 obtain⟨o44,h59,h⟩:=bS h
 refine gl (DV rd self hs us h59) ?_
 replace h:=AK h
 rcases h with⟨o45,rfl,h⟩|⟨o46,rfl,h⟩
 exact lb h
 exact lb h) h
theorem De(self:Int->Int->Int->(List Int)->Option (List Int))(hs: ∀(a1 a2 a3:Int) (w0 r:List Int),self a1 a2 a3 w0=some r->AL Tryz.prog 72 [.row 0,dI a1,dI a2,dI a3] [rW 0 32 1 dW w0] (.tup []) [rW 0 32 1 dW r])(a1 a2 a3:Int)(w0 r:List Int)(h:aKk self a1 a2 a3 w0=some r):AL Tryz.prog 72 [.row 0,dI a1,dI a2,dI a3] [rW 0 32 1 dW w0] (.tup []) [rW 0 32 1 dW r]:=by unfold aKk at h;refine XG.call (ks:=[0]) mixed fun us=> ?_;apply g0 (o:=r);obtain⟨o47,h60,h⟩:=bS h;refine gl (DY none self hs us h60) ?_;exact lX h (lv [] [0,997])
theorem CL: ∀(n:Nat) (a1 a2 a3:Int) (w0 r:List Int),aI2 n a1 a2 a3 w0=some r->AL Tryz.prog 72 [.row 0,dI a1,dI a2,dI a3] [rW 0 32 1 dW w0] (.tup []) [rW 0 32 1 dW r]
 |0,a1,a2,a3,w0,r,h=>by simp [aI2]at h
 |n+1,a1,a2,a3,w0,r,h=>De _ (CL n) a1 a2 a3 w0 r h
theorem Dn(h:X9 cG cH cI cK=some cT):AL Tryz.prog 72 [.row 0,dI cG,dI cH,dI cI] [rW 0 32 1 dW cK] (.tup []) [rW 0 32 1 dW cT]:=CL 100000 cG cH cI cK cT h
theorem D8(h:Q7 cK=some cT):AL Tryz.prog 41 [.row 0] [rW 0 32 1 dW cK] (.tup []) [rW 0 32 1 dW cT]:=by unfold Q7 at h;refine XG.call (ks:=[0]) mixed fun us=> ?_;apply g0 (o:=cT);refine gN 4 dW cK ?_;obtain⟨r1,h1,h⟩:=bS h;refine gC 9 (aKa h1) ?_;obtain⟨r2,h2,h⟩:=bS h;refine gG 10 (.cx false [(0,0)] [] (.tup []) [rW 0 32 1 dW r2]) (Dn h2) ?_;exact lX h (lv [] [0,997])
theorem aRm(h:Qb cV cU cG=some cK):AL Tryz.prog 11 [.d (AD.D cV),.d ((D.l X2.D) cU),.d (dW cG)] [] (.d ((D.l dW) cK)) []:=by unfold Qb at h;apply g0 (o:=cK);obtain⟨r1,h1,h⟩:=bS h;refine gG 14 (.cx false [] [(0,14),(1,421),(2,428)] (.tup [.row 0,.row 1,.row 2]) [rW 0 32 1 dW r1.1,(1,.map r1.2.1.clk (MP.dl dW dW r1.2.1)),(2,.map r1.2.2.clk (MP.dl dW dU r1.2.2))]) (aS3 h1) ?_;obtain⟨r2,h2,h⟩:=bS h;refine gG 19 (.cx false [(0,14)] [] (.tup []) [rW 0 32 1 dW r2]) (D8 h2) ?_;exact lF h [.frz 14]
def VG(s1:Int)(s8:List Xb)(s9 s10:Int):St:=⟨sp 26 0 [sD 1 dW s1,sD 8 (D.l Xb.D) s8,sI 9 s9,sI 10 s10],[],[]⟩
def VH(s1:Int)(s8:List Xb)(s9:Int)(o:Unit⊕Unit):Ex×St:=match o with
 | .inl o=>(.exit 0,⟨sp 26 0 [],[],[]⟩)
 | .inr o=>(.ret,⟨sp 26 0 [sD 4 D.b true],[],[]⟩)
theorem aFu(rd:Option Nat)(h:aLv cG d6 cH cI=some dS):Lq 52 rd 26 (VG cG d6 cH cI) ((VH cG d6 cH) dS):=
 lL (fun s:Int=>VG cG d6 cH s) (VH cG d6 cH) cI (fun cI o h=>by
 unfold IW at h
 refine iB 11 h (fun h=> ?_) fun h=> ?_
 refine xX 13 Xb.D h fun x1 h=> ?_
 refine iB 17 h (fun h=> ?_) fun h=> ?_
 obtain⟨h4,h⟩:=cS h
 refine gQ h4 ?_
 refine iB 24 h (fun h=> ?_) fun h=> ?_
 exact lb h
 exact lb h
 exact lb h
 exact lb h) h
theorem aFv(h:Yl cV cG=some d5):AL Tryz.prog 52 [.d (AD.D cV),.d (dW cG)] [] (.d (D.b d5)) []:=by
 unfold Yl at h;apply g0 (o:=d5);refine gN 9 Xb.D cV.states ?_;obtain⟨o2,h6,h⟩:=bS h;refine gl (aFu none h6) ?_;replace h:=AK h;rcases h with⟨o3,rfl,h⟩|⟨o4,rfl,h⟩
 exact lf h;exact lf h
theorem aR9(h:U1 cG cV=some d5):AL Tryz.prog 75 [.d (dW cG),.eptr (D.cells (AD.D cV))] [] (.d (D.b d5)) []:=by unfold U1 at h;apply g0 (o:=d5);obtain⟨r1,h1,h⟩:=bS h;refine gC 6 (aFv h1) ?_;exact lf h
def WL(s0:List Int)(s1:AD)(s7 s8:Int):St:=⟨sp 19 0 [sD 0 (D.l dW) s0,(1,.clo (.func 75) [] [.eptr (D.cells (AD.D s1))]),sI 7 s7,sI 8 s8],[],[]⟩
def WM(s0:List Int)(s1:AD)(s7:Int)(o:Unit⊕Int):Ex×St:=match o with
 | .inl o=>(.exit 0,⟨sp 19 0 [],[],[]⟩)
 | .inr o=>(.ret,⟨sp 19 0 [sI 4 o],[],[]⟩)
theorem aGy(rd:Option Nat)(h:aMg cK cV cG cH=some dV):Lq 108 rd 26 (WL cK cV cG cH) ((WM cK cV cG) dV):=
 lL (fun s:Int=>WL cK cV cG s) (WM cK cV cG) cH (fun cH o h=>by
 unfold It at h
 refine iB 9 h (fun h=> ?_) fun h=> ?_
 refine xX 14 dW h fun x1 h=> ?_
 obtain⟨r2,h3,h⟩:=bS h
 refine gQ (aR9 h3) ?_
 cases r2
 replace h:=CF h
 refine gW 16 (.ret (.d (D.b false))) ?_
 exact lb h
 replace h:=CG h
 refine gW 16 (.ret (.d (D.b true))) ?_
 exact lb h
 exact lb h) h
theorem aUp(h:Zh cK cV=some cG):AL Tryz.prog 108 [.d ((D.l dW) cK),.clo (.func 75) [] [.eptr (D.cells (AD.D cV))]] [] (dI cG) []:=by
 unfold Zh at h;apply g0 (o:=cG);refine gN 7 dW cK ?_;obtain⟨o3,h5,h⟩:=bS h;refine gl (aGy none h5) ?_;replace h:=AK h;rcases h with⟨o4,rfl,h⟩|⟨o5,rfl,h⟩
 exact lf h;exact lf h
theorem aRz(h:Qr cK cV=some d5):AL Tryz.prog 76 [.d ((D.l dW) cK),.clo (.func 75) [] [.eptr (D.cells (AD.D cV))]] [] (.d (D.b d5)) []:=by unfold Qr at h;apply g0 (o:=d5);obtain⟨r1,h1,h⟩:=bS h;refine gC 7 (aUp h1) ?_;exact lf h
theorem aSa(h:U2 cG cV=some d5):AL Tryz.prog 74 [.d (dW cG),.eptr (D.cells (AD.D cV))] [] (.d (D.b d5)) []:=by unfold U2 at h;apply g0 (o:=d5);obtain⟨r1,h1,h⟩:=bS h;refine gC 6 (aFv h1) ?_;exact lf h
def WN(s0:List Int)(s1:AD)(s7 s8:Int):St:=⟨sp 19 0 [sD 0 (D.l dW) s0,(1,.clo (.func 74) [] [.eptr (D.cells (AD.D s1))]),sI 7 s7,sI 8 s8],[],[]⟩
def WO(s0:List Int)(s1:AD)(s7:Int)(o:Unit⊕Int):Ex×St:=match o with
 | .inl o=>(.exit 0,⟨sp 19 0 [],[],[]⟩)
 | .inr o=>(.ret,⟨sp 19 0 [sI 4 o],[],[]⟩)
theorem aGz(rd:Option Nat)(h:aMh cK cV cG cH=some dV):Lq 108 rd 26 (WN cK cV cG cH) ((WO cK cV cG) dV):=
 lL (fun s:Int=>WN cK cV cG s) (WO cK cV cG) cH (fun cH o h=>by
 unfold Iu at h
 refine iB 9 h (fun h=> ?_) fun h=> ?_
 refine xX 14 dW h fun x1 h=> ?_
 obtain⟨r2,h3,h⟩:=bS h
 refine gQ (aSa h3) ?_
 cases r2
 replace h:=CF h
 refine gW 16 (.ret (.d (D.b false))) ?_
 exact lb h
 replace h:=CG h
 refine gW 16 (.ret (.d (D.b true))) ?_
 exact lb h
 exact lb h) h
theorem aUq(h:Zi cK cV=some cG):AL Tryz.prog 108 [.d ((D.l dW) cK),.clo (.func 74) [] [.eptr (D.cells (AD.D cV))]] [] (dI cG) []:=by
 unfold Zi at h;apply g0 (o:=cG);refine gN 7 dW cK ?_;obtain⟨o3,h5,h⟩:=bS h;refine gl (aGz none h5) ?_;replace h:=AK h;rcases h with⟨o4,rfl,h⟩|⟨o5,rfl,h⟩
 exact lf h;exact lf h
theorem aR0(h:Qs cK cV=some d5):AL Tryz.prog 76 [.d ((D.l dW) cK),.clo (.func 74) [] [.eptr (D.cells (AD.D cV))]] [] (.d (D.b d5)) []:=by unfold Qs at h;apply g0 (o:=d5);obtain⟨r1,h1,h⟩:=bS h;refine gC 7 (aUq h1) ?_;exact lf h
theorem aR1(h:Qt cV cK=some cG):AL Tryz.prog 42 [.d (AD.D cV),.d ((D.l dW) cK)] [] (dI cG) []:=by unfold Qt at h;apply g0 (o:=cG);refine gW 2 .frz ?_;obtain⟨r1,h1,h⟩:=bS h;refine gC 12 (aRz h1) ?_;refine iB 9 h (fun h=> ?_) fun h=> ?_;exact lf h;obtain⟨r2,h3,h⟩:=bS h;refine gC 17 (aR0 h3) ?_;refine iB 14 h (fun h=> ?_) fun h=> ?_;exact lf h;exact lf h
theorem aUv(h:Zy cV cU cG=some cH):AL Tryz.prog 12 [.d (AD.D cV),.d ((D.l X2.D) cU),.d (dW cG)] [] (dI cH) []:=by unfold Zy at h;apply g0 (o:=cH);obtain⟨r1,h1,h⟩:=bS h;refine gC 11 (aRm h1) ?_;obtain⟨r2,h2,h⟩:=bS h;refine gC 12 (aR1 h2) ?_;exact lf h
theorem aG5(h:Zp=some d5):AL Tryz.prog 9 [] [] (.d (D.b d5)) []:=by unfold Zp at h;apply g0 (o:=d5);refine gQ (An Xb.D ([Xb.mk ([115]:List UInt8) false true,Xb.mk ([116]:List UInt8) true false])) ?_;obtain⟨r1,h1,h⟩:=bS h;refine gC 7 (aMj h1) ?_;refine iB 9 h (fun h=> ?_) fun h=> ?_;obtain⟨r2,h3,h⟩:=bS h;refine gC 11 (aMj h3) ?_;refine iB 14 h (fun h=> ?_) fun h=> ?_;obtain⟨r3,h5,h⟩:=bS h;refine gC 16 (aSz h5) ?_;refine iB 19 h (fun h=> ?_) fun h=> ?_;obtain⟨r4,h7,h⟩:=bS h;refine gC 21 (aUv h7) ?_;exact lf h;exact lf h;exact lf h;exact lf h
theorem aR2(h:Qu cG cV d5=some dX):AL Tryz.prog 51 [.d (dW cG),.eptr (D.cells (AD.D cV)),.eptr (D.cells (D.b d5))] [] (.d (D.b dX)) []:=by unfold Qu at h;apply g0 (o:=dX);obtain⟨r1,h1,h⟩:=bS h;refine gC 7 (aFv h1) ?_;exact lf h
theorem aD0(rd:Option Nat)(us:List Value)(h:aLe cV d5 cK cG cH cI cT cJ cX dX dY dF dG dH=some dJ):Lq 39 rd 58346703 ⟨sp 84 0 [(3,.clo (.func 51) [] [.eptr (D.cells (AD.D cV)),.eptr (D.cells (D.b d5))]),bx 4,rx 8,rx 9,rx 10,sD 11 (D.l dU) cK,sI 12 cG,sD 14 dU cH,sD 15 dW cI,sD 44 (D.l dU) cT,sI 45 cJ,sI 46 cX,sD 64 D.b dX],[cL 4 AD.D dY,rW 8 32 1 dW dF,(9,.map dG.clk (MP.dl dW dW dG)),(10,.map dH.clk (MP.dl dW dU dH)),(997,.vals [] us)],[]⟩ (.normal,⟨sp 84 0 [(3,.clo (.func 51) [] [.eptr (D.cells (AD.D cV)),.eptr (D.cells (D.b d5))]),bx 4,rx 8,rx 9,rx 10,sD 11 (D.l dU) cK,sI 12 cG,sD 44 (D.l dU) cT,sI 45 cJ,sI 46 cX],[cL 4 AD.D dY,rW 8 32 1 dW dJ.1,(9,.map dJ.2.1.clk (MP.dl dW dW dJ.2.1)),(10,.map dJ.2.2.clk (MP.dl dW dU dJ.2.2)),(997,.vals [] us)],[]⟩):=by unfold aLe at h;apply g0 (o:=dJ);cases dX;replace h:=CF h;exact lp h;replace h:=CG h;refine gW 74 (.me (Ei 0 dG cI).clk (MP.dl dW dW (Ei 0 dG cI)) (dW (aVd 0 dG cI)) (Je 0 dG cI))<|gW 10067 (.mp (C8 dH cI cH).clk (MP.dl dW dU (C8 dH cI cH)))<|gW 79 (.rwl ((dF++[cI]).map dW)) ?_;obtain⟨h14,h⟩:=cS h;refine gQ h14.1<|gQ (AF dW h14.2) ?_;obtain⟨x7,h15,h⟩:=xS h;refine gG 72 (.el (dW x7)) (AG dW h15)<|gW 10075 (.mp (LE (Ei 0 dG cI) ((Je 0 dG cI:Nat):Int) x7).clk (MP.dl dW dW (LE (Ei 0 dG cI) ((Je 0 dG cI:Nat):Int) x7))) ?_;obtain⟨h16,h⟩:=cS h;refine gQ (XT (PG Tryz.underlying32) dW 0 dG cI h16) ?_;obtain⟨h17,h⟩:=cS h;refine gQ (XW dW dW (Ei 0 dG cI) ((Je 0 dG cI:Nat):Int) x7 h17)<|gQ (LD (PG Tryz.underlying32) dU dH cI cH)<|gQ (An dW [cI])<|gQ (An dW [cI]) ?_;obtain⟨h18,h⟩:=cS h;refine gQ (Au dW h18)<|gQ (At dW dF [cI]) ?_;exact lP h [.live [3,4,8,9,10,11,12,44,45,46],.keep [4,9,10,79,997],.ren 79 8,.sort]
theorem aDz(rd:Option Nat)(us:List Value)(h:aLd cV d5 cK cG cT cH cI dY dF dG dH=some dJ):Lq 39 rd 1823334 ⟨sp 84 0 [(3,.clo (.func 51) [] [.eptr (D.cells (AD.D cV)),.eptr (D.cells (D.b d5))]),bx 4,rx 8,rx 9,rx 10,sD 11 (D.l dU) cK,sI 12 cG,sD 44 (D.l dU) cT,sI 45 cH,sI 46 cI],[cL 4 AD.D dY,rW 8 32 1 dW dF,(9,.map dG.clk (MP.dl dW dW dG)),(10,.map dH.clk (MP.dl dW dU dH)),(997,.vals [] us)],[]⟩ (.normal,⟨sp 84 0 [(3,.clo (.func 51) [] [.eptr (D.cells (AD.D cV)),.eptr (D.cells (D.b d5))]),bx 4,rx 8,rx 9,rx 10,sD 11 (D.l dU) cK,sI 12 cG,sD 44 (D.l dU) cT,sI 45 cH,sI 46 cI],[cL 4 AD.D dY,rW 8 32 1 dW dJ.1,(9,.map dJ.2.1.clk (MP.dl dW dW dJ.2.1)),(10,.map dJ.2.2.clk (MP.dl dW dU dJ.2.2)),(997,.vals [] us)],[]⟩):=by unfold aLd at h;apply g0 (o:=dJ);refine xX 48 dU h fun x4 h=> ?_;obtain⟨h10,h⟩:=cS h;refine gQ h10.1<|gQ (AF dW h10.2) ?_;obtain⟨x5,h11,h⟩:=xS h;refine gG 54 (.el (dW x5)) (AG dW h11) ?_;obtain⟨r6,h12,h⟩:=bS h;refine gC 56 (aO2 h12)<|gG 60 (.mg (dW (DU 0 dG r6).1) (DU 0 dG r6).2) (LC (PG Tryz.underlying32) dW 0 dG r6) ?_;obtain⟨o8,h19,h⟩:=bS h;refine gl (aD0 rd us h19) ?_;exact lp h
def UR(us:List Value)(s3_1:AD)(s3_2:Bool)(s11:List Int)(s12:Int)(s44:List Int)(s45:Int)(w4:AD)(s46:Int)(w8:List Int)(w9 w10:MP Int Int):St:=⟨sp 84 0 [(3,.clo (.func 51) [] [.eptr (D.cells (AD.D s3_1)),.eptr (D.cells (D.b s3_2))]),bx 4,rx 8,rx 9,rx 10,sD 11 (D.l dU) s11,sI 12 s12,sD 44 (D.l dU) s44,sI 45 s45,sI 46 s46],[cL 4 AD.D w4,rW 8 32 1 dW w8,(9,.map w9.clk (MP.dl dW dW w9)),(10,.map w10.clk (MP.dl dW dU w10)),(997,.vals [] us)],[]⟩
def US(us:List Value)(s3_1:AD)(s3_2:Bool)(s11:List Int)(s12:Int)(s44:List Int)(s45:Int)(w4:AD)(o:(List Int×MP Int Int×MP Int Int)):Ex×St:=(.exit 2,⟨sp 84 0 [(3,.clo (.func 51) [] [.eptr (D.cells (AD.D s3_1)),.eptr (D.cells (D.b s3_2))]),bx 4,rx 8,rx 9,rx 10,sD 11 (D.l dU) s11,sI 12 s12],[cL 4 AD.D w4,rW 8 32 1 dW o.1,(9,.map o.2.1.clk (MP.dl dW dW o.2.1)),(10,.map o.2.2.clk (MP.dl dW dU o.2.2)),(997,.vals [] us)],[]⟩)
theorem aD2(rd:Option Nat)(us:List Value)(h:aLg cV d5 cK cG cT cH dY cI dF dG dH=some dJ):Lq 39 rd 113958 (UR us cV d5 cK cG cT cH dY cI dF dG dH) ((US us cV d5 cK cG cT cH dY) dJ):=
 lL (fun s:Int×List Int×MP Int Int×MP Int Int=>UR us cV d5 cK cG cT cH dY s.1 s.2.1 s.2.2.1 s.2.2.2) (US us cV d5 cK cG cT cH dY) (cI,dF,dG,dH) (fun⟨cI,dF,dG,dH⟩ o h=>by
 unfold UT at h
 refine iB 47 h (fun h=> ?_) fun h=> ?_
 obtain⟨o9,h20,h⟩:=bS h
 refine gl (aDz rd us h20) ?_
 exact lb h
 exact lb h) h
def UP(us:List Value)(s3_1:AD)(s3_2:Bool)(s11:List Int)(w4:AD)(s12:Int)(w8:List Int)(w9 w10:MP Int Int):St:=⟨sp 84 0 [(3,.clo (.func 51) [] [.eptr (D.cells (AD.D s3_1)),.eptr (D.cells (D.b s3_2))]),bx 4,rx 8,rx 9,rx 10,sD 11 (D.l dU) s11,sI 12 s12],[cL 4 AD.D w4,rW 8 32 1 dW w8,(9,.map w9.clk (MP.dl dW dW w9)),(10,.map w10.clk (MP.dl dW dU w10)),(997,.vals [] us)],[]⟩
def UQ(us:List Value)(s3_1:AD)(s3_2:Bool)(s11:List Int)(w4:AD)(o:(List Int×MP Int Int×MP Int Int)):Ex×St:=(.exit 0,⟨sp 84 0 [rx 8,rx 9,rx 10],[rW 8 32 1 dW o.1,(9,.map o.2.1.clk (MP.dl dW dW o.2.1)),(10,.map o.2.2.clk (MP.dl dW dU o.2.2)),(997,.vals [] us)],[]⟩)
theorem aD1(rd:Option Nat)(us:List Value)(h:aLf cV d5 cK dY cG cT dG dH=some dJ):Lq 39 rd 890 (UP us cV d5 cK dY cG cT dG dH) ((UQ us cV d5 cK dY) dJ):=
 lL (fun s:Int×List Int×MP Int Int×MP Int Int=>UP us cV d5 cK dY s.1 s.2.1 s.2.2.1 s.2.2.2) (UQ us cV d5 cK dY) (cG,cT,dG,dH) (fun⟨cG,cT,dG,dH⟩ o h=>by
 unfold Gr at h
 refine gN 30 dW cT ?_
 refine iB 31 h (fun h=> ?_) fun h=> ?_
 obtain⟨h3,h⟩:=cS h
 refine gQ h3.1<|gQ (AF dW h3.2) ?_
 obtain⟨x2,h4,h⟩:=xS h
 refine gG 38 (.el (dW x2)) (AG dW h4) ?_
 obtain⟨r3,h5,h⟩:=bS h
 refine gQ (aR2 h5) ?_
 cases r3
 replace h:=CF h
 refine gN 45 dU cK<|gW 39 (.ret (.d (D.b false))) ?_
 obtain⟨o10,h21,h⟩:=bS h
 refine gl (aD2 rd us h21) ?_
 exact lb h
 replace h:=CG h
 refine gW 39 (.ret (.d (D.b true)))<|gW 43 (.sl ((cT.take ((AA .add .i64 cG 1)).toNat).map dW)) ?_
 obtain⟨h7,h⟩:=cS h
 refine gQ h7.1<|gQ (aQc dW h7.2)<|gQ (aJg dW cT (AA .add .i64 cG 1)) ?_
 exact lB h [.live [8,9,10],.keep [9,10,43,997],.ren 43 8,.sort]
 exact lb h) h
theorem aS7(h:Xz cV cU cG dY d5=some dK):AL Tryz.prog 39 [.d (AD.D cV),.d ((D.l X2.D) cU),.d (dW cG),.clo (.func 51) [] [.eptr (D.cells (AD.D dY)),.eptr (D.cells (D.b d5))]] [] (.tup [.row 0,.row 1,.row 2]) [rW 0 32 1 dW dK.1,(1,.map dK.2.1.clk (MP.dl dW dW dK.2.1)),(2,.map dK.2.2.clk (MP.dl dW dU dK.2.2))]:=by unfold Xz at h;refine XG.call (ks:=[]) mixed fun us=> ?_;apply g0 (o:=dK);refine gW 22 .frz<|gW 10023 (.mp (C8 (EN:MP Int Int) cG cG).clk (MP.dl dW dW (C8 (EN:MP Int Int) cG cG))) ?_;obtain⟨r1,h1,h⟩:=bS h;refine gC 20 (aOx h1)<|gQ (An dW [cG])<|gQ (LD (PG Tryz.underlying32) dW (EN:MP Int Int) cG cG) ?_;obtain⟨o11,h22,h⟩:=bS h;refine gL [.live [3,4,8,9,10,11,12],.keep [4,22,23,27,997],.ren 22 8,.ren 23 9,.ren 27 10,.sort] (aD1 none us h22) ?_;exact lX h [.live [8,9,10],.keep [8,9,10,997],.ren 8 0,.ren 9 1,.ren 10 2,.sort]
def WA(us:List Value)(s2 s3:Int)(w0:List Int):St:=⟨sp 28 0 [rx 0,sI 2 s2,sI 3 s3],[rW 0 56 1 dU w0,(997,.vals [.row 0] us)],[]⟩
def WB(us:List Value)(o:(List Int)):Ex×St:=(.exit 0,⟨sp 28 0 [],[rW 0 56 1 dU o,(997,.vals [.row 0] us)],[]⟩)
theorem aGt(rd:Option Nat)(us:List Value)(h:aMc cG cH cK=some d4):Lq 53 rd 6 (WA us cG cH cK) ((WB us) d4):=
 lL (fun s:Int×Int×List Int=>WA us s.1 s.2.1 s.2.2) (WB us) (cG,cH,cK) (fun⟨cG,cH,cK⟩ o h=>by
 unfold Io at h
 refine iB 9 h (fun h=> ?_) fun h=> ?_
 obtain⟨h2,h⟩:=cS h
 refine gQ h2.1<|gQ (AF dU h2.2) ?_
 obtain⟨x1,h3,h⟩:=xS h
 refine gG 21 (.el (dU x1)) (AG dU h3)<|gW 10026 (.sl ((cK.set cG.toNat x1).map dU)) ?_
 obtain⟨h4,h⟩:=cS h
 refine gQ h4.1<|gQ (AF dU h4.2) ?_
 obtain⟨x2,h5,h⟩:=xS h
 refine gG 25 (.el (dU x2)) (AG dU h5)<|gW 10027 (.sl (((cK.set cG.toNat x1).set cH.toNat x2).map dU)) ?_
 obtain⟨h6,h⟩:=cS h
 refine gQ h6.1<|gQ (AF dU h6.2) ?_
 obtain⟨h7,h⟩:=cS h
 refine gQ (A8 dU h7)<|gQ (AS dU cK cG x1) ?_
 obtain⟨h8,h⟩:=cS h
 refine gQ h8.1<|gQ (AF dU h8.2) ?_
 obtain⟨h9,h⟩:=cS h
 refine gQ (A8 dU h9)<|gQ (AS dU (cK.set cG.toNat x1) cH x2) ?_
 exact lb h
 exact lb h) h
theorem aUk(h:Zc cK=some cT):AL Tryz.prog 53 [.row 0] [rW 0 56 1 dU cK] (.tup []) [rW 0 56 1 dU cT]:=by unfold Zc at h;refine XG.call (ks:=[0]) mixed fun us=> ?_;apply g0 (o:=cT);refine gN 5 dU cK ?_;obtain⟨o3,h10,h⟩:=bS h;refine gl (aGt none us h10) ?_;exact lX h (lv [] [0,997])
def VW(s2:Int)(w11 w12:MP Int Int)(s13:Int)(w14:List Int):St:=⟨sp 50 0 [sD 2 dW s2,rx 11,rx 12,sD 13 dW s13,rx 14],[(11,.map w11.clk (MP.dl dW dW w11)),(12,.map w12.clk (MP.dl dW dU w12)),rW 14 56 1 dU w14],[]⟩
def VX(s2:Int)(w11 w12:MP Int Int)(o:(List Int)):Ex×St:=(.exit 0,⟨sp 50 0 [rx 14],[rW 14 56 1 dU o],[]⟩)
theorem aF5(rd:Option Nat)(h:VV cG dG dH cH cK=some d4):Lq 21 rd 252 (VW cG dG dH cH cK) ((VX cG dG dH) d4):=
 lL (fun s:Int×List Int=>VW cG dG dH s.1 s.2) (VX cG dG dH) (cH,cK) (fun⟨cH,cK⟩ o h=>by
 unfold Kh at h
 refine iB 37 h (fun h=> ?_) fun h=> ?_
 refine gG 41 (.mg (dU (DU 0 dH cH).1) (DU 0 dH cH).2) (LC (PG Tryz.underlying32) dU 0 dH cH)<|gQ (An dU [(DU 0 dH cH).1])<|gG 43 (.rwl ((cK++[(DU 0 dH cH).1]).map dU)) (An dU [(DU 0 dH cH).1])<|gW 46 (.mg (dW (DU 0 dG cH).1) (DU 0 dG cH).2) ?_
 obtain⟨h7,h⟩:=cS h
 refine gQ (Au dU h7)<|gQ (At dU cK [(DU 0 dH cH).1])<|gQ (LC (PG Tryz.underlying32) dW 0 dG cH) ?_
 exact lB h [.live [2,11,12,13,14],.keep [11,12,43],.ren 43 14,.sort]
 exact lb h) h
theorem aTw(h:Yr cV cU cG d5=some e9):AL Tryz.prog 21 [.d (AD.D cV),.d ((D.l X2.D) cU),.d (dW cG),.d (D.b d5)] [] (.tup [.d ((D.l dU) e9.1),.d (D.b e9.2)]) []:=by unfold Yr at h;apply g0 (o:=e9);refine gW 4 .frz<|gW 7 .frz ?_;obtain⟨r1,h1,h⟩:=bS h;refine gG 20 (.cx false [] [(0,20),(1,427),(2,434)] (.tup [.row 0,.row 1,.row 2]) [rW 0 32 1 dW r1.1,(1,.map r1.2.1.clk (MP.dl dW dW r1.2.1)),(2,.map r1.2.2.clk (MP.dl dW dU r1.2.2))]) (aS7 h1)<|gN 26 dW r1.1 ?_;obtain⟨h2,h⟩:=cS h;refine gQ h2.1<|gQ (AF dW h2.2) ?_;obtain⟨x2,h3,h⟩:=xS h;refine gG 29 (.el (dW x2)) (AG dW h3) ?_;obtain⟨r3,h4,h⟩:=bS h;refine gC 32 (aFv h4) ?_;refine iB 34 h (fun h=> ?_) fun h=> ?_;exact lf h;obtain⟨o4,h8,h⟩:=bS h;refine gL [.live [2,11,12,13,14],.keep [427,434],.ren 427 11,.ren 434 12,.nilw 14 14 56 1,.sort] (aF5 none h8) ?_;obtain⟨r5,h9,h⟩:=bS h;refine gG 48 (.cx false [(0,14)] [] (.tup []) [rW 0 56 1 dU r5]) (aUk h9) ?_;exact lF h [.frz 14]
def U5(s0:List X0)(w3:X0)(s5:Int):St:=⟨sp 48 0 [sD 0 (D.l X0.D) s0,bx 3,sI 5 s5],[cL 3 X0.D w3],[]⟩
def U6(s0:List X0)(w3:X0)(o:Int):Ex×St:=(.exit 0,⟨sp 48 0 [sD 0 (D.l X0.D) s0,bx 3,sI 5 o],[cL 3 X0.D w3],[]⟩)
theorem aFf(rd:Option Nat)(h:aLp eA eB cG=some cH):Lq 119 rd 28 (U5 eA eB cG) ((U6 eA eB) cH):=
 lL (fun s:Int=>U5 eA eB s) (U6 eA eB) cG (fun cG o h=>by
 unfold IT at h
 refine iB 11 h (fun h=> ?_) fun h=> ?_
 refine xX 16 X0.D h fun x1 h=> ?_
 obtain⟨r2,h3,h⟩:=bS h
 refine gQ (aMk h3) ?_
 cases r2
 replace h:=CF h
 refine gW 18 (.ret (.d (D.b false))) ?_
 exact lb h
 replace h:=CG h
 refine gW 18 (.ret (.d (D.b true))) ?_
 exact lb h
 exact lb h) h
theorem P8(h:Yd eA eB=some eC):AL Tryz.prog 119 [.d ((D.l X0.D) eA),.d (X0.D eB)] [] (.d ((D.l X0.D) eC)) []:=by unfold Yd at h;apply g0 (o:=eC);refine gN 8 X0.D eA ?_;obtain⟨o3,h5,h⟩:=bS h;refine gl (aFf none h5) ?_;refine iB 24 h (fun h=> ?_) fun h=> ?_;refine xX 28 X0.D h fun x4 h=> ?_;refine iB 32 h (fun h=> ?_) fun h=> ?_;exact lf h;refine gQ (An X0.D ([]:List X0))<|gW 37 (.sl ((sub eA 0 o3).map X0.D))<|gW 38 (.sl ((([]:List X0)++(sub eA 0 o3)).map X0.D))<|gW 42 (.sl (((([]:List X0)++(sub eA 0 o3))++[eB]).map X0.D))<|gW 46 (.sl ((sub eA o3 (eA.length:Int)).map X0.D))<|gW 47 (.sl ((((([]:List X0)++(sub eA 0 o3))++[eB])++(sub eA o3 (eA.length:Int))).map X0.D)) ?_;obtain⟨h9,h⟩:=cS h;refine gQ (F2 X0.D h9)<|gQ (An X0.D (sub eA 0 o3)) ?_;obtain⟨h10,h⟩:=cS h;refine gQ (Au X0.D h10)<|gQ (At X0.D ([]:List X0) (sub eA 0 o3))<|gQ (An X0.D [eB])<|gQ (An X0.D [eB]) ?_;obtain⟨h11,h⟩:=cS h;refine gQ (Au X0.D h11)<|gQ (At X0.D (([]:List X0)++(sub eA 0 o3)) [eB]) ?_;obtain⟨h12,h⟩:=cS h;refine gQ (F1 X0.D h12)<|gQ (An X0.D (sub eA o3 (eA.length:Int))) ?_;obtain⟨h13,h⟩:=cS h;refine gQ (Au X0.D h13)<|gQ (At X0.D ((([]:List X0)++(sub eA 0 o3))++[eB]) (sub eA o3 (eA.length:Int))) ?_;exact lf h;refine gQ (An X0.D ([]:List X0))<|gW 37 (.sl ((sub eA 0 o3).map X0.D))<|gW 38 (.sl ((([]:List X0)++(sub eA 0 o3)).map X0.D))<|gW 42 (.sl (((([]:List X0)++(sub eA 0 o3))++[eB]).map X0.D))<|gW 46 (.sl ((sub eA o3 (eA.length:Int)).map X0.D))<|gW 47 (.sl ((((([]:List X0)++(sub eA 0 o3))++[eB])++(sub eA o3 (eA.length:Int))).map X0.D)) ?_;obtain⟨h14,h⟩:=cS h;refine gQ (F2 X0.D h14)<|gQ (An X0.D (sub eA 0 o3)) ?_;obtain⟨h15,h⟩:=cS h;refine gQ (Au X0.D h15)<|gQ (At X0.D ([]:List X0) (sub eA 0 o3))<|gQ (An X0.D [eB])<|gQ (An X0.D [eB]) ?_;obtain⟨h16,h⟩:=cS h;refine gQ (Au X0.D h16)<|gQ (At X0.D (([]:List X0)++(sub eA 0 o3)) [eB]) ?_;obtain⟨h17,h⟩:=cS h;refine gQ (F1 X0.D h17)<|gQ (An X0.D (sub eA o3 (eA.length:Int))) ?_;obtain⟨h18,h⟩:=cS h;refine gQ (Au X0.D h18)<|gQ (At X0.D ((([]:List X0)++(sub eA 0 o3))++[eB]) (sub eA o3 (eA.length:Int))) ?_;exact lf h
theorem aB8(rd:Option Nat)(h:TK cG d5 cV=some eE):Lq 118 rd 29 ⟨sp 56 0 [sI 1 cG,bx 2,(5,.nil),sD 10 D.b d5],[cL 2 AD.D cV],[]⟩ (.normal,⟨sp 56 0 [sI 1 cG,bx 2,rx 5],[cL 2 AD.D cV,(5,.row 62 4 (eE.map X0.D))],[]⟩):=by unfold TK at h;apply g0 (o:=eE);cases d5;replace h:=CF h;exact lP h [.live [1,2,5],.keep [2],.nil 5 5 62 4,.sort];replace h:=CG h;refine gQ (An X0.D ([X0.mk 3 0 ([]:List UInt8) false,X0.mk 3 0 ([]:List UInt8) true])) ?_;exact lP h [.live [1,2,5],.keep [2,13],.ren 13 5,.sort]
theorem OV(rd:Option Nat)(h:TL cG eA cH cI d5 cV eF=some eE):Lq 118 rd 500883 ⟨sp 56 0 [sI 1 cG,bx 2,sD 5 (D.l X0.D) eA,sI 6 cH,sI 7 cI,bx 8,sD 50 D.b d5],[cL 2 AD.D cV,cL 8 CH.D eF],[]⟩ (.normal,⟨sp 56 0 [sI 1 cG,bx 2,sD 5 (D.l X0.D) eE,sI 6 cH,sI 7 cI],[cL 2 AD.D cV],[]⟩):=by unfold TL at h;apply g0 (o:=eE);cases d5;replace h:=CF h;exact lp h;replace h:=CG h;obtain⟨r12,h20,h⟩:=bS h;refine gC 54 (P8 h20) ?_;exact lp h
def aKw(s1:Int)(s5:List X0)(s6 s7:Int)(w2:AD):St:=⟨sp 56 0 [sI 1 s1,bx 2,sD 5 (D.l X0.D) s5,sI 6 s6,sI 7 s7],[cL 2 AD.D w2],[]⟩
end Go.Ac
