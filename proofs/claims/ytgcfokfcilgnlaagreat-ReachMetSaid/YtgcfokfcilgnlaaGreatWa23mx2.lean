/- Own work, printed: the functions compute these. -/
import Derived.Test.YtgcfokfcilgnlaaGreatWa23mx1
set_option linter.unusedVariables false
set_option linter.unusedSimpArgs false
namespace Go.Ac
open Go.Proofs
variable {cG cH cI cJ cX d6 d7 d9 dA dD:Int}
variable {cK cT dE:List Int}
variable {cM:(Int×List Int)⊕Bool}
variable {cN:(List Int)⊕(Bool×List Int)}
variable {cO:Bool×List Int}
variable {cP:(Int×List Int)}
variable {cQ:Int×List Int}
variable {cR:Int×Bool×List Int}
variable {cU:List X2}
variable {cV:AD}
variable {cW cY:List (Int×Bool)}
variable {cZ:(List (Int×Bool))}
variable {d3:(List Int)}
variable {d4:Bool}
variable {d5:List Xc}
variable {d8:List Xd}
variable {dB:Xc}
variable {dC:Xd}
variable {dF dG:MP Int Int}
variable {dH:(List Int×MP Int Int×MP Int Int)}
variable {dJ:List Int×MP Int Int×MP Int Int}
variable {dK:(Int×List Int)⊕(Unit⊕Unit)}
variable {dL:(List Int)⊕(List Int)}
variable {dM:(List Int×Int)}
variable {dN:Int×Int×Int}
variable {dO:Int×Int}
variable {dP:(Int×Int×Int×Int)}
variable {dQ:(Int×Int)}
variable {dR:Unit⊕Unit}
variable {dS:Unit⊕Int}
variable {dV dY eB:List X0}
variable {dX eC eE:X0}
variable {e9:(List X0)}
variable {eA:BW}
theorem aB6(rd:Option Nat)(us:List Value)(h:QA cG cH cI cJ cK=some cM):Lq 160 rd 466 ⟨sp 133 0 [rx 0,sI 1 cG,sI 2 cH,sI 7 cI,sI 8 cJ],[rW 0 56 1 dU cK,(997,.vals [.row 0] us)],[]⟩ (match (generalizing:=false) cM with
 | .inl cM=>(.normal,⟨sp 133 0 [rx 0,sI 1 cG,sI 2 cH,sI 7 cM.1,sI 8 cJ],[rW 0 56 1 dU cM.2,(997,.vals [.row 0] us)],[]⟩)
 | .inr cM=>(.ret,⟨sp 133 0 [sD 6 D.b cM],[rW 0 56 1 dU cK,(997,.vals [.row 0] us)],[]⟩)):=by
 unfold QA at h
 apply g0 (o:=cM)
 obtain⟨o4,h9,h⟩:=bS h
 refine gl (aCa rd us h9) ?_
 refine iB 37 h (fun h=>?_) fun h=>?_
 exact lp h
 refine iB 41 h (fun h=>?_) fun h=>?_
 exact lp h
 obtain⟨h12,h⟩:=cS h
 refine gQ h12.1<|gQ (AF dU h12.2) ?_
 obtain⟨x5,h13,h⟩:=xS h
 refine gG 51 (.el (dU x5)) (AH dU h13)<|gW 10056 (.sl ((cK.set o4.toNat x5).map dU)) ?_
 obtain⟨h14,h⟩:=cS h
 refine gQ h14.1<|gQ (AF dU h14.2) ?_
 obtain⟨x6,h15,h⟩:=xS h
 refine gG 55 (.el (dU x6)) (AH dU h15)<|gW 10057 (.sl (((cK.set o4.toNat x5).set (AA .sub .i64 o4 1).toNat x6).map dU)) ?_
 obtain⟨h16,h⟩:=cS h
 refine gQ h16.1<|gQ (AF dU h16.2) ?_
 obtain⟨h17,h⟩:=cS h
 refine gQ (A9 dU h17)<|gQ (AT dU cK o4 x5) ?_
 obtain⟨h18,h⟩:=cS h
 refine gQ h18.1<|gQ (AF dU h18.2) ?_
 obtain⟨h19,h⟩:=cS h
 refine gQ (A9 dU h19)<|gQ (AT dU (cK.set o4.toNat x5) (AA .sub .i64 o4 1) x6) ?_
 obtain⟨o13,h37,h⟩:=bS h
 refine gl (aB7 rd us h37) ?_
 obtain⟨o20,h55,h⟩:=bS h
 refine gl (aB8 rd us h55) ?_
 exact lp h
def SH(us:List Value)(s1 s2:Int)(s7 s8:Int)(w0:List Int):St:=⟨sp 133 0 [rx 0,sI 1 s1,sI 2 s2,sI 7 s7,sI 8 s8],[rW 0 56 1 dU w0,(997,.vals [.row 0] us)],[]⟩
def SI(us:List Value)(s1 s2:Int)(o:(List Int)⊕(Bool×List Int)):Ex×St:=match o with
 | .inl o=>(.exit 0,⟨sp 133 0 [],[rW 0 56 1 dU o,(997,.vals [.row 0] us)],[]⟩)
 | .inr o=>(.ret,⟨sp 133 0 [sD 6 D.b o.1],[rW 0 56 1 dU o.2,(997,.vals [.row 0] us)],[]⟩)
theorem aB9(rd:Option Nat)(us:List Value)(h:NS cG cH cI cJ cK=some cN):Lq 160 rd 58 (SH us cG cH cI cJ cK) ((SI us cG cH) cN):=
 lL (fun s:Int×Int×List Int=>SH us cG cH s.1 s.2.1 s.2.2) (SI us cG cH) (cI,cJ,cK) (fun⟨cI,cJ,cK⟩ o h=>by
 unfold GV at h
 refine iB 14 h (fun h=>?_) fun h=>?_
 obtain⟨o21,h56,h⟩:=bS h
 refine gl (aB6 rd us h56) ?_
 replace h:=AK h
 rcases h with⟨o22,rfl,h⟩|⟨o23,rfl,h⟩
 exact lb h
 exact lb h
 exact lb h) h
theorem aU8(h:X5 cG cH cK=some cO):AL Tryz.prog 160 [.row 0,dI cG,dI cH] [rW 0 56 1 dU cK] (.d (D.b cO.1)) [rW 0 56 1 dU cO.2]:=by
 unfold X5 at h;refine XG.call (ks:=[0]) mixed fun us=>?_;apply g0 (o:=cO);obtain⟨o24,h57,h⟩:=bS h;refine gl (aB9 none us h57) ?_;replace h:=AK h;rcases h with⟨o25,rfl,h⟩|⟨o26,rfl,h⟩
 exact lX h (lv [6] [0,997]);exact lX h (lv [6] [0,997])
def TM(us:List Value)(s1 s10:Int)(w0:List Int)(s9:Int):St:=⟨sp 84 0 [rx 0,sI 1 s1,sI 9 s9,sI 10 s10],[rW 0 56 1 dU w0,(997,.vals [.row 0] us)],[]⟩
def TN(us:List Value)(s1 s10:Int)(w0:List Int)(o:Int):Ex×St:=(.exit 2,⟨sp 84 0 [rx 0,sI 1 s1,sI 9 o,sI 10 s10],[rW 0 56 1 dU w0,(997,.vals [.row 0] us)],[]⟩)
theorem aDc(rd:Option Nat)(us:List Value)(h:QI cG cH cK cI=some cJ):Lq 162 rd 960 (TM us cG cH cK cI) ((TN us cG cH cK) cJ):=
 lL (fun s:Int=>TM us cG cH cK s) (TN us cG cH cK) cI (fun cI o h=>by
 unfold Gb at h
 refine iB 32 h (fun h=>?_) fun h=>?_
 obtain⟨h10,h⟩:=cS h
 refine gQ h10.1<|gQ (AF dU h10.2) ?_
 obtain⟨x3,h11,h⟩:=xS h
 refine gG 36 (.el (dU x3)) (AH dU h11) ?_
 obtain⟨h12,h⟩:=cS h
 refine gQ h12.1<|gQ (AF dU h12.2) ?_
 obtain⟨x4,h13,h⟩:=xS h
 refine gG 40 (.el (dU x4)) (AH dU h13) ?_
 obtain⟨r5,h14,h⟩:=bS h
 refine gC 41 (E4 h14) ?_
 refine iB 43 h (fun h=>?_) fun h=>?_
 exact lb h
 exact lb h
 exact lb h) h
def TO(us:List Value)(s1 s9:Int)(w0:List Int)(s10:Int):St:=⟨sp 84 0 [rx 0,sI 1 s1,sI 9 s9,sI 10 s10],[rW 0 56 1 dU w0,(997,.vals [.row 0] us)],[]⟩
def TP(us:List Value)(s1 s9:Int)(w0:List Int)(o:Int):Ex×St:=(.exit 4,⟨sp 84 0 [rx 0,sI 1 s1,sI 9 s9,sI 10 o],[rW 0 56 1 dU w0,(997,.vals [.row 0] us)],[]⟩)
theorem aDd(rd:Option Nat)(us:List Value)(h:QJ cG cH cK cI=some cJ):Lq 162 rd 1924 (TO us cG cH cK cI) ((TP us cG cH cK) cJ):=
 lL (fun s:Int=>TO us cG cH cK s) (TP us cG cH cK) cI (fun cI o h=>by
 unfold Gc at h
 refine iB 49 h (fun h=>?_) fun h=>?_
 obtain⟨h18,h⟩:=cS h
 refine gQ h18.1<|gQ (AF dU h18.2) ?_
 obtain⟨x7,h19,h⟩:=xS h
 refine gG 53 (.el (dU x7)) (AH dU h19) ?_
 obtain⟨h20,h⟩:=cS h
 refine gQ h20.1<|gQ (AF dU h20.2) ?_
 obtain⟨x8,h21,h⟩:=xS h
 refine gG 57 (.el (dU x8)) (AH dU h21) ?_
 obtain⟨r9,h22,h⟩:=bS h
 refine gQ (E4 h22) ?_
 cases r9
 replace h:=By h
 refine gW 58 (.ret (.d (D.b false))) ?_
 exact lb h
 replace h:=Bz h
 refine gW 58 (.ret (.d (D.b true))) ?_
 exact lb h
 exact lb h) h
def TK(us:List Value)(s1 s9 s10:Int)(w0:List Int):St:=⟨sp 84 0 [rx 0,sI 1 s1,sI 9 s9,sI 10 s10],[rW 0 56 1 dU w0,(997,.vals [.row 0] us)],[]⟩
def TL(us:List Value)(s1:Int)(o:(Int×List Int)):Ex×St:=(.exit 0,⟨sp 84 0 [sI 9 o.1],[rW 0 56 1 dU o.2,(997,.vals [.row 0] us)],[]⟩)
theorem aDb(rd:Option Nat)(us:List Value)(h:QH cG cH cI cK=some cP):Lq 162 rd 60 (TK us cG cH cI cK) ((TL us cG) cP):=
 lL (fun s:Int×Int×List Int=>TK us cG s.1 s.2.1 s.2.2) (TL us cG) (cH,cI,cK) (fun⟨cH,cI,cK⟩ o h=>by
 unfold H7 at h
 obtain⟨o6,h16,h⟩:=bS h
 refine gl (aDc rd us h16) ?_
 obtain⟨o10,h24,h⟩:=bS h
 refine gl (aDd rd us h24) ?_
 refine iB 64 h (fun h=>?_) fun h=>?_
 exact lb h
 obtain⟨h26,h⟩:=cS h
 refine gQ h26.1<|gQ (AF dU h26.2) ?_
 obtain⟨x11,h27,h⟩:=xS h
 refine gG 72 (.el (dU x11)) (AH dU h27)<|gW 10077 (.sl ((cK.set o6.toNat x11).map dU)) ?_
 obtain⟨h28,h⟩:=cS h
 refine gQ h28.1<|gQ (AF dU h28.2) ?_
 obtain⟨x12,h29,h⟩:=xS h
 refine gG 76 (.el (dU x12)) (AH dU h29)<|gW 10078 (.sl (((cK.set o6.toNat x11).set o10.toNat x12).map dU)) ?_
 obtain⟨h30,h⟩:=cS h
 refine gQ h30.1<|gQ (AF dU h30.2) ?_
 obtain⟨h31,h⟩:=cS h
 refine gQ (A9 dU h31)<|gQ (AT dU cK o6 x11) ?_
 obtain⟨h32,h⟩:=cS h
 refine gQ h32.1<|gQ (AF dU h32.2) ?_
 obtain⟨h33,h⟩:=cS h
 refine gQ (A9 dU h33)<|gQ (AT dU (cK.set o6.toNat x11) o10 x12) ?_
 exact lb h) h
theorem aM4(h:Xf cG cH cI cK=some cQ):AL Tryz.prog 162 [.row 0,dI cG,dI cH,dI cI] [rW 0 56 1 dU cK] (dI cQ.1) [rW 0 56 1 dU cQ.2]:=by unfold Xf at h;refine XG.call (ks:=[0]) mixed fun us=>?_;apply g0 (o:=cQ);obtain⟨h1,h⟩:=cS h;refine gQ h1.1<|gQ (AF dU h1.2) ?_;obtain⟨x1,h2,h⟩:=xS h;refine gG 18 (.el (dU x1)) (AH dU h2)<|gW 10023 (.sl ((cK.set cG.toNat x1).map dU)) ?_;obtain⟨h3,h⟩:=cS h;refine gQ h3.1<|gQ (AF dU h3.2) ?_;obtain⟨x2,h4,h⟩:=xS h;refine gG 22 (.el (dU x2)) (AH dU h4)<|gW 10024 (.sl (((cK.set cG.toNat x1).set cI.toNat x2).map dU)) ?_;obtain⟨h5,h⟩:=cS h;refine gQ h5.1<|gQ (AF dU h5.2) ?_;obtain⟨h6,h⟩:=cS h;refine gQ (A9 dU h6)<|gQ (AT dU cK cG x1) ?_;obtain⟨h7,h⟩:=cS h;refine gQ h7.1<|gQ (AF dU h7.2) ?_;obtain⟨h8,h⟩:=cS h;refine gQ (A9 dU h8)<|gQ (AT dU (cK.set cG.toNat x1) cI x2) ?_;obtain⟨o13,h34,h⟩:=bS h;refine gl (aDb none us h34) ?_;exact lX h (lv [8] [0,997])
def SP(us:List Value)(s1 s11:Int)(w0:List Int)(s10:Int):St:=⟨sp 168 0 [rx 0,sI 1 s1,sI 10 s10,sI 11 s11],[rW 0 56 1 dU w0,(997,.vals [.row 0] us)],[]⟩
def SQ(us:List Value)(s1 s11:Int)(w0:List Int)(o:Int):Ex×St:=(.exit 0,⟨sp 168 0 [rx 0,sI 1 s1,sI 10 o,sI 11 s11],[rW 0 56 1 dU w0,(997,.vals [.row 0] us)],[]⟩)
theorem aCd(rd:Option Nat)(us:List Value)(h:NT cG cH cK cI=some cJ):Lq 163 rd 60 (SP us cG cH cK cI) ((SQ us cG cH cK) cJ):=
 lL (fun s:Int=>SP us cG cH cK s) (SQ us cG cH cK) cI (fun cI o h=>by
 unfold GZ at h
 refine iB 33 h (fun h=>?_) fun h=>?_
 obtain⟨h10,h⟩:=cS h
 refine gQ h10.1<|gQ (AF dU h10.2) ?_
 obtain⟨x3,h11,h⟩:=xS h
 refine gG 37 (.el (dU x3)) (AH dU h11) ?_
 obtain⟨h12,h⟩:=cS h
 refine gQ h12.1<|gQ (AF dU h12.2) ?_
 obtain⟨x4,h13,h⟩:=xS h
 refine gG 41 (.el (dU x4)) (AH dU h13) ?_
 obtain⟨r5,h14,h⟩:=bS h
 refine gQ (E4 h14) ?_
 cases r5
 replace h:=By h
 refine gW 42 (.ret (.d (D.b false))) ?_
 exact lb h
 replace h:=Bz h
 refine gW 42 (.ret (.d (D.b true))) ?_
 exact lb h
 exact lb h) h
def SR(us:List Value)(s1 s10:Int)(w0:List Int)(s11:Int):St:=⟨sp 168 0 [rx 0,sI 1 s1,sI 10 s10,sI 11 s11],[rW 0 56 1 dU w0,(997,.vals [.row 0] us)],[]⟩
def SS(us:List Value)(s1 s10:Int)(w0:List Int)(o:Int):Ex×St:=(.exit 2,⟨sp 168 0 [rx 0,sI 1 s1,sI 10 s10,sI 11 o],[rW 0 56 1 dU w0,(997,.vals [.row 0] us)],[]⟩)
theorem aCe(rd:Option Nat)(us:List Value)(h:NU cG cH cK cI=some cJ):Lq 163 rd 124 (SR us cG cH cK cI) ((SS us cG cH cK) cJ):=
 lL (fun s:Int=>SR us cG cH cK s) (SS us cG cH cK) cI (fun cI o h=>by
 unfold Ga at h
 refine iB 49 h (fun h=>?_) fun h=>?_
 obtain⟨h18,h⟩:=cS h
 refine gQ h18.1<|gQ (AF dU h18.2) ?_
 obtain⟨x7,h19,h⟩:=xS h
 refine gG 53 (.el (dU x7)) (AH dU h19) ?_
 obtain⟨h20,h⟩:=cS h
 refine gQ h20.1<|gQ (AF dU h20.2) ?_
 obtain⟨x8,h21,h⟩:=xS h
 refine gG 57 (.el (dU x8)) (AH dU h21) ?_
 obtain⟨r9,h22,h⟩:=bS h
 refine gC 58 (E4 h22) ?_
 refine iB 60 h (fun h=>?_) fun h=>?_
 exact lb h
 exact lb h
 exact lb h) h
def SX(us:List Value)(s1 s11:Int)(w0:List Int)(s10:Int):St:=⟨sp 168 0 [rx 0,sI 1 s1,sI 10 s10,sI 11 s11],[rW 0 56 1 dU w0,(997,.vals [.row 0] us)],[]⟩
def SY(us:List Value)(s1 s11:Int)(w0:List Int)(o:Int):Ex×St:=(.exit 6,⟨sp 168 0 [rx 0,sI 1 s1,sI 10 o,sI 11 s11],[rW 0 56 1 dU w0,(997,.vals [.row 0] us)],[]⟩)
theorem aCi(rd:Option Nat)(us:List Value)(h:aCh cG cH cK cI=some cJ):Lq 163 rd 65472 (SX us cG cH cK cI) ((SY us cG cH cK) cJ):=
 lL (fun s:Int=>SX us cG cH cK s) (SY us cG cH cK) cI (fun cI o h=>by
 unfold NV at h
 refine iB 102 h (fun h=>?_) fun h=>?_
 obtain⟨h43,h⟩:=cS h
 refine gQ h43.1<|gQ (AF dU h43.2) ?_
 obtain⟨x15,h44,h⟩:=xS h
 refine gG 106 (.el (dU x15)) (AH dU h44) ?_
 obtain⟨h45,h⟩:=cS h
 refine gQ h45.1<|gQ (AF dU h45.2) ?_
 obtain⟨x16,h46,h⟩:=xS h
 refine gG 110 (.el (dU x16)) (AH dU h46) ?_
 obtain⟨r17,h47,h⟩:=bS h
 refine gQ (E4 h47) ?_
 cases r17
 replace h:=By h
 refine gW 111 (.ret (.d (D.b false))) ?_
 exact lb h
 replace h:=Bz h
 refine gW 111 (.ret (.d (D.b true))) ?_
 exact lb h
 exact lb h) h
def SZ(us:List Value)(s1 s10:Int)(w0:List Int)(s11:Int):St:=⟨sp 168 0 [rx 0,sI 1 s1,sI 10 s10,sI 11 s11],[rW 0 56 1 dU w0,(997,.vals [.row 0] us)],[]⟩
def Sa(us:List Value)(s1 s10:Int)(w0:List Int)(o:Int):Ex×St:=(.exit 8,⟨sp 168 0 [rx 0,sI 1 s1,sI 10 s10,sI 11 o],[rW 0 56 1 dU w0,(997,.vals [.row 0] us)],[]⟩)
theorem aCk(rd:Option Nat)(us:List Value)(h:aCj cG cH cK cI=some cJ):Lq 163 rd 130948 (SZ us cG cH cK cI) ((Sa us cG cH cK) cJ):=
 lL (fun s:Int=>SZ us cG cH cK s) (Sa us cG cH cK) cI (fun cI o h=>by
 unfold NW at h
 refine iB 118 h (fun h=>?_) fun h=>?_
 obtain⟨h51,h⟩:=cS h
 refine gQ h51.1<|gQ (AF dU h51.2) ?_
 obtain⟨x19,h52,h⟩:=xS h
 refine gG 122 (.el (dU x19)) (AH dU h52) ?_
 obtain⟨h53,h⟩:=cS h
 refine gQ h53.1<|gQ (AF dU h53.2) ?_
 obtain⟨x20,h54,h⟩:=xS h
 refine gG 126 (.el (dU x20)) (AH dU h54) ?_
 obtain⟨r21,h55,h⟩:=bS h
 refine gC 127 (E4 h55) ?_
 refine iB 129 h (fun h=>?_) fun h=>?_
 exact lb h
 exact lb h
 exact lb h) h
def ST(us:List Value)(s1 s10 s11:Int)(w0:List Int):St:=⟨sp 168 0 [rx 0,sI 1 s1,sI 10 s10,sI 11 s11],[rW 0 56 1 dU w0,(997,.vals [.row 0] us)],[]⟩
def SU(us:List Value)(s1:Int)(o:(Int×List Int)):Ex×St:=(.exit 4,⟨sp 168 0 [rx 0,sI 1 s1,sI 11 o.1],[rW 0 56 1 dU o.2,(997,.vals [.row 0] us)],[]⟩)
theorem aCg(rd:Option Nat)(us:List Value)(h:QE cG cH cI cK=some cP):Lq 163 rd 4092 (ST us cG cH cI cK) ((SU us cG) cP):=
 lL (fun s:Int×Int×List Int=>ST us cG s.1 s.2.1 s.2.2) (SU us cG) (cH,cI,cK) (fun⟨cH,cI,cK⟩ o h=>by
 unfold Hm at h
 obtain⟨o18,h49,h⟩:=bS h
 refine gl (aCi rd us h49) ?_
 obtain⟨o22,h57,h⟩:=bS h
 refine gl (aCk rd us h57) ?_
 refine iB 134 h (fun h=>?_) fun h=>?_
 exact lb h
 obtain⟨h59,h⟩:=cS h
 refine gQ h59.1<|gQ (AF dU h59.2) ?_
 obtain⟨x23,h60,h⟩:=xS h
 refine gG 142 (.el (dU x23)) (AH dU h60)<|gW 10147 (.sl ((cK.set o18.toNat x23).map dU)) ?_
 obtain⟨h61,h⟩:=cS h
 refine gQ h61.1<|gQ (AF dU h61.2) ?_
 obtain⟨x24,h62,h⟩:=xS h
 refine gG 146 (.el (dU x24)) (AH dU h62)<|gW 10148 (.sl (((cK.set o18.toNat x23).set o22.toNat x24).map dU)) ?_
 obtain⟨h63,h⟩:=cS h
 refine gQ h63.1<|gQ (AF dU h63.2) ?_
 obtain⟨h64,h⟩:=cS h
 refine gQ (A9 dU h64)<|gQ (AT dU cK o18 x23) ?_
 obtain⟨h65,h⟩:=cS h
 refine gQ h65.1<|gQ (AF dU h65.2) ?_
 obtain⟨h66,h⟩:=cS h
 refine gQ (A9 dU h66)<|gQ (AT dU (cK.set o18.toNat x23) o22 x24) ?_
 exact lb h) h
theorem QF(h:X6 cG cH cI cK=some cR):AL Tryz.prog 163 [.row 0,dI cG,dI cH,dI cI] [rW 0 56 1 dU cK] (.tup [dI cR.1,.d (D.b cR.2.1)]) [rW 0 56 1 dU cR.2.2]:=by unfold X6 at h;refine XG.call (ks:=[0]) mixed fun us=>?_;apply g0 (o:=cR);obtain⟨h1,h⟩:=cS h;refine gQ h1.1<|gQ (AF dU h1.2) ?_;obtain⟨x1,h2,h⟩:=xS h;refine gG 19 (.el (dU x1)) (AH dU h2)<|gW 10024 (.sl ((cK.set cG.toNat x1).map dU)) ?_;obtain⟨h3,h⟩:=cS h;refine gQ h3.1<|gQ (AF dU h3.2) ?_;obtain⟨x2,h4,h⟩:=xS h;refine gG 23 (.el (dU x2)) (AH dU h4)<|gW 10025 (.sl (((cK.set cG.toNat x1).set cI.toNat x2).map dU)) ?_;obtain⟨h5,h⟩:=cS h;refine gQ h5.1<|gQ (AF dU h5.2) ?_;obtain⟨h6,h⟩:=cS h;refine gQ (A9 dU h6)<|gQ (AT dU cK cG x1) ?_;obtain⟨h7,h⟩:=cS h;refine gQ h7.1<|gQ (AF dU h7.2) ?_;obtain⟨h8,h⟩:=cS h;refine gQ (A9 dU h8)<|gQ (AT dU (cK.set cG.toNat x1) cI x2) ?_;obtain⟨o6,h16,h⟩:=bS h;refine gl (aCd none us h16) ?_;obtain⟨o10,h24,h⟩:=bS h;refine gl (aCe none us h24) ?_;refine iB 65 h (fun h=>?_) fun h=>?_;obtain⟨h26,h⟩:=cS h;refine gQ h26.1<|gQ (AF dU h26.2) ?_;obtain⟨x11,h27,h⟩:=xS h;refine gG 73 (.el (dU x11)) (AH dU h27)<|gW 10078 (.sl ((((cK.set cG.toNat x1).set cI.toNat x2).set o10.toNat x11).map dU)) ?_;obtain⟨h28,h⟩:=cS h;refine gQ h28.1<|gQ (AF dU h28.2) ?_;obtain⟨x12,h29,h⟩:=xS h;refine gG 77 (.el (dU x12)) (AH dU h29)<|gW 10079 (.sl (((((cK.set cG.toNat x1).set cI.toNat x2).set o10.toNat x11).set cG.toNat x12).map dU)) ?_;obtain⟨h30,h⟩:=cS h;refine gQ h30.1<|gQ (AF dU h30.2) ?_;obtain⟨h31,h⟩:=cS h;refine gQ (A9 dU h31)<|gQ (AT dU ((cK.set cG.toNat x1).set cI.toNat x2) o10 x11) ?_;obtain⟨h32,h⟩:=cS h;refine gQ h32.1<|gQ (AF dU h32.2) ?_;obtain⟨h33,h⟩:=cS h;refine gQ (A9 dU h33)<|gQ (AT dU (((cK.set cG.toNat x1).set cI.toNat x2).set o10.toNat x11) cG x12) ?_;exact lX h (lv [8,9] [0,997]);obtain⟨h34,h⟩:=cS h;refine gQ h34.1<|gQ (AF dU h34.2) ?_;obtain⟨x13,h35,h⟩:=xS h;refine gG 88 (.el (dU x13)) (AH dU h35)<|gW 10093 (.sl ((((cK.set cG.toNat x1).set cI.toNat x2).set o6.toNat x13).map dU)) ?_;obtain⟨h36,h⟩:=cS h;refine gQ h36.1<|gQ (AF dU h36.2) ?_;obtain⟨x14,h37,h⟩:=xS h;refine gG 92 (.el (dU x14)) (AH dU h37)<|gW 10094 (.sl (((((cK.set cG.toNat x1).set cI.toNat x2).set o6.toNat x13).set o10.toNat x14).map dU)) ?_;obtain⟨h38,h⟩:=cS h;refine gQ h38.1<|gQ (AF dU h38.2) ?_;obtain⟨h39,h⟩:=cS h;refine gQ (A9 dU h39)<|gQ (AT dU ((cK.set cG.toNat x1).set cI.toNat x2) o6 x13) ?_;obtain⟨h40,h⟩:=cS h;refine gQ h40.1<|gQ (AF dU h40.2) ?_;obtain⟨h41,h⟩:=cS h;refine gQ (A9 dU h41)<|gQ (AT dU (((cK.set cG.toNat x1).set cI.toNat x2).set o6.toNat x13) o10 x14) ?_;obtain⟨o25,h67,h⟩:=bS h;refine gl (aCg none us h67) ?_;obtain⟨h68,h⟩:=cS h;refine gQ h68.1<|gQ (AF dU h68.2) ?_;obtain⟨x26,h69,h⟩:=xS h;refine gG 160 (.el (dU x26)) (AH dU h69)<|gW 10165 (.sl ((o25.2.set o25.1.toNat x26).map dU)) ?_;obtain⟨h70,h⟩:=cS h;refine gQ h70.1<|gQ (AF dU h70.2) ?_;obtain⟨x27,h71,h⟩:=xS h;refine gG 164 (.el (dU x27)) (AH dU h71)<|gW 10166 (.sl (((o25.2.set o25.1.toNat x26).set cG.toNat x27).map dU)) ?_;obtain⟨h72,h⟩:=cS h;refine gQ h72.1<|gQ (AF dU h72.2) ?_;obtain⟨h73,h⟩:=cS h;refine gQ (A9 dU h73)<|gQ (AT dU o25.2 o25.1 x26) ?_;obtain⟨h74,h⟩:=cS h;refine gQ h74.1<|gQ (AF dU h74.2) ?_;obtain⟨h75,h⟩:=cS h;refine gQ (A9 dU h75)<|gQ (AT dU (o25.2.set o25.1.toNat x26) cG x27) ?_;exact lX h (lv [8,9] [0,997])
theorem aCu(rd:Option Nat)(self:Int->Int->Int->(List Int)->Option (List Int))(hs:∀(a1 a2 a3:Int) (w0 r:List Int),self a1 a2 a3 w0=some r->AL Tryz.prog 132 [.row 0,dI a1,dI a2,dI a3] [rW 0 56 1 dU w0] (.tup []) [rW 0 56 1 dU r])(us:List Value){s1 s2 s3:Int}{s8 s9:Bool}{s10:Int}{s35:Bool}{w0:List Int}{o:(Int×List Int)}(h:NY self s1 s2 s3 s8 s9 s10 s35 w0=some o):Lq 132 rd 1821 ⟨sp 134 0 [rx 0,sI 1 s1,sI 2 s2,sI 3 s3,sD 8 D.b s8,sD 9 D.b s9,sI 10 s10,sD 35 D.b s35],[rW 0 56 1 dU w0,(997,.vals [.row 0] us)],[]⟩ (.normal,⟨sp 134 0 [rx 0,sI 1 s1,sI 2 s2,sI 3 o.1,sD 8 D.b s8,sD 9 D.b s9,sI 10 s10],[rW 0 56 1 dU o.2,(997,.vals [.row 0] us)],[]⟩):=by unfold NY at h;apply g0 (o:=o);cases s35;replace h:=By h;exact lp h;replace h:=Bz h;obtain⟨r3,h6,h⟩:=bS h;refine gG 39 (.cx false [(0,0)] [] (.tup []) [rW 0 56 1 dU r3]) (aVp h6) ?_;exact lp h
theorem aCv(rd:Option Nat)(self:Int->Int->Int->(List Int)->Option (List Int))(hs:∀(a1 a2 a3:Int) (w0 r:List Int),self a1 a2 a3 w0=some r->AL Tryz.prog 132 [.row 0,dI a1,dI a2,dI a3] [rW 0 56 1 dU w0] (.tup []) [rW 0 56 1 dU r])(us:List Value){s1 s2 s3:Int}{s8 s9:Bool}{s10 s11 s12:Int}{s50:Bool}{w0:List Int}{o:(Int×Int×List Int)}(h:NZ self s1 s2 s3 s8 s9 s10 s11 s12 s50 w0=some o):Lq 132 rd 7293 ⟨sp 134 0 [rx 0,sI 1 s1,sI 2 s2,sI 3 s3,sD 8 D.b s8,sD 9 D.b s9,sI 10 s10,sI 11 s11,sI 12 s12,sD 50 D.b s50],[rW 0 56 1 dU w0,(997,.vals [.row 0] us)],[]⟩ (.normal,⟨sp 134 0 [rx 0,sI 1 s1,sI 2 s2,sI 3 s3,sD 8 D.b s8,sD 9 D.b s9,sI 10 s10,sI 11 o.1,sI 12 o.2.1],[rW 0 56 1 dU o.2.2,(997,.vals [.row 0] us)],[]⟩):=by unfold NZ at h;apply g0 (o:=o);cases s50;replace h:=By h;exact lp h;replace h:=Bz h;obtain⟨r6,h10,h⟩:=bS h;refine gG 54 (.cx false [(0,0)] [] (.tup []) [rW 0 56 1 dU r6]) (aWk h10) ?_;exact lp h
theorem Kq(rd:Option Nat)(self:Int->Int->Int->(List Int)->Option (List Int))(hs:∀(a1 a2 a3:Int) (w0 r:List Int),self a1 a2 a3 w0=some r->AL Tryz.prog 132 [.row 0,dI a1,dI a2,dI a3] [rW 0 56 1 dU w0] (.tup []) [rW 0 56 1 dU r])(us:List Value){s1 s2 s3:Int}{s8 s9:Bool}{s10 s11:Int}{s68:Bool}{w0:List Int}{o:(List Int)⊕(List Int)}(h:Jv self s1 s2 s3 s8 s9 s10 s11 s68 w0=some o):Lq 132 rd 14589 ⟨sp 134 0 [rx 0,sI 1 s1,sI 2 s2,sI 3 s3,sD 8 D.b s8,sD 9 D.b s9,sI 10 s10,sI 11 s11,sD 68 D.b s68],[rW 0 56 1 dU w0,(997,.vals [.row 0] us)],[]⟩ (match (generalizing:=false) o with
 | .inl o=>(.normal,⟨sp 134 0 [rx 0,sI 1 s1,sI 2 s2,sI 3 s3,sD 8 D.b s8,sD 9 D.b s9,sI 10 s10,sI 11 s11],[rW 0 56 1 dU o,(997,.vals [.row 0] us)],[]⟩)
 | .inr o=>(.ret,⟨sp 134 0 [],[rW 0 56 1 dU o,(997,.vals [.row 0] us)],[]⟩)):=by
 unfold Jv at h
 apply g0 (o:=o)
 cases s68
 replace h:=By h
 exact lp h
 replace h:=Bz h
 obtain⟨r8,h15,h⟩:=bS h
 refine gQ (aU8 h15) ?_
 rcases r8 with⟨r8_1,r8_2⟩
 cases r8_1
 replace h:=By h
 refine gW 72 (.cx false [(0,0)] [] (.d (D.b false)) [rW 0 56 1 dU r8_2]) ?_
 exact lp h
 replace h:=Bz h
 refine gW 72 (.cx false [(0,0)] [] (.d (D.b true)) [rW 0 56 1 dU r8_2]) ?_
 exact lp h
theorem FF(rd:Option Nat)(self:Int->Int->Int->(List Int)->Option (List Int))(hs:∀(a1 a2 a3:Int) (w0 r:List Int),self a1 a2 a3 w0=some r->AL Tryz.prog 132 [.row 0,dI a1,dI a2,dI a3] [rW 0 56 1 dU w0] (.tup []) [rW 0 56 1 dU r])(us:List Value){s1 s2 s3:Int}{s9:Bool}{s14 s16:Int}{s17 s18:Int}{s113:Bool}{w0:List Int}{o:(Int×Int×Bool×List Int)}(h:Fk self s1 s2 s3 s9 s14 s16 s17 s18 s113 w0=some o):Lq 132 rd 466943 ⟨sp 134 0 [rx 0,sI 1 s1,sI 2 s2,sI 3 s3,sD 9 D.b s9,sI 14 s14,sI 16 s16,sI 17 s17,sI 18 s18,sD 113 D.b s113],[rW 0 56 1 dU w0,(997,.vals [.row 0] us)],[]⟩ (.normal,⟨sp 134 0 [rx 0,sI 1 o.1,sI 2 o.2.1,sI 3 s3,sD 8 D.b o.2.2.1,sD 9 D.b s9],[rW 0 56 1 dU o.2.2.2,(997,.vals [.row 0] us)],[]⟩):=by unfold Fk at h;apply g0 (o:=o);cases s113;replace h:=By h;obtain⟨r18,h29,h⟩:=bS h;refine gG 132 (.cx false [(0,0)] [] (.tup []) [rW 0 56 1 dU r18]) (hs (AA .add .i64 s14 1) s2 s3 w0 r18 h29) ?_;exact lp h;replace h:=Bz h;obtain⟨r17,h28,h⟩:=bS h;refine gG 121 (.cx false [(0,0)] [] (.tup []) [rW 0 56 1 dU r17]) (hs s1 s14 s3 w0 r17 h28) ?_;exact lp h
theorem aCt(rd:Option Nat)(self:Int->Int->Int->(List Int)->Option (List Int))(hs:∀(a1 a2 a3:Int) (w0 r:List Int),self a1 a2 a3 w0=some r->AL Tryz.prog 132 [.row 0,dI a1,dI a2,dI a3] [rW 0 56 1 dU w0] (.tup []) [rW 0 56 1 dU r])(us:List Value){s1 s2 s3:Int}{s8 s9:Bool}{w0:List Int}{o:(Int×Int×Int×Bool×Bool×List Int)⊕(List Int)}(h:NX self s1 s2 s3 s8 s9 w0=some o):Lq 132 rd 28 ⟨sp 134 0 [rx 0,sI 1 s1,sI 2 s2,sI 3 s3,sD 8 D.b s8,sD 9 D.b s9],[rW 0 56 1 dU w0,(997,.vals [.row 0] us)],[]⟩ (match (generalizing:=false) o with
 | .inl o=>(.normal,⟨sp 134 0 [rx 0,sI 1 o.1,sI 2 o.2.1,sI 3 o.2.2.1,sD 8 D.b o.2.2.2.1,sD 9 D.b o.2.2.2.2.1],[rW 0 56 1 dU o.2.2.2.2.2,(997,.vals [.row 0] us)],[]⟩)
 | .inr o=>(.ret,⟨sp 134 0 [],[rW 0 56 1 dU o,(997,.vals [.row 0] us)],[]⟩)):=by
 unfold NX at h
 apply g0 (o:=o)
 refine iB 23 h (fun h=>?_) fun h=>?_
 obtain⟨r1,h2,h⟩:=bS h
 refine gG 27 (.cx false [(0,0)] [] (.tup []) [rW 0 56 1 dU r1]) (aVt h2) ?_
 exact lp h
 refine iB 29 h (fun h=>?_) fun h=>?_
 obtain⟨r2,h4,h⟩:=bS h
 refine gG 33 (.cx false [(0,0)] [] (.tup []) [rW 0 56 1 dU r2]) (aVu h4) ?_
 exact lp h
 obtain⟨o4,h7,h⟩:=bS h
 refine gl (aCu rd self hs us h7) ?_
 obtain⟨r5,h8,h⟩:=bS h
 refine gG 46 (.lend [0] (.tup [dI r5.1,dI r5.2])) (aWs h8) ?_
 obtain⟨o7,h11,h⟩:=bS h
 refine gl (aCv rd self hs us h11) ?_
 refine iB 62 h (fun h=>?_) fun h=>?_
 refine iB 65 h (fun h=>?_) fun h=>?_
 obtain⟨o9,h17,h⟩:=bS h
 refine gl (Kq rd self hs us h17) ?_
 replace h:=AK h
 rcases h with⟨o10,rfl,h⟩|⟨o11,rfl,h⟩
 refine iB 75 h (fun h=>?_) fun h=>?_
 obtain⟨h19,h⟩:=cS h
 refine gQ h19.1<|gQ (AF dU h19.2) ?_
 obtain⟨x12,h20,h⟩:=xS h
 refine gG 80 (.el (dU x12)) (AH dU h20) ?_
 obtain⟨h21,h⟩:=cS h
 refine gQ h21.1<|gQ (AF dU h21.2) ?_
 obtain⟨x13,h22,h⟩:=xS h
 refine gG 84 (.el (dU x13)) (AH dU h22) ?_
 obtain⟨r14,h23,h⟩:=bS h
 refine gC 85 (E4 h23) ?_
 refine iB 87 h (fun h=>?_) fun h=>?_
 obtain⟨r15,h25,h⟩:=bS h
 refine gG 92 (.cx false [(0,0)] [] (dI r15.1) [rW 0 56 1 dU r15.2]) (aM4 h25) ?_
 exact lp h
 obtain⟨r16,h26,h⟩:=bS h
 refine gG 99 (.cx false [(0,0)] [] (.tup [dI r16.1,.d (D.b r16.2.1)]) [rW 0 56 1 dU r16.2.2]) (QF h26)<|gQ (of_decide_eq_true rfl:(8:Int)≠0) ?_
 obtain⟨o19,h30,h⟩:=bS h
 refine gl (FF rd self hs us h30) ?_
 exact lp h
 obtain⟨r20,h31,h⟩:=bS h
 refine gG 99 (.cx false [(0,0)] [] (.tup [dI r20.1,.d (D.b r20.2.1)]) [rW 0 56 1 dU r20.2.2]) (QF h31)<|gQ (of_decide_eq_true rfl:(8:Int)≠0) ?_
 obtain⟨o21,h32,h⟩:=bS h
 refine gl (FF rd self hs us h32) ?_
 exact lp h
 exact lp h
 obtain⟨o22,h33,h⟩:=bS h
 refine gl (Kq rd self hs us h33) ?_
 replace h:=AK h
 rcases h with⟨o23,rfl,h⟩|⟨o24,rfl,h⟩
 refine iB 75 h (fun h=>?_) fun h=>?_
 obtain⟨h35,h⟩:=cS h
 refine gQ h35.1<|gQ (AF dU h35.2) ?_
 obtain⟨x25,h36,h⟩:=xS h
 refine gG 80 (.el (dU x25)) (AH dU h36) ?_
 obtain⟨h37,h⟩:=cS h
 refine gQ h37.1<|gQ (AF dU h37.2) ?_
 obtain⟨x26,h38,h⟩:=xS h
 refine gG 84 (.el (dU x26)) (AH dU h38) ?_
 obtain⟨r27,h39,h⟩:=bS h
 refine gC 85 (E4 h39) ?_
 refine iB 87 h (fun h=>?_) fun h=>?_
 obtain⟨r28,h41,h⟩:=bS h
 refine gG 92 (.cx false [(0,0)] [] (dI r28.1) [rW 0 56 1 dU r28.2]) (aM4 h41) ?_
 exact lp h
 obtain⟨r29,h42,h⟩:=bS h
 refine gG 99 (.cx false [(0,0)] [] (.tup [dI r29.1,.d (D.b r29.2.1)]) [rW 0 56 1 dU r29.2.2]) (QF h42)<|gQ (of_decide_eq_true rfl:(8:Int)≠0) ?_
 obtain⟨o30,h43,h⟩:=bS h
 refine gl (FF rd self hs us h43) ?_
 exact lp h
 obtain⟨r31,h44,h⟩:=bS h
 refine gG 99 (.cx false [(0,0)] [] (.tup [dI r31.1,.d (D.b r31.2.1)]) [rW 0 56 1 dU r31.2.2]) (QF h44)<|gQ (of_decide_eq_true rfl:(8:Int)≠0) ?_
 obtain⟨o32,h45,h⟩:=bS h
 refine gl (FF rd self hs us h45) ?_
 exact lp h
 exact lp h
 obtain⟨o33,h46,h⟩:=bS h
 refine gl (Kq rd self hs us h46) ?_
 replace h:=AK h
 rcases h with⟨o34,rfl,h⟩|⟨o35,rfl,h⟩
 refine iB 75 h (fun h=>?_) fun h=>?_
 obtain⟨h48,h⟩:=cS h
 refine gQ h48.1<|gQ (AF dU h48.2) ?_
 obtain⟨x36,h49,h⟩:=xS h
 refine gG 80 (.el (dU x36)) (AH dU h49) ?_
 obtain⟨h50,h⟩:=cS h
 refine gQ h50.1<|gQ (AF dU h50.2) ?_
 obtain⟨x37,h51,h⟩:=xS h
 refine gG 84 (.el (dU x37)) (AH dU h51) ?_
 obtain⟨r38,h52,h⟩:=bS h
 refine gC 85 (E4 h52) ?_
 refine iB 87 h (fun h=>?_) fun h=>?_
 obtain⟨r39,h54,h⟩:=bS h
 refine gG 92 (.cx false [(0,0)] [] (dI r39.1) [rW 0 56 1 dU r39.2]) (aM4 h54) ?_
 exact lp h
 obtain⟨r40,h55,h⟩:=bS h
 refine gG 99 (.cx false [(0,0)] [] (.tup [dI r40.1,.d (D.b r40.2.1)]) [rW 0 56 1 dU r40.2.2]) (QF h55)<|gQ (of_decide_eq_true rfl:(8:Int)≠0) ?_
 obtain⟨o41,h56,h⟩:=bS h
 refine gl (FF rd self hs us h56) ?_
 exact lp h
 obtain⟨r42,h57,h⟩:=bS h
 refine gG 99 (.cx false [(0,0)] [] (.tup [dI r42.1,.d (D.b r42.2.1)]) [rW 0 56 1 dU r42.2.2]) (QF h57)<|gQ (of_decide_eq_true rfl:(8:Int)≠0) ?_
 obtain⟨o43,h58,h⟩:=bS h
 refine gl (FF rd self hs us h58) ?_
 exact lp h
 exact lp h
def Sp(us:List Value)(s1 s2 s3:Int)(s8 s9:Bool)(w0:List Int):St:=⟨sp 134 0 [rx 0,sI 1 s1,sI 2 s2,sI 3 s3,sD 8 D.b s8,sD 9 D.b s9],[rW 0 56 1 dU w0,(997,.vals [.row 0] us)],[]⟩
def Sq(us:List Value)(o:(List Int)):Ex×St:=(.ret,⟨sp 134 0 [],[rW 0 56 1 dU o,(997,.vals [.row 0] us)],[]⟩)
theorem aCx(rd:Option Nat)(self:Int->Int->Int->(List Int)->Option (List Int))(hs:∀(a1 a2 a3:Int) (w0 r:List Int),self a1 a2 a3 w0=some r->AL Tryz.prog 132 [.row 0,dI a1,dI a2,dI a3] [rW 0 56 1 dU w0] (.tup []) [rW 0 56 1 dU r])(us:List Value){s1 s2 s3:Int}{s8 s9:Bool}{w0:List Int}{t:(List Int)}(h:QG self s1 s2 s3 s8 s9 w0=some t):Lq 132 rd 14 (Sp us s1 s2 s3 s8 s9 w0) ((Sq us) t):=
 lL (fun s:Int×Int×Int×Bool×Bool×List Int=>Sp us s.1 s.2.1 s.2.2.1 s.2.2.2.1 s.2.2.2.2.1 s.2.2.2.2.2) (Sq us) (s1,s2,s3,s8,s9,w0) (fun⟨s1,s2,s3,s8,s9,w0⟩ o h=>by
 unfold Ht at h
 obtain⟨o44,h59,h⟩:=bS h
 refine gl (aCt rd self hs us h59) ?_
 replace h:=AK h
 rcases h with⟨o45,rfl,h⟩|⟨o46,rfl,h⟩
 exact lb h
 exact lb h) h
theorem aMt(self:Int->Int->Int->(List Int)->Option (List Int))(hs:∀(a1 a2 a3:Int) (w0 r:List Int),self a1 a2 a3 w0=some r->AL Tryz.prog 132 [.row 0,dI a1,dI a2,dI a3] [rW 0 56 1 dU w0] (.tup []) [rW 0 56 1 dU r])(a1 a2 a3:Int)(w0 r:List Int)(h:aMs self a1 a2 a3 w0=some r):AL Tryz.prog 132 [.row 0,dI a1,dI a2,dI a3] [rW 0 56 1 dU w0] (.tup []) [rW 0 56 1 dU r]:=by unfold aMs at h;refine XG.call (ks:=[0]) mixed fun us=>?_;apply g0 (o:=r);obtain⟨o47,h60,h⟩:=bS h;refine gl (aCx none self hs us h60) ?_;exact lX h (lv [] [0,997])
theorem Sr:∀(n:Nat) (a1 a2 a3:Int) (w0 r:List Int),aK8 n a1 a2 a3 w0=some r->AL Tryz.prog 132 [.row 0,dI a1,dI a2,dI a3] [rW 0 56 1 dU w0] (.tup []) [rW 0 56 1 dU r]
 |0,a1,a2,a3,w0,r,h=>by simp[aK8]at h
 |n+1,a1,a2,a3,w0,r,h=>aMt _ (Sr n) a1 a2 a3 w0 r h
theorem aVb(h:X9 cG cH cI cK=some cT):AL Tryz.prog 132 [.row 0,dI cG,dI cH,dI cI] [rW 0 56 1 dU cK] (.tup []) [rW 0 56 1 dU cT]:=Sr 100000 cG cH cI cK cT h
theorem aT6(h:Q4 cK=some cT):AL Tryz.prog 93 [.row 0] [rW 0 56 1 dU cK] (.tup []) [rW 0 56 1 dU cT]:=by unfold Q4 at h;refine XG.call (ks:=[0]) mixed fun us=>?_;apply g0 (o:=cT);refine gN 4 dU cK ?_;obtain⟨r1,h1,h⟩:=bS h;refine gC 9 (aMi h1) ?_;obtain⟨r2,h2,h⟩:=bS h;refine gG 10 (.cx false [(0,0)] [] (.tup []) [rW 0 56 1 dU r2]) (aVb h2) ?_;exact lX h (lv [] [0,997])
theorem aUy(h:U3 cK=some cT):AL Tryz.prog 93 [.row 0] [(0,.bag 56 1 (cK.map dU))] (.tup []) [rW 0 56 1 dU cT]:=
 AL.bagE (R:=fun _=>.tup []) (X':=fun cT=> [rW 0 56 1 dU cT]) (fun _ _ h=>aT6 h) cT h
def SB(s1:List X2)(s6 s15:Int)(s16 s30:Int)(w2:AD)(w5:List (Int×Bool))(s31:Int)(w7:List (Int×Bool)):St:=⟨sp 65 0 [sD 1 (D.l X2.D) s1,bx 2,rx 5,sI 6 s6,rx 7,sI 15 s15,sI 16 s16,sI 30 s30,sI 31 s31],[cL 2 AD.D w2,(5,.mapS (ms dU D.b w5)),(7,.mapS (ms dU D.b w7))],[]⟩
def SC(s1:List X2)(s6 s15:Int)(s16 s30:Int)(w2:AD)(w5:List (Int×Bool))(o:(List (Int×Bool))):Ex×St:=(.exit 2,⟨sp 65 0 [sD 1 (D.l X2.D) s1,bx 2,rx 5,rx 7,sI 15 s15,sI 16 s16],[cL 2 AD.D w2,(5,.mapS (ms dU D.b w5)),(7,.mapS (ms dU D.b o))],[]⟩)
theorem aB3(rd:Option Nat)(h:aMm cU cG cH cI cJ cV cW cX cY=some cZ):Lq 67 rd 59802 (SB cU cG cH cI cJ cV cW cX cY) ((SC cU cG cH cI cJ cV cW) cZ):=
 lL (fun s:Int×(List (Int×Bool))=>SB cU cG cH cI cJ cV cW s.1 s.2) (SC cU cG cH cI cJ cV cW) (cX,cY) (fun⟨cX,cY⟩ o h=>by
 unfold Hk at h
 refine iB 32 h (fun h=>?_) fun h=>?_
 obtain⟨r3,h5,h⟩:=bS h
 refine gG 40 (.cx false [(0,7)] [(1,40)] (.row 1) [(1,.mapS (ms dU D.b r3))]) (aVl h5) ?_
 exact lB h [.live [1,2,5,6,7,15,16,30,31],.keep [2,5,40],.ren 40 7,.sort]
 exact lb h) h
def GR(clk:Nat)(es:List (Nat×Int×Bool))(s1:List X2)(s15 s16:Int)(w2:AD)(w7 w5:List (Int×Bool))(sn:List Nat):St:=⟨sp 65 0 [sD 1 (D.l X2.D) s1,bx 2,rx 5,sI 15 s15,sI 16 s16,bx 43],[cL 2 AD.D w2,(5,.mapS (ms dU D.b w5)),(7,.map clk (dl dU D.b es)),(43,.mit 7 clk sn)],[]⟩
def GS(clk:Nat)(es:List (Nat×Int×Bool))(s1:List X2)(s15 s16:Int)(w2:AD)(w7:List (Int×Bool))(o:(List (Int×Bool))):Ex×St:=(.exit 4,⟨sp 65 0 [sD 1 (D.l X2.D) s1,bx 2,rx 5,sI 15 s15,sI 16 s16],[cL 2 AD.D w2,(5,.mapS (ms dU D.b o))],[]⟩)
def aMo(clk:Nat)(es:List (Nat×Int×Bool))(s1:List X2)(s15 s16:Int)(w2:AD)(w7 w5:List (Int×Bool)):St:=⟨sp 65 0 [sD 1 (D.l X2.D) s1,bx 2,rx 5,sI 15 s15,sI 16 s16],[cL 2 AD.D w2,(5,.mapS (ms dU D.b w5))],[]⟩
set_option maxRecDepth 100000 in
theorem SE(rd:Option Nat)(clk:Nat)(es:List (Nat×Int×Bool))(s1:List X2)(s15 s16:Int)(w2:AD)(w7:List (Int×Bool))(k:Int)(v:Bool)(w5:List (Int×Bool))(sn:List Nat)(st:Nat)(hm:(st,k,v)∈es)(o:(List (Int×Bool)))(h:Hl s1 s15 s16 w2 w7 k v w5=some o):NH Tryz.prog rd (EP Tryz.prog 67) [0,1,1,1,1,0,0,1,1,0,0,1,0,1,1] ((⟨(GR clk es s1 s15 s16 w2 w7 w5 sn).E,Bu (GR clk es s1 s15 s16 w2 w7 w5 sn).B 43 (.mit 7 clk (sn++[st])),[]⟩:St).put (some 44) (.tup [bo true,.d (dU k),.d (D.b v)])) fun zx zs=>zx=.normal/\Wk zs ((fun s:(List (Int×Bool))=>GR clk es s1 s15 s16 w2 w7 s (sn++[st])) o):=by unfold Hl at h;obtain rfl:=si h;exact FY mixed [(46,.en (dU k) (D.b v)),(10048,.ms (ms dU D.b (GH k true w5)))] [] [.live [1,2,5,15,16,43],.keep [2,5,7,43]] (ai (OL (fk:=dU) (fv:=D.b) (clk:=clk) (sn:=sn) hm) (ai (OT (aLt Tryz.underlying56) D.b w5 k true) (ti))) (by kernel_rfl)
set_option maxRecDepth 100000 in
theorem SD(rd:Option Nat)(clk:Nat)(es:List (Nat×Int×Bool))(s1:List X2)(s15 s16:Int)(w2:AD)(w7 w5:List (Int×Bool))(sn:List Nat):NH Tryz.prog rd (EP Tryz.prog 67) [0,1,1,1,1,0,0,1,1,0,0,1,0,1,1] ((GR clk es s1 s15 s16 w2 w7 w5 sn).put (some 44) (.tup [bo false])) fun zx zs=>zx=(GS clk es s1 s15 s16 w2 w7 (Kp s1 s15 s16 w2 w7 w5)).1/\Wk zs (GS clk es s1 s15 s16 w2 w7 (Kp s1 s15 s16 w2 w7 w5)).2:=by refine NH.wk (e:=.exit 4) (s1:=aMo clk es s1 s15 s16 w2 w7 w5) (FY mixed [] [] [.live [1,2,5,15,16],.keep [2,5]] (ti) (by kernel_rfl)) ?_;exact(Wk.canS 5 (by kernel_rfl) rfl)
set_option maxRecDepth 100000 in
theorem aB4(rd:Option Nat)(clk:Nat)(es:List (Nat×Int×Bool))(s1:List X2)(s15 s16:Int)(w2:AD)(w7 w5:List (Int×Bool))(hp:(es.map (·.2)).Perm w7)(o:(List (Int×Bool)))(h:aMn s1 s15 s16 w2 w7 w5=some o):Fg Tryz.prog rd (EP Tryz.prog 67) [0,1,1,1,1,0,0,1,1,0,0,1,0,1,1] (GR clk es s1 s15 s16 w2 w7 w5 []) ((GS clk es s1 s15 s16 w2 w7) o).1 ((GS clk es s1 s15 s16 w2 w7) o).2:=
 OH (fk:=dU) (fv:=D.b) (step:=(fun(x:Int×Bool) (s:(List (Int×Bool)))=>Hl s1 s15 s16 w2 w7 x.1 x.2 s)) (s0:=w5) 43 44 43 7 clk es (fun(sn:List Nat) (s:(List (Int×Bool)))=>GR clk es s1 s15 s16 w2 w7 s sn) (GS clk es s1 s15 s16 w2 w7) (by kernel_rfl) (Pg (by rfl)) (fun _ _=>by kernel_rfl) (fun _ _=>by kernel_rfl) (fun _ _=>by kernel_rfl) hp
  (fun sn s k v st a hm h=>SE rd clk es s1 s15 s16 w2 w7 k v s sn st hm a h) (fun sn s hc=>hc▸SD rd clk es s1 s15 s16 w2 w7 s sn) h
theorem aBz(rd:Option Nat)(h:aBy cU cG cH cV cW cY=some cZ):Lq 67 rd 14951 ⟨sp 65 0 [sD 1 (D.l X2.D) cU,bx 2,rx 5,rx 7,sI 15 cG,sI 16 cH],[cL 2 AD.D cV,(5,.mapS (ms dU D.b cW)),(7,.mapS (ms dU D.b cY))],[]⟩ (.normal,⟨sp 65 0 [sD 1 (D.l X2.D) cU,bx 2,rx 5,sI 15 cG,sI 16 cH],[cL 2 AD.D cV,(5,.mapS (ms dU D.b cZ))],[]⟩):=by unfold aBy at h;obtain⟨o5,h7,h⟩:=bS h;obtain rfl:=si h;exact Arr.lp (Arr.exact (fk:=dU) (fv:=D.b) (S:=cY) 7 (by kernel_rfl) fun clk es hp=>GI mixed [] [⟨[0,1,1,1,1,0,0,1,1,0,0,1,0,1,1],[.live [1,2,5,15,16,43],.keep [2,5,7,43]],.exit 4,(GS clk es cU cG cH cV cY o5).2⟩] [.live [1,2,5,15,16],.keep [2,5]] (ai (aB4 rd clk es cU cG cH cV cY cW hp o5 h7) (ti)) (by kernel_rfl))
def R9(s1:List X2)(s15:Int)(w2:AD)(s16:Int)(w5:List (Int×Bool)):St:=⟨sp 65 0 [sD 1 (D.l X2.D) s1,bx 2,rx 5,sI 15 s15,sI 16 s16],[cL 2 AD.D w2,(5,.mapS (ms dU D.b w5))],[]⟩
def SA(s1:List X2)(s15:Int)(w2:AD)(o:(List (Int×Bool))):Ex×St:=(.exit 0,⟨sp 65 0 [rx 5],[(5,.mapS (ms dU D.b o))],[]⟩)
theorem aB2(rd:Option Nat)(h:aMl cU cG cV cH cW=some cZ):Lq 67 rd 58 (R9 cU cG cV cH cW) ((SA cU cG cV) cZ):=
 lL (fun s:Int×(List (Int×Bool))=>R9 cU cG cV s.1 s.2) (SA cU cG cV) (cH,cW) (fun⟨cH,cW⟩ o h=>by
 unfold Hj at h
 refine iB 17 h (fun h=>?_) fun h=>?_
 refine gW 19 .frz ?_
 obtain⟨r1,h2,h⟩:=bS h
 refine gC 22 (aWh h2)<|gQ (OT (aLt Tryz.underlying56) D.b ([]:List (Int×Bool)) r1 true)<|gW 10019 (.ms (ms dU D.b (GH r1 true ([]:List (Int×Bool)))))<|xX 27 Xe.D h fun x2 h=>?_
 refine gN 30 dZ x2.types ?_
 obtain⟨o4,h6,h⟩:=bS h
 refine gL [.live [1,2,5,6,7,15,16,30,31],.keep [2,5,19],.ren 19 7,.sort] (aB3 rd h6) ?_
 obtain⟨o6,h8,h⟩:=bS h
 refine gl (aBz rd h8) ?_
 exact lb h
 exact lb h) h
def GT(clk:Nat)(es:List (Nat×Int×Bool))(w5:List (Int×Bool))(w10:List Int)(sn:List Nat):St:=⟨sp 65 0 [rx 10,bx 53],[(5,.map clk (dl dU D.b es)),rW 10 56 1 dU w10,(53,.mit 5 clk sn)],[]⟩
def GU(clk:Nat)(es:List (Nat×Int×Bool))(w5:List (Int×Bool))(o:List Int):Ex×St:=(.exit 6,⟨sp 65 0 [rx 10],[(10,.bag 56 1 (o.map dU))],[]⟩)
def aMq(clk:Nat)(es:List (Nat×Int×Bool))(w5:List (Int×Bool))(w10:List Int):St:=⟨sp 65 0 [rx 10],[rW 10 56 1 dU w10],[]⟩
set_option maxRecDepth 100000 in
theorem SG(rd:Option Nat)(clk:Nat)(es:List (Nat×Int×Bool))(w5:List (Int×Bool))(k:Int)(v:Bool)(w10:List Int)(sn:List Nat)(st:Nat)(hm:(st,k,v)∈es)(o:List Int)(h:Fj w5 k v w10=some o):NH Tryz.prog rd (EP Tryz.prog 67) [0,1,0,1,1,1,1,1] ((⟨(GT clk es w5 w10 sn).E,Bu (GT clk es w5 w10 sn).B 53 (.mit 5 clk (sn++[st])),[]⟩:St).put (some 54) (.tup [bo true,.d (dU k),.d (D.b v)])) fun zx zs=>zx=.normal/\Wk zs ((fun s:List Int=>GT clk es w5 s (sn++[st])) o):=by unfold Fj at h;obtain⟨h10,h⟩:=cS h;obtain rfl:=si h;exact FY mixed [(56,.en (dU k) (D.b v)),(61,.rwl ((w10++[k]).map dU))] [] [.live [10,53],.keep [5,53,61],.ren 61 10,.sort] (ai (OL (fk:=dU) (fv:=D.b) (clk:=clk) (sn:=sn) hm) (ai (Ap dU [k]) (ai (Ap dU [k]) (ai (Av dU h10) (ai (Au dU w10 [k]) (ti)))))) (by kernel_rfl)
set_option maxRecDepth 100000 in
theorem SF(rd:Option Nat)(clk:Nat)(es:List (Nat×Int×Bool))(w5:List (Int×Bool))(w10:List Int)(sn:List Nat):NH Tryz.prog rd (EP Tryz.prog 67) [0,1,0,1,1,1,1,1] ((GT clk es w5 w10 sn).put (some 54) (.tup [bo false])) fun zx zs=>zx=(GU clk es w5 (NP w5 w10)).1/\Wk zs (GU clk es w5 (NP w5 w10)).2:=by refine NH.wk (e:=.exit 6) (s1:=aMq clk es w5 w10) (FY mixed [] [] [.live [10],.keep [10]] (ti) (by kernel_rfl)) ?_;exact(Wk.canB 10 (EN _).symm (by kernel_rfl) rfl)
set_option maxRecDepth 100000 in
theorem aB5(rd:Option Nat)(clk:Nat)(es:List (Nat×Int×Bool))(w5:List (Int×Bool))(w10:List Int)(hp:(es.map (·.2)).Perm w5)(o:List Int)(h:aMp w5 w10=some o):Fg Tryz.prog rd (EP Tryz.prog 67) [0,1,0,1,1,1,1,1] (GT clk es w5 w10 []) ((GU clk es w5) o).1 ((GU clk es w5) o).2:=
 OH (fk:=dU) (fv:=D.b) (step:=(fun(x:Int×Bool) (s:List Int)=>Fj w5 x.1 x.2 s)) (s0:=w10) 53 54 53 5 clk es (fun(sn:List Nat) (s:List Int)=>GT clk es w5 s sn) (GU clk es w5) (by kernel_rfl) (Pg (by rfl)) (fun _ _=>by kernel_rfl) (fun _ _=>by kernel_rfl) (fun _ _=>by kernel_rfl) hp
  (fun sn s k v st a hm h=>SG rd clk es w5 k v s sn st hm a h) (fun sn s hc=>hc▸SF rd clk es w5 s sn) h
theorem aB1(rd:Option Nat)(h:aB0 cW=some d3):Lq 67 rd 126 ⟨sp 65 0 [rx 5,(10,.nil)],[(5,.mapS (ms dU D.b cW))],[]⟩ (.normal,⟨sp 65 0 [rx 10],[(10,.bag 56 1 (d3.map dU))],[]⟩):=by unfold aB0 at h;obtain⟨o8,h11,h⟩:=bS h;obtain rfl:=si h;exact Arr.lp (Arr.exact (fk:=dU) (fv:=D.b) (S:=cW) 5 (by kernel_rfl) fun clk es hp=>GI mixed [] [⟨[0,1,0,1,1,1,1,1],[.live [10,53],.keep [5,53],.nilw 10 10 56 1,.sort],.exit 6,(GU clk es cW o8).2⟩] [.live [10],.keep [10]] (ai (aB5 rd clk es cW ([]:List Int) hp o8 h11) (ti)) (by kernel_rfl))
theorem aRl(h:X4 cV cU=some cK):AL Tryz.prog 67 [.d (AD.D cV),.d ((D.l X2.D) cU)] [] (.d ((D.l dU) cK)) []:=by unfold X4 at h;apply g0 (o:=cK);refine gN 15 Xe.D cV.decls<|gW 12 .frz ?_;obtain⟨o7,h9,h⟩:=bS h;refine gL [.live [1,2,5,15,16],.keep [2,12],.ren 12 5,.sort] (aB2 none h9)<|gQ (aPo (aLt Tryz.underlying56) D.b o7 0)<|gW 10051 (.ms (ms dU D.b (Nz 0 o7))) ?_;obtain⟨o9,h12,h⟩:=bS h;refine gl (aB1 none h12) ?_;obtain⟨r10,h13,h⟩:=bS h;refine gG 63 (.cx true [(0,10)] [] (.tup []) [rW 0 56 1 dU r10]) (aUy h13) ?_;exact lF h [.frz 10]
theorem aUz(h:U4 cG=some d4):AL Tryz.prog 40 [.d (dW cG)] [] (.d (D.b d4)) []:=by unfold U4 at h;apply g0 (o:=d4);exact lf h
theorem Ow(rd:Option Nat)(h:TW cG cH cI cJ cX d5 d6 d7 d8 d9 dA d4 cV dB dC=some dD):Lq 69 rd 15310131 ⟨sp 69 0 [sD 1 dW cG,sD 2 dU cH,bx 3,sD 7 dW cI,sI 8 cJ,bx 9,sD 10 dW cX,bx 12,sD 14 (D.l Xc.D) d5,sI 15 d6,sI 16 d7,sD 28 (D.l Xd.D) d8,sI 29 d9,sI 30 dA,sD 46 D.b d4],[cL 3 AD.D cV,cL 9 Xc.D dB,cL 12 Xd.D dC],[]⟩ (.normal,⟨sp 69 0 [sD 1 dW cG,sD 2 dU cH,bx 3,sD 7 dW cI,sI 8 cJ,bx 9,sD 10 dW dD,sD 14 (D.l Xc.D) d5,sI 15 d6,sI 16 d7,sD 28 (D.l Xd.D) d8,sI 29 d9,sI 30 dA],[cL 3 AD.D cV,cL 9 Xc.D dB],[]⟩):=by unfold TW at h;apply g0 (o:=dD);cases d4;replace h:=By h;exact lp h;replace h:=Bz h;obtain⟨h10,h⟩:=cS h;refine gQ h10 ?_;exact lp h
theorem aDo(rd:Option Nat)(h:aDn cG cH cI cJ cX d5 d6 d7 d8 d9 dA cV dB=some dD):Lq 69 rd 1913766 ⟨sp 69 0 [sD 1 dW cG,sD 2 dU cH,bx 3,sD 7 dW cI,sI 8 cJ,bx 9,sD 10 dW cX,sD 14 (D.l Xc.D) d5,sI 15 d6,sI 16 d7,sD 28 (D.l Xd.D) d8,sI 29 d9,sI 30 dA],[cL 3 AD.D cV,cL 9 Xc.D dB],[]⟩ (.normal,⟨sp 69 0 [sD 1 dW cG,sD 2 dU cH,bx 3,sD 7 dW cI,sI 8 cJ,bx 9,sD 10 dW dD,sD 14 (D.l Xc.D) d5,sI 15 d6,sI 16 d7,sD 28 (D.l Xd.D) d8,sI 29 d9,sI 30 dA],[cL 3 AD.D cV,cL 9 Xc.D dB],[]⟩):=by unfold aDn at h;apply g0 (o:=dD);refine xX 32 Xd.D h fun x2 h=>?_;refine iB 38 h (fun h=>?_) fun h=>?_;obtain⟨h8,h⟩:=cS h;refine gQ h8 ?_;obtain⟨o3,h11,h⟩:=bS h;refine gl (Ow rd h11) ?_;exact lp h;obtain⟨o4,h12,h⟩:=bS h;refine gl (Ow rd h12) ?_;exact lp h
def TZ(s1 s2:Int)(s7 s8:Int)(s14:List Xc)(s15 s16:Int)(s28:List Xd)(s29:Int)(w3:AD)(w9:Xc)(s10 s30:Int):St:=⟨sp 69 0 [sD 1 dW s1,sD 2 dU s2,bx 3,sD 7 dW s7,sI 8 s8,bx 9,sD 10 dW s10,sD 14 (D.l Xc.D) s14,sI 15 s15,sI 16 s16,sD 28 (D.l Xd.D) s28,sI 29 s29,sI 30 s30],[cL 3 AD.D w3,cL 9 Xc.D w9],[]⟩
def Ta(s1 s2:Int)(s7 s8:Int)(s14:List Xc)(s15 s16:Int)(s28:List Xd)(s29:Int)(w3:AD)(w9:Xc)(o:Int):Ex×St:=(.exit 2,⟨sp 69 0 [sD 1 dW s1,sD 2 dU s2,bx 3,sD 7 dW s7,sI 8 s8,bx 9,sD 10 dW o,sD 14 (D.l Xc.D) s14,sI 15 s15,sI 16 s16],[cL 3 AD.D w3,cL 9 Xc.D w9],[]⟩)
theorem aDr(rd:Option Nat)(h:aDq cG cH cI cJ d5 cX d6 d8 d7 cV dB d9 dA=some dD):Lq 69 rd 119610 (TZ cG cH cI cJ d5 cX d6 d8 d7 cV dB d9 dA) ((Ta cG cH cI cJ d5 cX d6 d8 d7 cV dB) dD):=
 lL (fun s:Int×Int=>TZ cG cH cI cJ d5 cX d6 d8 d7 cV dB s.1 s.2) (Ta cG cH cI cJ d5 cX d6 d8 d7 cV dB) (d9,dA) (fun⟨d9,dA⟩ o h=>by
 unfold H9 at h
 refine iB 31 h (fun h=>?_) fun h=>?_
 obtain⟨o5,h13,h⟩:=bS h
 refine gl (aDo rd h13) ?_
 exact lb h
 exact lb h) h
theorem Ox(rd:Option Nat)(h:Nb cG cH cI cJ cX d5 d6 d7 d4 cV=some d9):Lq 69 rd 119613 ⟨sp 69 0 [sD 1 dW cG,sD 2 dU cH,bx 3,sD 7 dW cI,sI 8 cJ,sD 10 dW cX,sD 14 (D.l Xc.D) d5,sI 15 d6,sI 16 d7,sD 60 D.b d4],[cL 3 AD.D cV],[]⟩ (.normal,⟨sp 69 0 [sD 1 dW cG,sD 2 dU cH,bx 3,sD 7 dW cI,sD 10 dW d9,sD 14 (D.l Xc.D) d5,sI 15 d6,sI 16 d7],[cL 3 AD.D cV],[]⟩):=by unfold Nb at h;apply g0 (o:=d9);cases d4;replace h:=By h;exact lp h;replace h:=Bz h;obtain⟨h17,h⟩:=cS h;refine gQ h17 ?_;exact lp h
theorem aDm(rd:Option Nat)(h:aDl cG cH cI d5 cJ cX cV=some d6):Lq 69 rd 934 ⟨sp 69 0 [sD 1 dW cG,sD 2 dU cH,bx 3,sD 7 dW cI,sD 14 (D.l Xc.D) d5,sI 15 cJ,sI 16 cX],[cL 3 AD.D cV],[]⟩ (.normal,⟨sp 69 0 [sD 1 dW cG,sD 2 dU cH,bx 3,sD 7 dW d6,sD 14 (D.l Xc.D) d5,sI 15 cJ,sI 16 cX],[cL 3 AD.D cV],[]⟩):=by unfold aDl at h;apply g0 (o:=d6);refine xX 19 Xc.D h fun x1 h=>?_;obtain⟨h3,h⟩:=cS h;refine gQ h3 ?_;refine iB 26 h (fun h=>?_) fun h=>?_;exact lp h;refine gN 29 Xd.D cV.trans ?_;obtain⟨o6,h14,h⟩:=bS h;refine gl (aDr rd h14) ?_;refine iB 56 h (fun h=>?_) fun h=>?_;obtain⟨o7,h18,h⟩:=bS h;refine gl (Ox rd h18) ?_;exact lp h;obtain⟨o8,h19,h⟩:=bS h;refine gl (Ox rd h19) ?_;exact lp h
def TX(s1 s2:Int)(s14:List Xc)(s15:Int)(w3:AD)(s7 s16:Int):St:=⟨sp 69 0 [sD 1 dW s1,sD 2 dU s2,bx 3,sD 7 dW s7,sD 14 (D.l Xc.D) s14,sI 15 s15,sI 16 s16],[cL 3 AD.D w3],[]⟩
def TY(s1 s2:Int)(s14:List Xc)(s15:Int)(w3:AD)(o:Int):Ex×St:=(.exit 0,⟨sp 69 0 [sD 7 dW o],[],[]⟩)
theorem aDp(rd:Option Nat)(h:aM7 cG cH d5 cI cV cJ cX=some d6):Lq 69 rd 58 (TX cG cH d5 cI cV cJ cX) ((TY cG cH d5 cI cV) d6):=
 lL (fun s:Int×Int=>TX cG cH d5 cI cV s.1 s.2) (TY cG cH d5 cI cV) (cJ,cX) (fun⟨cJ,cX⟩ o h=>by
 unfold Ge at h
 refine iB 17 h (fun h=>?_) fun h=>?_
 obtain⟨o9,h20,h⟩:=bS h
 refine gl (aDm rd h20) ?_
 exact lb h
 exact lb h) h
theorem aRr(h:Xh cV cG cH=some cI):AL Tryz.prog 69 [.d (AD.D cV),.d (dW cG),.d (dU cH)] [] (.d (dW cI)) []:=by unfold Xh at h;apply g0 (o:=cI);refine gN 15 Xc.D cV.states ?_;obtain⟨o10,h21,h⟩:=bS h;refine gl (aDp none h21) ?_;exact lf h
theorem aFg(rd:Option Nat)(us:List Value)(h:aFf cK cG cH cI cT cJ cX d4 cV dE dF dG=some dH):Lq 39 rd 58346703 ⟨sp 84 0 [(3,.clo (.func 40) [] []),bx 4,rx 8,rx 9,rx 10,sD 11 (D.l dU) cK,sI 12 cG,sD 14 dU cH,sD 15 dW cI,sD 44 (D.l dU) cT,sI 45 cJ,sI 46 cX,sD 64 D.b d4],[cL 4 AD.D cV,rW 8 32 1 dW dE,(9,.map dF.clk (MP.dl dW dW dF)),(10,.map dG.clk (MP.dl dW dU dG)),(997,.vals [] us)],[]⟩ (.normal,⟨sp 84 0 [(3,.clo (.func 40) [] []),bx 4,rx 8,rx 9,rx 10,sD 11 (D.l dU) cK,sI 12 cG,sD 44 (D.l dU) cT,sI 45 cJ,sI 46 cX],[cL 4 AD.D cV,rW 8 32 1 dW dH.1,(9,.map dH.2.1.clk (MP.dl dW dW dH.2.1)),(10,.map dH.2.2.clk (MP.dl dW dU dH.2.2)),(997,.vals [] us)],[]⟩):=by unfold aFf at h;apply g0 (o:=dH);cases d4;replace h:=By h;exact lp h;replace h:=Bz h;refine gW 74 (.me (G7 0 dF cI).clk (MP.dl dW dW (G7 0 dF cI)) (dW (aYw 0 dF cI)) (OM 0 dF cI))<|gW 10067 (.mp (Eg dG cI cH).clk (MP.dl dW dU (Eg dG cI cH)))<|gW 79 (.rwl ((dE++[cI]).map dW)) ?_;obtain⟨h14,h⟩:=cS h;refine gQ h14.1<|gQ (AF dW h14.2) ?_;obtain⟨x7,h15,h⟩:=xS h;refine gG 72 (.el (dW x7)) (AH dW h15)<|gW 10075 (.mp (Ri (G7 0 dF cI) ((OM 0 dF cI:Nat):Int) x7).clk (MP.dl dW dW (Ri (G7 0 dF cI) ((OM 0 dF cI:Nat):Int) x7))) ?_;obtain⟨h16,h⟩:=cS h;refine gQ (aP4 (aLt Tryz.underlying32) dW 0 dF cI h16) ?_;obtain⟨h17,h⟩:=cS h;refine gQ (aP6 dW dW (G7 0 dF cI) ((OM 0 dF cI:Nat):Int) x7 h17)<|gQ (ZO (aLt Tryz.underlying32) dU dG cI cH)<|gQ (Ap dW [cI])<|gQ (Ap dW [cI]) ?_;obtain⟨h18,h⟩:=cS h;refine gQ (Av dW h18)<|gQ (Au dW dE [cI]) ?_;exact lP h [.live [3,4,8,9,10,11,12,44,45,46],.keep [4,9,10,79,997],.ren 79 8,.sort]
theorem aFe(rd:Option Nat)(us:List Value)(h:aFd cK cG cT cH cI cV dE dF dG=some dH):Lq 39 rd 1823334 ⟨sp 84 0 [(3,.clo (.func 40) [] []),bx 4,rx 8,rx 9,rx 10,sD 11 (D.l dU) cK,sI 12 cG,sD 44 (D.l dU) cT,sI 45 cH,sI 46 cI],[cL 4 AD.D cV,rW 8 32 1 dW dE,(9,.map dF.clk (MP.dl dW dW dF)),(10,.map dG.clk (MP.dl dW dU dG)),(997,.vals [] us)],[]⟩ (.normal,⟨sp 84 0 [(3,.clo (.func 40) [] []),bx 4,rx 8,rx 9,rx 10,sD 11 (D.l dU) cK,sI 12 cG,sD 44 (D.l dU) cT,sI 45 cH,sI 46 cI],[cL 4 AD.D cV,rW 8 32 1 dW dH.1,(9,.map dH.2.1.clk (MP.dl dW dW dH.2.1)),(10,.map dH.2.2.clk (MP.dl dW dU dH.2.2)),(997,.vals [] us)],[]⟩):=by unfold aFd at h;apply g0 (o:=dH);refine xX 48 dU h fun x4 h=>?_;obtain⟨h10,h⟩:=cS h;refine gQ h10.1<|gQ (AF dW h10.2) ?_;obtain⟨x5,h11,h⟩:=xS h;refine gG 54 (.el (dW x5)) (AH dW h11) ?_;obtain⟨r6,h12,h⟩:=bS h;refine gC 56 (aRr h12)<|gG 60 (.mg (dW (J4 0 dF r6).1) (J4 0 dF r6).2) (aP5 (aLt Tryz.underlying32) dW 0 dF r6) ?_;obtain⟨o8,h19,h⟩:=bS h;refine gl (aFg rd us h19) ?_;exact lp h
def Uo(us:List Value)(s11:List Int)(s12:Int)(s44:List Int)(s45:Int)(w4:AD)(s46:Int)(w8:List Int)(w9 w10:MP Int Int):St:=⟨sp 84 0 [(3,.clo (.func 40) [] []),bx 4,rx 8,rx 9,rx 10,sD 11 (D.l dU) s11,sI 12 s12,sD 44 (D.l dU) s44,sI 45 s45,sI 46 s46],[cL 4 AD.D w4,rW 8 32 1 dW w8,(9,.map w9.clk (MP.dl dW dW w9)),(10,.map w10.clk (MP.dl dW dU w10)),(997,.vals [] us)],[]⟩
def Up(us:List Value)(s11:List Int)(s12:Int)(s44:List Int)(s45:Int)(w4:AD)(o:(List Int×MP Int Int×MP Int Int)):Ex×St:=(.exit 2,⟨sp 84 0 [(3,.clo (.func 40) [] []),bx 4,rx 8,rx 9,rx 10,sD 11 (D.l dU) s11,sI 12 s12],[cL 4 AD.D w4,rW 8 32 1 dW o.1,(9,.map o.2.1.clk (MP.dl dW dW o.2.1)),(10,.map o.2.2.clk (MP.dl dW dU o.2.2)),(997,.vals [] us)],[]⟩)
theorem aFi(rd:Option Nat)(us:List Value)(h:aNl cK cG cT cH cV cI dE dF dG=some dH):Lq 39 rd 113958 (Uo us cK cG cT cH cV cI dE dF dG) ((Up us cK cG cT cH cV) dH):=
 lL (fun s:Int×List Int×MP Int Int×MP Int Int=>Uo us cK cG cT cH cV s.1 s.2.1 s.2.2.1 s.2.2.2) (Up us cK cG cT cH cV) (cI,dE,dF,dG) (fun⟨cI,dE,dF,dG⟩ o h=>by
 unfold IO at h
 refine iB 47 h (fun h=>?_) fun h=>?_
 obtain⟨o9,h20,h⟩:=bS h
 refine gl (aFe rd us h20) ?_
 exact lb h
 exact lb h) h
def Um(us:List Value)(s11:List Int)(w4:AD)(s12:Int)(w8:List Int)(w9 w10:MP Int Int):St:=⟨sp 84 0 [(3,.clo (.func 40) [] []),bx 4,rx 8,rx 9,rx 10,sD 11 (D.l dU) s11,sI 12 s12],[cL 4 AD.D w4,rW 8 32 1 dW w8,(9,.map w9.clk (MP.dl dW dW w9)),(10,.map w10.clk (MP.dl dW dU w10)),(997,.vals [] us)],[]⟩
def Un(us:List Value)(s11:List Int)(w4:AD)(o:(List Int×MP Int Int×MP Int Int)):Ex×St:=(.exit 0,⟨sp 84 0 [rx 8,rx 9,rx 10],[rW 8 32 1 dW o.1,(9,.map o.2.1.clk (MP.dl dW dW o.2.1)),(10,.map o.2.2.clk (MP.dl dW dU o.2.2)),(997,.vals [] us)],[]⟩)
theorem aFh(rd:Option Nat)(us:List Value)(h:aNk cK cV cG cT dF dG=some dH):Lq 39 rd 890 (Um us cK cV cG cT dF dG) ((Un us cK cV) dH):=
 lL (fun s:Int×List Int×MP Int Int×MP Int Int=>Um us cK cV s.1 s.2.1 s.2.2.1 s.2.2.2) (Un us cK cV) (cG,cT,dF,dG) (fun⟨cG,cT,dF,dG⟩ o h=>by
 unfold IN at h
 refine gN 30 dW cT ?_
 refine iB 31 h (fun h=>?_) fun h=>?_
 obtain⟨h3,h⟩:=cS h
 refine gQ h3.1<|gQ (AF dW h3.2) ?_
 obtain⟨x2,h4,h⟩:=xS h
 refine gG 38 (.el (dW x2)) (AH dW h4) ?_
 obtain⟨r3,h5,h⟩:=bS h
 refine gQ (aUz h5) ?_
 cases r3
 replace h:=By h
 refine gN 45 dU cK<|gW 39 (.ret (.d (D.b false))) ?_
 obtain⟨o10,h21,h⟩:=bS h
 refine gl (aFi rd us h21) ?_
 exact lb h
 replace h:=Bz h
 refine gW 39 (.ret (.d (D.b true)))<|gW 43 (.sl ((cT.take ((AA .add .i64 cG 1)).toNat).map dW)) ?_
 obtain⟨h7,h⟩:=cS h
 refine gQ h7.1<|gQ (aX3 dW h7.2)<|gQ (aSs dW cT (AA .add .i64 cG 1)) ?_
 exact lB h [.live [8,9,10],.keep [9,10,43,997],.ren 43 8,.sort]
 exact lb h) h
theorem aVw(h:Xx cV cU cG=some dJ):AL Tryz.prog 39 [.d (AD.D cV),.d ((D.l X2.D) cU),.d (dW cG),.clo (.func 40) [] []] [] (.tup [.row 0,.row 1,.row 2]) [rW 0 32 1 dW dJ.1,(1,.map dJ.2.1.clk (MP.dl dW dW dJ.2.1)),(2,.map dJ.2.2.clk (MP.dl dW dU dJ.2.2))]:=by unfold Xx at h;refine XG.call (ks:=[]) mixed fun us=>?_;apply g0 (o:=dJ);refine gW 22 .frz<|gW 10023 (.mp (Eg (G8:MP Int Int) cG cG).clk (MP.dl dW dW (Eg (G8:MP Int Int) cG cG))) ?_;obtain⟨r1,h1,h⟩:=bS h;refine gC 20 (aRl h1)<|gQ (Ap dW [cG])<|gQ (ZO (aLt Tryz.underlying32) dW (G8:MP Int Int) cG cG) ?_;obtain⟨o11,h22,h⟩:=bS h;refine gL [.live [3,4,8,9,10,11,12],.keep [4,22,23,27,997],.ren 22 8,.ren 23 9,.ren 27 10,.sort] (aFh none us h22) ?_;exact lX h [.live [8,9,10],.keep [8,9,10,997],.ren 8 0,.ren 9 1,.ren 10 2,.sort]
theorem EK(h:Qc cG=some d4):AL Tryz.prog 139 [.d (dW cG)] [] (.d (D.b d4)) []:=by unfold Qc at h;apply g0 (o:=d4);exact lf h
theorem AS(h:Y9 cG cH=some d4):AL Tryz.prog 103 [.d (dW cG),.d (dW cH)] [] (.d (D.b d4)) []:=by unfold Y9 at h;apply g0 (o:=d4);obtain⟨r1,h1,h⟩:=bS h;refine gQ (EK h1) ?_;cases r1;replace h:=By h;refine gW 6 (.ret (.d (D.b false))) ?_;exact lf h;replace h:=Bz h;refine gW 6 (.ret (.d (D.b true))) ?_;obtain⟨r2,h3,h⟩:=bS h;refine gC 9 (EK h3) ?_;refine iB 12 h (fun h=>?_) fun h=>?_;exact lf h;exact lf h
def Bf(us:List Value)(s1 s2:Int)(s6 s7:Int)(w0:List Int):St:=⟨sp 49 0 [rx 0,sI 1 s1,sI 2 s2,sI 6 s6,sI 7 s7],[rW 0 32 1 dW w0,(997,.vals [.row 0] us)],[]⟩
def Bg(us:List Value)(s1 s2 s6:Int)(o:(List Int)):Ex×St:=(.exit 2,⟨sp 49 0 [rx 0,sI 1 s1,sI 2 s2,sI 6 s6],[rW 0 32 1 dW o,(997,.vals [.row 0] us)],[]⟩)
theorem Cw(rd:Option Nat)(us:List Value)(h:QR cG cH cI cJ cK=some d3):Lq 97 rd 402 (Bf us cG cH cI cJ cK) ((Bg us cG cH cI) d3):=
 lL (fun s:Int×List Int=>Bf us cG cH cI s.1 s.2) (Bg us cG cH cI) (cJ,cK) (fun⟨cJ,cK⟩ o h=>by
 unfold E1 at h
 refine iB 19 h (fun h=>?_) fun h=>?_
 obtain⟨h3,h⟩:=cS h
 refine gQ h3.1<|gQ (AF dW h3.2) ?_
 obtain⟨x1,h4,h⟩:=xS h
 refine gG 23 (.el (dW x1)) (AH dW h4) ?_
 obtain⟨h5,h⟩:=cS h
 refine gQ h5.1<|gQ (AF dW h5.2) ?_
 obtain⟨x2,h6,h⟩:=xS h
 refine gG 28 (.el (dW x2)) (AH dW h6) ?_
 obtain⟨r3,h7,h⟩:=bS h
 refine gQ (AS h7) ?_
 cases r3
 replace h:=By h
 refine gW 29 (.ret (.d (D.b false))) ?_
 exact lb h
 replace h:=Bz h
 refine gW 29 (.ret (.d (D.b true))) ?_
 obtain⟨h9,h⟩:=cS h
 refine gQ h9.1<|gQ (AF dW h9.2) ?_
 obtain⟨x4,h10,h⟩:=xS h
 refine gG 42 (.el (dW x4)) (AH dW h10)<|gW 10047 (.sl ((cK.set cJ.toNat x4).map dW)) ?_
 obtain⟨h11,h⟩:=cS h
 refine gQ h11.1<|gQ (AF dW h11.2) ?_
 obtain⟨x5,h12,h⟩:=xS h
 refine gG 46 (.el (dW x5)) (AH dW h12)<|gW 10048 (.sl (((cK.set cJ.toNat x4).set (AA .sub .i64 cJ 1).toNat x5).map dW)) ?_
 obtain⟨h13,h⟩:=cS h
 refine gQ h13.1<|gQ (AF dW h13.2) ?_
 obtain⟨h14,h⟩:=cS h
 refine gQ (A9 dW h14)<|gQ (AT dW cK cJ x4) ?_
 obtain⟨h15,h⟩:=cS h
 refine gQ h15.1<|gQ (AF dW h15.2) ?_
 obtain⟨h16,h⟩:=cS h
 refine gQ (A9 dW h16)<|gQ (AT dW (cK.set cJ.toNat x4) (AA .sub .i64 cJ 1) x5) ?_
 exact lb h
 exact lb h) h
def Bc(us:List Value)(s1 s2 s6:Int)(w0:List Int):St:=⟨sp 49 0 [rx 0,sI 1 s1,sI 2 s2,sI 6 s6],[rW 0 32 1 dW w0,(997,.vals [.row 0] us)],[]⟩
def Be(us:List Value)(s1 s2:Int)(o:(List Int)):Ex×St:=(.exit 0,⟨sp 49 0 [],[rW 0 32 1 dW o,(997,.vals [.row 0] us)],[]⟩)
theorem Cv(rd:Option Nat)(us:List Value)(h:QQ cG cH cI cK=some d3):Lq 97 rd 6 (Bc us cG cH cI cK) ((Be us cG cH) d3):=
 lL (fun s:Int×List Int=>Bc us cG cH s.1 s.2) (Be us cG cH) (cI,cK) (fun⟨cI,cK⟩ o h=>by
 unfold Gr at h
 refine iB 12 h (fun h=>?_) fun h=>?_
 obtain⟨o6,h17,h⟩:=bS h
 refine gl (Cw rd us h17) ?_
 exact lb h
 exact lb h) h
theorem DE(h:Xv cG cH cK=some cT):AL Tryz.prog 97 [.row 0,dI cG,dI cH] [rW 0 32 1 dW cK] (.tup []) [rW 0 32 1 dW cT]:=by unfold Xv at h;refine XG.call (ks:=[0]) mixed fun us=>?_;apply g0 (o:=cT);obtain⟨o7,h18,h⟩:=bS h;refine gl (Cv none us h18) ?_;exact lX h (lv [] [0,997])
theorem B2(rd:Option Nat)(us:List Value)(h:Ku cG cH cI cJ d4 cK=some cX):Lq 134 rd 397 ⟨sp 76 0 [rx 0,sI 2 cG,sI 3 cH,sI 8 cI,sI 9 cJ,sD 36 D.b d4],[rW 0 32 1 dW cK,(997,.vals [.row 0] us)],[]⟩ (.normal,⟨sp 76 0 [rx 0,sI 2 cG,sI 3 cH,sI 8 cI,sI 9 cX],[rW 0 32 1 dW cK,(997,.vals [.row 0] us)],[]⟩):=by unfold Ku at h;apply g0 (o:=cX);cases d4;replace h:=By h;exact lp h;replace h:=Bz h;exact lp h
theorem DO(rd:Option Nat)(us:List Value)(h:Jw cG cH cI cK=some dK):Lq 134 rd 12 ⟨sp 76 0 [rx 0,sI 2 cG,sI 3 cH,sI 8 cI],[rW 0 32 1 dW cK,(997,.vals [.row 0] us)],[]⟩ (match (generalizing:=false) dK with
 | .inl dK=>(.normal,⟨sp 76 0 [rx 0,sI 2 cG,sI 3 cH,sI 8 dK.1],[rW 0 32 1 dW dK.2,(997,.vals [.row 0] us)],[]⟩)
 | .inr dK=>match (generalizing:=false) dK with
 | .inl dK=>(.exit 0,⟨sp 76 0 [],[rW 0 32 1 dW cK,(997,.vals [.row 0] us)],[]⟩)
 | .inr dK=>(.ret,⟨sp 76 0 [],[rW 0 32 1 dW cK,(997,.vals [.row 0] us)],[]⟩)):=by
 unfold Jw at h
 apply g0 (o:=dK)
 refine iB 16 h (fun h=>?_) fun h=>?_
 exact lp h
 refine iB 21 h (fun h=>?_) fun h=>?_
 obtain⟨h3,h⟩:=cS h
 refine gQ h3.1<|gQ (AF dW h3.2) ?_
 obtain⟨x1,h4,h⟩:=xS h
 refine gG 27 (.el (dW x1)) (AH dW h4) ?_
 obtain⟨h5,h⟩:=cS h
 refine gQ h5.1<|gQ (AF dW h5.2) ?_
 obtain⟨x2,h6,h⟩:=xS h
 refine gG 34 (.el (dW x2)) (AH dW h6) ?_
 obtain⟨r3,h7,h⟩:=bS h
 refine gC 35 (AS h7) ?_
 obtain⟨o4,h9,h⟩:=bS h
 refine gl (B2 rd us h9) ?_
 obtain⟨h10,h⟩:=cS h
 refine gQ h10.1<|gQ (AF dW h10.2) ?_
 obtain⟨x5,h11,h⟩:=xS h
 refine gG 44 (.el (dW x5)) (AH dW h11) ?_
 obtain⟨h12,h⟩:=cS h
 refine gQ h12.1<|gQ (AF dW h12.2) ?_
 obtain⟨x6,h13,h⟩:=xS h
 refine gG 50 (.el (dW x6)) (AH dW h13) ?_
 obtain⟨r7,h14,h⟩:=bS h
 refine gC 51 (AS h14) ?_
 refine iB 52 h (fun h=>?_) fun h=>?_
 exact lp h
 obtain⟨h16,h⟩:=cS h
 refine gQ h16.1<|gQ (AF dW h16.2) ?_
 obtain⟨x8,h17,h⟩:=xS h
 refine gG 66 (.el (dW x8)) (AH dW h17)<|gW 10073 (.sl ((cK.set (AA .add .i64 cH cI).toNat x8).map dW)) ?_
 obtain⟨h18,h⟩:=cS h
 refine gQ h18.1<|gQ (AF dW h18.2) ?_
 obtain⟨x9,h19,h⟩:=xS h
 refine gG 72 (.el (dW x9)) (AH dW h19)<|gW 10074 (.sl (((cK.set (AA .add .i64 cH cI).toNat x8).set (AA .add .i64 cH o4).toNat x9).map dW)) ?_
 obtain⟨h20,h⟩:=cS h
 refine gQ h20.1<|gQ (AF dW h20.2) ?_
 obtain⟨h21,h⟩:=cS h
 refine gQ (A9 dW h21)<|gQ (AT dW cK (AA .add .i64 cH cI) x8) ?_
 obtain⟨h22,h⟩:=cS h
 refine gQ h22.1<|gQ (AF dW h22.2) ?_
 obtain⟨h23,h⟩:=cS h
 refine gQ (A9 dW h23)<|gQ (AT dW (cK.set (AA .add .i64 cH cI).toNat x8) (AA .add .i64 cH o4) x9) ?_
 exact lp h
 obtain⟨o10,h24,h⟩:=bS h
 refine gl (B2 rd us h24) ?_
 obtain⟨h25,h⟩:=cS h
 refine gQ h25.1<|gQ (AF dW h25.2) ?_
 obtain⟨x11,h26,h⟩:=xS h
 refine gG 44 (.el (dW x11)) (AH dW h26) ?_
 obtain⟨h27,h⟩:=cS h
 refine gQ h27.1<|gQ (AF dW h27.2) ?_
 obtain⟨x12,h28,h⟩:=xS h
 refine gG 50 (.el (dW x12)) (AH dW h28) ?_
 obtain⟨r13,h29,h⟩:=bS h
 refine gC 51 (AS h29) ?_
 refine iB 52 h (fun h=>?_) fun h=>?_
 exact lp h
 obtain⟨h31,h⟩:=cS h
 refine gQ h31.1<|gQ (AF dW h31.2) ?_
 obtain⟨x14,h32,h⟩:=xS h
 refine gG 66 (.el (dW x14)) (AH dW h32)<|gW 10073 (.sl ((cK.set (AA .add .i64 cH cI).toNat x14).map dW)) ?_
 obtain⟨h33,h⟩:=cS h
 refine gQ h33.1<|gQ (AF dW h33.2) ?_
 obtain⟨x15,h34,h⟩:=xS h
 refine gG 72 (.el (dW x15)) (AH dW h34)<|gW 10074 (.sl (((cK.set (AA .add .i64 cH cI).toNat x14).set (AA .add .i64 cH o10).toNat x15).map dW)) ?_
 obtain⟨h35,h⟩:=cS h
 refine gQ h35.1<|gQ (AF dW h35.2) ?_
 obtain⟨h36,h⟩:=cS h
 refine gQ (A9 dW h36)<|gQ (AT dW cK (AA .add .i64 cH cI) x14) ?_
 obtain⟨h37,h⟩:=cS h
 refine gQ h37.1<|gQ (AF dW h37.2) ?_
 obtain⟨h38,h⟩:=cS h
 refine gQ (A9 dW h38)<|gQ (AT dW (cK.set (AA .add .i64 cH cI).toNat x14) (AA .add .i64 cH o10) x15) ?_
 exact lp h
def CF(us:List Value)(s2 s3 s8:Int)(w0:List Int):St:=⟨sp 76 0 [rx 0,sI 2 s2,sI 3 s3,sI 8 s8],[rW 0 32 1 dW w0,(997,.vals [.row 0] us)],[]⟩
def CG(us:List Value)(s2 s3:Int)(o:(List Int)⊕(List Int)):Ex×St:=match o with
 | .inl o=>(.exit 0,⟨sp 76 0 [],[rW 0 32 1 dW o,(997,.vals [.row 0] us)],[]⟩)
 | .inr o=>(.ret,⟨sp 76 0 [],[rW 0 32 1 dW o,(997,.vals [.row 0] us)],[]⟩)
theorem DP(rd:Option Nat)(us:List Value)(h:QL cG cH cI cK=some dL):Lq 134 rd 6 (CF us cG cH cI cK) ((CG us cG cH) dL):=
 lL (fun s:Int×List Int=>CF us cG cH s.1 s.2) (CG us cG cH) (cI,cK) (fun⟨cI,cK⟩ o h=>by
 unfold EZ at h
 obtain⟨o16,h39,h⟩:=bS h
 refine gl (DO rd us h39) ?_
 replace h:=AK h
 rcases h with⟨o17,rfl,h⟩|⟨o18,rfl,h⟩
 exact lb h
 replace h:=AK h
 rcases h with⟨o19,rfl,h⟩|⟨o20,rfl,h⟩
 exact lb h
 exact lb h) h
theorem CQ(h:Xp cG cH cI cK=some cT):AL Tryz.prog 134 [.row 0,dI cG,dI cH,dI cI] [rW 0 32 1 dW cK] (.tup []) [rW 0 32 1 dW cT]:=by
 unfold Xp at h;refine XG.call (ks:=[0]) mixed fun us=>?_;apply g0 (o:=cT);obtain⟨o21,h40,h⟩:=bS h;refine gl (DP none us h40) ?_;replace h:=AK h;rcases h with⟨o22,rfl,h⟩|⟨o23,rfl,h⟩
 exact lX h (lv [] [0,997]);exact lX h (lv [] [0,997])
def CB(us:List Value)(s6 s7:Int)(s8 s9:Int)(w0:List Int):St:=⟨sp 56 0 [rx 0,sI 6 s6,sI 7 s7,sI 8 s8,sI 9 s9],[rW 0 32 1 dW w0,(997,.vals [.row 0] us)],[]⟩
def CC(us:List Value)(s6 s7 s8:Int)(o:(List Int)):Ex×St:=(.exit 0,⟨sp 56 0 [rx 0,sI 6 s6,sI 7 s7,sI 8 s8],[rW 0 32 1 dW o,(997,.vals [.row 0] us)],[]⟩)
theorem DM(rd:Option Nat)(us:List Value)(h:QS cG cH cI cJ cK=some d3):Lq 98 rd 122 (CB us cG cH cI cJ cK) ((CC us cG cH cI) d3):=
 lL (fun s:Int×List Int=>CB us cG cH cI s.1 s.2) (CC us cG cH cI) (cJ,cK) (fun⟨cJ,cK⟩ o h=>by
 unfold Gs at h
 refine iB 19 h (fun h=>?_) fun h=>?_
 obtain⟨r1,h2,h⟩:=bS h
 refine gG 26 (.cx false [(0,0)] [] (.tup []) [rW 0 32 1 dW r1]) (CQ h2) ?_
 exact lb h
 exact lb h) h
def CD(us:List Value)(s6 s7 s10:Int)(w0:List Int):St:=⟨sp 56 0 [rx 0,sI 6 s6,sI 7 s7,sI 10 s10],[rW 0 32 1 dW w0,(997,.vals [.row 0] us)],[]⟩
def CE(us:List Value)(s6 s7:Int)(o:(List Int)):Ex×St:=(.exit 2,⟨sp 56 0 [],[rW 0 32 1 dW o,(997,.vals [.row 0] us)],[]⟩)
theorem DN(rd:Option Nat)(us:List Value)(h:QT cG cH cI cK=some d3):Lq 98 rd 126 (CD us cG cH cI cK) ((CE us cG cH) d3):=
 lL (fun s:Int×List Int=>CD us cG cH s.1 s.2) (CE us cG cH) (cI,cK) (fun⟨cI,cK⟩ o h=>by
 unfold Gt at h
 refine iB 30 h (fun h=>?_) fun h=>?_
 obtain⟨h5,h⟩:=cS h
 refine gQ h5.1<|gQ (AF dW h5.2) ?_
 obtain⟨x3,h6,h⟩:=xS h
 refine gG 44 (.el (dW x3)) (AH dW h6)<|gW 10049 (.sl ((cK.set cG.toNat x3).map dW)) ?_
 obtain⟨h7,h⟩:=cS h
 refine gQ h7.1<|gQ (AF dW h7.2) ?_
 obtain⟨x4,h8,h⟩:=xS h
 refine gG 48 (.el (dW x4)) (AH dW h8)<|gW 10050 (.sl (((cK.set cG.toNat x3).set (AA .add .i64 cG cI).toNat x4).map dW)) ?_
 obtain⟨h9,h⟩:=cS h
 refine gQ h9.1<|gQ (AF dW h9.2) ?_
 obtain⟨h10,h⟩:=cS h
 refine gQ (A9 dW h10)<|gQ (AT dW cK cG x3) ?_
 obtain⟨h11,h⟩:=cS h
 refine gQ h11.1<|gQ (AF dW h11.2) ?_
 obtain⟨h12,h⟩:=cS h
 refine gQ (A9 dW h12)<|gQ (AT dW (cK.set cG.toNat x3) (AA .add .i64 cG cI) x4) ?_
 obtain⟨r5,h13,h⟩:=bS h
 refine gG 55 (.cx false [(0,0)] [] (.tup []) [rW 0 32 1 dW r5]) (CQ h13) ?_
 exact lb h
 exact lb h) h
theorem Dm(h:Xw cG cH cK=some cT):AL Tryz.prog 98 [.row 0,dI cG,dI cH] [rW 0 32 1 dW cK] (.tup []) [rW 0 32 1 dW cT]:=by unfold Xw at h;refine XG.call (ks:=[0]) mixed fun us=>?_;apply g0 (o:=cT);refine gQ (of_decide_eq_true rfl:(2:Int)≠0) ?_;obtain⟨o2,h3,h⟩:=bS h;refine gl (DM none us h3) ?_;obtain⟨o6,h14,h⟩:=bS h;refine gl (DN none us h14) ?_;exact lX h (lv [] [0,997])
theorem Ct(rd:Option Nat)(us:List Value)(h:Nc cG cH cI cJ cX d4 cK d6=some d7):Lq 99 rd 30501 ⟨sp 65 0 [rx 0,sI 1 cG,sI 6 cH,bx 7,sD 8 dU cI,sI 9 cJ,sI 10 cX,sD 43 D.b d4],[rW 0 32 1 dW cK,(7,.cells ([.d (dU d6)])),(997,.vals [.row 0] us)],[]⟩ (.normal,⟨sp 65 0 [rx 0,sI 1 cG,sI 6 cH,bx 7,sD 8 dU cI,sI 9 cJ,sI 10 d7],[rW 0 32 1 dW cK,(7,.cells ([.d (dU d6)])),(997,.vals [.row 0] us)],[]⟩):=by unfold Nc at h;apply g0 (o:=d7);cases d4;replace h:=By h;exact lp h;replace h:=Bz h;exact lp h
theorem Cs(rd:Option Nat)(us:List Value)(h:QO cG cH cI cJ cK cX=some dM):Lq 99 rd 1906 ⟨sp 65 0 [rx 0,sI 1 cG,sI 6 cH,bx 7,sD 8 dU cI,sI 9 cJ],[rW 0 32 1 dW cK,(7,.cells ([.d (dU cX)])),(997,.vals [.row 0] us)],[]⟩ (.normal,⟨sp 65 0 [rx 0,sI 1 cG,sI 6 cH,bx 7,sD 8 dU cI,sI 9 cJ],[rW 0 32 1 dW dM.1,(7,.cells ([.d (dU dM.2)])),(997,.vals [.row 0] us)],[]⟩):=by unfold QO at h;apply g0 (o:=dM);obtain⟨r2,h4,h⟩:=bS h;refine gG 36 (.cx false [(0,7)] [] (.d (dU r2.1)) [(0,.cells ([.d (dU r2.2)]))]) (aRi h4) ?_;obtain⟨o3,h6,h⟩:=bS h;refine gl (Ct rd us h6) ?_;obtain⟨h7,h⟩:=cS h;refine gQ h7.1<|gQ (AF dW h7.2) ?_;obtain⟨x4,h8,h⟩:=xS h;refine gG 58 (.el (dW x4)) (AH dW h8)<|gW 10063 (.sl ((cK.set cJ.toNat x4).map dW)) ?_;obtain⟨h9,h⟩:=cS h;refine gQ h9.1<|gQ (AF dW h9.2) ?_;obtain⟨x5,h10,h⟩:=xS h;refine gG 62 (.el (dW x5)) (AH dW h10)<|gW 10064 (.sl (((cK.set cJ.toNat x4).set (AA .add .i64 cG o3).toNat x5).map dW)) ?_;obtain⟨h11,h⟩:=cS h;refine gQ h11.1<|gQ (AF dW h11.2) ?_;obtain⟨h12,h⟩:=cS h;refine gQ (A9 dW h12)<|gQ (AT dW cK cJ x4) ?_;obtain⟨h13,h⟩:=cS h;refine gQ h13.1<|gQ (AF dW h13.2) ?_;obtain⟨h14,h⟩:=cS h;refine gQ (A9 dW h14)<|gQ (AT dW (cK.set cJ.toNat x4) (AA .add .i64 cG o3) x5) ?_;exact lp h
def Ba(us:List Value)(s1 s6:Int)(s8 s9:Int)(w0:List Int)(w7:Int):St:=⟨sp 65 0 [rx 0,sI 1 s1,sI 6 s6,bx 7,sD 8 dU s8,sI 9 s9],[rW 0 32 1 dW w0,(7,.cells ([.d (dU w7)])),(997,.vals [.row 0] us)],[]⟩
def Bb(us:List Value)(s1 s6 s8:Int)(o:(List Int)):Ex×St:=(.exit 0,⟨sp 65 0 [],[rW 0 32 1 dW o,(997,.vals [.row 0] us)],[]⟩)
theorem Cu(rd:Option Nat)(us:List Value)(h:QP cG cH cI cJ cK cX=some d3):Lq 99 rd 238 (Ba us cG cH cI cJ cK cX) ((Bb us cG cH cI) d3):=
 lL (fun s:Int×List Int×Int=>Ba us cG cH cI s.1 s.2.1 s.2.2) (Bb us cG cH cI) (cJ,cK,cX) (fun⟨cJ,cK,cX⟩ o h=>by
 unfold Gp at h
 refine gQ (of_decide_eq_true rfl:(4:Int)≠0) ?_
 refine iB 33 h (fun h=>?_) fun h=>?_
 obtain⟨o6,h15,h⟩:=bS h
 refine gl (Cs rd us h15) ?_
 exact lb h
 exact lb h) h
theorem Cr(rd:Option Nat)(us:List Value)(h:QN cG cH d4 cK=some d3):Lq 99 rd 7 ⟨sp 65 0 [rx 0,sI 1 cG,sI 6 cH,sD 15 D.b d4],[rW 0 32 1 dW cK,(997,.vals [.row 0] us)],[]⟩ (.normal,⟨sp 65 0 [],[rW 0 32 1 dW d3,(997,.vals [.row 0] us)],[]⟩):=by unfold QN at h;apply g0 (o:=d3);cases d4;replace h:=By h;exact lp h;replace h:=Bz h;obtain⟨r1,h2,h⟩:=bS h;refine gC 19 (aRh h2)<|gQ (of_decide_eq_true rfl:(4:Int)≠0) ?_;obtain⟨o7,h16,h⟩:=bS h;refine gl (Cu rd us h16) ?_;exact lp h
theorem DD(h:Xs cG cH cK=some cT):AL Tryz.prog 99 [.row 0,dI cG,dI cH] [rW 0 32 1 dW cK] (.tup []) [rW 0 32 1 dW cT]:=by unfold Xs at h;refine XG.call (ks:=[0]) mixed fun us=>?_;apply g0 (o:=cT);obtain⟨o8,h17,h⟩:=bS h;refine gl (Cr none us h17) ?_;exact lX h (lv [] [0,997])
theorem BJ(h:Zv cK cG cH cI=some dN):AL Tryz.prog 164 [.d ((D.l dW) cK),dI cG,dI cH,.box 0 0] [(0,.cells ([dI cI]))] (.tup [dI dN.1,dI dN.2.1]) [(0,.cells ([dI dN.2.2]))]:=by unfold Zv at h;refine XG.call (ks:=[3]) mixed fun us=>?_;apply g0 (o:=dN);refine xX 12 dW h fun x1 h=>?_;refine xX 16 dW h fun x2 h=>?_;obtain⟨r3,h3,h⟩:=bS h;refine gQ (AS h3) ?_;cases r3;replace h:=By h;refine gW 18 (.ret (.d (D.b false))) ?_;exact lX h (lv [8,9] [0,997]);replace h:=Bz h;refine gW 18 (.ret (.d (D.b true))) ?_;exact lX h (lv [8,9] [0,997])
theorem CJ(h:Q3 cK cG cH cI cJ=some dO):AL Tryz.prog 138 [.d ((D.l dW) cK),dI cG,dI cH,dI cI,.box 0 0] [(0,.cells ([dI cJ]))] (dI dO.1) [(0,.cells ([dI dO.2]))]:=by unfold Q3 at h;refine XG.call (ks:=[4]) mixed fun us=>?_;apply g0 (o:=dO);obtain⟨r1,h1,h⟩:=bS h;refine gG 16 (.cx false [(0,0)] [] (.tup [dI r1.1,dI r1.2.1]) [(0,.cells ([dI r1.2.2]))]) (BJ h1) ?_;obtain⟨r2,h2,h⟩:=bS h;refine gG 24 (.cx false [(0,0)] [] (.tup [dI r2.1,dI r2.2.1]) [(0,.cells ([dI r2.2.2]))]) (BJ h2) ?_;obtain⟨r3,h3,h⟩:=bS h;refine gG 32 (.cx false [(0,0)] [] (.tup [dI r3.1,dI r3.2.1]) [(0,.cells ([dI r3.2.2]))]) (BJ h3) ?_;exact lX h (lv [10] [0,997])
theorem As(h:Zw cK cG cH=some dO):AL Tryz.prog 137 [.d ((D.l dW) cK),dI cG,.box 0 0] [(0,.cells ([dI cH]))] (dI dO.1) [(0,.cells ([dI dO.2]))]:=by unfold Zw at h;refine XG.call (ks:=[2]) mixed fun us=>?_;apply g0 (o:=dO);obtain⟨r1,h1,h⟩:=bS h;refine gG 14 (.cx false [(0,0)] [] (dI r1.1) [(0,.cells ([dI r1.2]))]) (CJ h1) ?_;exact lX h (lv [6] [0,997])
theorem DC(rd:Option Nat)(h:Nf cK cG cH cI d4 cJ=some dP):Lq 100 rd 4073 ⟨sp 57 0 [sD 0 (D.l dW) cK,bx 9,sI 10 cG,sI 11 cH,sI 12 cI,sD 34 D.b d4],[(9,.cells ([dI cJ]))],[]⟩ (.normal,⟨sp 57 0 [sD 0 (D.l dW) cK,bx 9,sI 10 dP.1,sI 11 dP.2.1,sI 12 dP.2.2.1],[(9,.cells ([dI dP.2.2.2]))],[]⟩):=by unfold Nf at h;apply g0 (o:=dP);cases d4;replace h:=By h;exact lp h;replace h:=Bz h;obtain⟨r1,h3,h⟩:=bS h;refine gG 37 (.cx false [(0,9)] [] (dI r1.1) [(0,.cells ([dI r1.2]))]) (As h3) ?_;obtain⟨r2,h4,h⟩:=bS h;refine gG 40 (.cx false [(0,9)] [] (dI r2.1) [(0,.cells ([dI r2.2]))]) (As h4) ?_;obtain⟨r3,h5,h⟩:=bS h;refine gG 43 (.cx false [(0,9)] [] (dI r3.1) [(0,.cells ([dI r3.2]))]) (As h5) ?_;exact lp h
theorem DB(rd:Option Nat)(h:QY cK cG cH cI cJ d4 cX=some dQ):Lq 100 rd 509 ⟨sp 57 0 [sD 0 (D.l dW) cK,sI 8 cG,bx 9,sI 10 cH,sI 11 cI,sI 12 cJ,sD 32 D.b d4],[(9,.cells ([dI cX]))],[]⟩ (.normal,⟨sp 57 0 [bx 9,sI 11 dQ.1],[(9,.cells ([dI dQ.2]))],[]⟩):=by unfold QY at h;apply g0 (o:=dQ);cases d4;replace h:=By h;exact lp h;replace h:=Bz h;obtain⟨o4,h6,h⟩:=bS h;refine gl (DC rd h6) ?_;obtain⟨r5,h7,h⟩:=bS h;refine gG 48 (.cx false [(0,9)] [] (dI r5.1) [(0,.cells ([dI r5.2]))]) (CJ h7) ?_;exact lp h
theorem DL(h:Yw cK cG cH=some dO):AL Tryz.prog 100 [.d ((D.l dW) cK),dI cG,dI cH] [] (.tup [dI dO.1,dI dO.2]) []:=by unfold Yw at h;apply g0 (o:=dO);refine gQ (of_decide_eq_true rfl:(4:Int)≠0)<|gQ (of_decide_eq_true rfl:(4:Int)≠0)<|gQ (of_decide_eq_true rfl:(4:Int)≠0) ?_;obtain⟨o6,h8,h⟩:=bS h;refine gl (DB none h8) ?_;refine iB 51 h (fun h=>?_) fun h=>?_;exact lf h;refine iB 54 h (fun h=>?_) fun h=>?_;exact lf h;exact lf h
def Bs(us:List Value)(s6 s7:Int)(w0:List Int):St:=⟨sp 32 0 [rx 0,sI 6 s6,sI 7 s7],[rW 0 32 1 dW w0,(997,.vals [.row 0] us)],[]⟩
def Bt(us:List Value)(o:(List Int)):Ex×St:=(.exit 0,⟨sp 32 0 [],[rW 0 32 1 dW o,(997,.vals [.row 0] us)],[]⟩)
theorem C5(rd:Option Nat)(us:List Value)(h:QX cG cH cK=some d3):Lq 101 rd 14 (Bs us cG cH cK) ((Bt us) d3):=
 lL (fun s:Int×Int×List Int=>Bs us s.1 s.2.1 s.2.2) (Bt us) (cG,cH,cK) (fun⟨cG,cH,cK⟩ o h=>by
 unfold Ij at h
 refine iB 13 h (fun h=>?_) fun h=>?_
 obtain⟨h2,h⟩:=cS h
 refine gQ h2.1<|gQ (AF dW h2.2) ?_
 obtain⟨x1,h3,h⟩:=xS h
 refine gG 21 (.el (dW x1)) (AH dW h3)<|gW 10026 (.sl ((cK.set cG.toNat x1).map dW)) ?_
 obtain⟨h4,h⟩:=cS h
 refine gQ h4.1<|gQ (AF dW h4.2) ?_
 obtain⟨x2,h5,h⟩:=xS h
 refine gG 25 (.el (dW x2)) (AH dW h5)<|gW 10027 (.sl (((cK.set cG.toNat x1).set cH.toNat x2).map dW)) ?_
 obtain⟨h6,h⟩:=cS h
 refine gQ h6.1<|gQ (AF dW h6.2) ?_
 obtain⟨h7,h⟩:=cS h
 refine gQ (A9 dW h7)<|gQ (AT dW cK cG x1) ?_
 obtain⟨h8,h⟩:=cS h
 refine gQ h8.1<|gQ (AF dW h8.2) ?_
 obtain⟨h9,h⟩:=cS h
 refine gQ (A9 dW h9)<|gQ (AT dW (cK.set cG.toNat x1) cH x2) ?_
 exact lb h
 exact lb h) h
theorem DI(h:Yo cG cH cK=some cT):AL Tryz.prog 101 [.row 0,dI cG,dI cH] [rW 0 32 1 dW cK] (.tup []) [rW 0 32 1 dW cT]:=by unfold Yo at h;refine XG.call (ks:=[0]) mixed fun us=>?_;apply g0 (o:=cT);obtain⟨o3,h10,h⟩:=bS h;refine gl (C5 none us h10) ?_;exact lX h (lv [] [0,997])
def A0(us:List Value)(s1 s2 s8:Int)(w0:List Int)(s7:Int):St:=⟨sp 133 0 [rx 0,sI 1 s1,sI 2 s2,sI 7 s7,sI 8 s8],[rW 0 32 1 dW w0,(997,.vals [.row 0] us)],[]⟩
def A3(us:List Value)(s1 s2 s8:Int)(w0:List Int)(o:Int):Ex×St:=(.exit 2,⟨sp 133 0 [rx 0,sI 1 s1,sI 2 s2,sI 7 o,sI 8 s8],[rW 0 32 1 dW w0,(997,.vals [.row 0] us)],[]⟩)
theorem B8(rd:Option Nat)(us:List Value)(h:QB cG cH cI cK cJ=some cX):Lq 102 rd 3728 (A0 us cG cH cI cK cJ) ((A3 us cG cH cI cK) cX):=
 lL (fun s:Int=>A0 us cG cH cI cK s) (A3 us cG cH cI cK) cJ (fun cJ o h=>by
 unfold GW at h
 refine iB 20 h (fun h=>?_) fun h=>?_
 obtain⟨h3,h⟩:=cS h
 refine gQ h3.1<|gQ (AF dW h3.2) ?_
 obtain⟨x1,h4,h⟩:=xS h
 refine gG 24 (.el (dW x1)) (AH dW h4) ?_
 obtain⟨h5,h⟩:=cS h
 refine gQ h5.1<|gQ (AF dW h5.2) ?_
 obtain⟨x2,h6,h⟩:=xS h
 refine gG 29 (.el (dW x2)) (AH dW h6) ?_
 obtain⟨r3,h7,h⟩:=bS h
 refine gC 30 (AS h7) ?_
 refine iB 32 h (fun h=>?_) fun h=>?_
 exact lb h
 exact lb h
 exact lb h) h
def A4(us:List Value)(s1 s2:Int)(s7 s8 s9:Int)(w0:List Int):St:=⟨sp 133 0 [rx 0,sI 1 s1,sI 2 s2,sI 7 s7,sI 8 s8,sI 9 s9],[rW 0 32 1 dW w0,(997,.vals [.row 0] us)],[]⟩
def A5(us:List Value)(s1 s2:Int)(s7 s8:Int)(o:(List Int)):Ex×St:=(.exit 4,⟨sp 133 0 [rx 0,sI 1 s1,sI 2 s2,sI 7 s7,sI 8 s8],[rW 0 32 1 dW o,(997,.vals [.row 0] us)],[]⟩)
theorem B9(rd:Option Nat)(us:List Value)(h:QC cG cH cI cJ cX cK=some d3):Lq 102 rd 477674 (A4 us cG cH cI cJ cX cK) ((A5 us cG cH cI cJ) d3):=
 lL (fun s:Int×List Int=>A4 us cG cH cI cJ s.1 s.2) (A5 us cG cH cI cJ) (cX,cK) (fun⟨cX,cK⟩ o h=>by
 unfold GX at h
 refine iB 65 h (fun h=>?_) fun h=>?_
 obtain⟨h22,h⟩:=cS h
 refine gQ h22.1<|gQ (AF dW h22.2) ?_
 obtain⟨x7,h23,h⟩:=xS h
 refine gG 71 (.el (dW x7)) (AH dW h23) ?_
 obtain⟨h24,h⟩:=cS h
 refine gQ h24.1<|gQ (AF dW h24.2) ?_
 obtain⟨x8,h25,h⟩:=xS h
 refine gG 76 (.el (dW x8)) (AH dW h25) ?_
 obtain⟨r9,h26,h⟩:=bS h
 refine gC 77 (AS h26) ?_
 refine iB 78 h (fun h=>?_) fun h=>?_
 exact lb h
 obtain⟨h28,h⟩:=cS h
 refine gQ h28.1<|gQ (AF dW h28.2) ?_
 obtain⟨x10,h29,h⟩:=xS h
 refine gG 88 (.el (dW x10)) (AH dW h29)<|gW 10093 (.sl ((cK.set cX.toNat x10).map dW)) ?_
 obtain⟨h30,h⟩:=cS h
 refine gQ h30.1<|gQ (AF dW h30.2) ?_
 obtain⟨x11,h31,h⟩:=xS h
 refine gG 92 (.el (dW x11)) (AH dW h31)<|gW 10094 (.sl (((cK.set cX.toNat x10).set (AA .sub .i64 cX 1).toNat x11).map dW)) ?_
 obtain⟨h32,h⟩:=cS h
 refine gQ h32.1<|gQ (AF dW h32.2) ?_
 obtain⟨h33,h⟩:=cS h
 refine gQ (A9 dW h33)<|gQ (AT dW cK cX x10) ?_
 obtain⟨h34,h⟩:=cS h
 refine gQ h34.1<|gQ (AF dW h34.2) ?_
 obtain⟨h35,h⟩:=cS h
 refine gQ (A9 dW h35)<|gQ (AT dW (cK.set cX.toNat x10) (AA .sub .i64 cX 1) x11) ?_
 exact lb h
 exact lb h) h
theorem B4(rd:Option Nat)(us:List Value)(h:NQ cG cH cI cJ d4 cK=some d3):Lq 102 rd 59709 ⟨sp 133 0 [rx 0,sI 1 cG,sI 2 cH,sI 7 cI,sI 8 cJ,sD 61 D.b d4],[rW 0 32 1 dW cK,(997,.vals [.row 0] us)],[]⟩ (.normal,⟨sp 133 0 [rx 0,sI 1 cG,sI 2 cH,sI 7 cI,sI 8 cJ],[rW 0 32 1 dW d3,(997,.vals [.row 0] us)],[]⟩):=by unfold NQ at h;apply g0 (o:=d3);cases d4;replace h:=By h;exact lp h;replace h:=Bz h;obtain⟨o12,h36,h⟩:=bS h;refine gl (B9 rd us h36) ?_;exact lp h
def A6(us:List Value)(s1 s2:Int)(s7 s8 s10:Int)(w0:List Int):St:=⟨sp 133 0 [rx 0,sI 1 s1,sI 2 s2,sI 7 s7,sI 8 s8,sI 10 s10],[rW 0 32 1 dW w0,(997,.vals [.row 0] us)],[]⟩
def A7(us:List Value)(s1 s2:Int)(s7 s8:Int)(o:(List Int)):Ex×St:=(.exit 6,⟨sp 133 0 [rx 0,sI 1 s1,sI 2 s2,sI 7 s7,sI 8 s8],[rW 0 32 1 dW o,(997,.vals [.row 0] us)],[]⟩)
theorem CA(rd:Option Nat)(us:List Value)(h:QD cG cH cI cJ cX cK=some d3):Lq 102 rd 477690 (A6 us cG cH cI cJ cX cK) ((A7 us cG cH cI cJ) d3):=
 lL (fun s:Int×List Int=>A6 us cG cH cI cJ s.1 s.2) (A7 us cG cH cI cJ) (cX,cK) (fun⟨cX,cK⟩ o h=>by
 unfold GY at h
 refine iB 103 h (fun h=>?_) fun h=>?_
 obtain⟨h40,h⟩:=cS h
 refine gQ h40.1<|gQ (AF dW h40.2) ?_
 obtain⟨x14,h41,h⟩:=xS h
 refine gG 109 (.el (dW x14)) (AH dW h41) ?_
 obtain⟨h42,h⟩:=cS h
 refine gQ h42.1<|gQ (AF dW h42.2) ?_
 obtain⟨x15,h43,h⟩:=xS h
 refine gG 114 (.el (dW x15)) (AH dW h43) ?_
 obtain⟨r16,h44,h⟩:=bS h
 refine gC 115 (AS h44) ?_
 refine iB 116 h (fun h=>?_) fun h=>?_
 exact lb h
 obtain⟨h46,h⟩:=cS h
 refine gQ h46.1<|gQ (AF dW h46.2) ?_
 obtain⟨x17,h47,h⟩:=xS h
 refine gG 126 (.el (dW x17)) (AH dW h47)<|gW 10131 (.sl ((cK.set cX.toNat x17).map dW)) ?_
 obtain⟨h48,h⟩:=cS h
 refine gQ h48.1<|gQ (AF dW h48.2) ?_
 obtain⟨x18,h49,h⟩:=xS h
 refine gG 130 (.el (dW x18)) (AH dW h49)<|gW 10132 (.sl (((cK.set cX.toNat x17).set (AA .sub .i64 cX 1).toNat x18).map dW)) ?_
 obtain⟨h50,h⟩:=cS h
 refine gQ h50.1<|gQ (AF dW h50.2) ?_
 obtain⟨h51,h⟩:=cS h
 refine gQ (A9 dW h51)<|gQ (AT dW cK cX x17) ?_
 obtain⟨h52,h⟩:=cS h
 refine gQ h52.1<|gQ (AF dW h52.2) ?_
 obtain⟨h53,h⟩:=cS h
 refine gQ (A9 dW h53)<|gQ (AT dW (cK.set cX.toNat x17) (AA .sub .i64 cX 1) x18) ?_
 exact lb h
 exact lb h) h
theorem B5(rd:Option Nat)(us:List Value)(h:NR cG cH cI cJ d4 cK=some d3):Lq 102 rd 59711 ⟨sp 133 0 [rx 0,sI 1 cG,sI 2 cH,sI 7 cI,sI 8 cJ,sD 98 D.b d4],[rW 0 32 1 dW cK,(997,.vals [.row 0] us)],[]⟩ (.normal,⟨sp 133 0 [rx 0,sI 1 cG,sI 2 cH,sI 7 cI,sI 8 cJ],[rW 0 32 1 dW d3,(997,.vals [.row 0] us)],[]⟩):=by unfold NR at h;apply g0 (o:=d3);cases d4;replace h:=By h;exact lp h;replace h:=Bz h;obtain⟨o19,h54,h⟩:=bS h;refine gl (CA rd us h54) ?_;exact lp h
theorem B3(rd:Option Nat)(us:List Value)(h:QA cG cH cI cJ cK=some cM):Lq 102 rd 466 ⟨sp 133 0 [rx 0,sI 1 cG,sI 2 cH,sI 7 cI,sI 8 cJ],[rW 0 32 1 dW cK,(997,.vals [.row 0] us)],[]⟩ (match (generalizing:=false) cM with
 | .inl cM=>(.normal,⟨sp 133 0 [rx 0,sI 1 cG,sI 2 cH,sI 7 cM.1,sI 8 cJ],[rW 0 32 1 dW cM.2,(997,.vals [.row 0] us)],[]⟩)
 | .inr cM=>(.ret,⟨sp 133 0 [sD 6 D.b cM],[rW 0 32 1 dW cK,(997,.vals [.row 0] us)],[]⟩)):=by
 unfold QA at h
 apply g0 (o:=cM)
 obtain⟨o4,h9,h⟩:=bS h
 refine gl (B8 rd us h9) ?_
 refine iB 37 h (fun h=>?_) fun h=>?_
 exact lp h
 refine iB 41 h (fun h=>?_) fun h=>?_
 exact lp h
 obtain⟨h12,h⟩:=cS h
 refine gQ h12.1<|gQ (AF dW h12.2) ?_
 obtain⟨x5,h13,h⟩:=xS h
 refine gG 51 (.el (dW x5)) (AH dW h13)<|gW 10056 (.sl ((cK.set o4.toNat x5).map dW)) ?_
 obtain⟨h14,h⟩:=cS h
 refine gQ h14.1<|gQ (AF dW h14.2) ?_
 obtain⟨x6,h15,h⟩:=xS h
 refine gG 55 (.el (dW x6)) (AH dW h15)<|gW 10057 (.sl (((cK.set o4.toNat x5).set (AA .sub .i64 o4 1).toNat x6).map dW)) ?_
 obtain⟨h16,h⟩:=cS h
 refine gQ h16.1<|gQ (AF dW h16.2) ?_
 obtain⟨h17,h⟩:=cS h
 refine gQ (A9 dW h17)<|gQ (AT dW cK o4 x5) ?_
 obtain⟨h18,h⟩:=cS h
 refine gQ h18.1<|gQ (AF dW h18.2) ?_
 obtain⟨h19,h⟩:=cS h
 refine gQ (A9 dW h19)<|gQ (AT dW (cK.set o4.toNat x5) (AA .sub .i64 o4 1) x6) ?_
 obtain⟨o13,h37,h⟩:=bS h
 refine gl (B4 rd us h37) ?_
 obtain⟨o20,h55,h⟩:=bS h
 refine gl (B5 rd us h55) ?_
 exact lp h
def Ay(us:List Value)(s1 s2:Int)(s7 s8:Int)(w0:List Int):St:=⟨sp 133 0 [rx 0,sI 1 s1,sI 2 s2,sI 7 s7,sI 8 s8],[rW 0 32 1 dW w0,(997,.vals [.row 0] us)],[]⟩
def Az(us:List Value)(s1 s2:Int)(o:(List Int)⊕(Bool×List Int)):Ex×St:=match o with
 | .inl o=>(.exit 0,⟨sp 133 0 [],[rW 0 32 1 dW o,(997,.vals [.row 0] us)],[]⟩)
 | .inr o=>(.ret,⟨sp 133 0 [sD 6 D.b o.1],[rW 0 32 1 dW o.2,(997,.vals [.row 0] us)],[]⟩)
theorem B6(rd:Option Nat)(us:List Value)(h:NS cG cH cI cJ cK=some cN):Lq 102 rd 58 (Ay us cG cH cI cJ cK) ((Az us cG cH) cN):=
 lL (fun s:Int×Int×List Int=>Ay us cG cH s.1 s.2.1 s.2.2) (Az us cG cH) (cI,cJ,cK) (fun⟨cI,cJ,cK⟩ o h=>by
 unfold GV at h
 refine iB 14 h (fun h=>?_) fun h=>?_
 obtain⟨o21,h56,h⟩:=bS h
 refine gl (B3 rd us h56) ?_
 replace h:=AK h
 rcases h with⟨o22,rfl,h⟩|⟨o23,rfl,h⟩
 exact lb h
 exact lb h
 exact lb h) h
theorem CP(h:X5 cG cH cK=some cO):AL Tryz.prog 102 [.row 0,dI cG,dI cH] [rW 0 32 1 dW cK] (.d (D.b cO.1)) [rW 0 32 1 dW cO.2]:=by
 unfold X5 at h;refine XG.call (ks:=[0]) mixed fun us=>?_;apply g0 (o:=cO);obtain⟨o24,h57,h⟩:=bS h;refine gl (B6 none us h57) ?_;replace h:=AK h;rcases h with⟨o25,rfl,h⟩|⟨o26,rfl,h⟩
 exact lX h (lv [6] [0,997]);exact lX h (lv [6] [0,997])
def BM(us:List Value)(s1 s10:Int)(w0:List Int)(s9:Int):St:=⟨sp 84 0 [rx 0,sI 1 s1,sI 9 s9,sI 10 s10],[rW 0 32 1 dW w0,(997,.vals [.row 0] us)],[]⟩
def BN(us:List Value)(s1 s10:Int)(w0:List Int)(o:Int):Ex×St:=(.exit 2,⟨sp 84 0 [rx 0,sI 1 s1,sI 9 o,sI 10 s10],[rW 0 32 1 dW w0,(997,.vals [.row 0] us)],[]⟩)
theorem Ca(rd:Option Nat)(us:List Value)(h:QI cG cH cK cI=some cJ):Lq 104 rd 960 (BM us cG cH cK cI) ((BN us cG cH cK) cJ):=
 lL (fun s:Int=>BM us cG cH cK s) (BN us cG cH cK) cI (fun cI o h=>by
 unfold Gb at h
 refine iB 32 h (fun h=>?_) fun h=>?_
 obtain⟨h10,h⟩:=cS h
 refine gQ h10.1<|gQ (AF dW h10.2) ?_
 obtain⟨x3,h11,h⟩:=xS h
 refine gG 36 (.el (dW x3)) (AH dW h11) ?_
 obtain⟨h12,h⟩:=cS h
 refine gQ h12.1<|gQ (AF dW h12.2) ?_
 obtain⟨x4,h13,h⟩:=xS h
 refine gG 40 (.el (dW x4)) (AH dW h13) ?_
 obtain⟨r5,h14,h⟩:=bS h
 refine gC 41 (AS h14) ?_
 refine iB 43 h (fun h=>?_) fun h=>?_
 exact lb h
 exact lb h
 exact lb h) h
def BO(us:List Value)(s1 s9:Int)(w0:List Int)(s10:Int):St:=⟨sp 84 0 [rx 0,sI 1 s1,sI 9 s9,sI 10 s10],[rW 0 32 1 dW w0,(997,.vals [.row 0] us)],[]⟩
def BP(us:List Value)(s1 s9:Int)(w0:List Int)(o:Int):Ex×St:=(.exit 4,⟨sp 84 0 [rx 0,sI 1 s1,sI 9 s9,sI 10 o],[rW 0 32 1 dW w0,(997,.vals [.row 0] us)],[]⟩)
theorem Cb(rd:Option Nat)(us:List Value)(h:QJ cG cH cK cI=some cJ):Lq 104 rd 1924 (BO us cG cH cK cI) ((BP us cG cH cK) cJ):=
 lL (fun s:Int=>BO us cG cH cK s) (BP us cG cH cK) cI (fun cI o h=>by
 unfold Gc at h
 refine iB 49 h (fun h=>?_) fun h=>?_
 obtain⟨h18,h⟩:=cS h
 refine gQ h18.1<|gQ (AF dW h18.2) ?_
 obtain⟨x7,h19,h⟩:=xS h
 refine gG 53 (.el (dW x7)) (AH dW h19) ?_
 obtain⟨h20,h⟩:=cS h
 refine gQ h20.1<|gQ (AF dW h20.2) ?_
 obtain⟨x8,h21,h⟩:=xS h
 refine gG 57 (.el (dW x8)) (AH dW h21) ?_
 obtain⟨r9,h22,h⟩:=bS h
 refine gQ (AS h22) ?_
 cases r9
 replace h:=By h
 refine gW 58 (.ret (.d (D.b false))) ?_
 exact lb h
 replace h:=Bz h
 refine gW 58 (.ret (.d (D.b true))) ?_
 exact lb h
 exact lb h) h
def BK(us:List Value)(s1 s9 s10:Int)(w0:List Int):St:=⟨sp 84 0 [rx 0,sI 1 s1,sI 9 s9,sI 10 s10],[rW 0 32 1 dW w0,(997,.vals [.row 0] us)],[]⟩
def BL(us:List Value)(s1:Int)(o:(Int×List Int)):Ex×St:=(.exit 0,⟨sp 84 0 [sI 9 o.1],[rW 0 32 1 dW o.2,(997,.vals [.row 0] us)],[]⟩)
theorem CZ(rd:Option Nat)(us:List Value)(h:QH cG cH cI cK=some cP):Lq 104 rd 60 (BK us cG cH cI cK) ((BL us cG) cP):=
 lL (fun s:Int×Int×List Int=>BK us cG s.1 s.2.1 s.2.2) (BL us cG) (cH,cI,cK) (fun⟨cH,cI,cK⟩ o h=>by
 unfold H7 at h
 obtain⟨o6,h16,h⟩:=bS h
 refine gl (Ca rd us h16) ?_
 obtain⟨o10,h24,h⟩:=bS h
 refine gl (Cb rd us h24) ?_
 refine iB 64 h (fun h=>?_) fun h=>?_
 exact lb h
 obtain⟨h26,h⟩:=cS h
 refine gQ h26.1<|gQ (AF dW h26.2) ?_
 obtain⟨x11,h27,h⟩:=xS h
 refine gG 72 (.el (dW x11)) (AH dW h27)<|gW 10077 (.sl ((cK.set o6.toNat x11).map dW)) ?_
 obtain⟨h28,h⟩:=cS h
 refine gQ h28.1<|gQ (AF dW h28.2) ?_
 obtain⟨x12,h29,h⟩:=xS h
 refine gG 76 (.el (dW x12)) (AH dW h29)<|gW 10078 (.sl (((cK.set o6.toNat x11).set o10.toNat x12).map dW)) ?_
 obtain⟨h30,h⟩:=cS h
 refine gQ h30.1<|gQ (AF dW h30.2) ?_
 obtain⟨h31,h⟩:=cS h
 refine gQ (A9 dW h31)<|gQ (AT dW cK o6 x11) ?_
 obtain⟨h32,h⟩:=cS h
 refine gQ h32.1<|gQ (AF dW h32.2) ?_
 obtain⟨h33,h⟩:=cS h
 refine gQ (A9 dW h33)<|gQ (AT dW (cK.set o6.toNat x11) o10 x12) ?_
 exact lb h) h
theorem At(h:Xf cG cH cI cK=some cQ):AL Tryz.prog 104 [.row 0,dI cG,dI cH,dI cI] [rW 0 32 1 dW cK] (dI cQ.1) [rW 0 32 1 dW cQ.2]:=by unfold Xf at h;refine XG.call (ks:=[0]) mixed fun us=>?_;apply g0 (o:=cQ);obtain⟨h1,h⟩:=cS h;refine gQ h1.1<|gQ (AF dW h1.2) ?_;obtain⟨x1,h2,h⟩:=xS h;refine gG 18 (.el (dW x1)) (AH dW h2)<|gW 10023 (.sl ((cK.set cG.toNat x1).map dW)) ?_;obtain⟨h3,h⟩:=cS h;refine gQ h3.1<|gQ (AF dW h3.2) ?_;obtain⟨x2,h4,h⟩:=xS h;refine gG 22 (.el (dW x2)) (AH dW h4)<|gW 10024 (.sl (((cK.set cG.toNat x1).set cI.toNat x2).map dW)) ?_;obtain⟨h5,h⟩:=cS h;refine gQ h5.1<|gQ (AF dW h5.2) ?_;obtain⟨h6,h⟩:=cS h;refine gQ (A9 dW h6)<|gQ (AT dW cK cG x1) ?_;obtain⟨h7,h⟩:=cS h;refine gQ h7.1<|gQ (AF dW h7.2) ?_;obtain⟨h8,h⟩:=cS h;refine gQ (A9 dW h8)<|gQ (AT dW (cK.set cG.toNat x1) cI x2) ?_;obtain⟨o13,h34,h⟩:=bS h;refine gl (CZ none us h34) ?_;exact lX h (lv [8] [0,997])
def Bh(us:List Value)(s1 s11:Int)(w0:List Int)(s10:Int):St:=⟨sp 168 0 [rx 0,sI 1 s1,sI 10 s10,sI 11 s11],[rW 0 32 1 dW w0,(997,.vals [.row 0] us)],[]⟩
def Bi(us:List Value)(s1 s11:Int)(w0:List Int)(o:Int):Ex×St:=(.exit 0,⟨sp 168 0 [rx 0,sI 1 s1,sI 10 o,sI 11 s11],[rW 0 32 1 dW w0,(997,.vals [.row 0] us)],[]⟩)
theorem C0(rd:Option Nat)(us:List Value)(h:NT cG cH cK cI=some cJ):Lq 105 rd 60 (Bh us cG cH cK cI) ((Bi us cG cH cK) cJ):=
 lL (fun s:Int=>Bh us cG cH cK s) (Bi us cG cH cK) cI (fun cI o h=>by
 unfold GZ at h
 refine iB 33 h (fun h=>?_) fun h=>?_
 obtain⟨h10,h⟩:=cS h
 refine gQ h10.1<|gQ (AF dW h10.2) ?_
 obtain⟨x3,h11,h⟩:=xS h
 refine gG 37 (.el (dW x3)) (AH dW h11) ?_
 obtain⟨h12,h⟩:=cS h
 refine gQ h12.1<|gQ (AF dW h12.2) ?_
 obtain⟨x4,h13,h⟩:=xS h
 refine gG 41 (.el (dW x4)) (AH dW h13) ?_
 obtain⟨r5,h14,h⟩:=bS h
 refine gQ (AS h14) ?_
 cases r5
 replace h:=By h
 refine gW 42 (.ret (.d (D.b false))) ?_
 exact lb h
 replace h:=Bz h
 refine gW 42 (.ret (.d (D.b true))) ?_
 exact lb h
 exact lb h) h
def Bj(us:List Value)(s1 s10:Int)(w0:List Int)(s11:Int):St:=⟨sp 168 0 [rx 0,sI 1 s1,sI 10 s10,sI 11 s11],[rW 0 32 1 dW w0,(997,.vals [.row 0] us)],[]⟩
def Bl(us:List Value)(s1 s10:Int)(w0:List Int)(o:Int):Ex×St:=(.exit 2,⟨sp 168 0 [rx 0,sI 1 s1,sI 10 s10,sI 11 o],[rW 0 32 1 dW w0,(997,.vals [.row 0] us)],[]⟩)
theorem C1(rd:Option Nat)(us:List Value)(h:NU cG cH cK cI=some cJ):Lq 105 rd 124 (Bj us cG cH cK cI) ((Bl us cG cH cK) cJ):=
 lL (fun s:Int=>Bj us cG cH cK s) (Bl us cG cH cK) cI (fun cI o h=>by
 unfold Ga at h
 refine iB 49 h (fun h=>?_) fun h=>?_
 obtain⟨h18,h⟩:=cS h
 refine gQ h18.1<|gQ (AF dW h18.2) ?_
 obtain⟨x7,h19,h⟩:=xS h
 refine gG 53 (.el (dW x7)) (AH dW h19) ?_
 obtain⟨h20,h⟩:=cS h
 refine gQ h20.1<|gQ (AF dW h20.2) ?_
 obtain⟨x8,h21,h⟩:=xS h
 refine gG 57 (.el (dW x8)) (AH dW h21) ?_
 obtain⟨r9,h22,h⟩:=bS h
 refine gC 58 (AS h22) ?_
 refine iB 60 h (fun h=>?_) fun h=>?_
 exact lb h
 exact lb h
 exact lb h) h
def Bo(us:List Value)(s1 s11:Int)(w0:List Int)(s10:Int):St:=⟨sp 168 0 [rx 0,sI 1 s1,sI 10 s10,sI 11 s11],[rW 0 32 1 dW w0,(997,.vals [.row 0] us)],[]⟩
def Bp(us:List Value)(s1 s11:Int)(w0:List Int)(o:Int):Ex×St:=(.exit 6,⟨sp 168 0 [rx 0,sI 1 s1,sI 10 o,sI 11 s11],[rW 0 32 1 dW w0,(997,.vals [.row 0] us)],[]⟩)
theorem C3(rd:Option Nat)(us:List Value)(h:aCh cG cH cK cI=some cJ):Lq 105 rd 65472 (Bo us cG cH cK cI) ((Bp us cG cH cK) cJ):=
 lL (fun s:Int=>Bo us cG cH cK s) (Bp us cG cH cK) cI (fun cI o h=>by
 unfold NV at h
 refine iB 102 h (fun h=>?_) fun h=>?_
 obtain⟨h43,h⟩:=cS h
 refine gQ h43.1<|gQ (AF dW h43.2) ?_
 obtain⟨x15,h44,h⟩:=xS h
 refine gG 106 (.el (dW x15)) (AH dW h44) ?_
 obtain⟨h45,h⟩:=cS h
 refine gQ h45.1<|gQ (AF dW h45.2) ?_
 obtain⟨x16,h46,h⟩:=xS h
 refine gG 110 (.el (dW x16)) (AH dW h46) ?_
 obtain⟨r17,h47,h⟩:=bS h
 refine gQ (AS h47) ?_
 cases r17
 replace h:=By h
 refine gW 111 (.ret (.d (D.b false))) ?_
 exact lb h
 replace h:=Bz h
 refine gW 111 (.ret (.d (D.b true))) ?_
 exact lb h
 exact lb h) h
def Bq(us:List Value)(s1 s10:Int)(w0:List Int)(s11:Int):St:=⟨sp 168 0 [rx 0,sI 1 s1,sI 10 s10,sI 11 s11],[rW 0 32 1 dW w0,(997,.vals [.row 0] us)],[]⟩
def Br(us:List Value)(s1 s10:Int)(w0:List Int)(o:Int):Ex×St:=(.exit 8,⟨sp 168 0 [rx 0,sI 1 s1,sI 10 s10,sI 11 o],[rW 0 32 1 dW w0,(997,.vals [.row 0] us)],[]⟩)
theorem C4(rd:Option Nat)(us:List Value)(h:aCj cG cH cK cI=some cJ):Lq 105 rd 130948 (Bq us cG cH cK cI) ((Br us cG cH cK) cJ):=
 lL (fun s:Int=>Bq us cG cH cK s) (Br us cG cH cK) cI (fun cI o h=>by
 unfold NW at h
 refine iB 118 h (fun h=>?_) fun h=>?_
 obtain⟨h51,h⟩:=cS h
 refine gQ h51.1<|gQ (AF dW h51.2) ?_
 obtain⟨x19,h52,h⟩:=xS h
 refine gG 122 (.el (dW x19)) (AH dW h52) ?_
 obtain⟨h53,h⟩:=cS h
 refine gQ h53.1<|gQ (AF dW h53.2) ?_
 obtain⟨x20,h54,h⟩:=xS h
 refine gG 126 (.el (dW x20)) (AH dW h54) ?_
 obtain⟨r21,h55,h⟩:=bS h
 refine gC 127 (AS h55) ?_
 refine iB 129 h (fun h=>?_) fun h=>?_
 exact lb h
 exact lb h
 exact lb h) h
def Bm(us:List Value)(s1 s10 s11:Int)(w0:List Int):St:=⟨sp 168 0 [rx 0,sI 1 s1,sI 10 s10,sI 11 s11],[rW 0 32 1 dW w0,(997,.vals [.row 0] us)],[]⟩
def Bn(us:List Value)(s1:Int)(o:(Int×List Int)):Ex×St:=(.exit 4,⟨sp 168 0 [rx 0,sI 1 s1,sI 11 o.1],[rW 0 32 1 dW o.2,(997,.vals [.row 0] us)],[]⟩)
theorem C2(rd:Option Nat)(us:List Value)(h:QE cG cH cI cK=some cP):Lq 105 rd 4092 (Bm us cG cH cI cK) ((Bn us cG) cP):=
 lL (fun s:Int×Int×List Int=>Bm us cG s.1 s.2.1 s.2.2) (Bn us cG) (cH,cI,cK) (fun⟨cH,cI,cK⟩ o h=>by
 unfold Hm at h
 obtain⟨o18,h49,h⟩:=bS h
 refine gl (C3 rd us h49) ?_
 obtain⟨o22,h57,h⟩:=bS h
 refine gl (C4 rd us h57) ?_
 refine iB 134 h (fun h=>?_) fun h=>?_
 exact lb h
 obtain⟨h59,h⟩:=cS h
 refine gQ h59.1<|gQ (AF dW h59.2) ?_
 obtain⟨x23,h60,h⟩:=xS h
 refine gG 142 (.el (dW x23)) (AH dW h60)<|gW 10147 (.sl ((cK.set o18.toNat x23).map dW)) ?_
 obtain⟨h61,h⟩:=cS h
 refine gQ h61.1<|gQ (AF dW h61.2) ?_
 obtain⟨x24,h62,h⟩:=xS h
 refine gG 146 (.el (dW x24)) (AH dW h62)<|gW 10148 (.sl (((cK.set o18.toNat x23).set o22.toNat x24).map dW)) ?_
 obtain⟨h63,h⟩:=cS h
 refine gQ h63.1<|gQ (AF dW h63.2) ?_
 obtain⟨h64,h⟩:=cS h
 refine gQ (A9 dW h64)<|gQ (AT dW cK o18 x23) ?_
 obtain⟨h65,h⟩:=cS h
 refine gQ h65.1<|gQ (AF dW h65.2) ?_
 obtain⟨h66,h⟩:=cS h
 refine gQ (A9 dW h66)<|gQ (AT dW (cK.set o18.toNat x23) o22 x24) ?_
 exact lb h) h
theorem Aa(h:X6 cG cH cI cK=some cR):AL Tryz.prog 105 [.row 0,dI cG,dI cH,dI cI] [rW 0 32 1 dW cK] (.tup [dI cR.1,.d (D.b cR.2.1)]) [rW 0 32 1 dW cR.2.2]:=by unfold X6 at h;refine XG.call (ks:=[0]) mixed fun us=>?_;apply g0 (o:=cR);obtain⟨h1,h⟩:=cS h;refine gQ h1.1<|gQ (AF dW h1.2) ?_;obtain⟨x1,h2,h⟩:=xS h;refine gG 19 (.el (dW x1)) (AH dW h2)<|gW 10024 (.sl ((cK.set cG.toNat x1).map dW)) ?_;obtain⟨h3,h⟩:=cS h;refine gQ h3.1<|gQ (AF dW h3.2) ?_;obtain⟨x2,h4,h⟩:=xS h;refine gG 23 (.el (dW x2)) (AH dW h4)<|gW 10025 (.sl (((cK.set cG.toNat x1).set cI.toNat x2).map dW)) ?_;obtain⟨h5,h⟩:=cS h;refine gQ h5.1<|gQ (AF dW h5.2) ?_;obtain⟨h6,h⟩:=cS h;refine gQ (A9 dW h6)<|gQ (AT dW cK cG x1) ?_;obtain⟨h7,h⟩:=cS h;refine gQ h7.1<|gQ (AF dW h7.2) ?_;obtain⟨h8,h⟩:=cS h;refine gQ (A9 dW h8)<|gQ (AT dW (cK.set cG.toNat x1) cI x2) ?_;obtain⟨o6,h16,h⟩:=bS h;refine gl (C0 none us h16) ?_;obtain⟨o10,h24,h⟩:=bS h;refine gl (C1 none us h24) ?_;refine iB 65 h (fun h=>?_) fun h=>?_;obtain⟨h26,h⟩:=cS h;refine gQ h26.1<|gQ (AF dW h26.2) ?_;obtain⟨x11,h27,h⟩:=xS h;refine gG 73 (.el (dW x11)) (AH dW h27)<|gW 10078 (.sl ((((cK.set cG.toNat x1).set cI.toNat x2).set o10.toNat x11).map dW)) ?_;obtain⟨h28,h⟩:=cS h;refine gQ h28.1<|gQ (AF dW h28.2) ?_;obtain⟨x12,h29,h⟩:=xS h;refine gG 77 (.el (dW x12)) (AH dW h29)<|gW 10079 (.sl (((((cK.set cG.toNat x1).set cI.toNat x2).set o10.toNat x11).set cG.toNat x12).map dW)) ?_;obtain⟨h30,h⟩:=cS h;refine gQ h30.1<|gQ (AF dW h30.2) ?_;obtain⟨h31,h⟩:=cS h;refine gQ (A9 dW h31)<|gQ (AT dW ((cK.set cG.toNat x1).set cI.toNat x2) o10 x11) ?_;obtain⟨h32,h⟩:=cS h;refine gQ h32.1<|gQ (AF dW h32.2) ?_;obtain⟨h33,h⟩:=cS h;refine gQ (A9 dW h33)<|gQ (AT dW (((cK.set cG.toNat x1).set cI.toNat x2).set o10.toNat x11) cG x12) ?_;exact lX h (lv [8,9] [0,997]);obtain⟨h34,h⟩:=cS h;refine gQ h34.1<|gQ (AF dW h34.2) ?_;obtain⟨x13,h35,h⟩:=xS h;refine gG 88 (.el (dW x13)) (AH dW h35)<|gW 10093 (.sl ((((cK.set cG.toNat x1).set cI.toNat x2).set o6.toNat x13).map dW)) ?_;obtain⟨h36,h⟩:=cS h;refine gQ h36.1<|gQ (AF dW h36.2) ?_;obtain⟨x14,h37,h⟩:=xS h;refine gG 92 (.el (dW x14)) (AH dW h37)<|gW 10094 (.sl (((((cK.set cG.toNat x1).set cI.toNat x2).set o6.toNat x13).set o10.toNat x14).map dW)) ?_;obtain⟨h38,h⟩:=cS h;refine gQ h38.1<|gQ (AF dW h38.2) ?_;obtain⟨h39,h⟩:=cS h;refine gQ (A9 dW h39)<|gQ (AT dW ((cK.set cG.toNat x1).set cI.toNat x2) o6 x13) ?_;obtain⟨h40,h⟩:=cS h;refine gQ h40.1<|gQ (AF dW h40.2) ?_;obtain⟨h41,h⟩:=cS h;refine gQ (A9 dW h41)<|gQ (AT dW (((cK.set cG.toNat x1).set cI.toNat x2).set o6.toNat x13) o10 x14) ?_;obtain⟨o25,h67,h⟩:=bS h;refine gl (C2 none us h67) ?_;obtain⟨h68,h⟩:=cS h;refine gQ h68.1<|gQ (AF dW h68.2) ?_;obtain⟨x26,h69,h⟩:=xS h;refine gG 160 (.el (dW x26)) (AH dW h69)<|gW 10165 (.sl ((o25.2.set o25.1.toNat x26).map dW)) ?_;obtain⟨h70,h⟩:=cS h;refine gQ h70.1<|gQ (AF dW h70.2) ?_;obtain⟨x27,h71,h⟩:=xS h;refine gG 164 (.el (dW x27)) (AH dW h71)<|gW 10166 (.sl (((o25.2.set o25.1.toNat x26).set cG.toNat x27).map dW)) ?_;obtain⟨h72,h⟩:=cS h;refine gQ h72.1<|gQ (AF dW h72.2) ?_;obtain⟨h73,h⟩:=cS h;refine gQ (A9 dW h73)<|gQ (AT dW o25.2 o25.1 x26) ?_;obtain⟨h74,h⟩:=cS h;refine gQ h74.1<|gQ (AF dW h74.2) ?_;obtain⟨h75,h⟩:=cS h;refine gQ (A9 dW h75)<|gQ (AT dW (o25.2.set o25.1.toNat x26) cG x27) ?_;exact lX h (lv [8,9] [0,997])
theorem Da(rd:Option Nat)(self:Int->Int->Int->(List Int)->Option (List Int))(hs:∀(a1 a2 a3:Int) (w0 r:List Int),self a1 a2 a3 w0=some r->AL Tryz.prog 72 [.row 0,dI a1,dI a2,dI a3] [rW 0 32 1 dW w0] (.tup []) [rW 0 32 1 dW r])(us:List Value){s1 s2 s3:Int}{s8 s9:Bool}{s10:Int}{s35:Bool}{w0:List Int}{o:(Int×List Int)}(h:NY self s1 s2 s3 s8 s9 s10 s35 w0=some o):Lq 72 rd 1821 ⟨sp 134 0 [rx 0,sI 1 s1,sI 2 s2,sI 3 s3,sD 8 D.b s8,sD 9 D.b s9,sI 10 s10,sD 35 D.b s35],[rW 0 32 1 dW w0,(997,.vals [.row 0] us)],[]⟩ (.normal,⟨sp 134 0 [rx 0,sI 1 s1,sI 2 s2,sI 3 o.1,sD 8 D.b s8,sD 9 D.b s9,sI 10 s10],[rW 0 32 1 dW o.2,(997,.vals [.row 0] us)],[]⟩):=by unfold NY at h;apply g0 (o:=o);cases s35;replace h:=By h;exact lp h;replace h:=Bz h;obtain⟨r3,h6,h⟩:=bS h;refine gG 39 (.cx false [(0,0)] [] (.tup []) [rW 0 32 1 dW r3]) (DD h6) ?_;exact lp h
theorem Db(rd:Option Nat)(self:Int->Int->Int->(List Int)->Option (List Int))(hs:∀(a1 a2 a3:Int) (w0 r:List Int),self a1 a2 a3 w0=some r->AL Tryz.prog 72 [.row 0,dI a1,dI a2,dI a3] [rW 0 32 1 dW w0] (.tup []) [rW 0 32 1 dW r])(us:List Value){s1 s2 s3:Int}{s8 s9:Bool}{s10 s11 s12:Int}{s50:Bool}{w0:List Int}{o:(Int×Int×List Int)}(h:NZ self s1 s2 s3 s8 s9 s10 s11 s12 s50 w0=some o):Lq 72 rd 7293 ⟨sp 134 0 [rx 0,sI 1 s1,sI 2 s2,sI 3 s3,sD 8 D.b s8,sD 9 D.b s9,sI 10 s10,sI 11 s11,sI 12 s12,sD 50 D.b s50],[rW 0 32 1 dW w0,(997,.vals [.row 0] us)],[]⟩ (.normal,⟨sp 134 0 [rx 0,sI 1 s1,sI 2 s2,sI 3 s3,sD 8 D.b s8,sD 9 D.b s9,sI 10 s10,sI 11 o.1,sI 12 o.2.1],[rW 0 32 1 dW o.2.2,(997,.vals [.row 0] us)],[]⟩):=by unfold NZ at h;apply g0 (o:=o);cases s50;replace h:=By h;exact lp h;replace h:=Bz h;obtain⟨r6,h10,h⟩:=bS h;refine gG 54 (.cx false [(0,0)] [] (.tup []) [rW 0 32 1 dW r6]) (DI h10) ?_;exact lp h
theorem BG(rd:Option Nat)(self:Int->Int->Int->(List Int)->Option (List Int))(hs:∀(a1 a2 a3:Int) (w0 r:List Int),self a1 a2 a3 w0=some r->AL Tryz.prog 72 [.row 0,dI a1,dI a2,dI a3] [rW 0 32 1 dW w0] (.tup []) [rW 0 32 1 dW r])(us:List Value){s1 s2 s3:Int}{s8 s9:Bool}{s10 s11:Int}{s68:Bool}{w0:List Int}{o:(List Int)⊕(List Int)}(h:Jv self s1 s2 s3 s8 s9 s10 s11 s68 w0=some o):Lq 72 rd 14589 ⟨sp 134 0 [rx 0,sI 1 s1,sI 2 s2,sI 3 s3,sD 8 D.b s8,sD 9 D.b s9,sI 10 s10,sI 11 s11,sD 68 D.b s68],[rW 0 32 1 dW w0,(997,.vals [.row 0] us)],[]⟩ (match (generalizing:=false) o with
 | .inl o=>(.normal,⟨sp 134 0 [rx 0,sI 1 s1,sI 2 s2,sI 3 s3,sD 8 D.b s8,sD 9 D.b s9,sI 10 s10,sI 11 s11],[rW 0 32 1 dW o,(997,.vals [.row 0] us)],[]⟩)
 | .inr o=>(.ret,⟨sp 134 0 [],[rW 0 32 1 dW o,(997,.vals [.row 0] us)],[]⟩)):=by
 unfold Jv at h
 apply g0 (o:=o)
 cases s68
 replace h:=By h
 exact lp h
 replace h:=Bz h
 obtain⟨r8,h15,h⟩:=bS h
 refine gQ (CP h15) ?_
 rcases r8 with⟨r8_1,r8_2⟩
 cases r8_1
 replace h:=By h
 refine gW 72 (.cx false [(0,0)] [] (.d (D.b false)) [rW 0 32 1 dW r8_2]) ?_
 exact lp h
 replace h:=Bz h
 refine gW 72 (.cx false [(0,0)] [] (.d (D.b true)) [rW 0 32 1 dW r8_2]) ?_
 exact lp h
theorem Ab(rd:Option Nat)(self:Int->Int->Int->(List Int)->Option (List Int))(hs:∀(a1 a2 a3:Int) (w0 r:List Int),self a1 a2 a3 w0=some r->AL Tryz.prog 72 [.row 0,dI a1,dI a2,dI a3] [rW 0 32 1 dW w0] (.tup []) [rW 0 32 1 dW r])(us:List Value){s1 s2 s3:Int}{s9:Bool}{s14 s16:Int}{s17 s18:Int}{s113:Bool}{w0:List Int}{o:(Int×Int×Bool×List Int)}(h:Fk self s1 s2 s3 s9 s14 s16 s17 s18 s113 w0=some o):Lq 72 rd 466943 ⟨sp 134 0 [rx 0,sI 1 s1,sI 2 s2,sI 3 s3,sD 9 D.b s9,sI 14 s14,sI 16 s16,sI 17 s17,sI 18 s18,sD 113 D.b s113],[rW 0 32 1 dW w0,(997,.vals [.row 0] us)],[]⟩ (.normal,⟨sp 134 0 [rx 0,sI 1 o.1,sI 2 o.2.1,sI 3 s3,sD 8 D.b o.2.2.1,sD 9 D.b s9],[rW 0 32 1 dW o.2.2.2,(997,.vals [.row 0] us)],[]⟩):=by unfold Fk at h;apply g0 (o:=o);cases s113;replace h:=By h;obtain⟨r18,h29,h⟩:=bS h;refine gG 132 (.cx false [(0,0)] [] (.tup []) [rW 0 32 1 dW r18]) (hs (AA .add .i64 s14 1) s2 s3 w0 r18 h29) ?_;exact lp h;replace h:=Bz h;obtain⟨r17,h28,h⟩:=bS h;refine gG 121 (.cx false [(0,0)] [] (.tup []) [rW 0 32 1 dW r17]) (hs s1 s14 s3 w0 r17 h28) ?_;exact lp h
theorem DZ(rd:Option Nat)(self:Int->Int->Int->(List Int)->Option (List Int))(hs:∀(a1 a2 a3:Int) (w0 r:List Int),self a1 a2 a3 w0=some r->AL Tryz.prog 72 [.row 0,dI a1,dI a2,dI a3] [rW 0 32 1 dW w0] (.tup []) [rW 0 32 1 dW r])(us:List Value){s1 s2 s3:Int}{s8 s9:Bool}{w0:List Int}{o:(Int×Int×Int×Bool×Bool×List Int)⊕(List Int)}(h:NX self s1 s2 s3 s8 s9 w0=some o):Lq 72 rd 28 ⟨sp 134 0 [rx 0,sI 1 s1,sI 2 s2,sI 3 s3,sD 8 D.b s8,sD 9 D.b s9],[rW 0 32 1 dW w0,(997,.vals [.row 0] us)],[]⟩ (match (generalizing:=false) o with
 | .inl o=>(.normal,⟨sp 134 0 [rx 0,sI 1 o.1,sI 2 o.2.1,sI 3 o.2.2.1,sD 8 D.b o.2.2.2.1,sD 9 D.b o.2.2.2.2.1],[rW 0 32 1 dW o.2.2.2.2.2,(997,.vals [.row 0] us)],[]⟩)
 | .inr o=>(.ret,⟨sp 134 0 [],[rW 0 32 1 dW o,(997,.vals [.row 0] us)],[]⟩)):=by
 unfold NX at h
 apply g0 (o:=o)
 refine iB 23 h (fun h=>?_) fun h=>?_
 obtain⟨r1,h2,h⟩:=bS h
 refine gG 27 (.cx false [(0,0)] [] (.tup []) [rW 0 32 1 dW r1]) (DE h2) ?_
 exact lp h
 refine iB 29 h (fun h=>?_) fun h=>?_
 obtain⟨r2,h4,h⟩:=bS h
 refine gG 33 (.cx false [(0,0)] [] (.tup []) [rW 0 32 1 dW r2]) (Dm h4) ?_
 exact lp h
 obtain⟨o4,h7,h⟩:=bS h
 refine gl (Da rd self hs us h7) ?_
 obtain⟨r5,h8,h⟩:=bS h
 refine gG 46 (.lend [0] (.tup [dI r5.1,dI r5.2])) (DL h8) ?_
 obtain⟨o7,h11,h⟩:=bS h
 refine gl (Db rd self hs us h11) ?_
 refine iB 62 h (fun h=>?_) fun h=>?_
 refine iB 65 h (fun h=>?_) fun h=>?_
 obtain⟨o9,h17,h⟩:=bS h
 refine gl (BG rd self hs us h17) ?_
 replace h:=AK h
 rcases h with⟨o10,rfl,h⟩|⟨o11,rfl,h⟩
 refine iB 75 h (fun h=>?_) fun h=>?_
 obtain⟨h19,h⟩:=cS h
 refine gQ h19.1<|gQ (AF dW h19.2) ?_
 obtain⟨x12,h20,h⟩:=xS h
 refine gG 80 (.el (dW x12)) (AH dW h20) ?_
 obtain⟨h21,h⟩:=cS h
 refine gQ h21.1<|gQ (AF dW h21.2) ?_
 obtain⟨x13,h22,h⟩:=xS h
 refine gG 84 (.el (dW x13)) (AH dW h22) ?_
 obtain⟨r14,h23,h⟩:=bS h
 refine gC 85 (AS h23) ?_
 refine iB 87 h (fun h=>?_) fun h=>?_
 obtain⟨r15,h25,h⟩:=bS h
 refine gG 92 (.cx false [(0,0)] [] (dI r15.1) [rW 0 32 1 dW r15.2]) (At h25) ?_
 exact lp h
 obtain⟨r16,h26,h⟩:=bS h
 refine gG 99 (.cx false [(0,0)] [] (.tup [dI r16.1,.d (D.b r16.2.1)]) [rW 0 32 1 dW r16.2.2]) (Aa h26)<|gQ (of_decide_eq_true rfl:(8:Int)≠0) ?_
 obtain⟨o19,h30,h⟩:=bS h
 refine gl (Ab rd self hs us h30) ?_
 exact lp h
 obtain⟨r20,h31,h⟩:=bS h
 refine gG 99 (.cx false [(0,0)] [] (.tup [dI r20.1,.d (D.b r20.2.1)]) [rW 0 32 1 dW r20.2.2]) (Aa h31)<|gQ (of_decide_eq_true rfl:(8:Int)≠0) ?_
 obtain⟨o21,h32,h⟩:=bS h
 refine gl (Ab rd self hs us h32) ?_
 exact lp h
 exact lp h
 obtain⟨o22,h33,h⟩:=bS h
 refine gl (BG rd self hs us h33) ?_
 replace h:=AK h
 rcases h with⟨o23,rfl,h⟩|⟨o24,rfl,h⟩
 refine iB 75 h (fun h=>?_) fun h=>?_
 obtain⟨h35,h⟩:=cS h
 refine gQ h35.1<|gQ (AF dW h35.2) ?_
 obtain⟨x25,h36,h⟩:=xS h
 refine gG 80 (.el (dW x25)) (AH dW h36) ?_
 obtain⟨h37,h⟩:=cS h
 refine gQ h37.1<|gQ (AF dW h37.2) ?_
 obtain⟨x26,h38,h⟩:=xS h
 refine gG 84 (.el (dW x26)) (AH dW h38) ?_
 obtain⟨r27,h39,h⟩:=bS h
 refine gC 85 (AS h39) ?_
 refine iB 87 h (fun h=>?_) fun h=>?_
 obtain⟨r28,h41,h⟩:=bS h
 refine gG 92 (.cx false [(0,0)] [] (dI r28.1) [rW 0 32 1 dW r28.2]) (At h41) ?_
 exact lp h
 obtain⟨r29,h42,h⟩:=bS h
 refine gG 99 (.cx false [(0,0)] [] (.tup [dI r29.1,.d (D.b r29.2.1)]) [rW 0 32 1 dW r29.2.2]) (Aa h42)<|gQ (of_decide_eq_true rfl:(8:Int)≠0) ?_
 obtain⟨o30,h43,h⟩:=bS h
 refine gl (Ab rd self hs us h43) ?_
 exact lp h
 obtain⟨r31,h44,h⟩:=bS h
 refine gG 99 (.cx false [(0,0)] [] (.tup [dI r31.1,.d (D.b r31.2.1)]) [rW 0 32 1 dW r31.2.2]) (Aa h44)<|gQ (of_decide_eq_true rfl:(8:Int)≠0) ?_
 obtain⟨o32,h45,h⟩:=bS h
 refine gl (Ab rd self hs us h45) ?_
 exact lp h
 exact lp h
 obtain⟨o33,h46,h⟩:=bS h
 refine gl (BG rd self hs us h46) ?_
 replace h:=AK h
 rcases h with⟨o34,rfl,h⟩|⟨o35,rfl,h⟩
 refine iB 75 h (fun h=>?_) fun h=>?_
 obtain⟨h48,h⟩:=cS h
 refine gQ h48.1<|gQ (AF dW h48.2) ?_
 obtain⟨x36,h49,h⟩:=xS h
 refine gG 80 (.el (dW x36)) (AH dW h49) ?_
 obtain⟨h50,h⟩:=cS h
 refine gQ h50.1<|gQ (AF dW h50.2) ?_
 obtain⟨x37,h51,h⟩:=xS h
 refine gG 84 (.el (dW x37)) (AH dW h51) ?_
 obtain⟨r38,h52,h⟩:=bS h
 refine gC 85 (AS h52) ?_
 refine iB 87 h (fun h=>?_) fun h=>?_
 obtain⟨r39,h54,h⟩:=bS h
 refine gG 92 (.cx false [(0,0)] [] (dI r39.1) [rW 0 32 1 dW r39.2]) (At h54) ?_
 exact lp h
 obtain⟨r40,h55,h⟩:=bS h
 refine gG 99 (.cx false [(0,0)] [] (.tup [dI r40.1,.d (D.b r40.2.1)]) [rW 0 32 1 dW r40.2.2]) (Aa h55)<|gQ (of_decide_eq_true rfl:(8:Int)≠0) ?_
 obtain⟨o41,h56,h⟩:=bS h
 refine gl (Ab rd self hs us h56) ?_
 exact lp h
 obtain⟨r42,h57,h⟩:=bS h
 refine gG 99 (.cx false [(0,0)] [] (.tup [dI r42.1,.d (D.b r42.2.1)]) [rW 0 32 1 dW r42.2.2]) (Aa h57)<|gQ (of_decide_eq_true rfl:(8:Int)≠0) ?_
 obtain⟨o43,h58,h⟩:=bS h
 refine gl (Ab rd self hs us h58) ?_
 exact lp h
 exact lp h
def CK(us:List Value)(s1 s2 s3:Int)(s8 s9:Bool)(w0:List Int):St:=⟨sp 134 0 [rx 0,sI 1 s1,sI 2 s2,sI 3 s3,sD 8 D.b s8,sD 9 D.b s9],[rW 0 32 1 dW w0,(997,.vals [.row 0] us)],[]⟩
def CL(us:List Value)(o:(List Int)):Ex×St:=(.ret,⟨sp 134 0 [],[rW 0 32 1 dW o,(997,.vals [.row 0] us)],[]⟩)
theorem Dc(rd:Option Nat)(self:Int->Int->Int->(List Int)->Option (List Int))(hs:∀(a1 a2 a3:Int) (w0 r:List Int),self a1 a2 a3 w0=some r->AL Tryz.prog 72 [.row 0,dI a1,dI a2,dI a3] [rW 0 32 1 dW w0] (.tup []) [rW 0 32 1 dW r])(us:List Value){s1 s2 s3:Int}{s8 s9:Bool}{w0:List Int}{t:(List Int)}(h:QG self s1 s2 s3 s8 s9 w0=some t):Lq 72 rd 14 (CK us s1 s2 s3 s8 s9 w0) ((CL us) t):=
 lL (fun s:Int×Int×Int×Bool×Bool×List Int=>CK us s.1 s.2.1 s.2.2.1 s.2.2.2.1 s.2.2.2.2.1 s.2.2.2.2.2) (CL us) (s1,s2,s3,s8,s9,w0) (fun⟨s1,s2,s3,s8,s9,w0⟩ o h=>by
 unfold Ht at h
 obtain⟨o44,h59,h⟩:=bS h
 refine gl (DZ rd self hs us h59) ?_
 replace h:=AK h
 rcases h with⟨o45,rfl,h⟩|⟨o46,rfl,h⟩
 exact lb h
 exact lb h) h
theorem Di(self:Int->Int->Int->(List Int)->Option (List Int))(hs:∀(a1 a2 a3:Int) (w0 r:List Int),self a1 a2 a3 w0=some r->AL Tryz.prog 72 [.row 0,dI a1,dI a2,dI a3] [rW 0 32 1 dW w0] (.tup []) [rW 0 32 1 dW r])(a1 a2 a3:Int)(w0 r:List Int)(h:aMs self a1 a2 a3 w0=some r):AL Tryz.prog 72 [.row 0,dI a1,dI a2,dI a3] [rW 0 32 1 dW w0] (.tup []) [rW 0 32 1 dW r]:=by unfold aMs at h;refine XG.call (ks:=[0]) mixed fun us=>?_;apply g0 (o:=r);obtain⟨o47,h60,h⟩:=bS h;refine gl (Dc none self hs us h60) ?_;exact lX h (lv [] [0,997])
theorem CM:∀(n:Nat) (a1 a2 a3:Int) (w0 r:List Int),aK8 n a1 a2 a3 w0=some r->AL Tryz.prog 72 [.row 0,dI a1,dI a2,dI a3] [rW 0 32 1 dW w0] (.tup []) [rW 0 32 1 dW r]
 |0,a1,a2,a3,w0,r,h=>by simp[aK8]at h
 |n+1,a1,a2,a3,w0,r,h=>Di _ (CM n) a1 a2 a3 w0 r h
theorem Dw(h:X9 cG cH cI cK=some cT):AL Tryz.prog 72 [.row 0,dI cG,dI cH,dI cI] [rW 0 32 1 dW cK] (.tup []) [rW 0 32 1 dW cT]:=CM 100000 cG cH cI cK cT h
theorem Cq(h:Q4 cK=some cT):AL Tryz.prog 41 [.row 0] [rW 0 32 1 dW cK] (.tup []) [rW 0 32 1 dW cT]:=by unfold Q4 at h;refine XG.call (ks:=[0]) mixed fun us=>?_;apply g0 (o:=cT);refine gN 4 dW cK ?_;obtain⟨r1,h1,h⟩:=bS h;refine gC 9 (aMi h1) ?_;obtain⟨r2,h2,h⟩:=bS h;refine gG 10 (.cx false [(0,0)] [] (.tup []) [rW 0 32 1 dW r2]) (Dw h2) ?_;exact lX h (lv [] [0,997])
theorem aOx(h:Zr cV cU cG=some cK):AL Tryz.prog 11 [.d (AD.D cV),.d ((D.l X2.D) cU),.d (dW cG)] [] (.d ((D.l dW) cK)) []:=by unfold Zr at h;apply g0 (o:=cK);obtain⟨r1,h1,h⟩:=bS h;refine gG 14 (.cx false [] [(0,14),(1,421),(2,428)] (.tup [.row 0,.row 1,.row 2]) [rW 0 32 1 dW r1.1,(1,.map r1.2.1.clk (MP.dl dW dW r1.2.1)),(2,.map r1.2.2.clk (MP.dl dW dU r1.2.2))]) (aVw h1) ?_;obtain⟨r2,h2,h⟩:=bS h;refine gG 19 (.cx false [(0,14)] [] (.tup []) [rW 0 32 1 dW r2]) (Cq h2) ?_;exact lF h [.frz 14]
def WQ(s1:Int)(s8:List Xc)(s9 s10:Int):St:=⟨sp 26 0 [sD 1 dW s1,sD 8 (D.l Xc.D) s8,sI 9 s9,sI 10 s10],[],[]⟩
def WR(s1:Int)(s8:List Xc)(s9:Int)(o:Unit⊕Unit):Ex×St:=match o with
 | .inl o=>(.exit 0,⟨sp 26 0 [],[],[]⟩)
 | .inr o=>(.ret,⟨sp 26 0 [sD 4 D.b true],[],[]⟩)
theorem aIf(rd:Option Nat)(h:aOc cG d5 cH cI=some dR):Lq 52 rd 26 (WQ cG d5 cH cI) ((WR cG d5 cH) dR):=
 lL (fun s:Int=>WQ cG d5 cH s) (WR cG d5 cH) cI (fun cI o h=>by
 unfold Iq at h
 refine iB 11 h (fun h=>?_) fun h=>?_
 refine xX 13 Xc.D h fun x1 h=>?_
 refine iB 17 h (fun h=>?_) fun h=>?_
 obtain⟨h4,h⟩:=cS h
 refine gQ h4 ?_
 refine iB 24 h (fun h=>?_) fun h=>?_
 exact lb h
 exact lb h
 exact lb h
 exact lb h) h
theorem aR8(h:Z0 cV cG=some d4):AL Tryz.prog 52 [.d (AD.D cV),.d (dW cG)] [] (.d (D.b d4)) []:=by
 unfold Z0 at h;apply g0 (o:=d4);refine gN 9 Xc.D cV.states ?_;obtain⟨o2,h6,h⟩:=bS h;refine gl (aIf none h6) ?_;replace h:=AK h;rcases h with⟨o3,rfl,h⟩|⟨o4,rfl,h⟩
 exact lf h;exact lf h
theorem aU0(h:U5 cG cV=some d4):AL Tryz.prog 75 [.d (dW cG),.eptr (D.cells (AD.D cV))] [] (.d (D.b d4)) []:=by unfold U5 at h;apply g0 (o:=d4);obtain⟨r1,h1,h⟩:=bS h;refine gC 6 (aR8 h1) ?_;exact lf h
def W6(s0:List Int)(s1:AD)(s7 s8:Int):St:=⟨sp 19 0 [sD 0 (D.l dW) s0,(1,.clo (.func 75) [] [.eptr (D.cells (AD.D s1))]),sI 7 s7,sI 8 s8],[],[]⟩
def W7(s0:List Int)(s1:AD)(s7:Int)(o:Unit⊕Int):Ex×St:=match o with
 | .inl o=>(.exit 0,⟨sp 19 0 [],[],[]⟩)
 | .inr o=>(.ret,⟨sp 19 0 [sI 4 o],[],[]⟩)
theorem aI1(rd:Option Nat)(h:aOq cK cV cG cH=some dS):Lq 108 rd 26 (W6 cK cV cG cH) ((W7 cK cV cG) dS):=
 lL (fun s:Int=>W6 cK cV cG s) (W7 cK cV cG) cH (fun cH o h=>by
 unfold I5 at h
 refine iB 9 h (fun h=>?_) fun h=>?_
 refine xX 14 dW h fun x1 h=>?_
 obtain⟨r2,h3,h⟩:=bS h
 refine gQ (aU0 h3) ?_
 cases r2
 replace h:=By h
 refine gW 16 (.ret (.d (D.b false))) ?_
 exact lb h
 replace h:=Bz h
 refine gW 16 (.ret (.d (D.b true))) ?_
 exact lb h
 exact lb h) h
theorem aXj(h:Zj cK cV=some cG):AL Tryz.prog 108 [.d ((D.l dW) cK),.clo (.func 75) [] [.eptr (D.cells (AD.D cV))]] [] (dI cG) []:=by
 unfold Zj at h;apply g0 (o:=cG);refine gN 7 dW cK ?_;obtain⟨o3,h5,h⟩:=bS h;refine gl (aI1 none h5) ?_;replace h:=AK h;rcases h with⟨o4,rfl,h⟩|⟨o5,rfl,h⟩
 exact lf h;exact lf h
theorem aUq(h:Qv cK cV=some d4):AL Tryz.prog 76 [.d ((D.l dW) cK),.clo (.func 75) [] [.eptr (D.cells (AD.D cV))]] [] (.d (D.b d4)) []:=by unfold Qv at h;apply g0 (o:=d4);obtain⟨r1,h1,h⟩:=bS h;refine gC 7 (aXj h1) ?_;exact lf h
theorem aU1(h:U6 cG cV=some d4):AL Tryz.prog 74 [.d (dW cG),.eptr (D.cells (AD.D cV))] [] (.d (D.b d4)) []:=by unfold U6 at h;apply g0 (o:=d4);obtain⟨r1,h1,h⟩:=bS h;refine gC 6 (aR8 h1) ?_;exact lf h
def W8(s0:List Int)(s1:AD)(s7 s8:Int):St:=⟨sp 19 0 [sD 0 (D.l dW) s0,(1,.clo (.func 74) [] [.eptr (D.cells (AD.D s1))]),sI 7 s7,sI 8 s8],[],[]⟩
def W9(s0:List Int)(s1:AD)(s7:Int)(o:Unit⊕Int):Ex×St:=match o with
 | .inl o=>(.exit 0,⟨sp 19 0 [],[],[]⟩)
 | .inr o=>(.ret,⟨sp 19 0 [sI 4 o],[],[]⟩)
theorem aI2(rd:Option Nat)(h:aOr cK cV cG cH=some dS):Lq 108 rd 26 (W8 cK cV cG cH) ((W9 cK cV cG) dS):=
 lL (fun s:Int=>W8 cK cV cG s) (W9 cK cV cG) cH (fun cH o h=>by
 unfold I6 at h
 refine iB 9 h (fun h=>?_) fun h=>?_
 refine xX 14 dW h fun x1 h=>?_
 obtain⟨r2,h3,h⟩:=bS h
 refine gQ (aU1 h3) ?_
 cases r2
 replace h:=By h
 refine gW 16 (.ret (.d (D.b false))) ?_
 exact lb h
 replace h:=Bz h
 refine gW 16 (.ret (.d (D.b true))) ?_
 exact lb h
 exact lb h) h
theorem aXk(h:Zk cK cV=some cG):AL Tryz.prog 108 [.d ((D.l dW) cK),.clo (.func 74) [] [.eptr (D.cells (AD.D cV))]] [] (dI cG) []:=by
 unfold Zk at h;apply g0 (o:=cG);refine gN 7 dW cK ?_;obtain⟨o3,h5,h⟩:=bS h;refine gl (aI2 none h5) ?_;replace h:=AK h;rcases h with⟨o4,rfl,h⟩|⟨o5,rfl,h⟩
 exact lf h;exact lf h
theorem aUr(h:Qw cK cV=some d4):AL Tryz.prog 76 [.d ((D.l dW) cK),.clo (.func 74) [] [.eptr (D.cells (AD.D cV))]] [] (.d (D.b d4)) []:=by unfold Qw at h;apply g0 (o:=d4);obtain⟨r1,h1,h⟩:=bS h;refine gC 7 (aXk h1) ?_;exact lf h
theorem aRf(h:Qg cV cK=some cG):AL Tryz.prog 42 [.d (AD.D cV),.d ((D.l dW) cK)] [] (dI cG) []:=by unfold Qg at h;apply g0 (o:=cG);refine gW 2 .frz ?_;obtain⟨r1,h1,h⟩:=bS h;refine gC 12 (aUq h1) ?_;refine iB 9 h (fun h=>?_) fun h=>?_;exact lf h;obtain⟨r2,h3,h⟩:=bS h;refine gC 17 (aUr h3) ?_;refine iB 14 h (fun h=>?_) fun h=>?_;exact lf h;exact lf h
theorem aT8(h:Q5 cV cU cG=some cH):AL Tryz.prog 12 [.d (AD.D cV),.d ((D.l X2.D) cU),.d (dW cG)] [] (dI cH) []:=by unfold Q5 at h;apply g0 (o:=cH);obtain⟨r1,h1,h⟩:=bS h;refine gC 11 (aOx h1) ?_;obtain⟨r2,h2,h⟩:=bS h;refine gC 12 (aRf h2) ?_;exact lf h
theorem aMh(h:Q0=some d4):AL Tryz.prog 9 [] [] (.d (D.b d4)) []:=by unfold Q0 at h;apply g0 (o:=d4);refine gQ (Ap Xc.D ([Xc.mk ([115]:List UInt8) false true,Xc.mk ([116]:List UInt8) true false])) ?_;obtain⟨r1,h1,h⟩:=bS h;refine gC 7 (aOu h1) ?_;refine iB 9 h (fun h=>?_) fun h=>?_;obtain⟨r2,h3,h⟩:=bS h;refine gC 11 (aOu h3) ?_;refine iB 14 h (fun h=>?_) fun h=>?_;obtain⟨r3,h5,h⟩:=bS h;refine gC 16 (aVs h5) ?_;refine iB 19 h (fun h=>?_) fun h=>?_;obtain⟨r4,h7,h⟩:=bS h;refine gC 21 (aT8 h7) ?_;exact lf h;exact lf h;exact lf h;exact lf h
def Vo(s0:List X0)(w3:X0)(s5:Int):St:=⟨sp 48 0 [sD 0 (D.l X0.D) s0,bx 3,sI 5 s5],[cL 3 X0.D w3],[]⟩
def Vp(s0:List X0)(w3:X0)(o:Int):Ex×St:=(.exit 0,⟨sp 48 0 [sD 0 (D.l X0.D) s0,bx 3,sI 5 o],[cL 3 X0.D w3],[]⟩)
theorem aHe(rd:Option Nat)(h:aNy dV dX cG=some cH):Lq 119 rd 28 (Vo dV dX cG) ((Vp dV dX) cH):=
 lL (fun s:Int=>Vo dV dX s) (Vp dV dX) cG (fun cG o h=>by
 unfold If at h
 refine iB 11 h (fun h=>?_) fun h=>?_
 refine xX 16 X0.D h fun x1 h=>?_
 obtain⟨r2,h3,h⟩:=bS h
 refine gQ (aOv h3) ?_
 cases r2
 replace h:=By h
 refine gW 18 (.ret (.d (D.b false))) ?_
 exact lb h
 replace h:=Bz h
 refine gW 18 (.ret (.d (D.b true))) ?_
 exact lb h
 exact lb h) h
theorem QW(h:Yf dV dX=some dY):AL Tryz.prog 119 [.d ((D.l X0.D) dV),.d (X0.D dX)] [] (.d ((D.l X0.D) dY)) []:=by unfold Yf at h;apply g0 (o:=dY);refine gN 8 X0.D dV ?_;obtain⟨o3,h5,h⟩:=bS h;refine gl (aHe none h5) ?_;refine iB 24 h (fun h=>?_) fun h=>?_;refine xX 28 X0.D h fun x4 h=>?_;refine iB 32 h (fun h=>?_) fun h=>?_;exact lf h;refine gQ (Ap X0.D ([]:List X0))<|gW 37 (.sl ((sub dV 0 o3).map X0.D))<|gW 38 (.sl ((([]:List X0)++(sub dV 0 o3)).map X0.D))<|gW 42 (.sl (((([]:List X0)++(sub dV 0 o3))++[dX]).map X0.D))<|gW 46 (.sl ((sub dV o3 (dV.length:Int)).map X0.D))<|gW 47 (.sl ((((([]:List X0)++(sub dV 0 o3))++[dX])++(sub dV o3 (dV.length:Int))).map X0.D)) ?_;obtain⟨h9,h⟩:=cS h;refine gQ (F4 X0.D h9)<|gQ (Ap X0.D (sub dV 0 o3)) ?_;obtain⟨h10,h⟩:=cS h;refine gQ (Av X0.D h10)<|gQ (Au X0.D ([]:List X0) (sub dV 0 o3))<|gQ (Ap X0.D [dX])<|gQ (Ap X0.D [dX]) ?_;obtain⟨h11,h⟩:=cS h;refine gQ (Av X0.D h11)<|gQ (Au X0.D (([]:List X0)++(sub dV 0 o3)) [dX]) ?_;obtain⟨h12,h⟩:=cS h;refine gQ (F3 X0.D h12)<|gQ (Ap X0.D (sub dV o3 (dV.length:Int))) ?_;obtain⟨h13,h⟩:=cS h;refine gQ (Av X0.D h13)<|gQ (Au X0.D ((([]:List X0)++(sub dV 0 o3))++[dX]) (sub dV o3 (dV.length:Int))) ?_;exact lf h;refine gQ (Ap X0.D ([]:List X0))<|gW 37 (.sl ((sub dV 0 o3).map X0.D))<|gW 38 (.sl ((([]:List X0)++(sub dV 0 o3)).map X0.D))<|gW 42 (.sl (((([]:List X0)++(sub dV 0 o3))++[dX]).map X0.D))<|gW 46 (.sl ((sub dV o3 (dV.length:Int)).map X0.D))<|gW 47 (.sl ((((([]:List X0)++(sub dV 0 o3))++[dX])++(sub dV o3 (dV.length:Int))).map X0.D)) ?_;obtain⟨h14,h⟩:=cS h;refine gQ (F4 X0.D h14)<|gQ (Ap X0.D (sub dV 0 o3)) ?_;obtain⟨h15,h⟩:=cS h;refine gQ (Av X0.D h15)<|gQ (Au X0.D ([]:List X0) (sub dV 0 o3))<|gQ (Ap X0.D [dX])<|gQ (Ap X0.D [dX]) ?_;obtain⟨h16,h⟩:=cS h;refine gQ (Av X0.D h16)<|gQ (Au X0.D (([]:List X0)++(sub dV 0 o3)) [dX]) ?_;obtain⟨h17,h⟩:=cS h;refine gQ (F3 X0.D h17)<|gQ (Ap X0.D (sub dV o3 (dV.length:Int))) ?_;obtain⟨h18,h⟩:=cS h;refine gQ (Av X0.D h18)<|gQ (Au X0.D ((([]:List X0)++(sub dV 0 o3))++[dX]) (sub dV o3 (dV.length:Int))) ?_;exact lf h
theorem aD0(rd:Option Nat)(h:Tr cG d4 cV=some e9):Lq 118 rd 29 ⟨sp 56 0 [sI 1 cG,bx 2,(5,.nil),sD 10 D.b d4],[cL 2 AD.D cV],[]⟩ (.normal,⟨sp 56 0 [sI 1 cG,bx 2,rx 5],[cL 2 AD.D cV,(5,.row 62 4 (e9.map X0.D))],[]⟩):=by unfold Tr at h;apply g0 (o:=e9);cases d4;replace h:=By h;exact lP h [.live [1,2,5],.keep [2],.nil 5 5 62 4,.sort];replace h:=Bz h;refine gQ (Ap X0.D ([X0.mk 3 0 ([]:List UInt8) false,X0.mk 3 0 ([]:List UInt8) true])) ?_;exact lP h [.live [1,2,5],.keep [2,13],.ren 13 5,.sort]
theorem Oy(rd:Option Nat)(h:Ts cG dV cH cI d4 cV eA=some e9):Lq 118 rd 500883 ⟨sp 56 0 [sI 1 cG,bx 2,sD 5 (D.l X0.D) dV,sI 6 cH,sI 7 cI,bx 8,sD 50 D.b d4],[cL 2 AD.D cV,cL 8 BW.D eA],[]⟩ (.normal,⟨sp 56 0 [sI 1 cG,bx 2,sD 5 (D.l X0.D) e9,sI 6 cH,sI 7 cI],[cL 2 AD.D cV],[]⟩):=by unfold Ts at h;apply g0 (o:=e9);cases d4;replace h:=By h;exact lp h;replace h:=Bz h;obtain⟨r12,h20,h⟩:=bS h;refine gC 54 (QW h20) ?_;exact lp h
theorem aD2(rd:Option Nat)(h:aD1 cG dV cH cI cV=some e9):Lq 118 rd 62610 ⟨sp 56 0 [sI 1 cG,bx 2,sD 5 (D.l X0.D) dV,sI 6 cH,sI 7 cI],[cL 2 AD.D cV],[]⟩ (.normal,⟨sp 56 0 [sI 1 cG,bx 2,sD 5 (D.l X0.D) e9,sI 6 cH,sI 7 cI],[cL 2 AD.D cV],[]⟩):=by unfold aD1 at h;apply g0 (o:=e9);refine xX 35 X3.D h fun x10 h=>?_;refine xX 39 BW.D h fun x11 h=>?_;refine iB 44 h (fun h=>?_) fun h=>?_;obtain⟨o13,h21,h⟩:=bS h;refine gl (Oy rd h21) ?_;exact lp h;obtain⟨o14,h22,h⟩:=bS h;refine gl (Oy rd h22) ?_;exact lp h
def Tv(s1 s6:Int)(w2:AD)(s5:List X0)(s7:Int):St:=⟨sp 56 0 [sI 1 s1,bx 2,sD 5 (D.l X0.D) s5,sI 6 s6,sI 7 s7],[cL 2 AD.D w2],[]⟩
def Tw(s1 s6:Int)(w2:AD)(o:(List X0)):Ex×St:=(.exit 2,⟨sp 56 0 [sI 1 s1,bx 2,sD 5 (D.l X0.D) o,sI 6 s6],[cL 2 AD.D w2],[]⟩)
theorem aD5(rd:Option Nat)(h:aD4 cG cH cV dV cI=some e9):Lq 118 rd 7826 (Tv cG cH cV dV cI) ((Tw cG cH cV) e9):=
 lL (fun s:List X0×Int=>Tv cG cH cV s.1 s.2) (Tw cG cH cV) (dV,cI) (fun⟨dV,cI⟩ o h=>by
 unfold IF at h
 refine xX 25 X3.D h fun x17 h=>?_
 refine gN 28 BW.D x17.args ?_
 refine iB 29 h (fun h=>?_) fun h=>?_
 obtain⟨o18,h28,h⟩:=bS h
 refine gl (aD2 rd h28) ?_
 exact lb h
 exact lb h) h
def Tt(s1:Int)(w2:AD)(s5:List X0)(s6:Int):St:=⟨sp 56 0 [sI 1 s1,bx 2,sD 5 (D.l X0.D) s5,sI 6 s6],[cL 2 AD.D w2],[]⟩
def Tu(s1:Int)(w2:AD)(o:(List X0)):Ex×St:=(.exit 0,⟨sp 56 0 [sD 5 (D.l X0.D) o],[],[]⟩)
theorem aD3(rd:Option Nat)(h:aM8 cG cV dV cH=some e9):Lq 118 rd 122 (Tt cG cV dV cH) ((Tu cG cV) e9):=
 lL (fun s:List X0×Int=>Tt cG cV s.1 s.2) (Tu cG cV) (dV,cH) (fun⟨dV,cH⟩ o h=>by
 unfold IE at h
 refine gN 17 X3.D cV.symbols ?_
 refine iB 18 h (fun h=>?_) fun h=>?_
 obtain⟨o19,h29,h⟩:=bS h
 refine gl (aD5 rd h29) ?_
 exact lb h
 exact lb h) h
theorem aVi(h:Xk cV cG=some dV):AL Tryz.prog 118 [.d (AD.D cV),dI cG] [] (.d ((D.l X0.D) dV)) []:=by unfold Xk at h;apply g0 (o:=dV);obtain⟨o1,h2,h⟩:=bS h;refine gl (aD0 none h2) ?_;obtain⟨o20,h30,h⟩:=bS h;refine gL [.look 5,.live [1,2,5,6],.keep [2]] (aD3 none h30) ?_;exact lf h
theorem aHl(rd:Option Nat)(h:aN1 dV cG dY cH d4=some e9):Lq 122 rd 1865 ⟨sp 27 0 [sD 0 (D.l X0.D) dV,sI 1 cG,sD 5 (D.l X0.D) dY,sI 6 cH,sD 19 D.b d4],[],[]⟩ (.normal,⟨sp 27 0 [sD 0 (D.l X0.D) dV,sI 1 cG,sD 5 (D.l X0.D) e9,sI 6 cH],[],[]⟩):=by unfold aN1 at h;apply g0 (o:=e9);cases d4;replace h:=By h;exact lp h;replace h:=Bz h;refine xX 23 X0.D h fun x7 h=>?_;obtain⟨r8,h12,h⟩:=bS h;refine gC 25 (QW h12) ?_;exact lp h
theorem aHk(rd:Option Nat)(h:aN0 dV cG dY cH=some e9):Lq 122 rd 466 ⟨sp 27 0 [sD 0 (D.l X0.D) dV,sI 1 cG,sD 5 (D.l X0.D) dY,sI 6 cH],[],[]⟩ (.normal,⟨sp 27 0 [sD 0 (D.l X0.D) dV,sI 1 cG,sD 5 (D.l X0.D) e9,sI 6 cH],[],[]⟩):=by unfold aN0 at h;apply g0 (o:=e9);refine xX 15 X0.D h fun x6 h=>?_;obtain⟨o9,h13,h⟩:=bS h;refine gl (aHl rd h13) ?_;exact lp h
def Vs(s0:List X0)(s1:Int)(s5:List X0)(s6:Int):St:=⟨sp 27 0 [sD 0 (D.l X0.D) s0,sI 1 s1,sD 5 (D.l X0.D) s5,sI 6 s6],[],[]⟩
def Vt(s0:List X0)(s1:Int)(o:(List X0)):Ex×St:=(.exit 0,⟨sp 27 0 [sD 5 (D.l X0.D) o],[],[]⟩)
theorem aHo(rd:Option Nat)(h:aHm dV cG dY cH=some e9):Lq 122 rd 58 (Vs dV cG dY cH) ((Vt dV cG) e9):=
 lL (fun s:List X0×Int=>Vs dV cG s.1 s.2) (Vt dV cG) (dY,cH) (fun⟨dY,cH⟩ o h=>by
 unfold Kw at h
 refine gN 9 X0.D dV ?_
 refine iB 10 h (fun h=>?_) fun h=>?_
 obtain⟨o10,h14,h⟩:=bS h
 refine gl (aHk rd h14) ?_
 exact lb h
 exact lb h) h
theorem aWi(h:Yi dV cG=some dY):AL Tryz.prog 122 [.d ((D.l X0.D) dV),dI cG] [] (.d ((D.l X0.D) dY)) []:=by unfold Yi at h;apply g0 (o:=dY);obtain⟨o11,h15,h⟩:=bS h;refine gL [.look 5,.live [0,1,5,6],.keep []] (aHo none h15) ?_;exact lf h
def WS(s1 s5:List X0)(s6:Int):St:=⟨sp 21 0 [sD 1 (D.l X0.D) s1,sD 5 (D.l X0.D) s5,sI 6 s6],[],[]⟩
def WT(s1:List X0)(o:(List X0)):Ex×St:=(.exit 0,⟨sp 21 0 [sD 5 (D.l X0.D) o],[],[]⟩)
theorem aIi(rd:Option Nat)(h:aIg dV dY cG=some e9):Lq 121 rd 58 (WS dV dY cG) ((WT dV) e9):=
 lL (fun s:List X0×Int=>WS dV s.1 s.2) (WT dV) (dY,cG) (fun⟨dY,cG⟩ o h=>by
 unfold Ky at h
 refine gN 10 X0.D dV ?_
 refine iB 11 h (fun h=>?_) fun h=>?_
 refine xX 17 X0.D h fun x1 h=>?_
 obtain⟨r2,h3,h⟩:=bS h
 refine gC 19 (QW h3) ?_
 exact lb h
 exact lb h) h
theorem aWx(h:Z1 dV dY=some eB):AL Tryz.prog 121 [.d ((D.l X0.D) dV),.d ((D.l X0.D) dY)] [] (.d ((D.l X0.D) eB)) []:=by unfold Z1 at h;apply g0 (o:=eB);obtain⟨o3,h4,h⟩:=bS h;refine gl (aIi none h4) ?_;exact lf h
theorem aUg(h:Ql dV dX=some d4):AL Tryz.prog 145 [.d ((D.l X0.D) dV),.d (X0.D dX)] [] (.d (D.b d4)) []:=by unfold Ql at h;apply g0 (o:=d4);refine gW 10 (.int (dV.length:Int)) ?_;obtain⟨r1,h1,h⟩:=bS h;refine gC 7 (QW h1)<|gN 8 X0.D r1<|gQ (Ee X0.D dV) ?_;exact lf h
theorem aGr(rd:Option Nat)(h:aGq cG dV d4 dX eC=some eE):Lq 120 rd 453 ⟨sp 22 0 [sI 0 cG,sD 1 (D.l X0.D) dV,bx 4,bx 5,sD 12 D.b d4],[cL 4 X0.D dX,cL 5 X0.D eC],[]⟩ (.normal,⟨sp 22 0 [sI 0 cG,sD 1 (D.l X0.D) dV,bx 4,bx 5],[cL 4 X0.D dX,cL 5 X0.D eE],[]⟩):=by unfold aGq at h;apply g0 (o:=eE);cases d4;replace h:=By h;refine gW 19 (.str (eC.str++([97]:List UInt8))) ?_;obtain⟨h4,h⟩:=cS h;refine gQ (Jn h4) ?_;exact lp h;replace h:=Bz h;exact lp h
theorem aGp(rd:Option Nat)(h:VY cG dV dX eC=some eE):Lq 120 rd 113 ⟨sp 22 0 [sI 0 cG,sD 1 (D.l X0.D) dV,bx 4,bx 5],[cL 4 X0.D dX,cL 5 X0.D eC],[]⟩ (.normal,⟨sp 22 0 [sI 0 cG,sD 1 (D.l X0.D) dV,bx 4,bx 5],[cL 4 X0.D dX,cL 5 X0.D eE],[]⟩):=by unfold VY at h;apply g0 (o:=eE);obtain⟨o2,h5,h⟩:=bS h;refine gl (aGr rd h5) ?_;exact lp h
def Va(s0:Int)(s1:List X0)(w4 w5:X0):St:=⟨sp 22 0 [sI 0 s0,sD 1 (D.l X0.D) s1,bx 4,bx 5],[cL 4 X0.D w4,cL 5 X0.D w5],[]⟩
def Vb(s0:Int)(s1:List X0)(w4 o:X0):Ex×St:=(.exit 0,⟨sp 22 0 [bx 4,bx 5],[cL 4 X0.D w4,cL 5 X0.D o],[]⟩)
theorem aGs(rd:Option Nat)(h:VZ cG dV dX eC=some eE):Lq 120 rd 28 (Va cG dV dX eC) ((Vb cG dV dX) eE):=
 lL (fun s:X0=>Va cG dV dX s) (Vb cG dV dX) eC (fun eC o h=>by
 unfold Ia at h
 obtain⟨r1,h1,h⟩:=bS h
 refine gQ (aUg h1) ?_
 cases r1
 replace h:=By h
 refine gW 10 (.ret (.d (D.b false))) ?_
 exact lb h
 replace h:=Bz h
 refine gW 10 (.ret (.d (D.b true))) ?_
 obtain⟨o3,h6,h⟩:=bS h
 refine gl (aGp rd h6) ?_
 exact lb h) h
theorem aV9(h:Y7 cG dV=some dX):AL Tryz.prog 120 [dI cG,.d ((D.l X0.D) dV)] [] (.d (X0.D dX)) []:=by unfold Y7 at h;apply g0 (o:=dX);obtain⟨o4,h7,h⟩:=bS h;refine gl (aGs none h7) ?_;exact lf h
theorem aGx(rd:Option Nat)(h:aGw cG cU dV dY cH d4=some e9):Lq 85 rd 1865 ⟨sp 47 0 [sI 1 cG,sD 2 (D.l X2.D) cU,sD 3 (D.l X0.D) dV,sD 9 (D.l X0.D) dY,sI 10 cH,sD 27 D.b d4],[],[]⟩ (.normal,⟨sp 47 0 [sI 1 cG,sD 2 (D.l X2.D) cU,sD 3 (D.l X0.D) dV,sD 9 (D.l X0.D) e9,sI 10 cH],[],[]⟩):=by unfold aGw at h;apply g0 (o:=e9);cases d4;replace h:=By h;exact lp h;replace h:=Bz h;refine xX 31 X2.D h fun x3 h=>?_;obtain⟨r4,h6,h⟩:=bS h;refine gC 34 (QW h6) ?_;exact lp h
theorem aGv(rd:Option Nat)(h:aGu cG cU dV dY cH=some e9):Lq 85 rd 466 ⟨sp 47 0 [sI 1 cG,sD 2 (D.l X2.D) cU,sD 3 (D.l X0.D) dV,sD 9 (D.l X0.D) dY,sI 10 cH],[],[]⟩ (.normal,⟨sp 47 0 [sI 1 cG,sD 2 (D.l X2.D) cU,sD 3 (D.l X0.D) dV,sD 9 (D.l X0.D) e9,sI 10 cH],[],[]⟩):=by unfold aGu at h;apply g0 (o:=e9);refine xX 22 X2.D h fun x2 h=>?_;obtain⟨o5,h7,h⟩:=bS h;refine gl (aGx rd h7) ?_;exact lp h
def Vf(s1:Int)(s2:List X2)(s3 s9:List X0)(s10:Int):St:=⟨sp 47 0 [sI 1 s1,sD 2 (D.l X2.D) s2,sD 3 (D.l X0.D) s3,sD 9 (D.l X0.D) s9,sI 10 s10],[],[]⟩
def Vg(s1:Int)(s2:List X2)(s3:List X0)(o:(List X0)):Ex×St:=(.exit 0,⟨sp 47 0 [sI 1 s1,sD 3 (D.l X0.D) s3,sD 9 (D.l X0.D) o],[],[]⟩)
theorem aGz(rd:Option Nat)(h:aGy cG cU dV dY cH=some e9):Lq 85 rd 58 (Vf cG cU dV dY cH) ((Vg cG cU dV) e9):=
 lL (fun s:List X0×Int=>Vf cG cU dV s.1 s.2) (Vg cG cU dV) (dY,cH) (fun⟨dY,cH⟩ o h=>by
 unfold Ic at h
 refine gN 16 X2.D cU ?_
 refine iB 17 h (fun h=>?_) fun h=>?_
 obtain⟨o6,h8,h⟩:=bS h
 refine gl (aGv rd h8) ?_
 exact lb h
 exact lb h) h
theorem aWb(h:Ya cV cG cU dV=some dY):AL Tryz.prog 85 [.d (AD.D cV),dI cG,.d ((D.l X2.D) cU),.d ((D.l X0.D) dV)] [] (.d ((D.l X0.D) dY)) []:=by unfold Ya at h;apply g0 (o:=dY);obtain⟨r1,h1,h⟩:=bS h;refine gC 13 (aVi h1) ?_;obtain⟨o7,h9,h⟩:=bS h;refine gl (aGz none h9) ?_;refine iB 36 h (fun h=>?_) fun h=>?_;exact lf h;obtain⟨r8,h11,h⟩:=bS h;refine gC 43 (aWi h11) ?_;obtain⟨r9,h12,h⟩:=bS h;refine gC 44 (aWx h12) ?_;obtain⟨r10,h13,h⟩:=bS h;refine gC 45 (aV9 h13) ?_;obtain⟨r11,h14,h⟩:=bS h;refine gC 46 (QW h14) ?_;exact lf h
def Vc(s1:Int)(s2:List X2)(s3 s4 s12:List X0)(w5:AD)(s13:Int)(w11:List X8):St:=⟨sp 72 0 [sI 1 s1,sD 2 (D.l X2.D) s2,sD 3 (D.l X0.D) s3,sD 4 (D.l X0.D) s4,bx 5,rx 11,sD 12 (D.l X0.D) s12,sI 13 s13],[cL 5 AD.D w5,(11,.row 70 2 (w11.map X8.D))],[]⟩
def Vd(s1:Int)(s2:List X2)(s3 s4 s12:List X0)(w5:AD)(o:(List X8)):Ex×St:=(.exit 0,⟨sp 72 0 [rx 11],[(11,.row 70 2 (o.map X8.D))],[]⟩)
end Go.Ac
