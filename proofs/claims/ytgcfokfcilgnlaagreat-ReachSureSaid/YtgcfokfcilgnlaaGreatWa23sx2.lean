/- Own work, printed: the functions compute these. -/
import Derived.Test.YtgcfokfcilgnlaaGreatWa23sx1
set_option linter.unusedVariables false
set_option linter.unusedSimpArgs false
namespace Go.Ac
open Go.Proofs
variable {cJ cK cN cO cX d7 d8 dA dB dE:Int}
variable {cM cT dF:List Int}
variable {cP:(Int×List Int)}
variable {cQ:Int×List Int}
variable {cR:Int×Bool×List Int}
variable {cU:List X2}
variable {cV:AD}
variable {cW cY:List (Int×Bool)}
variable {cZ:(List (Int×Bool))}
variable {d4:(List Int)}
variable {d5 eN eO eQ:Bool}
variable {d6:List Xc}
variable {d9:List X6}
variable {dC:Xc}
variable {dD:X6}
variable {dG dH:MP Int Int}
variable {dJ:(List Int×MP Int Int×MP Int Int)}
variable {dK:List Int×MP Int Int×MP Int Int}
variable {dL:(Int×List Int)⊕(Unit⊕Unit)}
variable {dM:(List Int)⊕(List Int)}
variable {dN:(List Int×Int)}
variable {dO:Int×Int×Int}
variable {dP:Int×Int}
variable {dQ:(Int×Int×Int×Int)}
variable {dR:(Int×Int)}
variable {dS:(Int×List Int)⊕Bool}
variable {dV:(List Int)⊕(Bool×List Int)}
variable {dX:Bool×List Int}
variable {dY:Unit⊕Unit}
variable {e9:Unit⊕Int}
variable {eA:List X0}
variable {eB eF:X3}
variable {eC:List Xf}
variable {eE:X4}
variable {eG:Unit⊕Bool}
variable {eH eI:List X3}
variable {eK:(List X3)}
variable {eL:List Bool}
variable {eM:(List Bool)}
def Vj(us:List Value)(s1 s10:Int)(w0:List Int)(s9:Int):St:=⟨sp 84 0 [rx 0,sI 1 s1,sI 9 s9,sI 10 s10],[rW 0 56 1 dU w0,(997,.vals [.row 0] us)],[]⟩
def Vk(us:List Value)(s1 s10:Int)(w0:List Int)(o:Int):Ex×St:=(.exit 2,⟨sp 84 0 [rx 0,sI 1 s1,sI 9 o,sI 10 s10],[rW 0 56 1 dU w0,(997,.vals [.row 0] us)],[]⟩)
theorem aH5(rd:Option Nat)(us:List Value)(h:SA cJ cK cM cN=some cO):Lq 162 rd 960 (Vj us cJ cK cM cN) ((Vk us cJ cK cM) cO):=
 lL (fun s:Int=>Vj us cJ cK cM s) (Vk us cJ cK cM) cN (fun cN o h=>by
 unfold G4 at h
 refine iB 32 h (fun h=>?_) fun h=>?_
 obtain⟨h10,h⟩:=cS h
 refine gQ h10.1<|gQ (AI dU h10.2) ?_
 obtain⟨x3,h11,h⟩:=xS h
 refine gG 36 (.el (dU x3)) (AK dU h11) ?_
 obtain⟨h12,h⟩:=cS h
 refine gQ h12.1<|gQ (AI dU h12.2) ?_
 obtain⟨x4,h13,h⟩:=xS h
 refine gG 40 (.el (dU x4)) (AK dU h13) ?_
 obtain⟨r5,h14,h⟩:=bS h
 refine gC 41 (FE h14) ?_
 refine iB 43 h (fun h=>?_) fun h=>?_
 exact lb h
 exact lb h
 exact lb h) h
def Vl(us:List Value)(s1 s9:Int)(w0:List Int)(s10:Int):St:=⟨sp 84 0 [rx 0,sI 1 s1,sI 9 s9,sI 10 s10],[rW 0 56 1 dU w0,(997,.vals [.row 0] us)],[]⟩
def Vm(us:List Value)(s1 s9:Int)(w0:List Int)(o:Int):Ex×St:=(.exit 4,⟨sp 84 0 [rx 0,sI 1 s1,sI 9 s9,sI 10 o],[rW 0 56 1 dU w0,(997,.vals [.row 0] us)],[]⟩)
theorem aH6(rd:Option Nat)(us:List Value)(h:SB cJ cK cM cN=some cO):Lq 162 rd 1924 (Vl us cJ cK cM cN) ((Vm us cJ cK cM) cO):=
 lL (fun s:Int=>Vl us cJ cK cM s) (Vm us cJ cK cM) cN (fun cN o h=>by
 unfold G5 at h
 refine iB 49 h (fun h=>?_) fun h=>?_
 obtain⟨h18,h⟩:=cS h
 refine gQ h18.1<|gQ (AI dU h18.2) ?_
 obtain⟨x7,h19,h⟩:=xS h
 refine gG 53 (.el (dU x7)) (AK dU h19) ?_
 obtain⟨h20,h⟩:=cS h
 refine gQ h20.1<|gQ (AI dU h20.2) ?_
 obtain⟨x8,h21,h⟩:=xS h
 refine gG 57 (.el (dU x8)) (AK dU h21) ?_
 obtain⟨r9,h22,h⟩:=bS h
 refine gQ (FE h22) ?_
 cases r9
 replace h:=Bj h
 refine gW 58 (.ret (.d (D.b false))) ?_
 exact lb h
 replace h:=Bl h
 refine gW 58 (.ret (.d (D.b true))) ?_
 exact lb h
 exact lb h) h
def Vh(us:List Value)(s1 s9 s10:Int)(w0:List Int):St:=⟨sp 84 0 [rx 0,sI 1 s1,sI 9 s9,sI 10 s10],[rW 0 56 1 dU w0,(997,.vals [.row 0] us)],[]⟩
def Vi(us:List Value)(s1:Int)(o:(Int×List Int)):Ex×St:=(.exit 0,⟨sp 84 0 [sI 9 o.1],[rW 0 56 1 dU o.2,(997,.vals [.row 0] us)],[]⟩)
theorem aH4(rd:Option Nat)(us:List Value)(h:R9 cJ cK cN cM=some cP):Lq 162 rd 60 (Vh us cJ cK cN cM) ((Vi us cJ) cP):=
 lL (fun s:Int×Int×List Int=>Vh us cJ s.1 s.2.1 s.2.2) (Vi us cJ) (cK,cN,cM) (fun⟨cK,cN,cM⟩ o h=>by
 unfold If at h
 obtain⟨o6,h16,h⟩:=bS h
 refine gl (aH5 rd us h16) ?_
 obtain⟨o10,h24,h⟩:=bS h
 refine gl (aH6 rd us h24) ?_
 refine iB 64 h (fun h=>?_) fun h=>?_
 exact lb h
 obtain⟨h26,h⟩:=cS h
 refine gQ h26.1<|gQ (AI dU h26.2) ?_
 obtain⟨x11,h27,h⟩:=xS h
 refine gG 72 (.el (dU x11)) (AK dU h27)<|gW 10077 (.sl ((cM.set o6.toNat x11).map dU)) ?_
 obtain⟨h28,h⟩:=cS h
 refine gQ h28.1<|gQ (AI dU h28.2) ?_
 obtain⟨x12,h29,h⟩:=xS h
 refine gG 76 (.el (dU x12)) (AK dU h29)<|gW 10078 (.sl (((cM.set o6.toNat x11).set o10.toNat x12).map dU)) ?_
 obtain⟨h30,h⟩:=cS h
 refine gQ h30.1<|gQ (AI dU h30.2) ?_
 obtain⟨h31,h⟩:=cS h
 refine gQ (A0 dU h31)<|gQ (AV dU cM o6 x11) ?_
 obtain⟨h32,h⟩:=cS h
 refine gQ h32.1<|gQ (AI dU h32.2) ?_
 obtain⟨h33,h⟩:=cS h
 refine gQ (A0 dU h33)<|gQ (AV dU (cM.set o6.toNat x11) o10 x12) ?_
 exact lb h) h
theorem aSl(h:Xh cJ cK cN cM=some cQ):AM Tryz.prog 162 [.row 0,dI cJ,dI cK,dI cN] [rW 0 56 1 dU cM] (dI cQ.1) [rW 0 56 1 dU cQ.2]:=by unfold Xh at h;refine XG.call (ks:=[0]) mixed fun us=>?_;apply g0 (o:=cQ);obtain⟨h1,h⟩:=cS h;refine gQ h1.1<|gQ (AI dU h1.2) ?_;obtain⟨x1,h2,h⟩:=xS h;refine gG 18 (.el (dU x1)) (AK dU h2)<|gW 10023 (.sl ((cM.set cJ.toNat x1).map dU)) ?_;obtain⟨h3,h⟩:=cS h;refine gQ h3.1<|gQ (AI dU h3.2) ?_;obtain⟨x2,h4,h⟩:=xS h;refine gG 22 (.el (dU x2)) (AK dU h4)<|gW 10024 (.sl (((cM.set cJ.toNat x1).set cN.toNat x2).map dU)) ?_;obtain⟨h5,h⟩:=cS h;refine gQ h5.1<|gQ (AI dU h5.2) ?_;obtain⟨h6,h⟩:=cS h;refine gQ (A0 dU h6)<|gQ (AV dU cM cJ x1) ?_;obtain⟨h7,h⟩:=cS h;refine gQ h7.1<|gQ (AI dU h7.2) ?_;obtain⟨h8,h⟩:=cS h;refine gQ (A0 dU h8)<|gQ (AV dU (cM.set cJ.toNat x1) cN x2) ?_;obtain⟨o13,h34,h⟩:=bS h;refine gl (aH4 none us h34) ?_;exact lX h (lv [8] [0,997])
def UR(us:List Value)(s1 s11:Int)(w0:List Int)(s10:Int):St:=⟨sp 168 0 [rx 0,sI 1 s1,sI 10 s10,sI 11 s11],[rW 0 56 1 dU w0,(997,.vals [.row 0] us)],[]⟩
def US(us:List Value)(s1 s11:Int)(w0:List Int)(o:Int):Ex×St:=(.exit 0,⟨sp 168 0 [rx 0,sI 1 s1,sI 10 o,sI 11 s11],[rW 0 56 1 dU w0,(997,.vals [.row 0] us)],[]⟩)
theorem aG5(rd:Option Nat)(us:List Value)(h:OO cJ cK cM cN=some cO):Lq 163 rd 60 (UR us cJ cK cM cN) ((US us cJ cK cM) cO):=
 lL (fun s:Int=>UR us cJ cK cM s) (US us cJ cK cM) cN (fun cN o h=>by
 unfold G2 at h
 refine iB 33 h (fun h=>?_) fun h=>?_
 obtain⟨h10,h⟩:=cS h
 refine gQ h10.1<|gQ (AI dU h10.2) ?_
 obtain⟨x3,h11,h⟩:=xS h
 refine gG 37 (.el (dU x3)) (AK dU h11) ?_
 obtain⟨h12,h⟩:=cS h
 refine gQ h12.1<|gQ (AI dU h12.2) ?_
 obtain⟨x4,h13,h⟩:=xS h
 refine gG 41 (.el (dU x4)) (AK dU h13) ?_
 obtain⟨r5,h14,h⟩:=bS h
 refine gQ (FE h14) ?_
 cases r5
 replace h:=Bj h
 refine gW 42 (.ret (.d (D.b false))) ?_
 exact lb h
 replace h:=Bl h
 refine gW 42 (.ret (.d (D.b true))) ?_
 exact lb h
 exact lb h) h
def UT(us:List Value)(s1 s10:Int)(w0:List Int)(s11:Int):St:=⟨sp 168 0 [rx 0,sI 1 s1,sI 10 s10,sI 11 s11],[rW 0 56 1 dU w0,(997,.vals [.row 0] us)],[]⟩
def UU(us:List Value)(s1 s10:Int)(w0:List Int)(o:Int):Ex×St:=(.exit 2,⟨sp 168 0 [rx 0,sI 1 s1,sI 10 s10,sI 11 o],[rW 0 56 1 dU w0,(997,.vals [.row 0] us)],[]⟩)
theorem aG6(rd:Option Nat)(us:List Value)(h:OP cJ cK cM cN=some cO):Lq 163 rd 124 (UT us cJ cK cM cN) ((UU us cJ cK cM) cO):=
 lL (fun s:Int=>UT us cJ cK cM s) (UU us cJ cK cM) cN (fun cN o h=>by
 unfold G3 at h
 refine iB 49 h (fun h=>?_) fun h=>?_
 obtain⟨h18,h⟩:=cS h
 refine gQ h18.1<|gQ (AI dU h18.2) ?_
 obtain⟨x7,h19,h⟩:=xS h
 refine gG 53 (.el (dU x7)) (AK dU h19) ?_
 obtain⟨h20,h⟩:=cS h
 refine gQ h20.1<|gQ (AI dU h20.2) ?_
 obtain⟨x8,h21,h⟩:=xS h
 refine gG 57 (.el (dU x8)) (AK dU h21) ?_
 obtain⟨r9,h22,h⟩:=bS h
 refine gC 58 (FE h22) ?_
 refine iB 60 h (fun h=>?_) fun h=>?_
 exact lb h
 exact lb h
 exact lb h) h
def UX(us:List Value)(s1 s11:Int)(w0:List Int)(s10:Int):St:=⟨sp 168 0 [rx 0,sI 1 s1,sI 10 s10,sI 11 s11],[rW 0 56 1 dU w0,(997,.vals [.row 0] us)],[]⟩
def UY(us:List Value)(s1 s11:Int)(w0:List Int)(o:Int):Ex×St:=(.exit 6,⟨sp 168 0 [rx 0,sI 1 s1,sI 10 o,sI 11 s11],[rW 0 56 1 dU w0,(997,.vals [.row 0] us)],[]⟩)
theorem aHa(rd:Option Nat)(us:List Value)(h:aG9 cJ cK cM cN=some cO):Lq 163 rd 65472 (UX us cJ cK cM cN) ((UY us cJ cK cM) cO):=
 lL (fun s:Int=>UX us cJ cK cM s) (UY us cJ cK cM) cN (fun cN o h=>by
 unfold OQ at h
 refine iB 102 h (fun h=>?_) fun h=>?_
 obtain⟨h43,h⟩:=cS h
 refine gQ h43.1<|gQ (AI dU h43.2) ?_
 obtain⟨x15,h44,h⟩:=xS h
 refine gG 106 (.el (dU x15)) (AK dU h44) ?_
 obtain⟨h45,h⟩:=cS h
 refine gQ h45.1<|gQ (AI dU h45.2) ?_
 obtain⟨x16,h46,h⟩:=xS h
 refine gG 110 (.el (dU x16)) (AK dU h46) ?_
 obtain⟨r17,h47,h⟩:=bS h
 refine gQ (FE h47) ?_
 cases r17
 replace h:=Bj h
 refine gW 111 (.ret (.d (D.b false))) ?_
 exact lb h
 replace h:=Bl h
 refine gW 111 (.ret (.d (D.b true))) ?_
 exact lb h
 exact lb h) h
def UZ(us:List Value)(s1 s10:Int)(w0:List Int)(s11:Int):St:=⟨sp 168 0 [rx 0,sI 1 s1,sI 10 s10,sI 11 s11],[rW 0 56 1 dU w0,(997,.vals [.row 0] us)],[]⟩
def Uv(us:List Value)(s1 s10:Int)(w0:List Int)(o:Int):Ex×St:=(.exit 8,⟨sp 168 0 [rx 0,sI 1 s1,sI 10 s10,sI 11 o],[rW 0 56 1 dU w0,(997,.vals [.row 0] us)],[]⟩)
theorem aHc(rd:Option Nat)(us:List Value)(h:aHb cJ cK cM cN=some cO):Lq 163 rd 130948 (UZ us cJ cK cM cN) ((Uv us cJ cK cM) cO):=
 lL (fun s:Int=>UZ us cJ cK cM s) (Uv us cJ cK cM) cN (fun cN o h=>by
 unfold OR at h
 refine iB 118 h (fun h=>?_) fun h=>?_
 obtain⟨h51,h⟩:=cS h
 refine gQ h51.1<|gQ (AI dU h51.2) ?_
 obtain⟨x19,h52,h⟩:=xS h
 refine gG 122 (.el (dU x19)) (AK dU h52) ?_
 obtain⟨h53,h⟩:=cS h
 refine gQ h53.1<|gQ (AI dU h53.2) ?_
 obtain⟨x20,h54,h⟩:=xS h
 refine gG 126 (.el (dU x20)) (AK dU h54) ?_
 obtain⟨r21,h55,h⟩:=bS h
 refine gC 127 (FE h55) ?_
 refine iB 129 h (fun h=>?_) fun h=>?_
 exact lb h
 exact lb h
 exact lb h) h
def UV(us:List Value)(s1 s10 s11:Int)(w0:List Int):St:=⟨sp 168 0 [rx 0,sI 1 s1,sI 10 s10,sI 11 s11],[rW 0 56 1 dU w0,(997,.vals [.row 0] us)],[]⟩
def UW(us:List Value)(s1:Int)(o:(Int×List Int)):Ex×St:=(.exit 4,⟨sp 168 0 [rx 0,sI 1 s1,sI 11 o.1],[rW 0 56 1 dU o.2,(997,.vals [.row 0] us)],[]⟩)
theorem aG8(rd:Option Nat)(us:List Value)(h:R5 cJ cK cN cM=some cP):Lq 163 rd 4092 (UV us cJ cK cN cM) ((UW us cJ) cP):=
 lL (fun s:Int×Int×List Int=>UV us cJ s.1 s.2.1 s.2.2) (UW us cJ) (cK,cN,cM) (fun⟨cK,cN,cM⟩ o h=>by
 unfold IS at h
 obtain⟨o18,h49,h⟩:=bS h
 refine gl (aHa rd us h49) ?_
 obtain⟨o22,h57,h⟩:=bS h
 refine gl (aHc rd us h57) ?_
 refine iB 134 h (fun h=>?_) fun h=>?_
 exact lb h
 obtain⟨h59,h⟩:=cS h
 refine gQ h59.1<|gQ (AI dU h59.2) ?_
 obtain⟨x23,h60,h⟩:=xS h
 refine gG 142 (.el (dU x23)) (AK dU h60)<|gW 10147 (.sl ((cM.set o18.toNat x23).map dU)) ?_
 obtain⟨h61,h⟩:=cS h
 refine gQ h61.1<|gQ (AI dU h61.2) ?_
 obtain⟨x24,h62,h⟩:=xS h
 refine gG 146 (.el (dU x24)) (AK dU h62)<|gW 10148 (.sl (((cM.set o18.toNat x23).set o22.toNat x24).map dU)) ?_
 obtain⟨h63,h⟩:=cS h
 refine gQ h63.1<|gQ (AI dU h63.2) ?_
 obtain⟨h64,h⟩:=cS h
 refine gQ (A0 dU h64)<|gQ (AV dU cM o18 x23) ?_
 obtain⟨h65,h⟩:=cS h
 refine gQ h65.1<|gQ (AI dU h65.2) ?_
 obtain⟨h66,h⟩:=cS h
 refine gQ (A0 dU h66)<|gQ (AV dU (cM.set o18.toNat x23) o22 x24) ?_
 exact lb h) h
theorem R6(h:Xa cJ cK cN cM=some cR):AM Tryz.prog 163 [.row 0,dI cJ,dI cK,dI cN] [rW 0 56 1 dU cM] (.tup [dI cR.1,.d (D.b cR.2.1)]) [rW 0 56 1 dU cR.2.2]:=by unfold Xa at h;refine XG.call (ks:=[0]) mixed fun us=>?_;apply g0 (o:=cR);obtain⟨h1,h⟩:=cS h;refine gQ h1.1<|gQ (AI dU h1.2) ?_;obtain⟨x1,h2,h⟩:=xS h;refine gG 19 (.el (dU x1)) (AK dU h2)<|gW 10024 (.sl ((cM.set cJ.toNat x1).map dU)) ?_;obtain⟨h3,h⟩:=cS h;refine gQ h3.1<|gQ (AI dU h3.2) ?_;obtain⟨x2,h4,h⟩:=xS h;refine gG 23 (.el (dU x2)) (AK dU h4)<|gW 10025 (.sl (((cM.set cJ.toNat x1).set cN.toNat x2).map dU)) ?_;obtain⟨h5,h⟩:=cS h;refine gQ h5.1<|gQ (AI dU h5.2) ?_;obtain⟨h6,h⟩:=cS h;refine gQ (A0 dU h6)<|gQ (AV dU cM cJ x1) ?_;obtain⟨h7,h⟩:=cS h;refine gQ h7.1<|gQ (AI dU h7.2) ?_;obtain⟨h8,h⟩:=cS h;refine gQ (A0 dU h8)<|gQ (AV dU (cM.set cJ.toNat x1) cN x2) ?_;obtain⟨o6,h16,h⟩:=bS h;refine gl (aG5 none us h16) ?_;obtain⟨o10,h24,h⟩:=bS h;refine gl (aG6 none us h24) ?_;refine iB 65 h (fun h=>?_) fun h=>?_;obtain⟨h26,h⟩:=cS h;refine gQ h26.1<|gQ (AI dU h26.2) ?_;obtain⟨x11,h27,h⟩:=xS h;refine gG 73 (.el (dU x11)) (AK dU h27)<|gW 10078 (.sl ((((cM.set cJ.toNat x1).set cN.toNat x2).set o10.toNat x11).map dU)) ?_;obtain⟨h28,h⟩:=cS h;refine gQ h28.1<|gQ (AI dU h28.2) ?_;obtain⟨x12,h29,h⟩:=xS h;refine gG 77 (.el (dU x12)) (AK dU h29)<|gW 10079 (.sl (((((cM.set cJ.toNat x1).set cN.toNat x2).set o10.toNat x11).set cJ.toNat x12).map dU)) ?_;obtain⟨h30,h⟩:=cS h;refine gQ h30.1<|gQ (AI dU h30.2) ?_;obtain⟨h31,h⟩:=cS h;refine gQ (A0 dU h31)<|gQ (AV dU ((cM.set cJ.toNat x1).set cN.toNat x2) o10 x11) ?_;obtain⟨h32,h⟩:=cS h;refine gQ h32.1<|gQ (AI dU h32.2) ?_;obtain⟨h33,h⟩:=cS h;refine gQ (A0 dU h33)<|gQ (AV dU (((cM.set cJ.toNat x1).set cN.toNat x2).set o10.toNat x11) cJ x12) ?_;exact lX h (lv [8,9] [0,997]);obtain⟨h34,h⟩:=cS h;refine gQ h34.1<|gQ (AI dU h34.2) ?_;obtain⟨x13,h35,h⟩:=xS h;refine gG 88 (.el (dU x13)) (AK dU h35)<|gW 10093 (.sl ((((cM.set cJ.toNat x1).set cN.toNat x2).set o6.toNat x13).map dU)) ?_;obtain⟨h36,h⟩:=cS h;refine gQ h36.1<|gQ (AI dU h36.2) ?_;obtain⟨x14,h37,h⟩:=xS h;refine gG 92 (.el (dU x14)) (AK dU h37)<|gW 10094 (.sl (((((cM.set cJ.toNat x1).set cN.toNat x2).set o6.toNat x13).set o10.toNat x14).map dU)) ?_;obtain⟨h38,h⟩:=cS h;refine gQ h38.1<|gQ (AI dU h38.2) ?_;obtain⟨h39,h⟩:=cS h;refine gQ (A0 dU h39)<|gQ (AV dU ((cM.set cJ.toNat x1).set cN.toNat x2) o6 x13) ?_;obtain⟨h40,h⟩:=cS h;refine gQ h40.1<|gQ (AI dU h40.2) ?_;obtain⟨h41,h⟩:=cS h;refine gQ (A0 dU h41)<|gQ (AV dU (((cM.set cJ.toNat x1).set cN.toNat x2).set o6.toNat x13) o10 x14) ?_;obtain⟨o25,h67,h⟩:=bS h;refine gl (aG8 none us h67) ?_;obtain⟨h68,h⟩:=cS h;refine gQ h68.1<|gQ (AI dU h68.2) ?_;obtain⟨x26,h69,h⟩:=xS h;refine gG 160 (.el (dU x26)) (AK dU h69)<|gW 10165 (.sl ((o25.2.set o25.1.toNat x26).map dU)) ?_;obtain⟨h70,h⟩:=cS h;refine gQ h70.1<|gQ (AI dU h70.2) ?_;obtain⟨x27,h71,h⟩:=xS h;refine gG 164 (.el (dU x27)) (AK dU h71)<|gW 10166 (.sl (((o25.2.set o25.1.toNat x26).set cJ.toNat x27).map dU)) ?_;obtain⟨h72,h⟩:=cS h;refine gQ h72.1<|gQ (AI dU h72.2) ?_;obtain⟨h73,h⟩:=cS h;refine gQ (A0 dU h73)<|gQ (AV dU o25.2 o25.1 x26) ?_;obtain⟨h74,h⟩:=cS h;refine gQ h74.1<|gQ (AI dU h74.2) ?_;obtain⟨h75,h⟩:=cS h;refine gQ (A0 dU h75)<|gQ (AV dU (o25.2.set o25.1.toNat x26) cJ x27) ?_;exact lX h (lv [8,9] [0,997])
theorem aHm(rd:Option Nat)(self:Int->Int->Int->(List Int)->Option (List Int))(hs:∀(a1 a2 a3:Int) (w0 r:List Int),self a1 a2 a3 w0=some r->AM Tryz.prog 132 [.row 0,dI a1,dI a2,dI a3] [rW 0 56 1 dU w0] (.tup []) [rW 0 56 1 dU r])(us:List Value){s1 s2 s3:Int}{s8 s9:Bool}{s10:Int}{s35:Bool}{w0:List Int}{o:(Int×List Int)}(h:OT self s1 s2 s3 s8 s9 s10 s35 w0=some o):Lq 132 rd 1821 ⟨sp 134 0 [rx 0,sI 1 s1,sI 2 s2,sI 3 s3,sD 8 D.b s8,sD 9 D.b s9,sI 10 s10,sD 35 D.b s35],[rW 0 56 1 dU w0,(997,.vals [.row 0] us)],[]⟩ (.normal,⟨sp 134 0 [rx 0,sI 1 s1,sI 2 s2,sI 3 o.1,sD 8 D.b s8,sD 9 D.b s9,sI 10 s10],[rW 0 56 1 dU o.2,(997,.vals [.row 0] us)],[]⟩):=by unfold OT at h;apply g0 (o:=o);cases s35;replace h:=Bj h;exact lp h;replace h:=Bl h;obtain⟨r3,h6,h⟩:=bS h;refine gG 39 (.cx false [(0,0)] [] (.tup []) [rW 0 56 1 dU r3]) (bBr h6) ?_;exact lp h
theorem aHn(rd:Option Nat)(self:Int->Int->Int->(List Int)->Option (List Int))(hs:∀(a1 a2 a3:Int) (w0 r:List Int),self a1 a2 a3 w0=some r->AM Tryz.prog 132 [.row 0,dI a1,dI a2,dI a3] [rW 0 56 1 dU w0] (.tup []) [rW 0 56 1 dU r])(us:List Value){s1 s2 s3:Int}{s8 s9:Bool}{s10 s11 s12:Int}{s50:Bool}{w0:List Int}{o:(Int×Int×List Int)}(h:OU self s1 s2 s3 s8 s9 s10 s11 s12 s50 w0=some o):Lq 132 rd 7293 ⟨sp 134 0 [rx 0,sI 1 s1,sI 2 s2,sI 3 s3,sD 8 D.b s8,sD 9 D.b s9,sI 10 s10,sI 11 s11,sI 12 s12,sD 50 D.b s50],[rW 0 56 1 dU w0,(997,.vals [.row 0] us)],[]⟩ (.normal,⟨sp 134 0 [rx 0,sI 1 s1,sI 2 s2,sI 3 s3,sD 8 D.b s8,sD 9 D.b s9,sI 10 s10,sI 11 o.1,sI 12 o.2.1],[rW 0 56 1 dU o.2.2,(997,.vals [.row 0] us)],[]⟩):=by unfold OU at h;apply g0 (o:=o);cases s50;replace h:=Bj h;exact lp h;replace h:=Bl h;obtain⟨r6,h10,h⟩:=bS h;refine gG 54 (.cx false [(0,0)] [] (.tup []) [rW 0 56 1 dU r6]) (bCk h10) ?_;exact lp h
theorem LZ(rd:Option Nat)(self:Int->Int->Int->(List Int)->Option (List Int))(hs:∀(a1 a2 a3:Int) (w0 r:List Int),self a1 a2 a3 w0=some r->AM Tryz.prog 132 [.row 0,dI a1,dI a2,dI a3] [rW 0 56 1 dU w0] (.tup []) [rW 0 56 1 dU r])(us:List Value){s1 s2 s3:Int}{s8 s9:Bool}{s10 s11:Int}{s68:Bool}{w0:List Int}{o:(List Int)⊕(List Int)}(h:KX self s1 s2 s3 s8 s9 s10 s11 s68 w0=some o):Lq 132 rd 14589 ⟨sp 134 0 [rx 0,sI 1 s1,sI 2 s2,sI 3 s3,sD 8 D.b s8,sD 9 D.b s9,sI 10 s10,sI 11 s11,sD 68 D.b s68],[rW 0 56 1 dU w0,(997,.vals [.row 0] us)],[]⟩ (match (generalizing:=false) o with
 | .inl o=>(.normal,⟨sp 134 0 [rx 0,sI 1 s1,sI 2 s2,sI 3 s3,sD 8 D.b s8,sD 9 D.b s9,sI 10 s10,sI 11 s11],[rW 0 56 1 dU o,(997,.vals [.row 0] us)],[]⟩)
 | .inr o=>(.ret,⟨sp 134 0 [],[rW 0 56 1 dU o,(997,.vals [.row 0] us)],[]⟩)):=by
 unfold KX at h
 apply g0 (o:=o)
 cases s68
 replace h:=Bj h
 exact lp h
 replace h:=Bl h
 obtain⟨r8,h15,h⟩:=bS h
 refine gQ (bA1 h15) ?_
 rcases r8 with⟨r8_1,r8_2⟩
 cases r8_1
 replace h:=Bj h
 refine gW 72 (.cx false [(0,0)] [] (.d (D.b false)) [rW 0 56 1 dU r8_2]) ?_
 exact lp h
 replace h:=Bl h
 refine gW 72 (.cx false [(0,0)] [] (.d (D.b true)) [rW 0 56 1 dU r8_2]) ?_
 exact lp h
theorem FY(rd:Option Nat)(self:Int->Int->Int->(List Int)->Option (List Int))(hs:∀(a1 a2 a3:Int) (w0 r:List Int),self a1 a2 a3 w0=some r->AM Tryz.prog 132 [.row 0,dI a1,dI a2,dI a3] [rW 0 56 1 dU w0] (.tup []) [rW 0 56 1 dU r])(us:List Value){s1 s2 s3:Int}{s9:Bool}{s14 s16:Int}{s17 s18:Int}{s113:Bool}{w0:List Int}{o:(Int×Int×Bool×List Int)}(h:F8 self s1 s2 s3 s9 s14 s16 s17 s18 s113 w0=some o):Lq 132 rd 466943 ⟨sp 134 0 [rx 0,sI 1 s1,sI 2 s2,sI 3 s3,sD 9 D.b s9,sI 14 s14,sI 16 s16,sI 17 s17,sI 18 s18,sD 113 D.b s113],[rW 0 56 1 dU w0,(997,.vals [.row 0] us)],[]⟩ (.normal,⟨sp 134 0 [rx 0,sI 1 o.1,sI 2 o.2.1,sI 3 s3,sD 8 D.b o.2.2.1,sD 9 D.b s9],[rW 0 56 1 dU o.2.2.2,(997,.vals [.row 0] us)],[]⟩):=by unfold F8 at h;apply g0 (o:=o);cases s113;replace h:=Bj h;obtain⟨r18,h29,h⟩:=bS h;refine gG 132 (.cx false [(0,0)] [] (.tup []) [rW 0 56 1 dU r18]) (hs (AA .add .i64 s14 1) s2 s3 w0 r18 h29) ?_;exact lp h;replace h:=Bl h;obtain⟨r17,h28,h⟩:=bS h;refine gG 121 (.cx false [(0,0)] [] (.tup []) [rW 0 56 1 dU r17]) (hs s1 s14 s3 w0 r17 h28) ?_;exact lp h
theorem aHl(rd:Option Nat)(self:Int->Int->Int->(List Int)->Option (List Int))(hs:∀(a1 a2 a3:Int) (w0 r:List Int),self a1 a2 a3 w0=some r->AM Tryz.prog 132 [.row 0,dI a1,dI a2,dI a3] [rW 0 56 1 dU w0] (.tup []) [rW 0 56 1 dU r])(us:List Value){s1 s2 s3:Int}{s8 s9:Bool}{w0:List Int}{o:(Int×Int×Int×Bool×Bool×List Int)⊕(List Int)}(h:OS self s1 s2 s3 s8 s9 w0=some o):Lq 132 rd 28 ⟨sp 134 0 [rx 0,sI 1 s1,sI 2 s2,sI 3 s3,sD 8 D.b s8,sD 9 D.b s9],[rW 0 56 1 dU w0,(997,.vals [.row 0] us)],[]⟩ (match (generalizing:=false) o with
 | .inl o=>(.normal,⟨sp 134 0 [rx 0,sI 1 o.1,sI 2 o.2.1,sI 3 o.2.2.1,sD 8 D.b o.2.2.2.1,sD 9 D.b o.2.2.2.2.1],[rW 0 56 1 dU o.2.2.2.2.2,(997,.vals [.row 0] us)],[]⟩)
 | .inr o=>(.ret,⟨sp 134 0 [],[rW 0 56 1 dU o,(997,.vals [.row 0] us)],[]⟩)):=by
 unfold OS at h
 apply g0 (o:=o)
 refine iB 23 h (fun h=>?_) fun h=>?_
 obtain⟨r1,h2,h⟩:=bS h
 refine gG 27 (.cx false [(0,0)] [] (.tup []) [rW 0 56 1 dU r1]) (bBt h2) ?_
 exact lp h
 refine iB 29 h (fun h=>?_) fun h=>?_
 obtain⟨r2,h4,h⟩:=bS h
 refine gG 33 (.cx false [(0,0)] [] (.tup []) [rW 0 56 1 dU r2]) (bBw h4) ?_
 exact lp h
 obtain⟨o4,h7,h⟩:=bS h
 refine gl (aHm rd self hs us h7) ?_
 obtain⟨r5,h8,h⟩:=bS h
 refine gG 46 (.lend [0] (.tup [dI r5.1,dI r5.2])) (bCr h8) ?_
 obtain⟨o7,h11,h⟩:=bS h
 refine gl (aHn rd self hs us h11) ?_
 refine iB 62 h (fun h=>?_) fun h=>?_
 refine iB 65 h (fun h=>?_) fun h=>?_
 obtain⟨o9,h17,h⟩:=bS h
 refine gl (LZ rd self hs us h17) ?_
 replace h:=AJ h
 rcases h with⟨o10,rfl,h⟩|⟨o11,rfl,h⟩
 refine iB 75 h (fun h=>?_) fun h=>?_
 obtain⟨h19,h⟩:=cS h
 refine gQ h19.1<|gQ (AI dU h19.2) ?_
 obtain⟨x12,h20,h⟩:=xS h
 refine gG 80 (.el (dU x12)) (AK dU h20) ?_
 obtain⟨h21,h⟩:=cS h
 refine gQ h21.1<|gQ (AI dU h21.2) ?_
 obtain⟨x13,h22,h⟩:=xS h
 refine gG 84 (.el (dU x13)) (AK dU h22) ?_
 obtain⟨r14,h23,h⟩:=bS h
 refine gC 85 (FE h23) ?_
 refine iB 87 h (fun h=>?_) fun h=>?_
 obtain⟨r15,h25,h⟩:=bS h
 refine gG 92 (.cx false [(0,0)] [] (dI r15.1) [rW 0 56 1 dU r15.2]) (aSl h25) ?_
 exact lp h
 obtain⟨r16,h26,h⟩:=bS h
 refine gG 99 (.cx false [(0,0)] [] (.tup [dI r16.1,.d (D.b r16.2.1)]) [rW 0 56 1 dU r16.2.2]) (R6 h26)<|gQ (of_decide_eq_true rfl:(8:Int)≠0) ?_
 obtain⟨o19,h30,h⟩:=bS h
 refine gl (FY rd self hs us h30) ?_
 exact lp h
 obtain⟨r20,h31,h⟩:=bS h
 refine gG 99 (.cx false [(0,0)] [] (.tup [dI r20.1,.d (D.b r20.2.1)]) [rW 0 56 1 dU r20.2.2]) (R6 h31)<|gQ (of_decide_eq_true rfl:(8:Int)≠0) ?_
 obtain⟨o21,h32,h⟩:=bS h
 refine gl (FY rd self hs us h32) ?_
 exact lp h
 exact lp h
 obtain⟨o22,h33,h⟩:=bS h
 refine gl (LZ rd self hs us h33) ?_
 replace h:=AJ h
 rcases h with⟨o23,rfl,h⟩|⟨o24,rfl,h⟩
 refine iB 75 h (fun h=>?_) fun h=>?_
 obtain⟨h35,h⟩:=cS h
 refine gQ h35.1<|gQ (AI dU h35.2) ?_
 obtain⟨x25,h36,h⟩:=xS h
 refine gG 80 (.el (dU x25)) (AK dU h36) ?_
 obtain⟨h37,h⟩:=cS h
 refine gQ h37.1<|gQ (AI dU h37.2) ?_
 obtain⟨x26,h38,h⟩:=xS h
 refine gG 84 (.el (dU x26)) (AK dU h38) ?_
 obtain⟨r27,h39,h⟩:=bS h
 refine gC 85 (FE h39) ?_
 refine iB 87 h (fun h=>?_) fun h=>?_
 obtain⟨r28,h41,h⟩:=bS h
 refine gG 92 (.cx false [(0,0)] [] (dI r28.1) [rW 0 56 1 dU r28.2]) (aSl h41) ?_
 exact lp h
 obtain⟨r29,h42,h⟩:=bS h
 refine gG 99 (.cx false [(0,0)] [] (.tup [dI r29.1,.d (D.b r29.2.1)]) [rW 0 56 1 dU r29.2.2]) (R6 h42)<|gQ (of_decide_eq_true rfl:(8:Int)≠0) ?_
 obtain⟨o30,h43,h⟩:=bS h
 refine gl (FY rd self hs us h43) ?_
 exact lp h
 obtain⟨r31,h44,h⟩:=bS h
 refine gG 99 (.cx false [(0,0)] [] (.tup [dI r31.1,.d (D.b r31.2.1)]) [rW 0 56 1 dU r31.2.2]) (R6 h44)<|gQ (of_decide_eq_true rfl:(8:Int)≠0) ?_
 obtain⟨o32,h45,h⟩:=bS h
 refine gl (FY rd self hs us h45) ?_
 exact lp h
 exact lp h
 obtain⟨o33,h46,h⟩:=bS h
 refine gl (LZ rd self hs us h46) ?_
 replace h:=AJ h
 rcases h with⟨o34,rfl,h⟩|⟨o35,rfl,h⟩
 refine iB 75 h (fun h=>?_) fun h=>?_
 obtain⟨h48,h⟩:=cS h
 refine gQ h48.1<|gQ (AI dU h48.2) ?_
 obtain⟨x36,h49,h⟩:=xS h
 refine gG 80 (.el (dU x36)) (AK dU h49) ?_
 obtain⟨h50,h⟩:=cS h
 refine gQ h50.1<|gQ (AI dU h50.2) ?_
 obtain⟨x37,h51,h⟩:=xS h
 refine gG 84 (.el (dU x37)) (AK dU h51) ?_
 obtain⟨r38,h52,h⟩:=bS h
 refine gC 85 (FE h52) ?_
 refine iB 87 h (fun h=>?_) fun h=>?_
 obtain⟨r39,h54,h⟩:=bS h
 refine gG 92 (.cx false [(0,0)] [] (dI r39.1) [rW 0 56 1 dU r39.2]) (aSl h54) ?_
 exact lp h
 obtain⟨r40,h55,h⟩:=bS h
 refine gG 99 (.cx false [(0,0)] [] (.tup [dI r40.1,.d (D.b r40.2.1)]) [rW 0 56 1 dU r40.2.2]) (R6 h55)<|gQ (of_decide_eq_true rfl:(8:Int)≠0) ?_
 obtain⟨o41,h56,h⟩:=bS h
 refine gl (FY rd self hs us h56) ?_
 exact lp h
 obtain⟨r42,h57,h⟩:=bS h
 refine gG 99 (.cx false [(0,0)] [] (.tup [dI r42.1,.d (D.b r42.2.1)]) [rW 0 56 1 dU r42.2.2]) (R6 h57)<|gQ (of_decide_eq_true rfl:(8:Int)≠0) ?_
 obtain⟨o43,h58,h⟩:=bS h
 refine gl (FY rd self hs us h58) ?_
 exact lp h
 exact lp h
def VJ(us:List Value)(s1 s2 s3:Int)(s8 s9:Bool)(w0:List Int):St:=⟨sp 134 0 [rx 0,sI 1 s1,sI 2 s2,sI 3 s3,sD 8 D.b s8,sD 9 D.b s9],[rW 0 56 1 dU w0,(997,.vals [.row 0] us)],[]⟩
def VK(us:List Value)(o:(List Int)):Ex×St:=(.ret,⟨sp 134 0 [],[rW 0 56 1 dU o,(997,.vals [.row 0] us)],[]⟩)
theorem aHp(rd:Option Nat)(self:Int->Int->Int->(List Int)->Option (List Int))(hs:∀(a1 a2 a3:Int) (w0 r:List Int),self a1 a2 a3 w0=some r->AM Tryz.prog 132 [.row 0,dI a1,dI a2,dI a3] [rW 0 56 1 dU w0] (.tup []) [rW 0 56 1 dU r])(us:List Value){s1 s2 s3:Int}{s8 s9:Bool}{w0:List Int}{t:(List Int)}(h:R7 self s1 s2 s3 s8 s9 w0=some t):Lq 132 rd 14 (VJ us s1 s2 s3 s8 s9 w0) ((VK us) t):=
 lL (fun s:Int×Int×Int×Bool×Bool×List Int=>VJ us s.1 s.2.1 s.2.2.1 s.2.2.2.1 s.2.2.2.2.1 s.2.2.2.2.2) (VK us) (s1,s2,s3,s8,s9,w0) (fun⟨s1,s2,s3,s8,s9,w0⟩ o h=>by
 unfold IY at h
 obtain⟨o44,h59,h⟩:=bS h
 refine gl (aHl rd self hs us h59) ?_
 replace h:=AJ h
 rcases h with⟨o45,rfl,h⟩|⟨o46,rfl,h⟩
 exact lb h
 exact lb h) h
theorem aSe(self:Int->Int->Int->(List Int)->Option (List Int))(hs:∀(a1 a2 a3:Int) (w0 r:List Int),self a1 a2 a3 w0=some r->AM Tryz.prog 132 [.row 0,dI a1,dI a2,dI a3] [rW 0 56 1 dU w0] (.tup []) [rW 0 56 1 dU r])(a1 a2 a3:Int)(w0 r:List Int)(h:aSd self a1 a2 a3 w0=some r):AM Tryz.prog 132 [.row 0,dI a1,dI a2,dI a3] [rW 0 56 1 dU w0] (.tup []) [rW 0 56 1 dU r]:=by unfold aSd at h;refine XG.call (ks:=[0]) mixed fun us=>?_;apply g0 (o:=r);obtain⟨o47,h60,h⟩:=bS h;refine gl (aHp none self hs us h60) ?_;exact lX h (lv [] [0,997])
theorem VM:∀(n:Nat) (a1 a2 a3:Int) (w0 r:List Int),aQj n a1 a2 a3 w0=some r->AM Tryz.prog 132 [.row 0,dI a1,dI a2,dI a3] [rW 0 56 1 dU w0] (.tup []) [rW 0 56 1 dU r]
 |0,a1,a2,a3,w0,r,h=>by simp[aQj]at h
 |n+1,a1,a2,a3,w0,r,h=>aSe _ (VM n) a1 a2 a3 w0 r h
theorem bA6(h:Xd cJ cK cN cM=some cT):AM Tryz.prog 132 [.row 0,dI cJ,dI cK,dI cN] [rW 0 56 1 dU cM] (.tup []) [rW 0 56 1 dU cT]:=VM 100000 cJ cK cN cM cT h
theorem aZu(h:Qs cM=some cT):AM Tryz.prog 93 [.row 0] [rW 0 56 1 dU cM] (.tup []) [rW 0 56 1 dU cT]:=by unfold Qs at h;refine XG.call (ks:=[0]) mixed fun us=>?_;apply g0 (o:=cT);refine gN 4 dU cM ?_;obtain⟨r1,h1,h⟩:=bS h;refine gC 9 (aR3 h1) ?_;obtain⟨r2,h2,h⟩:=bS h;refine gG 10 (.cx false [(0,0)] [] (.tup []) [rW 0 56 1 dU r2]) (bA6 h2) ?_;exact lX h (lv [] [0,997])
theorem bAq(h:Un cM=some cT):AM Tryz.prog 93 [.row 0] [(0,.bag 56 1 (cM.map dU))] (.tup []) [rW 0 56 1 dU cT]:=
 AM.bagE (R:=fun _=>.tup []) (X':=fun cT=> [rW 0 56 1 dU cT]) (fun _ _ h=>aZu h) cT h
def T0(s1:List X2)(s6 s15:Int)(s16 s30:Int)(w2:AD)(w5:List (Int×Bool))(s31:Int)(w7:List (Int×Bool)):St:=⟨sp 65 0 [sD 1 (D.l X2.D) s1,bx 2,rx 5,sI 6 s6,rx 7,sI 15 s15,sI 16 s16,sI 30 s30,sI 31 s31],[cL 2 AD.D w2,(5,.mapS (ms dU D.b w5)),(7,.mapS (ms dU D.b w7))],[]⟩
def T3(s1:List X2)(s6 s15:Int)(s16 s30:Int)(w2:AD)(w5:List (Int×Bool))(o:(List (Int×Bool))):Ex×St:=(.exit 2,⟨sp 65 0 [sD 1 (D.l X2.D) s1,bx 2,rx 5,rx 7,sI 15 s15,sI 16 s16],[cL 2 AD.D w2,(5,.mapS (ms dU D.b w5)),(7,.mapS (ms dU D.b o))],[]⟩)
theorem aGq(rd:Option Nat)(h:aR6 cU cJ cK cN cO cV cW cX cY=some cZ):Lq 67 rd 59802 (T0 cU cJ cK cN cO cV cW cX cY) ((T3 cU cJ cK cN cO cV cW) cZ):=
 lL (fun s:Int×(List (Int×Bool))=>T0 cU cJ cK cN cO cV cW s.1 s.2) (T3 cU cJ cK cN cO cV cW) (cX,cY) (fun⟨cX,cY⟩ o h=>by
 unfold IM at h
 refine iB 32 h (fun h=>?_) fun h=>?_
 obtain⟨r3,h5,h⟩:=bS h
 refine gG 40 (.cx false [(0,7)] [(1,40)] (.row 1) [(1,.mapS (ms dU D.b r3))]) (bBk h5) ?_
 exact lB h [.live [1,2,5,6,7,15,16,30,31],.keep [2,5,40],.ren 40 7,.sort]
 exact lb h) h
def Gu(clk:Nat)(es:List (Nat×Int×Bool))(s1:List X2)(s15 s16:Int)(w2:AD)(w7 w5:List (Int×Bool))(sn:List Nat):St:=⟨sp 65 0 [sD 1 (D.l X2.D) s1,bx 2,rx 5,sI 15 s15,sI 16 s16,bx 43],[cL 2 AD.D w2,(5,.mapS (ms dU D.b w5)),(7,.map clk (dl dU D.b es)),(43,.mit 7 clk sn)],[]⟩
def Gv(clk:Nat)(es:List (Nat×Int×Bool))(s1:List X2)(s15 s16:Int)(w2:AD)(w7:List (Int×Bool))(o:(List (Int×Bool))):Ex×St:=(.exit 4,⟨sp 65 0 [sD 1 (D.l X2.D) s1,bx 2,rx 5,sI 15 s15,sI 16 s16],[cL 2 AD.D w2,(5,.mapS (ms dU D.b o))],[]⟩)
def aR8(clk:Nat)(es:List (Nat×Int×Bool))(s1:List X2)(s15 s16:Int)(w2:AD)(w7 w5:List (Int×Bool)):St:=⟨sp 65 0 [sD 1 (D.l X2.D) s1,bx 2,rx 5,sI 15 s15,sI 16 s16],[cL 2 AD.D w2,(5,.mapS (ms dU D.b w5))],[]⟩
set_option maxRecDepth 100000 in
theorem T5(rd:Option Nat)(clk:Nat)(es:List (Nat×Int×Bool))(s1:List X2)(s15 s16:Int)(w2:AD)(w7:List (Int×Bool))(k:Int)(v:Bool)(w5:List (Int×Bool))(sn:List Nat)(st:Nat)(hm:(st,k,v)∈es)(o:(List (Int×Bool)))(h:IN s1 s15 s16 w2 w7 k v w5=some o):OC Tryz.prog rd (ER Tryz.prog 67) [0,1,1,1,1,0,0,1,1,0,0,1,0,1,1] ((⟨(Gu clk es s1 s15 s16 w2 w7 w5 sn).E,Bz (Gu clk es s1 s15 s16 w2 w7 w5 sn).B 43 (.mit 7 clk (sn++[st])),[]⟩:St).put (some 44) (.tup [bo true,.d (dU k),.d (D.b v)])) fun zx zs=>zx=.normal/\Wk zs ((fun s:(List (Int×Bool))=>Gu clk es s1 s15 s16 w2 w7 s (sn++[st])) o):=by unfold IN at h;obtain rfl:=si h;exact Fu mixed [(46,.en (dU k) (D.b v)),(10048,.ms (ms dU D.b (Ge k true w5)))] [] [.live [1,2,5,15,16,43],.keep [2,5,7,43]] (ai (PF (fk:=dU) (fv:=D.b) (clk:=clk) (sn:=sn) hm) (ai (PN (aQ1 Tryz.underlying56) D.b w5 k true) (ti))) (by kernel_rfl)
set_option maxRecDepth 100000 in
theorem T4(rd:Option Nat)(clk:Nat)(es:List (Nat×Int×Bool))(s1:List X2)(s15 s16:Int)(w2:AD)(w7 w5:List (Int×Bool))(sn:List Nat):OC Tryz.prog rd (ER Tryz.prog 67) [0,1,1,1,1,0,0,1,1,0,0,1,0,1,1] ((Gu clk es s1 s15 s16 w2 w7 w5 sn).put (some 44) (.tup [bo false])) fun zx zs=>zx=(Gv clk es s1 s15 s16 w2 w7 (LW s1 s15 s16 w2 w7 w5)).1/\Wk zs (Gv clk es s1 s15 s16 w2 w7 (LW s1 s15 s16 w2 w7 w5)).2:=by refine OC.wk (e:=.exit 4) (s1:=aR8 clk es s1 s15 s16 w2 w7 w5) (Fu mixed [] [] [.live [1,2,5,15,16],.keep [2,5]] (ti) (by kernel_rfl)) ?_;exact(Wk.canS 5 (by kernel_rfl) rfl)
set_option maxRecDepth 100000 in
theorem aGr(rd:Option Nat)(clk:Nat)(es:List (Nat×Int×Bool))(s1:List X2)(s15 s16:Int)(w2:AD)(w7 w5:List (Int×Bool))(hp:(es.map (·.2)).Perm w7)(o:(List (Int×Bool)))(h:aR7 s1 s15 s16 w2 w7 w5=some o):F5 Tryz.prog rd (ER Tryz.prog 67) [0,1,1,1,1,0,0,1,1,0,0,1,0,1,1] (Gu clk es s1 s15 s16 w2 w7 w5 []) ((Gv clk es s1 s15 s16 w2 w7) o).1 ((Gv clk es s1 s15 s16 w2 w7) o).2:=
 PC (fk:=dU) (fv:=D.b) (step:=(fun(x:Int×Bool) (s:(List (Int×Bool)))=>IN s1 s15 s16 w2 w7 x.1 x.2 s)) (s0:=w5) 43 44 43 7 clk es (fun(sn:List Nat) (s:(List (Int×Bool)))=>Gu clk es s1 s15 s16 w2 w7 s sn) (Gv clk es s1 s15 s16 w2 w7) (by kernel_rfl) (RO (by rfl)) (fun _ _=>by kernel_rfl) (fun _ _=>by kernel_rfl) (fun _ _=>by kernel_rfl) hp
  (fun sn s k v st a hm h=>T5 rd clk es s1 s15 s16 w2 w7 k v s sn st hm a h) (fun sn s hc=>hc▸T4 rd clk es s1 s15 s16 w2 w7 s sn) h
theorem aGm(rd:Option Nat)(h:aGl cU cJ cK cV cW cY=some cZ):Lq 67 rd 14951 ⟨sp 65 0 [sD 1 (D.l X2.D) cU,bx 2,rx 5,rx 7,sI 15 cJ,sI 16 cK],[cL 2 AD.D cV,(5,.mapS (ms dU D.b cW)),(7,.mapS (ms dU D.b cY))],[]⟩ (.normal,⟨sp 65 0 [sD 1 (D.l X2.D) cU,bx 2,rx 5,sI 15 cJ,sI 16 cK],[cL 2 AD.D cV,(5,.mapS (ms dU D.b cZ))],[]⟩):=by unfold aGl at h;obtain⟨o5,h7,h⟩:=bS h;obtain rfl:=si h;exact Arr.lp (Arr.exact (fk:=dU) (fv:=D.b) (S:=cY) 7 (by kernel_rfl) fun clk es hp=>Gf mixed [] [⟨[0,1,1,1,1,0,0,1,1,0,0,1,0,1,1],[.live [1,2,5,15,16,43],.keep [2,5,7,43]],.exit 4,(Gv clk es cU cJ cK cV cY o5).2⟩] [.live [1,2,5,15,16],.keep [2,5]] (ai (aGr rd clk es cU cJ cK cV cY cW hp o5 h7) (ti)) (by kernel_rfl))
def Ty(s1:List X2)(s15:Int)(w2:AD)(s16:Int)(w5:List (Int×Bool)):St:=⟨sp 65 0 [sD 1 (D.l X2.D) s1,bx 2,rx 5,sI 15 s15,sI 16 s16],[cL 2 AD.D w2,(5,.mapS (ms dU D.b w5))],[]⟩
def Tz(s1:List X2)(s15:Int)(w2:AD)(o:(List (Int×Bool))):Ex×St:=(.exit 0,⟨sp 65 0 [rx 5],[(5,.mapS (ms dU D.b o))],[]⟩)
theorem aGp(rd:Option Nat)(h:aR5 cU cJ cV cK cW=some cZ):Lq 67 rd 58 (Ty cU cJ cV cK cW) ((Tz cU cJ cV) cZ):=
 lL (fun s:Int×(List (Int×Bool))=>Ty cU cJ cV s.1 s.2) (Tz cU cJ cV) (cK,cW) (fun⟨cK,cW⟩ o h=>by
 unfold IL at h
 refine iB 17 h (fun h=>?_) fun h=>?_
 refine gW 19 .frz ?_
 obtain⟨r1,h2,h⟩:=bS h
 refine gC 22 (bCd h2)<|gQ (PN (aQ1 Tryz.underlying56) D.b ([]:List (Int×Bool)) r1 true)<|gW 10019 (.ms (ms dU D.b (Ge r1 true ([]:List (Int×Bool)))))<|xX 27 Xf.D h fun x2 h=>?_
 refine gN 30 dZ x2.types ?_
 obtain⟨o4,h6,h⟩:=bS h
 refine gL [.live [1,2,5,6,7,15,16,30,31],.keep [2,5,19],.ren 19 7,.sort] (aGq rd h6) ?_
 obtain⟨o6,h8,h⟩:=bS h
 refine gl (aGm rd h8) ?_
 exact lb h
 exact lb h) h
def Gw(clk:Nat)(es:List (Nat×Int×Bool))(w5:List (Int×Bool))(w10:List Int)(sn:List Nat):St:=⟨sp 65 0 [rx 10,bx 53],[(5,.map clk (dl dU D.b es)),rW 10 56 1 dU w10,(53,.mit 5 clk sn)],[]⟩
def Gx(clk:Nat)(es:List (Nat×Int×Bool))(w5:List (Int×Bool))(o:List Int):Ex×St:=(.exit 6,⟨sp 65 0 [rx 10],[(10,.bag 56 1 (o.map dU))],[]⟩)
def aSa(clk:Nat)(es:List (Nat×Int×Bool))(w5:List (Int×Bool))(w10:List Int):St:=⟨sp 65 0 [rx 10],[rW 10 56 1 dU w10],[]⟩
set_option maxRecDepth 100000 in
theorem T7(rd:Option Nat)(clk:Nat)(es:List (Nat×Int×Bool))(w5:List (Int×Bool))(k:Int)(v:Bool)(w10:List Int)(sn:List Nat)(st:Nat)(hm:(st,k,v)∈es)(o:List Int)(h:F7 w5 k v w10=some o):OC Tryz.prog rd (ER Tryz.prog 67) [0,1,0,1,1,1,1,1] ((⟨(Gw clk es w5 w10 sn).E,Bz (Gw clk es w5 w10 sn).B 53 (.mit 5 clk (sn++[st])),[]⟩:St).put (some 54) (.tup [bo true,.d (dU k),.d (D.b v)])) fun zx zs=>zx=.normal/\Wk zs ((fun s:List Int=>Gw clk es w5 s (sn++[st])) o):=by unfold F7 at h;obtain⟨h10,h⟩:=cS h;obtain rfl:=si h;exact Fu mixed [(56,.en (dU k) (D.b v)),(61,.rwl ((w10++[k]).map dU))] [] [.live [10,53],.keep [5,53,61],.ren 61 10,.sort] (ai (PF (fk:=dU) (fv:=D.b) (clk:=clk) (sn:=sn) hm) (ai (Ag dU [k]) (ai (Ag dU [k]) (ai (Ak dU h10) (ai (Ai dU w10 [k]) (ti)))))) (by kernel_rfl)
set_option maxRecDepth 100000 in
theorem T6(rd:Option Nat)(clk:Nat)(es:List (Nat×Int×Bool))(w5:List (Int×Bool))(w10:List Int)(sn:List Nat):OC Tryz.prog rd (ER Tryz.prog 67) [0,1,0,1,1,1,1,1] ((Gw clk es w5 w10 sn).put (some 54) (.tup [bo false])) fun zx zs=>zx=(Gx clk es w5 (OJ w5 w10)).1/\Wk zs (Gx clk es w5 (OJ w5 w10)).2:=by refine OC.wk (e:=.exit 6) (s1:=aSa clk es w5 w10) (Fu mixed [] [] [.live [10],.keep [10]] (ti) (by kernel_rfl)) ?_;exact(Wk.canB 10 (EP _).symm (by kernel_rfl) rfl)
set_option maxRecDepth 100000 in
theorem aGs(rd:Option Nat)(clk:Nat)(es:List (Nat×Int×Bool))(w5:List (Int×Bool))(w10:List Int)(hp:(es.map (·.2)).Perm w5)(o:List Int)(h:aR9 w5 w10=some o):F5 Tryz.prog rd (ER Tryz.prog 67) [0,1,0,1,1,1,1,1] (Gw clk es w5 w10 []) ((Gx clk es w5) o).1 ((Gx clk es w5) o).2:=
 PC (fk:=dU) (fv:=D.b) (step:=(fun(x:Int×Bool) (s:List Int)=>F7 w5 x.1 x.2 s)) (s0:=w10) 53 54 53 5 clk es (fun(sn:List Nat) (s:List Int)=>Gw clk es w5 s sn) (Gx clk es w5) (by kernel_rfl) (RO (by rfl)) (fun _ _=>by kernel_rfl) (fun _ _=>by kernel_rfl) (fun _ _=>by kernel_rfl) hp
  (fun sn s k v st a hm h=>T7 rd clk es w5 k v s sn st hm a h) (fun sn s hc=>hc▸T6 rd clk es w5 s sn) h
theorem aGo(rd:Option Nat)(h:aGn cW=some d4):Lq 67 rd 126 ⟨sp 65 0 [rx 5,(10,.nil)],[(5,.mapS (ms dU D.b cW))],[]⟩ (.normal,⟨sp 65 0 [rx 10],[(10,.bag 56 1 (d4.map dU))],[]⟩):=by unfold aGn at h;obtain⟨o8,h11,h⟩:=bS h;obtain rfl:=si h;exact Arr.lp (Arr.exact (fk:=dU) (fv:=D.b) (S:=cW) 5 (by kernel_rfl) fun clk es hp=>Gf mixed [] [⟨[0,1,0,1,1,1,1,1],[.live [10,53],.keep [5,53],.nilw 10 10 56 1,.sort],.exit 6,(Gx clk es cW o8).2⟩] [.live [10],.keep [10]] (ai (aGs rd clk es cW ([]:List Int) hp o8 h11) (ti)) (by kernel_rfl))
theorem bA0(h:X7 cV cU=some cM):AM Tryz.prog 67 [.d (AD.D cV),.d ((D.l X2.D) cU)] [] (.d ((D.l dU) cM)) []:=by unfold X7 at h;apply g0 (o:=cM);refine gN 15 Xf.D cV.decls<|gW 12 .frz ?_;obtain⟨o7,h9,h⟩:=bS h;refine gL [.live [1,2,5,15,16],.keep [2,12],.ren 12 5,.sort] (aGp none h9)<|gQ (aU1 (aQ1 Tryz.underlying56) D.b o7 0)<|gW 10051 (.ms (ms dU D.b (Ox 0 o7))) ?_;obtain⟨o9,h12,h⟩:=bS h;refine gl (aGo none h12) ?_;obtain⟨r10,h13,h⟩:=bS h;refine gG 63 (.cx true [(0,10)] [] (.tup []) [rW 0 56 1 dU r10]) (bAq h13) ?_;exact lF h [.frz 10]
theorem bAr(h:Uo cJ=some d5):AM Tryz.prog 40 [.d (dW cJ)] [] (.d (D.b d5)) []:=by unfold Uo at h;apply g0 (o:=d5);exact lf h
theorem Px(rd:Option Nat)(h:Vs cJ cK cN cO cX d6 d7 d8 d9 dA dB d5 cV dC dD=some dE):Lq 69 rd 15310131 ⟨sp 69 0 [sD 1 dW cJ,sD 2 dU cK,bx 3,sD 7 dW cN,sI 8 cO,bx 9,sD 10 dW cX,bx 12,sD 14 (D.l Xc.D) d6,sI 15 d7,sI 16 d8,sD 28 (D.l X6.D) d9,sI 29 dA,sI 30 dB,sD 46 D.b d5],[cL 3 AD.D cV,cL 9 Xc.D dC,cL 12 X6.D dD],[]⟩ (.normal,⟨sp 69 0 [sD 1 dW cJ,sD 2 dU cK,bx 3,sD 7 dW cN,sI 8 cO,bx 9,sD 10 dW dE,sD 14 (D.l Xc.D) d6,sI 15 d7,sI 16 d8,sD 28 (D.l X6.D) d9,sI 29 dA,sI 30 dB],[cL 3 AD.D cV,cL 9 Xc.D dC],[]⟩):=by unfold Vs at h;apply g0 (o:=dE);cases d5;replace h:=Bj h;exact lp h;replace h:=Bl h;obtain⟨h10,h⟩:=cS h;refine gQ h10 ?_;exact lp h
theorem aIh(rd:Option Nat)(h:aIg cJ cK cN cO cX d6 d7 d8 d9 dA dB cV dC=some dE):Lq 69 rd 1913766 ⟨sp 69 0 [sD 1 dW cJ,sD 2 dU cK,bx 3,sD 7 dW cN,sI 8 cO,bx 9,sD 10 dW cX,sD 14 (D.l Xc.D) d6,sI 15 d7,sI 16 d8,sD 28 (D.l X6.D) d9,sI 29 dA,sI 30 dB],[cL 3 AD.D cV,cL 9 Xc.D dC],[]⟩ (.normal,⟨sp 69 0 [sD 1 dW cJ,sD 2 dU cK,bx 3,sD 7 dW cN,sI 8 cO,bx 9,sD 10 dW dE,sD 14 (D.l Xc.D) d6,sI 15 d7,sI 16 d8,sD 28 (D.l X6.D) d9,sI 29 dA,sI 30 dB],[cL 3 AD.D cV,cL 9 Xc.D dC],[]⟩):=by unfold aIg at h;apply g0 (o:=dE);refine xX 32 X6.D h fun x2 h=>?_;refine iB 38 h (fun h=>?_) fun h=>?_;obtain⟨h8,h⟩:=cS h;refine gQ h8 ?_;obtain⟨o3,h11,h⟩:=bS h;refine gl (Px rd h11) ?_;exact lp h;obtain⟨o4,h12,h⟩:=bS h;refine gl (Px rd h12) ?_;exact lp h
def Vv(s1 s2:Int)(s7 s8:Int)(s14:List Xc)(s15 s16:Int)(s28:List X6)(s29:Int)(w3:AD)(w9:Xc)(s10 s30:Int):St:=⟨sp 69 0 [sD 1 dW s1,sD 2 dU s2,bx 3,sD 7 dW s7,sI 8 s8,bx 9,sD 10 dW s10,sD 14 (D.l Xc.D) s14,sI 15 s15,sI 16 s16,sD 28 (D.l X6.D) s28,sI 29 s29,sI 30 s30],[cL 3 AD.D w3,cL 9 Xc.D w9],[]⟩
def Vw(s1 s2:Int)(s7 s8:Int)(s14:List Xc)(s15 s16:Int)(s28:List X6)(s29:Int)(w3:AD)(w9:Xc)(o:Int):Ex×St:=(.exit 2,⟨sp 69 0 [sD 1 dW s1,sD 2 dU s2,bx 3,sD 7 dW s7,sI 8 s8,bx 9,sD 10 dW o,sD 14 (D.l Xc.D) s14,sI 15 s15,sI 16 s16],[cL 3 AD.D w3,cL 9 Xc.D w9],[]⟩)
theorem aIk(rd:Option Nat)(h:aIj cJ cK cN cO d6 cX d7 d9 d8 cV dC dA dB=some dE):Lq 69 rd 119610 (Vv cJ cK cN cO d6 cX d7 d9 d8 cV dC dA dB) ((Vw cJ cK cN cO d6 cX d7 d9 d8 cV dC) dE):=
 lL (fun s:Int×Int=>Vv cJ cK cN cO d6 cX d7 d9 d8 cV dC s.1 s.2) (Vw cJ cK cN cO d6 cX d7 d9 d8 cV dC) (dA,dB) (fun⟨dA,dB⟩ o h=>by
 unfold Ih at h
 refine iB 31 h (fun h=>?_) fun h=>?_
 obtain⟨o5,h13,h⟩:=bS h
 refine gl (aIh rd h13) ?_
 exact lb h
 exact lb h) h
theorem Py(rd:Option Nat)(h:OW cJ cK cN cO cX d6 d7 d8 d5 cV=some dA):Lq 69 rd 119613 ⟨sp 69 0 [sD 1 dW cJ,sD 2 dU cK,bx 3,sD 7 dW cN,sI 8 cO,sD 10 dW cX,sD 14 (D.l Xc.D) d6,sI 15 d7,sI 16 d8,sD 60 D.b d5],[cL 3 AD.D cV],[]⟩ (.normal,⟨sp 69 0 [sD 1 dW cJ,sD 2 dU cK,bx 3,sD 7 dW cN,sD 10 dW dA,sD 14 (D.l Xc.D) d6,sI 15 d7,sI 16 d8],[cL 3 AD.D cV],[]⟩):=by unfold OW at h;apply g0 (o:=dA);cases d5;replace h:=Bj h;exact lp h;replace h:=Bl h;obtain⟨h17,h⟩:=cS h;refine gQ h17 ?_;exact lp h
theorem aIf(rd:Option Nat)(h:aIe cJ cK cN d6 cO cX cV=some d7):Lq 69 rd 934 ⟨sp 69 0 [sD 1 dW cJ,sD 2 dU cK,bx 3,sD 7 dW cN,sD 14 (D.l Xc.D) d6,sI 15 cO,sI 16 cX],[cL 3 AD.D cV],[]⟩ (.normal,⟨sp 69 0 [sD 1 dW cJ,sD 2 dU cK,bx 3,sD 7 dW d7,sD 14 (D.l Xc.D) d6,sI 15 cO,sI 16 cX],[cL 3 AD.D cV],[]⟩):=by unfold aIe at h;apply g0 (o:=d7);refine xX 19 Xc.D h fun x1 h=>?_;obtain⟨h3,h⟩:=cS h;refine gQ h3 ?_;refine iB 26 h (fun h=>?_) fun h=>?_;exact lp h;refine gN 29 X6.D cV.trans ?_;obtain⟨o6,h14,h⟩:=bS h;refine gl (aIk rd h14) ?_;refine iB 56 h (fun h=>?_) fun h=>?_;obtain⟨o7,h18,h⟩:=bS h;refine gl (Py rd h18) ?_;exact lp h;obtain⟨o8,h19,h⟩:=bS h;refine gl (Py rd h19) ?_;exact lp h
def Vt(s1 s2:Int)(s14:List Xc)(s15:Int)(w3:AD)(s7 s16:Int):St:=⟨sp 69 0 [sD 1 dW s1,sD 2 dU s2,bx 3,sD 7 dW s7,sD 14 (D.l Xc.D) s14,sI 15 s15,sI 16 s16],[cL 3 AD.D w3],[]⟩
def Vu(s1 s2:Int)(s14:List Xc)(s15:Int)(w3:AD)(o:Int):Ex×St:=(.exit 0,⟨sp 69 0 [sD 7 dW o],[],[]⟩)
theorem aIi(rd:Option Nat)(h:aSn cJ cK d6 cN cV cO cX=some d7):Lq 69 rd 58 (Vt cJ cK d6 cN cV cO cX) ((Vu cJ cK d6 cN cV) d7):=
 lL (fun s:Int×Int=>Vt cJ cK d6 cN cV s.1 s.2) (Vu cJ cK d6 cN cV) (cO,cX) (fun⟨cO,cX⟩ o h=>by
 unfold G7 at h
 refine iB 17 h (fun h=>?_) fun h=>?_
 obtain⟨o9,h20,h⟩:=bS h
 refine gl (aIf rd h20) ?_
 exact lb h
 exact lb h) h
theorem bBd(h:Xj cV cJ cK=some cN):AM Tryz.prog 69 [.d (AD.D cV),.d (dW cJ),.d (dU cK)] [] (.d (dW cN)) []:=by unfold Xj at h;apply g0 (o:=cN);refine gN 15 Xc.D cV.states ?_;obtain⟨o10,h21,h⟩:=bS h;refine gl (aIi none h21) ?_;exact lf h
theorem aKs(rd:Option Nat)(us:List Value)(h:aKr cM cJ cK cN cT cO cX d5 cV dF dG dH=some dJ):Lq 39 rd 58346703 ⟨sp 84 0 [(3,.clo (.func 40) [] []),bx 4,rx 8,rx 9,rx 10,sD 11 (D.l dU) cM,sI 12 cJ,sD 14 dU cK,sD 15 dW cN,sD 44 (D.l dU) cT,sI 45 cO,sI 46 cX,sD 64 D.b d5],[cL 4 AD.D cV,rW 8 32 1 dW dF,(9,.map dG.clk (MP.dl dW dW dG)),(10,.map dH.clk (MP.dl dW dU dH)),(997,.vals [] us)],[]⟩ (.normal,⟨sp 84 0 [(3,.clo (.func 40) [] []),bx 4,rx 8,rx 9,rx 10,sD 11 (D.l dU) cM,sI 12 cJ,sD 44 (D.l dU) cT,sI 45 cO,sI 46 cX],[cL 4 AD.D cV,rW 8 32 1 dW dJ.1,(9,.map dJ.2.1.clk (MP.dl dW dW dJ.2.1)),(10,.map dJ.2.2.clk (MP.dl dW dU dJ.2.2)),(997,.vals [] us)],[]⟩):=by unfold aKr at h;apply g0 (o:=dJ);cases d5;replace h:=Bj h;exact lp h;replace h:=Bl h;refine gW 74 (.me (Hb 0 dG cN).clk (MP.dl dW dW (Hb 0 dG cN)) (dW (bEr 0 dG cN)) (PG 0 dG cN))<|gW 10067 (.mp (Ek dH cN cK).clk (MP.dl dW dU (Ek dH cN cK)))<|gW 79 (.rwl ((dF++[cN]).map dW)) ?_;obtain⟨h14,h⟩:=cS h;refine gQ h14.1<|gQ (AI dW h14.2) ?_;obtain⟨x7,h15,h⟩:=xS h;refine gG 72 (.el (dW x7)) (AK dW h15)<|gW 10075 (.mp (S7 (Hb 0 dG cN) ((PG 0 dG cN:Nat):Int) x7).clk (MP.dl dW dW (S7 (Hb 0 dG cN) ((PG 0 dG cN:Nat):Int) x7))) ?_;obtain⟨h16,h⟩:=cS h;refine gQ (aVk (aQ1 Tryz.underlying32) dW 0 dG cN h16) ?_;obtain⟨h17,h⟩:=cS h;refine gQ (aVm dW dW (Hb 0 dG cN) ((PG 0 dG cN:Nat):Int) x7 h17)<|gQ (aEh (aQ1 Tryz.underlying32) dU dH cN cK)<|gQ (Ag dW [cN])<|gQ (Ag dW [cN]) ?_;obtain⟨h18,h⟩:=cS h;refine gQ (Ak dW h18)<|gQ (Ai dW dF [cN]) ?_;exact lP h [.live [3,4,8,9,10,11,12,44,45,46],.keep [4,9,10,79,997],.ren 79 8,.sort]
theorem aKq(rd:Option Nat)(us:List Value)(h:aKp cM cJ cT cK cN cV dF dG dH=some dJ):Lq 39 rd 1823334 ⟨sp 84 0 [(3,.clo (.func 40) [] []),bx 4,rx 8,rx 9,rx 10,sD 11 (D.l dU) cM,sI 12 cJ,sD 44 (D.l dU) cT,sI 45 cK,sI 46 cN],[cL 4 AD.D cV,rW 8 32 1 dW dF,(9,.map dG.clk (MP.dl dW dW dG)),(10,.map dH.clk (MP.dl dW dU dH)),(997,.vals [] us)],[]⟩ (.normal,⟨sp 84 0 [(3,.clo (.func 40) [] []),bx 4,rx 8,rx 9,rx 10,sD 11 (D.l dU) cM,sI 12 cJ,sD 44 (D.l dU) cT,sI 45 cK,sI 46 cN],[cL 4 AD.D cV,rW 8 32 1 dW dJ.1,(9,.map dJ.2.1.clk (MP.dl dW dW dJ.2.1)),(10,.map dJ.2.2.clk (MP.dl dW dU dJ.2.2)),(997,.vals [] us)],[]⟩):=by unfold aKp at h;apply g0 (o:=dJ);refine xX 48 dU h fun x4 h=>?_;obtain⟨h10,h⟩:=cS h;refine gQ h10.1<|gQ (AI dW h10.2) ?_;obtain⟨x5,h11,h⟩:=xS h;refine gG 54 (.el (dW x5)) (AK dW h11) ?_;obtain⟨r6,h12,h⟩:=bS h;refine gC 56 (bBd h12)<|gG 60 (.mg (dW (Kg 0 dG r6).1) (Kg 0 dG r6).2) (aVl (aQ1 Tryz.underlying32) dW 0 dG r6) ?_;obtain⟨o8,h19,h⟩:=bS h;refine gl (aKs rd us h19) ?_;exact lp h
def XR(us:List Value)(s11:List Int)(s12:Int)(s44:List Int)(s45:Int)(w4:AD)(s46:Int)(w8:List Int)(w9 w10:MP Int Int):St:=⟨sp 84 0 [(3,.clo (.func 40) [] []),bx 4,rx 8,rx 9,rx 10,sD 11 (D.l dU) s11,sI 12 s12,sD 44 (D.l dU) s44,sI 45 s45,sI 46 s46],[cL 4 AD.D w4,rW 8 32 1 dW w8,(9,.map w9.clk (MP.dl dW dW w9)),(10,.map w10.clk (MP.dl dW dU w10)),(997,.vals [] us)],[]⟩
def XS(us:List Value)(s11:List Int)(s12:Int)(s44:List Int)(s45:Int)(w4:AD)(o:(List Int×MP Int Int×MP Int Int)):Ex×St:=(.exit 2,⟨sp 84 0 [(3,.clo (.func 40) [] []),bx 4,rx 8,rx 9,rx 10,sD 11 (D.l dU) s11,sI 12 s12],[cL 4 AD.D w4,rW 8 32 1 dW o.1,(9,.map o.2.1.clk (MP.dl dW dW o.2.1)),(10,.map o.2.2.clk (MP.dl dW dU o.2.2)),(997,.vals [] us)],[]⟩)
theorem aKu(rd:Option Nat)(us:List Value)(h:aS7 cM cJ cT cK cV cN dF dG dH=some dJ):Lq 39 rd 113958 (XR us cM cJ cT cK cV cN dF dG dH) ((XS us cM cJ cT cK cV) dJ):=
 lL (fun s:Int×List Int×MP Int Int×MP Int Int=>XR us cM cJ cT cK cV s.1 s.2.1 s.2.2.1 s.2.2.2) (XS us cM cJ cT cK cV) (cN,dF,dG,dH) (fun⟨cN,dF,dG,dH⟩ o h=>by
 unfold I1 at h
 refine iB 47 h (fun h=>?_) fun h=>?_
 obtain⟨o9,h20,h⟩:=bS h
 refine gl (aKq rd us h20) ?_
 exact lb h
 exact lb h) h
def XP(us:List Value)(s11:List Int)(w4:AD)(s12:Int)(w8:List Int)(w9 w10:MP Int Int):St:=⟨sp 84 0 [(3,.clo (.func 40) [] []),bx 4,rx 8,rx 9,rx 10,sD 11 (D.l dU) s11,sI 12 s12],[cL 4 AD.D w4,rW 8 32 1 dW w8,(9,.map w9.clk (MP.dl dW dW w9)),(10,.map w10.clk (MP.dl dW dU w10)),(997,.vals [] us)],[]⟩
def XQ(us:List Value)(s11:List Int)(w4:AD)(o:(List Int×MP Int Int×MP Int Int)):Ex×St:=(.exit 0,⟨sp 84 0 [rx 8,rx 9,rx 10],[rW 8 32 1 dW o.1,(9,.map o.2.1.clk (MP.dl dW dW o.2.1)),(10,.map o.2.2.clk (MP.dl dW dU o.2.2)),(997,.vals [] us)],[]⟩)
theorem aKt(rd:Option Nat)(us:List Value)(h:aS6 cM cV cJ cT dG dH=some dJ):Lq 39 rd 890 (XP us cM cV cJ cT dG dH) ((XQ us cM cV) dJ):=
 lL (fun s:Int×List Int×MP Int Int×MP Int Int=>XP us cM cV s.1 s.2.1 s.2.2.1 s.2.2.2) (XQ us cM cV) (cJ,cT,dG,dH) (fun⟨cJ,cT,dG,dH⟩ o h=>by
 unfold I0 at h
 refine gN 30 dW cT ?_
 refine iB 31 h (fun h=>?_) fun h=>?_
 obtain⟨h3,h⟩:=cS h
 refine gQ h3.1<|gQ (AI dW h3.2) ?_
 obtain⟨x2,h4,h⟩:=xS h
 refine gG 38 (.el (dW x2)) (AK dW h4) ?_
 obtain⟨r3,h5,h⟩:=bS h
 refine gQ (bAr h5) ?_
 cases r3
 replace h:=Bj h
 refine gN 45 dU cM<|gW 39 (.ret (.d (D.b false))) ?_
 obtain⟨o10,h21,h⟩:=bS h
 refine gl (aKu rd us h21) ?_
 exact lb h
 replace h:=Bl h
 refine gW 39 (.ret (.d (D.b true)))<|gW 43 (.sl ((cT.take ((AA .add .i64 cJ 1)).toNat).map dW)) ?_
 obtain⟨h7,h⟩:=cS h
 refine gQ h7.1<|gQ (bDx dW h7.2)<|gQ (aYo dW cT (AA .add .i64 cJ 1)) ?_
 exact lB h [.live [8,9,10],.keep [9,10,43,997],.ren 43 8,.sort]
 exact lb h) h
theorem bBy(h:Y3 cV cU cJ=some dK):AM Tryz.prog 39 [.d (AD.D cV),.d ((D.l X2.D) cU),.d (dW cJ),.clo (.func 40) [] []] [] (.tup [.row 0,.row 1,.row 2]) [rW 0 32 1 dW dK.1,(1,.map dK.2.1.clk (MP.dl dW dW dK.2.1)),(2,.map dK.2.2.clk (MP.dl dW dU dK.2.2))]:=by unfold Y3 at h;refine XG.call (ks:=[]) mixed fun us=>?_;apply g0 (o:=dK);refine gW 22 .frz<|gW 10023 (.mp (Ek (Hc:MP Int Int) cJ cJ).clk (MP.dl dW dW (Ek (Hc:MP Int Int) cJ cJ))) ?_;obtain⟨r1,h1,h⟩:=bS h;refine gC 20 (bA0 h1)<|gQ (Ag dW [cJ])<|gQ (aEh (aQ1 Tryz.underlying32) dW (Hc:MP Int Int) cJ cJ) ?_;obtain⟨o11,h22,h⟩:=bS h;refine gL [.live [3,4,8,9,10,11,12],.keep [4,22,23,27,997],.ren 22 8,.ren 23 9,.ren 27 10,.sort] (aKt none us h22) ?_;exact lX h [.live [8,9,10],.keep [8,9,10,997],.ren 8 0,.ren 9 1,.ren 10 2,.sort]
theorem EK(h:Qr cJ=some d5):AM Tryz.prog 139 [.d (dW cJ)] [] (.d (D.b d5)) []:=by unfold Qr at h;apply g0 (o:=d5);exact lf h
theorem AX(h:Yj cJ cK=some d5):AM Tryz.prog 103 [.d (dW cJ),.d (dW cK)] [] (.d (D.b d5)) []:=by unfold Yj at h;apply g0 (o:=d5);obtain⟨r1,h1,h⟩:=bS h;refine gQ (EK h1) ?_;cases r1;replace h:=Bj h;refine gW 6 (.ret (.d (D.b false))) ?_;exact lf h;replace h:=Bl h;refine gW 6 (.ret (.d (D.b true))) ?_;obtain⟨r2,h3,h⟩:=bS h;refine gC 9 (EK h3) ?_;refine iB 12 h (fun h=>?_) fun h=>?_;exact lf h;exact lf h
def Bh(us:List Value)(s1 s2:Int)(s6 s7:Int)(w0:List Int):St:=⟨sp 49 0 [rx 0,sI 1 s1,sI 2 s2,sI 6 s6,sI 7 s7],[rW 0 32 1 dW w0,(997,.vals [.row 0] us)],[]⟩
def Bi(us:List Value)(s1 s2 s6:Int)(o:(List Int)):Ex×St:=(.exit 2,⟨sp 49 0 [rx 0,sI 1 s1,sI 2 s2,sI 6 s6],[rW 0 32 1 dW o,(997,.vals [.row 0] us)],[]⟩)
theorem C1(rd:Option Nat)(us:List Value)(h:SM cJ cK cN cO cM=some d4):Lq 97 rd 402 (Bh us cJ cK cN cO cM) ((Bi us cJ cK cN) d4):=
 lL (fun s:Int×List Int=>Bh us cJ cK cN s.1 s.2) (Bi us cJ cK cN) (cO,cM) (fun⟨cO,cM⟩ o h=>by
 unfold E9 at h
 refine iB 19 h (fun h=>?_) fun h=>?_
 obtain⟨h3,h⟩:=cS h
 refine gQ h3.1<|gQ (AI dW h3.2) ?_
 obtain⟨x1,h4,h⟩:=xS h
 refine gG 23 (.el (dW x1)) (AK dW h4) ?_
 obtain⟨h5,h⟩:=cS h
 refine gQ h5.1<|gQ (AI dW h5.2) ?_
 obtain⟨x2,h6,h⟩:=xS h
 refine gG 28 (.el (dW x2)) (AK dW h6) ?_
 obtain⟨r3,h7,h⟩:=bS h
 refine gQ (AX h7) ?_
 cases r3
 replace h:=Bj h
 refine gW 29 (.ret (.d (D.b false))) ?_
 exact lb h
 replace h:=Bl h
 refine gW 29 (.ret (.d (D.b true))) ?_
 obtain⟨h9,h⟩:=cS h
 refine gQ h9.1<|gQ (AI dW h9.2) ?_
 obtain⟨x4,h10,h⟩:=xS h
 refine gG 42 (.el (dW x4)) (AK dW h10)<|gW 10047 (.sl ((cM.set cO.toNat x4).map dW)) ?_
 obtain⟨h11,h⟩:=cS h
 refine gQ h11.1<|gQ (AI dW h11.2) ?_
 obtain⟨x5,h12,h⟩:=xS h
 refine gG 46 (.el (dW x5)) (AK dW h12)<|gW 10048 (.sl (((cM.set cO.toNat x4).set (AA .sub .i64 cO 1).toNat x5).map dW)) ?_
 obtain⟨h13,h⟩:=cS h
 refine gQ h13.1<|gQ (AI dW h13.2) ?_
 obtain⟨h14,h⟩:=cS h
 refine gQ (A0 dW h14)<|gQ (AV dW cM cO x4) ?_
 obtain⟨h15,h⟩:=cS h
 refine gQ h15.1<|gQ (AI dW h15.2) ?_
 obtain⟨h16,h⟩:=cS h
 refine gQ (A0 dW h16)<|gQ (AV dW (cM.set cO.toNat x4) (AA .sub .i64 cO 1) x5) ?_
 exact lb h
 exact lb h) h
def Bf(us:List Value)(s1 s2 s6:Int)(w0:List Int):St:=⟨sp 49 0 [rx 0,sI 1 s1,sI 2 s2,sI 6 s6],[rW 0 32 1 dW w0,(997,.vals [.row 0] us)],[]⟩
def Bg(us:List Value)(s1 s2:Int)(o:(List Int)):Ex×St:=(.exit 0,⟨sp 49 0 [],[rW 0 32 1 dW o,(997,.vals [.row 0] us)],[]⟩)
theorem C0(rd:Option Nat)(us:List Value)(h:SK cJ cK cN cM=some d4):Lq 97 rd 6 (Bf us cJ cK cN cM) ((Bg us cJ cK) d4):=
 lL (fun s:Int×List Int=>Bf us cJ cK s.1 s.2) (Bg us cJ cK) (cN,cM) (fun⟨cN,cM⟩ o h=>by
 unfold HH at h
 refine iB 12 h (fun h=>?_) fun h=>?_
 obtain⟨o6,h17,h⟩:=bS h
 refine gl (C1 rd us h17) ?_
 exact lb h
 exact lb h) h
theorem DK(h:Y0 cJ cK cM=some cT):AM Tryz.prog 97 [.row 0,dI cJ,dI cK] [rW 0 32 1 dW cM] (.tup []) [rW 0 32 1 dW cT]:=by unfold Y0 at h;refine XG.call (ks:=[0]) mixed fun us=>?_;apply g0 (o:=cT);obtain⟨o7,h18,h⟩:=bS h;refine gl (C0 none us h18) ?_;exact lX h (lv [] [0,997])
theorem B8(rd:Option Nat)(us:List Value)(h:Ld cJ cK cN cO d5 cM=some cX):Lq 134 rd 397 ⟨sp 76 0 [rx 0,sI 2 cJ,sI 3 cK,sI 8 cN,sI 9 cO,sD 36 D.b d5],[rW 0 32 1 dW cM,(997,.vals [.row 0] us)],[]⟩ (.normal,⟨sp 76 0 [rx 0,sI 2 cJ,sI 3 cK,sI 8 cN,sI 9 cX],[rW 0 32 1 dW cM,(997,.vals [.row 0] us)],[]⟩):=by unfold Ld at h;apply g0 (o:=cX);cases d5;replace h:=Bj h;exact lp h;replace h:=Bl h;exact lp h
theorem DU(rd:Option Nat)(us:List Value)(h:KY cJ cK cN cM=some dL):Lq 134 rd 12 ⟨sp 76 0 [rx 0,sI 2 cJ,sI 3 cK,sI 8 cN],[rW 0 32 1 dW cM,(997,.vals [.row 0] us)],[]⟩ (match (generalizing:=false) dL with
 | .inl dL=>(.normal,⟨sp 76 0 [rx 0,sI 2 cJ,sI 3 cK,sI 8 dL.1],[rW 0 32 1 dW dL.2,(997,.vals [.row 0] us)],[]⟩)
 | .inr dL=>match (generalizing:=false) dL with
 | .inl dL=>(.exit 0,⟨sp 76 0 [],[rW 0 32 1 dW cM,(997,.vals [.row 0] us)],[]⟩)
 | .inr dL=>(.ret,⟨sp 76 0 [],[rW 0 32 1 dW cM,(997,.vals [.row 0] us)],[]⟩)):=by
 unfold KY at h
 apply g0 (o:=dL)
 refine iB 16 h (fun h=>?_) fun h=>?_
 exact lp h
 refine iB 21 h (fun h=>?_) fun h=>?_
 obtain⟨h3,h⟩:=cS h
 refine gQ h3.1<|gQ (AI dW h3.2) ?_
 obtain⟨x1,h4,h⟩:=xS h
 refine gG 27 (.el (dW x1)) (AK dW h4) ?_
 obtain⟨h5,h⟩:=cS h
 refine gQ h5.1<|gQ (AI dW h5.2) ?_
 obtain⟨x2,h6,h⟩:=xS h
 refine gG 34 (.el (dW x2)) (AK dW h6) ?_
 obtain⟨r3,h7,h⟩:=bS h
 refine gC 35 (AX h7) ?_
 obtain⟨o4,h9,h⟩:=bS h
 refine gl (B8 rd us h9) ?_
 obtain⟨h10,h⟩:=cS h
 refine gQ h10.1<|gQ (AI dW h10.2) ?_
 obtain⟨x5,h11,h⟩:=xS h
 refine gG 44 (.el (dW x5)) (AK dW h11) ?_
 obtain⟨h12,h⟩:=cS h
 refine gQ h12.1<|gQ (AI dW h12.2) ?_
 obtain⟨x6,h13,h⟩:=xS h
 refine gG 50 (.el (dW x6)) (AK dW h13) ?_
 obtain⟨r7,h14,h⟩:=bS h
 refine gC 51 (AX h14) ?_
 refine iB 52 h (fun h=>?_) fun h=>?_
 exact lp h
 obtain⟨h16,h⟩:=cS h
 refine gQ h16.1<|gQ (AI dW h16.2) ?_
 obtain⟨x8,h17,h⟩:=xS h
 refine gG 66 (.el (dW x8)) (AK dW h17)<|gW 10073 (.sl ((cM.set (AA .add .i64 cK cN).toNat x8).map dW)) ?_
 obtain⟨h18,h⟩:=cS h
 refine gQ h18.1<|gQ (AI dW h18.2) ?_
 obtain⟨x9,h19,h⟩:=xS h
 refine gG 72 (.el (dW x9)) (AK dW h19)<|gW 10074 (.sl (((cM.set (AA .add .i64 cK cN).toNat x8).set (AA .add .i64 cK o4).toNat x9).map dW)) ?_
 obtain⟨h20,h⟩:=cS h
 refine gQ h20.1<|gQ (AI dW h20.2) ?_
 obtain⟨h21,h⟩:=cS h
 refine gQ (A0 dW h21)<|gQ (AV dW cM (AA .add .i64 cK cN) x8) ?_
 obtain⟨h22,h⟩:=cS h
 refine gQ h22.1<|gQ (AI dW h22.2) ?_
 obtain⟨h23,h⟩:=cS h
 refine gQ (A0 dW h23)<|gQ (AV dW (cM.set (AA .add .i64 cK cN).toNat x8) (AA .add .i64 cK o4) x9) ?_
 exact lp h
 obtain⟨o10,h24,h⟩:=bS h
 refine gl (B8 rd us h24) ?_
 obtain⟨h25,h⟩:=cS h
 refine gQ h25.1<|gQ (AI dW h25.2) ?_
 obtain⟨x11,h26,h⟩:=xS h
 refine gG 44 (.el (dW x11)) (AK dW h26) ?_
 obtain⟨h27,h⟩:=cS h
 refine gQ h27.1<|gQ (AI dW h27.2) ?_
 obtain⟨x12,h28,h⟩:=xS h
 refine gG 50 (.el (dW x12)) (AK dW h28) ?_
 obtain⟨r13,h29,h⟩:=bS h
 refine gC 51 (AX h29) ?_
 refine iB 52 h (fun h=>?_) fun h=>?_
 exact lp h
 obtain⟨h31,h⟩:=cS h
 refine gQ h31.1<|gQ (AI dW h31.2) ?_
 obtain⟨x14,h32,h⟩:=xS h
 refine gG 66 (.el (dW x14)) (AK dW h32)<|gW 10073 (.sl ((cM.set (AA .add .i64 cK cN).toNat x14).map dW)) ?_
 obtain⟨h33,h⟩:=cS h
 refine gQ h33.1<|gQ (AI dW h33.2) ?_
 obtain⟨x15,h34,h⟩:=xS h
 refine gG 72 (.el (dW x15)) (AK dW h34)<|gW 10074 (.sl (((cM.set (AA .add .i64 cK cN).toNat x14).set (AA .add .i64 cK o10).toNat x15).map dW)) ?_
 obtain⟨h35,h⟩:=cS h
 refine gQ h35.1<|gQ (AI dW h35.2) ?_
 obtain⟨h36,h⟩:=cS h
 refine gQ (A0 dW h36)<|gQ (AV dW cM (AA .add .i64 cK cN) x14) ?_
 obtain⟨h37,h⟩:=cS h
 refine gQ h37.1<|gQ (AI dW h37.2) ?_
 obtain⟨h38,h⟩:=cS h
 refine gQ (A0 dW h38)<|gQ (AV dW (cM.set (AA .add .i64 cK cN).toNat x14) (AA .add .i64 cK o10) x15) ?_
 exact lp h
def CK(us:List Value)(s2 s3 s8:Int)(w0:List Int):St:=⟨sp 76 0 [rx 0,sI 2 s2,sI 3 s3,sI 8 s8],[rW 0 32 1 dW w0,(997,.vals [.row 0] us)],[]⟩
def CL(us:List Value)(s2 s3:Int)(o:(List Int)⊕(List Int)):Ex×St:=match o with
 | .inl o=>(.exit 0,⟨sp 76 0 [],[rW 0 32 1 dW o,(997,.vals [.row 0] us)],[]⟩)
 | .inr o=>(.ret,⟨sp 76 0 [],[rW 0 32 1 dW o,(997,.vals [.row 0] us)],[]⟩)
theorem DV(rd:Option Nat)(us:List Value)(h:SF cJ cK cN cM=some dM):Lq 134 rd 6 (CK us cJ cK cN cM) ((CL us cJ cK) dM):=
 lL (fun s:Int×List Int=>CK us cJ cK s.1 s.2) (CL us cJ cK) (cN,cM) (fun⟨cN,cM⟩ o h=>by
 unfold Ea at h
 obtain⟨o16,h39,h⟩:=bS h
 refine gl (DU rd us h39) ?_
 replace h:=AJ h
 rcases h with⟨o17,rfl,h⟩|⟨o18,rfl,h⟩
 exact lb h
 replace h:=AJ h
 rcases h with⟨o19,rfl,h⟩|⟨o20,rfl,h⟩
 exact lb h
 exact lb h) h
theorem Cd(h:Xr cJ cK cN cM=some cT):AM Tryz.prog 134 [.row 0,dI cJ,dI cK,dI cN] [rW 0 32 1 dW cM] (.tup []) [rW 0 32 1 dW cT]:=by
 unfold Xr at h;refine XG.call (ks:=[0]) mixed fun us=>?_;apply g0 (o:=cT);obtain⟨o21,h40,h⟩:=bS h;refine gl (DV none us h40) ?_;replace h:=AJ h;rcases h with⟨o22,rfl,h⟩|⟨o23,rfl,h⟩
 exact lX h (lv [] [0,997]);exact lX h (lv [] [0,997])
def CG(us:List Value)(s6 s7:Int)(s8 s9:Int)(w0:List Int):St:=⟨sp 56 0 [rx 0,sI 6 s6,sI 7 s7,sI 8 s8,sI 9 s9],[rW 0 32 1 dW w0,(997,.vals [.row 0] us)],[]⟩
def CH(us:List Value)(s6 s7 s8:Int)(o:(List Int)):Ex×St:=(.exit 0,⟨sp 56 0 [rx 0,sI 6 s6,sI 7 s7,sI 8 s8],[rW 0 32 1 dW o,(997,.vals [.row 0] us)],[]⟩)
theorem DR(rd:Option Nat)(us:List Value)(h:SN cJ cK cN cO cM=some d4):Lq 98 rd 122 (CG us cJ cK cN cO cM) ((CH us cJ cK cN) d4):=
 lL (fun s:Int×List Int=>CG us cJ cK cN s.1 s.2) (CH us cJ cK cN) (cO,cM) (fun⟨cO,cM⟩ o h=>by
 unfold HI at h
 refine iB 19 h (fun h=>?_) fun h=>?_
 obtain⟨r1,h2,h⟩:=bS h
 refine gG 26 (.cx false [(0,0)] [] (.tup []) [rW 0 32 1 dW r1]) (Cd h2) ?_
 exact lb h
 exact lb h) h
def CI(us:List Value)(s6 s7 s10:Int)(w0:List Int):St:=⟨sp 56 0 [rx 0,sI 6 s6,sI 7 s7,sI 10 s10],[rW 0 32 1 dW w0,(997,.vals [.row 0] us)],[]⟩
def CJ(us:List Value)(s6 s7:Int)(o:(List Int)):Ex×St:=(.exit 2,⟨sp 56 0 [],[rW 0 32 1 dW o,(997,.vals [.row 0] us)],[]⟩)
theorem DT(rd:Option Nat)(us:List Value)(h:SO cJ cK cN cM=some d4):Lq 98 rd 126 (CI us cJ cK cN cM) ((CJ us cJ cK) d4):=
 lL (fun s:Int×List Int=>CI us cJ cK s.1 s.2) (CJ us cJ cK) (cN,cM) (fun⟨cN,cM⟩ o h=>by
 unfold HJ at h
 refine iB 30 h (fun h=>?_) fun h=>?_
 obtain⟨h5,h⟩:=cS h
 refine gQ h5.1<|gQ (AI dW h5.2) ?_
 obtain⟨x3,h6,h⟩:=xS h
 refine gG 44 (.el (dW x3)) (AK dW h6)<|gW 10049 (.sl ((cM.set cJ.toNat x3).map dW)) ?_
 obtain⟨h7,h⟩:=cS h
 refine gQ h7.1<|gQ (AI dW h7.2) ?_
 obtain⟨x4,h8,h⟩:=xS h
 refine gG 48 (.el (dW x4)) (AK dW h8)<|gW 10050 (.sl (((cM.set cJ.toNat x3).set (AA .add .i64 cJ cN).toNat x4).map dW)) ?_
 obtain⟨h9,h⟩:=cS h
 refine gQ h9.1<|gQ (AI dW h9.2) ?_
 obtain⟨h10,h⟩:=cS h
 refine gQ (A0 dW h10)<|gQ (AV dW cM cJ x3) ?_
 obtain⟨h11,h⟩:=cS h
 refine gQ h11.1<|gQ (AI dW h11.2) ?_
 obtain⟨h12,h⟩:=cS h
 refine gQ (A0 dW h12)<|gQ (AV dW (cM.set cJ.toNat x3) (AA .add .i64 cJ cN) x4) ?_
 obtain⟨r5,h13,h⟩:=bS h
 refine gG 55 (.cx false [(0,0)] [] (.tup []) [rW 0 32 1 dW r5]) (Cd h13) ?_
 exact lb h
 exact lb h) h
theorem Dv(h:Y2 cJ cK cM=some cT):AM Tryz.prog 98 [.row 0,dI cJ,dI cK] [rW 0 32 1 dW cM] (.tup []) [rW 0 32 1 dW cT]:=by unfold Y2 at h;refine XG.call (ks:=[0]) mixed fun us=>?_;apply g0 (o:=cT);refine gQ (of_decide_eq_true rfl:(2:Int)≠0) ?_;obtain⟨o2,h3,h⟩:=bS h;refine gl (DR none us h3) ?_;obtain⟨o6,h14,h⟩:=bS h;refine gl (DT none us h14) ?_;exact lX h (lv [] [0,997])
theorem Cy(rd:Option Nat)(us:List Value)(h:OY cJ cK cN cO cX d5 cM d7=some d8):Lq 99 rd 30501 ⟨sp 65 0 [rx 0,sI 1 cJ,sI 6 cK,bx 7,sD 8 dU cN,sI 9 cO,sI 10 cX,sD 43 D.b d5],[rW 0 32 1 dW cM,(7,.cells ([.d (dU d7)])),(997,.vals [.row 0] us)],[]⟩ (.normal,⟨sp 65 0 [rx 0,sI 1 cJ,sI 6 cK,bx 7,sD 8 dU cN,sI 9 cO,sI 10 d8],[rW 0 32 1 dW cM,(7,.cells ([.d (dU d7)])),(997,.vals [.row 0] us)],[]⟩):=by unfold OY at h;apply g0 (o:=d8);cases d5;replace h:=Bj h;exact lp h;replace h:=Bl h;exact lp h
theorem Cx(rd:Option Nat)(us:List Value)(h:SI cJ cK cN cO cM cX=some dN):Lq 99 rd 1906 ⟨sp 65 0 [rx 0,sI 1 cJ,sI 6 cK,bx 7,sD 8 dU cN,sI 9 cO],[rW 0 32 1 dW cM,(7,.cells ([.d (dU cX)])),(997,.vals [.row 0] us)],[]⟩ (.normal,⟨sp 65 0 [rx 0,sI 1 cJ,sI 6 cK,bx 7,sD 8 dU cN,sI 9 cO],[rW 0 32 1 dW dN.1,(7,.cells ([.d (dU dN.2)])),(997,.vals [.row 0] us)],[]⟩):=by unfold SI at h;apply g0 (o:=dN);obtain⟨r2,h4,h⟩:=bS h;refine gG 36 (.cx false [(0,7)] [] (.d (dU r2.1)) [(0,.cells ([.d (dU r2.2)]))]) (aW9 h4) ?_;obtain⟨o3,h6,h⟩:=bS h;refine gl (Cy rd us h6) ?_;obtain⟨h7,h⟩:=cS h;refine gQ h7.1<|gQ (AI dW h7.2) ?_;obtain⟨x4,h8,h⟩:=xS h;refine gG 58 (.el (dW x4)) (AK dW h8)<|gW 10063 (.sl ((cM.set cO.toNat x4).map dW)) ?_;obtain⟨h9,h⟩:=cS h;refine gQ h9.1<|gQ (AI dW h9.2) ?_;obtain⟨x5,h10,h⟩:=xS h;refine gG 62 (.el (dW x5)) (AK dW h10)<|gW 10064 (.sl (((cM.set cO.toNat x4).set (AA .add .i64 cJ o3).toNat x5).map dW)) ?_;obtain⟨h11,h⟩:=cS h;refine gQ h11.1<|gQ (AI dW h11.2) ?_;obtain⟨h12,h⟩:=cS h;refine gQ (A0 dW h12)<|gQ (AV dW cM cO x4) ?_;obtain⟨h13,h⟩:=cS h;refine gQ h13.1<|gQ (AI dW h13.2) ?_;obtain⟨h14,h⟩:=cS h;refine gQ (A0 dW h14)<|gQ (AV dW (cM.set cO.toNat x4) (AA .add .i64 cJ o3) x5) ?_;exact lp h
def Bc(us:List Value)(s1 s6:Int)(s8 s9:Int)(w0:List Int)(w7:Int):St:=⟨sp 65 0 [rx 0,sI 1 s1,sI 6 s6,bx 7,sD 8 dU s8,sI 9 s9],[rW 0 32 1 dW w0,(7,.cells ([.d (dU w7)])),(997,.vals [.row 0] us)],[]⟩
def Be(us:List Value)(s1 s6 s8:Int)(o:(List Int)):Ex×St:=(.exit 0,⟨sp 65 0 [],[rW 0 32 1 dW o,(997,.vals [.row 0] us)],[]⟩)
theorem Cz(rd:Option Nat)(us:List Value)(h:SJ cJ cK cN cO cM cX=some d4):Lq 99 rd 238 (Bc us cJ cK cN cO cM cX) ((Be us cJ cK cN) d4):=
 lL (fun s:Int×List Int×Int=>Bc us cJ cK cN s.1 s.2.1 s.2.2) (Be us cJ cK cN) (cO,cM,cX) (fun⟨cO,cM,cX⟩ o h=>by
 unfold HG at h
 refine gQ (of_decide_eq_true rfl:(4:Int)≠0) ?_
 refine iB 33 h (fun h=>?_) fun h=>?_
 obtain⟨o6,h15,h⟩:=bS h
 refine gl (Cx rd us h15) ?_
 exact lb h
 exact lb h) h
theorem Cw(rd:Option Nat)(us:List Value)(h:SH cJ cK d5 cM=some d4):Lq 99 rd 7 ⟨sp 65 0 [rx 0,sI 1 cJ,sI 6 cK,sD 15 D.b d5],[rW 0 32 1 dW cM,(997,.vals [.row 0] us)],[]⟩ (.normal,⟨sp 65 0 [],[rW 0 32 1 dW d4,(997,.vals [.row 0] us)],[]⟩):=by unfold SH at h;apply g0 (o:=d4);cases d5;replace h:=Bj h;exact lp h;replace h:=Bl h;obtain⟨r1,h2,h⟩:=bS h;refine gC 19 (aW8 h2)<|gQ (of_decide_eq_true rfl:(4:Int)≠0) ?_;obtain⟨o7,h16,h⟩:=bS h;refine gl (Cz rd us h16) ?_;exact lp h
theorem DJ(h:Xy cJ cK cM=some cT):AM Tryz.prog 99 [.row 0,dI cJ,dI cK] [rW 0 32 1 dW cM] (.tup []) [rW 0 32 1 dW cT]:=by unfold Xy at h;refine XG.call (ks:=[0]) mixed fun us=>?_;apply g0 (o:=cT);obtain⟨o8,h17,h⟩:=bS h;refine gl (Cw none us h17) ?_;exact lX h (lv [] [0,997])
theorem BN(h:Qj cM cJ cK cN=some dO):AM Tryz.prog 164 [.d ((D.l dW) cM),dI cJ,dI cK,.box 0 0] [(0,.cells ([dI cN]))] (.tup [dI dO.1,dI dO.2.1]) [(0,.cells ([dI dO.2.2]))]:=by unfold Qj at h;refine XG.call (ks:=[3]) mixed fun us=>?_;apply g0 (o:=dO);refine xX 12 dW h fun x1 h=>?_;refine xX 16 dW h fun x2 h=>?_;obtain⟨r3,h3,h⟩:=bS h;refine gQ (AX h3) ?_;cases r3;replace h:=Bj h;refine gW 18 (.ret (.d (D.b false))) ?_;exact lX h (lv [8,9] [0,997]);replace h:=Bl h;refine gW 18 (.ret (.d (D.b true))) ?_;exact lX h (lv [8,9] [0,997])
theorem CP(h:Qm cM cJ cK cN cO=some dP):AM Tryz.prog 138 [.d ((D.l dW) cM),dI cJ,dI cK,dI cN,.box 0 0] [(0,.cells ([dI cO]))] (dI dP.1) [(0,.cells ([dI dP.2]))]:=by unfold Qm at h;refine XG.call (ks:=[4]) mixed fun us=>?_;apply g0 (o:=dP);obtain⟨r1,h1,h⟩:=bS h;refine gG 16 (.cx false [(0,0)] [] (.tup [dI r1.1,dI r1.2.1]) [(0,.cells ([dI r1.2.2]))]) (BN h1) ?_;obtain⟨r2,h2,h⟩:=bS h;refine gG 24 (.cx false [(0,0)] [] (.tup [dI r2.1,dI r2.2.1]) [(0,.cells ([dI r2.2.2]))]) (BN h2) ?_;obtain⟨r3,h3,h⟩:=bS h;refine gG 32 (.cx false [(0,0)] [] (.tup [dI r3.1,dI r3.2.1]) [(0,.cells ([dI r3.2.2]))]) (BN h3) ?_;exact lX h (lv [10] [0,997])
theorem Aw(h:Qk cM cJ cK=some dP):AM Tryz.prog 137 [.d ((D.l dW) cM),dI cJ,.box 0 0] [(0,.cells ([dI cK]))] (dI dP.1) [(0,.cells ([dI dP.2]))]:=by unfold Qk at h;refine XG.call (ks:=[2]) mixed fun us=>?_;apply g0 (o:=dP);obtain⟨r1,h1,h⟩:=bS h;refine gG 14 (.cx false [(0,0)] [] (dI r1.1) [(0,.cells ([dI r1.2]))]) (CP h1) ?_;exact lX h (lv [6] [0,997])
theorem DI(rd:Option Nat)(h:OZ cM cJ cK cN d5 cO=some dQ):Lq 100 rd 4073 ⟨sp 57 0 [sD 0 (D.l dW) cM,bx 9,sI 10 cJ,sI 11 cK,sI 12 cN,sD 34 D.b d5],[(9,.cells ([dI cO]))],[]⟩ (.normal,⟨sp 57 0 [sD 0 (D.l dW) cM,bx 9,sI 10 dQ.1,sI 11 dQ.2.1,sI 12 dQ.2.2.1],[(9,.cells ([dI dQ.2.2.2]))],[]⟩):=by unfold OZ at h;apply g0 (o:=dQ);cases d5;replace h:=Bj h;exact lp h;replace h:=Bl h;obtain⟨r1,h3,h⟩:=bS h;refine gG 37 (.cx false [(0,9)] [] (dI r1.1) [(0,.cells ([dI r1.2]))]) (Aw h3) ?_;obtain⟨r2,h4,h⟩:=bS h;refine gG 40 (.cx false [(0,9)] [] (dI r2.1) [(0,.cells ([dI r2.2]))]) (Aw h4) ?_;obtain⟨r3,h5,h⟩:=bS h;refine gG 43 (.cx false [(0,9)] [] (dI r3.1) [(0,.cells ([dI r3.2]))]) (Aw h5) ?_;exact lp h
theorem DH(rd:Option Nat)(h:SX cM cJ cK cN cO d5 cX=some dR):Lq 100 rd 509 ⟨sp 57 0 [sD 0 (D.l dW) cM,sI 8 cJ,bx 9,sI 10 cK,sI 11 cN,sI 12 cO,sD 32 D.b d5],[(9,.cells ([dI cX]))],[]⟩ (.normal,⟨sp 57 0 [bx 9,sI 11 dR.1],[(9,.cells ([dI dR.2]))],[]⟩):=by unfold SX at h;apply g0 (o:=dR);cases d5;replace h:=Bj h;exact lp h;replace h:=Bl h;obtain⟨o4,h6,h⟩:=bS h;refine gl (DI rd h6) ?_;obtain⟨r5,h7,h⟩:=bS h;refine gG 48 (.cx false [(0,9)] [] (dI r5.1) [(0,.cells ([dI r5.2]))]) (CP h7) ?_;exact lp h
theorem DQ(h:Z8 cM cJ cK=some dP):AM Tryz.prog 100 [.d ((D.l dW) cM),dI cJ,dI cK] [] (.tup [dI dP.1,dI dP.2]) []:=by unfold Z8 at h;apply g0 (o:=dP);refine gQ (of_decide_eq_true rfl:(4:Int)≠0)<|gQ (of_decide_eq_true rfl:(4:Int)≠0)<|gQ (of_decide_eq_true rfl:(4:Int)≠0) ?_;obtain⟨o6,h8,h⟩:=bS h;refine gl (DH none h8) ?_;refine iB 51 h (fun h=>?_) fun h=>?_;exact lf h;refine iB 54 h (fun h=>?_) fun h=>?_;exact lf h;exact lf h
def Bw(us:List Value)(s6 s7:Int)(w0:List Int):St:=⟨sp 32 0 [rx 0,sI 6 s6,sI 7 s7],[rW 0 32 1 dW w0,(997,.vals [.row 0] us)],[]⟩
def By(us:List Value)(o:(List Int)):Ex×St:=(.exit 0,⟨sp 32 0 [],[rW 0 32 1 dW o,(997,.vals [.row 0] us)],[]⟩)
theorem DB(rd:Option Nat)(us:List Value)(h:ST cJ cK cM=some d4):Lq 101 rd 14 (Bw us cJ cK cM) ((By us) d4):=
 lL (fun s:Int×Int×List Int=>Bw us s.1 s.2.1 s.2.2) (By us) (cJ,cK,cM) (fun⟨cJ,cK,cM⟩ o h=>by
 unfold JI at h
 refine iB 13 h (fun h=>?_) fun h=>?_
 obtain⟨h2,h⟩:=cS h
 refine gQ h2.1<|gQ (AI dW h2.2) ?_
 obtain⟨x1,h3,h⟩:=xS h
 refine gG 21 (.el (dW x1)) (AK dW h3)<|gW 10026 (.sl ((cM.set cJ.toNat x1).map dW)) ?_
 obtain⟨h4,h⟩:=cS h
 refine gQ h4.1<|gQ (AI dW h4.2) ?_
 obtain⟨x2,h5,h⟩:=xS h
 refine gG 25 (.el (dW x2)) (AK dW h5)<|gW 10027 (.sl (((cM.set cJ.toNat x1).set cK.toNat x2).map dW)) ?_
 obtain⟨h6,h⟩:=cS h
 refine gQ h6.1<|gQ (AI dW h6.2) ?_
 obtain⟨h7,h⟩:=cS h
 refine gQ (A0 dW h7)<|gQ (AV dW cM cJ x1) ?_
 obtain⟨h8,h⟩:=cS h
 refine gQ h8.1<|gQ (AI dW h8.2) ?_
 obtain⟨h9,h⟩:=cS h
 refine gQ (A0 dW h9)<|gQ (AV dW (cM.set cJ.toNat x1) cK x2) ?_
 exact lb h
 exact lb h) h
theorem DN(h:Yy cJ cK cM=some cT):AM Tryz.prog 101 [.row 0,dI cJ,dI cK] [rW 0 32 1 dW cM] (.tup []) [rW 0 32 1 dW cT]:=by unfold Yy at h;refine XG.call (ks:=[0]) mixed fun us=>?_;apply g0 (o:=cT);obtain⟨o3,h10,h⟩:=bS h;refine gl (DB none us h10) ?_;exact lX h (lv [] [0,997])
def A6(us:List Value)(s1 s2 s8:Int)(w0:List Int)(s7:Int):St:=⟨sp 133 0 [rx 0,sI 1 s1,sI 2 s2,sI 7 s7,sI 8 s8],[rW 0 32 1 dW w0,(997,.vals [.row 0] us)],[]⟩
def A7(us:List Value)(s1 s2 s8:Int)(w0:List Int)(o:Int):Ex×St:=(.exit 2,⟨sp 133 0 [rx 0,sI 1 s1,sI 2 s2,sI 7 o,sI 8 s8],[rW 0 32 1 dW w0,(997,.vals [.row 0] us)],[]⟩)
theorem CD(rd:Option Nat)(us:List Value)(h:R1 cJ cK cN cM cO=some cX):Lq 102 rd 3728 (A6 us cJ cK cN cM cO) ((A7 us cJ cK cN cM) cX):=
 lL (fun s:Int=>A6 us cJ cK cN cM s) (A7 us cJ cK cN cM) cO (fun cO o h=>by
 unfold Gz at h
 refine iB 20 h (fun h=>?_) fun h=>?_
 obtain⟨h3,h⟩:=cS h
 refine gQ h3.1<|gQ (AI dW h3.2) ?_
 obtain⟨x1,h4,h⟩:=xS h
 refine gG 24 (.el (dW x1)) (AK dW h4) ?_
 obtain⟨h5,h⟩:=cS h
 refine gQ h5.1<|gQ (AI dW h5.2) ?_
 obtain⟨x2,h6,h⟩:=xS h
 refine gG 29 (.el (dW x2)) (AK dW h6) ?_
 obtain⟨r3,h7,h⟩:=bS h
 refine gC 30 (AX h7) ?_
 refine iB 32 h (fun h=>?_) fun h=>?_
 exact lb h
 exact lb h
 exact lb h) h
def A8(us:List Value)(s1 s2:Int)(s7 s8 s9:Int)(w0:List Int):St:=⟨sp 133 0 [rx 0,sI 1 s1,sI 2 s2,sI 7 s7,sI 8 s8,sI 9 s9],[rW 0 32 1 dW w0,(997,.vals [.row 0] us)],[]⟩
def A9(us:List Value)(s1 s2:Int)(s7 s8:Int)(o:(List Int)):Ex×St:=(.exit 4,⟨sp 133 0 [rx 0,sI 1 s1,sI 2 s2,sI 7 s7,sI 8 s8],[rW 0 32 1 dW o,(997,.vals [.row 0] us)],[]⟩)
theorem CE(rd:Option Nat)(us:List Value)(h:R2 cJ cK cN cO cX cM=some d4):Lq 102 rd 477674 (A8 us cJ cK cN cO cX cM) ((A9 us cJ cK cN cO) d4):=
 lL (fun s:Int×List Int=>A8 us cJ cK cN cO s.1 s.2) (A9 us cJ cK cN cO) (cX,cM) (fun⟨cX,cM⟩ o h=>by
 unfold G0 at h
 refine iB 65 h (fun h=>?_) fun h=>?_
 obtain⟨h22,h⟩:=cS h
 refine gQ h22.1<|gQ (AI dW h22.2) ?_
 obtain⟨x7,h23,h⟩:=xS h
 refine gG 71 (.el (dW x7)) (AK dW h23) ?_
 obtain⟨h24,h⟩:=cS h
 refine gQ h24.1<|gQ (AI dW h24.2) ?_
 obtain⟨x8,h25,h⟩:=xS h
 refine gG 76 (.el (dW x8)) (AK dW h25) ?_
 obtain⟨r9,h26,h⟩:=bS h
 refine gC 77 (AX h26) ?_
 refine iB 78 h (fun h=>?_) fun h=>?_
 exact lb h
 obtain⟨h28,h⟩:=cS h
 refine gQ h28.1<|gQ (AI dW h28.2) ?_
 obtain⟨x10,h29,h⟩:=xS h
 refine gG 88 (.el (dW x10)) (AK dW h29)<|gW 10093 (.sl ((cM.set cX.toNat x10).map dW)) ?_
 obtain⟨h30,h⟩:=cS h
 refine gQ h30.1<|gQ (AI dW h30.2) ?_
 obtain⟨x11,h31,h⟩:=xS h
 refine gG 92 (.el (dW x11)) (AK dW h31)<|gW 10094 (.sl (((cM.set cX.toNat x10).set (AA .sub .i64 cX 1).toNat x11).map dW)) ?_
 obtain⟨h32,h⟩:=cS h
 refine gQ h32.1<|gQ (AI dW h32.2) ?_
 obtain⟨h33,h⟩:=cS h
 refine gQ (A0 dW h33)<|gQ (AV dW cM cX x10) ?_
 obtain⟨h34,h⟩:=cS h
 refine gQ h34.1<|gQ (AI dW h34.2) ?_
 obtain⟨h35,h⟩:=cS h
 refine gQ (A0 dW h35)<|gQ (AV dW (cM.set cX.toNat x10) (AA .sub .i64 cX 1) x11) ?_
 exact lb h
 exact lb h) h
theorem CA(rd:Option Nat)(us:List Value)(h:OK cJ cK cN cO d5 cM=some d4):Lq 102 rd 59709 ⟨sp 133 0 [rx 0,sI 1 cJ,sI 2 cK,sI 7 cN,sI 8 cO,sD 61 D.b d5],[rW 0 32 1 dW cM,(997,.vals [.row 0] us)],[]⟩ (.normal,⟨sp 133 0 [rx 0,sI 1 cJ,sI 2 cK,sI 7 cN,sI 8 cO],[rW 0 32 1 dW d4,(997,.vals [.row 0] us)],[]⟩):=by unfold OK at h;apply g0 (o:=d4);cases d5;replace h:=Bj h;exact lp h;replace h:=Bl h;obtain⟨o12,h36,h⟩:=bS h;refine gl (CE rd us h36) ?_;exact lp h
def BA(us:List Value)(s1 s2:Int)(s7 s8 s10:Int)(w0:List Int):St:=⟨sp 133 0 [rx 0,sI 1 s1,sI 2 s2,sI 7 s7,sI 8 s8,sI 10 s10],[rW 0 32 1 dW w0,(997,.vals [.row 0] us)],[]⟩
def BB(us:List Value)(s1 s2:Int)(s7 s8:Int)(o:(List Int)):Ex×St:=(.exit 6,⟨sp 133 0 [rx 0,sI 1 s1,sI 2 s2,sI 7 s7,sI 8 s8],[rW 0 32 1 dW o,(997,.vals [.row 0] us)],[]⟩)
theorem CF(rd:Option Nat)(us:List Value)(h:R3 cJ cK cN cO cX cM=some d4):Lq 102 rd 477690 (BA us cJ cK cN cO cX cM) ((BB us cJ cK cN cO) d4):=
 lL (fun s:Int×List Int=>BA us cJ cK cN cO s.1 s.2) (BB us cJ cK cN cO) (cX,cM) (fun⟨cX,cM⟩ o h=>by
 unfold G1 at h
 refine iB 103 h (fun h=>?_) fun h=>?_
 obtain⟨h40,h⟩:=cS h
 refine gQ h40.1<|gQ (AI dW h40.2) ?_
 obtain⟨x14,h41,h⟩:=xS h
 refine gG 109 (.el (dW x14)) (AK dW h41) ?_
 obtain⟨h42,h⟩:=cS h
 refine gQ h42.1<|gQ (AI dW h42.2) ?_
 obtain⟨x15,h43,h⟩:=xS h
 refine gG 114 (.el (dW x15)) (AK dW h43) ?_
 obtain⟨r16,h44,h⟩:=bS h
 refine gC 115 (AX h44) ?_
 refine iB 116 h (fun h=>?_) fun h=>?_
 exact lb h
 obtain⟨h46,h⟩:=cS h
 refine gQ h46.1<|gQ (AI dW h46.2) ?_
 obtain⟨x17,h47,h⟩:=xS h
 refine gG 126 (.el (dW x17)) (AK dW h47)<|gW 10131 (.sl ((cM.set cX.toNat x17).map dW)) ?_
 obtain⟨h48,h⟩:=cS h
 refine gQ h48.1<|gQ (AI dW h48.2) ?_
 obtain⟨x18,h49,h⟩:=xS h
 refine gG 130 (.el (dW x18)) (AK dW h49)<|gW 10132 (.sl (((cM.set cX.toNat x17).set (AA .sub .i64 cX 1).toNat x18).map dW)) ?_
 obtain⟨h50,h⟩:=cS h
 refine gQ h50.1<|gQ (AI dW h50.2) ?_
 obtain⟨h51,h⟩:=cS h
 refine gQ (A0 dW h51)<|gQ (AV dW cM cX x17) ?_
 obtain⟨h52,h⟩:=cS h
 refine gQ h52.1<|gQ (AI dW h52.2) ?_
 obtain⟨h53,h⟩:=cS h
 refine gQ (A0 dW h53)<|gQ (AV dW (cM.set cX.toNat x17) (AA .sub .i64 cX 1) x18) ?_
 exact lb h
 exact lb h) h
theorem CB(rd:Option Nat)(us:List Value)(h:OL cJ cK cN cO d5 cM=some d4):Lq 102 rd 59711 ⟨sp 133 0 [rx 0,sI 1 cJ,sI 2 cK,sI 7 cN,sI 8 cO,sD 98 D.b d5],[rW 0 32 1 dW cM,(997,.vals [.row 0] us)],[]⟩ (.normal,⟨sp 133 0 [rx 0,sI 1 cJ,sI 2 cK,sI 7 cN,sI 8 cO],[rW 0 32 1 dW d4,(997,.vals [.row 0] us)],[]⟩):=by unfold OL at h;apply g0 (o:=d4);cases d5;replace h:=Bj h;exact lp h;replace h:=Bl h;obtain⟨o19,h54,h⟩:=bS h;refine gl (CF rd us h54) ?_;exact lp h
theorem B9(rd:Option Nat)(us:List Value)(h:R0 cJ cK cN cO cM=some dS):Lq 102 rd 466 ⟨sp 133 0 [rx 0,sI 1 cJ,sI 2 cK,sI 7 cN,sI 8 cO],[rW 0 32 1 dW cM,(997,.vals [.row 0] us)],[]⟩ (match (generalizing:=false) dS with
 | .inl dS=>(.normal,⟨sp 133 0 [rx 0,sI 1 cJ,sI 2 cK,sI 7 dS.1,sI 8 cO],[rW 0 32 1 dW dS.2,(997,.vals [.row 0] us)],[]⟩)
 | .inr dS=>(.ret,⟨sp 133 0 [sD 6 D.b dS],[rW 0 32 1 dW cM,(997,.vals [.row 0] us)],[]⟩)):=by
 unfold R0 at h
 apply g0 (o:=dS)
 obtain⟨o4,h9,h⟩:=bS h
 refine gl (CD rd us h9) ?_
 refine iB 37 h (fun h=>?_) fun h=>?_
 exact lp h
 refine iB 41 h (fun h=>?_) fun h=>?_
 exact lp h
 obtain⟨h12,h⟩:=cS h
 refine gQ h12.1<|gQ (AI dW h12.2) ?_
 obtain⟨x5,h13,h⟩:=xS h
 refine gG 51 (.el (dW x5)) (AK dW h13)<|gW 10056 (.sl ((cM.set o4.toNat x5).map dW)) ?_
 obtain⟨h14,h⟩:=cS h
 refine gQ h14.1<|gQ (AI dW h14.2) ?_
 obtain⟨x6,h15,h⟩:=xS h
 refine gG 55 (.el (dW x6)) (AK dW h15)<|gW 10057 (.sl (((cM.set o4.toNat x5).set (AA .sub .i64 o4 1).toNat x6).map dW)) ?_
 obtain⟨h16,h⟩:=cS h
 refine gQ h16.1<|gQ (AI dW h16.2) ?_
 obtain⟨h17,h⟩:=cS h
 refine gQ (A0 dW h17)<|gQ (AV dW cM o4 x5) ?_
 obtain⟨h18,h⟩:=cS h
 refine gQ h18.1<|gQ (AI dW h18.2) ?_
 obtain⟨h19,h⟩:=cS h
 refine gQ (A0 dW h19)<|gQ (AV dW (cM.set o4.toNat x5) (AA .sub .i64 o4 1) x6) ?_
 obtain⟨o13,h37,h⟩:=bS h
 refine gl (CA rd us h37) ?_
 obtain⟨o20,h55,h⟩:=bS h
 refine gl (CB rd us h55) ?_
 exact lp h
def A4(us:List Value)(s1 s2:Int)(s7 s8:Int)(w0:List Int):St:=⟨sp 133 0 [rx 0,sI 1 s1,sI 2 s2,sI 7 s7,sI 8 s8],[rW 0 32 1 dW w0,(997,.vals [.row 0] us)],[]⟩
def A5(us:List Value)(s1 s2:Int)(o:(List Int)⊕(Bool×List Int)):Ex×St:=match o with
 | .inl o=>(.exit 0,⟨sp 133 0 [],[rW 0 32 1 dW o,(997,.vals [.row 0] us)],[]⟩)
 | .inr o=>(.ret,⟨sp 133 0 [sD 6 D.b o.1],[rW 0 32 1 dW o.2,(997,.vals [.row 0] us)],[]⟩)
theorem CC(rd:Option Nat)(us:List Value)(h:OM cJ cK cN cO cM=some dV):Lq 102 rd 58 (A4 us cJ cK cN cO cM) ((A5 us cJ cK) dV):=
 lL (fun s:Int×Int×List Int=>A4 us cJ cK s.1 s.2.1 s.2.2) (A5 us cJ cK) (cN,cO,cM) (fun⟨cN,cO,cM⟩ o h=>by
 unfold Gy at h
 refine iB 14 h (fun h=>?_) fun h=>?_
 obtain⟨o21,h56,h⟩:=bS h
 refine gl (B9 rd us h56) ?_
 replace h:=AJ h
 rcases h with⟨o22,rfl,h⟩|⟨o23,rfl,h⟩
 exact lb h
 exact lb h
 exact lb h) h
theorem Cb(h:X8 cJ cK cM=some dX):AM Tryz.prog 102 [.row 0,dI cJ,dI cK] [rW 0 32 1 dW cM] (.d (D.b dX.1)) [rW 0 32 1 dW dX.2]:=by
 unfold X8 at h;refine XG.call (ks:=[0]) mixed fun us=>?_;apply g0 (o:=dX);obtain⟨o24,h57,h⟩:=bS h;refine gl (CC none us h57) ?_;replace h:=AJ h;rcases h with⟨o25,rfl,h⟩|⟨o26,rfl,h⟩
 exact lX h (lv [6] [0,997]);exact lX h (lv [6] [0,997])
def BQ(us:List Value)(s1 s10:Int)(w0:List Int)(s9:Int):St:=⟨sp 84 0 [rx 0,sI 1 s1,sI 9 s9,sI 10 s10],[rW 0 32 1 dW w0,(997,.vals [.row 0] us)],[]⟩
def BS(us:List Value)(s1 s10:Int)(w0:List Int)(o:Int):Ex×St:=(.exit 2,⟨sp 84 0 [rx 0,sI 1 s1,sI 9 o,sI 10 s10],[rW 0 32 1 dW w0,(997,.vals [.row 0] us)],[]⟩)
theorem Cg(rd:Option Nat)(us:List Value)(h:SA cJ cK cM cN=some cO):Lq 104 rd 960 (BQ us cJ cK cM cN) ((BS us cJ cK cM) cO):=
 lL (fun s:Int=>BQ us cJ cK cM s) (BS us cJ cK cM) cN (fun cN o h=>by
 unfold G4 at h
 refine iB 32 h (fun h=>?_) fun h=>?_
 obtain⟨h10,h⟩:=cS h
 refine gQ h10.1<|gQ (AI dW h10.2) ?_
 obtain⟨x3,h11,h⟩:=xS h
 refine gG 36 (.el (dW x3)) (AK dW h11) ?_
 obtain⟨h12,h⟩:=cS h
 refine gQ h12.1<|gQ (AI dW h12.2) ?_
 obtain⟨x4,h13,h⟩:=xS h
 refine gG 40 (.el (dW x4)) (AK dW h13) ?_
 obtain⟨r5,h14,h⟩:=bS h
 refine gC 41 (AX h14) ?_
 refine iB 43 h (fun h=>?_) fun h=>?_
 exact lb h
 exact lb h
 exact lb h) h
def BT(us:List Value)(s1 s9:Int)(w0:List Int)(s10:Int):St:=⟨sp 84 0 [rx 0,sI 1 s1,sI 9 s9,sI 10 s10],[rW 0 32 1 dW w0,(997,.vals [.row 0] us)],[]⟩
def BU(us:List Value)(s1 s9:Int)(w0:List Int)(o:Int):Ex×St:=(.exit 4,⟨sp 84 0 [rx 0,sI 1 s1,sI 9 s9,sI 10 o],[rW 0 32 1 dW w0,(997,.vals [.row 0] us)],[]⟩)
theorem Ci(rd:Option Nat)(us:List Value)(h:SB cJ cK cM cN=some cO):Lq 104 rd 1924 (BT us cJ cK cM cN) ((BU us cJ cK cM) cO):=
 lL (fun s:Int=>BT us cJ cK cM s) (BU us cJ cK cM) cN (fun cN o h=>by
 unfold G5 at h
 refine iB 49 h (fun h=>?_) fun h=>?_
 obtain⟨h18,h⟩:=cS h
 refine gQ h18.1<|gQ (AI dW h18.2) ?_
 obtain⟨x7,h19,h⟩:=xS h
 refine gG 53 (.el (dW x7)) (AK dW h19) ?_
 obtain⟨h20,h⟩:=cS h
 refine gQ h20.1<|gQ (AI dW h20.2) ?_
 obtain⟨x8,h21,h⟩:=xS h
 refine gG 57 (.el (dW x8)) (AK dW h21) ?_
 obtain⟨r9,h22,h⟩:=bS h
 refine gQ (AX h22) ?_
 cases r9
 replace h:=Bj h
 refine gW 58 (.ret (.d (D.b false))) ?_
 exact lb h
 replace h:=Bl h
 refine gW 58 (.ret (.d (D.b true))) ?_
 exact lb h
 exact lb h) h
def BO(us:List Value)(s1 s9 s10:Int)(w0:List Int):St:=⟨sp 84 0 [rx 0,sI 1 s1,sI 9 s9,sI 10 s10],[rW 0 32 1 dW w0,(997,.vals [.row 0] us)],[]⟩
def BP(us:List Value)(s1:Int)(o:(Int×List Int)):Ex×St:=(.exit 0,⟨sp 84 0 [sI 9 o.1],[rW 0 32 1 dW o.2,(997,.vals [.row 0] us)],[]⟩)
theorem Cf(rd:Option Nat)(us:List Value)(h:R9 cJ cK cN cM=some cP):Lq 104 rd 60 (BO us cJ cK cN cM) ((BP us cJ) cP):=
 lL (fun s:Int×Int×List Int=>BO us cJ s.1 s.2.1 s.2.2) (BP us cJ) (cK,cN,cM) (fun⟨cK,cN,cM⟩ o h=>by
 unfold If at h
 obtain⟨o6,h16,h⟩:=bS h
 refine gl (Cg rd us h16) ?_
 obtain⟨o10,h24,h⟩:=bS h
 refine gl (Ci rd us h24) ?_
 refine iB 64 h (fun h=>?_) fun h=>?_
 exact lb h
 obtain⟨h26,h⟩:=cS h
 refine gQ h26.1<|gQ (AI dW h26.2) ?_
 obtain⟨x11,h27,h⟩:=xS h
 refine gG 72 (.el (dW x11)) (AK dW h27)<|gW 10077 (.sl ((cM.set o6.toNat x11).map dW)) ?_
 obtain⟨h28,h⟩:=cS h
 refine gQ h28.1<|gQ (AI dW h28.2) ?_
 obtain⟨x12,h29,h⟩:=xS h
 refine gG 76 (.el (dW x12)) (AK dW h29)<|gW 10078 (.sl (((cM.set o6.toNat x11).set o10.toNat x12).map dW)) ?_
 obtain⟨h30,h⟩:=cS h
 refine gQ h30.1<|gQ (AI dW h30.2) ?_
 obtain⟨h31,h⟩:=cS h
 refine gQ (A0 dW h31)<|gQ (AV dW cM o6 x11) ?_
 obtain⟨h32,h⟩:=cS h
 refine gQ h32.1<|gQ (AI dW h32.2) ?_
 obtain⟨h33,h⟩:=cS h
 refine gQ (A0 dW h33)<|gQ (AV dW (cM.set o6.toNat x11) o10 x12) ?_
 exact lb h) h
theorem Ax(h:Xh cJ cK cN cM=some cQ):AM Tryz.prog 104 [.row 0,dI cJ,dI cK,dI cN] [rW 0 32 1 dW cM] (dI cQ.1) [rW 0 32 1 dW cQ.2]:=by unfold Xh at h;refine XG.call (ks:=[0]) mixed fun us=>?_;apply g0 (o:=cQ);obtain⟨h1,h⟩:=cS h;refine gQ h1.1<|gQ (AI dW h1.2) ?_;obtain⟨x1,h2,h⟩:=xS h;refine gG 18 (.el (dW x1)) (AK dW h2)<|gW 10023 (.sl ((cM.set cJ.toNat x1).map dW)) ?_;obtain⟨h3,h⟩:=cS h;refine gQ h3.1<|gQ (AI dW h3.2) ?_;obtain⟨x2,h4,h⟩:=xS h;refine gG 22 (.el (dW x2)) (AK dW h4)<|gW 10024 (.sl (((cM.set cJ.toNat x1).set cN.toNat x2).map dW)) ?_;obtain⟨h5,h⟩:=cS h;refine gQ h5.1<|gQ (AI dW h5.2) ?_;obtain⟨h6,h⟩:=cS h;refine gQ (A0 dW h6)<|gQ (AV dW cM cJ x1) ?_;obtain⟨h7,h⟩:=cS h;refine gQ h7.1<|gQ (AI dW h7.2) ?_;obtain⟨h8,h⟩:=cS h;refine gQ (A0 dW h8)<|gQ (AV dW (cM.set cJ.toNat x1) cN x2) ?_;obtain⟨o13,h34,h⟩:=bS h;refine gl (Cf none us h34) ?_;exact lX h (lv [8] [0,997])
def Bm(us:List Value)(s1 s11:Int)(w0:List Int)(s10:Int):St:=⟨sp 168 0 [rx 0,sI 1 s1,sI 10 s10,sI 11 s11],[rW 0 32 1 dW w0,(997,.vals [.row 0] us)],[]⟩
def Bn(us:List Value)(s1 s11:Int)(w0:List Int)(o:Int):Ex×St:=(.exit 0,⟨sp 168 0 [rx 0,sI 1 s1,sI 10 o,sI 11 s11],[rW 0 32 1 dW w0,(997,.vals [.row 0] us)],[]⟩)
theorem C6(rd:Option Nat)(us:List Value)(h:OO cJ cK cM cN=some cO):Lq 105 rd 60 (Bm us cJ cK cM cN) ((Bn us cJ cK cM) cO):=
 lL (fun s:Int=>Bm us cJ cK cM s) (Bn us cJ cK cM) cN (fun cN o h=>by
 unfold G2 at h
 refine iB 33 h (fun h=>?_) fun h=>?_
 obtain⟨h10,h⟩:=cS h
 refine gQ h10.1<|gQ (AI dW h10.2) ?_
 obtain⟨x3,h11,h⟩:=xS h
 refine gG 37 (.el (dW x3)) (AK dW h11) ?_
 obtain⟨h12,h⟩:=cS h
 refine gQ h12.1<|gQ (AI dW h12.2) ?_
 obtain⟨x4,h13,h⟩:=xS h
 refine gG 41 (.el (dW x4)) (AK dW h13) ?_
 obtain⟨r5,h14,h⟩:=bS h
 refine gQ (AX h14) ?_
 cases r5
 replace h:=Bj h
 refine gW 42 (.ret (.d (D.b false))) ?_
 exact lb h
 replace h:=Bl h
 refine gW 42 (.ret (.d (D.b true))) ?_
 exact lb h
 exact lb h) h
def Bo(us:List Value)(s1 s10:Int)(w0:List Int)(s11:Int):St:=⟨sp 168 0 [rx 0,sI 1 s1,sI 10 s10,sI 11 s11],[rW 0 32 1 dW w0,(997,.vals [.row 0] us)],[]⟩
def Bp(us:List Value)(s1 s10:Int)(w0:List Int)(o:Int):Ex×St:=(.exit 2,⟨sp 168 0 [rx 0,sI 1 s1,sI 10 s10,sI 11 o],[rW 0 32 1 dW w0,(997,.vals [.row 0] us)],[]⟩)
theorem C7(rd:Option Nat)(us:List Value)(h:OP cJ cK cM cN=some cO):Lq 105 rd 124 (Bo us cJ cK cM cN) ((Bp us cJ cK cM) cO):=
 lL (fun s:Int=>Bo us cJ cK cM s) (Bp us cJ cK cM) cN (fun cN o h=>by
 unfold G3 at h
 refine iB 49 h (fun h=>?_) fun h=>?_
 obtain⟨h18,h⟩:=cS h
 refine gQ h18.1<|gQ (AI dW h18.2) ?_
 obtain⟨x7,h19,h⟩:=xS h
 refine gG 53 (.el (dW x7)) (AK dW h19) ?_
 obtain⟨h20,h⟩:=cS h
 refine gQ h20.1<|gQ (AI dW h20.2) ?_
 obtain⟨x8,h21,h⟩:=xS h
 refine gG 57 (.el (dW x8)) (AK dW h21) ?_
 obtain⟨r9,h22,h⟩:=bS h
 refine gC 58 (AX h22) ?_
 refine iB 60 h (fun h=>?_) fun h=>?_
 exact lb h
 exact lb h
 exact lb h) h
def Bs(us:List Value)(s1 s11:Int)(w0:List Int)(s10:Int):St:=⟨sp 168 0 [rx 0,sI 1 s1,sI 10 s10,sI 11 s11],[rW 0 32 1 dW w0,(997,.vals [.row 0] us)],[]⟩
def Bt(us:List Value)(s1 s11:Int)(w0:List Int)(o:Int):Ex×St:=(.exit 6,⟨sp 168 0 [rx 0,sI 1 s1,sI 10 o,sI 11 s11],[rW 0 32 1 dW w0,(997,.vals [.row 0] us)],[]⟩)
theorem C9(rd:Option Nat)(us:List Value)(h:aG9 cJ cK cM cN=some cO):Lq 105 rd 65472 (Bs us cJ cK cM cN) ((Bt us cJ cK cM) cO):=
 lL (fun s:Int=>Bs us cJ cK cM s) (Bt us cJ cK cM) cN (fun cN o h=>by
 unfold OQ at h
 refine iB 102 h (fun h=>?_) fun h=>?_
 obtain⟨h43,h⟩:=cS h
 refine gQ h43.1<|gQ (AI dW h43.2) ?_
 obtain⟨x15,h44,h⟩:=xS h
 refine gG 106 (.el (dW x15)) (AK dW h44) ?_
 obtain⟨h45,h⟩:=cS h
 refine gQ h45.1<|gQ (AI dW h45.2) ?_
 obtain⟨x16,h46,h⟩:=xS h
 refine gG 110 (.el (dW x16)) (AK dW h46) ?_
 obtain⟨r17,h47,h⟩:=bS h
 refine gQ (AX h47) ?_
 cases r17
 replace h:=Bj h
 refine gW 111 (.ret (.d (D.b false))) ?_
 exact lb h
 replace h:=Bl h
 refine gW 111 (.ret (.d (D.b true))) ?_
 exact lb h
 exact lb h) h
def Bu(us:List Value)(s1 s10:Int)(w0:List Int)(s11:Int):St:=⟨sp 168 0 [rx 0,sI 1 s1,sI 10 s10,sI 11 s11],[rW 0 32 1 dW w0,(997,.vals [.row 0] us)],[]⟩
def Bv(us:List Value)(s1 s10:Int)(w0:List Int)(o:Int):Ex×St:=(.exit 8,⟨sp 168 0 [rx 0,sI 1 s1,sI 10 s10,sI 11 o],[rW 0 32 1 dW w0,(997,.vals [.row 0] us)],[]⟩)
theorem DA(rd:Option Nat)(us:List Value)(h:aHb cJ cK cM cN=some cO):Lq 105 rd 130948 (Bu us cJ cK cM cN) ((Bv us cJ cK cM) cO):=
 lL (fun s:Int=>Bu us cJ cK cM s) (Bv us cJ cK cM) cN (fun cN o h=>by
 unfold OR at h
 refine iB 118 h (fun h=>?_) fun h=>?_
 obtain⟨h51,h⟩:=cS h
 refine gQ h51.1<|gQ (AI dW h51.2) ?_
 obtain⟨x19,h52,h⟩:=xS h
 refine gG 122 (.el (dW x19)) (AK dW h52) ?_
 obtain⟨h53,h⟩:=cS h
 refine gQ h53.1<|gQ (AI dW h53.2) ?_
 obtain⟨x20,h54,h⟩:=xS h
 refine gG 126 (.el (dW x20)) (AK dW h54) ?_
 obtain⟨r21,h55,h⟩:=bS h
 refine gC 127 (AX h55) ?_
 refine iB 129 h (fun h=>?_) fun h=>?_
 exact lb h
 exact lb h
 exact lb h) h
def Bq(us:List Value)(s1 s10 s11:Int)(w0:List Int):St:=⟨sp 168 0 [rx 0,sI 1 s1,sI 10 s10,sI 11 s11],[rW 0 32 1 dW w0,(997,.vals [.row 0] us)],[]⟩
def Br(us:List Value)(s1:Int)(o:(Int×List Int)):Ex×St:=(.exit 4,⟨sp 168 0 [rx 0,sI 1 s1,sI 11 o.1],[rW 0 32 1 dW o.2,(997,.vals [.row 0] us)],[]⟩)
theorem C8(rd:Option Nat)(us:List Value)(h:R5 cJ cK cN cM=some cP):Lq 105 rd 4092 (Bq us cJ cK cN cM) ((Br us cJ) cP):=
 lL (fun s:Int×Int×List Int=>Bq us cJ s.1 s.2.1 s.2.2) (Br us cJ) (cK,cN,cM) (fun⟨cK,cN,cM⟩ o h=>by
 unfold IS at h
 obtain⟨o18,h49,h⟩:=bS h
 refine gl (C9 rd us h49) ?_
 obtain⟨o22,h57,h⟩:=bS h
 refine gl (DA rd us h57) ?_
 refine iB 134 h (fun h=>?_) fun h=>?_
 exact lb h
 obtain⟨h59,h⟩:=cS h
 refine gQ h59.1<|gQ (AI dW h59.2) ?_
 obtain⟨x23,h60,h⟩:=xS h
 refine gG 142 (.el (dW x23)) (AK dW h60)<|gW 10147 (.sl ((cM.set o18.toNat x23).map dW)) ?_
 obtain⟨h61,h⟩:=cS h
 refine gQ h61.1<|gQ (AI dW h61.2) ?_
 obtain⟨x24,h62,h⟩:=xS h
 refine gG 146 (.el (dW x24)) (AK dW h62)<|gW 10148 (.sl (((cM.set o18.toNat x23).set o22.toNat x24).map dW)) ?_
 obtain⟨h63,h⟩:=cS h
 refine gQ h63.1<|gQ (AI dW h63.2) ?_
 obtain⟨h64,h⟩:=cS h
 refine gQ (A0 dW h64)<|gQ (AV dW cM o18 x23) ?_
 obtain⟨h65,h⟩:=cS h
 refine gQ h65.1<|gQ (AI dW h65.2) ?_
 obtain⟨h66,h⟩:=cS h
 refine gQ (A0 dW h66)<|gQ (AV dW (cM.set o18.toNat x23) o22 x24) ?_
 exact lb h) h
theorem Ab(h:Xa cJ cK cN cM=some cR):AM Tryz.prog 105 [.row 0,dI cJ,dI cK,dI cN] [rW 0 32 1 dW cM] (.tup [dI cR.1,.d (D.b cR.2.1)]) [rW 0 32 1 dW cR.2.2]:=by unfold Xa at h;refine XG.call (ks:=[0]) mixed fun us=>?_;apply g0 (o:=cR);obtain⟨h1,h⟩:=cS h;refine gQ h1.1<|gQ (AI dW h1.2) ?_;obtain⟨x1,h2,h⟩:=xS h;refine gG 19 (.el (dW x1)) (AK dW h2)<|gW 10024 (.sl ((cM.set cJ.toNat x1).map dW)) ?_;obtain⟨h3,h⟩:=cS h;refine gQ h3.1<|gQ (AI dW h3.2) ?_;obtain⟨x2,h4,h⟩:=xS h;refine gG 23 (.el (dW x2)) (AK dW h4)<|gW 10025 (.sl (((cM.set cJ.toNat x1).set cN.toNat x2).map dW)) ?_;obtain⟨h5,h⟩:=cS h;refine gQ h5.1<|gQ (AI dW h5.2) ?_;obtain⟨h6,h⟩:=cS h;refine gQ (A0 dW h6)<|gQ (AV dW cM cJ x1) ?_;obtain⟨h7,h⟩:=cS h;refine gQ h7.1<|gQ (AI dW h7.2) ?_;obtain⟨h8,h⟩:=cS h;refine gQ (A0 dW h8)<|gQ (AV dW (cM.set cJ.toNat x1) cN x2) ?_;obtain⟨o6,h16,h⟩:=bS h;refine gl (C6 none us h16) ?_;obtain⟨o10,h24,h⟩:=bS h;refine gl (C7 none us h24) ?_;refine iB 65 h (fun h=>?_) fun h=>?_;obtain⟨h26,h⟩:=cS h;refine gQ h26.1<|gQ (AI dW h26.2) ?_;obtain⟨x11,h27,h⟩:=xS h;refine gG 73 (.el (dW x11)) (AK dW h27)<|gW 10078 (.sl ((((cM.set cJ.toNat x1).set cN.toNat x2).set o10.toNat x11).map dW)) ?_;obtain⟨h28,h⟩:=cS h;refine gQ h28.1<|gQ (AI dW h28.2) ?_;obtain⟨x12,h29,h⟩:=xS h;refine gG 77 (.el (dW x12)) (AK dW h29)<|gW 10079 (.sl (((((cM.set cJ.toNat x1).set cN.toNat x2).set o10.toNat x11).set cJ.toNat x12).map dW)) ?_;obtain⟨h30,h⟩:=cS h;refine gQ h30.1<|gQ (AI dW h30.2) ?_;obtain⟨h31,h⟩:=cS h;refine gQ (A0 dW h31)<|gQ (AV dW ((cM.set cJ.toNat x1).set cN.toNat x2) o10 x11) ?_;obtain⟨h32,h⟩:=cS h;refine gQ h32.1<|gQ (AI dW h32.2) ?_;obtain⟨h33,h⟩:=cS h;refine gQ (A0 dW h33)<|gQ (AV dW (((cM.set cJ.toNat x1).set cN.toNat x2).set o10.toNat x11) cJ x12) ?_;exact lX h (lv [8,9] [0,997]);obtain⟨h34,h⟩:=cS h;refine gQ h34.1<|gQ (AI dW h34.2) ?_;obtain⟨x13,h35,h⟩:=xS h;refine gG 88 (.el (dW x13)) (AK dW h35)<|gW 10093 (.sl ((((cM.set cJ.toNat x1).set cN.toNat x2).set o6.toNat x13).map dW)) ?_;obtain⟨h36,h⟩:=cS h;refine gQ h36.1<|gQ (AI dW h36.2) ?_;obtain⟨x14,h37,h⟩:=xS h;refine gG 92 (.el (dW x14)) (AK dW h37)<|gW 10094 (.sl (((((cM.set cJ.toNat x1).set cN.toNat x2).set o6.toNat x13).set o10.toNat x14).map dW)) ?_;obtain⟨h38,h⟩:=cS h;refine gQ h38.1<|gQ (AI dW h38.2) ?_;obtain⟨h39,h⟩:=cS h;refine gQ (A0 dW h39)<|gQ (AV dW ((cM.set cJ.toNat x1).set cN.toNat x2) o6 x13) ?_;obtain⟨h40,h⟩:=cS h;refine gQ h40.1<|gQ (AI dW h40.2) ?_;obtain⟨h41,h⟩:=cS h;refine gQ (A0 dW h41)<|gQ (AV dW (((cM.set cJ.toNat x1).set cN.toNat x2).set o6.toNat x13) o10 x14) ?_;obtain⟨o25,h67,h⟩:=bS h;refine gl (C8 none us h67) ?_;obtain⟨h68,h⟩:=cS h;refine gQ h68.1<|gQ (AI dW h68.2) ?_;obtain⟨x26,h69,h⟩:=xS h;refine gG 160 (.el (dW x26)) (AK dW h69)<|gW 10165 (.sl ((o25.2.set o25.1.toNat x26).map dW)) ?_;obtain⟨h70,h⟩:=cS h;refine gQ h70.1<|gQ (AI dW h70.2) ?_;obtain⟨x27,h71,h⟩:=xS h;refine gG 164 (.el (dW x27)) (AK dW h71)<|gW 10166 (.sl (((o25.2.set o25.1.toNat x26).set cJ.toNat x27).map dW)) ?_;obtain⟨h72,h⟩:=cS h;refine gQ h72.1<|gQ (AI dW h72.2) ?_;obtain⟨h73,h⟩:=cS h;refine gQ (A0 dW h73)<|gQ (AV dW o25.2 o25.1 x26) ?_;obtain⟨h74,h⟩:=cS h;refine gQ h74.1<|gQ (AI dW h74.2) ?_;obtain⟨h75,h⟩:=cS h;refine gQ (A0 dW h75)<|gQ (AV dW (o25.2.set o25.1.toNat x26) cJ x27) ?_;exact lX h (lv [8,9] [0,997])
theorem Dh(rd:Option Nat)(self:Int->Int->Int->(List Int)->Option (List Int))(hs:∀(a1 a2 a3:Int) (w0 r:List Int),self a1 a2 a3 w0=some r->AM Tryz.prog 72 [.row 0,dI a1,dI a2,dI a3] [rW 0 32 1 dW w0] (.tup []) [rW 0 32 1 dW r])(us:List Value){s1 s2 s3:Int}{s8 s9:Bool}{s10:Int}{s35:Bool}{w0:List Int}{o:(Int×List Int)}(h:OT self s1 s2 s3 s8 s9 s10 s35 w0=some o):Lq 72 rd 1821 ⟨sp 134 0 [rx 0,sI 1 s1,sI 2 s2,sI 3 s3,sD 8 D.b s8,sD 9 D.b s9,sI 10 s10,sD 35 D.b s35],[rW 0 32 1 dW w0,(997,.vals [.row 0] us)],[]⟩ (.normal,⟨sp 134 0 [rx 0,sI 1 s1,sI 2 s2,sI 3 o.1,sD 8 D.b s8,sD 9 D.b s9,sI 10 s10],[rW 0 32 1 dW o.2,(997,.vals [.row 0] us)],[]⟩):=by unfold OT at h;apply g0 (o:=o);cases s35;replace h:=Bj h;exact lp h;replace h:=Bl h;obtain⟨r3,h6,h⟩:=bS h;refine gG 39 (.cx false [(0,0)] [] (.tup []) [rW 0 32 1 dW r3]) (DJ h6) ?_;exact lp h
theorem Di(rd:Option Nat)(self:Int->Int->Int->(List Int)->Option (List Int))(hs:∀(a1 a2 a3:Int) (w0 r:List Int),self a1 a2 a3 w0=some r->AM Tryz.prog 72 [.row 0,dI a1,dI a2,dI a3] [rW 0 32 1 dW w0] (.tup []) [rW 0 32 1 dW r])(us:List Value){s1 s2 s3:Int}{s8 s9:Bool}{s10 s11 s12:Int}{s50:Bool}{w0:List Int}{o:(Int×Int×List Int)}(h:OU self s1 s2 s3 s8 s9 s10 s11 s12 s50 w0=some o):Lq 72 rd 7293 ⟨sp 134 0 [rx 0,sI 1 s1,sI 2 s2,sI 3 s3,sD 8 D.b s8,sD 9 D.b s9,sI 10 s10,sI 11 s11,sI 12 s12,sD 50 D.b s50],[rW 0 32 1 dW w0,(997,.vals [.row 0] us)],[]⟩ (.normal,⟨sp 134 0 [rx 0,sI 1 s1,sI 2 s2,sI 3 s3,sD 8 D.b s8,sD 9 D.b s9,sI 10 s10,sI 11 o.1,sI 12 o.2.1],[rW 0 32 1 dW o.2.2,(997,.vals [.row 0] us)],[]⟩):=by unfold OU at h;apply g0 (o:=o);cases s50;replace h:=Bj h;exact lp h;replace h:=Bl h;obtain⟨r6,h10,h⟩:=bS h;refine gG 54 (.cx false [(0,0)] [] (.tup []) [rW 0 32 1 dW r6]) (DN h10) ?_;exact lp h
theorem BK(rd:Option Nat)(self:Int->Int->Int->(List Int)->Option (List Int))(hs:∀(a1 a2 a3:Int) (w0 r:List Int),self a1 a2 a3 w0=some r->AM Tryz.prog 72 [.row 0,dI a1,dI a2,dI a3] [rW 0 32 1 dW w0] (.tup []) [rW 0 32 1 dW r])(us:List Value){s1 s2 s3:Int}{s8 s9:Bool}{s10 s11:Int}{s68:Bool}{w0:List Int}{o:(List Int)⊕(List Int)}(h:KX self s1 s2 s3 s8 s9 s10 s11 s68 w0=some o):Lq 72 rd 14589 ⟨sp 134 0 [rx 0,sI 1 s1,sI 2 s2,sI 3 s3,sD 8 D.b s8,sD 9 D.b s9,sI 10 s10,sI 11 s11,sD 68 D.b s68],[rW 0 32 1 dW w0,(997,.vals [.row 0] us)],[]⟩ (match (generalizing:=false) o with
 | .inl o=>(.normal,⟨sp 134 0 [rx 0,sI 1 s1,sI 2 s2,sI 3 s3,sD 8 D.b s8,sD 9 D.b s9,sI 10 s10,sI 11 s11],[rW 0 32 1 dW o,(997,.vals [.row 0] us)],[]⟩)
 | .inr o=>(.ret,⟨sp 134 0 [],[rW 0 32 1 dW o,(997,.vals [.row 0] us)],[]⟩)):=by
 unfold KX at h
 apply g0 (o:=o)
 cases s68
 replace h:=Bj h
 exact lp h
 replace h:=Bl h
 obtain⟨r8,h15,h⟩:=bS h
 refine gQ (Cb h15) ?_
 rcases r8 with⟨r8_1,r8_2⟩
 cases r8_1
 replace h:=Bj h
 refine gW 72 (.cx false [(0,0)] [] (.d (D.b false)) [rW 0 32 1 dW r8_2]) ?_
 exact lp h
 replace h:=Bl h
 refine gW 72 (.cx false [(0,0)] [] (.d (D.b true)) [rW 0 32 1 dW r8_2]) ?_
 exact lp h
theorem Af(rd:Option Nat)(self:Int->Int->Int->(List Int)->Option (List Int))(hs:∀(a1 a2 a3:Int) (w0 r:List Int),self a1 a2 a3 w0=some r->AM Tryz.prog 72 [.row 0,dI a1,dI a2,dI a3] [rW 0 32 1 dW w0] (.tup []) [rW 0 32 1 dW r])(us:List Value){s1 s2 s3:Int}{s9:Bool}{s14 s16:Int}{s17 s18:Int}{s113:Bool}{w0:List Int}{o:(Int×Int×Bool×List Int)}(h:F8 self s1 s2 s3 s9 s14 s16 s17 s18 s113 w0=some o):Lq 72 rd 466943 ⟨sp 134 0 [rx 0,sI 1 s1,sI 2 s2,sI 3 s3,sD 9 D.b s9,sI 14 s14,sI 16 s16,sI 17 s17,sI 18 s18,sD 113 D.b s113],[rW 0 32 1 dW w0,(997,.vals [.row 0] us)],[]⟩ (.normal,⟨sp 134 0 [rx 0,sI 1 o.1,sI 2 o.2.1,sI 3 s3,sD 8 D.b o.2.2.1,sD 9 D.b s9],[rW 0 32 1 dW o.2.2.2,(997,.vals [.row 0] us)],[]⟩):=by unfold F8 at h;apply g0 (o:=o);cases s113;replace h:=Bj h;obtain⟨r18,h29,h⟩:=bS h;refine gG 132 (.cx false [(0,0)] [] (.tup []) [rW 0 32 1 dW r18]) (hs (AA .add .i64 s14 1) s2 s3 w0 r18 h29) ?_;exact lp h;replace h:=Bl h;obtain⟨r17,h28,h⟩:=bS h;refine gG 121 (.cx false [(0,0)] [] (.tup []) [rW 0 32 1 dW r17]) (hs s1 s14 s3 w0 r17 h28) ?_;exact lp h
theorem Dg(rd:Option Nat)(self:Int->Int->Int->(List Int)->Option (List Int))(hs:∀(a1 a2 a3:Int) (w0 r:List Int),self a1 a2 a3 w0=some r->AM Tryz.prog 72 [.row 0,dI a1,dI a2,dI a3] [rW 0 32 1 dW w0] (.tup []) [rW 0 32 1 dW r])(us:List Value){s1 s2 s3:Int}{s8 s9:Bool}{w0:List Int}{o:(Int×Int×Int×Bool×Bool×List Int)⊕(List Int)}(h:OS self s1 s2 s3 s8 s9 w0=some o):Lq 72 rd 28 ⟨sp 134 0 [rx 0,sI 1 s1,sI 2 s2,sI 3 s3,sD 8 D.b s8,sD 9 D.b s9],[rW 0 32 1 dW w0,(997,.vals [.row 0] us)],[]⟩ (match (generalizing:=false) o with
 | .inl o=>(.normal,⟨sp 134 0 [rx 0,sI 1 o.1,sI 2 o.2.1,sI 3 o.2.2.1,sD 8 D.b o.2.2.2.1,sD 9 D.b o.2.2.2.2.1],[rW 0 32 1 dW o.2.2.2.2.2,(997,.vals [.row 0] us)],[]⟩)
 | .inr o=>(.ret,⟨sp 134 0 [],[rW 0 32 1 dW o,(997,.vals [.row 0] us)],[]⟩)):=by
 unfold OS at h
 apply g0 (o:=o)
 refine iB 23 h (fun h=>?_) fun h=>?_
 obtain⟨r1,h2,h⟩:=bS h
 refine gG 27 (.cx false [(0,0)] [] (.tup []) [rW 0 32 1 dW r1]) (DK h2) ?_
 exact lp h
 refine iB 29 h (fun h=>?_) fun h=>?_
 obtain⟨r2,h4,h⟩:=bS h
 refine gG 33 (.cx false [(0,0)] [] (.tup []) [rW 0 32 1 dW r2]) (Dv h4) ?_
 exact lp h
 obtain⟨o4,h7,h⟩:=bS h
 refine gl (Dh rd self hs us h7) ?_
 obtain⟨r5,h8,h⟩:=bS h
 refine gG 46 (.lend [0] (.tup [dI r5.1,dI r5.2])) (DQ h8) ?_
 obtain⟨o7,h11,h⟩:=bS h
 refine gl (Di rd self hs us h11) ?_
 refine iB 62 h (fun h=>?_) fun h=>?_
 refine iB 65 h (fun h=>?_) fun h=>?_
 obtain⟨o9,h17,h⟩:=bS h
 refine gl (BK rd self hs us h17) ?_
 replace h:=AJ h
 rcases h with⟨o10,rfl,h⟩|⟨o11,rfl,h⟩
 refine iB 75 h (fun h=>?_) fun h=>?_
 obtain⟨h19,h⟩:=cS h
 refine gQ h19.1<|gQ (AI dW h19.2) ?_
 obtain⟨x12,h20,h⟩:=xS h
 refine gG 80 (.el (dW x12)) (AK dW h20) ?_
 obtain⟨h21,h⟩:=cS h
 refine gQ h21.1<|gQ (AI dW h21.2) ?_
 obtain⟨x13,h22,h⟩:=xS h
 refine gG 84 (.el (dW x13)) (AK dW h22) ?_
 obtain⟨r14,h23,h⟩:=bS h
 refine gC 85 (AX h23) ?_
 refine iB 87 h (fun h=>?_) fun h=>?_
 obtain⟨r15,h25,h⟩:=bS h
 refine gG 92 (.cx false [(0,0)] [] (dI r15.1) [rW 0 32 1 dW r15.2]) (Ax h25) ?_
 exact lp h
 obtain⟨r16,h26,h⟩:=bS h
 refine gG 99 (.cx false [(0,0)] [] (.tup [dI r16.1,.d (D.b r16.2.1)]) [rW 0 32 1 dW r16.2.2]) (Ab h26)<|gQ (of_decide_eq_true rfl:(8:Int)≠0) ?_
 obtain⟨o19,h30,h⟩:=bS h
 refine gl (Af rd self hs us h30) ?_
 exact lp h
 obtain⟨r20,h31,h⟩:=bS h
 refine gG 99 (.cx false [(0,0)] [] (.tup [dI r20.1,.d (D.b r20.2.1)]) [rW 0 32 1 dW r20.2.2]) (Ab h31)<|gQ (of_decide_eq_true rfl:(8:Int)≠0) ?_
 obtain⟨o21,h32,h⟩:=bS h
 refine gl (Af rd self hs us h32) ?_
 exact lp h
 exact lp h
 obtain⟨o22,h33,h⟩:=bS h
 refine gl (BK rd self hs us h33) ?_
 replace h:=AJ h
 rcases h with⟨o23,rfl,h⟩|⟨o24,rfl,h⟩
 refine iB 75 h (fun h=>?_) fun h=>?_
 obtain⟨h35,h⟩:=cS h
 refine gQ h35.1<|gQ (AI dW h35.2) ?_
 obtain⟨x25,h36,h⟩:=xS h
 refine gG 80 (.el (dW x25)) (AK dW h36) ?_
 obtain⟨h37,h⟩:=cS h
 refine gQ h37.1<|gQ (AI dW h37.2) ?_
 obtain⟨x26,h38,h⟩:=xS h
 refine gG 84 (.el (dW x26)) (AK dW h38) ?_
 obtain⟨r27,h39,h⟩:=bS h
 refine gC 85 (AX h39) ?_
 refine iB 87 h (fun h=>?_) fun h=>?_
 obtain⟨r28,h41,h⟩:=bS h
 refine gG 92 (.cx false [(0,0)] [] (dI r28.1) [rW 0 32 1 dW r28.2]) (Ax h41) ?_
 exact lp h
 obtain⟨r29,h42,h⟩:=bS h
 refine gG 99 (.cx false [(0,0)] [] (.tup [dI r29.1,.d (D.b r29.2.1)]) [rW 0 32 1 dW r29.2.2]) (Ab h42)<|gQ (of_decide_eq_true rfl:(8:Int)≠0) ?_
 obtain⟨o30,h43,h⟩:=bS h
 refine gl (Af rd self hs us h43) ?_
 exact lp h
 obtain⟨r31,h44,h⟩:=bS h
 refine gG 99 (.cx false [(0,0)] [] (.tup [dI r31.1,.d (D.b r31.2.1)]) [rW 0 32 1 dW r31.2.2]) (Ab h44)<|gQ (of_decide_eq_true rfl:(8:Int)≠0) ?_
 obtain⟨o32,h45,h⟩:=bS h
 refine gl (Af rd self hs us h45) ?_
 exact lp h
 exact lp h
 obtain⟨o33,h46,h⟩:=bS h
 refine gl (BK rd self hs us h46) ?_
 replace h:=AJ h
 rcases h with⟨o34,rfl,h⟩|⟨o35,rfl,h⟩
 refine iB 75 h (fun h=>?_) fun h=>?_
 obtain⟨h48,h⟩:=cS h
 refine gQ h48.1<|gQ (AI dW h48.2) ?_
 obtain⟨x36,h49,h⟩:=xS h
 refine gG 80 (.el (dW x36)) (AK dW h49) ?_
 obtain⟨h50,h⟩:=cS h
 refine gQ h50.1<|gQ (AI dW h50.2) ?_
 obtain⟨x37,h51,h⟩:=xS h
 refine gG 84 (.el (dW x37)) (AK dW h51) ?_
 obtain⟨r38,h52,h⟩:=bS h
 refine gC 85 (AX h52) ?_
 refine iB 87 h (fun h=>?_) fun h=>?_
 obtain⟨r39,h54,h⟩:=bS h
 refine gG 92 (.cx false [(0,0)] [] (dI r39.1) [rW 0 32 1 dW r39.2]) (Ax h54) ?_
 exact lp h
 obtain⟨r40,h55,h⟩:=bS h
 refine gG 99 (.cx false [(0,0)] [] (.tup [dI r40.1,.d (D.b r40.2.1)]) [rW 0 32 1 dW r40.2.2]) (Ab h55)<|gQ (of_decide_eq_true rfl:(8:Int)≠0) ?_
 obtain⟨o41,h56,h⟩:=bS h
 refine gl (Af rd self hs us h56) ?_
 exact lp h
 obtain⟨r42,h57,h⟩:=bS h
 refine gG 99 (.cx false [(0,0)] [] (.tup [dI r42.1,.d (D.b r42.2.1)]) [rW 0 32 1 dW r42.2.2]) (Ab h57)<|gQ (of_decide_eq_true rfl:(8:Int)≠0) ?_
 obtain⟨o43,h58,h⟩:=bS h
 refine gl (Af rd self hs us h58) ?_
 exact lp h
 exact lp h
def CQ(us:List Value)(s1 s2 s3:Int)(s8 s9:Bool)(w0:List Int):St:=⟨sp 134 0 [rx 0,sI 1 s1,sI 2 s2,sI 3 s3,sD 8 D.b s8,sD 9 D.b s9],[rW 0 32 1 dW w0,(997,.vals [.row 0] us)],[]⟩
def CS(us:List Value)(o:(List Int)):Ex×St:=(.ret,⟨sp 134 0 [],[rW 0 32 1 dW o,(997,.vals [.row 0] us)],[]⟩)
theorem Dj(rd:Option Nat)(self:Int->Int->Int->(List Int)->Option (List Int))(hs:∀(a1 a2 a3:Int) (w0 r:List Int),self a1 a2 a3 w0=some r->AM Tryz.prog 72 [.row 0,dI a1,dI a2,dI a3] [rW 0 32 1 dW w0] (.tup []) [rW 0 32 1 dW r])(us:List Value){s1 s2 s3:Int}{s8 s9:Bool}{w0:List Int}{t:(List Int)}(h:R7 self s1 s2 s3 s8 s9 w0=some t):Lq 72 rd 14 (CQ us s1 s2 s3 s8 s9 w0) ((CS us) t):=
 lL (fun s:Int×Int×Int×Bool×Bool×List Int=>CQ us s.1 s.2.1 s.2.2.1 s.2.2.2.1 s.2.2.2.2.1 s.2.2.2.2.2) (CS us) (s1,s2,s3,s8,s9,w0) (fun⟨s1,s2,s3,s8,s9,w0⟩ o h=>by
 unfold IY at h
 obtain⟨o44,h59,h⟩:=bS h
 refine gl (Dg rd self hs us h59) ?_
 replace h:=AJ h
 rcases h with⟨o45,rfl,h⟩|⟨o46,rfl,h⟩
 exact lb h
 exact lb h) h
theorem Dq(self:Int->Int->Int->(List Int)->Option (List Int))(hs:∀(a1 a2 a3:Int) (w0 r:List Int),self a1 a2 a3 w0=some r->AM Tryz.prog 72 [.row 0,dI a1,dI a2,dI a3] [rW 0 32 1 dW w0] (.tup []) [rW 0 32 1 dW r])(a1 a2 a3:Int)(w0 r:List Int)(h:aSd self a1 a2 a3 w0=some r):AM Tryz.prog 72 [.row 0,dI a1,dI a2,dI a3] [rW 0 32 1 dW w0] (.tup []) [rW 0 32 1 dW r]:=by unfold aSd at h;refine XG.call (ks:=[0]) mixed fun us=>?_;apply g0 (o:=r);obtain⟨o47,h60,h⟩:=bS h;refine gl (Dj none self hs us h60) ?_;exact lX h (lv [] [0,997])
theorem CT:∀(n:Nat) (a1 a2 a3:Int) (w0 r:List Int),aQj n a1 a2 a3 w0=some r->AM Tryz.prog 72 [.row 0,dI a1,dI a2,dI a3] [rW 0 32 1 dW w0] (.tup []) [rW 0 32 1 dW r]
 |0,a1,a2,a3,w0,r,h=>by simp[aQj]at h
 |n+1,a1,a2,a3,w0,r,h=>Dq _ (CT n) a1 a2 a3 w0 r h
theorem D2(h:Xd cJ cK cN cM=some cT):AM Tryz.prog 72 [.row 0,dI cJ,dI cK,dI cN] [rW 0 32 1 dW cM] (.tup []) [rW 0 32 1 dW cT]:=CT 100000 cJ cK cN cM cT h
theorem EF(h:Qs cM=some cT):AM Tryz.prog 41 [.row 0] [rW 0 32 1 dW cM] (.tup []) [rW 0 32 1 dW cT]:=by unfold Qs at h;refine XG.call (ks:=[0]) mixed fun us=>?_;apply g0 (o:=cT);refine gN 4 dW cM ?_;obtain⟨r1,h1,h⟩:=bS h;refine gC 9 (aR3 h1) ?_;obtain⟨r2,h2,h⟩:=bS h;refine gG 10 (.cx false [(0,0)] [] (.tup []) [rW 0 32 1 dW r2]) (D2 h2) ?_;exact lX h (lv [] [0,997])
theorem aZ1(h:Qy cV cU cJ=some cM):AM Tryz.prog 11 [.d (AD.D cV),.d ((D.l X2.D) cU),.d (dW cJ)] [] (.d ((D.l dW) cM)) []:=by unfold Qy at h;apply g0 (o:=cM);obtain⟨r1,h1,h⟩:=bS h;refine gG 14 (.cx false [] [(0,14),(1,421),(2,428)] (.tup [.row 0,.row 1,.row 2]) [rW 0 32 1 dW r1.1,(1,.map r1.2.1.clk (MP.dl dW dW r1.2.1)),(2,.map r1.2.2.clk (MP.dl dW dU r1.2.2))]) (bBy h1) ?_;obtain⟨r2,h2,h⟩:=bS h;refine gG 19 (.cx false [(0,14)] [] (.tup []) [rW 0 32 1 dW r2]) (EF h2) ?_;exact lF h [.frz 14]
def aA7(s1:Int)(s8:List Xc)(s9 s10:Int):St:=⟨sp 26 0 [sD 1 dW s1,sD 8 (D.l Xc.D) s8,sI 9 s9,sI 10 s10],[],[]⟩
def aA8(s1:Int)(s8:List Xc)(s9:Int)(o:Unit⊕Unit):Ex×St:=match o with
 | .inl o=>(.exit 0,⟨sp 26 0 [],[],[]⟩)
 | .inr o=>(.ret,⟨sp 26 0 [sD 4 D.b true],[],[]⟩)
theorem aNo(rd:Option Nat)(h:aTv cJ d6 cK cN=some dY):Lq 52 rd 26 (aA7 cJ d6 cK cN) ((aA8 cJ d6 cK) dY):=
 lL (fun s:Int=>aA7 cJ d6 cK s) (aA8 cJ d6 cK) cN (fun cN o h=>by
 unfold JN at h
 refine iB 11 h (fun h=>?_) fun h=>?_
 refine xX 13 Xc.D h fun x1 h=>?_
 refine iB 17 h (fun h=>?_) fun h=>?_
 obtain⟨h4,h⟩:=cS h
 refine gQ h4 ?_
 refine iB 24 h (fun h=>?_) fun h=>?_
 exact lb h
 exact lb h
 exact lb h
 exact lb h) h
theorem aX8(h:Zb cV cJ=some d5):AM Tryz.prog 52 [.d (AD.D cV),.d (dW cJ)] [] (.d (D.b d5)) []:=by
 unfold Zb at h;apply g0 (o:=d5);refine gN 9 Xc.D cV.states ?_;obtain⟨o2,h6,h⟩:=bS h;refine gl (aNo none h6) ?_;replace h:=AJ h;rcases h with⟨o3,rfl,h⟩|⟨o4,rfl,h⟩
 exact lf h;exact lf h
theorem bAs(h:Up cJ cV=some d5):AM Tryz.prog 75 [.d (dW cJ),.eptr (D.cells (AD.D cV))] [] (.d (D.b d5)) []:=by unfold Up at h;apply g0 (o:=d5);obtain⟨r1,h1,h⟩:=bS h;refine gC 6 (aX8 h1) ?_;exact lf h
def Tm(s0:List Int)(s1:AD)(s7 s8:Int):St:=⟨sp 19 0 [sD 0 (D.l dW) s0,(1,.clo (.func 75) [] [.eptr (D.cells (AD.D s1))]),sI 7 s7,sI 8 s8],[],[]⟩
def Tn(s0:List Int)(s1:AD)(s7:Int)(o:Unit⊕Int):Ex×St:=match o with
 | .inl o=>(.exit 0,⟨sp 19 0 [],[],[]⟩)
 | .inr o=>(.ret,⟨sp 19 0 [sI 4 o],[],[]⟩)
theorem aF3(rd:Option Nat)(h:aRw cM cV cJ cK=some e9):Lq 108 rd 26 (Tm cM cV cJ cK) ((Tn cM cV cJ) e9):=
 lL (fun s:Int=>Tm cM cV cJ s) (Tn cM cV cJ) cK (fun cK o h=>by
 unfold IE at h
 refine iB 9 h (fun h=>?_) fun h=>?_
 refine xX 14 dW h fun x1 h=>?_
 obtain⟨r2,h3,h⟩:=bS h
 refine gQ (bAs h3) ?_
 cases r2
 replace h:=Bj h
 refine gW 16 (.ret (.d (D.b false))) ?_
 exact lb h
 replace h:=Bl h
 refine gW 16 (.ret (.d (D.b true))) ?_
 exact lb h
 exact lb h) h
theorem aZq(h:Q0 cM cV=some cJ):AM Tryz.prog 108 [.d ((D.l dW) cM),.clo (.func 75) [] [.eptr (D.cells (AD.D cV))]] [] (dI cJ) []:=by
 unfold Q0 at h;apply g0 (o:=cJ);refine gN 7 dW cM ?_;obtain⟨o3,h5,h⟩:=bS h;refine gl (aF3 none h5) ?_;replace h:=AJ h;rcases h with⟨o4,rfl,h⟩|⟨o5,rfl,h⟩
 exact lf h;exact lf h
theorem bAg(h:Ud cM cV=some d5):AM Tryz.prog 76 [.d ((D.l dW) cM),.clo (.func 75) [] [.eptr (D.cells (AD.D cV))]] [] (.d (D.b d5)) []:=by unfold Ud at h;apply g0 (o:=d5);obtain⟨r1,h1,h⟩:=bS h;refine gC 7 (aZq h1) ?_;exact lf h
theorem bAt(h:Uq cJ cV=some d5):AM Tryz.prog 74 [.d (dW cJ),.eptr (D.cells (AD.D cV))] [] (.d (D.b d5)) []:=by unfold Uq at h;apply g0 (o:=d5);obtain⟨r1,h1,h⟩:=bS h;refine gC 6 (aX8 h1) ?_;exact lf h
def To(s0:List Int)(s1:AD)(s7 s8:Int):St:=⟨sp 19 0 [sD 0 (D.l dW) s0,(1,.clo (.func 74) [] [.eptr (D.cells (AD.D s1))]),sI 7 s7,sI 8 s8],[],[]⟩
def Tp(s0:List Int)(s1:AD)(s7:Int)(o:Unit⊕Int):Ex×St:=match o with
 | .inl o=>(.exit 0,⟨sp 19 0 [],[],[]⟩)
 | .inr o=>(.ret,⟨sp 19 0 [sI 4 o],[],[]⟩)
theorem aF4(rd:Option Nat)(h:aRx cM cV cJ cK=some e9):Lq 108 rd 26 (To cM cV cJ cK) ((Tp cM cV cJ) e9):=
 lL (fun s:Int=>To cM cV cJ s) (Tp cM cV cJ) cK (fun cK o h=>by
 unfold IF at h
 refine iB 9 h (fun h=>?_) fun h=>?_
 refine xX 14 dW h fun x1 h=>?_
 obtain⟨r2,h3,h⟩:=bS h
 refine gQ (bAt h3) ?_
 cases r2
 replace h:=Bj h
 refine gW 16 (.ret (.d (D.b false))) ?_
 exact lb h
 replace h:=Bl h
 refine gW 16 (.ret (.d (D.b true))) ?_
 exact lb h
 exact lb h) h
theorem aZr(h:Q3 cM cV=some cJ):AM Tryz.prog 108 [.d ((D.l dW) cM),.clo (.func 74) [] [.eptr (D.cells (AD.D cV))]] [] (dI cJ) []:=by
 unfold Q3 at h;apply g0 (o:=cJ);refine gN 7 dW cM ?_;obtain⟨o3,h5,h⟩:=bS h;refine gl (aF4 none h5) ?_;replace h:=AJ h;rcases h with⟨o4,rfl,h⟩|⟨o5,rfl,h⟩
 exact lf h;exact lf h
theorem bAh(h:Ue cM cV=some d5):AM Tryz.prog 76 [.d ((D.l dW) cM),.clo (.func 74) [] [.eptr (D.cells (AD.D cV))]] [] (.d (D.b d5)) []:=by unfold Ue at h;apply g0 (o:=d5);obtain⟨r1,h1,h⟩:=bS h;refine gC 7 (aZr h1) ?_;exact lf h
theorem bAi(h:Uf cV cM=some cJ):AM Tryz.prog 42 [.d (AD.D cV),.d ((D.l dW) cM)] [] (dI cJ) []:=by unfold Uf at h;apply g0 (o:=cJ);refine gW 2 .frz ?_;obtain⟨r1,h1,h⟩:=bS h;refine gC 12 (bAg h1) ?_;refine iB 9 h (fun h=>?_) fun h=>?_;exact lf h;obtain⟨r2,h3,h⟩:=bS h;refine gC 17 (bAh h3) ?_;refine iB 14 h (fun h=>?_) fun h=>?_;exact lf h;exact lf h
theorem aWu(h:Qf cV cU cJ=some cK):AM Tryz.prog 12 [.d (AD.D cV),.d ((D.l X2.D) cU),.d (dW cJ)] [] (dI cK) []:=by unfold Qf at h;apply g0 (o:=cK);obtain⟨r1,h1,h⟩:=bS h;refine gC 11 (aZ1 h1) ?_;obtain⟨r2,h2,h⟩:=bS h;refine gC 12 (bAi h2) ?_;exact lf h
theorem Eu(h:Y9=some d5):AM Tryz.prog 9 [] [] (.d (D.b d5)) []:=by unfold Y9 at h;apply g0 (o:=d5);refine gQ (Ag Xc.D ([Xc.mk ([115]:List UInt8) false true,Xc.mk ([116]:List UInt8) true false])) ?_;obtain⟨r1,h1,h⟩:=bS h;refine gC 7 (aRz h1) ?_;refine iB 9 h (fun h=>?_) fun h=>?_;obtain⟨r2,h3,h⟩:=bS h;refine gC 11 (aRz h3) ?_;refine iB 14 h (fun h=>?_) fun h=>?_;obtain⟨r3,h5,h⟩:=bS h;refine gC 16 (aXq h5) ?_;refine iB 19 h (fun h=>?_) fun h=>?_;obtain⟨r4,h7,h⟩:=bS h;refine gC 21 (aWu h7) ?_;exact lf h;exact lf h;exact lf h;exact lf h
def aAb(w1:AD)(s3:Int):St:=⟨sp 40 0 [bx 1,sI 3 s3],[cL 1 AD.D w1],[]⟩
def aAc(w1:AD)(o:Unit⊕Unit):Ex×St:=match o with
 | .inl o=>(.exit 0,⟨sp 40 0 [],[],[]⟩)
 | .inr o=>(.ret,⟨sp 40 0 [sD 2 D.b false],[],[]⟩)
theorem aM2(rd:Option Nat)(h:aAa cV cJ=some dY):Lq 26 rd 58 (aAb cV cJ) ((aAc cV) dY):=
 lL (fun s:Int=>aAb cV s) (aAc cV) cJ (fun cJ o h=>by
 unfold FH at h
 refine gN 29 X6.D cV.trans ?_
 refine iB 30 h (fun h=>?_) fun h=>?_
 refine xX 36 X6.D h fun x1 h=>?_
 refine iB 39 h (fun h=>?_) fun h=>?_
 exact lb h
 exact lb h
 exact lb h) h
theorem bCh(h:Yv cV=some d5):AM Tryz.prog 26 [.d (AD.D cV)] [] (.d (D.b d5)) []:=by
 unfold Yv at h;apply g0 (o:=d5);refine gN 6 Yh.D cV.frees ?_;refine iB 8 h (fun h=>?_) fun h=>?_;exact lf h;refine gN 11 Yg.D cV.quants ?_;refine iB 14 h (fun h=>?_) fun h=>?_;exact lf h;refine gN 17 Xc.D cV.states ?_;refine iB 20 h (fun h=>?_) fun h=>?_;exact lf h;refine gN 23 X5.D cV.symbols ?_;refine iB 25 h (fun h=>?_) fun h=>?_;exact lf h;obtain⟨o2,h8,h⟩:=bS h;refine gl (aM2 none h8) ?_;replace h:=AJ h;rcases h with⟨o3,rfl,h⟩|⟨o4,rfl,h⟩
 exact lf h;exact lf h
def aB5(s0:List X2)(s3:Int):St:=⟨sp 51 0 [sD 0 (D.l X2.D) s0,sI 3 s3],[],[]⟩
def aB6(s0:List X2)(o:Unit⊕Unit):Ex×St:=match o with
 | .inl o=>(.exit 0,⟨sp 51 0 [],[],[]⟩)
 | .inr o=>(.ret,⟨sp 51 0 [sD 2 D.b false],[],[]⟩)
theorem aN8(rd:Option Nat)(h:aT8 cU cJ=some dY):Lq 59 rd 26 (aB5 cU cJ) ((aB6 cU) dY):=
 lL (fun s:Int=>aB5 cU s) (aB6 cU) cJ (fun cJ o h=>by
 unfold Ja at h
 refine gN 6 X2.D cU ?_
 refine iB 7 h (fun h=>?_) fun h=>?_
 refine xX 12 X2.D h fun x1 h=>?_
 refine iB 16 h (fun h=>?_) fun h=>?_
 exact lb h
 refine xX 19 X2.D h fun x2 h=>?_
 refine iB 24 h (fun h=>?_) fun h=>?_
 exact lb h
 refine xX 27 X2.D h fun x3 h=>?_
 obtain⟨r4,h7,h⟩:=bS h
 refine gC 30 (SU h7) ?_
 refine iB 33 h (fun h=>?_) fun h=>?_
 exact lb h
 refine iB 36 h (fun h=>?_) fun h=>?_
 refine xX 39 X2.D h fun x5 h=>?_
 refine xX 45 X2.D h fun x6 h=>?_
 refine iB 50 h (fun h=>?_) fun h=>?_
 exact lb h
 exact lb h
 exact lb h
 exact lb h) h
theorem bDb(h:Zs cU=some d5):AM Tryz.prog 59 [.d ((D.l X2.D) cU)] [] (.d (D.b d5)) []:=by
 unfold Zs at h;apply g0 (o:=d5);obtain⟨o7,h13,h⟩:=bS h;refine gl (aN8 none h13) ?_;replace h:=AJ h;rcases h with⟨o8,rfl,h⟩|⟨o9,rfl,h⟩
 exact lf h;exact lf h
theorem aZ3(h:Qz cV cU=some d5):AM Tryz.prog 27 [.d (AD.D cV),.d ((D.l X2.D) cU)] [] (.d (D.b d5)) []:=by unfold Qz at h;apply g0 (o:=d5);refine gN 6 X2.D cU ?_;refine iB 7 h (fun h=>?_) fun h=>?_;exact lf h;refine gN 9 X2.D cU ?_;refine iB 11 h (fun h=>?_) fun h=>?_;refine gN 14 Yg.D cV.quants ?_;refine iB 17 h (fun h=>?_) fun h=>?_;refine xX 19 X2.D h fun x1 h=>?_;refine iB 24 h (fun h=>?_) fun h=>?_;refine xX 26 X2.D h fun x2 h=>?_;refine xX 32 Yg.D h fun x3 h=>?_;refine iB 37 h (fun h=>?_) fun h=>?_;obtain⟨r4,h9,h⟩:=bS h;refine gC 39 (bDb h9) ?_;exact lf h;exact lf h;exact lf h;exact lf h;exact lf h
def aB7(s1:List X0)(w2:AD)(s5:Int):St:=⟨sp 39 0 [sD 1 (D.l X0.D) s1,bx 2,sI 5 s5],[cL 2 AD.D w2],[]⟩
def aB8(s1:List X0)(w2:AD)(o:Unit⊕Unit):Ex×St:=match o with
 | .inl o=>(.exit 0,⟨sp 39 0 [],[],[]⟩)
 | .inr o=>(.ret,⟨sp 39 0 [sD 4 D.b false],[],[]⟩)
theorem aN9(rd:Option Nat)(h:aT9 eA cV cJ=some dY):Lq 60 rd 58 (aB7 eA cV cJ) ((aB8 eA cV) dY):=
 lL (fun s:Int=>aB7 eA cV s) (aB8 eA cV) cJ (fun cJ o h=>by
 unfold Jb at h
 refine gN 14 X0.D eA ?_
 refine iB 15 h (fun h=>?_) fun h=>?_
 refine xX 20 X0.D h fun x1 h=>?_
 obtain⟨r2,h4,h⟩:=bS h
 refine gC 22 (SU h4) ?_
 refine iB 24 h (fun h=>?_) fun h=>?_
 exact lb h
 refine xX 27 X0.D h fun x3 h=>?_
 refine xX 33 Yh.D h fun x4 h=>?_
 refine iB 38 h (fun h=>?_) fun h=>?_
 exact lb h
 exact lb h
 exact lb h) h
theorem bDc(h:Zt cV eA=some d5):AM Tryz.prog 60 [.d (AD.D cV),.d ((D.l X0.D) eA)] [] (.d (D.b d5)) []:=by
 unfold Zt at h;apply g0 (o:=d5);refine gN 7 X0.D eA<|gN 10 Yh.D cV.frees ?_;refine iB 11 h (fun h=>?_) fun h=>?_;exact lf h;obtain⟨o5,h9,h⟩:=bS h;refine gl (aN9 none h9) ?_;replace h:=AJ h;rcases h with⟨o6,rfl,h⟩|⟨o7,rfl,h⟩
 exact lf h;exact lf h
theorem bAj(h:Ug cV eB=some d5):AM Tryz.prog 28 [.d (AD.D cV),.d (X3.D eB)] [] (.d (D.b d5)) []:=by unfold Ug at h;apply g0 (o:=d5);refine iB 8 h (fun h=>?_) fun h=>?_;refine gN 13 Xc.D cV.states ?_;refine iB 16 h (fun h=>?_) fun h=>?_;obtain⟨r1,h3,h⟩:=bS h;refine gC 20 (bDc h3) ?_;exact lf h;exact lf h;exact lf h
def aBn(s0:List Xf)(s5:Int)(w3:X4)(s6:Int):St:=⟨sp 56 0 [sD 0 (D.l Xf.D) s0,bx 3,sI 5 s5,sI 6 s6],[cL 3 X4.D w3],[]⟩
def aBo(s0:List Xf)(s5:Int)(w3:X4)(o:Unit⊕Unit):Ex×St:=match o with
 | .inl o=>(.exit 0,⟨sp 56 0 [],[],[]⟩)
 | .inr o=>(.ret,⟨sp 56 0 [sD 4 D.b false],[],[]⟩)
theorem aNy(rd:Option Nat)(h:aT0 eC cJ eE cK=some dY):Lq 29 rd 122 (aBn eC cJ eE cK) ((aBo eC cJ eE) dY):=
 lL (fun s:Int=>aBn eC cJ eE s) (aBo eC cJ eE) cK (fun cK o h=>by
 unfold Ll at h
 refine gN 28 X0.D eE.args ?_
 refine iB 29 h (fun h=>?_) fun h=>?_
 refine xX 35 X0.D h fun x3 h=>?_
 refine xX 40 Xf.D h fun x4 h=>?_
 refine xX 44 dZ h fun x5 h=>?_
 refine iB 47 h (fun h=>?_) fun h=>?_
 exact lb h
 refine xX 51 X0.D h fun x6 h=>?_
 obtain⟨r7,h11,h⟩:=bS h
 refine gC 53 (SU h11) ?_
 refine iB 55 h (fun h=>?_) fun h=>?_
 exact lb h
 exact lb h
 exact lb h) h
theorem bC0(h:Zj eC eE=some d5):AM Tryz.prog 29 [.d ((D.l Xf.D) eC),.d (X4.D eE)] [] (.d (D.b d5)) []:=by
 unfold Zj at h;apply g0 (o:=d5);obtain⟨r1,h1,h⟩:=bS h;refine gC 10 (aX4 h1) ?_;refine iB 13 h (fun h=>?_) fun h=>?_;exact lf h;refine gW 22 (.int (eE.args.length:Int))<|xX 16 Xf.D h fun x2 h=>?_;refine gN 19 dZ x2.types<|gQ (EN X0.D eE.args) ?_;refine iB 24 h (fun h=>?_) fun h=>?_;exact lf h;obtain⟨o8,h13,h⟩:=bS h;refine gl (aNy none h13) ?_;replace h:=AJ h;rcases h with⟨o9,rfl,h⟩|⟨o10,rfl,h⟩
 exact lf h;exact lf h
def YS(w2 w3:X3)(s5:Int):St:=⟨sp 59 0 [bx 2,bx 3,sI 5 s5],[cL 2 X3.D w2,cL 3 X3.D w3],[]⟩
def YT(w2 w3:X3)(o:Unit⊕Bool):Ex×St:=match o with
 | .inl o=>(.exit 0,⟨sp 59 0 [bx 2,bx 3],[cL 2 X3.D w2,cL 3 X3.D w3],[]⟩)
 | .inr o=>(.ret,⟨sp 59 0 [sD 4 D.b o],[],[]⟩)
theorem aLw(rd:Option Nat)(h:YR eB eF cJ=some eG):Lq 81 rd 58 (YS eB eF cJ) ((YT eB eF) eG):=
 lL (fun s:Int=>YS eB eF s) (YT eB eF) cJ (fun cJ o h=>by
 unfold FD at h
 refine gN 19 X0.D eB.vals ?_
 refine iB 21 h (fun h=>?_) fun h=>?_
 refine gN 25 X0.D eF.vals ?_
 refine iB 27 h (fun h=>?_) fun h=>?_
 refine xX 33 X0.D h fun x1 h=>?_
 refine xX 38 X0.D h fun x2 h=>?_
 refine iB 40 h (fun h=>?_) fun h=>?_
 refine xX 44 X0.D h fun x3 h=>?_
 refine xX 49 X0.D h fun x4 h=>?_
 obtain⟨r5,h9,h⟩:=bS h
 refine gC 51 (aF6 h9) ?_
 exact lb h
 exact lb h
 exact lb h
 exact lb h) h
theorem aLx(h:Yd eB eF=some d5):AM Tryz.prog 81 [.d (X3.D eB),.d (X3.D eF)] [] (.d (D.b d5)) []:=by
 unfold Yd at h;apply g0 (o:=d5);refine iB 10 h (fun h=>?_) fun h=>?_;exact lf h;obtain⟨o6,h10,h⟩:=bS h;refine gl (aLw none h10) ?_;replace h:=AJ h;rcases h with⟨o7,rfl,h⟩|⟨o8,rfl,h⟩
 refine gN 54 X0.D eB.vals<|gN 57 X0.D eF.vals ?_;exact lf h;exact lf h
theorem aWs(h:Qc eB eF=some d5):AM Tryz.prog 82 [.d (X3.D eB),.d (X3.D eF)] [] (.d (D.b d5)) []:=by unfold Qc at h;apply g0 (o:=d5);obtain⟨r1,h1,h⟩:=bS h;refine gC 7 (aLx h1) ?_;refine iB 9 h (fun h=>?_) fun h=>?_;obtain⟨r2,h3,h⟩:=bS h;refine gC 12 (aLx h3) ?_;exact lf h;exact lf h
def YB(s0:List X3)(w3:X3)(s5:Int):St:=⟨sp 48 0 [sD 0 (D.l X3.D) s0,bx 3,sI 5 s5],[cL 3 X3.D w3],[]⟩
def YC(s0:List X3)(w3:X3)(o:Int):Ex×St:=(.exit 0,⟨sp 48 0 [sD 0 (D.l X3.D) s0,bx 3,sI 5 o],[cL 3 X3.D w3],[]⟩)
theorem aK5(rd:Option Nat)(h:Lf eH eB cJ=some cK):Lq 46 rd 28 (YB eH eB cJ) ((YC eH eB) cK):=
 lL (fun s:Int=>YB eH eB s) (YC eH eB) cJ (fun cJ o h=>by
 unfold Eb at h
 refine iB 11 h (fun h=>?_) fun h=>?_
 refine xX 16 X3.D h fun x1 h=>?_
 obtain⟨r2,h3,h⟩:=bS h
 refine gQ (aLx h3) ?_
 cases r2
 replace h:=Bj h
 refine gW 18 (.ret (.d (D.b false))) ?_
 exact lb h
 replace h:=Bl h
 refine gW 18 (.ret (.d (D.b true))) ?_
 exact lb h
 exact lb h) h
theorem aXt(h:Y6 eH eB=some eI):AM Tryz.prog 46 [.d ((D.l X3.D) eH),.d (X3.D eB)] [] (.d ((D.l X3.D) eI)) []:=by unfold Y6 at h;apply g0 (o:=eI);refine gN 8 X3.D eH ?_;obtain⟨o3,h5,h⟩:=bS h;refine gl (aK5 none h5) ?_;refine iB 24 h (fun h=>?_) fun h=>?_;refine xX 28 X3.D h fun x4 h=>?_;obtain⟨r5,h8,h⟩:=bS h;refine gQ (aWs h8) ?_;cases r5;replace h:=Bj h;refine gQ (Ag X3.D ([]:List X3))<|gW 31 (.ret (.d (D.b false)))<|gW 37 (.sl ((sub eH 0 o3).map X3.D))<|gW 38 (.sl ((([]:List X3)++(sub eH 0 o3)).map X3.D))<|gW 42 (.sl (((([]:List X3)++(sub eH 0 o3))++[eB]).map X3.D))<|gW 46 (.sl ((sub eH o3 (eH.length:Int)).map X3.D))<|gW 47 (.sl ((((([]:List X3)++(sub eH 0 o3))++[eB])++(sub eH o3 (eH.length:Int))).map X3.D)) ?_;obtain⟨h10,h⟩:=cS h;refine gQ (ED X3.D h10)<|gQ (Ag X3.D (sub eH 0 o3)) ?_;obtain⟨h11,h⟩:=cS h;refine gQ (Ak X3.D h11)<|gQ (Ai X3.D ([]:List X3) (sub eH 0 o3))<|gQ (Ag X3.D [eB])<|gQ (Ag X3.D [eB]) ?_;obtain⟨h12,h⟩:=cS h;refine gQ (Ak X3.D h12)<|gQ (Ai X3.D (([]:List X3)++(sub eH 0 o3)) [eB]) ?_;obtain⟨h13,h⟩:=cS h;refine gQ (EC X3.D h13)<|gQ (Ag X3.D (sub eH o3 (eH.length:Int))) ?_;obtain⟨h14,h⟩:=cS h;refine gQ (Ak X3.D h14)<|gQ (Ai X3.D ((([]:List X3)++(sub eH 0 o3))++[eB]) (sub eH o3 (eH.length:Int))) ?_;exact lf h;replace h:=Bl h;refine gW 31 (.ret (.d (D.b true))) ?_;exact lf h;refine gQ (Ag X3.D ([]:List X3))<|gW 37 (.sl ((sub eH 0 o3).map X3.D))<|gW 38 (.sl ((([]:List X3)++(sub eH 0 o3)).map X3.D))<|gW 42 (.sl (((([]:List X3)++(sub eH 0 o3))++[eB]).map X3.D))<|gW 46 (.sl ((sub eH o3 (eH.length:Int)).map X3.D))<|gW 47 (.sl ((((([]:List X3)++(sub eH 0 o3))++[eB])++(sub eH o3 (eH.length:Int))).map X3.D)) ?_;obtain⟨h15,h⟩:=cS h;refine gQ (ED X3.D h15)<|gQ (Ag X3.D (sub eH 0 o3)) ?_;obtain⟨h16,h⟩:=cS h;refine gQ (Ak X3.D h16)<|gQ (Ai X3.D ([]:List X3) (sub eH 0 o3))<|gQ (Ag X3.D [eB])<|gQ (Ag X3.D [eB]) ?_;obtain⟨h17,h⟩:=cS h;refine gQ (Ak X3.D h17)<|gQ (Ai X3.D (([]:List X3)++(sub eH 0 o3)) [eB]) ?_;obtain⟨h18,h⟩:=cS h;refine gQ (EC X3.D h18)<|gQ (Ag X3.D (sub eH o3 (eH.length:Int))) ?_;obtain⟨h19,h⟩:=cS h;refine gQ (Ak X3.D h19)<|gQ (Ai X3.D ((([]:List X3)++(sub eH 0 o3))++[eB]) (sub eH o3 (eH.length:Int))) ?_;exact lf h
def aA9(s0 s3:List X3)(s4:Int):St:=⟨sp 18 0 [sD 0 (D.l X3.D) s0,sD 3 (D.l X3.D) s3,sI 4 s4],[],[]⟩
def aBa(s0:List X3)(o:(List X3)):Ex×St:=(.exit 0,⟨sp 18 0 [sD 3 (D.l X3.D) o],[],[]⟩)
theorem aNp(rd:Option Nat)(h:aTw eH eI cJ=some eK):Lq 17 rd 58 (aA9 eH eI cJ) ((aBa eH) eK):=
 lL (fun s:List X3×Int=>aA9 eH s.1 s.2) (aBa eH) (eI,cJ) (fun⟨eI,cJ⟩ o h=>by
 unfold JO at h
 refine gN 7 X3.D eH ?_
 refine iB 8 h (fun h=>?_) fun h=>?_
 refine xX 14 X3.D h fun x3 h=>?_
 obtain⟨r4,h6,h⟩:=bS h
 refine gC 16 (aXt h6) ?_
 exact lb h
 exact lb h) h
theorem aX9(h:Zc eH=some eI):AM Tryz.prog 17 [.d ((D.l X3.D) eH)] [] (.d ((D.l X3.D) eI)) []:=by unfold Zc at h;apply g0 (o:=eI);obtain⟨o5,h7,h⟩:=bS h;refine gL [.look 3,.live [0,3,4],.keep []] (aNp none h7) ?_;exact lf h
theorem bAu(h:Ur dD=some d5):AM Tryz.prog 128 [.d (X6.D dD)] [] (.d (D.b d5)) []:=by unfold Ur at h;apply g0 (o:=d5);exact lf h
def aB9(s0:List X6)(s7 s8:Int):St:=⟨sp 19 0 [sD 0 (D.l X6.D) s0,(1,.clo (.func 128) [] []),sI 7 s7,sI 8 s8],[],[]⟩
def aCa(s0:List X6)(s7:Int)(o:Unit⊕Int):Ex×St:=match o with
 | .inl o=>(.exit 0,⟨sp 19 0 [],[],[]⟩)
 | .inr o=>(.ret,⟨sp 19 0 [sI 4 o],[],[]⟩)
theorem aOb(rd:Option Nat)(h:aOa d9 cJ cK=some e9):Lq 146 rd 26 (aB9 d9 cJ cK) ((aCa d9 cJ) e9):=
 lL (fun s:Int=>aB9 d9 cJ s) (aCa d9 cJ) cK (fun cK o h=>by
 unfold Jc at h
 refine iB 9 h (fun h=>?_) fun h=>?_
 refine xX 14 X6.D h fun x1 h=>?_
 obtain⟨r2,h3,h⟩:=bS h
 refine gQ (bAu h3) ?_
 cases r2
 replace h:=Bj h
 refine gW 16 (.ret (.d (D.b false))) ?_
 exact lb h
 replace h:=Bl h
 refine gW 16 (.ret (.d (D.b true))) ?_
 exact lb h
 exact lb h) h
theorem bDd(h:Zu d9=some cJ):AM Tryz.prog 146 [.d ((D.l X6.D) d9),.clo (.func 128) [] []] [] (dI cJ) []:=by
 unfold Zu at h;apply g0 (o:=cJ);refine gN 7 X6.D d9 ?_;obtain⟨o3,h5,h⟩:=bS h;refine gl (aOb none h5) ?_;replace h:=AJ h;rcases h with⟨o4,rfl,h⟩|⟨o5,rfl,h⟩
 exact lf h;exact lf h
theorem bAk(h:Uh d9=some d5):AM Tryz.prog 127 [.d ((D.l X6.D) d9),.clo (.func 128) [] []] [] (.d (D.b d5)) []:=by unfold Uh at h;apply g0 (o:=d5);obtain⟨r1,h1,h⟩:=bS h;refine gC 7 (bDd h1) ?_;exact lf h
theorem bAv(h:Us cV=some d5):AM Tryz.prog 88 [.d (AD.D cV)] [] (.d (D.b d5)) []:=by unfold Us at h;apply g0 (o:=d5);refine gN 5 Yh.D cV.frees ?_;refine iB 7 h (fun h=>?_) fun h=>?_;obtain⟨r1,h2,h⟩:=bS h;refine gC 10 (bAk h2) ?_;exact lf h;exact lf h
theorem bAl(h:Ui cV=some d5):AM Tryz.prog 63 [.d (AD.D cV)] [] (.d (D.b d5)) []:=by unfold Ui at h;apply g0 (o:=d5);obtain⟨r1,h1,h⟩:=bS h;refine gQ (bAv h1) ?_;cases r1;replace h:=Bj h;refine gW 4 (.ret (.d (D.b false))) ?_;exact lf h;replace h:=Bl h;refine gN 8 Yg.D cV.quants<|gW 4 (.ret (.d (D.b true))) ?_;refine iB 11 h (fun h=>?_) fun h=>?_;refine gN 14 Xc.D cV.states ?_;refine iB 17 h (fun h=>?_) fun h=>?_;refine gN 20 X5.D cV.symbols ?_;exact lf h;exact lf h;exact lf h
def aCb(s6:List X3)(s7 s3 s8:Int):St:=⟨sp 20 0 [sD 3 dW s3,sD 6 (D.l X3.D) s6,sI 7 s7,sI 8 s8],[],[]⟩
def aCc(s6:List X3)(s7 o:Int):Ex×St:=(.exit 0,⟨sp 20 0 [sD 3 dW o],[],[]⟩)
theorem aOc(rd:Option Nat)(h:aUa eH cJ cK cN=some cO):Lq 64 rd 58 (aCb eH cJ cK cN) ((aCc eH cJ) cO):=
 lL (fun s:Int×Int=>aCb eH cJ s.1 s.2) (aCc eH cJ) (cK,cN) (fun⟨cK,cN⟩ o h=>by
 unfold Jd at h
 refine iB 9 h (fun h=>?_) fun h=>?_
 refine xX 10 X3.D h fun x1 h=>?_
 obtain⟨h3,h⟩:=cS h
 refine gQ h3 ?_
 exact lb h
 exact lb h) h
theorem bDe(h:Zv eH=some cJ):AM Tryz.prog 64 [.d ((D.l X3.D) eH)] [] (.d (dW cJ)) []:=by unfold Zv at h;apply g0 (o:=cJ);refine gN 7 X3.D eH ?_;obtain⟨o2,h4,h⟩:=bS h;refine gl (aOc none h4) ?_;exact lf h
theorem aW1(h:Qn cV cU eH=some cJ):AM Tryz.prog 30 [.d (AD.D cV),.d ((D.l X2.D) cU),.d ((D.l X3.D) eH)] [] (dI cJ) []:=by unfold Qn at h;apply g0 (o:=cJ);obtain⟨r1,h1,h⟩:=bS h;refine gQ (bAl h1) ?_;cases r1;replace h:=Bj h;refine gW 8 (.ret (.d (D.b false))) ?_;obtain⟨r4,h5,h⟩:=bS h;refine gC 16 (aXq h5) ?_;exact lf h;replace h:=Bl h;refine gW 8 (.ret (.d (D.b true))) ?_;obtain⟨r2,h3,h⟩:=bS h;refine gC 12 (bDe h3) ?_;obtain⟨r3,h4,h⟩:=bS h;refine gC 13 (aWu h4) ?_;exact lf h
theorem aKy(rd:Option Nat)(h:aKx cJ cK d5 cV eL=some eM):Lq 45 rd 250441 ⟨sp 47 0 [bx 2,rx 5,sI 6 cJ,sI 7 cK,sD 37 D.b d5],[cL 2 AD.D cV,(5,.buf true 4 1 (eL.map D.b))],[]⟩ (.normal,⟨sp 47 0 [bx 2,rx 5,sI 6 cJ,sI 7 cK],[cL 2 AD.D cV,(5,.buf true 4 1 (eM.map D.b))],[]⟩):=by unfold aKx at h;apply g0 (o:=eM);cases d5;replace h:=Bj h;exact lp h;replace h:=Bl h;refine xX 42 X6.D h fun x3 h=>?_;refine gW 10045 (.sl ((eL.set x3.to.toNat true).map D.b)) ?_;obtain⟨h11,h⟩:=cS h;refine gQ h11.1<|gQ (AI D.b h11.2) ?_;obtain⟨h12,h⟩:=cS h;refine gQ (A0 D.b h12)<|gQ (AV D.b eL x3.to true) ?_;exact lp h
theorem aKw(rd:Option Nat)(h:aKv cJ cK cV eL=some eM):Lq 45 rd 62610 ⟨sp 47 0 [bx 2,rx 5,sI 6 cJ,sI 7 cK],[cL 2 AD.D cV,(5,.buf true 4 1 (eL.map D.b))],[]⟩ (.normal,⟨sp 47 0 [bx 2,rx 5,sI 6 cJ,sI 7 cK],[cL 2 AD.D cV,(5,.buf true 4 1 (eM.map D.b))],[]⟩):=by unfold aKv at h;apply g0 (o:=eM);refine xX 33 X6.D h fun x1 h=>?_;obtain⟨h7,h⟩:=cS h;refine gQ h7.1<|gQ (AI D.b h7.2) ?_;obtain⟨x2,h8,h⟩:=xS h;refine gG 37 (.el (D.b x2)) (AK D.b h8) ?_;obtain⟨o4,h13,h⟩:=bS h;refine gl (aKy rd h13) ?_;exact lp h
def XV(s6:Int)(w2:AD)(s7:Int)(w5:List Bool):St:=⟨sp 47 0 [bx 2,rx 5,sI 6 s6,sI 7 s7],[cL 2 AD.D w2,(5,.buf true 4 1 (w5.map D.b))],[]⟩
def XW(s6:Int)(w2:AD)(o:(List Bool)):Ex×St:=(.exit 2,⟨sp 47 0 [bx 2,rx 5,sI 6 s6],[cL 2 AD.D w2,(5,.buf true 4 1 (o.map D.b))],[]⟩)
theorem aK0(rd:Option Nat)(h:aS9 cJ cV cK eL=some eM):Lq 45 rd 7826 (XV cJ cV cK eL) ((XW cJ cV) eM):=
 lL (fun s:Int×List Bool=>XV cJ cV s.1 s.2) (XW cJ cV) (cK,eL) (fun⟨cK,eL⟩ o h=>by
 unfold I3 at h
 refine gN 25 X6.D cV.trans ?_
 refine iB 26 h (fun h=>?_) fun h=>?_
 obtain⟨o5,h14,h⟩:=bS h
 refine gl (aKw rd h14) ?_
 exact lb h
 exact lb h) h
def XT(w2:AD)(s6:Int)(w5:List Bool):St:=⟨sp 47 0 [bx 2,rx 5,sI 6 s6],[cL 2 AD.D w2,(5,.buf true 4 1 (w5.map D.b))],[]⟩
def XU(w2:AD)(o:(List Bool)):Ex×St:=(.exit 0,⟨sp 47 0 [rx 5],[(5,.buf true 4 1 (o.map D.b))],[]⟩)
theorem aKz(rd:Option Nat)(h:aS8 cV cJ eL=some eM):Lq 45 rd 122 (XT cV cJ eL) ((XU cV) eM):=
 lL (fun s:Int×List Bool=>XT cV s.1 s.2) (XU cV) (cJ,eL) (fun⟨cJ,eL⟩ o h=>by
 unfold I2 at h
 refine gN 18 Xc.D cV.states ?_
 refine iB 19 h (fun h=>?_) fun h=>?_
 obtain⟨o6,h15,h⟩:=bS h
 refine gl (aK0 rd h15) ?_
 exact lb h
 exact lb h) h
theorem bBz(h:Y4 cV cJ=some eL):AM Tryz.prog 45 [.d (AD.D cV),dI cJ] [] (.d ((D.l D.b) eL)) []:=by unfold Y4 at h;apply g0 (o:=eL);refine gN 10 Xc.D cV.states<|gW 11 (.sl ((List.replicate (cV.states.length:Int).toNat false).map D.b))<|gW 10014 (.sl (((List.replicate (cV.states.length:Int).toNat false).set cJ.toNat true).map D.b)) ?_;obtain⟨h1,h⟩:=cS h;refine gQ h1.1<|gQ (Int.le_refl (cV.states.length:Int))<|gQ (Int.le_refl (cV.states.length:Int))<|gQ (aQ5 D.b false h1.2)<|gQ (aQ4 D.b (cV.states.length:Int) false) ?_;obtain⟨h2,h⟩:=cS h;refine gQ h2.1<|gQ (AI D.b h2.2) ?_;obtain⟨h3,h⟩:=cS h;refine gQ (A0 D.b h3)<|gQ (AV D.b (List.replicate (cV.states.length:Int).toNat false) cJ true) ?_;obtain⟨o7,h16,h⟩:=bS h;refine gL [.live [2,5,6],.keep [2,11],.ren 11 5,.sort] (aKz none h16) ?_;exact lF h [.frz 5]
theorem P8(rd:Option Nat)(h:W2 eL d5 eN cJ eO cV=some eQ):Lq 15 rd 16017 ⟨sp 53 0 [bx 2,sD 5 (D.l D.b) eL,sD 6 D.b d5,sD 7 D.b eN,sI 8 cJ,sD 29 D.b eO],[cL 2 AD.D cV],[]⟩ (.normal,⟨sp 53 0 [bx 2,sD 5 (D.l D.b) eL,sD 6 D.b d5,sD 7 D.b eQ,sI 8 cJ],[cL 2 AD.D cV],[]⟩):=by unfold W2 at h;apply g0 (o:=eQ);cases eO;replace h:=Bj h;exact lp h;replace h:=Bl h;exact lp h
theorem FZ(rd:Option Nat)(h:Le eL d5 eN cJ eO cV=some eQ):Lq 15 rd 16019 ⟨sp 53 0 [bx 2,sD 5 (D.l D.b) eL,sD 6 D.b d5,sD 7 D.b eN,sI 8 cJ,sD 50 D.b eO],[cL 2 AD.D cV],[]⟩ (.normal,⟨sp 53 0 [bx 2,sD 5 (D.l D.b) eL,sD 6 D.b eQ,sD 7 D.b eN,sI 8 cJ],[cL 2 AD.D cV],[]⟩):=by unfold Le at h;apply g0 (o:=eQ);cases eO;replace h:=Bj h;exact lp h;replace h:=Bl h;exact lp h
def aSz(s5:List Bool)(s6 s7:Bool)(s8:Int)(w2:AD):St:=⟨sp 53 0 [bx 2,sD 5 (D.l D.b) s5,sD 6 D.b s6,sD 7 D.b s7,sI 8 s8],[cL 2 AD.D w2],[]⟩
def aS0(s5:List Bool)(s6 s7:Bool)(s8:Int)(w2:AD)(o:(Bool×Bool)):Ex×St:=(.normal,⟨sp 53 0 [bx 2,sD 5 (D.l D.b) s5,sD 6 D.b o.1,sD 7 D.b o.2,sI 8 s8],[cL 2 AD.D w2],[]⟩)
end Go.Ac
