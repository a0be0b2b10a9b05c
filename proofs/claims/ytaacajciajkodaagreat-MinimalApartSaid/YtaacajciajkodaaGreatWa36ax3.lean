/- Own work, printed: the functions compute these. -/
import Derived.Test.YtaacajciajkodaaGreatWa36ax2
set_option linter.unusedVariables false
set_option linter.unusedSimpArgs false
namespace Go.Ac
open Go.Proofs
variable {f8 fB fV gJ gK gM gP:Int}
variable {f9:AD}
variable {fA fD fF:List X0}
variable {fC:(List X0)}
variable {fE fS:Bool}
variable {fG fH fI:X0}
variable {fJ fN fQ:List X2}
variable {fK:List Xd}
variable {fL:Unit⊕X0}
variable {fM:X0×Bool}
variable {fO:Unit⊕Unit}
variable {fR:(List X2)}
variable {fT:X2}
variable {fU:Xd}
variable {fW:X5}
variable {fX:Ap}
variable {fY:Bz}
variable {fZ:(List X2)⊕Unit}
variable {g8:(List X2×List X2)⊕Unit}
variable {g9:Ap×Bool}
variable {gA gD:List Ap}
variable {gB:(List Ap)}
variable {gE gH:List Int}
variable {gI:(List Int)}
variable {gO:Xr}
variable {gR:List Xk}
variable {gS:Xk}
variable {gU:(List Xk)}
variable {gV:(Int×Int)⊕Unit}
theorem aHc(rd:Option Nat)(h:aO2 f8 f9 fA fB=some fC):Lq 66 rd 122 (Vi f8 f9 fA fB) ((Vj f8 f9) fC):=
 lL (fun s:List X0×Int=>Vi f8 f9 s.1 s.2) (Vj f8 f9) (fA,fB) (fun⟨fA,fB⟩ o h=>by
 unfold IX at h
 refine gN 17 X5.D f9.symbols ?_
 refine iB 18 h (fun h=>?_) fun h=>?_
 obtain⟨o19,h29,h⟩:=bS h
 refine gl (aHe rd h29) ?_
 exact lb h
 exact lb h) h
theorem aWk(h:Xv f9 f8=some fA):AM Tryz.prog 66 [.d (AD.D f9),dI f8] [] (.d ((D.l X0.D) fA)) []:=by unfold Xv at h;apply g0 (o:=fA);obtain⟨o1,h2,h⟩:=bS h;refine gl (aG9 none h2) ?_;obtain⟨o20,h30,h⟩:=bS h;refine gL [.look 5,.live [1,2,5,6],.keep [2]] (aHc none h30) ?_;exact lf h
theorem aJ2(rd:Option Nat)(h:aPk fA f8 fD fB fE=some fC):Lq 70 rd 1865 ⟨sp 27 0 [sD 0 (D.l X0.D) fA,sI 1 f8,sD 5 (D.l X0.D) fD,sI 6 fB,sD 19 D.b fE],[],[]⟩ (.normal,⟨sp 27 0 [sD 0 (D.l X0.D) fA,sI 1 f8,sD 5 (D.l X0.D) fC,sI 6 fB],[],[]⟩):=by unfold aPk at h;apply g0 (o:=fC);cases fE;replace h:=CJ h;exact lp h;replace h:=CK h;refine xX 23 X0.D h fun x7 h=>?_;obtain⟨r8,h12,h⟩:=bS h;refine gC 25 (SQ h12) ?_;exact lp h
theorem aJ1(rd:Option Nat)(h:aPj fA f8 fD fB=some fC):Lq 70 rd 466 ⟨sp 27 0 [sD 0 (D.l X0.D) fA,sI 1 f8,sD 5 (D.l X0.D) fD,sI 6 fB],[],[]⟩ (.normal,⟨sp 27 0 [sD 0 (D.l X0.D) fA,sI 1 f8,sD 5 (D.l X0.D) fC,sI 6 fB],[],[]⟩):=by unfold aPj at h;apply g0 (o:=fC);refine xX 15 X0.D h fun x6 h=>?_;obtain⟨o9,h13,h⟩:=bS h;refine gl (aJ2 rd h13) ?_;exact lp h
def XA(s0:List X0)(s1:Int)(s5:List X0)(s6:Int):St:=⟨sp 27 0 [sD 0 (D.l X0.D) s0,sI 1 s1,sD 5 (D.l X0.D) s5,sI 6 s6],[],[]⟩
def XB(s0:List X0)(s1:Int)(o:(List X0)):Ex×St:=(.exit 0,⟨sp 27 0 [sD 5 (D.l X0.D) o],[],[]⟩)
theorem aJ5(rd:Option Nat)(h:aJ3 fA f8 fD fB=some fC):Lq 70 rd 58 (XA fA f8 fD fB) ((XB fA f8) fC):=
 lL (fun s:List X0×Int=>XA fA f8 s.1 s.2) (XB fA f8) (fD,fB) (fun⟨fD,fB⟩ o h=>by
 unfold K1 at h
 refine gN 9 X0.D fA ?_
 refine iB 10 h (fun h=>?_) fun h=>?_
 obtain⟨o10,h14,h⟩:=bS h
 refine gl (aJ1 rd h14) ?_
 exact lb h
 exact lb h) h
theorem aXr(h:Yp fA f8=some fD):AM Tryz.prog 70 [.d ((D.l X0.D) fA),dI f8] [] (.d ((D.l X0.D) fD)) []:=by unfold Yp at h;apply g0 (o:=fD);obtain⟨o11,h15,h⟩:=bS h;refine gL [.look 5,.live [0,1,5,6],.keep []] (aJ5 none h15) ?_;exact lf h
def YG(s1 s5:List X0)(s6:Int):St:=⟨sp 21 0 [sD 1 (D.l X0.D) s1,sD 5 (D.l X0.D) s5,sI 6 s6],[],[]⟩
def YH(s1:List X0)(o:(List X0)):Ex×St:=(.exit 0,⟨sp 21 0 [sD 5 (D.l X0.D) o],[],[]⟩)
theorem aKv(rd:Option Nat)(h:aKt fA fD f8=some fC):Lq 69 rd 58 (YG fA fD f8) ((YH fA) fC):=
 lL (fun s:List X0×Int=>YG fA s.1 s.2) (YH fA) (fD,f8) (fun⟨fD,f8⟩ o h=>by
 unfold K3 at h
 refine gN 10 X0.D fA ?_
 refine iB 11 h (fun h=>?_) fun h=>?_
 refine xX 17 X0.D h fun x1 h=>?_
 obtain⟨r2,h3,h⟩:=bS h
 refine gC 19 (SQ h3) ?_
 exact lb h
 exact lb h) h
theorem aX7(h:Z6 fA fD=some fF):AM Tryz.prog 69 [.d ((D.l X0.D) fA),.d ((D.l X0.D) fD)] [] (.d ((D.l X0.D) fF)) []:=by unfold Z6 at h;apply g0 (o:=fF);obtain⟨o3,h4,h⟩:=bS h;refine gl (aKv none h4) ?_;exact lf h
theorem aU6(h:Qg fA fG=some fE):AM Tryz.prog 105 [.d ((D.l X0.D) fA),.d (X0.D fG)] [] (.d (D.b fE)) []:=by unfold Qg at h;apply g0 (o:=fE);refine gW 10 (.int (fA.length:Int)) ?_;obtain⟨r1,h1,h⟩:=bS h;refine gC 7 (SQ h1)<|gN 8 X0.D r1<|gQ (D7 X0.D fA) ?_;exact lf h
theorem aI2(rd:Option Nat)(h:aI1 f8 fA fE fG fH=some fI):Lq 68 rd 453 ⟨sp 22 0 [sI 0 f8,sD 1 (D.l X0.D) fA,bx 4,bx 5,sD 12 D.b fE],[cL 4 X0.D fG,cL 5 X0.D fH],[]⟩ (.normal,⟨sp 22 0 [sI 0 f8,sD 1 (D.l X0.D) fA,bx 4,bx 5],[cL 4 X0.D fG,cL 5 X0.D fI],[]⟩):=by unfold aI1 at h;apply g0 (o:=fI);cases fE;replace h:=CJ h;refine gW 19 (.str (fH.str++([97]:List UInt8))) ?_;obtain⟨h4,h⟩:=cS h;refine gQ (Jl h4) ?_;exact lp h;replace h:=CK h;exact lp h
theorem aI0(rd:Option Nat)(h:Wg f8 fA fG fH=some fI):Lq 68 rd 113 ⟨sp 22 0 [sI 0 f8,sD 1 (D.l X0.D) fA,bx 4,bx 5],[cL 4 X0.D fG,cL 5 X0.D fH],[]⟩ (.normal,⟨sp 22 0 [sI 0 f8,sD 1 (D.l X0.D) fA,bx 4,bx 5],[cL 4 X0.D fG,cL 5 X0.D fI],[]⟩):=by unfold Wg at h;apply g0 (o:=fI);obtain⟨o2,h5,h⟩:=bS h;refine gl (aI2 rd h5) ?_;exact lp h
def Wi(s0:Int)(s1:List X0)(w4 w5:X0):St:=⟨sp 22 0 [sI 0 s0,sD 1 (D.l X0.D) s1,bx 4,bx 5],[cL 4 X0.D w4,cL 5 X0.D w5],[]⟩
def Wj(s0:Int)(s1:List X0)(w4 o:X0):Ex×St:=(.exit 0,⟨sp 22 0 [bx 4,bx 5],[cL 4 X0.D w4,cL 5 X0.D o],[]⟩)
theorem aI3(rd:Option Nat)(h:Wh f8 fA fG fH=some fI):Lq 68 rd 28 (Wi f8 fA fG fH) ((Wj f8 fA fG) fI):=
 lL (fun s:X0=>Wi f8 fA fG s) (Wj f8 fA fG) fH (fun fH o h=>by
 unfold Ih at h
 obtain⟨r1,h1,h⟩:=bS h
 refine gQ (aU6 h1) ?_
 cases r1
 replace h:=CJ h
 refine gW 10 (.ret (.d (D.b false))) ?_
 exact lb h
 replace h:=CK h
 refine gW 10 (.ret (.d (D.b true))) ?_
 obtain⟨o3,h6,h⟩:=bS h
 refine gl (aI0 rd h6) ?_
 exact lb h) h
theorem aW5(h:Yb f8 fA=some fG):AM Tryz.prog 68 [dI f8,.d ((D.l X0.D) fA)] [] (.d (X0.D fG)) []:=by unfold Yb at h;apply g0 (o:=fG);obtain⟨o4,h7,h⟩:=bS h;refine gl (aI3 none h7) ?_;exact lf h
theorem aJm(rd:Option Nat)(h:aJl f8 fJ fA fD fB fE=some fC):Lq 49 rd 1865 ⟨sp 47 0 [sI 1 f8,sD 2 (D.l X2.D) fJ,sD 3 (D.l X0.D) fA,sD 9 (D.l X0.D) fD,sI 10 fB,sD 27 D.b fE],[],[]⟩ (.normal,⟨sp 47 0 [sI 1 f8,sD 2 (D.l X2.D) fJ,sD 3 (D.l X0.D) fA,sD 9 (D.l X0.D) fC,sI 10 fB],[],[]⟩):=by unfold aJl at h;apply g0 (o:=fC);cases fE;replace h:=CJ h;exact lp h;replace h:=CK h;refine xX 31 X2.D h fun x3 h=>?_;obtain⟨r4,h6,h⟩:=bS h;refine gC 34 (SQ h6) ?_;exact lp h
theorem aJk(rd:Option Nat)(h:aJj f8 fJ fA fD fB=some fC):Lq 49 rd 466 ⟨sp 47 0 [sI 1 f8,sD 2 (D.l X2.D) fJ,sD 3 (D.l X0.D) fA,sD 9 (D.l X0.D) fD,sI 10 fB],[],[]⟩ (.normal,⟨sp 47 0 [sI 1 f8,sD 2 (D.l X2.D) fJ,sD 3 (D.l X0.D) fA,sD 9 (D.l X0.D) fC,sI 10 fB],[],[]⟩):=by unfold aJj at h;apply g0 (o:=fC);refine xX 22 X2.D h fun x2 h=>?_;obtain⟨o5,h7,h⟩:=bS h;refine gl (aJm rd h7) ?_;exact lp h
def W2(s1:Int)(s2:List X2)(s3 s9:List X0)(s10:Int):St:=⟨sp 47 0 [sI 1 s1,sD 2 (D.l X2.D) s2,sD 3 (D.l X0.D) s3,sD 9 (D.l X0.D) s9,sI 10 s10],[],[]⟩
def W3(s1:Int)(s2:List X2)(s3:List X0)(o:(List X0)):Ex×St:=(.exit 0,⟨sp 47 0 [sI 1 s1,sD 3 (D.l X0.D) s3,sD 9 (D.l X0.D) o],[],[]⟩)
theorem aJo(rd:Option Nat)(h:aJn f8 fJ fA fD fB=some fC):Lq 49 rd 58 (W2 f8 fJ fA fD fB) ((W3 f8 fJ fA) fC):=
 lL (fun s:List X0×Int=>W2 f8 fJ fA s.1 s.2) (W3 f8 fJ fA) (fD,fB) (fun⟨fD,fB⟩ o h=>by
 unfold Ik at h
 refine gN 16 X2.D fJ ?_
 refine iB 17 h (fun h=>?_) fun h=>?_
 obtain⟨o6,h8,h⟩:=bS h
 refine gl (aJk rd h8) ?_
 exact lb h
 exact lb h) h
theorem aXm(h:Yj f9 f8 fJ fA=some fD):AM Tryz.prog 49 [.d (AD.D f9),dI f8,.d ((D.l X2.D) fJ),.d ((D.l X0.D) fA)] [] (.d ((D.l X0.D) fD)) []:=by unfold Yj at h;apply g0 (o:=fD);obtain⟨r1,h1,h⟩:=bS h;refine gC 13 (aWk h1) ?_;obtain⟨o7,h9,h⟩:=bS h;refine gl (aJo none h9) ?_;refine iB 36 h (fun h=>?_) fun h=>?_;exact lf h;obtain⟨r8,h11,h⟩:=bS h;refine gC 43 (aXr h11) ?_;obtain⟨r9,h12,h⟩:=bS h;refine gC 44 (aX7 h12) ?_;obtain⟨r10,h13,h⟩:=bS h;refine gC 45 (aW5 h13) ?_;obtain⟨r11,h14,h⟩:=bS h;refine gC 46 (SQ h14) ?_;exact lf h
def Wp(s1:Int)(s2:List X2)(s3 s4 s12:List X0)(w5:AD)(s13:Int)(w11:List Xd):St:=⟨sp 72 0 [sI 1 s1,sD 2 (D.l X2.D) s2,sD 3 (D.l X0.D) s3,sD 4 (D.l X0.D) s4,bx 5,rx 11,sD 12 (D.l X0.D) s12,sI 13 s13],[cL 5 AD.D w5,(11,.row 88 2 (w11.map Xd.D))],[]⟩
def Wq(s1:Int)(s2:List X2)(s3 s4 s12:List X0)(w5:AD)(o:(List Xd)):Ex×St:=(.exit 0,⟨sp 72 0 [rx 11],[(11,.row 88 2 (o.map Xd.D))],[]⟩)
theorem aJc(rd:Option Nat)(self:AD->Int->(List X2)->(List X0)->(List X0)->Option (List Xd))(hs:∀(a0:AD) (a1:Int) (a2:List X2) (a3 a4:List X0) (r:List Xd),self a0 a1 a2 a3 a4=some r->AM Tryz.prog 32 [.d (AD.D a0),dI a1,.d ((D.l X2.D) a2),.d ((D.l X0.D) a3),.d ((D.l X0.D) a4)] [] (.d ((D.l Xd.D) r)) []){s1:Int}{s2:List X2}{s3 s4 s12:List X0}{w5:AD}{s13:Int}{w11:List Xd}{t:(List Xd)}(h:aPf self s1 s2 s3 s4 s12 w5 s13 w11=some t):Lq 32 rd 250 (Wp s1 s2 s3 s4 s12 w5 s13 w11) ((Wq s1 s2 s3 s4 s12 w5) t):=
 lL (fun s:Int×List Xd=>Wp s1 s2 s3 s4 s12 w5 s.1 s.2) (Wq s1 s2 s3 s4 s12 w5) (s13,w11) (fun⟨s13,w11⟩ o h=>by
 unfold Ij at h
 refine gN 50 X0.D s12 ?_
 refine iB 51 h (fun h=>?_) fun h=>?_
 refine gQ (An X0.D ([]:List X0))<|gG 56 (.sl ((([]:List X0)++s4).map X0.D)) (An X0.D s4) ?_
 obtain⟨h14,h⟩:=cS h
 refine gQ (Au X0.D h14)<|gQ (At X0.D ([]:List X0) s4)<|xX 59 X0.D h fun x8 h=>?_
 refine gQ (An X0.D [x8])<|gG 62 (.sl (((([]:List X0)++s4)++[x8]).map X0.D)) (An X0.D [x8]) ?_
 obtain⟨h16,h⟩:=cS h
 refine gQ (Au X0.D h16)<|gQ (At X0.D (([]:List X0)++s4) [x8]) ?_
 obtain⟨r9,h17,h⟩:=bS h
 refine gG 69 (.ret (.d ((D.l Xd.D) r9))) (hs w5 s1 s2 s3 ((([]:List X0)++s4)++[x8]) r9 h17)<|gG 70 (.sl ((w11++r9).map Xd.D)) (An Xd.D r9) ?_
 obtain⟨h18,h⟩:=cS h
 refine gQ (Au Xd.D h18)<|gQ (At Xd.D w11 r9) ?_
 exact lB h [.live [1,2,3,4,5,11,12,13],.keep [5,70],.ren 70 11,.sort]
 exact lb h) h
theorem aPe(self:AD->Int->(List X2)->(List X0)->(List X0)->Option (List Xd))(hs:∀(a0:AD) (a1:Int) (a2:List X2) (a3 a4:List X0) (r:List Xd),self a0 a1 a2 a3 a4=some r->AM Tryz.prog 32 [.d (AD.D a0),dI a1,.d ((D.l X2.D) a2),.d ((D.l X0.D) a3),.d ((D.l X0.D) a4)] [] (.d ((D.l Xd.D) r)) [])(a0:AD)(a1:Int)(a2:List X2)(a3 a4:List X0)(r:List Xd)(h:aS0 self a0 a1 a2 a3 a4=some r):AM Tryz.prog 32 [.d (AD.D a0),dI a1,.d ((D.l X2.D) a2),.d ((D.l X0.D) a3),.d ((D.l X0.D) a4)] [] (.d ((D.l Xd.D) r)) []:=by unfold aS0 at h;apply g0 (o:=r);refine gN 16 X0.D a4<|xX 20 Xl.D h fun x1 h=>?_;refine gN 23 dZ x1.types ?_;refine iB 24 h (fun h=>?_) fun h=>?_;refine xX 28 Xl.D h fun x2 h=>?_;refine gQ (An Xd.D [Xd.mk x2.name a4]) ?_;exact lf h;refine gW 42 (.int (a4.length:Int))<|xX 38 Xl.D h fun x3 h=>?_;refine gQ (D7 X0.D a4)<|xX 43 dZ h fun x4 h=>?_;obtain⟨r5,h6,h⟩:=bS h;refine gC 47 (aXm h6) ?_;obtain⟨o10,h19,h⟩:=bS h;refine gL [.live [1,2,3,4,5,11,12,13],.keep [5],.nil 11 11 88 2,.sort] (aJc none self hs h19) ?_;exact lf h
theorem Wr:∀(n:Nat) (a0:AD) (a1:Int) (a2:List X2) (a3 a4:List X0) (r:List Xd),aNc n a0 a1 a2 a3 a4=some r->AM Tryz.prog 32 [.d (AD.D a0),dI a1,.d ((D.l X2.D) a2),.d ((D.l X0.D) a3),.d ((D.l X0.D) a4)] [] (.d ((D.l Xd.D) r)) []
 |0,a0,a1,a2,a3,a4,r,h=>by simp[aNc]at h
 |n+1,a0,a1,a2,a3,a4,r,h=>aPe _ (Wr n) a0 a1 a2 a3 a4 r h
theorem aXc(h:Ye f9 f8 fJ fA fD=some fK):AM Tryz.prog 32 [.d (AD.D f9),dI f8,.d ((D.l X2.D) fJ),.d ((D.l X0.D) fA),.d ((D.l X0.D) fD)] [] (.d ((D.l Xd.D) fK)) []:=Wr 100000 f9 f8 fJ fA fD fK h
def XC(s0:List X2)(s1:Int)(w4:X0)(s6:Int):St:=⟨sp 26 0 [sD 0 (D.l X2.D) s0,sI 1 s1,bx 4,sI 6 s6],[cL 4 X0.D w4],[]⟩
def XD(s0:List X2)(s1:Int)(w4:X0)(o:Unit⊕X0):Ex×St:=match o with
 | .inl o=>(.exit 0,⟨sp 26 0 [bx 4],[cL 4 X0.D w4],[]⟩)
 | .inr o=>(.ret,⟨sp 26 0 [bx 4,sD 5 D.b true],[cL 4 X0.D o],[]⟩)
theorem aJ7(rd:Option Nat)(h:aPl fJ f8 fG fB=some fL):Lq 71 rd 26 (XC fJ f8 fG fB) ((XD fJ f8 fG) fL):=
 lL (fun s:Int=>XC fJ f8 fG s) (XD fJ f8 fG) fB (fun fB o h=>by
 unfold K2 at h
 refine gN 9 X2.D fJ ?_
 refine iB 10 h (fun h=>?_) fun h=>?_
 refine xX 15 X2.D h fun x1 h=>?_
 refine iB 19 h (fun h=>?_) fun h=>?_
 refine xX 22 X2.D h fun x2 h=>?_
 exact lb h
 exact lb h
 exact lb h) h
theorem XE(h:Yq fJ f8=some fM):AM Tryz.prog 71 [.d ((D.l X2.D) fJ),dI f8] [] (.tup [.d (X0.D fM.1),.d (D.b fM.2)]) []:=by
 unfold Yq at h;apply g0 (o:=fM);obtain⟨o3,h5,h⟩:=bS h;refine gl (aJ7 none h5) ?_;replace h:=AL h;rcases h with⟨o4,rfl,h⟩|⟨o5,rfl,h⟩
 exact lf h;exact lf h
def YS(s0 s1:List X2)(s5:Int):St:=⟨sp 34 0 [sD 0 (D.l X2.D) s0,sD 1 (D.l X2.D) s1,sI 5 s5],[],[]⟩
def YT(s0 s1:List X2)(o:Unit⊕Unit):Ex×St:=match o with
 | .inl o=>(.exit 0,⟨sp 34 0 [],[],[]⟩)
 | .inr o=>(.ret,⟨sp 34 0 [sD 4 D.b false],[],[]⟩)
theorem aK1(rd:Option Nat)(h:aPw fJ fN f8=some fO):Lq 72 rd 26 (YS fJ fN f8) ((YT fJ fN) fO):=
 lL (fun s:Int=>YS fJ fN s) (YT fJ fN) f8 (fun f8 o h=>by
 unfold K5 at h
 refine gN 10 X2.D fJ ?_
 refine iB 11 h (fun h=>?_) fun h=>?_
 refine xX 18 X2.D h fun x1 h=>?_
 obtain⟨r2,h3,h⟩:=bS h
 refine gC 21 (XE h3) ?_
 refine iB 25 h (fun h=>?_) fun h=>?_
 refine xX 29 X2.D h fun x3 h=>?_
 refine iB 33 h (fun h=>?_) fun h=>?_
 exact lb h
 exact lb h
 exact lb h
 exact lb h) h
theorem aYg(h:Zc fJ fN=some fE):AM Tryz.prog 72 [.d ((D.l X2.D) fJ),.d ((D.l X2.D) fN)] [] (.d (D.b fE)) []:=by
 unfold Zc at h;apply g0 (o:=fE);obtain⟨o4,h7,h⟩:=bS h;refine gl (aK1 none h7) ?_;replace h:=AL h;rcases h with⟨o5,rfl,h⟩|⟨o6,rfl,h⟩
 exact lf h;exact lf h
theorem aIy(rd:Option Nat)(h:aIx fJ fN f8 fE fQ fG=some fR):Lq 73 rd 29855 ⟨sp 42 0 [sD 0 (D.l X2.D) fJ,sD 1 (D.l X2.D) fN,rx 5,sI 6 f8,bx 9,sD 34 D.b fE],[(5,.row 59 5 (fQ.map X2.D)),cL 9 X0.D fG],[]⟩ (.normal,⟨sp 42 0 [sD 0 (D.l X2.D) fJ,sD 1 (D.l X2.D) fN,rx 5,sI 6 f8],[(5,.row 59 5 (fR.map X2.D))],[]⟩):=by unfold aIx at h;apply g0 (o:=fR);cases fE;replace h:=CJ h;exact lp h;replace h:=CK h;refine gQ (An X2.D [X2.mk f8 fG])<|gG 40 (.sl ((fQ++[X2.mk f8 fG]).map X2.D)) (An X2.D [X2.mk f8 fG]) ?_;obtain⟨h17,h⟩:=cS h;refine gQ (Au X2.D h17)<|gQ (At X2.D fQ [X2.mk f8 fG]) ?_;exact lP h [.live [0,1,5,6],.keep [40],.ren 40 5,.sort]
theorem aIw(rd:Option Nat)(h:aIv fJ fN f8 fE fS fQ fG fH=some fR):Lq 73 rd 7463 ⟨sp 42 0 [sD 0 (D.l X2.D) fJ,sD 1 (D.l X2.D) fN,rx 5,sI 6 f8,bx 7,bx 9,sD 10 D.b fE,sD 27 D.b fS],[(5,.row 59 5 (fQ.map X2.D)),cL 7 X0.D fG,cL 9 X0.D fH],[]⟩ (.normal,⟨sp 42 0 [sD 0 (D.l X2.D) fJ,sD 1 (D.l X2.D) fN,rx 5,sI 6 f8],[(5,.row 59 5 (fR.map X2.D))],[]⟩):=by unfold aIv at h;apply g0 (o:=fR);cases fS;replace h:=CJ h;obtain⟨o8,h18,h⟩:=bS h;refine gl (aIy rd h18) ?_;exact lp h;replace h:=CK h;refine gQ (An X2.D [X2.mk f8 fG])<|gG 33 (.sl ((fQ++[X2.mk f8 fG]).map X2.D)) (An X2.D [X2.mk f8 fG]) ?_;obtain⟨h15,h⟩:=cS h;refine gQ (Au X2.D h15)<|gQ (At X2.D fQ [X2.mk f8 fG]) ?_;exact lP h [.live [0,1,5,6],.keep [33],.ren 33 5,.sort]
theorem aIu(rd:Option Nat)(h:aIt fJ fN f8 fQ=some fR):Lq 73 rd 466 ⟨sp 42 0 [sD 0 (D.l X2.D) fJ,sD 1 (D.l X2.D) fN,rx 5,sI 6 f8],[(5,.row 59 5 (fQ.map X2.D))],[]⟩ (.normal,⟨sp 42 0 [sD 0 (D.l X2.D) fJ,sD 1 (D.l X2.D) fN,rx 5,sI 6 f8],[(5,.row 59 5 (fR.map X2.D))],[]⟩):=by unfold aIt at h;apply g0 (o:=fR);obtain⟨r6,h12,h⟩:=bS h;refine gC 18 (XE h12) ?_;obtain⟨r7,h13,h⟩:=bS h;refine gC 24 (XE h13) ?_;obtain⟨o9,h19,h⟩:=bS h;refine gl (aIw rd h19) ?_;exact lp h
def Wd(s0 s1:List X2)(s6:Int)(w5:List X2):St:=⟨sp 42 0 [sD 0 (D.l X2.D) s0,sD 1 (D.l X2.D) s1,rx 5,sI 6 s6],[(5,.row 59 5 (w5.map X2.D))],[]⟩
def We(s0 s1:List X2)(o:(List X2)):Ex×St:=(.exit 0,⟨sp 42 0 [rx 5],[(5,.row 59 5 (o.map X2.D))],[]⟩)
theorem aIz(rd:Option Nat)(h:aPd fJ fN f8 fQ=some fR):Lq 73 rd 58 (Wd fJ fN f8 fQ) ((We fJ fN) fR):=
 lL (fun s:Int×List X2=>Wd fJ fN s.1 s.2) (We fJ fN) (f8,fQ) (fun⟨f8,fQ⟩ o h=>by
 unfold Ig at h
 refine iB 12 h (fun h=>?_) fun h=>?_
 obtain⟨o10,h20,h⟩:=bS h
 refine gl (aIu rd h20) ?_
 exact lb h
 exact lb h) h
theorem aW4(h:Ya fJ fN=some fQ):AM Tryz.prog 73 [.d ((D.l X2.D) fJ),.d ((D.l X2.D) fN)] [] (.d ((D.l X2.D) fQ)) []:=by unfold Ya at h;apply g0 (o:=fQ);obtain⟨o11,h21,h⟩:=bS h;refine gL [.live [0,1,5,6],.keep [],.nil 5 5 59 5,.sort] (aIz none h21) ?_;exact lf h
def YI(s0:List X2)(w3:X2)(s5:Int):St:=⟨sp 38 0 [sD 0 (D.l X2.D) s0,bx 3,sI 5 s5],[cL 3 X2.D w3],[]⟩
def YJ(s0:List X2)(w3:X2)(o:Int):Ex×St:=(.exit 0,⟨sp 38 0 [sD 0 (D.l X2.D) s0,bx 3,sI 5 o],[cL 3 X2.D w3],[]⟩)
theorem aKw(rd:Option Nat)(h:aPt fJ fT f8=some fB):Lq 74 rd 28 (YI fJ fT f8) ((YJ fJ fT) fB):=
 lL (fun s:Int=>YI fJ fT s) (YJ fJ fT) f8 (fun f8 o h=>by
 unfold Iv at h
 refine iB 11 h (fun h=>?_) fun h=>?_
 refine xX 15 X2.D h fun x1 h=>?_
 refine iB 21 h (fun h=>?_) fun h=>?_
 exact lb h
 exact lb h
 exact lb h) h
theorem aX9(h:Z7 fJ fT=some fN):AM Tryz.prog 74 [.d ((D.l X2.D) fJ),.d (X2.D fT)] [] (.d ((D.l X2.D) fN)) []:=by unfold Z7 at h;apply g0 (o:=fN);refine gN 8 X2.D fJ ?_;obtain⟨o2,h4,h⟩:=bS h;refine gl (aKw none h4)<|gQ (An X2.D ([]:List X2))<|gW 27 (.sl ((sub fJ 0 o2).map X2.D))<|gW 28 (.sl ((([]:List X2)++(sub fJ 0 o2)).map X2.D))<|gW 32 (.sl (((([]:List X2)++(sub fJ 0 o2))++[fT]).map X2.D))<|gW 36 (.sl ((sub fJ o2 (fJ.length:Int)).map X2.D))<|gW 37 (.sl ((((([]:List X2)++(sub fJ 0 o2))++[fT])++(sub fJ o2 (fJ.length:Int))).map X2.D)) ?_;obtain⟨h5,h⟩:=cS h;refine gQ (GJ X2.D h5)<|gQ (An X2.D (sub fJ 0 o2)) ?_;obtain⟨h6,h⟩:=cS h;refine gQ (Au X2.D h6)<|gQ (At X2.D ([]:List X2) (sub fJ 0 o2))<|gQ (An X2.D [fT])<|gQ (An X2.D [fT]) ?_;obtain⟨h7,h⟩:=cS h;refine gQ (Au X2.D h7)<|gQ (At X2.D (([]:List X2)++(sub fJ 0 o2)) [fT]) ?_;obtain⟨h8,h⟩:=cS h;refine gQ (GI X2.D h8)<|gQ (An X2.D (sub fJ o2 (fJ.length:Int))) ?_;obtain⟨h9,h⟩:=cS h;refine gQ (Au X2.D h9)<|gQ (At X2.D ((([]:List X2)++(sub fJ 0 o2))++[fT]) (sub fJ o2 (fJ.length:Int))) ?_;exact lf h
theorem P4(rd:Option Nat)(h:Vo f8 fJ fN fB fE fU fV fW fX fY fQ=some fZ):Lq 51 rd 521373 ⟨sp 121 0 [sI 1 f8,bx 5,bx 6,bx 8,bx 9,sD 10 (D.l X2.D) fJ,sD 11 (D.l X2.D) fN,sI 12 fB,bx 13,rx 14,sD 80 D.b fE],[cL 5 Xd.D fU,(6,.cells ([dI fV,.nil,.nil])),cL 8 X5.D fW,cL 9 Ap.D fX,cL 13 Bz.D fY,(14,.row 59 5 (fQ.map X2.D))],[]⟩ (match (generalizing:=false) fZ with
 | .inl fZ=>(.normal,⟨sp 121 0 [sI 1 f8,bx 5,bx 6,bx 8,bx 9,sD 10 (D.l X2.D) fZ,sD 11 (D.l X2.D) fN,sI 12 fB,bx 13,rx 14],[cL 5 Xd.D fU,(6,.cells ([dI fV,.nil,.nil])),cL 8 X5.D fW,cL 9 Ap.D fX,cL 13 Bz.D fY,(14,.row 59 5 (fQ.map X2.D))],[]⟩)
 | .inr fZ=>(.ret,⟨sp 121 0 [bx 6,sD 7 D.b false],[cL 6 Ap.D fX],[]⟩)):=by
 unfold Vo at h
 apply g0 (o:=fZ)
 cases fE
 replace h:=CJ h
 exact lp h
 replace h:=CK h
 obtain⟨r32,h37,h⟩:=bS h
 refine gC 83 (aYg h37) ?_
 refine iB 84 h (fun h=>?_) fun h=>?_
 exact lp h
 obtain⟨r33,h39,h⟩:=bS h
 refine gC 88 (aW4 h39) ?_
 exact lp h
theorem P6(rd:Option Nat)(h:Vq f8 fJ fN fB fE fU fV fW fX fQ=some fR):Lq 51 rd 8342007 ⟨sp 121 0 [sI 1 f8,bx 5,bx 6,bx 8,bx 9,sD 10 (D.l X2.D) fJ,sD 11 (D.l X2.D) fN,sI 12 fB,rx 14,sD 111 D.b fE],[cL 5 Xd.D fU,(6,.cells ([dI fV,.nil,.nil])),cL 8 X5.D fW,cL 9 Ap.D fX,(14,.row 59 5 (fQ.map X2.D))],[]⟩ (.normal,⟨sp 121 0 [sI 1 f8,bx 5,bx 6,bx 8,bx 9,sD 10 (D.l X2.D) fJ,sD 11 (D.l X2.D) fR,sI 12 fB],[cL 5 Xd.D fU,(6,.cells ([dI fV,.nil,.nil])),cL 8 X5.D fW,cL 9 Ap.D fX],[]⟩):=by unfold Vq at h;apply g0 (o:=fR);cases fE;replace h:=CJ h;exact lp h;replace h:=CK h;refine xX 114 X2.D h fun x39 h=>?_;obtain⟨r40,h48,h⟩:=bS h;refine gC 116 (aX9 h48) ?_;exact lp h
theorem P5(rd:Option Nat)(h:Vp f8 fJ fN fB fE fU fV fW fX fY fQ=some fZ):Lq 51 rd 521375 ⟨sp 121 0 [sI 1 f8,bx 5,bx 6,bx 8,bx 9,sD 10 (D.l X2.D) fJ,sD 11 (D.l X2.D) fN,sI 12 fB,bx 13,rx 14,sD 91 D.b fE],[cL 5 Xd.D fU,(6,.cells ([dI fV,.nil,.nil])),cL 8 X5.D fW,cL 9 Ap.D fX,cL 13 Bz.D fY,(14,.row 59 5 (fQ.map X2.D))],[]⟩ (match (generalizing:=false) fZ with
 | .inl fZ=>(.normal,⟨sp 121 0 [sI 1 f8,bx 5,bx 6,bx 8,bx 9,sD 10 (D.l X2.D) fJ,sD 11 (D.l X2.D) fZ,sI 12 fB],[cL 5 Xd.D fU,(6,.cells ([dI fV,.nil,.nil])),cL 8 X5.D fW,cL 9 Ap.D fX],[]⟩)
 | .inr fZ=>(.ret,⟨sp 121 0 [bx 6,sD 7 D.b false],[cL 6 Ap.D fX],[]⟩)):=by
 unfold Vp at h
 apply g0 (o:=fZ)
 cases fE
 replace h:=CJ h
 exact lp h
 replace h:=CK h
 obtain⟨r37,h42,h⟩:=bS h
 refine gC 96 (XE h42) ?_
 refine iB 100 h (fun h=>?_) fun h=>?_
 refine xX 105 X0.D h fun x38 h=>?_
 refine iB 108 h (fun h=>?_) fun h=>?_
 exact lp h
 obtain⟨o41,h49,h⟩:=bS h
 refine gl (P6 rd h49) ?_
 exact lp h
 obtain⟨o42,h50,h⟩:=bS h
 refine gl (P6 rd h50) ?_
 exact lp h
theorem aHi(rd:Option Nat)(h:aHh f8 fJ fN fB fU fV fW fX=some g8):Lq 51 rd 8146 ⟨sp 121 0 [sI 1 f8,bx 5,bx 6,bx 8,bx 9,sD 10 (D.l X2.D) fJ,sD 11 (D.l X2.D) fN,sI 12 fB],[cL 5 Xd.D fU,(6,.cells ([dI fV,.nil,.nil])),cL 8 X5.D fW,cL 9 Ap.D fX],[]⟩ (match (generalizing:=false) g8 with
 | .inl g8=>(.normal,⟨sp 121 0 [sI 1 f8,bx 5,bx 6,bx 8,bx 9,sD 10 (D.l X2.D) g8.1,sD 11 (D.l X2.D) g8.2,sI 12 fB],[cL 5 Xd.D fU,(6,.cells ([dI fV,.nil,.nil])),cL 8 X5.D fW,cL 9 Ap.D fX],[]⟩)
 | .inr g8=>(.ret,⟨sp 121 0 [bx 6,sD 7 D.b false],[cL 6 Ap.D fX],[]⟩)):=by
 unfold aHh at h
 apply g0 (o:=g8)
 refine xX 53 Bz.D h fun x29 h=>?_
 refine xX 60 X0.D h fun x30 h=>?_
 refine gQ (An X2.D [X2.mk x29.n x30]) ?_
 refine iB 67 h (fun h=>?_) fun h=>?_
 refine xX 73 X0.D h fun x31 h=>?_
 refine iB 76 h (fun h=>?_) fun h=>?_
 exact lp h
 obtain⟨o34,h40,h⟩:=bS h
 refine gL [.live [1,5,6,8,9,10,11,12,13,14,80],.keep [5,6,8,9,13,63],.ren 63 14,.sort] (P4 rd h40) ?_
 replace h:=AL h
 rcases h with⟨o35,rfl,h⟩|⟨o36,rfl,h⟩
 obtain⟨o43,h51,h⟩:=bS h
 refine gl (P5 rd h51) ?_
 replace h:=AL h
 rcases h with⟨o44,rfl,h⟩|⟨o45,rfl,h⟩
 exact lp h
 exact lp h
 exact lp h
 obtain⟨o46,h52,h⟩:=bS h
 refine gL [.live [1,5,6,8,9,10,11,12,13,14,80],.keep [5,6,8,9,13,63],.ren 63 14,.sort] (P4 rd h52) ?_
 replace h:=AL h
 rcases h with⟨o47,rfl,h⟩|⟨o48,rfl,h⟩
 obtain⟨o49,h53,h⟩:=bS h
 refine gl (P5 rd h53) ?_
 replace h:=AL h
 rcases h with⟨o50,rfl,h⟩|⟨o51,rfl,h⟩
 exact lp h
 exact lp h
 exact lp h
def Vr(s1:Int)(w5:Xd)(w6:Int)(w8:X5)(w9:Ap)(s10 s11:List X2)(s12:Int):St:=⟨sp 121 0 [sI 1 s1,bx 5,bx 6,bx 8,bx 9,sD 10 (D.l X2.D) s10,sD 11 (D.l X2.D) s11,sI 12 s12],[cL 5 Xd.D w5,(6,.cells ([dI w6,.nil,.nil])),cL 8 X5.D w8,cL 9 Ap.D w9],[]⟩
def Vs(s1:Int)(w5:Xd)(w6:Int)(w8:X5)(w9:Ap)(o:(List X2×List X2)⊕Unit):Ex×St:=match o with
 | .inl o=>(.exit 0,⟨sp 121 0 [sI 1 s1,bx 6,sD 10 (D.l X2.D) o.1,sD 11 (D.l X2.D) o.2],[(6,.cells ([dI w6,.nil,.nil]))],[]⟩)
 | .inr o=>(.ret,⟨sp 121 0 [bx 6,sD 7 D.b false],[cL 6 Ap.D w9],[]⟩)
theorem aHj(rd:Option Nat)(h:SD f8 fU fB fW fX fJ fN fV=some g8):Lq 51 rd 1018 (Vr f8 fU fB fW fX fJ fN fV) ((Vs f8 fU fB fW fX) g8):=
 lL (fun s:List X2×List X2×Int=>Vr f8 fU fB fW fX s.1 s.2.1 s.2.2) (Vs f8 fU fB fW fX) (fJ,fN,fV) (fun⟨fJ,fN,fV⟩ o h=>by
 unfold IZ at h
 refine gN 46 Bz.D fW.args ?_
 refine iB 47 h (fun h=>?_) fun h=>?_
 obtain⟨o52,h54,h⟩:=bS h
 refine gl (aHi rd h54) ?_
 replace h:=AL h
 rcases h with⟨o53,rfl,h⟩|⟨o54,rfl,h⟩
 exact lb h
 exact lb h
 exact lb h) h
theorem aWm(h:Xx f9 f8 fU=some g9):AM Tryz.prog 51 [.d (AD.D f9),dI f8,.d (Xd.D fU)] [] (.tup [.d (Ap.D g9.1),.d (D.b g9.2)]) []:=by
 unfold Xx at h;apply g0 (o:=g9);refine xX 20 X5.D h fun x1 h=>?_;refine xX 27 Xl.D h fun x2 h=>?_;refine iB 33 h (fun h=>?_) fun h=>?_;exact lf h;refine gN 36 Bz.D x1.args<|gN 39 X0.D fU.args ?_;refine iB 41 h (fun h=>?_) fun h=>?_;exact lf h;obtain⟨o55,h55,h⟩:=bS h;refine gL [.look 10,.look 11,.live [1,5,6,8,9,10,11,12],.keep [5,6,8,9]] (aHj none h55) ?_;replace h:=AL h;rcases h with⟨o56,rfl,h⟩|⟨o57,rfl,h⟩
 exact lf h;exact lf h
theorem aJs(rd:Option Nat)(h:aJr f8 fE f9 fU gA fX=some gB):Lq 35 rd 3731 ⟨sp 29 0 [bx 2,bx 3,rx 5,sI 6 f8,bx 7,sD 23 D.b fE],[cL 2 AD.D f9,cL 3 Xd.D fU,(5,.row 125 3 (gA.map Ap.D)),cL 7 Ap.D fX],[]⟩ (.normal,⟨sp 29 0 [bx 2,bx 3,rx 5,sI 6 f8],[cL 2 AD.D f9,cL 3 Xd.D fU,(5,.row 125 3 (gB.map Ap.D))],[]⟩):=by unfold aJr at h;apply g0 (o:=gB);cases fE;replace h:=CJ h;exact lp h;replace h:=CK h;refine gQ (An Ap.D [fX])<|gG 27 (.sl ((gA++[fX]).map Ap.D)) (An Ap.D [fX]) ?_;obtain⟨h10,h⟩:=cS h;refine gQ (Au Ap.D h10)<|gQ (At Ap.D gA [fX]) ?_;exact lP h [.live [2,3,5,6],.keep [2,3,27],.ren 27 5,.sort]
theorem aJq(rd:Option Nat)(h:aJp f8 f9 fU gA=some gB):Lq 35 rd 466 ⟨sp 29 0 [bx 2,bx 3,rx 5,sI 6 f8],[cL 2 AD.D f9,cL 3 Xd.D fU,(5,.row 125 3 (gA.map Ap.D))],[]⟩ (.normal,⟨sp 29 0 [bx 2,bx 3,rx 5,sI 6 f8],[cL 2 AD.D f9,cL 3 Xd.D fU,(5,.row 125 3 (gB.map Ap.D))],[]⟩):=by unfold aJp at h;apply g0 (o:=gB);obtain⟨r4,h8,h⟩:=bS h;refine gC 20 (aWm h8) ?_;obtain⟨o5,h11,h⟩:=bS h;refine gl (aJs rd h11) ?_;exact lp h
def W4(w2:AD)(w3:Xd)(s6:Int)(w5:List Ap):St:=⟨sp 29 0 [bx 2,bx 3,rx 5,sI 6 s6],[cL 2 AD.D w2,cL 3 Xd.D w3,(5,.row 125 3 (w5.map Ap.D))],[]⟩
def W5(w2:AD)(w3:Xd)(o:(List Ap)):Ex×St:=(.exit 0,⟨sp 29 0 [rx 5],[(5,.row 125 3 (o.map Ap.D))],[]⟩)
theorem aJt(rd:Option Nat)(h:aPg f9 fU f8 gA=some gB):Lq 35 rd 58 (W4 f9 fU f8 gA) ((W5 f9 fU) gB):=
 lL (fun s:Int×List Ap=>W4 f9 fU s.1 s.2) (W5 f9 fU) (f8,gA) (fun⟨f8,gA⟩ o h=>by
 unfold Il at h
 refine gN 12 X5.D f9.symbols ?_
 refine iB 13 h (fun h=>?_) fun h=>?_
 obtain⟨o6,h12,h⟩:=bS h
 refine gl (aJq rd h12) ?_
 exact lb h
 exact lb h) h
theorem aXo(h:Yk f9 fU=some gA):AM Tryz.prog 35 [.d (AD.D f9),.d (Xd.D fU)] [] (.d ((D.l Ap.D) gA)) []:=by unfold Yk at h;apply g0 (o:=gA);obtain⟨o7,h13,h⟩:=bS h;refine gL [.live [2,3,5,6],.keep [2,3],.nil 5 5 125 3,.sort] (aJt none h13) ?_;exact lf h
def YU(s0 s1:List X2)(s5:Int):St:=⟨sp 35 0 [sD 0 (D.l X2.D) s0,sD 1 (D.l X2.D) s1,sI 5 s5],[],[]⟩
def YV(s0 s1:List X2)(o:Unit⊕Unit):Ex×St:=match o with
 | .inl o=>(.exit 0,⟨sp 35 0 [],[],[]⟩)
 | .inr o=>(.ret,⟨sp 35 0 [sD 4 D.b false],[],[]⟩)
theorem aK2(rd:Option Nat)(h:aPx fJ fN f8=some fO):Lq 50 rd 26 (YU fJ fN f8) ((YV fJ fN) fO):=
 lL (fun s:Int=>YU fJ fN s) (YV fJ fN) f8 (fun f8 o h=>by
 unfold K6 at h
 refine gN 10 X2.D fJ ?_
 refine iB 11 h (fun h=>?_) fun h=>?_
 refine xX 18 X2.D h fun x1 h=>?_
 obtain⟨r2,h3,h⟩:=bS h
 refine gC 21 (XE h3) ?_
 refine iB 26 h (fun h=>?_) fun h=>?_
 exact lb h
 refine xX 30 X2.D h fun x3 h=>?_
 refine iB 34 h (fun h=>?_) fun h=>?_
 exact lb h
 exact lb h
 exact lb h) h
theorem aYi(h:Zd fJ fN=some fE):AM Tryz.prog 50 [.d ((D.l X2.D) fJ),.d ((D.l X2.D) fN)] [] (.d (D.b fE)) []:=by
 unfold Zd at h;apply g0 (o:=fE);obtain⟨o4,h7,h⟩:=bS h;refine gl (aK2 none h7) ?_;replace h:=AL h;rcases h with⟨o5,rfl,h⟩|⟨o6,rfl,h⟩
 exact lf h;exact lf h
theorem aJx(rd:Option Nat)(h:aJw gA fJ f8 fE gD=some gB):Lq 34 rd 1865 ⟨sp 28 0 [sD 0 (D.l Ap.D) gA,sD 1 (D.l X2.D) fJ,rx 5,sI 6 f8,sD 19 D.b fE],[(5,.row 125 3 (gD.map Ap.D))],[]⟩ (.normal,⟨sp 28 0 [sD 0 (D.l Ap.D) gA,sD 1 (D.l X2.D) fJ,rx 5,sI 6 f8],[(5,.row 125 3 (gB.map Ap.D))],[]⟩):=by unfold aJw at h;apply g0 (o:=gB);cases fE;replace h:=CJ h;exact lp h;replace h:=CK h;refine xX 23 Ap.D h fun x8 h=>?_;refine gQ (An Ap.D [x8])<|gG 26 (.sl ((gD++[x8]).map Ap.D)) (An Ap.D [x8]) ?_;obtain⟨h14,h⟩:=cS h;refine gQ (Au Ap.D h14)<|gQ (At Ap.D gD [x8]) ?_;exact lP h [.live [0,1,5,6],.keep [26],.ren 26 5,.sort]
theorem aJv(rd:Option Nat)(h:aJu gA fJ f8 gD=some gB):Lq 34 rd 466 ⟨sp 28 0 [sD 0 (D.l Ap.D) gA,sD 1 (D.l X2.D) fJ,rx 5,sI 6 f8],[(5,.row 125 3 (gD.map Ap.D))],[]⟩ (.normal,⟨sp 28 0 [sD 0 (D.l Ap.D) gA,sD 1 (D.l X2.D) fJ,rx 5,sI 6 f8],[(5,.row 125 3 (gB.map Ap.D))],[]⟩):=by unfold aJu at h;apply g0 (o:=gB);refine xX 15 Ap.D h fun x6 h=>?_;obtain⟨r7,h11,h⟩:=bS h;refine gC 19 (aYi h11) ?_;obtain⟨o9,h15,h⟩:=bS h;refine gl (aJx rd h15) ?_;exact lp h
def W6(s0:List Ap)(s1:List X2)(s6:Int)(w5:List Ap):St:=⟨sp 28 0 [sD 0 (D.l Ap.D) s0,sD 1 (D.l X2.D) s1,rx 5,sI 6 s6],[(5,.row 125 3 (w5.map Ap.D))],[]⟩
def W7(s0:List Ap)(s1:List X2)(o:(List Ap)):Ex×St:=(.exit 0,⟨sp 28 0 [rx 5],[(5,.row 125 3 (o.map Ap.D))],[]⟩)
theorem aJy(rd:Option Nat)(h:aPh gA fJ f8 gD=some gB):Lq 34 rd 58 (W6 gA fJ f8 gD) ((W7 gA fJ) gB):=
 lL (fun s:Int×List Ap=>W6 gA fJ s.1 s.2) (W7 gA fJ) (f8,gD) (fun⟨f8,gD⟩ o h=>by
 unfold K0 at h
 refine gN 9 Ap.D gA ?_
 refine iB 10 h (fun h=>?_) fun h=>?_
 obtain⟨o10,h16,h⟩:=bS h
 refine gl (aJv rd h16) ?_
 exact lb h
 exact lb h) h
theorem aXq(h:Ym gA fJ=some gD):AM Tryz.prog 34 [.d ((D.l Ap.D) gA),.d ((D.l X2.D) fJ)] [] (.d ((D.l Ap.D) gD)) []:=by unfold Ym at h;apply g0 (o:=gD);obtain⟨o11,h17,h⟩:=bS h;refine gL [.live [0,1,5,6],.keep [],.nil 5 5 125 3,.sort] (aJy none h17) ?_;exact lf h
def YK(s0:List Ap)(s3 s4:Int):St:=⟨sp 21 0 [sD 0 (D.l Ap.D) s0,sD 3 dU s3,sI 4 s4],[],[]⟩
def YL(s0:List Ap)(o:Int):Ex×St:=(.exit 0,⟨sp 21 0 [sD 3 dU o],[],[]⟩)
theorem aKx(rd:Option Nat)(h:aPu gA f8 fB=some fV):Lq 33 rd 58 (YK gA f8 fB) ((YL gA) fV):=
 lL (fun s:Int×Int=>YK gA s.1 s.2) (YL gA) (f8,fB) (fun⟨f8,fB⟩ o h=>by
 unfold Iw at h
 refine gN 7 Ap.D gA ?_
 refine iB 8 h (fun h=>?_) fun h=>?_
 refine xX 14 Ap.D h fun x1 h=>?_
 obtain⟨h3,h⟩:=cS h
 refine gQ h3 ?_
 exact lb h
 exact lb h) h
theorem aYa(h:Z8 gA=some f8):AM Tryz.prog 33 [.d ((D.l Ap.D) gA)] [] (.d (dU f8)) []:=by unfold Z8 at h;apply g0 (o:=f8);obtain⟨o2,h4,h⟩:=bS h;refine gl (aKx none h4) ?_;exact lf h
def XW(s0:List Int)(s1 s5:Int):St:=⟨sp 48 0 [sD 0 (D.l dU) s0,sD 1 dU s1,sI 5 s5],[],[]⟩
def XX(s0:List Int)(s1 o:Int):Ex×St:=(.exit 0,⟨sp 48 0 [sD 0 (D.l dU) s0,sD 1 dU s1,sI 5 o],[],[]⟩)
theorem aKm(rd:Option Nat)(h:XV gE f8 fB=some fV):Lq 36 rd 28 (XW gE f8 fB) ((XX gE f8) fV):=
 lL (fun s:Int=>XW gE f8 s) (XX gE f8) fB (fun fB o h=>by
 unfold Ir at h
 refine iB 11 h (fun h=>?_) fun h=>?_
 refine xX 15 dU h fun x1 h=>?_
 refine iB 19 h (fun h=>?_) fun h=>?_
 exact lb h
 exact lb h
 exact lb h) h
theorem aX1(h:Yz gE f8=some gH):AM Tryz.prog 36 [.d ((D.l dU) gE),.d (dU f8)] [] (.d ((D.l dU) gH)) []:=by unfold Yz at h;apply g0 (o:=gH);refine gN 8 dU gE ?_;obtain⟨o2,h4,h⟩:=bS h;refine gl (aKm none h4) ?_;refine iB 24 h (fun h=>?_) fun h=>?_;refine xX 28 dU h fun x3 h=>?_;refine iB 32 h (fun h=>?_) fun h=>?_;exact lf h;refine gQ (An dU ([]:List Int))<|gW 37 (.sl ((sub gE 0 o2).map dU))<|gW 38 (.sl ((([]:List Int)++(sub gE 0 o2)).map dU))<|gW 42 (.sl (((([]:List Int)++(sub gE 0 o2))++[f8]).map dU))<|gW 46 (.sl ((sub gE o2 (gE.length:Int)).map dU))<|gW 47 (.sl ((((([]:List Int)++(sub gE 0 o2))++[f8])++(sub gE o2 (gE.length:Int))).map dU)) ?_;obtain⟨h8,h⟩:=cS h;refine gQ (GJ dU h8)<|gQ (An dU (sub gE 0 o2)) ?_;obtain⟨h9,h⟩:=cS h;refine gQ (Au dU h9)<|gQ (At dU ([]:List Int) (sub gE 0 o2))<|gQ (An dU [f8])<|gQ (An dU [f8]) ?_;obtain⟨h10,h⟩:=cS h;refine gQ (Au dU h10)<|gQ (At dU (([]:List Int)++(sub gE 0 o2)) [f8]) ?_;obtain⟨h11,h⟩:=cS h;refine gQ (GI dU h11)<|gQ (An dU (sub gE o2 (gE.length:Int))) ?_;obtain⟨h12,h⟩:=cS h;refine gQ (Au dU h12)<|gQ (At dU ((([]:List Int)++(sub gE 0 o2))++[f8]) (sub gE o2 (gE.length:Int))) ?_;exact lf h;refine gQ (An dU ([]:List Int))<|gW 37 (.sl ((sub gE 0 o2).map dU))<|gW 38 (.sl ((([]:List Int)++(sub gE 0 o2)).map dU))<|gW 42 (.sl (((([]:List Int)++(sub gE 0 o2))++[f8]).map dU))<|gW 46 (.sl ((sub gE o2 (gE.length:Int)).map dU))<|gW 47 (.sl ((((([]:List Int)++(sub gE 0 o2))++[f8])++(sub gE o2 (gE.length:Int))).map dU)) ?_;obtain⟨h13,h⟩:=cS h;refine gQ (GJ dU h13)<|gQ (An dU (sub gE 0 o2)) ?_;obtain⟨h14,h⟩:=cS h;refine gQ (Au dU h14)<|gQ (At dU ([]:List Int) (sub gE 0 o2))<|gQ (An dU [f8])<|gQ (An dU [f8]) ?_;obtain⟨h15,h⟩:=cS h;refine gQ (Au dU h15)<|gQ (At dU (([]:List Int)++(sub gE 0 o2)) [f8]) ?_;obtain⟨h16,h⟩:=cS h;refine gQ (GI dU h16)<|gQ (An dU (sub gE o2 (gE.length:Int))) ?_;obtain⟨h17,h⟩:=cS h;refine gQ (Au dU h17)<|gQ (At dU ((([]:List Int)++(sub gE 0 o2))++[f8]) (sub gE o2 (gE.length:Int))) ?_;exact lf h
theorem aHm(rd:Option Nat)(h:SE fJ gE f8 fK fB fV fE f9=some gI):Lq 14 rd 477587 ⟨sp 42 0 [sD 1 (D.l X2.D) fJ,bx 2,sD 5 (D.l dU) gE,sI 6 f8,sD 7 (D.l Xd.D) fK,sI 8 fB,sD 9 dU fV,sD 37 D.b fE],[cL 2 AD.D f9],[]⟩ (.normal,⟨sp 42 0 [sD 1 (D.l X2.D) fJ,bx 2,sD 5 (D.l dU) gI,sI 6 f8,sD 7 (D.l Xd.D) fK,sI 8 fB],[cL 2 AD.D f9],[]⟩):=by unfold SE at h;apply g0 (o:=gI);cases fE;replace h:=CJ h;exact lp h;replace h:=CK h;obtain⟨r13,h18,h⟩:=bS h;refine gC 40 (aX1 h18) ?_;exact lp h
theorem aHl(rd:Option Nat)(h:aHk fJ gE f8 fK fB f9=some gI):Lq 14 rd 59698 ⟨sp 42 0 [sD 1 (D.l X2.D) fJ,bx 2,sD 5 (D.l dU) gE,sI 6 f8,sD 7 (D.l Xd.D) fK,sI 8 fB],[cL 2 AD.D f9],[]⟩ (.normal,⟨sp 42 0 [sD 1 (D.l X2.D) fJ,bx 2,sD 5 (D.l dU) gI,sI 6 f8,sD 7 (D.l Xd.D) fK,sI 8 fB],[cL 2 AD.D f9],[]⟩):=by unfold aHk at h;apply g0 (o:=gI);refine xX 30 Xd.D h fun x9 h=>?_;obtain⟨r10,h14,h⟩:=bS h;refine gC 32 (aXo h14) ?_;obtain⟨r11,h15,h⟩:=bS h;refine gC 34 (aXq h15) ?_;obtain⟨r12,h16,h⟩:=bS h;refine gC 35 (aYa h16) ?_;obtain⟨o14,h19,h⟩:=bS h;refine gl (aHm rd h19) ?_;exact lp h
def Vv(s1:List X2)(s6:Int)(s7:List Xd)(w2:AD)(s5:List Int)(s8:Int):St:=⟨sp 42 0 [sD 1 (D.l X2.D) s1,bx 2,sD 5 (D.l dU) s5,sI 6 s6,sD 7 (D.l Xd.D) s7,sI 8 s8],[cL 2 AD.D w2],[]⟩
def Vw(s1:List X2)(s6:Int)(s7:List Xd)(w2:AD)(o:(List Int)):Ex×St:=(.exit 2,⟨sp 42 0 [sD 1 (D.l X2.D) s1,bx 2,sD 5 (D.l dU) o,sI 6 s6],[cL 2 AD.D w2],[]⟩)
theorem aHo(rd:Option Nat)(h:aO4 fJ f8 fK f9 gE fB=some gI):Lq 14 rd 7462 (Vv fJ f8 fK f9 gE fB) ((Vw fJ f8 fK f9) gI):=
 lL (fun s:List Int×Int=>Vv fJ f8 fK f9 s.1 s.2) (Vw fJ f8 fK f9) (gE,fB) (fun⟨gE,fB⟩ o h=>by
 unfold Gx at h
 refine gN 23 Xd.D fK ?_
 refine iB 24 h (fun h=>?_) fun h=>?_
 obtain⟨o18,h25,h⟩:=bS h
 refine gl (aHl rd h25) ?_
 exact lb h
 exact lb h) h
def Vt(s1:List X2)(w2:AD)(s5:List Int)(s6:Int):St:=⟨sp 42 0 [sD 1 (D.l X2.D) s1,bx 2,sD 5 (D.l dU) s5,sI 6 s6],[cL 2 AD.D w2],[]⟩
def Vu(s1:List X2)(w2:AD)(o:(List Int)):Ex×St:=(.exit 0,⟨sp 42 0 [sD 5 (D.l dU) o],[],[]⟩)
theorem aHn(rd:Option Nat)(h:aO3 fJ f9 gE f8=some gI):Lq 14 rd 58 (Vt fJ f9 gE f8) ((Vu fJ f9) gI):=
 lL (fun s:List Int×Int=>Vt fJ f9 s.1 s.2) (Vu fJ f9) (gE,f8) (fun⟨gE,f8⟩ o h=>by
 unfold Ia at h
 refine gN 13 Xl.D f9.decls ?_
 refine iB 14 h (fun h=>?_) fun h=>?_
 obtain⟨r17,h23,h⟩:=bS h
 refine gC 20 (aXc h23) ?_
 obtain⟨o19,h26,h⟩:=bS h
 refine gl (aHo rd h26) ?_
 exact lb h
 exact lb h) h
theorem aSt(h:Xy f9 fJ=some gE):AM Tryz.prog 14 [.d (AD.D f9),.d ((D.l X2.D) fJ)] [] (.d ((D.l dU) gE)) []:=by unfold Xy at h;apply g0 (o:=gE);obtain⟨o20,h27,h⟩:=bS h;refine gL [.look 5,.live [1,2,5,6],.keep [2]] (aHn none h27) ?_;exact lf h
def XF(s1:Int)(w2:AD)(s5:Int):St:=⟨sp 27 0 [sD 1 dW s1,bx 2,sI 5 s5],[cL 2 AD.D w2],[]⟩
def XH(s1:Int)(w2:AD)(o:Unit⊕Unit):Ex×St:=match o with
 | .inl o=>(.exit 0,⟨sp 27 0 [],[],[]⟩)
 | .inr o=>(.ret,⟨sp 27 0 [sD 4 D.b true],[],[]⟩)
theorem aJ8(rd:Option Nat)(h:aPm f8 f9 fB=some fO):Lq 15 rd 26 (XF f8 f9 fB) ((XH f8 f9) fO):=
 lL (fun s:Int=>XF f8 f9 s) (XH f8 f9) fB (fun fB o h=>by
 unfold In at h
 refine gN 9 Xg.D f9.states ?_
 refine iB 10 h (fun h=>?_) fun h=>?_
 obtain⟨h2,h⟩:=cS h
 refine gQ h2<|gQ (of_decide_eq_true rfl:(2:Int)≠0) ?_
 refine iB 19 h (fun h=>?_) fun h=>?_
 refine xX 23 Xg.D h fun x1 h=>?_
 refine iB 26 h (fun h=>?_) fun h=>?_
 exact lb h
 exact lb h
 exact lb h
 exact lb h) h
theorem SR(h:Yr f9 f8=some fE):AM Tryz.prog 15 [.d (AD.D f9),.d (dW f8)] [] (.d (D.b fE)) []:=by
 unfold Yr at h;apply g0 (o:=fE);obtain⟨o2,h6,h⟩:=bS h;refine gl (aJ8 none h6) ?_;replace h:=AL h;rcases h with⟨o3,rfl,h⟩|⟨o4,rfl,h⟩
 exact lf h;exact lf h
theorem Pt(rd:Option Nat)(h:VF f8 fB fV gJ gK gM fE f9 gO=some gP):Lq 16 rd 1910419 ⟨sp 74 0 [sD 1 dW f8,sD 2 dU fB,bx 3,sD 7 dW fV,sI 8 gJ,sD 9 dW gK,sI 10 gM,bx 11,sD 49 D.b fE],[cL 3 AD.D f9,cL 11 Xr.D gO],[]⟩ (.normal,⟨sp 74 0 [sD 1 dW f8,sD 2 dU fB,bx 3,sD 7 dW fV,sI 8 gJ,sD 9 dW gP,sI 10 gM],[cL 3 AD.D f9],[]⟩):=by unfold VF at h;apply g0 (o:=gP);cases fE;replace h:=CJ h;exact lp h;replace h:=CK h;obtain⟨h9,h⟩:=cS h;refine gQ h9 ?_;exact lp h
theorem aGj(rd:Option Nat)(h:aGi f8 fB fV gJ gK gM f9=some gP):Lq 16 rd 238802 ⟨sp 74 0 [sD 1 dW f8,sD 2 dU fB,bx 3,sD 7 dW fV,sI 8 gJ,sD 9 dW gK,sI 10 gM],[cL 3 AD.D f9],[]⟩ (.normal,⟨sp 74 0 [sD 1 dW f8,sD 2 dU fB,bx 3,sD 7 dW fV,sI 8 gJ,sD 9 dW gP,sI 10 gM],[cL 3 AD.D f9],[]⟩):=by unfold aGi at h;apply g0 (o:=gP);refine xX 35 Xr.D h fun x1 h=>?_;refine iB 41 h (fun h=>?_) fun h=>?_;obtain⟨h7,h⟩:=cS h;refine gQ h7<|gQ (of_decide_eq_true rfl:(2:Int)≠0) ?_;obtain⟨o2,h10,h⟩:=bS h;refine gl (Pt rd h10) ?_;exact lp h;obtain⟨o3,h11,h⟩:=bS h;refine gl (Pt rd h11) ?_;exact lp h
def VI(s1 s2:Int)(s7 s8:Int)(w3:AD)(s9 s10:Int):St:=⟨sp 74 0 [sD 1 dW s1,sD 2 dU s2,bx 3,sD 7 dW s7,sI 8 s8,sD 9 dW s9,sI 10 s10],[cL 3 AD.D w3],[]⟩
def VJ(s1 s2:Int)(s7 s8:Int)(w3:AD)(o:Int):Ex×St:=(.exit 2,⟨sp 74 0 [sD 1 dW s1,sD 2 dU s2,bx 3,sD 7 dW s7,sI 8 s8,sD 9 dW o],[cL 3 AD.D w3],[]⟩)
theorem aGm(rd:Option Nat)(h:aGl f8 fB fV gJ f9 gK gM=some gP):Lq 16 rd 29850 (VI f8 fB fV gJ f9 gK gM) ((VJ f8 fB fV gJ f9) gP):=
 lL (fun s:Int×Int=>VI f8 fB fV gJ f9 s.1 s.2) (VJ f8 fB fV gJ f9) (gK,gM) (fun⟨gK,gM⟩ o h=>by
 unfold IO at h
 refine gN 28 Xr.D f9.trans ?_
 refine iB 29 h (fun h=>?_) fun h=>?_
 obtain⟨o4,h12,h⟩:=bS h
 refine gl (aGj rd h12) ?_
 exact lb h
 exact lb h) h
theorem Pu(rd:Option Nat)(h:OH f8 fB fV gJ gK fE f9=some gM):Lq 16 rd 29853 ⟨sp 74 0 [sD 1 dW f8,sD 2 dU fB,bx 3,sD 7 dW fV,sI 8 gJ,sD 9 dW gK,sD 66 D.b fE],[cL 3 AD.D f9],[]⟩ (.normal,⟨sp 74 0 [sD 1 dW f8,sD 2 dU fB,bx 3,sD 7 dW fV,sI 8 gJ,sD 9 dW gM],[cL 3 AD.D f9],[]⟩):=by unfold OH at h;apply g0 (o:=gM);cases fE;replace h:=CJ h;exact lp h;replace h:=CK h;obtain⟨h17,h⟩:=cS h;refine gQ h17 ?_;exact lp h
theorem aGh(rd:Option Nat)(h:aGg f8 fB fV gJ f9=some gK):Lq 16 rd 466 ⟨sp 74 0 [sD 1 dW f8,sD 2 dU fB,bx 3,sD 7 dW fV,sI 8 gJ],[cL 3 AD.D f9],[]⟩ (.normal,⟨sp 74 0 [sD 1 dW f8,sD 2 dU fB,bx 3,sD 7 dW gK,sI 8 gJ],[cL 3 AD.D f9],[]⟩):=by unfold aGg at h;apply g0 (o:=gK);obtain⟨h2,h⟩:=cS h;refine gQ h2<|gQ (of_decide_eq_true rfl:(2:Int)≠0) ?_;refine iB 24 h (fun h=>?_) fun h=>?_;exact lp h;obtain⟨o5,h13,h⟩:=bS h;refine gl (aGm rd h13) ?_;refine iB 58 h (fun h=>?_) fun h=>?_;refine xX 62 Xg.D h fun x6 h=>?_;obtain⟨o7,h18,h⟩:=bS h;refine gl (Pu rd h18) ?_;exact lp h;obtain⟨o8,h19,h⟩:=bS h;refine gl (Pu rd h19) ?_;exact lp h
def VG(s1 s2:Int)(w3:AD)(s7 s8:Int):St:=⟨sp 74 0 [sD 1 dW s1,sD 2 dU s2,bx 3,sD 7 dW s7,sI 8 s8],[cL 3 AD.D w3],[]⟩
def VH(s1 s2:Int)(w3:AD)(o:Int):Ex×St:=(.exit 0,⟨sp 74 0 [sD 7 dW o],[],[]⟩)
theorem aGk(rd:Option Nat)(h:aO0 f8 fB f9 fV gJ=some gK):Lq 16 rd 58 (VG f8 fB f9 fV gJ) ((VH f8 fB f9) gK):=
 lL (fun s:Int×Int=>VG f8 fB f9 s.1 s.2) (VH f8 fB f9) (fV,gJ) (fun⟨fV,gJ⟩ o h=>by
 unfold Gu at h
 refine gN 15 Xg.D f9.states ?_
 refine iB 16 h (fun h=>?_) fun h=>?_
 obtain⟨o9,h20,h⟩:=bS h
 refine gl (aGh rd h20) ?_
 exact lb h
 exact lb h) h
theorem aGn(h:Xn f9 f8 fB=some fV):AM Tryz.prog 16 [.d (AD.D f9),.d (dW f8),.d (dU fB)] [] (.d (dW fV)) []:=by unfold Xn at h;apply g0 (o:=fV);obtain⟨o10,h21,h⟩:=bS h;refine gl (aGk none h21) ?_;exact lf h
def ZC(s0:List Xk)(w3:Xk)(s5:Int):St:=⟨sp 18 0 [sD 0 (D.l Xk.D) s0,bx 3,sI 5 s5],[cL 3 Xk.D w3],[]⟩
def ZD(s0:List Xk)(w3:Xk)(o:Unit⊕Unit):Ex×St:=match o with
 | .inl o=>(.exit 0,⟨sp 18 0 [],[],[]⟩)
 | .inr o=>(.ret,⟨sp 18 0 [sD 4 D.b true],[],[]⟩)
theorem aK6(rd:Option Nat)(h:aP1 gR gS f8=some fO):Lq 29 rd 26 (ZC gR gS f8) ((ZD gR gS) fO):=
 lL (fun s:Int=>ZC gR gS s) (ZD gR gS) f8 (fun f8 o h=>by
 unfold I2 at h
 refine gN 8 Xk.D gR ?_
 refine iB 9 h (fun h=>?_) fun h=>?_
 refine xX 14 Xk.D h fun x1 h=>?_
 refine iB 17 h (fun h=>?_) fun h=>?_
 exact lb h
 exact lb h
 exact lb h) h
theorem aYm(h:Zh gR gS=some fE):AM Tryz.prog 29 [.d ((D.l Xk.D) gR),.d (Xk.D gS)] [] (.d (D.b fE)) []:=by
 unfold Zh at h;apply g0 (o:=fE);obtain⟨o2,h4,h⟩:=bS h;refine gl (aK6 none h4) ?_;replace h:=AL h;rcases h with⟨o3,rfl,h⟩|⟨o4,rfl,h⟩
 exact lf h;exact lf h
theorem QC(rd:Option Nat)(h:WC gE f8 fB fE f9 gR gS=some gU):Lq 11 rd 1001875 ⟨sp 86 0 [bx 4,sD 9 (D.l dU) gE,rx 10,sI 11 f8,sI 12 fB,bx 13,sD 81 D.b fE],[cL 4 AD.D f9,(10,.row 69 2 (gR.map Xk.D)),cL 13 Xk.D gS],[]⟩ (.normal,⟨sp 86 0 [bx 4,sD 9 (D.l dU) gE,rx 10,sI 11 f8,sI 12 fB],[cL 4 AD.D f9,(10,.row 69 2 (gU.map Xk.D))],[]⟩):=by unfold WC at h;apply g0 (o:=gU);cases fE;replace h:=CJ h;exact lp h;replace h:=CK h;refine gQ (An Xk.D [gS])<|gG 85 (.sl ((gR++[gS]).map Xk.D)) (An Xk.D [gS]) ?_;obtain⟨h18,h⟩:=cS h;refine gQ (Au Xk.D h18)<|gQ (At Xk.D gR [gS]) ?_;exact lP h [.live [4,9,10,11,12],.keep [4,85],.ren 85 10,.sort]
theorem aH4(rd:Option Nat)(h:aH3 gE f8 fB f9 gR=some gU):Lq 11 rd 125234 ⟨sp 86 0 [bx 4,sD 9 (D.l dU) gE,rx 10,sI 11 f8,sI 12 fB],[cL 4 AD.D f9,(10,.row 69 2 (gR.map Xk.D))],[]⟩ (.normal,⟨sp 86 0 [bx 4,sD 9 (D.l dU) gE,rx 10,sI 11 f8,sI 12 fB],[cL 4 AD.D f9,(10,.row 69 2 (gU.map Xk.D))],[]⟩):=by unfold aH3 at h;apply g0 (o:=gU);refine xX 51 Xk.D h fun x6 h=>?_;refine xX 56 dU h fun x7 h=>?_;obtain⟨r8,h11,h⟩:=bS h;refine gC 58 (aGn h11)<|xX 62 Xk.D h fun x9 h=>?_;refine xX 67 dU h fun x10 h=>?_;obtain⟨r11,h14,h⟩:=bS h;refine gC 69 (aGn h14) ?_;refine iB 76 h (fun h=>?_) fun h=>?_;obtain⟨r12,h16,h⟩:=bS h;refine gC 79 (aYm h16) ?_;obtain⟨o13,h19,h⟩:=bS h;refine gl (QC rd h19) ?_;exact lp h;obtain⟨o14,h20,h⟩:=bS h;refine gl (QC rd h20) ?_;exact lp h
def WF(s9:List Int)(s11:Int)(w4:AD)(s12:Int)(w10:List Xk):St:=⟨sp 86 0 [bx 4,sD 9 (D.l dU) s9,rx 10,sI 11 s11,sI 12 s12],[cL 4 AD.D w4,(10,.row 69 2 (w10.map Xk.D))],[]⟩
def WG(s9:List Int)(s11:Int)(w4:AD)(o:(List Xk)):Ex×St:=(.exit 2,⟨sp 86 0 [bx 4,sD 9 (D.l dU) s9,rx 10,sI 11 s11],[cL 4 AD.D w4,(10,.row 69 2 (o.map Xk.D))],[]⟩)
theorem aH6(rd:Option Nat)(h:aO7 gE f8 f9 fB gR=some gU):Lq 11 rd 15654 (WF gE f8 f9 fB gR) ((WG gE f8 f9) gU):=
 lL (fun s:Int×List Xk=>WF gE f8 f9 s.1 s.2) (WG gE f8 f9) (fB,gR) (fun⟨fB,gR⟩ o h=>by
 unfold Id at h
 refine gN 44 dU gE ?_
 refine iB 45 h (fun h=>?_) fun h=>?_
 obtain⟨o15,h21,h⟩:=bS h
 refine gl (aH4 rd h21) ?_
 exact lb h
 exact lb h) h
def WD(s9:List Int)(w4:AD)(s11:Int)(w10:List Xk):St:=⟨sp 86 0 [bx 4,sD 9 (D.l dU) s9,rx 10,sI 11 s11],[cL 4 AD.D w4,(10,.row 69 2 (w10.map Xk.D))],[]⟩
def WE(s9:List Int)(w4:AD)(o:Unit⊕Unit):Ex×St:=match o with
 | .inl o=>(.exit 0,⟨sp 86 0 [],[],[]⟩)
 | .inr o=>(.ret,⟨sp 86 0 [sD 8 D.b false],[],[]⟩)
theorem aH5(rd:Option Nat)(h:aO6 gE f9 f8 gR=some fO):Lq 11 rd 122 (WD gE f9 f8 gR) ((WE gE f9) fO):=
 lL (fun s:Int×List Xk=>WD gE f9 s.1 s.2) (WE gE f9) (f8,gR) (fun⟨f8,gR⟩ o h=>by
 unfold G0 at h
 refine gN 23 Xk.D gR ?_
 refine iB 24 h (fun h=>?_) fun h=>?_
 refine xX 30 Xk.D h fun x2 h=>?_
 obtain⟨r3,h4,h⟩:=bS h
 refine gC 33 (SR h4)<|xX 37 Xk.D h fun x4 h=>?_
 obtain⟨r5,h6,h⟩:=bS h
 refine gC 40 (SR h6) ?_
 refine iB 41 h (fun h=>?_) fun h=>?_
 exact lb h
 obtain⟨o16,h22,h⟩:=bS h
 refine gl (aH6 rd h22) ?_
 exact lb h
 exact lb h) h
theorem aWs(h:Y3 f9 fJ f8 fB=some fE):AM Tryz.prog 11 [.d (AD.D f9),.d ((D.l X2.D) fJ),.d (dW f8),.d (dW fB)] [] (.d (D.b fE)) []:=by
 unfold Y3 at h;apply g0 (o:=fE);obtain⟨r1,h1,h⟩:=bS h;refine gC 16 (aSt h1)<|gQ (An Xk.D [Xk.mk f8 fB]) ?_;obtain⟨o17,h23,h⟩:=bS h;refine gL [.live [4,9,10,11],.keep [4,20],.ren 20 10,.sort] (aH5 none h23) ?_;replace h:=AL h;rcases h with⟨o18,rfl,h⟩|⟨o19,rfl,h⟩
 exact lf h;exact lf h
def V5(s2 s3:Int)(s10 s12:List Int)(s13:Int)(w4:AD)(s14:Bool)(s15:Int):St:=⟨sp 133 0 [sD 2 dW s2,sD 3 dW s3,bx 4,sD 10 (D.l dU) s10,sD 12 (D.l dU) s12,sI 13 s13,sD 14 D.b s14,sI 15 s15],[cL 4 AD.D w4],[]⟩
def V6(s2 s3:Int)(s10 s12:List Int)(s13:Int)(w4:AD)(o:Bool):Ex×St:=(.exit 2,⟨sp 133 0 [sD 2 dW s2,sD 3 dW s3,bx 4,sD 10 (D.l dU) s10,sD 12 (D.l dU) s12,sI 13 s13,sD 14 D.b o],[cL 4 AD.D w4],[]⟩)
theorem aHz(rd:Option Nat)(h:aO5 f8 fB gE gH fV f9 fE gJ=some fS):Lq 4 rd 522826 (V5 f8 fB gE gH fV f9 fE gJ) ((V6 f8 fB gE gH fV f9) fS):=
 lL (fun s:Bool×Int=>V5 f8 fB gE gH fV f9 s.1 s.2) (V6 f8 fB gE gH fV f9) (fE,gJ) (fun⟨fE,gJ⟩ o h=>by
 unfold Ic at h
 refine gN 82 dU gH ?_
 refine iB 83 h (fun h=>?_) fun h=>?_
 refine iB 87 h (fun h=>?_) fun h=>?_
 exact lb h
 refine xX 90 dU h fun x10 h=>?_
 refine xX 94 dU h fun x11 h=>?_
 exact lb h
 exact lb h) h
def V3(s10 s12:List Int)(w4:AD)(s2 s3 s13:Int):St:=⟨sp 133 0 [sD 2 dW s2,sD 3 dW s3,bx 4,sD 10 (D.l dU) s10,sD 12 (D.l dU) s12,sI 13 s13],[cL 4 AD.D w4],[]⟩
def V4(s10 s12:List Int)(w4:AD)(o:(Int×Int)⊕Unit):Ex×St:=match o with
 | .inl o=>(.exit 0,⟨sp 133 0 [sD 2 dW o.1,sD 3 dW o.2,bx 4],[cL 4 AD.D w4],[]⟩)
 | .inr o=>(.ret,⟨sp 133 0 [sD 8 D.b false],[],[]⟩)
theorem aHy(rd:Option Nat)(h:SJ gE gH f9 f8 fB fV=some gV):Lq 4 rd 2042 (V3 gE gH f9 f8 fB fV) ((V4 gE gH f9) gV):=
 lL (fun s:Int×Int×Int=>V3 gE gH f9 s.1 s.2.1 s.2.2) (V4 gE gH f9) (f8,fB,fV) (fun⟨f8,fB,fV⟩ o h=>by
 unfold Ib at h
 refine gN 76 dU gE ?_
 refine iB 77 h (fun h=>?_) fun h=>?_
 obtain⟨o12,h24,h⟩:=bS h
 refine gl (aHz rd h24) ?_
 refine iB 100 h (fun h=>?_) fun h=>?_
 exact lb h
 obtain⟨r13,h26,h⟩:=bS h
 refine gC 103 (SR h26) ?_
 obtain⟨r14,h27,h⟩:=bS h
 refine gC 106 (SR h27) ?_
 refine iB 108 h (fun h=>?_) fun h=>?_
 exact lb h
 refine xX 113 dU h fun x15 h=>?_
 obtain⟨r16,h30,h⟩:=bS h
 refine gC 115 (aGn h30)<|xX 120 dU h fun x17 h=>?_
 obtain⟨r18,h32,h⟩:=bS h
 refine gC 122 (aGn h32) ?_
 exact lb h
 exact lb h) h
theorem aWq(h:Y1 f9 fJ f8 fB=some fE):AM Tryz.prog 4 [.d (AD.D f9),.d ((D.l X2.D) fJ),.d (dW f8),.d (dW fB)] [] (.d (D.b fE)) []:=by
 unfold Y1 at h;apply g0 (o:=fE);obtain⟨r1,h1,h⟩:=bS h;refine gC 18 (aYl h1) ?_;refine iB 20 h (fun h=>?_) fun h=>?_;obtain⟨r2,h3,h⟩:=bS h;refine gC 38 (ZG h3) ?_;exact lf h;refine gN 24 Xg.D f9.states ?_;obtain⟨h4,h⟩:=cS h;refine gQ h4 ?_;refine iB 29 h (fun h=>?_) fun h=>?_;obtain⟨r3,h6,h⟩:=bS h;refine gC 38 (ZG h6) ?_;exact lf h;refine gN 33 Xg.D f9.states ?_;obtain⟨h7,h⟩:=cS h;refine gQ h7 ?_;refine iB 37 h (fun h=>?_) fun h=>?_;obtain⟨r4,h9,h⟩:=bS h;refine gC 38 (ZG h9) ?_;exact lf h;obtain⟨r5,h10,h⟩:=bS h;refine gQ (aWs h10) ?_;obtain⟨r6,h11,h⟩:=bS h;refine gC 49 (aSh h11) ?_;refine iB 55 h (fun h=>?_) fun h=>?_;refine gW 43 (.ret (.d (D.b r5))) ?_;exact lf h;obtain⟨r7,h13,h⟩:=bS h;refine gC 60 (aP2 h13) ?_;refine iB 63 h (fun h=>?_) fun h=>?_;refine gW 43 (.ret (.d (D.b r5))) ?_;exact lf h;cases r5;replace h:=CJ h;refine gW 43 (.ret (.d (D.b false))) ?_;obtain⟨r9,h18,h⟩:=bS h;refine gC 73 (aSt h18) ?_;obtain⟨o19,h33,h⟩:=bS h;refine gl (aHy none h33) ?_;replace h:=AL h;rcases h with⟨o20,rfl,h⟩|⟨o21,rfl,h⟩
 obtain⟨r22,h34,h⟩:=bS h;refine gC 125 (SR h34) ?_;obtain⟨r23,h35,h⟩:=bS h;refine gC 128 (SR h35) ?_;refine iB 130 h (fun h=>?_) fun h=>?_;obtain⟨r24,h37,h⟩:=bS h;refine gC 131 (ZG h37) ?_;exact lf h;exact lf h;exact lf h;replace h:=CK h;refine gN 66 dU r6.1<|gW 43 (.ret (.d (D.b true))) ?_;refine iB 68 h (fun h=>?_) fun h=>?_;obtain⟨r8,h17,h⟩:=bS h;refine gC 69 (ZG h17) ?_;exact lf h;exact lf h
end Go.Ac
