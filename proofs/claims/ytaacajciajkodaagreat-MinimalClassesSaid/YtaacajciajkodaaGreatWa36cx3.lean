/- Own work, printed: the functions compute these. -/
import Derived.Test.YtaacajciajkodaaGreatWa36cx2
set_option linter.unusedVariables false
set_option linter.unusedSimpArgs false
namespace Go.Ac
open Go.Proofs
variable {f8 fB fV gJ gK gM gP:Int}
variable {f9:AD}
variable {fA fD fF:List X0}
variable {fC:(List X0)}
variable {fE fS:Bool}
variable {fG fH fI:X0}
variable {fJ fN fQ:List X2}
variable {fK:List Xc}
variable {fL:Unit⊕X0}
variable {fM:X0×Bool}
variable {fO:Unit⊕Unit}
variable {fR:(List X2)}
variable {fT:X2}
variable {fU:Xc}
variable {fW:X5}
variable {fX:Au}
variable {fY:B0}
variable {fZ:(List X2)⊕Unit}
variable {g8:(List X2×List X2)⊕Unit}
variable {g9:Au×Bool}
variable {gA gD:List Au}
variable {gB:(List Au)}
variable {gE gH gV gY:List Int}
variable {gI:(List Int)}
variable {gO:Xr}
variable {gR:List Xl}
variable {gS:Xl}
variable {gU:(List Xl)}
variable {gX:(List Int×List Int)}
theorem aI9(rd:Option Nat)(h:aRc f8 f9 fA fB=some fC):Lq 66 rd 122 (Wa f8 f9 fA fB) ((Wb f8 f9) fC):=
 lL (fun s:List X0×Int=>Wa f8 f9 s.1 s.2) (Wb f8 f9) (fA,fB) (fun⟨fA,fB⟩ o h=>by
 unfold In at h
 refine gN 17 X5.D f9.symbols ?_
 refine iB 18 h (fun h=>?_) fun h=>?_
 obtain⟨o19,h29,h⟩:=bS h
 refine gl (aJb rd h29) ?_
 exact lb h
 exact lb h) h
theorem aZl(h:Xv f9 f8=some fA):AM Tryz.prog 66 [.d (AD.D f9),dI f8] [] (.d ((D.l X0.D) fA)) []:=by unfold Xv at h;apply g0 (o:=fA);obtain⟨o1,h2,h⟩:=bS h;refine gl (aI6 none h2) ?_;obtain⟨o20,h30,h⟩:=bS h;refine gL [.look 5,.live [1,2,5,6],.keep [2]] (aI9 none h30) ?_;exact lf h
theorem aL7(rd:Option Nat)(h:aRy fA f8 fD fB fE=some fC):Lq 70 rd 1865 ⟨sp 27 0 [sD 0 (D.l X0.D) fA,sI 1 f8,sD 5 (D.l X0.D) fD,sI 6 fB,sD 19 D.b fE],[],[]⟩ (.normal,⟨sp 27 0 [sD 0 (D.l X0.D) fA,sI 1 f8,sD 5 (D.l X0.D) fC,sI 6 fB],[],[]⟩):=by unfold aRy at h;apply g0 (o:=fC);cases fE;replace h:=CL h;exact lp h;replace h:=CM h;refine xX 23 X0.D h fun x7 h=>?_;obtain⟨r8,h12,h⟩:=bS h;refine gC 25 (TF h12) ?_;exact lp h
theorem aL6(rd:Option Nat)(h:aRx fA f8 fD fB=some fC):Lq 70 rd 466 ⟨sp 27 0 [sD 0 (D.l X0.D) fA,sI 1 f8,sD 5 (D.l X0.D) fD,sI 6 fB],[],[]⟩ (.normal,⟨sp 27 0 [sD 0 (D.l X0.D) fA,sI 1 f8,sD 5 (D.l X0.D) fC,sI 6 fB],[],[]⟩):=by unfold aRx at h;apply g0 (o:=fC);refine xX 15 X0.D h fun x6 h=>?_;obtain⟨o9,h13,h⟩:=bS h;refine gl (aL7 rd h13) ?_;exact lp h
def ZV(s0:List X0)(s1:Int)(s5:List X0)(s6:Int):St:=⟨sp 27 0 [sD 0 (D.l X0.D) s0,sI 1 s1,sD 5 (D.l X0.D) s5,sI 6 s6],[],[]⟩
def ZW(s0:List X0)(s1:Int)(o:(List X0)):Ex×St:=(.exit 0,⟨sp 27 0 [sD 5 (D.l X0.D) o],[],[]⟩)
theorem aMa(rd:Option Nat)(h:aL8 fA f8 fD fB=some fC):Lq 70 rd 58 (ZV fA f8 fD fB) ((ZW fA f8) fC):=
 lL (fun s:List X0×Int=>ZV fA f8 s.1 s.2) (ZW fA f8) (fD,fB) (fun⟨fD,fB⟩ o h=>by
 unfold LL at h
 refine gN 9 X0.D fA ?_
 refine iB 10 h (fun h=>?_) fun h=>?_
 obtain⟨o10,h14,h⟩:=bS h
 refine gl (aL6 rd h14) ?_
 exact lb h
 exact lb h) h
theorem bAu(h:Ys fA f8=some fD):AM Tryz.prog 70 [.d ((D.l X0.D) fA),dI f8] [] (.d ((D.l X0.D) fD)) []:=by unfold Ys at h;apply g0 (o:=fD);obtain⟨o11,h15,h⟩:=bS h;refine gL [.look 5,.live [0,1,5,6],.keep []] (aMa none h15) ?_;exact lf h
def aA0(s1 s5:List X0)(s6:Int):St:=⟨sp 21 0 [sD 1 (D.l X0.D) s1,sD 5 (D.l X0.D) s5,sI 6 s6],[],[]⟩
def aA1(s1:List X0)(o:(List X0)):Ex×St:=(.exit 0,⟨sp 21 0 [sD 5 (D.l X0.D) o],[],[]⟩)
theorem aM0(rd:Option Nat)(h:aMy fA fD f8=some fC):Lq 69 rd 58 (aA0 fA fD f8) ((aA1 fA) fC):=
 lL (fun s:List X0×Int=>aA0 fA s.1 s.2) (aA1 fA) (fD,f8) (fun⟨fD,f8⟩ o h=>by
 unfold LN at h
 refine gN 10 X0.D fA ?_
 refine iB 11 h (fun h=>?_) fun h=>?_
 refine xX 17 X0.D h fun x1 h=>?_
 obtain⟨r2,h3,h⟩:=bS h
 refine gC 19 (TF h3) ?_
 exact lb h
 exact lb h) h
theorem bBa(h:Z9 fA fD=some fF):AM Tryz.prog 69 [.d ((D.l X0.D) fA),.d ((D.l X0.D) fD)] [] (.d ((D.l X0.D) fF)) []:=by unfold Z9 at h;apply g0 (o:=fF);obtain⟨o3,h4,h⟩:=bS h;refine gl (aM0 none h4) ?_;exact lf h
theorem aX6(h:Qk fA fG=some fE):AM Tryz.prog 105 [.d ((D.l X0.D) fA),.d (X0.D fG)] [] (.d (D.b fE)) []:=by unfold Qk at h;apply g0 (o:=fE);refine gW 10 (.int (fA.length:Int)) ?_;obtain⟨r1,h1,h⟩:=bS h;refine gC 7 (TF h1)<|gN 8 X0.D r1<|gQ (DK X0.D fA) ?_;exact lf h
theorem aLd(rd:Option Nat)(h:aLc f8 fA fE fG fH=some fI):Lq 68 rd 453 ⟨sp 22 0 [sI 0 f8,sD 1 (D.l X0.D) fA,bx 4,bx 5,sD 12 D.b fE],[cL 4 X0.D fG,cL 5 X0.D fH],[]⟩ (.normal,⟨sp 22 0 [sI 0 f8,sD 1 (D.l X0.D) fA,bx 4,bx 5],[cL 4 X0.D fG,cL 5 X0.D fI],[]⟩):=by unfold aLc at h;apply g0 (o:=fI);cases fE;replace h:=CL h;refine gW 19 (.str (fH.str++([97]:List UInt8))) ?_;obtain⟨h4,h⟩:=cS h;refine gQ (KA h4) ?_;exact lp h;replace h:=CM h;exact lp h
theorem aLb(rd:Option Nat)(h:YU f8 fA fG fH=some fI):Lq 68 rd 113 ⟨sp 22 0 [sI 0 f8,sD 1 (D.l X0.D) fA,bx 4,bx 5],[cL 4 X0.D fG,cL 5 X0.D fH],[]⟩ (.normal,⟨sp 22 0 [sI 0 f8,sD 1 (D.l X0.D) fA,bx 4,bx 5],[cL 4 X0.D fG,cL 5 X0.D fI],[]⟩):=by unfold YU at h;apply g0 (o:=fI);obtain⟨o2,h5,h⟩:=bS h;refine gl (aLd rd h5) ?_;exact lp h
def YW(s0:Int)(s1:List X0)(w4 w5:X0):St:=⟨sp 22 0 [sI 0 s0,sD 1 (D.l X0.D) s1,bx 4,bx 5],[cL 4 X0.D w4,cL 5 X0.D w5],[]⟩
def YX(s0:Int)(s1:List X0)(w4 o:X0):Ex×St:=(.exit 0,⟨sp 22 0 [bx 4,bx 5],[cL 4 X0.D w4,cL 5 X0.D o],[]⟩)
theorem aLe(rd:Option Nat)(h:YV f8 fA fG fH=some fI):Lq 68 rd 28 (YW f8 fA fG fH) ((YX f8 fA fG) fI):=
 lL (fun s:X0=>YW f8 fA fG s) (YX f8 fA fG) fH (fun fH o h=>by
 unfold I1 at h
 obtain⟨r1,h1,h⟩:=bS h
 refine gQ (aX6 h1) ?_
 cases r1
 replace h:=CL h
 refine gW 10 (.ret (.d (D.b false))) ?_
 exact lb h
 replace h:=CM h
 refine gW 10 (.ret (.d (D.b true))) ?_
 obtain⟨o3,h6,h⟩:=bS h
 refine gl (aLb rd h6) ?_
 exact lb h) h
theorem bAe(h:Yf f8 fA=some fG):AM Tryz.prog 68 [dI f8,.d ((D.l X0.D) fA)] [] (.d (X0.D fG)) []:=by unfold Yf at h;apply g0 (o:=fG);obtain⟨o4,h7,h⟩:=bS h;refine gl (aLe none h7) ?_;exact lf h
theorem aLr(rd:Option Nat)(h:aLq f8 fJ fA fD fB fE=some fC):Lq 49 rd 1865 ⟨sp 47 0 [sI 1 f8,sD 2 (D.l X2.D) fJ,sD 3 (D.l X0.D) fA,sD 9 (D.l X0.D) fD,sI 10 fB,sD 27 D.b fE],[],[]⟩ (.normal,⟨sp 47 0 [sI 1 f8,sD 2 (D.l X2.D) fJ,sD 3 (D.l X0.D) fA,sD 9 (D.l X0.D) fC,sI 10 fB],[],[]⟩):=by unfold aLq at h;apply g0 (o:=fC);cases fE;replace h:=CL h;exact lp h;replace h:=CM h;refine xX 31 X2.D h fun x3 h=>?_;obtain⟨r4,h6,h⟩:=bS h;refine gC 34 (TF h6) ?_;exact lp h
theorem aLp(rd:Option Nat)(h:aLo f8 fJ fA fD fB=some fC):Lq 49 rd 466 ⟨sp 47 0 [sI 1 f8,sD 2 (D.l X2.D) fJ,sD 3 (D.l X0.D) fA,sD 9 (D.l X0.D) fD,sI 10 fB],[],[]⟩ (.normal,⟨sp 47 0 [sI 1 f8,sD 2 (D.l X2.D) fJ,sD 3 (D.l X0.D) fA,sD 9 (D.l X0.D) fC,sI 10 fB],[],[]⟩):=by unfold aLo at h;apply g0 (o:=fC);refine xX 22 X2.D h fun x2 h=>?_;obtain⟨o5,h7,h⟩:=bS h;refine gl (aLr rd h7) ?_;exact lp h
def ZN(s1:Int)(s2:List X2)(s3 s9:List X0)(s10:Int):St:=⟨sp 47 0 [sI 1 s1,sD 2 (D.l X2.D) s2,sD 3 (D.l X0.D) s3,sD 9 (D.l X0.D) s9,sI 10 s10],[],[]⟩
def ZO(s1:Int)(s2:List X2)(s3:List X0)(o:(List X0)):Ex×St:=(.exit 0,⟨sp 47 0 [sI 1 s1,sD 3 (D.l X0.D) s3,sD 9 (D.l X0.D) o],[],[]⟩)
theorem aLt(rd:Option Nat)(h:aLs f8 fJ fA fD fB=some fC):Lq 49 rd 58 (ZN f8 fJ fA fD fB) ((ZO f8 fJ fA) fC):=
 lL (fun s:List X0×Int=>ZN f8 fJ fA s.1 s.2) (ZO f8 fJ fA) (fD,fB) (fun⟨fD,fB⟩ o h=>by
 unfold I4 at h
 refine gN 16 X2.D fJ ?_
 refine iB 17 h (fun h=>?_) fun h=>?_
 obtain⟨o6,h8,h⟩:=bS h
 refine gl (aLp rd h8) ?_
 exact lb h
 exact lb h) h
theorem bAp(h:Ym f9 f8 fJ fA=some fD):AM Tryz.prog 49 [.d (AD.D f9),dI f8,.d ((D.l X2.D) fJ),.d ((D.l X0.D) fA)] [] (.d ((D.l X0.D) fD)) []:=by unfold Ym at h;apply g0 (o:=fD);obtain⟨r1,h1,h⟩:=bS h;refine gC 13 (aZl h1) ?_;obtain⟨o7,h9,h⟩:=bS h;refine gl (aLt none h9) ?_;refine iB 36 h (fun h=>?_) fun h=>?_;exact lf h;obtain⟨r8,h11,h⟩:=bS h;refine gC 43 (bAu h11) ?_;obtain⟨r9,h12,h⟩:=bS h;refine gC 44 (bBa h12) ?_;obtain⟨r10,h13,h⟩:=bS h;refine gC 45 (bAe h13) ?_;obtain⟨r11,h14,h⟩:=bS h;refine gC 46 (TF h14) ?_;exact lf h
def ZC(s1:Int)(s2:List X2)(s3 s4 s12:List X0)(w5:AD)(s13:Int)(w11:List Xc):St:=⟨sp 72 0 [sI 1 s1,sD 2 (D.l X2.D) s2,sD 3 (D.l X0.D) s3,sD 4 (D.l X0.D) s4,bx 5,rx 11,sD 12 (D.l X0.D) s12,sI 13 s13],[cL 5 AD.D w5,(11,.row 88 2 (w11.map Xc.D))],[]⟩
def ZD(s1:Int)(s2:List X2)(s3 s4 s12:List X0)(w5:AD)(o:(List Xc)):Ex×St:=(.exit 0,⟨sp 72 0 [rx 11],[(11,.row 88 2 (o.map Xc.D))],[]⟩)
theorem aLh(rd:Option Nat)(self:AD->Int->(List X2)->(List X0)->(List X0)->Option (List Xc))(hs:∀(a0:AD) (a1:Int) (a2:List X2) (a3 a4:List X0) (r:List Xc),self a0 a1 a2 a3 a4=some r->AM Tryz.prog 32 [.d (AD.D a0),dI a1,.d ((D.l X2.D) a2),.d ((D.l X0.D) a3),.d ((D.l X0.D) a4)] [] (.d ((D.l Xc.D) r)) []){s1:Int}{s2:List X2}{s3 s4 s12:List X0}{w5:AD}{s13:Int}{w11:List Xc}{t:(List Xc)}(h:aRt self s1 s2 s3 s4 s12 w5 s13 w11=some t):Lq 32 rd 250 (ZC s1 s2 s3 s4 s12 w5 s13 w11) ((ZD s1 s2 s3 s4 s12 w5) t):=
 lL (fun s:Int×List Xc=>ZC s1 s2 s3 s4 s12 w5 s.1 s.2) (ZD s1 s2 s3 s4 s12 w5) (s13,w11) (fun⟨s13,w11⟩ o h=>by
 unfold I3 at h
 refine gN 50 X0.D s12 ?_
 refine iB 51 h (fun h=>?_) fun h=>?_
 refine gQ (Ah X0.D ([]:List X0))<|gG 56 (.sl ((([]:List X0)++s4).map X0.D)) (Ah X0.D s4) ?_
 obtain⟨h14,h⟩:=cS h
 refine gQ (Ao X0.D h14)<|gQ (Am X0.D ([]:List X0) s4)<|xX 59 X0.D h fun x8 h=>?_
 refine gQ (Ah X0.D [x8])<|gG 62 (.sl (((([]:List X0)++s4)++[x8]).map X0.D)) (Ah X0.D [x8]) ?_
 obtain⟨h16,h⟩:=cS h
 refine gQ (Ao X0.D h16)<|gQ (Am X0.D (([]:List X0)++s4) [x8]) ?_
 obtain⟨r9,h17,h⟩:=bS h
 refine gG 69 (.ret (.d ((D.l Xc.D) r9))) (hs w5 s1 s2 s3 ((([]:List X0)++s4)++[x8]) r9 h17)<|gG 70 (.sl ((w11++r9).map Xc.D)) (Ah Xc.D r9) ?_
 obtain⟨h18,h⟩:=cS h
 refine gQ (Ao Xc.D h18)<|gQ (Am Xc.D w11 r9) ?_
 exact lB h [.live [1,2,3,4,5,11,12,13],.keep [5,70],.ren 70 11,.sort]
 exact lb h) h
theorem aRs(self:AD->Int->(List X2)->(List X0)->(List X0)->Option (List Xc))(hs:∀(a0:AD) (a1:Int) (a2:List X2) (a3 a4:List X0) (r:List Xc),self a0 a1 a2 a3 a4=some r->AM Tryz.prog 32 [.d (AD.D a0),dI a1,.d ((D.l X2.D) a2),.d ((D.l X0.D) a3),.d ((D.l X0.D) a4)] [] (.d ((D.l Xc.D) r)) [])(a0:AD)(a1:Int)(a2:List X2)(a3 a4:List X0)(r:List Xc)(h:aVp self a0 a1 a2 a3 a4=some r):AM Tryz.prog 32 [.d (AD.D a0),dI a1,.d ((D.l X2.D) a2),.d ((D.l X0.D) a3),.d ((D.l X0.D) a4)] [] (.d ((D.l Xc.D) r)) []:=by unfold aVp at h;apply g0 (o:=r);refine gN 16 X0.D a4<|xX 20 Xm.D h fun x1 h=>?_;refine gN 23 dZ x1.types ?_;refine iB 24 h (fun h=>?_) fun h=>?_;refine xX 28 Xm.D h fun x2 h=>?_;refine gQ (Ah Xc.D [Xc.mk x2.name a4]) ?_;exact lf h;refine gW 42 (.int (a4.length:Int))<|xX 38 Xm.D h fun x3 h=>?_;refine gQ (DK X0.D a4)<|xX 43 dZ h fun x4 h=>?_;obtain⟨r5,h6,h⟩:=bS h;refine gC 47 (bAp h6) ?_;obtain⟨o10,h19,h⟩:=bS h;refine gL [.live [1,2,3,4,5,11,12,13],.keep [5],.nil 11 11 88 2,.sort] (aLh none self hs h19) ?_;exact lf h
theorem ZE:∀(n:Nat) (a0:AD) (a1:Int) (a2:List X2) (a3 a4:List X0) (r:List Xc),aPj n a0 a1 a2 a3 a4=some r->AM Tryz.prog 32 [.d (AD.D a0),dI a1,.d ((D.l X2.D) a2),.d ((D.l X0.D) a3),.d ((D.l X0.D) a4)] [] (.d ((D.l Xc.D) r)) []
 |0,a0,a1,a2,a3,a4,r,h=>by simp[aPj]at h
 |n+1,a0,a1,a2,a3,a4,r,h=>aRs _ (ZE n) a0 a1 a2 a3 a4 r h
theorem bAf(h:Yh f9 f8 fJ fA fD=some fK):AM Tryz.prog 32 [.d (AD.D f9),dI f8,.d ((D.l X2.D) fJ),.d ((D.l X0.D) fA),.d ((D.l X0.D) fD)] [] (.d ((D.l Xc.D) fK)) []:=ZE 100000 f9 f8 fJ fA fD fK h
def ZX(s0:List X2)(s1:Int)(w4:X0)(s6:Int):St:=⟨sp 26 0 [sD 0 (D.l X2.D) s0,sI 1 s1,bx 4,sI 6 s6],[cL 4 X0.D w4],[]⟩
def ZY(s0:List X2)(s1:Int)(w4:X0)(o:Unit⊕X0):Ex×St:=match o with
 | .inl o=>(.exit 0,⟨sp 26 0 [bx 4],[cL 4 X0.D w4],[]⟩)
 | .inr o=>(.ret,⟨sp 26 0 [bx 4,sD 5 D.b true],[cL 4 X0.D o],[]⟩)
theorem aMc(rd:Option Nat)(h:aRz fJ f8 fG fB=some fL):Lq 71 rd 26 (ZX fJ f8 fG fB) ((ZY fJ f8 fG) fL):=
 lL (fun s:Int=>ZX fJ f8 fG s) (ZY fJ f8 fG) fB (fun fB o h=>by
 unfold LM at h
 refine gN 9 X2.D fJ ?_
 refine iB 10 h (fun h=>?_) fun h=>?_
 refine xX 15 X2.D h fun x1 h=>?_
 refine iB 19 h (fun h=>?_) fun h=>?_
 refine xX 22 X2.D h fun x2 h=>?_
 exact lb h
 exact lb h
 exact lb h) h
theorem ZZ(h:Yt fJ f8=some fM):AM Tryz.prog 71 [.d ((D.l X2.D) fJ),dI f8] [] (.tup [.d (X0.D fM.1),.d (D.b fM.2)]) []:=by
 unfold Yt at h;apply g0 (o:=fM);obtain⟨o3,h5,h⟩:=bS h;refine gl (aMc none h5) ?_;replace h:=AL h;rcases h with⟨o4,rfl,h⟩|⟨o5,rfl,h⟩
 exact lf h;exact lf h
def aBc(s0 s1:List X2)(s5:Int):St:=⟨sp 34 0 [sD 0 (D.l X2.D) s0,sD 1 (D.l X2.D) s1,sI 5 s5],[],[]⟩
def aBd(s0 s1:List X2)(o:Unit⊕Unit):Ex×St:=match o with
 | .inl o=>(.exit 0,⟨sp 34 0 [],[],[]⟩)
 | .inr o=>(.ret,⟨sp 34 0 [sD 4 D.b false],[],[]⟩)
theorem aM6(rd:Option Nat)(h:aSa fJ fN f8=some fO):Lq 72 rd 26 (aBc fJ fN f8) ((aBd fJ fN) fO):=
 lL (fun s:Int=>aBc fJ fN s) (aBd fJ fN) f8 (fun f8 o h=>by
 unfold LP at h
 refine gN 10 X2.D fJ ?_
 refine iB 11 h (fun h=>?_) fun h=>?_
 refine xX 18 X2.D h fun x1 h=>?_
 obtain⟨r2,h3,h⟩:=bS h
 refine gC 21 (ZZ h3) ?_
 refine iB 25 h (fun h=>?_) fun h=>?_
 refine xX 29 X2.D h fun x3 h=>?_
 refine iB 33 h (fun h=>?_) fun h=>?_
 exact lb h
 exact lb h
 exact lb h
 exact lb h) h
theorem bBj(h:Zf fJ fN=some fE):AM Tryz.prog 72 [.d ((D.l X2.D) fJ),.d ((D.l X2.D) fN)] [] (.d (D.b fE)) []:=by
 unfold Zf at h;apply g0 (o:=fE);obtain⟨o4,h7,h⟩:=bS h;refine gl (aM6 none h7) ?_;replace h:=AL h;rcases h with⟨o5,rfl,h⟩|⟨o6,rfl,h⟩
 exact lf h;exact lf h
theorem aK9(rd:Option Nat)(h:aK8 fJ fN f8 fE fQ fG=some fR):Lq 73 rd 29855 ⟨sp 42 0 [sD 0 (D.l X2.D) fJ,sD 1 (D.l X2.D) fN,rx 5,sI 6 f8,bx 9,sD 34 D.b fE],[(5,.row 59 5 (fQ.map X2.D)),cL 9 X0.D fG],[]⟩ (.normal,⟨sp 42 0 [sD 0 (D.l X2.D) fJ,sD 1 (D.l X2.D) fN,rx 5,sI 6 f8],[(5,.row 59 5 (fR.map X2.D))],[]⟩):=by unfold aK8 at h;apply g0 (o:=fR);cases fE;replace h:=CL h;exact lp h;replace h:=CM h;refine gQ (Ah X2.D [X2.mk f8 fG])<|gG 40 (.sl ((fQ++[X2.mk f8 fG]).map X2.D)) (Ah X2.D [X2.mk f8 fG]) ?_;obtain⟨h17,h⟩:=cS h;refine gQ (Ao X2.D h17)<|gQ (Am X2.D fQ [X2.mk f8 fG]) ?_;exact lP h [.live [0,1,5,6],.keep [40],.ren 40 5,.sort]
theorem aK7(rd:Option Nat)(h:aK6 fJ fN f8 fE fS fQ fG fH=some fR):Lq 73 rd 7463 ⟨sp 42 0 [sD 0 (D.l X2.D) fJ,sD 1 (D.l X2.D) fN,rx 5,sI 6 f8,bx 7,bx 9,sD 10 D.b fE,sD 27 D.b fS],[(5,.row 59 5 (fQ.map X2.D)),cL 7 X0.D fG,cL 9 X0.D fH],[]⟩ (.normal,⟨sp 42 0 [sD 0 (D.l X2.D) fJ,sD 1 (D.l X2.D) fN,rx 5,sI 6 f8],[(5,.row 59 5 (fR.map X2.D))],[]⟩):=by unfold aK6 at h;apply g0 (o:=fR);cases fS;replace h:=CL h;obtain⟨o8,h18,h⟩:=bS h;refine gl (aK9 rd h18) ?_;exact lp h;replace h:=CM h;refine gQ (Ah X2.D [X2.mk f8 fG])<|gG 33 (.sl ((fQ++[X2.mk f8 fG]).map X2.D)) (Ah X2.D [X2.mk f8 fG]) ?_;obtain⟨h15,h⟩:=cS h;refine gQ (Ao X2.D h15)<|gQ (Am X2.D fQ [X2.mk f8 fG]) ?_;exact lP h [.live [0,1,5,6],.keep [33],.ren 33 5,.sort]
theorem aK5(rd:Option Nat)(h:aK4 fJ fN f8 fQ=some fR):Lq 73 rd 466 ⟨sp 42 0 [sD 0 (D.l X2.D) fJ,sD 1 (D.l X2.D) fN,rx 5,sI 6 f8],[(5,.row 59 5 (fQ.map X2.D))],[]⟩ (.normal,⟨sp 42 0 [sD 0 (D.l X2.D) fJ,sD 1 (D.l X2.D) fN,rx 5,sI 6 f8],[(5,.row 59 5 (fR.map X2.D))],[]⟩):=by unfold aK4 at h;apply g0 (o:=fR);obtain⟨r6,h12,h⟩:=bS h;refine gC 18 (ZZ h12) ?_;obtain⟨r7,h13,h⟩:=bS h;refine gC 24 (ZZ h13) ?_;obtain⟨o9,h19,h⟩:=bS h;refine gl (aK7 rd h19) ?_;exact lp h
def YS(s0 s1:List X2)(s6:Int)(w5:List X2):St:=⟨sp 42 0 [sD 0 (D.l X2.D) s0,sD 1 (D.l X2.D) s1,rx 5,sI 6 s6],[(5,.row 59 5 (w5.map X2.D))],[]⟩
def YT(s0 s1:List X2)(o:(List X2)):Ex×St:=(.exit 0,⟨sp 42 0 [rx 5],[(5,.row 59 5 (o.map X2.D))],[]⟩)
theorem aLa(rd:Option Nat)(h:aRp fJ fN f8 fQ=some fR):Lq 73 rd 58 (YS fJ fN f8 fQ) ((YT fJ fN) fR):=
 lL (fun s:Int×List X2=>YS fJ fN s.1 s.2) (YT fJ fN) (f8,fQ) (fun⟨f8,fQ⟩ o h=>by
 unfold I0 at h
 refine iB 12 h (fun h=>?_) fun h=>?_
 obtain⟨o10,h20,h⟩:=bS h
 refine gl (aK5 rd h20) ?_
 exact lb h
 exact lb h) h
theorem bAd(h:Ye fJ fN=some fQ):AM Tryz.prog 73 [.d ((D.l X2.D) fJ),.d ((D.l X2.D) fN)] [] (.d ((D.l X2.D) fQ)) []:=by unfold Ye at h;apply g0 (o:=fQ);obtain⟨o11,h21,h⟩:=bS h;refine gL [.live [0,1,5,6],.keep [],.nil 5 5 59 5,.sort] (aLa none h21) ?_;exact lf h
def aA2(s0:List X2)(w3:X2)(s5:Int):St:=⟨sp 38 0 [sD 0 (D.l X2.D) s0,bx 3,sI 5 s5],[cL 3 X2.D w3],[]⟩
def aA3(s0:List X2)(w3:X2)(o:Int):Ex×St:=(.exit 0,⟨sp 38 0 [sD 0 (D.l X2.D) s0,bx 3,sI 5 o],[cL 3 X2.D w3],[]⟩)
theorem aM1(rd:Option Nat)(h:aR7 fJ fT f8=some fB):Lq 74 rd 28 (aA2 fJ fT f8) ((aA3 fJ fT) fB):=
 lL (fun s:Int=>aA2 fJ fT s) (aA3 fJ fT) f8 (fun f8 o h=>by
 unfold JF at h
 refine iB 11 h (fun h=>?_) fun h=>?_
 refine xX 15 X2.D h fun x1 h=>?_
 refine iB 21 h (fun h=>?_) fun h=>?_
 exact lb h
 exact lb h
 exact lb h) h
theorem bBc(h:Za fJ fT=some fN):AM Tryz.prog 74 [.d ((D.l X2.D) fJ),.d (X2.D fT)] [] (.d ((D.l X2.D) fN)) []:=by unfold Za at h;apply g0 (o:=fN);refine gN 8 X2.D fJ ?_;obtain⟨o2,h4,h⟩:=bS h;refine gl (aM1 none h4)<|gQ (Ah X2.D ([]:List X2))<|gW 27 (.sl ((sub fJ 0 o2).map X2.D))<|gW 28 (.sl ((([]:List X2)++(sub fJ 0 o2)).map X2.D))<|gW 32 (.sl (((([]:List X2)++(sub fJ 0 o2))++[fT]).map X2.D))<|gW 36 (.sl ((sub fJ o2 (fJ.length:Int)).map X2.D))<|gW 37 (.sl ((((([]:List X2)++(sub fJ 0 o2))++[fT])++(sub fJ o2 (fJ.length:Int))).map X2.D)) ?_;obtain⟨h5,h⟩:=cS h;refine gQ (FU X2.D h5)<|gQ (Ah X2.D (sub fJ 0 o2)) ?_;obtain⟨h6,h⟩:=cS h;refine gQ (Ao X2.D h6)<|gQ (Am X2.D ([]:List X2) (sub fJ 0 o2))<|gQ (Ah X2.D [fT])<|gQ (Ah X2.D [fT]) ?_;obtain⟨h7,h⟩:=cS h;refine gQ (Ao X2.D h7)<|gQ (Am X2.D (([]:List X2)++(sub fJ 0 o2)) [fT]) ?_;obtain⟨h8,h⟩:=cS h;refine gQ (FT X2.D h8)<|gQ (Ah X2.D (sub fJ o2 (fJ.length:Int))) ?_;obtain⟨h9,h⟩:=cS h;refine gQ (Ao X2.D h9)<|gQ (Am X2.D ((([]:List X2)++(sub fJ 0 o2))++[fT]) (sub fJ o2 (fJ.length:Int))) ?_;exact lf h
theorem QX(rd:Option Nat)(h:Wt f8 fJ fN fB fE fU fV fW fX fY fQ=some fZ):Lq 51 rd 521373 ⟨sp 121 0 [sI 1 f8,bx 5,bx 6,bx 8,bx 9,sD 10 (D.l X2.D) fJ,sD 11 (D.l X2.D) fN,sI 12 fB,bx 13,rx 14,sD 80 D.b fE],[cL 5 Xc.D fU,(6,.cells ([dI fV,.nil,.nil])),cL 8 X5.D fW,cL 9 Au.D fX,cL 13 B0.D fY,(14,.row 59 5 (fQ.map X2.D))],[]⟩ (match (generalizing:=false) fZ with
 | .inl fZ=>(.normal,⟨sp 121 0 [sI 1 f8,bx 5,bx 6,bx 8,bx 9,sD 10 (D.l X2.D) fZ,sD 11 (D.l X2.D) fN,sI 12 fB,bx 13,rx 14],[cL 5 Xc.D fU,(6,.cells ([dI fV,.nil,.nil])),cL 8 X5.D fW,cL 9 Au.D fX,cL 13 B0.D fY,(14,.row 59 5 (fQ.map X2.D))],[]⟩)
 | .inr fZ=>(.ret,⟨sp 121 0 [bx 6,sD 7 D.b false],[cL 6 Au.D fX],[]⟩)):=by
 unfold Wt at h
 apply g0 (o:=fZ)
 cases fE
 replace h:=CL h
 exact lp h
 replace h:=CM h
 obtain⟨r32,h37,h⟩:=bS h
 refine gC 83 (bBj h37) ?_
 refine iB 84 h (fun h=>?_) fun h=>?_
 exact lp h
 obtain⟨r33,h39,h⟩:=bS h
 refine gC 88 (bAd h39) ?_
 exact lp h
theorem QZ(rd:Option Nat)(h:Wv f8 fJ fN fB fE fU fV fW fX fQ=some fR):Lq 51 rd 8342007 ⟨sp 121 0 [sI 1 f8,bx 5,bx 6,bx 8,bx 9,sD 10 (D.l X2.D) fJ,sD 11 (D.l X2.D) fN,sI 12 fB,rx 14,sD 111 D.b fE],[cL 5 Xc.D fU,(6,.cells ([dI fV,.nil,.nil])),cL 8 X5.D fW,cL 9 Au.D fX,(14,.row 59 5 (fQ.map X2.D))],[]⟩ (.normal,⟨sp 121 0 [sI 1 f8,bx 5,bx 6,bx 8,bx 9,sD 10 (D.l X2.D) fJ,sD 11 (D.l X2.D) fR,sI 12 fB],[cL 5 Xc.D fU,(6,.cells ([dI fV,.nil,.nil])),cL 8 X5.D fW,cL 9 Au.D fX],[]⟩):=by unfold Wv at h;apply g0 (o:=fR);cases fE;replace h:=CL h;exact lp h;replace h:=CM h;refine xX 114 X2.D h fun x39 h=>?_;obtain⟨r40,h48,h⟩:=bS h;refine gC 116 (bBc h48) ?_;exact lp h
theorem QY(rd:Option Nat)(h:Wu f8 fJ fN fB fE fU fV fW fX fY fQ=some fZ):Lq 51 rd 521375 ⟨sp 121 0 [sI 1 f8,bx 5,bx 6,bx 8,bx 9,sD 10 (D.l X2.D) fJ,sD 11 (D.l X2.D) fN,sI 12 fB,bx 13,rx 14,sD 91 D.b fE],[cL 5 Xc.D fU,(6,.cells ([dI fV,.nil,.nil])),cL 8 X5.D fW,cL 9 Au.D fX,cL 13 B0.D fY,(14,.row 59 5 (fQ.map X2.D))],[]⟩ (match (generalizing:=false) fZ with
 | .inl fZ=>(.normal,⟨sp 121 0 [sI 1 f8,bx 5,bx 6,bx 8,bx 9,sD 10 (D.l X2.D) fJ,sD 11 (D.l X2.D) fZ,sI 12 fB],[cL 5 Xc.D fU,(6,.cells ([dI fV,.nil,.nil])),cL 8 X5.D fW,cL 9 Au.D fX],[]⟩)
 | .inr fZ=>(.ret,⟨sp 121 0 [bx 6,sD 7 D.b false],[cL 6 Au.D fX],[]⟩)):=by
 unfold Wu at h
 apply g0 (o:=fZ)
 cases fE
 replace h:=CL h
 exact lp h
 replace h:=CM h
 obtain⟨r37,h42,h⟩:=bS h
 refine gC 96 (ZZ h42) ?_
 refine iB 100 h (fun h=>?_) fun h=>?_
 refine xX 105 X0.D h fun x38 h=>?_
 refine iB 108 h (fun h=>?_) fun h=>?_
 exact lp h
 obtain⟨o41,h49,h⟩:=bS h
 refine gl (QZ rd h49) ?_
 exact lp h
 obtain⟨o42,h50,h⟩:=bS h
 refine gl (QZ rd h50) ?_
 exact lp h
theorem aJo(rd:Option Nat)(h:aJn f8 fJ fN fB fU fV fW fX=some g8):Lq 51 rd 8146 ⟨sp 121 0 [sI 1 f8,bx 5,bx 6,bx 8,bx 9,sD 10 (D.l X2.D) fJ,sD 11 (D.l X2.D) fN,sI 12 fB],[cL 5 Xc.D fU,(6,.cells ([dI fV,.nil,.nil])),cL 8 X5.D fW,cL 9 Au.D fX],[]⟩ (match (generalizing:=false) g8 with
 | .inl g8=>(.normal,⟨sp 121 0 [sI 1 f8,bx 5,bx 6,bx 8,bx 9,sD 10 (D.l X2.D) g8.1,sD 11 (D.l X2.D) g8.2,sI 12 fB],[cL 5 Xc.D fU,(6,.cells ([dI fV,.nil,.nil])),cL 8 X5.D fW,cL 9 Au.D fX],[]⟩)
 | .inr g8=>(.ret,⟨sp 121 0 [bx 6,sD 7 D.b false],[cL 6 Au.D fX],[]⟩)):=by
 unfold aJn at h
 apply g0 (o:=g8)
 refine xX 53 B0.D h fun x29 h=>?_
 refine xX 60 X0.D h fun x30 h=>?_
 refine gQ (Ah X2.D [X2.mk x29.n x30]) ?_
 refine iB 67 h (fun h=>?_) fun h=>?_
 refine xX 73 X0.D h fun x31 h=>?_
 refine iB 76 h (fun h=>?_) fun h=>?_
 exact lp h
 obtain⟨o34,h40,h⟩:=bS h
 refine gL [.live [1,5,6,8,9,10,11,12,13,14,80],.keep [5,6,8,9,13,63],.ren 63 14,.sort] (QX rd h40) ?_
 replace h:=AL h
 rcases h with⟨o35,rfl,h⟩|⟨o36,rfl,h⟩
 obtain⟨o43,h51,h⟩:=bS h
 refine gl (QY rd h51) ?_
 replace h:=AL h
 rcases h with⟨o44,rfl,h⟩|⟨o45,rfl,h⟩
 exact lp h
 exact lp h
 exact lp h
 obtain⟨o46,h52,h⟩:=bS h
 refine gL [.live [1,5,6,8,9,10,11,12,13,14,80],.keep [5,6,8,9,13,63],.ren 63 14,.sort] (QX rd h52) ?_
 replace h:=AL h
 rcases h with⟨o47,rfl,h⟩|⟨o48,rfl,h⟩
 obtain⟨o49,h53,h⟩:=bS h
 refine gl (QY rd h53) ?_
 replace h:=AL h
 rcases h with⟨o50,rfl,h⟩|⟨o51,rfl,h⟩
 exact lp h
 exact lp h
 exact lp h
def Ww(s1:Int)(w5:Xc)(w6:Int)(w8:X5)(w9:Au)(s10 s11:List X2)(s12:Int):St:=⟨sp 121 0 [sI 1 s1,bx 5,bx 6,bx 8,bx 9,sD 10 (D.l X2.D) s10,sD 11 (D.l X2.D) s11,sI 12 s12],[cL 5 Xc.D w5,(6,.cells ([dI w6,.nil,.nil])),cL 8 X5.D w8,cL 9 Au.D w9],[]⟩
def Wx(s1:Int)(w5:Xc)(w6:Int)(w8:X5)(w9:Au)(o:(List X2×List X2)⊕Unit):Ex×St:=match o with
 | .inl o=>(.exit 0,⟨sp 121 0 [sI 1 s1,bx 6,sD 10 (D.l X2.D) o.1,sD 11 (D.l X2.D) o.2],[(6,.cells ([dI w6,.nil,.nil]))],[]⟩)
 | .inr o=>(.ret,⟨sp 121 0 [bx 6,sD 7 D.b false],[cL 6 Au.D w9],[]⟩)
theorem aJp(rd:Option Nat)(h:S4 f8 fU fB fW fX fJ fN fV=some g8):Lq 51 rd 1018 (Ww f8 fU fB fW fX fJ fN fV) ((Wx f8 fU fB fW fX) g8):=
 lL (fun s:List X2×List X2×Int=>Ww f8 fU fB fW fX s.1 s.2.1 s.2.2) (Wx f8 fU fB fW fX) (fJ,fN,fV) (fun⟨fJ,fN,fV⟩ o h=>by
 unfold Ir at h
 refine gN 46 B0.D fW.args ?_
 refine iB 47 h (fun h=>?_) fun h=>?_
 obtain⟨o52,h54,h⟩:=bS h
 refine gl (aJo rd h54) ?_
 replace h:=AL h
 rcases h with⟨o53,rfl,h⟩|⟨o54,rfl,h⟩
 exact lb h
 exact lb h
 exact lb h) h
theorem aZo(h:Xz f9 f8 fU=some g9):AM Tryz.prog 51 [.d (AD.D f9),dI f8,.d (Xc.D fU)] [] (.tup [.d (Au.D g9.1),.d (D.b g9.2)]) []:=by
 unfold Xz at h;apply g0 (o:=g9);refine xX 20 X5.D h fun x1 h=>?_;refine xX 27 Xm.D h fun x2 h=>?_;refine iB 33 h (fun h=>?_) fun h=>?_;exact lf h;refine gN 36 B0.D x1.args<|gN 39 X0.D fU.args ?_;refine iB 41 h (fun h=>?_) fun h=>?_;exact lf h;obtain⟨o55,h55,h⟩:=bS h;refine gL [.look 10,.look 11,.live [1,5,6,8,9,10,11,12],.keep [5,6,8,9]] (aJp none h55) ?_;replace h:=AL h;rcases h with⟨o56,rfl,h⟩|⟨o57,rfl,h⟩
 exact lf h;exact lf h
theorem aLx(rd:Option Nat)(h:aLw f8 fE f9 fU gA fX=some gB):Lq 35 rd 3731 ⟨sp 29 0 [bx 2,bx 3,rx 5,sI 6 f8,bx 7,sD 23 D.b fE],[cL 2 AD.D f9,cL 3 Xc.D fU,(5,.row 125 3 (gA.map Au.D)),cL 7 Au.D fX],[]⟩ (.normal,⟨sp 29 0 [bx 2,bx 3,rx 5,sI 6 f8],[cL 2 AD.D f9,cL 3 Xc.D fU,(5,.row 125 3 (gB.map Au.D))],[]⟩):=by unfold aLw at h;apply g0 (o:=gB);cases fE;replace h:=CL h;exact lp h;replace h:=CM h;refine gQ (Ah Au.D [fX])<|gG 27 (.sl ((gA++[fX]).map Au.D)) (Ah Au.D [fX]) ?_;obtain⟨h10,h⟩:=cS h;refine gQ (Ao Au.D h10)<|gQ (Am Au.D gA [fX]) ?_;exact lP h [.live [2,3,5,6],.keep [2,3,27],.ren 27 5,.sort]
theorem aLv(rd:Option Nat)(h:aLu f8 f9 fU gA=some gB):Lq 35 rd 466 ⟨sp 29 0 [bx 2,bx 3,rx 5,sI 6 f8],[cL 2 AD.D f9,cL 3 Xc.D fU,(5,.row 125 3 (gA.map Au.D))],[]⟩ (.normal,⟨sp 29 0 [bx 2,bx 3,rx 5,sI 6 f8],[cL 2 AD.D f9,cL 3 Xc.D fU,(5,.row 125 3 (gB.map Au.D))],[]⟩):=by unfold aLu at h;apply g0 (o:=gB);obtain⟨r4,h8,h⟩:=bS h;refine gC 20 (aZo h8) ?_;obtain⟨o5,h11,h⟩:=bS h;refine gl (aLx rd h11) ?_;exact lp h
def ZP(w2:AD)(w3:Xc)(s6:Int)(w5:List Au):St:=⟨sp 29 0 [bx 2,bx 3,rx 5,sI 6 s6],[cL 2 AD.D w2,cL 3 Xc.D w3,(5,.row 125 3 (w5.map Au.D))],[]⟩
def ZQ(w2:AD)(w3:Xc)(o:(List Au)):Ex×St:=(.exit 0,⟨sp 29 0 [rx 5],[(5,.row 125 3 (o.map Au.D))],[]⟩)
theorem aLy(rd:Option Nat)(h:aRu f9 fU f8 gA=some gB):Lq 35 rd 58 (ZP f9 fU f8 gA) ((ZQ f9 fU) gB):=
 lL (fun s:Int×List Au=>ZP f9 fU s.1 s.2) (ZQ f9 fU) (f8,gA) (fun⟨f8,gA⟩ o h=>by
 unfold I5 at h
 refine gN 12 X5.D f9.symbols ?_
 refine iB 13 h (fun h=>?_) fun h=>?_
 obtain⟨o6,h12,h⟩:=bS h
 refine gl (aLv rd h12) ?_
 exact lb h
 exact lb h) h
theorem bAr(h:Yn f9 fU=some gA):AM Tryz.prog 35 [.d (AD.D f9),.d (Xc.D fU)] [] (.d ((D.l Au.D) gA)) []:=by unfold Yn at h;apply g0 (o:=gA);obtain⟨o7,h13,h⟩:=bS h;refine gL [.live [2,3,5,6],.keep [2,3],.nil 5 5 125 3,.sort] (aLy none h13) ?_;exact lf h
def aBe(s0 s1:List X2)(s5:Int):St:=⟨sp 35 0 [sD 0 (D.l X2.D) s0,sD 1 (D.l X2.D) s1,sI 5 s5],[],[]⟩
def aBf(s0 s1:List X2)(o:Unit⊕Unit):Ex×St:=match o with
 | .inl o=>(.exit 0,⟨sp 35 0 [],[],[]⟩)
 | .inr o=>(.ret,⟨sp 35 0 [sD 4 D.b false],[],[]⟩)
theorem aM7(rd:Option Nat)(h:aSb fJ fN f8=some fO):Lq 50 rd 26 (aBe fJ fN f8) ((aBf fJ fN) fO):=
 lL (fun s:Int=>aBe fJ fN s) (aBf fJ fN) f8 (fun f8 o h=>by
 unfold LQ at h
 refine gN 10 X2.D fJ ?_
 refine iB 11 h (fun h=>?_) fun h=>?_
 refine xX 18 X2.D h fun x1 h=>?_
 obtain⟨r2,h3,h⟩:=bS h
 refine gC 21 (ZZ h3) ?_
 refine iB 26 h (fun h=>?_) fun h=>?_
 exact lb h
 refine xX 30 X2.D h fun x3 h=>?_
 refine iB 34 h (fun h=>?_) fun h=>?_
 exact lb h
 exact lb h
 exact lb h) h
theorem bBl(h:Zg fJ fN=some fE):AM Tryz.prog 50 [.d ((D.l X2.D) fJ),.d ((D.l X2.D) fN)] [] (.d (D.b fE)) []:=by
 unfold Zg at h;apply g0 (o:=fE);obtain⟨o4,h7,h⟩:=bS h;refine gl (aM7 none h7) ?_;replace h:=AL h;rcases h with⟨o5,rfl,h⟩|⟨o6,rfl,h⟩
 exact lf h;exact lf h
theorem aL2(rd:Option Nat)(h:aL1 gA fJ f8 fE gD=some gB):Lq 34 rd 1865 ⟨sp 28 0 [sD 0 (D.l Au.D) gA,sD 1 (D.l X2.D) fJ,rx 5,sI 6 f8,sD 19 D.b fE],[(5,.row 125 3 (gD.map Au.D))],[]⟩ (.normal,⟨sp 28 0 [sD 0 (D.l Au.D) gA,sD 1 (D.l X2.D) fJ,rx 5,sI 6 f8],[(5,.row 125 3 (gB.map Au.D))],[]⟩):=by unfold aL1 at h;apply g0 (o:=gB);cases fE;replace h:=CL h;exact lp h;replace h:=CM h;refine xX 23 Au.D h fun x8 h=>?_;refine gQ (Ah Au.D [x8])<|gG 26 (.sl ((gD++[x8]).map Au.D)) (Ah Au.D [x8]) ?_;obtain⟨h14,h⟩:=cS h;refine gQ (Ao Au.D h14)<|gQ (Am Au.D gD [x8]) ?_;exact lP h [.live [0,1,5,6],.keep [26],.ren 26 5,.sort]
theorem aL0(rd:Option Nat)(h:aLz gA fJ f8 gD=some gB):Lq 34 rd 466 ⟨sp 28 0 [sD 0 (D.l Au.D) gA,sD 1 (D.l X2.D) fJ,rx 5,sI 6 f8],[(5,.row 125 3 (gD.map Au.D))],[]⟩ (.normal,⟨sp 28 0 [sD 0 (D.l Au.D) gA,sD 1 (D.l X2.D) fJ,rx 5,sI 6 f8],[(5,.row 125 3 (gB.map Au.D))],[]⟩):=by unfold aLz at h;apply g0 (o:=gB);refine xX 15 Au.D h fun x6 h=>?_;obtain⟨r7,h11,h⟩:=bS h;refine gC 19 (bBl h11) ?_;obtain⟨o9,h15,h⟩:=bS h;refine gl (aL2 rd h15) ?_;exact lp h
def ZR(s0:List Au)(s1:List X2)(s6:Int)(w5:List Au):St:=⟨sp 28 0 [sD 0 (D.l Au.D) s0,sD 1 (D.l X2.D) s1,rx 5,sI 6 s6],[(5,.row 125 3 (w5.map Au.D))],[]⟩
def ZS(s0:List Au)(s1:List X2)(o:(List Au)):Ex×St:=(.exit 0,⟨sp 28 0 [rx 5],[(5,.row 125 3 (o.map Au.D))],[]⟩)
theorem aL3(rd:Option Nat)(h:aRv gA fJ f8 gD=some gB):Lq 34 rd 58 (ZR gA fJ f8 gD) ((ZS gA fJ) gB):=
 lL (fun s:Int×List Au=>ZR gA fJ s.1 s.2) (ZS gA fJ) (f8,gD) (fun⟨f8,gD⟩ o h=>by
 unfold LK at h
 refine gN 9 Au.D gA ?_
 refine iB 10 h (fun h=>?_) fun h=>?_
 obtain⟨o10,h16,h⟩:=bS h
 refine gl (aL0 rd h16) ?_
 exact lb h
 exact lb h) h
theorem bAt(h:Yp gA fJ=some gD):AM Tryz.prog 34 [.d ((D.l Au.D) gA),.d ((D.l X2.D) fJ)] [] (.d ((D.l Au.D) gD)) []:=by unfold Yp at h;apply g0 (o:=gD);obtain⟨o11,h17,h⟩:=bS h;refine gL [.live [0,1,5,6],.keep [],.nil 5 5 125 3,.sort] (aL3 none h17) ?_;exact lf h
def aA4(s0:List Au)(s3 s4:Int):St:=⟨sp 21 0 [sD 0 (D.l Au.D) s0,sD 3 dU s3,sI 4 s4],[],[]⟩
def aA5(s0:List Au)(o:Int):Ex×St:=(.exit 0,⟨sp 21 0 [sD 3 dU o],[],[]⟩)
theorem aM2(rd:Option Nat)(h:aR8 gA f8 fB=some fV):Lq 33 rd 58 (aA4 gA f8 fB) ((aA5 gA) fV):=
 lL (fun s:Int×Int=>aA4 gA s.1 s.2) (aA5 gA) (f8,fB) (fun⟨f8,fB⟩ o h=>by
 unfold JG at h
 refine gN 7 Au.D gA ?_
 refine iB 8 h (fun h=>?_) fun h=>?_
 refine xX 14 Au.D h fun x1 h=>?_
 obtain⟨h3,h⟩:=cS h
 refine gQ h3 ?_
 exact lb h
 exact lb h) h
theorem bBd(h:Zb gA=some f8):AM Tryz.prog 33 [.d ((D.l Au.D) gA)] [] (.d (dU f8)) []:=by unfold Zb at h;apply g0 (o:=f8);obtain⟨o2,h4,h⟩:=bS h;refine gl (aM2 none h4) ?_;exact lf h
def aAo(s0:List Int)(s1 s5:Int):St:=⟨sp 48 0 [sD 0 (D.l dU) s0,sD 1 dU s1,sI 5 s5],[],[]⟩
def aAp(s0:List Int)(s1 o:Int):Ex×St:=(.exit 0,⟨sp 48 0 [sD 0 (D.l dU) s0,sD 1 dU s1,sI 5 o],[],[]⟩)
theorem aMq(rd:Option Nat)(h:aAn gE f8 fB=some fV):Lq 36 rd 28 (aAo gE f8 fB) ((aAp gE f8) fV):=
 lL (fun s:Int=>aAo gE f8 s) (aAp gE f8) fB (fun fB o h=>by
 unfold JA at h
 refine iB 11 h (fun h=>?_) fun h=>?_
 refine xX 15 dU h fun x1 h=>?_
 refine iB 19 h (fun h=>?_) fun h=>?_
 exact lb h
 exact lb h
 exact lb h) h
theorem bA4(h:Z1 gE f8=some gH):AM Tryz.prog 36 [.d ((D.l dU) gE),.d (dU f8)] [] (.d ((D.l dU) gH)) []:=by unfold Z1 at h;apply g0 (o:=gH);refine gN 8 dU gE ?_;obtain⟨o2,h4,h⟩:=bS h;refine gl (aMq none h4) ?_;refine iB 24 h (fun h=>?_) fun h=>?_;refine xX 28 dU h fun x3 h=>?_;refine iB 32 h (fun h=>?_) fun h=>?_;exact lf h;refine gQ (Ah dU ([]:List Int))<|gW 37 (.sl ((sub gE 0 o2).map dU))<|gW 38 (.sl ((([]:List Int)++(sub gE 0 o2)).map dU))<|gW 42 (.sl (((([]:List Int)++(sub gE 0 o2))++[f8]).map dU))<|gW 46 (.sl ((sub gE o2 (gE.length:Int)).map dU))<|gW 47 (.sl ((((([]:List Int)++(sub gE 0 o2))++[f8])++(sub gE o2 (gE.length:Int))).map dU)) ?_;obtain⟨h8,h⟩:=cS h;refine gQ (FU dU h8)<|gQ (Ah dU (sub gE 0 o2)) ?_;obtain⟨h9,h⟩:=cS h;refine gQ (Ao dU h9)<|gQ (Am dU ([]:List Int) (sub gE 0 o2))<|gQ (Ah dU [f8])<|gQ (Ah dU [f8]) ?_;obtain⟨h10,h⟩:=cS h;refine gQ (Ao dU h10)<|gQ (Am dU (([]:List Int)++(sub gE 0 o2)) [f8]) ?_;obtain⟨h11,h⟩:=cS h;refine gQ (FT dU h11)<|gQ (Ah dU (sub gE o2 (gE.length:Int))) ?_;obtain⟨h12,h⟩:=cS h;refine gQ (Ao dU h12)<|gQ (Am dU ((([]:List Int)++(sub gE 0 o2))++[f8]) (sub gE o2 (gE.length:Int))) ?_;exact lf h;refine gQ (Ah dU ([]:List Int))<|gW 37 (.sl ((sub gE 0 o2).map dU))<|gW 38 (.sl ((([]:List Int)++(sub gE 0 o2)).map dU))<|gW 42 (.sl (((([]:List Int)++(sub gE 0 o2))++[f8]).map dU))<|gW 46 (.sl ((sub gE o2 (gE.length:Int)).map dU))<|gW 47 (.sl ((((([]:List Int)++(sub gE 0 o2))++[f8])++(sub gE o2 (gE.length:Int))).map dU)) ?_;obtain⟨h13,h⟩:=cS h;refine gQ (FU dU h13)<|gQ (Ah dU (sub gE 0 o2)) ?_;obtain⟨h14,h⟩:=cS h;refine gQ (Ao dU h14)<|gQ (Am dU ([]:List Int) (sub gE 0 o2))<|gQ (Ah dU [f8])<|gQ (Ah dU [f8]) ?_;obtain⟨h15,h⟩:=cS h;refine gQ (Ao dU h15)<|gQ (Am dU (([]:List Int)++(sub gE 0 o2)) [f8]) ?_;obtain⟨h16,h⟩:=cS h;refine gQ (FT dU h16)<|gQ (Ah dU (sub gE o2 (gE.length:Int))) ?_;obtain⟨h17,h⟩:=cS h;refine gQ (Ao dU h17)<|gQ (Am dU ((([]:List Int)++(sub gE 0 o2))++[f8]) (sub gE o2 (gE.length:Int))) ?_;exact lf h
theorem aJe(rd:Option Nat)(h:Sy fJ gE f8 fK fB fV fE f9=some gI):Lq 14 rd 477587 ⟨sp 42 0 [sD 1 (D.l X2.D) fJ,bx 2,sD 5 (D.l dU) gE,sI 6 f8,sD 7 (D.l Xc.D) fK,sI 8 fB,sD 9 dU fV,sD 37 D.b fE],[cL 2 AD.D f9],[]⟩ (.normal,⟨sp 42 0 [sD 1 (D.l X2.D) fJ,bx 2,sD 5 (D.l dU) gI,sI 6 f8,sD 7 (D.l Xc.D) fK,sI 8 fB],[cL 2 AD.D f9],[]⟩):=by unfold Sy at h;apply g0 (o:=gI);cases fE;replace h:=CL h;exact lp h;replace h:=CM h;obtain⟨r13,h18,h⟩:=bS h;refine gC 40 (bA4 h18) ?_;exact lp h
theorem aJd(rd:Option Nat)(h:aJc fJ gE f8 fK fB f9=some gI):Lq 14 rd 59698 ⟨sp 42 0 [sD 1 (D.l X2.D) fJ,bx 2,sD 5 (D.l dU) gE,sI 6 f8,sD 7 (D.l Xc.D) fK,sI 8 fB],[cL 2 AD.D f9],[]⟩ (.normal,⟨sp 42 0 [sD 1 (D.l X2.D) fJ,bx 2,sD 5 (D.l dU) gI,sI 6 f8,sD 7 (D.l Xc.D) fK,sI 8 fB],[cL 2 AD.D f9],[]⟩):=by unfold aJc at h;apply g0 (o:=gI);refine xX 30 Xc.D h fun x9 h=>?_;obtain⟨r10,h14,h⟩:=bS h;refine gC 32 (bAr h14) ?_;obtain⟨r11,h15,h⟩:=bS h;refine gC 34 (bAt h15) ?_;obtain⟨r12,h16,h⟩:=bS h;refine gC 35 (bBd h16) ?_;obtain⟨o14,h19,h⟩:=bS h;refine gl (aJe rd h19) ?_;exact lp h
def Wh(s1:List X2)(s6:Int)(s7:List Xc)(w2:AD)(s5:List Int)(s8:Int):St:=⟨sp 42 0 [sD 1 (D.l X2.D) s1,bx 2,sD 5 (D.l dU) s5,sI 6 s6,sD 7 (D.l Xc.D) s7,sI 8 s8],[cL 2 AD.D w2],[]⟩
def Wi(s1:List X2)(s6:Int)(s7:List Xc)(w2:AD)(o:(List Int)):Ex×St:=(.exit 2,⟨sp 42 0 [sD 1 (D.l X2.D) s1,bx 2,sD 5 (D.l dU) o,sI 6 s6],[cL 2 AD.D w2],[]⟩)
theorem aJg(rd:Option Nat)(h:aRe fJ f8 fK f9 gE fB=some gI):Lq 14 rd 7462 (Wh fJ f8 fK f9 gE fB) ((Wi fJ f8 fK f9) gI):=
 lL (fun s:List Int×Int=>Wh fJ f8 fK f9 s.1 s.2) (Wi fJ f8 fK f9) (gE,fB) (fun⟨gE,fB⟩ o h=>by
 unfold G8 at h
 refine gN 23 Xc.D fK ?_
 refine iB 24 h (fun h=>?_) fun h=>?_
 obtain⟨o18,h25,h⟩:=bS h
 refine gl (aJd rd h25) ?_
 exact lb h
 exact lb h) h
def We(s1:List X2)(w2:AD)(s5:List Int)(s6:Int):St:=⟨sp 42 0 [sD 1 (D.l X2.D) s1,bx 2,sD 5 (D.l dU) s5,sI 6 s6],[cL 2 AD.D w2],[]⟩
def Wg(s1:List X2)(w2:AD)(o:(List Int)):Ex×St:=(.exit 0,⟨sp 42 0 [sD 5 (D.l dU) o],[],[]⟩)
theorem aJf(rd:Option Nat)(h:aRd fJ f9 gE f8=some gI):Lq 14 rd 58 (We fJ f9 gE f8) ((Wg fJ f9) gI):=
 lL (fun s:List Int×Int=>We fJ f9 s.1 s.2) (Wg fJ f9) (gE,f8) (fun⟨gE,f8⟩ o h=>by
 unfold Ip at h
 refine gN 13 Xm.D f9.decls ?_
 refine iB 14 h (fun h=>?_) fun h=>?_
 obtain⟨r17,h23,h⟩:=bS h
 refine gC 20 (bAf h23) ?_
 obtain⟨o19,h26,h⟩:=bS h
 refine gl (aJg rd h26) ?_
 exact lb h
 exact lb h) h
theorem aVg(h:Xw f9 fJ=some gE):AM Tryz.prog 14 [.d (AD.D f9),.d ((D.l X2.D) fJ)] [] (.d ((D.l dU) gE)) []:=by unfold Xw at h;apply g0 (o:=gE);obtain⟨o20,h27,h⟩:=bS h;refine gL [.look 5,.live [1,2,5,6],.keep [2]] (aJf none h27) ?_;exact lf h
theorem QO(rd:Option Nat)(h:WF f8 fB fV gJ gK gM fE f9 gO=some gP):Lq 16 rd 1910419 ⟨sp 74 0 [sD 1 dW f8,sD 2 dU fB,bx 3,sD 7 dW fV,sI 8 gJ,sD 9 dW gK,sI 10 gM,bx 11,sD 49 D.b fE],[cL 3 AD.D f9,cL 11 Xr.D gO],[]⟩ (.normal,⟨sp 74 0 [sD 1 dW f8,sD 2 dU fB,bx 3,sD 7 dW fV,sI 8 gJ,sD 9 dW gP,sI 10 gM],[cL 3 AD.D f9],[]⟩):=by unfold WF at h;apply g0 (o:=gP);cases fE;replace h:=CL h;exact lp h;replace h:=CM h;obtain⟨h9,h⟩:=cS h;refine gQ h9 ?_;exact lp h
theorem aIq(rd:Option Nat)(h:aIp f8 fB fV gJ gK gM f9=some gP):Lq 16 rd 238802 ⟨sp 74 0 [sD 1 dW f8,sD 2 dU fB,bx 3,sD 7 dW fV,sI 8 gJ,sD 9 dW gK,sI 10 gM],[cL 3 AD.D f9],[]⟩ (.normal,⟨sp 74 0 [sD 1 dW f8,sD 2 dU fB,bx 3,sD 7 dW fV,sI 8 gJ,sD 9 dW gP,sI 10 gM],[cL 3 AD.D f9],[]⟩):=by unfold aIp at h;apply g0 (o:=gP);refine xX 35 Xr.D h fun x1 h=>?_;refine iB 41 h (fun h=>?_) fun h=>?_;obtain⟨h7,h⟩:=cS h;refine gQ h7<|gQ (of_decide_eq_true rfl:(2:Int)≠0) ?_;obtain⟨o2,h10,h⟩:=bS h;refine gl (QO rd h10) ?_;exact lp h;obtain⟨o3,h11,h⟩:=bS h;refine gl (QO rd h11) ?_;exact lp h
def WJ(s1 s2:Int)(s7 s8:Int)(w3:AD)(s9 s10:Int):St:=⟨sp 74 0 [sD 1 dW s1,sD 2 dU s2,bx 3,sD 7 dW s7,sI 8 s8,sD 9 dW s9,sI 10 s10],[cL 3 AD.D w3],[]⟩
def WK(s1 s2:Int)(s7 s8:Int)(w3:AD)(o:Int):Ex×St:=(.exit 2,⟨sp 74 0 [sD 1 dW s1,sD 2 dU s2,bx 3,sD 7 dW s7,sI 8 s8,sD 9 dW o],[cL 3 AD.D w3],[]⟩)
theorem aIt(rd:Option Nat)(h:aIs f8 fB fV gJ f9 gK gM=some gP):Lq 16 rd 29850 (WJ f8 fB fV gJ f9 gK gM) ((WK f8 fB fV gJ f9) gP):=
 lL (fun s:Int×Int=>WJ f8 fB fV gJ f9 s.1 s.2) (WK f8 fB fV gJ f9) (gK,gM) (fun⟨gK,gM⟩ o h=>by
 unfold Ig at h
 refine gN 28 Xr.D f9.trans ?_
 refine iB 29 h (fun h=>?_) fun h=>?_
 obtain⟨o4,h12,h⟩:=bS h
 refine gl (aIq rd h12) ?_
 exact lb h
 exact lb h) h
theorem QP(rd:Option Nat)(h:Oh f8 fB fV gJ gK fE f9=some gM):Lq 16 rd 29853 ⟨sp 74 0 [sD 1 dW f8,sD 2 dU fB,bx 3,sD 7 dW fV,sI 8 gJ,sD 9 dW gK,sD 66 D.b fE],[cL 3 AD.D f9],[]⟩ (.normal,⟨sp 74 0 [sD 1 dW f8,sD 2 dU fB,bx 3,sD 7 dW fV,sI 8 gJ,sD 9 dW gM],[cL 3 AD.D f9],[]⟩):=by unfold Oh at h;apply g0 (o:=gM);cases fE;replace h:=CL h;exact lp h;replace h:=CM h;obtain⟨h17,h⟩:=cS h;refine gQ h17 ?_;exact lp h
theorem aIo(rd:Option Nat)(h:aIn f8 fB fV gJ f9=some gK):Lq 16 rd 466 ⟨sp 74 0 [sD 1 dW f8,sD 2 dU fB,bx 3,sD 7 dW fV,sI 8 gJ],[cL 3 AD.D f9],[]⟩ (.normal,⟨sp 74 0 [sD 1 dW f8,sD 2 dU fB,bx 3,sD 7 dW gK,sI 8 gJ],[cL 3 AD.D f9],[]⟩):=by unfold aIn at h;apply g0 (o:=gK);obtain⟨h2,h⟩:=cS h;refine gQ h2<|gQ (of_decide_eq_true rfl:(2:Int)≠0) ?_;refine iB 24 h (fun h=>?_) fun h=>?_;exact lp h;obtain⟨o5,h13,h⟩:=bS h;refine gl (aIt rd h13) ?_;refine iB 58 h (fun h=>?_) fun h=>?_;refine xX 62 Xg.D h fun x6 h=>?_;obtain⟨o7,h18,h⟩:=bS h;refine gl (QP rd h18) ?_;exact lp h;obtain⟨o8,h19,h⟩:=bS h;refine gl (QP rd h19) ?_;exact lp h
def WG(s1 s2:Int)(w3:AD)(s7 s8:Int):St:=⟨sp 74 0 [sD 1 dW s1,sD 2 dU s2,bx 3,sD 7 dW s7,sI 8 s8],[cL 3 AD.D w3],[]⟩
def WH(s1 s2:Int)(w3:AD)(o:Int):Ex×St:=(.exit 0,⟨sp 74 0 [sD 7 dW o],[],[]⟩)
theorem aIr(rd:Option Nat)(h:aRa f8 fB f9 fV gJ=some gK):Lq 16 rd 58 (WG f8 fB f9 fV gJ) ((WH f8 fB f9) gK):=
 lL (fun s:Int×Int=>WG f8 fB f9 s.1 s.2) (WH f8 fB f9) (fV,gJ) (fun⟨fV,gJ⟩ o h=>by
 unfold G7 at h
 refine gN 15 Xg.D f9.states ?_
 refine iB 16 h (fun h=>?_) fun h=>?_
 obtain⟨o9,h20,h⟩:=bS h
 refine gl (aIo rd h20) ?_
 exact lb h
 exact lb h) h
theorem aRb(h:Xp f9 f8 fB=some fV):AM Tryz.prog 16 [.d (AD.D f9),.d (dW f8),.d (dU fB)] [] (.d (dW fV)) []:=by unfold Xp at h;apply g0 (o:=fV);obtain⟨o10,h21,h⟩:=bS h;refine gl (aIr none h21) ?_;exact lf h
def aBm(s0:List Int)(s1 s5:Int):St:=⟨sp 18 0 [sD 0 (D.l dW) s0,sD 1 dW s1,sI 5 s5],[],[]⟩
def aBn(s0:List Int)(s1:Int)(o:Unit⊕Unit):Ex×St:=match o with
 | .inl o=>(.exit 0,⟨sp 18 0 [],[],[]⟩)
 | .inr o=>(.ret,⟨sp 18 0 [sD 4 D.b true],[],[]⟩)
theorem aNb(rd:Option Nat)(h:aSf gE f8 fB=some fO):Lq 48 rd 26 (aBm gE f8 fB) ((aBn gE f8) fO):=
 lL (fun s:Int=>aBm gE f8 s) (aBn gE f8) fB (fun fB o h=>by
 unfold JM at h
 refine gN 8 dW gE ?_
 refine iB 9 h (fun h=>?_) fun h=>?_
 refine xX 14 dW h fun x1 h=>?_
 refine iB 17 h (fun h=>?_) fun h=>?_
 exact lb h
 exact lb h
 exact lb h) h
theorem bBp(h:Zk gE f8=some fE):AM Tryz.prog 48 [.d ((D.l dW) gE),.d (dW f8)] [] (.d (D.b fE)) []:=by
 unfold Zk at h;apply g0 (o:=fE);obtain⟨o2,h4,h⟩:=bS h;refine gl (aNb none h4) ?_;replace h:=AL h;rcases h with⟨o3,rfl,h⟩|⟨o4,rfl,h⟩
 exact lf h;exact lf h
theorem aKc(rd:Option Nat)(h:aKb gE f8 fB fV fE f9 gH=some gI):Lq 27 rd 500883 ⟨sp 48 0 [bx 3,sD 7 (D.l dU) gE,rx 8,sI 9 f8,sI 10 fB,sD 11 dW fV,sD 42 D.b fE],[cL 3 AD.D f9,(8,.row 32 1 (gH.map dW))],[]⟩ (.normal,⟨sp 48 0 [bx 3,sD 7 (D.l dU) gE,rx 8,sI 9 f8,sI 10 fB],[cL 3 AD.D f9,(8,.row 32 1 (gI.map dW))],[]⟩):=by unfold aKb at h;apply g0 (o:=gI);cases fE;replace h:=CL h;exact lp h;replace h:=CM h;refine gQ (Ah dW [fV])<|gG 46 (.sl ((gH++[fV]).map dW)) (Ah dW [fV]) ?_;obtain⟨h9,h⟩:=cS h;refine gQ (Ao dW h9)<|gQ (Am dW gH [fV]) ?_;exact lP h [.live [3,7,8,9,10],.keep [3,46],.ren 46 8,.sort]
theorem aKa(rd:Option Nat)(h:aJ9 gE f8 fB f9 gH=some gI):Lq 27 rd 62610 ⟨sp 48 0 [bx 3,sD 7 (D.l dU) gE,rx 8,sI 9 f8,sI 10 fB],[cL 3 AD.D f9,(8,.row 32 1 (gH.map dW))],[]⟩ (.normal,⟨sp 48 0 [bx 3,sD 7 (D.l dU) gE,rx 8,sI 9 f8,sI 10 fB],[cL 3 AD.D f9,(8,.row 32 1 (gI.map dW))],[]⟩):=by unfold aJ9 at h;apply g0 (o:=gI);refine xX 32 dW h fun x2 h=>?_;refine xX 36 dU h fun x3 h=>?_;obtain⟨r4,h6,h⟩:=bS h;refine gC 38 (aRb h6) ?_;obtain⟨r5,h7,h⟩:=bS h;refine gC 41 (bBp h7) ?_;obtain⟨o6,h10,h⟩:=bS h;refine gl (aKc rd h10) ?_;exact lp h
def XL(s7:List Int)(s9:Int)(w3:AD)(s10:Int)(w8:List Int):St:=⟨sp 48 0 [bx 3,sD 7 (D.l dU) s7,rx 8,sI 9 s9,sI 10 s10],[cL 3 AD.D w3,(8,.row 32 1 (w8.map dW))],[]⟩
def XM(s7:List Int)(s9:Int)(w3:AD)(o:(List Int)):Ex×St:=(.exit 2,⟨sp 48 0 [bx 3,sD 7 (D.l dU) s7,rx 8,sI 9 s9],[cL 3 AD.D w3,(8,.row 32 1 (o.map dW))],[]⟩)
theorem aKe(rd:Option Nat)(h:aRj gE f8 f9 fB gH=some gI):Lq 27 rd 7826 (XL gE f8 f9 fB gH) ((XM gE f8 f9) gI):=
 lL (fun s:Int×List Int=>XL gE f8 f9 s.1 s.2) (XM gE f8 f9) (fB,gH) (fun⟨fB,gH⟩ o h=>by
 unfold Iu at h
 refine gN 25 dU gE ?_
 refine iB 26 h (fun h=>?_) fun h=>?_
 obtain⟨o7,h11,h⟩:=bS h
 refine gl (aKa rd h11) ?_
 exact lb h
 exact lb h) h
def XJ(s7:List Int)(w3:AD)(s9:Int)(w8:List Int):St:=⟨sp 48 0 [bx 3,sD 7 (D.l dU) s7,rx 8,sI 9 s9],[cL 3 AD.D w3,(8,.row 32 1 (w8.map dW))],[]⟩
def XK(s7:List Int)(w3:AD)(o:(List Int)):Ex×St:=(.exit 0,⟨sp 48 0 [rx 8],[(8,.row 32 1 (o.map dW))],[]⟩)
theorem aKd(rd:Option Nat)(h:aRi gE f9 f8 gH=some gI):Lq 27 rd 122 (XJ gE f9 f8 gH) ((XK gE f9) gI):=
 lL (fun s:Int×List Int=>XJ gE f9 s.1 s.2) (XK gE f9) (f8,gH) (fun⟨f8,gH⟩ o h=>by
 unfold It at h
 refine gN 19 dW gH ?_
 refine iB 20 h (fun h=>?_) fun h=>?_
 obtain⟨o8,h12,h⟩:=bS h
 refine gl (aKe rd h12) ?_
 exact lb h
 exact lb h) h
theorem aZw(h:Y5 f9 fJ f8=some gE):AM Tryz.prog 27 [.d (AD.D f9),.d ((D.l X2.D) fJ),.d (dW f8)] [] (.d ((D.l dW) gE)) []:=by unfold Y5 at h;apply g0 (o:=gE);obtain⟨r1,h1,h⟩:=bS h;refine gC 14 (aVg h1)<|gQ (Ah dW [f8]) ?_;obtain⟨o9,h13,h⟩:=bS h;refine gL [.live [3,7,8,9],.keep [3,16],.ren 16 8,.sort] (aKd none h13) ?_;exact lf h
def ZA(s8:List Int)(s9:Int)(w7:List Int)(s10:Int):St:=⟨sp 58 0 [rx 7,sD 8 (D.l dW) s8,sI 9 s9,sI 10 s10],[(7,.row 32 1 (w7.map dW))],[]⟩
def ZB(s8:List Int)(s9:Int)(w7:List Int)(o:Int):Ex×St:=(.exit 2,⟨sp 58 0 [rx 7,sD 8 (D.l dW) s8,sI 9 s9,sI 10 o],[(7,.row 32 1 (w7.map dW))],[]⟩)
theorem aLg(rd:Option Nat)(h:aRr gE f8 gH fB=some fV):Lq 8 rd 15652 (ZA gE f8 gH fB) ((ZB gE f8 gH) fV):=
 lL (fun s:Int=>ZA gE f8 gH s) (ZB gE f8 gH) fB (fun fB o h=>by
 unfold LJ at h
 refine iB 26 h (fun h=>?_) fun h=>?_
 refine xX 30 dW h fun x6 h=>?_
 refine xX 34 dW h fun x7 h=>?_
 refine iB 37 h (fun h=>?_) fun h=>?_
 exact lb h
 exact lb h
 exact lb h) h
def YY(s8:List Int)(s9:Int)(w7:List Int):St:=⟨sp 58 0 [rx 7,sD 8 (D.l dW) s8,sI 9 s9],[(7,.row 32 1 (w7.map dW))],[]⟩
def YZ(s8:List Int)(o:(List Int)):Ex×St:=(.exit 0,⟨sp 58 0 [rx 7],[(7,.row 32 1 (o.map dW))],[]⟩)
theorem aLf(rd:Option Nat)(h:aRq gE f8 gH=some gI):Lq 8 rd 122 (YY gE f8 gH) ((YZ gE) gI):=
 lL (fun s:Int×List Int=>YY gE s.1 s.2) (YZ gE) (f8,gH) (fun⟨f8,gH⟩ o h=>by
 unfold I2 at h
 refine gN 18 dW gE ?_
 refine iB 19 h (fun h=>?_) fun h=>?_
 refine gN 23 dW gH ?_
 obtain⟨o8,h19,h⟩:=bS h
 refine gl (aLg rd h19)<|gQ (Ah dW ([]:List Int))<|gW 43 (.sl ((sub gH 0 o8).map dW))<|gW 44 (.sl ((([]:List Int)++(sub gH 0 o8)).map dW))<|gW 55 (.sl ((sub gH o8 (gH.length:Int)).map dW)) ?_
 obtain⟨h20,h⟩:=cS h
 refine gQ (FU dW h20)<|gQ (Ah dW (sub gH 0 o8)) ?_
 obtain⟨h21,h⟩:=cS h
 refine gQ (Ao dW h21)<|gQ (Am dW ([]:List Int) (sub gH 0 o8))<|xX 48 dW h fun x9 h=>?_
 refine gQ (Ah dW [x9])<|gG 51 (.sl (((([]:List Int)++(sub gH 0 o8))++[x9]).map dW)) (Ah dW [x9])<|gW 56 (.sl ((((([]:List Int)++(sub gH 0 o8))++[x9])++(sub gH o8 (gH.length:Int))).map dW)) ?_
 obtain⟨h23,h⟩:=cS h
 refine gQ (Ao dW h23)<|gQ (Am dW (([]:List Int)++(sub gH 0 o8)) [x9]) ?_
 obtain⟨h24,h⟩:=cS h
 refine gQ (FT dW h24)<|gQ (Ah dW (sub gH o8 (gH.length:Int))) ?_
 obtain⟨h25,h⟩:=cS h
 refine gQ (Ao dW h25)<|gQ (Am dW ((([]:List Int)++(sub gH 0 o8))++[x9]) (sub gH o8 (gH.length:Int))) ?_
 exact lB h [.live [7,8,9],.keep [56],.ren 56 7,.sort]
 exact lb h) h
theorem aVo(h:Yg f9 fJ f8=some gE):AM Tryz.prog 8 [.d (AD.D f9),.d ((D.l X2.D) fJ),.d (dW f8)] [] (.d ((D.l dW) gE)) []:=by unfold Yg at h;apply g0 (o:=gE);obtain⟨r1,h1,h⟩:=bS h;refine gC 15 (aZw h1) ?_;obtain⟨o10,h26,h⟩:=bS h;refine gL [.live [7,8,9],.keep [],.nil 7 7 32 1,.sort] (aLf none h26) ?_;exact lf h
def aAs(s1:Int)(w2:AD)(s5:Int):St:=⟨sp 27 0 [sD 1 dW s1,bx 2,sI 5 s5],[cL 2 AD.D w2],[]⟩
def aAt(s1:Int)(w2:AD)(o:Unit⊕Unit):Ex×St:=match o with
 | .inl o=>(.exit 0,⟨sp 27 0 [],[],[]⟩)
 | .inr o=>(.ret,⟨sp 27 0 [sD 4 D.b true],[],[]⟩)
theorem aMu(rd:Option Nat)(h:aR2 f8 f9 fB=some fO):Lq 15 rd 26 (aAs f8 f9 fB) ((aAt f8 f9) fO):=
 lL (fun s:Int=>aAs f8 f9 s) (aAt f8 f9) fB (fun fB o h=>by
 unfold JC at h
 refine gN 9 Xg.D f9.states ?_
 refine iB 10 h (fun h=>?_) fun h=>?_
 obtain⟨h2,h⟩:=cS h
 refine gQ h2<|gQ (of_decide_eq_true rfl:(2:Int)≠0) ?_
 refine iB 19 h (fun h=>?_) fun h=>?_
 refine xX 23 Xg.D h fun x1 h=>?_
 refine iB 26 h (fun h=>?_) fun h=>?_
 exact lb h
 exact lb h
 exact lb h
 exact lb h) h
theorem aVs(h:Z4 f9 f8=some fE):AM Tryz.prog 15 [.d (AD.D f9),.d (dW f8)] [] (.d (D.b fE)) []:=by
 unfold Z4 at h;apply g0 (o:=fE);obtain⟨o2,h6,h⟩:=bS h;refine gl (aMu none h6) ?_;replace h:=AL h;rcases h with⟨o3,rfl,h⟩|⟨o4,rfl,h⟩
 exact lf h;exact lf h
def aBo(s0:List Xl)(w3:Xl)(s5:Int):St:=⟨sp 18 0 [sD 0 (D.l Xl.D) s0,bx 3,sI 5 s5],[cL 3 Xl.D w3],[]⟩
def aBp(s0:List Xl)(w3:Xl)(o:Unit⊕Unit):Ex×St:=match o with
 | .inl o=>(.exit 0,⟨sp 18 0 [],[],[]⟩)
 | .inr o=>(.ret,⟨sp 18 0 [sD 4 D.b true],[],[]⟩)
theorem aNc(rd:Option Nat)(h:aSg gR gS f8=some fO):Lq 29 rd 26 (aBo gR gS f8) ((aBp gR gS) fO):=
 lL (fun s:Int=>aBo gR gS s) (aBp gR gS) f8 (fun f8 o h=>by
 unfold JN at h
 refine gN 8 Xl.D gR ?_
 refine iB 9 h (fun h=>?_) fun h=>?_
 refine xX 14 Xl.D h fun x1 h=>?_
 refine iB 17 h (fun h=>?_) fun h=>?_
 exact lb h
 exact lb h
 exact lb h) h
theorem bBq(h:Zl gR gS=some fE):AM Tryz.prog 29 [.d ((D.l Xl.D) gR),.d (Xl.D gS)] [] (.d (D.b fE)) []:=by
 unfold Zl at h;apply g0 (o:=fE);obtain⟨o2,h4,h⟩:=bS h;refine gl (aNc none h4) ?_;replace h:=AL h;rcases h with⟨o3,rfl,h⟩|⟨o4,rfl,h⟩
 exact lf h;exact lf h
theorem Qx(rd:Option Nat)(h:W2 gE f8 fB fE f9 gR gS=some gU):Lq 11 rd 1001875 ⟨sp 86 0 [bx 4,sD 9 (D.l dU) gE,rx 10,sI 11 f8,sI 12 fB,bx 13,sD 81 D.b fE],[cL 4 AD.D f9,(10,.row 69 2 (gR.map Xl.D)),cL 13 Xl.D gS],[]⟩ (.normal,⟨sp 86 0 [bx 4,sD 9 (D.l dU) gE,rx 10,sI 11 f8,sI 12 fB],[cL 4 AD.D f9,(10,.row 69 2 (gU.map Xl.D))],[]⟩):=by unfold W2 at h;apply g0 (o:=gU);cases fE;replace h:=CL h;exact lp h;replace h:=CM h;refine gQ (Ah Xl.D [gS])<|gG 85 (.sl ((gR++[gS]).map Xl.D)) (Ah Xl.D [gS]) ?_;obtain⟨h18,h⟩:=cS h;refine gQ (Ao Xl.D h18)<|gQ (Am Xl.D gR [gS]) ?_;exact lP h [.live [4,9,10,11,12],.keep [4,85],.ren 85 10,.sort]
theorem aJw(rd:Option Nat)(h:aJv gE f8 fB f9 gR=some gU):Lq 11 rd 125234 ⟨sp 86 0 [bx 4,sD 9 (D.l dU) gE,rx 10,sI 11 f8,sI 12 fB],[cL 4 AD.D f9,(10,.row 69 2 (gR.map Xl.D))],[]⟩ (.normal,⟨sp 86 0 [bx 4,sD 9 (D.l dU) gE,rx 10,sI 11 f8,sI 12 fB],[cL 4 AD.D f9,(10,.row 69 2 (gU.map Xl.D))],[]⟩):=by unfold aJv at h;apply g0 (o:=gU);refine xX 51 Xl.D h fun x6 h=>?_;refine xX 56 dU h fun x7 h=>?_;obtain⟨r8,h11,h⟩:=bS h;refine gC 58 (aRb h11)<|xX 62 Xl.D h fun x9 h=>?_;refine xX 67 dU h fun x10 h=>?_;obtain⟨r11,h14,h⟩:=bS h;refine gC 69 (aRb h14) ?_;refine iB 76 h (fun h=>?_) fun h=>?_;obtain⟨r12,h16,h⟩:=bS h;refine gC 79 (bBq h16) ?_;obtain⟨o13,h19,h⟩:=bS h;refine gl (Qx rd h19) ?_;exact lp h;obtain⟨o14,h20,h⟩:=bS h;refine gl (Qx rd h20) ?_;exact lp h
def W5(s9:List Int)(s11:Int)(w4:AD)(s12:Int)(w10:List Xl):St:=⟨sp 86 0 [bx 4,sD 9 (D.l dU) s9,rx 10,sI 11 s11,sI 12 s12],[cL 4 AD.D w4,(10,.row 69 2 (w10.map Xl.D))],[]⟩
def W6(s9:List Int)(s11:Int)(w4:AD)(o:(List Xl)):Ex×St:=(.exit 2,⟨sp 86 0 [bx 4,sD 9 (D.l dU) s9,rx 10,sI 11 s11],[cL 4 AD.D w4,(10,.row 69 2 (o.map Xl.D))],[]⟩)
theorem aJy(rd:Option Nat)(h:aRh gE f8 f9 fB gR=some gU):Lq 11 rd 15654 (W5 gE f8 f9 fB gR) ((W6 gE f8 f9) gU):=
 lL (fun s:Int×List Xl=>W5 gE f8 f9 s.1 s.2) (W6 gE f8 f9) (fB,gR) (fun⟨fB,gR⟩ o h=>by
 unfold Is at h
 refine gN 44 dU gE ?_
 refine iB 45 h (fun h=>?_) fun h=>?_
 obtain⟨o15,h21,h⟩:=bS h
 refine gl (aJw rd h21) ?_
 exact lb h
 exact lb h) h
def W3(s9:List Int)(w4:AD)(s11:Int)(w10:List Xl):St:=⟨sp 86 0 [bx 4,sD 9 (D.l dU) s9,rx 10,sI 11 s11],[cL 4 AD.D w4,(10,.row 69 2 (w10.map Xl.D))],[]⟩
def W4(s9:List Int)(w4:AD)(o:Unit⊕Unit):Ex×St:=match o with
 | .inl o=>(.exit 0,⟨sp 86 0 [],[],[]⟩)
 | .inr o=>(.ret,⟨sp 86 0 [sD 8 D.b false],[],[]⟩)
theorem aJx(rd:Option Nat)(h:aRg gE f9 f8 gR=some fO):Lq 11 rd 122 (W3 gE f9 f8 gR) ((W4 gE f9) fO):=
 lL (fun s:Int×List Xl=>W3 gE f9 s.1 s.2) (W4 gE f9) (f8,gR) (fun⟨f8,gR⟩ o h=>by
 unfold HA at h
 refine gN 23 Xl.D gR ?_
 refine iB 24 h (fun h=>?_) fun h=>?_
 refine xX 30 Xl.D h fun x2 h=>?_
 obtain⟨r3,h4,h⟩:=bS h
 refine gC 33 (aVs h4)<|xX 37 Xl.D h fun x4 h=>?_
 obtain⟨r5,h6,h⟩:=bS h
 refine gC 40 (aVs h6) ?_
 refine iB 41 h (fun h=>?_) fun h=>?_
 exact lb h
 obtain⟨o16,h22,h⟩:=bS h
 refine gl (aJy rd h22) ?_
 exact lb h
 exact lb h) h
theorem aZp(h:Y1 f9 fJ f8 fB=some fE):AM Tryz.prog 11 [.d (AD.D f9),.d ((D.l X2.D) fJ),.d (dW f8),.d (dW fB)] [] (.d (D.b fE)) []:=by
 unfold Y1 at h;apply g0 (o:=fE);obtain⟨r1,h1,h⟩:=bS h;refine gC 16 (aVg h1)<|gQ (Ah Xl.D [Xl.mk f8 fB]) ?_;obtain⟨o17,h23,h⟩:=bS h;refine gL [.live [4,9,10,11],.keep [4,20],.ren 20 10,.sort] (aJx none h23) ?_;replace h:=AL h;rcases h with⟨o18,rfl,h⟩|⟨o19,rfl,h⟩
 exact lf h;exact lf h
def Wo(s1:List X2)(s2:List Int)(s9 s10:Int)(w3:AD)(w7 w8:List Int)(s11:Int):St:=⟨sp 54 0 [sD 1 (D.l X2.D) s1,sD 2 (D.l dW) s2,bx 3,rx 7,rx 8,sI 9 s9,sI 10 s10,sI 11 s11],[cL 3 AD.D w3,(7,.row 32 1 (w7.map dW)),(8,.row 3 1 (w8.map dZ))],[]⟩
def Wp(s1:List X2)(s2:List Int)(s9 s10:Int)(w3:AD)(w7 w8:List Int)(o:Int):Ex×St:=(.exit 2,⟨sp 54 0 [sD 1 (D.l X2.D) s1,sD 2 (D.l dW) s2,bx 3,rx 7,rx 8,sI 9 s9,sI 10 o],[cL 3 AD.D w3,(7,.row 32 1 (w7.map dW)),(8,.row 3 1 (w8.map dZ))],[]⟩)
theorem aJk(rd:Option Nat)(h:Sz fJ gE f8 fB f9 gH gV fV=some gJ):Lq 9 rd 31306 (Wo fJ gE f8 fB f9 gH gV fV) ((Wp fJ gE f8 fB f9 gH gV) gJ):=
 lL (fun s:Int=>Wo fJ gE f8 fB f9 gH gV s) (Wp fJ gE f8 fB f9 gH gV) fV (fun fV o h=>by
 unfold Iq at h
 refine gN 22 dW gH ?_
 refine iB 23 h (fun h=>?_) fun h=>?_
 refine xX 30 dW h fun x8 h=>?_
 refine xX 34 dW h fun x9 h=>?_
 obtain⟨r10,h18,h⟩:=bS h
 refine gQ (aZp h18) ?_
 cases r10
 replace h:=CL h
 refine gW 36 (.ret (.d (D.b false))) ?_
 exact lb h
 replace h:=CM h
 refine gW 36 (.ret (.d (D.b true))) ?_
 exact lb h
 exact lb h) h
theorem aJi(rd:Option Nat)(h:Wl fJ gE f8 fB fE f9 gH gV=some gI):Lq 9 rd 31309 ⟨sp 54 0 [sD 1 (D.l X2.D) fJ,sD 2 (D.l dW) gE,bx 3,rx 7,rx 8,sI 9 f8,sI 10 fB,sD 41 D.b fE],[cL 3 AD.D f9,(7,.row 32 1 (gH.map dW)),(8,.row 3 1 (gV.map dZ))],[]⟩ (.normal,⟨sp 54 0 [sD 1 (D.l X2.D) fJ,sD 2 (D.l dW) gE,bx 3,rx 7,rx 8,sI 9 f8,sI 10 fB],[cL 3 AD.D f9,(7,.row 32 1 (gI.map dW)),(8,.row 3 1 (gV.map dZ))],[]⟩):=by unfold Wl at h;apply g0 (o:=gI);cases fE;replace h:=CL h;exact lp h;replace h:=CM h;refine xX 45 dW h fun x12 h=>?_;refine gQ (Ah dW [x12])<|gG 48 (.sl ((gH++[x12]).map dW)) (Ah dW [x12]) ?_;obtain⟨h23,h⟩:=cS h;refine gQ (Ao dW h23)<|gQ (Am dW gH [x12]) ?_;exact lP h [.live [1,2,3,7,8,9,10],.keep [3,8,48],.ren 48 7,.sort]
theorem aJh(rd:Option Nat)(h:Wj fJ gE f8 f9 gH gV=some gX):Lq 9 rd 978 ⟨sp 54 0 [sD 1 (D.l X2.D) fJ,sD 2 (D.l dW) gE,bx 3,rx 7,rx 8,sI 9 f8],[cL 3 AD.D f9,(7,.row 32 1 (gH.map dW)),(8,.row 3 1 (gV.map dZ))],[]⟩ (.normal,⟨sp 54 0 [sD 1 (D.l X2.D) fJ,sD 2 (D.l dW) gE,bx 3,rx 7,rx 8,sI 9 f8],[cL 3 AD.D f9,(7,.row 32 1 (gX.1.map dW)),(8,.row 3 1 (gX.2.map dZ))],[]⟩):=by unfold Wj at h;apply g0 (o:=gX);refine gN 19 dW gH<|gW 40 (.int (gH.length:Int)) ?_;obtain⟨o11,h20,h⟩:=bS h;refine gl (aJk rd h20)<|gQ (DK dW gH)<|gW 52 (.sl ((gV++[o11]).map dZ)) ?_;obtain⟨o13,h24,h⟩:=bS h;refine gl (aJi rd h24)<|gQ (Ah dZ [o11])<|gQ (Ah dZ [o11]) ?_;obtain⟨h25,h⟩:=cS h;refine gQ (Ao dZ h25)<|gQ (Am dZ gV [o11]) ?_;exact lP h [.live [1,2,3,7,8,9],.keep [3,7,52],.ren 52 8,.sort]
def Wm(s1:List X2)(s2:List Int)(w3:AD)(s9:Int)(w7 w8:List Int):St:=⟨sp 54 0 [sD 1 (D.l X2.D) s1,sD 2 (D.l dW) s2,bx 3,rx 7,rx 8,sI 9 s9],[cL 3 AD.D w3,(7,.row 32 1 (w7.map dW)),(8,.row 3 1 (w8.map dZ))],[]⟩
def Wn(s1:List X2)(s2:List Int)(w3:AD)(o:(List Int)):Ex×St:=(.exit 0,⟨sp 54 0 [rx 8],[(8,.row 3 1 (o.map dZ))],[]⟩)
theorem aJj(rd:Option Nat)(h:aRf fJ gE f9 f8 gH gV=some gI):Lq 9 rd 122 (Wm fJ gE f9 f8 gH gV) ((Wn fJ gE f9) gI):=
 lL (fun s:Int×List Int×List Int=>Wm fJ gE f9 s.1 s.2.1 s.2.2) (Wn fJ gE f9) (f8,gH,gV) (fun⟨f8,gH,gV⟩ o h=>by
 unfold G9 at h
 refine gN 14 dW gE ?_
 refine iB 15 h (fun h=>?_) fun h=>?_
 obtain⟨o14,h26,h⟩:=bS h
 refine gl (aJh rd h26) ?_
 exact lb h
 exact lb h) h
theorem aVh(h:Xx f9 fJ gE=some gH):AM Tryz.prog 9 [.d (AD.D f9),.d ((D.l X2.D) fJ),.d ((D.l dW) gE)] [] (.d ((D.l dZ) gH)) []:=by unfold Xx at h;apply g0 (o:=gH);obtain⟨o15,h27,h⟩:=bS h;refine gL [.live [1,2,3,7,8,9],.keep [3],.nil 7 7 32 1,.nil 8 8 3 1,.sort] (aJj none h27) ?_;exact lf h
def YD(s1:List X2)(s7 s8:List Int)(s9 s10:List Int)(w3:AD)(s11:Int):St:=⟨sp 119 0 [sD 1 (D.l X2.D) s1,bx 3,sD 7 (D.l dW) s7,sD 8 (D.l dZ) s8,sD 9 (D.l dW) s9,sD 10 (D.l dZ) s10,sI 11 s11],[cL 3 AD.D w3],[]⟩
def YE(s1:List X2)(s7 s8:List Int)(s9 s10:List Int)(w3:AD)(o:Unit⊕Unit):Ex×St:=match o with
 | .inl o=>(.exit 0,⟨sp 119 0 [sD 1 (D.l X2.D) s1,bx 3],[cL 3 AD.D w3],[]⟩)
 | .inr o=>(.ret,⟨sp 119 0 [sD 6 D.b false],[],[]⟩)
theorem aKu(rd:Option Nat)(h:aRm fJ gE gH gV gY f9 f8=some fO):Lq 3 rd 1018 (YD fJ gE gH gV gY f9 f8) ((YE fJ gE gH gV gY f9) fO):=
 lL (fun s:Int=>YD fJ gE gH gV gY f9 s) (YE fJ gE gH gV gY f9) f8 (fun f8 o h=>by
 unfold Ix at h
 refine gN 64 dW gE ?_
 refine iB 65 h (fun h=>?_) fun h=>?_
 refine xX 70 dW h fun x8 h=>?_
 refine xX 74 dW h fun x9 h=>?_
 refine iB 77 h (fun h=>?_) fun h=>?_
 exact lb h
 refine xX 80 dZ h fun x10 h=>?_
 refine xX 84 dZ h fun x11 h=>?_
 refine iB 87 h (fun h=>?_) fun h=>?_
 exact lb h
 exact lb h
 exact lb h) h
def YF(s1:List X2)(s12:List Int)(w3:AD)(s13 s14:Int):St:=⟨sp 119 0 [sD 1 (D.l X2.D) s1,bx 3,sD 12 (D.l dZ) s12,sI 13 s13,sI 14 s14],[cL 3 AD.D w3],[]⟩
def YG(s1:List X2)(s12:List Int)(w3:AD)(o:Int):Ex×St:=(.exit 2,⟨sp 119 0 [sD 1 (D.l X2.D) s1,bx 3,sI 13 o],[cL 3 AD.D w3],[]⟩)
theorem aKv(rd:Option Nat)(h:aRn fJ gE f9 f8 fB=some fV):Lq 3 rd 8186 (YF fJ gE f9 f8 fB) ((YG fJ gE f9) fV):=
 lL (fun s:Int×Int=>YF fJ gE f9 s.1 s.2) (YG fJ gE f9) (f8,fB) (fun⟨f8,fB⟩ o h=>by
 unfold Iy at h
 refine gN 100 dZ gE ?_
 refine iB 101 h (fun h=>?_) fun h=>?_
 refine xX 107 dZ h fun x17 h=>?_
 refine gG 110 (.int (GO f8 (AA .add .i64 x17 1))) (rfl:GO f8 (AA .add .i64 x17 1)=GO f8 (AA .add .i64 x17 1)) ?_
 exact lb h
 exact lb h) h
theorem aZ5(h:Ya f9 fJ f8=some fE):AM Tryz.prog 3 [.d (AD.D f9),.d ((D.l X2.D) fJ),.d (dW f8)] [] (.d (D.b fE)) []:=by
 unfold Ya at h;apply g0 (o:=fE);obtain⟨r1,h1,h⟩:=bS h;refine gC 17 (bBo h1) ?_;refine iB 19 h (fun h=>?_) fun h=>?_;obtain⟨r2,h3,h⟩:=bS h;refine gC 34 (aNg h3) ?_;exact lf h;refine gN 22 Xg.D f9.states ?_;refine iB 25 h (fun h=>?_) fun h=>?_;obtain⟨r3,h5,h⟩:=bS h;refine gC 34 (aNg h5) ?_;exact lf h;refine gN 29 Xg.D f9.states ?_;obtain⟨h6,h⟩:=cS h;refine gQ h6 ?_;refine iB 33 h (fun h=>?_) fun h=>?_;obtain⟨r4,h8,h⟩:=bS h;refine gC 34 (aNg h8) ?_;exact lf h;obtain⟨r5,h9,h⟩:=bS h;refine gC 39 (aU5 h9)<|gW 51 (.int (r5.1.length:Int)) ?_;obtain⟨r6,h10,h⟩:=bS h;refine gC 45 (aVo h10)<|gW 53 (.int (r6.length:Int)) ?_;obtain⟨r7,h11,h⟩:=bS h;refine gC 49 (aVh h11)<|gQ (DK dW r5.1)<|gQ (DK dW r6) ?_;refine iB 55 h (fun h=>?_) fun h=>?_;exact lf h;refine gN 57 dZ r5.2<|gN 59 dZ r7 ?_;refine iB 61 h (fun h=>?_) fun h=>?_;exact lf h;obtain⟨o12,h21,h⟩:=bS h;refine gl (aKu none h21) ?_;replace h:=AL h;rcases h with⟨o13,rfl,h⟩|⟨o14,rfl,h⟩
 obtain⟨h22,h⟩:=cS h;refine gQ h22 ?_;obtain⟨r15,h23,h⟩:=bS h;refine gC 96 (aVo h23) ?_;obtain⟨r16,h24,h⟩:=bS h;refine gC 97 (aVh h24) ?_;obtain⟨o18,h27,h⟩:=bS h;refine gl (aKv none h27) ?_;obtain⟨r19,h28,h⟩:=bS h;refine gC 113 (aV3 h28) ?_;refine iB 116 h (fun h=>?_) fun h=>?_;obtain⟨r20,h30,h⟩:=bS h;refine gC 117 (aNg h30) ?_;exact lf h;exact lf h;exact lf h
end Go.Ac
