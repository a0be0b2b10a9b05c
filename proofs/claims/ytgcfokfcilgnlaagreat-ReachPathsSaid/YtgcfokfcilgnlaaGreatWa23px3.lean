/- Own work, printed: the functions compute these. -/
import Derived.Test.YtgcfokfcilgnlaaGreatWa23px2
set_option linter.unusedVariables false
set_option linter.unusedSimpArgs false
namespace Go.Ac
open Go.Proofs
variable {eG eI eK fO fP fQ fS:Int}
variable {eH eN eQ:List X0}
variable {eL:AD}
variable {eM:(List X0)}
variable {eO f9 fW:Bool}
variable {eR eS eT:X0}
variable {eU eY f0:List X2}
variable {eV:List X8}
variable {eW:Unit⊕X0}
variable {eX:X0×Bool}
variable {eZ:Unit⊕Unit}
variable {f8:(List X2)}
variable {fA:X2}
variable {fB:X8}
variable {fC:X3}
variable {fD:Aq}
variable {fE:CH}
variable {fF:(List X2)⊕Unit}
variable {fG:(List X2×List X2)⊕Unit}
variable {fH:Aq×Bool}
variable {fI fK:List Aq}
variable {fJ:(List Aq)}
variable {fL fM fT:List Int}
variable {fN:(List Int)}
variable {fR:Xc}
variable {fU:(List Int×List Int)}
variable {fV:Unit⊕Int}
variable {fX:Bool⊕Unit}
variable {fY:Int⊕Unit}
theorem aCa(rd:Option Nat)(h:aB9 eG eH eI eK eL=some eM):Lq 118 rd 62610 (aKw eG eH eI eK eL) (.normal,⟨sp 56 0 [sI 1 eG,bx 2,sD 5 (D.l X0.D) eM,sI 6 eI,sI 7 eK],[cL 2 AD.D eL],[]⟩):=by unfold aB9 at h;apply g0 (o:=eM);refine xX 35 X3.D h fun x10 h=> ?_;refine xX 39 CH.D h fun x11 h=> ?_;refine iB 44 h (fun h=> ?_) fun h=> ?_;obtain⟨o13,h21,h⟩:=bS h;refine gl (OV rd h21) ?_;exact lp h;obtain⟨o14,h22,h⟩:=bS h;refine gl (OV rd h22) ?_;exact lp h
def TO(s1 s6:Int)(w2:AD)(s5:List X0)(s7:Int):St:=⟨sp 56 0 [sI 1 s1,bx 2,sD 5 (D.l X0.D) s5,sI 6 s6,sI 7 s7],[cL 2 AD.D w2],[]⟩
def TP(s1 s6:Int)(w2:AD)(o:(List X0)):Ex×St:=(.exit 2,⟨sp 56 0 [sI 1 s1,bx 2,sD 5 (D.l X0.D) o,sI 6 s6],[cL 2 AD.D w2],[]⟩)
theorem aCd(rd:Option Nat)(h:aCc eG eI eL eH eK=some eM):Lq 118 rd 7826 (TO eG eI eL eH eK) ((TP eG eI eL) eM):=
 lL (fun s:List X0×Int=>TO eG eI eL s.1 s.2) (TP eG eI eL) (eH,eK) (fun⟨eH,eK⟩ o h=>by
 unfold H6 at h
 refine xX 25 X3.D h fun x17 h=> ?_
 refine gN 28 CH.D x17.args ?_
 refine iB 29 h (fun h=> ?_) fun h=> ?_
 obtain⟨o18,h28,h⟩:=bS h
 refine gl (aCa rd h28) ?_
 exact lb h
 exact lb h) h
def TM(s1:Int)(w2:AD)(s5:List X0)(s6:Int):St:=⟨sp 56 0 [sI 1 s1,bx 2,sD 5 (D.l X0.D) s5,sI 6 s6],[cL 2 AD.D w2],[]⟩
def TN(s1:Int)(w2:AD)(o:(List X0)):Ex×St:=(.exit 0,⟨sp 56 0 [sD 5 (D.l X0.D) o],[],[]⟩)
theorem aCb(rd:Option Nat)(h:aKx eG eL eH eI=some eM):Lq 118 rd 122 (TM eG eL eH eI) ((TN eG eL) eM):=
 lL (fun s:List X0×Int=>TM eG eL s.1 s.2) (TN eG eL) (eH,eI) (fun⟨eH,eI⟩ o h=>by
 unfold H5 at h
 refine gN 17 X3.D eL.symbols ?_
 refine iB 18 h (fun h=> ?_) fun h=> ?_
 obtain⟨o19,h29,h⟩:=bS h
 refine gl (aCd rd h29) ?_
 exact lb h
 exact lb h) h
theorem aSp(h:Xj eL eG=some eH):AL Tryz.prog 118 [.d (AD.D eL),dI eG] [] (.d ((D.l X0.D) eH)) []:=by unfold Xj at h;apply g0 (o:=eH);obtain⟨o1,h2,h⟩:=bS h;refine gl (aB8 none h2) ?_;obtain⟨o20,h30,h⟩:=bS h;refine gL [.look 5,.live [1,2,5,6],.keep [2]] (aCb none h30) ?_;exact lf h
theorem aFm(rd:Option Nat)(h:aLs eH eG eN eI eO=some eM):Lq 122 rd 1865 ⟨sp 27 0 [sD 0 (D.l X0.D) eH,sI 1 eG,sD 5 (D.l X0.D) eN,sI 6 eI,sD 19 D.b eO],[],[]⟩ (.normal,⟨sp 27 0 [sD 0 (D.l X0.D) eH,sI 1 eG,sD 5 (D.l X0.D) eM,sI 6 eI],[],[]⟩):=by unfold aLs at h;apply g0 (o:=eM);cases eO;replace h:=CF h;exact lp h;replace h:=CG h;refine xX 23 X0.D h fun x7 h=> ?_;obtain⟨r8,h12,h⟩:=bS h;refine gC 25 (P8 h12) ?_;exact lp h
theorem aFl(rd:Option Nat)(h:aLr eH eG eN eI=some eM):Lq 122 rd 466 ⟨sp 27 0 [sD 0 (D.l X0.D) eH,sI 1 eG,sD 5 (D.l X0.D) eN,sI 6 eI],[],[]⟩ (.normal,⟨sp 27 0 [sD 0 (D.l X0.D) eH,sI 1 eG,sD 5 (D.l X0.D) eM,sI 6 eI],[],[]⟩):=by unfold aLr at h;apply g0 (o:=eM);refine xX 15 X0.D h fun x6 h=> ?_;obtain⟨o9,h13,h⟩:=bS h;refine gl (aFm rd h13) ?_;exact lp h
def U9(s0:List X0)(s1:Int)(s5:List X0)(s6:Int):St:=⟨sp 27 0 [sD 0 (D.l X0.D) s0,sI 1 s1,sD 5 (D.l X0.D) s5,sI 6 s6],[],[]⟩
def VA(s0:List X0)(s1:Int)(o:(List X0)):Ex×St:=(.exit 0,⟨sp 27 0 [sD 5 (D.l X0.D) o],[],[]⟩)
theorem aFp(rd:Option Nat)(h:aFn eH eG eN eI=some eM):Lq 122 rd 58 (U9 eH eG eN eI) ((VA eH eG) eM):=
 lL (fun s:List X0×Int=>U9 eH eG s.1 s.2) (VA eH eG) (eN,eI) (fun⟨eN,eI⟩ o h=>by
 unfold Kf at h
 refine gN 9 X0.D eH ?_
 refine iB 10 h (fun h=> ?_) fun h=> ?_
 obtain⟨o10,h14,h⟩:=bS h
 refine gl (aFl rd h14) ?_
 exact lb h
 exact lb h) h
theorem aTn(h:Yg eH eG=some eN):AL Tryz.prog 122 [.d ((D.l X0.D) eH),dI eG] [] (.d ((D.l X0.D) eN)) []:=by unfold Yg at h;apply g0 (o:=eN);obtain⟨o11,h15,h⟩:=bS h;refine gL [.look 5,.live [0,1,5,6],.keep []] (aFp none h15) ?_;exact lf h
def Vh(s1 s5:List X0)(s6:Int):St:=⟨sp 21 0 [sD 1 (D.l X0.D) s1,sD 5 (D.l X0.D) s5,sI 6 s6],[],[]⟩
def Vi(s1:List X0)(o:(List X0)):Ex×St:=(.exit 0,⟨sp 21 0 [sD 5 (D.l X0.D) o],[],[]⟩)
theorem aGe(rd:Option Nat)(h:aGc eH eN eG=some eM):Lq 121 rd 58 (Vh eH eN eG) ((Vi eH) eM):=
 lL (fun s:List X0×Int=>Vh eH s.1 s.2) (Vi eH) (eN,eG) (fun⟨eN,eG⟩ o h=>by
 unfold Ki at h
 refine gN 10 X0.D eH ?_
 refine iB 11 h (fun h=> ?_) fun h=> ?_
 refine xX 17 X0.D h fun x1 h=> ?_
 obtain⟨r2,h3,h⟩:=bS h
 refine gC 19 (P8 h3) ?_
 exact lb h
 exact lb h) h
theorem aT2(h:Yy eH eN=some eQ):AL Tryz.prog 121 [.d ((D.l X0.D) eH),.d ((D.l X0.D) eN)] [] (.d ((D.l X0.D) eQ)) []:=by unfold Yy at h;apply g0 (o:=eQ);obtain⟨o3,h4,h⟩:=bS h;refine gl (aGe none h4) ?_;exact lf h
theorem aRo(h:Qg eH eR=some eO):AL Tryz.prog 145 [.d ((D.l X0.D) eH),.d (X0.D eR)] [] (.d (D.b eO)) []:=by unfold Qg at h;apply g0 (o:=eO);refine gW 10 (.int (eH.length:Int)) ?_;obtain⟨r1,h1,h⟩:=bS h;refine gC 7 (P8 h1)<|gN 8 X0.D r1<|gQ (E1 X0.D eH) ?_;exact lf h
theorem aEs(rd:Option Nat)(h:aEr eG eH eO eR eS=some eT):Lq 120 rd 453 ⟨sp 22 0 [sI 0 eG,sD 1 (D.l X0.D) eH,bx 4,bx 5,sD 12 D.b eO],[cL 4 X0.D eR,cL 5 X0.D eS],[]⟩ (.normal,⟨sp 22 0 [sI 0 eG,sD 1 (D.l X0.D) eH,bx 4,bx 5],[cL 4 X0.D eR,cL 5 X0.D eT],[]⟩):=by unfold aEr at h;apply g0 (o:=eT);cases eO;replace h:=CF h;refine gW 19 (.str (eS.str++([97]:List UInt8))) ?_;obtain⟨h4,h⟩:=cS h;refine gQ (JW h4) ?_;exact lp h;replace h:=CG h;exact lp h
theorem aEq(rd:Option Nat)(h:Uk eG eH eR eS=some eT):Lq 120 rd 113 ⟨sp 22 0 [sI 0 eG,sD 1 (D.l X0.D) eH,bx 4,bx 5],[cL 4 X0.D eR,cL 5 X0.D eS],[]⟩ (.normal,⟨sp 22 0 [sI 0 eG,sD 1 (D.l X0.D) eH,bx 4,bx 5],[cL 4 X0.D eR,cL 5 X0.D eT],[]⟩):=by unfold Uk at h;apply g0 (o:=eT);obtain⟨o2,h5,h⟩:=bS h;refine gl (aEs rd h5) ?_;exact lp h
def Um(s0:Int)(s1:List X0)(w4 w5:X0):St:=⟨sp 22 0 [sI 0 s0,sD 1 (D.l X0.D) s1,bx 4,bx 5],[cL 4 X0.D w4,cL 5 X0.D w5],[]⟩
def Un(s0:Int)(s1:List X0)(w4 o:X0):Ex×St:=(.exit 0,⟨sp 22 0 [bx 4,bx 5],[cL 4 X0.D w4,cL 5 X0.D o],[]⟩)
theorem aEt(rd:Option Nat)(h:Ul eG eH eR eS=some eT):Lq 120 rd 28 (Um eG eH eR eS) ((Un eG eH eR) eT):=
 lL (fun s:X0=>Um eG eH eR s) (Un eG eH eR) eS (fun eS o h=>by
 unfold IO at h
 obtain⟨r1,h1,h⟩:=bS h
 refine gQ (aRo h1) ?_
 cases r1
 replace h:=CF h
 refine gW 10 (.ret (.d (D.b false))) ?_
 exact lb h
 replace h:=CG h
 refine gW 10 (.ret (.d (D.b true))) ?_
 obtain⟨o3,h6,h⟩:=bS h
 refine gl (aEq rd h6) ?_
 exact lb h) h
theorem aTe(h:Y5 eG eH=some eR):AL Tryz.prog 120 [dI eG,.d ((D.l X0.D) eH)] [] (.d (X0.D eR)) []:=by unfold Y5 at h;apply g0 (o:=eR);obtain⟨o4,h7,h⟩:=bS h;refine gl (aEt none h7) ?_;exact lf h
theorem aEy(rd:Option Nat)(h:aEx eG eU eH eN eI eO=some eM):Lq 85 rd 1865 ⟨sp 47 0 [sI 1 eG,sD 2 (D.l X2.D) eU,sD 3 (D.l X0.D) eH,sD 9 (D.l X0.D) eN,sI 10 eI,sD 27 D.b eO],[],[]⟩ (.normal,⟨sp 47 0 [sI 1 eG,sD 2 (D.l X2.D) eU,sD 3 (D.l X0.D) eH,sD 9 (D.l X0.D) eM,sI 10 eI],[],[]⟩):=by unfold aEx at h;apply g0 (o:=eM);cases eO;replace h:=CF h;exact lp h;replace h:=CG h;refine xX 31 X2.D h fun x3 h=> ?_;obtain⟨r4,h6,h⟩:=bS h;refine gC 34 (P8 h6) ?_;exact lp h
theorem aEw(rd:Option Nat)(h:aEv eG eU eH eN eI=some eM):Lq 85 rd 466 ⟨sp 47 0 [sI 1 eG,sD 2 (D.l X2.D) eU,sD 3 (D.l X0.D) eH,sD 9 (D.l X0.D) eN,sI 10 eI],[],[]⟩ (.normal,⟨sp 47 0 [sI 1 eG,sD 2 (D.l X2.D) eU,sD 3 (D.l X0.D) eH,sD 9 (D.l X0.D) eM,sI 10 eI],[],[]⟩):=by unfold aEv at h;apply g0 (o:=eM);refine xX 22 X2.D h fun x2 h=> ?_;obtain⟨o5,h7,h⟩:=bS h;refine gl (aEy rd h7) ?_;exact lp h
def Ur(s1:Int)(s2:List X2)(s3 s9:List X0)(s10:Int):St:=⟨sp 47 0 [sI 1 s1,sD 2 (D.l X2.D) s2,sD 3 (D.l X0.D) s3,sD 9 (D.l X0.D) s9,sI 10 s10],[],[]⟩
def Us(s1:Int)(s2:List X2)(s3:List X0)(o:(List X0)):Ex×St:=(.exit 0,⟨sp 47 0 [sI 1 s1,sD 3 (D.l X0.D) s3,sD 9 (D.l X0.D) o],[],[]⟩)
theorem aE0(rd:Option Nat)(h:aEz eG eU eH eN eI=some eM):Lq 85 rd 58 (Ur eG eU eH eN eI) ((Us eG eU eH) eM):=
 lL (fun s:List X0×Int=>Ur eG eU eH s.1 s.2) (Us eG eU eH) (eN,eI) (fun⟨eN,eI⟩ o h=>by
 unfold IQ at h
 refine gN 16 X2.D eU ?_
 refine iB 17 h (fun h=> ?_) fun h=> ?_
 obtain⟨o6,h8,h⟩:=bS h
 refine gl (aEw rd h8) ?_
 exact lb h
 exact lb h) h
theorem aTg(h:Y8 eL eG eU eH=some eN):AL Tryz.prog 85 [.d (AD.D eL),dI eG,.d ((D.l X2.D) eU),.d ((D.l X0.D) eH)] [] (.d ((D.l X0.D) eN)) []:=by unfold Y8 at h;apply g0 (o:=eN);obtain⟨r1,h1,h⟩:=bS h;refine gC 13 (aSp h1) ?_;obtain⟨o7,h9,h⟩:=bS h;refine gl (aE0 none h9) ?_;refine iB 36 h (fun h=> ?_) fun h=> ?_;exact lf h;obtain⟨r8,h11,h⟩:=bS h;refine gC 43 (aTn h11) ?_;obtain⟨r9,h12,h⟩:=bS h;refine gC 44 (aT2 h12) ?_;obtain⟨r10,h13,h⟩:=bS h;refine gC 45 (aTe h13) ?_;obtain⟨r11,h14,h⟩:=bS h;refine gC 46 (P8 h14) ?_;exact lf h
def Uo(s1:Int)(s2:List X2)(s3 s4 s12:List X0)(w5:AD)(s13:Int)(w11:List X8):St:=⟨sp 72 0 [sI 1 s1,sD 2 (D.l X2.D) s2,sD 3 (D.l X0.D) s3,sD 4 (D.l X0.D) s4,bx 5,rx 11,sD 12 (D.l X0.D) s12,sI 13 s13],[cL 5 AD.D w5,(11,.row 70 2 (w11.map X8.D))],[]⟩
def Up(s1:Int)(s2:List X2)(s3 s4 s12:List X0)(w5:AD)(o:(List X8)):Ex×St:=(.exit 0,⟨sp 72 0 [rx 11],[(11,.row 70 2 (o.map X8.D))],[]⟩)
theorem aEu(rd:Option Nat)(self:AD->Int->(List X2)->(List X0)->(List X0)->Option (List X8))(hs: ∀(a0:AD) (a1:Int) (a2:List X2) (a3 a4:List X0) (r:List X8),self a0 a1 a2 a3 a4=some r->AL Tryz.prog 54 [.d (AD.D a0),dI a1,.d ((D.l X2.D) a2),.d ((D.l X0.D) a3),.d ((D.l X0.D) a4)] [] (.d ((D.l X8.D) r)) []){s1:Int}{s2:List X2}{s3 s4 s12:List X0}{w5:AD}{s13:Int}{w11:List X8}{t:(List X8)}(h:aLl self s1 s2 s3 s4 s12 w5 s13 w11=some t):Lq 54 rd 250 (Uo s1 s2 s3 s4 s12 w5 s13 w11) ((Up s1 s2 s3 s4 s12 w5) t):=
 lL (fun s:Int×List X8=>Uo s1 s2 s3 s4 s12 w5 s.1 s.2) (Up s1 s2 s3 s4 s12 w5) (s13,w11) (fun⟨s13,w11⟩ o h=>by
 unfold IP at h
 refine gN 50 X0.D s12 ?_
 refine iB 51 h (fun h=> ?_) fun h=> ?_
 refine gQ (An X0.D ([]:List X0))<|gG 56 (.sl ((([]:List X0)++s4).map X0.D)) (An X0.D s4) ?_
 obtain⟨h14,h⟩:=cS h
 refine gQ (Au X0.D h14)<|gQ (At X0.D ([]:List X0) s4)<|xX 59 X0.D h fun x8 h=> ?_
 refine gQ (An X0.D [x8])<|gG 62 (.sl (((([]:List X0)++s4)++[x8]).map X0.D)) (An X0.D [x8]) ?_
 obtain⟨h16,h⟩:=cS h
 refine gQ (Au X0.D h16)<|gQ (At X0.D (([]:List X0)++s4) [x8]) ?_
 obtain⟨r9,h17,h⟩:=bS h
 refine gG 69 (.ret (.d ((D.l X8.D) r9))) (hs w5 s1 s2 s3 ((([]:List X0)++s4)++[x8]) r9 h17)<|gG 70 (.sl ((w11++r9).map X8.D)) (An X8.D r9) ?_
 obtain⟨h18,h⟩:=cS h
 refine gQ (Au X8.D h18)<|gQ (At X8.D w11 r9) ?_
 exact lB h [.live [1,2,3,4,5,11,12,13],.keep [5,70],.ren 70 11,.sort]
 exact lb h) h
theorem aLk(self:AD->Int->(List X2)->(List X0)->(List X0)->Option (List X8))(hs: ∀(a0:AD) (a1:Int) (a2:List X2) (a3 a4:List X0) (r:List X8),self a0 a1 a2 a3 a4=some r->AL Tryz.prog 54 [.d (AD.D a0),dI a1,.d ((D.l X2.D) a2),.d ((D.l X0.D) a3),.d ((D.l X0.D) a4)] [] (.d ((D.l X8.D) r)) [])(a0:AD)(a1:Int)(a2:List X2)(a3 a4:List X0)(r:List X8)(h:aPf self a0 a1 a2 a3 a4=some r):AL Tryz.prog 54 [.d (AD.D a0),dI a1,.d ((D.l X2.D) a2),.d ((D.l X0.D) a3),.d ((D.l X0.D) a4)] [] (.d ((D.l X8.D) r)) []:=by unfold aPf at h;apply g0 (o:=r);refine gN 16 X0.D a4<|xX 20 Xd.D h fun x1 h=> ?_;refine gN 23 dZ x1.types ?_;refine iB 24 h (fun h=> ?_) fun h=> ?_;refine xX 28 Xd.D h fun x2 h=> ?_;refine gQ (An X8.D [X8.mk x2.name a4]) ?_;exact lf h;refine gW 42 (.int (a4.length:Int))<|xX 38 Xd.D h fun x3 h=> ?_;refine gQ (E1 X0.D a4)<|xX 43 dZ h fun x4 h=> ?_;obtain⟨r5,h6,h⟩:=bS h;refine gC 47 (aTg h6) ?_;obtain⟨o10,h19,h⟩:=bS h;refine gL [.live [1,2,3,4,5,11,12,13],.keep [5],.nil 11 11 70 2,.sort] (aEu none self hs h19) ?_;exact lf h
theorem Uq: ∀(n:Nat) (a0:AD) (a1:Int) (a2:List X2) (a3 a4:List X0) (r:List X8),aI3 n a0 a1 a2 a3 a4=some r->AL Tryz.prog 54 [.d (AD.D a0),dI a1,.d ((D.l X2.D) a2),.d ((D.l X0.D) a3),.d ((D.l X0.D) a4)] [] (.d ((D.l X8.D) r)) []
 |0,a0,a1,a2,a3,a4,r,h=>by simp [aI3]at h
 |n+1,a0,a1,a2,a3,a4,r,h=>aLk _ (Uq n) a0 a1 a2 a3 a4 r h
theorem aTf(h:Y6 eL eG eU eH eN=some eV):AL Tryz.prog 54 [.d (AD.D eL),dI eG,.d ((D.l X2.D) eU),.d ((D.l X0.D) eH),.d ((D.l X0.D) eN)] [] (.d ((D.l X8.D) eV)) []:=Uq 100000 eL eG eU eH eN eV h
def VB(s0:List X2)(s1:Int)(w4:X0)(s6:Int):St:=⟨sp 26 0 [sD 0 (D.l X2.D) s0,sI 1 s1,bx 4,sI 6 s6],[cL 4 X0.D w4],[]⟩
def VC(s0:List X2)(s1:Int)(w4:X0)(o:Unit⊕X0):Ex×St:=match o with
 | .inl o=>(.exit 0,⟨sp 26 0 [bx 4],[cL 4 X0.D w4],[]⟩)
 | .inr o=>(.ret,⟨sp 26 0 [bx 4,sD 5 D.b true],[cL 4 X0.D o],[]⟩)
theorem aFr(rd:Option Nat)(h:aLt eU eG eR eI=some eW):Lq 123 rd 26 (VB eU eG eR eI) ((VC eU eG eR) eW):=
 lL (fun s:Int=>VB eU eG eR s) (VC eU eG eR) eI (fun eI o h=>by
 unfold Kg at h
 refine gN 9 X2.D eU ?_
 refine iB 10 h (fun h=> ?_) fun h=> ?_
 refine xX 15 X2.D h fun x1 h=> ?_
 refine iB 19 h (fun h=> ?_) fun h=> ?_
 refine xX 22 X2.D h fun x2 h=> ?_
 exact lb h
 exact lb h
 exact lb h) h
theorem VD(h:Yh eU eG=some eX):AL Tryz.prog 123 [.d ((D.l X2.D) eU),dI eG] [] (.tup [.d (X0.D eX.1),.d (D.b eX.2)]) []:=by
 unfold Yh at h;apply g0 (o:=eX);obtain⟨o3,h5,h⟩:=bS h;refine gl (aFr none h5) ?_;replace h:=AK h;rcases h with⟨o4,rfl,h⟩|⟨o5,rfl,h⟩
 exact lf h;exact lf h
def Vt(s0 s1:List X2)(s5:Int):St:=⟨sp 34 0 [sD 0 (D.l X2.D) s0,sD 1 (D.l X2.D) s1,sI 5 s5],[],[]⟩
def Vu(s0 s1:List X2)(o:Unit⊕Unit):Ex×St:=match o with
 | .inl o=>(.exit 0,⟨sp 34 0 [],[],[]⟩)
 | .inr o=>(.ret,⟨sp 34 0 [sD 4 D.b false],[],[]⟩)
theorem aGk(rd:Option Nat)(h:aL5 eU eY eG=some eZ):Lq 124 rd 26 (Vt eU eY eG) ((Vu eU eY) eZ):=
 lL (fun s:Int=>Vt eU eY s) (Vu eU eY) eG (fun eG o h=>by
 unfold Kk at h
 refine gN 10 X2.D eU ?_
 refine iB 11 h (fun h=> ?_) fun h=> ?_
 refine xX 18 X2.D h fun x1 h=> ?_
 obtain⟨r2,h3,h⟩:=bS h
 refine gC 21 (VD h3) ?_
 refine iB 25 h (fun h=> ?_) fun h=> ?_
 refine xX 29 X2.D h fun x3 h=> ?_
 refine iB 33 h (fun h=> ?_) fun h=> ?_
 exact lb h
 exact lb h
 exact lb h
 exact lb h) h
theorem aUb(h:Z4 eU eY=some eO):AL Tryz.prog 124 [.d ((D.l X2.D) eU),.d ((D.l X2.D) eY)] [] (.d (D.b eO)) []:=by
 unfold Z4 at h;apply g0 (o:=eO);obtain⟨o4,h7,h⟩:=bS h;refine gl (aGk none h7) ?_;replace h:=AK h;rcases h with⟨o5,rfl,h⟩|⟨o6,rfl,h⟩
 exact lf h;exact lf h
theorem aEj(rd:Option Nat)(h:aEi eU eY eG eO f0 eR=some f8):Lq 125 rd 29855 ⟨sp 42 0 [sD 0 (D.l X2.D) eU,sD 1 (D.l X2.D) eY,rx 5,sI 6 eG,bx 9,sD 34 D.b eO],[(5,.row 64 5 (f0.map X2.D)),cL 9 X0.D eR],[]⟩ (.normal,⟨sp 42 0 [sD 0 (D.l X2.D) eU,sD 1 (D.l X2.D) eY,rx 5,sI 6 eG],[(5,.row 64 5 (f8.map X2.D))],[]⟩):=by unfold aEi at h;apply g0 (o:=f8);cases eO;replace h:=CF h;exact lp h;replace h:=CG h;refine gQ (An X2.D [X2.mk eG eR])<|gG 40 (.sl ((f0++[X2.mk eG eR]).map X2.D)) (An X2.D [X2.mk eG eR]) ?_;obtain⟨h17,h⟩:=cS h;refine gQ (Au X2.D h17)<|gQ (At X2.D f0 [X2.mk eG eR]) ?_;exact lP h [.live [0,1,5,6],.keep [40],.ren 40 5,.sort]
theorem aEh(rd:Option Nat)(h:aEg eU eY eG eO f9 f0 eR eS=some f8):Lq 125 rd 7463 ⟨sp 42 0 [sD 0 (D.l X2.D) eU,sD 1 (D.l X2.D) eY,rx 5,sI 6 eG,bx 7,bx 9,sD 10 D.b eO,sD 27 D.b f9],[(5,.row 64 5 (f0.map X2.D)),cL 7 X0.D eR,cL 9 X0.D eS],[]⟩ (.normal,⟨sp 42 0 [sD 0 (D.l X2.D) eU,sD 1 (D.l X2.D) eY,rx 5,sI 6 eG],[(5,.row 64 5 (f8.map X2.D))],[]⟩):=by unfold aEg at h;apply g0 (o:=f8);cases f9;replace h:=CF h;obtain⟨o8,h18,h⟩:=bS h;refine gl (aEj rd h18) ?_;exact lp h;replace h:=CG h;refine gQ (An X2.D [X2.mk eG eR])<|gG 33 (.sl ((f0++[X2.mk eG eR]).map X2.D)) (An X2.D [X2.mk eG eR]) ?_;obtain⟨h15,h⟩:=cS h;refine gQ (Au X2.D h15)<|gQ (At X2.D f0 [X2.mk eG eR]) ?_;exact lP h [.live [0,1,5,6],.keep [33],.ren 33 5,.sort]
theorem aEf(rd:Option Nat)(h:aEe eU eY eG f0=some f8):Lq 125 rd 466 ⟨sp 42 0 [sD 0 (D.l X2.D) eU,sD 1 (D.l X2.D) eY,rx 5,sI 6 eG],[(5,.row 64 5 (f0.map X2.D))],[]⟩ (.normal,⟨sp 42 0 [sD 0 (D.l X2.D) eU,sD 1 (D.l X2.D) eY,rx 5,sI 6 eG],[(5,.row 64 5 (f8.map X2.D))],[]⟩):=by unfold aEe at h;apply g0 (o:=f8);obtain⟨r6,h12,h⟩:=bS h;refine gC 18 (VD h12) ?_;obtain⟨r7,h13,h⟩:=bS h;refine gC 24 (VD h13) ?_;obtain⟨o9,h19,h⟩:=bS h;refine gl (aEh rd h19) ?_;exact lp h
def Uf(s0 s1:List X2)(s6:Int)(w5:List X2):St:=⟨sp 42 0 [sD 0 (D.l X2.D) s0,sD 1 (D.l X2.D) s1,rx 5,sI 6 s6],[(5,.row 64 5 (w5.map X2.D))],[]⟩
def Ug(s0 s1:List X2)(o:(List X2)):Ex×St:=(.exit 0,⟨sp 42 0 [rx 5],[(5,.row 64 5 (o.map X2.D))],[]⟩)
theorem aEk(rd:Option Nat)(h:aLj eU eY eG f0=some f8):Lq 125 rd 58 (Uf eU eY eG f0) ((Ug eU eY) f8):=
 lL (fun s:Int×List X2=>Uf eU eY s.1 s.2) (Ug eU eY) (eG,f0) (fun⟨eG,f0⟩ o h=>by
 unfold IN at h
 refine iB 12 h (fun h=> ?_) fun h=> ?_
 obtain⟨o10,h20,h⟩:=bS h
 refine gl (aEf rd h20) ?_
 exact lb h
 exact lb h) h
theorem aTd(h:Y3 eU eY=some f0):AL Tryz.prog 125 [.d ((D.l X2.D) eU),.d ((D.l X2.D) eY)] [] (.d ((D.l X2.D) f0)) []:=by unfold Y3 at h;apply g0 (o:=f0);obtain⟨o11,h21,h⟩:=bS h;refine gL [.live [0,1,5,6],.keep [],.nil 5 5 64 5,.sort] (aEk none h21) ?_;exact lf h
def Vj(s0:List X2)(w3:X2)(s5:Int):St:=⟨sp 38 0 [sD 0 (D.l X2.D) s0,bx 3,sI 5 s5],[cL 3 X2.D w3],[]⟩
def Vk(s0:List X2)(w3:X2)(o:Int):Ex×St:=(.exit 0,⟨sp 38 0 [sD 0 (D.l X2.D) s0,bx 3,sI 5 o],[cL 3 X2.D w3],[]⟩)
theorem aGf(rd:Option Nat)(h:aL2 eU fA eG=some eI):Lq 126 rd 28 (Vj eU fA eG) ((Vk eU fA) eI):=
 lL (fun s:Int=>Vj eU fA s) (Vk eU fA) eG (fun eG o h=>by
 unfold Ie at h
 refine iB 11 h (fun h=> ?_) fun h=> ?_
 refine xX 15 X2.D h fun x1 h=> ?_
 refine iB 21 h (fun h=> ?_) fun h=> ?_
 exact lb h
 exact lb h
 exact lb h) h
theorem aT4(h:Yz eU fA=some eY):AL Tryz.prog 126 [.d ((D.l X2.D) eU),.d (X2.D fA)] [] (.d ((D.l X2.D) eY)) []:=by unfold Yz at h;apply g0 (o:=eY);refine gN 8 X2.D eU ?_;obtain⟨o2,h4,h⟩:=bS h;refine gl (aGf none h4)<|gQ (An X2.D ([]:List X2))<|gW 27 (.sl ((sub eU 0 o2).map X2.D))<|gW 28 (.sl ((([]:List X2)++(sub eU 0 o2)).map X2.D))<|gW 32 (.sl (((([]:List X2)++(sub eU 0 o2))++[fA]).map X2.D))<|gW 36 (.sl ((sub eU o2 (eU.length:Int)).map X2.D))<|gW 37 (.sl ((((([]:List X2)++(sub eU 0 o2))++[fA])++(sub eU o2 (eU.length:Int))).map X2.D)) ?_;obtain⟨h5,h⟩:=cS h;refine gQ (F2 X2.D h5)<|gQ (An X2.D (sub eU 0 o2)) ?_;obtain⟨h6,h⟩:=cS h;refine gQ (Au X2.D h6)<|gQ (At X2.D ([]:List X2) (sub eU 0 o2))<|gQ (An X2.D [fA])<|gQ (An X2.D [fA]) ?_;obtain⟨h7,h⟩:=cS h;refine gQ (Au X2.D h7)<|gQ (At X2.D (([]:List X2)++(sub eU 0 o2)) [fA]) ?_;obtain⟨h8,h⟩:=cS h;refine gQ (F1 X2.D h8)<|gQ (An X2.D (sub eU o2 (eU.length:Int))) ?_;obtain⟨h9,h⟩:=cS h;refine gQ (Au X2.D h9)<|gQ (At X2.D ((([]:List X2)++(sub eU 0 o2))++[fA]) (sub eU o2 (eU.length:Int))) ?_;exact lf h
theorem OZ(rd:Option Nat)(h:Th eG eU eY eI eO fB eK fC fD fE f0=some fF):Lq 87 rd 521373 ⟨sp 121 0 [sI 1 eG,bx 5,bx 6,bx 8,bx 9,sD 10 (D.l X2.D) eU,sD 11 (D.l X2.D) eY,sI 12 eI,bx 13,rx 14,sD 80 D.b eO],[cL 5 X8.D fB,(6,.cells ([dI eK,.nil,.nil])),cL 8 X3.D fC,cL 9 Aq.D fD,cL 13 CH.D fE,(14,.row 64 5 (f0.map X2.D))],[]⟩ (match (generalizing:=false) fF with
 | .inl fF=>(.normal,⟨sp 121 0 [sI 1 eG,bx 5,bx 6,bx 8,bx 9,sD 10 (D.l X2.D) fF,sD 11 (D.l X2.D) eY,sI 12 eI,bx 13,rx 14],[cL 5 X8.D fB,(6,.cells ([dI eK,.nil,.nil])),cL 8 X3.D fC,cL 9 Aq.D fD,cL 13 CH.D fE,(14,.row 64 5 (f0.map X2.D))],[]⟩)
 | .inr fF=>(.ret,⟨sp 121 0 [bx 6,sD 7 D.b false],[cL 6 Aq.D fD],[]⟩)):=by
 unfold Th at h
 apply g0 (o:=fF)
 cases eO
 replace h:=CF h
 exact lp h
 replace h:=CG h
 obtain⟨r32,h37,h⟩:=bS h
 refine gC 83 (aUb h37) ?_
 refine iB 84 h (fun h=> ?_) fun h=> ?_
 exact lp h
 obtain⟨r33,h39,h⟩:=bS h
 refine gC 88 (aTd h39) ?_
 exact lp h
theorem Oc(rd:Option Nat)(h:Tj eG eU eY eI eO fB eK fC fD f0=some f8):Lq 87 rd 8342007 ⟨sp 121 0 [sI 1 eG,bx 5,bx 6,bx 8,bx 9,sD 10 (D.l X2.D) eU,sD 11 (D.l X2.D) eY,sI 12 eI,rx 14,sD 111 D.b eO],[cL 5 X8.D fB,(6,.cells ([dI eK,.nil,.nil])),cL 8 X3.D fC,cL 9 Aq.D fD,(14,.row 64 5 (f0.map X2.D))],[]⟩ (.normal,⟨sp 121 0 [sI 1 eG,bx 5,bx 6,bx 8,bx 9,sD 10 (D.l X2.D) eU,sD 11 (D.l X2.D) f8,sI 12 eI],[cL 5 X8.D fB,(6,.cells ([dI eK,.nil,.nil])),cL 8 X3.D fC,cL 9 Aq.D fD],[]⟩):=by unfold Tj at h;apply g0 (o:=f8);cases eO;replace h:=CF h;exact lp h;replace h:=CG h;refine xX 114 X2.D h fun x39 h=> ?_;obtain⟨r40,h48,h⟩:=bS h;refine gC 116 (aT4 h48) ?_;exact lp h
theorem Oa(rd:Option Nat)(h:Ti eG eU eY eI eO fB eK fC fD fE f0=some fF):Lq 87 rd 521375 ⟨sp 121 0 [sI 1 eG,bx 5,bx 6,bx 8,bx 9,sD 10 (D.l X2.D) eU,sD 11 (D.l X2.D) eY,sI 12 eI,bx 13,rx 14,sD 91 D.b eO],[cL 5 X8.D fB,(6,.cells ([dI eK,.nil,.nil])),cL 8 X3.D fC,cL 9 Aq.D fD,cL 13 CH.D fE,(14,.row 64 5 (f0.map X2.D))],[]⟩ (match (generalizing:=false) fF with
 | .inl fF=>(.normal,⟨sp 121 0 [sI 1 eG,bx 5,bx 6,bx 8,bx 9,sD 10 (D.l X2.D) eU,sD 11 (D.l X2.D) fF,sI 12 eI],[cL 5 X8.D fB,(6,.cells ([dI eK,.nil,.nil])),cL 8 X3.D fC,cL 9 Aq.D fD],[]⟩)
 | .inr fF=>(.ret,⟨sp 121 0 [bx 6,sD 7 D.b false],[cL 6 Aq.D fD],[]⟩)):=by
 unfold Ti at h
 apply g0 (o:=fF)
 cases eO
 replace h:=CF h
 exact lp h
 replace h:=CG h
 obtain⟨r37,h42,h⟩:=bS h
 refine gC 96 (VD h42) ?_
 refine iB 100 h (fun h=> ?_) fun h=> ?_
 refine xX 105 X0.D h fun x38 h=> ?_
 refine iB 108 h (fun h=> ?_) fun h=> ?_
 exact lp h
 obtain⟨o41,h49,h⟩:=bS h
 refine gl (Oc rd h49) ?_
 exact lp h
 obtain⟨o42,h50,h⟩:=bS h
 refine gl (Oc rd h50) ?_
 exact lp h
theorem aCw(rd:Option Nat)(h:aCv eG eU eY eI fB eK fC fD=some fG):Lq 87 rd 8146 ⟨sp 121 0 [sI 1 eG,bx 5,bx 6,bx 8,bx 9,sD 10 (D.l X2.D) eU,sD 11 (D.l X2.D) eY,sI 12 eI],[cL 5 X8.D fB,(6,.cells ([dI eK,.nil,.nil])),cL 8 X3.D fC,cL 9 Aq.D fD],[]⟩ (match (generalizing:=false) fG with
 | .inl fG=>(.normal,⟨sp 121 0 [sI 1 eG,bx 5,bx 6,bx 8,bx 9,sD 10 (D.l X2.D) fG.1,sD 11 (D.l X2.D) fG.2,sI 12 eI],[cL 5 X8.D fB,(6,.cells ([dI eK,.nil,.nil])),cL 8 X3.D fC,cL 9 Aq.D fD],[]⟩)
 | .inr fG=>(.ret,⟨sp 121 0 [bx 6,sD 7 D.b false],[cL 6 Aq.D fD],[]⟩)):=by
 unfold aCv at h
 apply g0 (o:=fG)
 refine xX 53 CH.D h fun x29 h=> ?_
 refine xX 60 X0.D h fun x30 h=> ?_
 refine gQ (An X2.D [X2.mk x29.n x30]) ?_
 refine iB 67 h (fun h=> ?_) fun h=> ?_
 refine xX 73 X0.D h fun x31 h=> ?_
 refine iB 76 h (fun h=> ?_) fun h=> ?_
 exact lp h
 obtain⟨o34,h40,h⟩:=bS h
 refine gL [.live [1,5,6,8,9,10,11,12,13,14,80],.keep [5,6,8,9,13,63],.ren 63 14,.sort] (OZ rd h40) ?_
 replace h:=AK h
 rcases h with⟨o35,rfl,h⟩|⟨o36,rfl,h⟩
 obtain⟨o43,h51,h⟩:=bS h
 refine gl (Oa rd h51) ?_
 replace h:=AK h
 rcases h with⟨o44,rfl,h⟩|⟨o45,rfl,h⟩
 exact lp h
 exact lp h
 exact lp h
 obtain⟨o46,h52,h⟩:=bS h
 refine gL [.live [1,5,6,8,9,10,11,12,13,14,80],.keep [5,6,8,9,13,63],.ren 63 14,.sort] (OZ rd h52) ?_
 replace h:=AK h
 rcases h with⟨o47,rfl,h⟩|⟨o48,rfl,h⟩
 obtain⟨o49,h53,h⟩:=bS h
 refine gl (Oa rd h53) ?_
 replace h:=AK h
 rcases h with⟨o50,rfl,h⟩|⟨o51,rfl,h⟩
 exact lp h
 exact lp h
 exact lp h
def Tk(s1:Int)(w5:X8)(w6:Int)(w8:X3)(w9:Aq)(s10 s11:List X2)(s12:Int):St:=⟨sp 121 0 [sI 1 s1,bx 5,bx 6,bx 8,bx 9,sD 10 (D.l X2.D) s10,sD 11 (D.l X2.D) s11,sI 12 s12],[cL 5 X8.D w5,(6,.cells ([dI w6,.nil,.nil])),cL 8 X3.D w8,cL 9 Aq.D w9],[]⟩
def Tl(s1:Int)(w5:X8)(w6:Int)(w8:X3)(w9:Aq)(o:(List X2×List X2)⊕Unit):Ex×St:=match o with
 | .inl o=>(.exit 0,⟨sp 121 0 [sI 1 s1,bx 6,sD 10 (D.l X2.D) o.1,sD 11 (D.l X2.D) o.2],[(6,.cells ([dI w6,.nil,.nil]))],[]⟩)
 | .inr o=>(.ret,⟨sp 121 0 [bx 6,sD 7 D.b false],[cL 6 Aq.D w9],[]⟩)
theorem aCx(rd:Option Nat)(h:Py eG fB eI fC fD eU eY eK=some fG):Lq 87 rd 1018 (Tk eG fB eI fC fD eU eY eK) ((Tl eG fB eI fC fD) fG):=
 lL (fun s:List X2×List X2×Int=>Tk eG fB eI fC fD s.1 s.2.1 s.2.2) (Tl eG fB eI fC fD) (eU,eY,eK) (fun⟨eU,eY,eK⟩ o h=>by
 unfold IB at h
 refine gN 46 CH.D fC.args ?_
 refine iB 47 h (fun h=> ?_) fun h=> ?_
 obtain⟨o52,h54,h⟩:=bS h
 refine gl (aCw rd h54) ?_
 replace h:=AK h
 rcases h with⟨o53,rfl,h⟩|⟨o54,rfl,h⟩
 exact lb h
 exact lb h
 exact lb h) h
theorem aSv(h:Xo eL eG fB=some fH):AL Tryz.prog 87 [.d (AD.D eL),dI eG,.d (X8.D fB)] [] (.tup [.d (Aq.D fH.1),.d (D.b fH.2)]) []:=by
 unfold Xo at h;apply g0 (o:=fH);refine xX 20 X3.D h fun x1 h=> ?_;refine xX 27 Xd.D h fun x2 h=> ?_;refine iB 33 h (fun h=> ?_) fun h=> ?_;exact lf h;refine gN 36 CH.D x1.args<|gN 39 X0.D fB.args ?_;refine iB 41 h (fun h=> ?_) fun h=> ?_;exact lf h;obtain⟨o55,h55,h⟩:=bS h;refine gL [.look 10,.look 11,.live [1,5,6,8,9,10,11,12],.keep [5,6,8,9]] (aCx none h55) ?_;replace h:=AK h;rcases h with⟨o56,rfl,h⟩|⟨o57,rfl,h⟩
 exact lf h;exact lf h
theorem aE4(rd:Option Nat)(h:aE3 eG eO eL fB fI fD=some fJ):Lq 57 rd 3731 ⟨sp 29 0 [bx 2,bx 3,rx 5,sI 6 eG,bx 7,sD 23 D.b eO],[cL 2 AD.D eL,cL 3 X8.D fB,(5,.row 135 3 (fI.map Aq.D)),cL 7 Aq.D fD],[]⟩ (.normal,⟨sp 29 0 [bx 2,bx 3,rx 5,sI 6 eG],[cL 2 AD.D eL,cL 3 X8.D fB,(5,.row 135 3 (fJ.map Aq.D))],[]⟩):=by unfold aE3 at h;apply g0 (o:=fJ);cases eO;replace h:=CF h;exact lp h;replace h:=CG h;refine gQ (An Aq.D [fD])<|gG 27 (.sl ((fI++[fD]).map Aq.D)) (An Aq.D [fD]) ?_;obtain⟨h10,h⟩:=cS h;refine gQ (Au Aq.D h10)<|gQ (At Aq.D fI [fD]) ?_;exact lP h [.live [2,3,5,6],.keep [2,3,27],.ren 27 5,.sort]
theorem aE2(rd:Option Nat)(h:aE1 eG eL fB fI=some fJ):Lq 57 rd 466 ⟨sp 29 0 [bx 2,bx 3,rx 5,sI 6 eG],[cL 2 AD.D eL,cL 3 X8.D fB,(5,.row 135 3 (fI.map Aq.D))],[]⟩ (.normal,⟨sp 29 0 [bx 2,bx 3,rx 5,sI 6 eG],[cL 2 AD.D eL,cL 3 X8.D fB,(5,.row 135 3 (fJ.map Aq.D))],[]⟩):=by unfold aE1 at h;apply g0 (o:=fJ);obtain⟨r4,h8,h⟩:=bS h;refine gC 20 (aSv h8) ?_;obtain⟨o5,h11,h⟩:=bS h;refine gl (aE4 rd h11) ?_;exact lp h
def Ut(w2:AD)(w3:X8)(s6:Int)(w5:List Aq):St:=⟨sp 29 0 [bx 2,bx 3,rx 5,sI 6 s6],[cL 2 AD.D w2,cL 3 X8.D w3,(5,.row 135 3 (w5.map Aq.D))],[]⟩
def Uu(w2:AD)(w3:X8)(o:(List Aq)):Ex×St:=(.exit 0,⟨sp 29 0 [rx 5],[(5,.row 135 3 (o.map Aq.D))],[]⟩)
theorem aE5(rd:Option Nat)(h:aLm eL fB eG fI=some fJ):Lq 57 rd 58 (Ut eL fB eG fI) ((Uu eL fB) fJ):=
 lL (fun s:Int×List Aq=>Ut eL fB s.1 s.2) (Uu eL fB) (eG,fI) (fun⟨eG,fI⟩ o h=>by
 unfold IR at h
 refine gN 12 X3.D eL.symbols ?_
 refine iB 13 h (fun h=> ?_) fun h=> ?_
 obtain⟨o6,h12,h⟩:=bS h
 refine gl (aE2 rd h12) ?_
 exact lb h
 exact lb h) h
theorem aTi(h:Y9 eL fB=some fI):AL Tryz.prog 57 [.d (AD.D eL),.d (X8.D fB)] [] (.d ((D.l Aq.D) fI)) []:=by unfold Y9 at h;apply g0 (o:=fI);obtain⟨o7,h13,h⟩:=bS h;refine gL [.live [2,3,5,6],.keep [2,3],.nil 5 5 135 3,.sort] (aE5 none h13) ?_;exact lf h
def Vv(s0 s1:List X2)(s5:Int):St:=⟨sp 35 0 [sD 0 (D.l X2.D) s0,sD 1 (D.l X2.D) s1,sI 5 s5],[],[]⟩
def Vw(s0 s1:List X2)(o:Unit⊕Unit):Ex×St:=match o with
 | .inl o=>(.exit 0,⟨sp 35 0 [],[],[]⟩)
 | .inr o=>(.ret,⟨sp 35 0 [sD 4 D.b false],[],[]⟩)
theorem aGl(rd:Option Nat)(h:aL6 eU eY eG=some eZ):Lq 86 rd 26 (Vv eU eY eG) ((Vw eU eY) eZ):=
 lL (fun s:Int=>Vv eU eY s) (Vw eU eY) eG (fun eG o h=>by
 unfold Kl at h
 refine gN 10 X2.D eU ?_
 refine iB 11 h (fun h=> ?_) fun h=> ?_
 refine xX 18 X2.D h fun x1 h=> ?_
 obtain⟨r2,h3,h⟩:=bS h
 refine gC 21 (VD h3) ?_
 refine iB 26 h (fun h=> ?_) fun h=> ?_
 exact lb h
 refine xX 30 X2.D h fun x3 h=> ?_
 refine iB 34 h (fun h=> ?_) fun h=> ?_
 exact lb h
 exact lb h
 exact lb h) h
theorem aUd(h:Z5 eU eY=some eO):AL Tryz.prog 86 [.d ((D.l X2.D) eU),.d ((D.l X2.D) eY)] [] (.d (D.b eO)) []:=by
 unfold Z5 at h;apply g0 (o:=eO);obtain⟨o4,h7,h⟩:=bS h;refine gl (aGl none h7) ?_;replace h:=AK h;rcases h with⟨o5,rfl,h⟩|⟨o6,rfl,h⟩
 exact lf h;exact lf h
theorem aFc(rd:Option Nat)(h:aFb fI eU eG eO fK=some fJ):Lq 56 rd 1865 ⟨sp 28 0 [sD 0 (D.l Aq.D) fI,sD 1 (D.l X2.D) eU,rx 5,sI 6 eG,sD 19 D.b eO],[(5,.row 135 3 (fK.map Aq.D))],[]⟩ (.normal,⟨sp 28 0 [sD 0 (D.l Aq.D) fI,sD 1 (D.l X2.D) eU,rx 5,sI 6 eG],[(5,.row 135 3 (fJ.map Aq.D))],[]⟩):=by unfold aFb at h;apply g0 (o:=fJ);cases eO;replace h:=CF h;exact lp h;replace h:=CG h;refine xX 23 Aq.D h fun x8 h=> ?_;refine gQ (An Aq.D [x8])<|gG 26 (.sl ((fK++[x8]).map Aq.D)) (An Aq.D [x8]) ?_;obtain⟨h14,h⟩:=cS h;refine gQ (Au Aq.D h14)<|gQ (At Aq.D fK [x8]) ?_;exact lP h [.live [0,1,5,6],.keep [26],.ren 26 5,.sort]
theorem aFa(rd:Option Nat)(h:aE9 fI eU eG fK=some fJ):Lq 56 rd 466 ⟨sp 28 0 [sD 0 (D.l Aq.D) fI,sD 1 (D.l X2.D) eU,rx 5,sI 6 eG],[(5,.row 135 3 (fK.map Aq.D))],[]⟩ (.normal,⟨sp 28 0 [sD 0 (D.l Aq.D) fI,sD 1 (D.l X2.D) eU,rx 5,sI 6 eG],[(5,.row 135 3 (fJ.map Aq.D))],[]⟩):=by unfold aE9 at h;apply g0 (o:=fJ);refine xX 15 Aq.D h fun x6 h=> ?_;obtain⟨r7,h11,h⟩:=bS h;refine gC 19 (aUd h11) ?_;obtain⟨o9,h15,h⟩:=bS h;refine gl (aFc rd h15) ?_;exact lp h
def Uy(s0:List Aq)(s1:List X2)(s6:Int)(w5:List Aq):St:=⟨sp 28 0 [sD 0 (D.l Aq.D) s0,sD 1 (D.l X2.D) s1,rx 5,sI 6 s6],[(5,.row 135 3 (w5.map Aq.D))],[]⟩
def Uz(s0:List Aq)(s1:List X2)(o:(List Aq)):Ex×St:=(.exit 0,⟨sp 28 0 [rx 5],[(5,.row 135 3 (o.map Aq.D))],[]⟩)
theorem aFd(rd:Option Nat)(h:aLo fI eU eG fK=some fJ):Lq 56 rd 58 (Uy fI eU eG fK) ((Uz fI eU) fJ):=
 lL (fun s:Int×List Aq=>Uy fI eU s.1 s.2) (Uz fI eU) (eG,fK) (fun⟨eG,fK⟩ o h=>by
 unfold Ke at h
 refine gN 9 Aq.D fI ?_
 refine iB 10 h (fun h=> ?_) fun h=> ?_
 obtain⟨o10,h16,h⟩:=bS h
 refine gl (aFa rd h16) ?_
 exact lb h
 exact lb h) h
theorem aTl(h:Yb fI eU=some fK):AL Tryz.prog 56 [.d ((D.l Aq.D) fI),.d ((D.l X2.D) eU)] [] (.d ((D.l Aq.D) fK)) []:=by unfold Yb at h;apply g0 (o:=fK);obtain⟨o11,h17,h⟩:=bS h;refine gL [.live [0,1,5,6],.keep [],.nil 5 5 135 3,.sort] (aFd none h17) ?_;exact lf h
def Vl(s0:List Aq)(s3 s4:Int):St:=⟨sp 21 0 [sD 0 (D.l Aq.D) s0,sD 3 dU s3,sI 4 s4],[],[]⟩
def Vm(s0:List Aq)(o:Int):Ex×St:=(.exit 0,⟨sp 21 0 [sD 3 dU o],[],[]⟩)
theorem aGg(rd:Option Nat)(h:aL3 fI eG eI=some eK):Lq 55 rd 58 (Vl fI eG eI) ((Vm fI) eK):=
 lL (fun s:Int×Int=>Vl fI s.1 s.2) (Vm fI) (eG,eI) (fun⟨eG,eI⟩ o h=>by
 unfold If at h
 refine gN 7 Aq.D fI ?_
 refine iB 8 h (fun h=> ?_) fun h=> ?_
 refine xX 14 Aq.D h fun x1 h=> ?_
 obtain⟨h3,h⟩:=cS h
 refine gQ h3 ?_
 exact lb h
 exact lb h) h
theorem aT5(h:Z0 fI=some eG):AL Tryz.prog 55 [.d ((D.l Aq.D) fI)] [] (.d (dU eG)) []:=by unfold Z0 at h;apply g0 (o:=eG);obtain⟨o2,h4,h⟩:=bS h;refine gl (aGg none h4) ?_;exact lf h
def VT(s0:List Int)(s1 s5:Int):St:=⟨sp 48 0 [sD 0 (D.l dU) s0,sD 1 dU s1,sI 5 s5],[],[]⟩
def VU(s0:List Int)(s1 o:Int):Ex×St:=(.exit 0,⟨sp 48 0 [sD 0 (D.l dU) s0,sD 1 dU s1,sI 5 o],[],[]⟩)
theorem aF4(rd:Option Nat)(h:VR fL eG eI=some eK):Lq 58 rd 28 (VT fL eG eI) ((VU fL eG) eK):=
 lL (fun s:Int=>VT fL eG s) (VU fL eG) eI (fun eI o h=>by
 unfold IZ at h
 refine iB 11 h (fun h=> ?_) fun h=> ?_
 refine xX 15 dU h fun x1 h=> ?_
 refine iB 19 h (fun h=> ?_) fun h=> ?_
 exact lb h
 exact lb h
 exact lb h) h
theorem aTu(h:Yq fL eG=some fM):AL Tryz.prog 58 [.d ((D.l dU) fL),.d (dU eG)] [] (.d ((D.l dU) fM)) []:=by unfold Yq at h;apply g0 (o:=fM);refine gN 8 dU fL ?_;obtain⟨o2,h4,h⟩:=bS h;refine gl (aF4 none h4) ?_;refine iB 24 h (fun h=> ?_) fun h=> ?_;refine xX 28 dU h fun x3 h=> ?_;refine iB 32 h (fun h=> ?_) fun h=> ?_;exact lf h;refine gQ (An dU ([]:List Int))<|gW 37 (.sl ((sub fL 0 o2).map dU))<|gW 38 (.sl ((([]:List Int)++(sub fL 0 o2)).map dU))<|gW 42 (.sl (((([]:List Int)++(sub fL 0 o2))++[eG]).map dU))<|gW 46 (.sl ((sub fL o2 (fL.length:Int)).map dU))<|gW 47 (.sl ((((([]:List Int)++(sub fL 0 o2))++[eG])++(sub fL o2 (fL.length:Int))).map dU)) ?_;obtain⟨h8,h⟩:=cS h;refine gQ (F2 dU h8)<|gQ (An dU (sub fL 0 o2)) ?_;obtain⟨h9,h⟩:=cS h;refine gQ (Au dU h9)<|gQ (At dU ([]:List Int) (sub fL 0 o2))<|gQ (An dU [eG])<|gQ (An dU [eG]) ?_;obtain⟨h10,h⟩:=cS h;refine gQ (Au dU h10)<|gQ (At dU (([]:List Int)++(sub fL 0 o2)) [eG]) ?_;obtain⟨h11,h⟩:=cS h;refine gQ (F1 dU h11)<|gQ (An dU (sub fL o2 (fL.length:Int))) ?_;obtain⟨h12,h⟩:=cS h;refine gQ (Au dU h12)<|gQ (At dU ((([]:List Int)++(sub fL 0 o2))++[eG]) (sub fL o2 (fL.length:Int))) ?_;exact lf h;refine gQ (An dU ([]:List Int))<|gW 37 (.sl ((sub fL 0 o2).map dU))<|gW 38 (.sl ((([]:List Int)++(sub fL 0 o2)).map dU))<|gW 42 (.sl (((([]:List Int)++(sub fL 0 o2))++[eG]).map dU))<|gW 46 (.sl ((sub fL o2 (fL.length:Int)).map dU))<|gW 47 (.sl ((((([]:List Int)++(sub fL 0 o2))++[eG])++(sub fL o2 (fL.length:Int))).map dU)) ?_;obtain⟨h13,h⟩:=cS h;refine gQ (F2 dU h13)<|gQ (An dU (sub fL 0 o2)) ?_;obtain⟨h14,h⟩:=cS h;refine gQ (Au dU h14)<|gQ (At dU ([]:List Int) (sub fL 0 o2))<|gQ (An dU [eG])<|gQ (An dU [eG]) ?_;obtain⟨h15,h⟩:=cS h;refine gQ (Au dU h15)<|gQ (At dU (([]:List Int)++(sub fL 0 o2)) [eG]) ?_;obtain⟨h16,h⟩:=cS h;refine gQ (F1 dU h16)<|gQ (An dU (sub fL o2 (fL.length:Int))) ?_;obtain⟨h17,h⟩:=cS h;refine gQ (Au dU h17)<|gQ (At dU ((([]:List Int)++(sub fL 0 o2))++[eG]) (sub fL o2 (fL.length:Int))) ?_;exact lf h
theorem aCq(rd:Option Nat)(h:Pw eU fL eG eV eI eK eO eL=some fN):Lq 23 rd 477587 ⟨sp 42 0 [sD 1 (D.l X2.D) eU,bx 2,sD 5 (D.l dU) fL,sI 6 eG,sD 7 (D.l X8.D) eV,sI 8 eI,sD 9 dU eK,sD 37 D.b eO],[cL 2 AD.D eL],[]⟩ (.normal,⟨sp 42 0 [sD 1 (D.l X2.D) eU,bx 2,sD 5 (D.l dU) fN,sI 6 eG,sD 7 (D.l X8.D) eV,sI 8 eI],[cL 2 AD.D eL],[]⟩):=by unfold Pw at h;apply g0 (o:=fN);cases eO;replace h:=CF h;exact lp h;replace h:=CG h;obtain⟨r13,h18,h⟩:=bS h;refine gC 40 (aTu h18) ?_;exact lp h
theorem aCp(rd:Option Nat)(h:aCo eU fL eG eV eI eL=some fN):Lq 23 rd 59698 ⟨sp 42 0 [sD 1 (D.l X2.D) eU,bx 2,sD 5 (D.l dU) fL,sI 6 eG,sD 7 (D.l X8.D) eV,sI 8 eI],[cL 2 AD.D eL],[]⟩ (.normal,⟨sp 42 0 [sD 1 (D.l X2.D) eU,bx 2,sD 5 (D.l dU) fN,sI 6 eG,sD 7 (D.l X8.D) eV,sI 8 eI],[cL 2 AD.D eL],[]⟩):=by unfold aCo at h;apply g0 (o:=fN);refine xX 30 X8.D h fun x9 h=> ?_;obtain⟨r10,h14,h⟩:=bS h;refine gC 32 (aTi h14) ?_;obtain⟨r11,h15,h⟩:=bS h;refine gC 34 (aTl h15) ?_;obtain⟨r12,h16,h⟩:=bS h;refine gC 35 (aT5 h16) ?_;obtain⟨o14,h19,h⟩:=bS h;refine gl (aCq rd h19) ?_;exact lp h
def Td(s1:List X2)(s6:Int)(s7:List X8)(w2:AD)(s5:List Int)(s8:Int):St:=⟨sp 42 0 [sD 1 (D.l X2.D) s1,bx 2,sD 5 (D.l dU) s5,sI 6 s6,sD 7 (D.l X8.D) s7,sI 8 s8],[cL 2 AD.D w2],[]⟩
def Te(s1:List X2)(s6:Int)(s7:List X8)(w2:AD)(o:(List Int)):Ex×St:=(.exit 2,⟨sp 42 0 [sD 1 (D.l X2.D) s1,bx 2,sD 5 (D.l dU) o,sI 6 s6],[cL 2 AD.D w2],[]⟩)
theorem aCs(rd:Option Nat)(h:aK3 eU eG eV eL fL eI=some fN):Lq 23 rd 7462 (Td eU eG eV eL fL eI) ((Te eU eG eV eL) fN):=
 lL (fun s:List Int×Int=>Td eU eG eV eL s.1 s.2) (Te eU eG eV eL) (fL,eI) (fun⟨fL,eI⟩ o h=>by
 unfold Gi at h
 refine gN 23 X8.D eV ?_
 refine iB 24 h (fun h=> ?_) fun h=> ?_
 obtain⟨o18,h25,h⟩:=bS h
 refine gl (aCp rd h25) ?_
 exact lb h
 exact lb h) h
def Tb(s1:List X2)(w2:AD)(s5:List Int)(s6:Int):St:=⟨sp 42 0 [sD 1 (D.l X2.D) s1,bx 2,sD 5 (D.l dU) s5,sI 6 s6],[cL 2 AD.D w2],[]⟩
def Tc(s1:List X2)(w2:AD)(o:(List Int)):Ex×St:=(.exit 0,⟨sp 42 0 [sD 5 (D.l dU) o],[],[]⟩)
theorem aCr(rd:Option Nat)(h:aK2 eU eL fL eG=some fN):Lq 23 rd 58 (Tb eU eL fL eG) ((Tc eU eL) fN):=
 lL (fun s:List Int×Int=>Tb eU eL s.1 s.2) (Tc eU eL) (fL,eG) (fun⟨fL,eG⟩ o h=>by
 unfold IA at h
 refine gN 13 Xd.D eL.decls ?_
 refine iB 14 h (fun h=> ?_) fun h=> ?_
 obtain⟨r17,h23,h⟩:=bS h
 refine gC 20 (aTf h23) ?_
 obtain⟨o19,h26,h⟩:=bS h
 refine gl (aCs rd h26) ?_
 exact lb h
 exact lb h) h
theorem aO9(h:Xm eL eU=some fL):AL Tryz.prog 23 [.d (AD.D eL),.d ((D.l X2.D) eU)] [] (.d ((D.l dU) fL)) []:=by unfold Xm at h;apply g0 (o:=fL);obtain⟨o20,h27,h⟩:=bS h;refine gL [.look 5,.live [1,2,5,6],.keep [2]] (aCr none h27) ?_;exact lf h
def Va(s1:Int)(w2:AD)(s5:Int):St:=⟨sp 27 0 [sD 1 dW s1,bx 2,sI 5 s5],[cL 2 AD.D w2],[]⟩
def Vb(s1:Int)(w2:AD)(o:Unit⊕Unit):Ex×St:=match o with
 | .inl o=>(.exit 0,⟨sp 27 0 [],[],[]⟩)
 | .inr o=>(.ret,⟨sp 27 0 [sD 4 D.b true],[],[]⟩)
theorem aF9(rd:Option Nat)(h:aLx eG eL eI=some eZ):Lq 25 rd 26 (Va eG eL eI) ((Vb eG eL) eZ):=
 lL (fun s:Int=>Va eG eL s) (Vb eG eL) eI (fun eI o h=>by
 unfold Ib at h
 refine gN 9 Xb.D eL.states ?_
 refine iB 10 h (fun h=> ?_) fun h=> ?_
 obtain⟨h2,h⟩:=cS h
 refine gQ h2<|gQ (of_decide_eq_true rfl:(2:Int)≠0) ?_
 refine iB 19 h (fun h=> ?_) fun h=> ?_
 refine xX 23 Xb.D h fun x1 h=> ?_
 refine iB 26 h (fun h=> ?_) fun h=> ?_
 exact lb h
 exact lb h
 exact lb h
 exact lb h) h
theorem aPi(h:Yu eL eG=some eO):AL Tryz.prog 25 [.d (AD.D eL),.d (dW eG)] [] (.d (D.b eO)) []:=by
 unfold Yu at h;apply g0 (o:=eO);obtain⟨o2,h6,h⟩:=bS h;refine gl (aF9 none h6) ?_;replace h:=AK h;rcases h with⟨o3,rfl,h⟩|⟨o4,rfl,h⟩
 exact lf h;exact lf h
theorem OR(rd:Option Nat)(h:Sp eG eI eK fO fP fQ eO eL fR=some fS):Lq 24 rd 1910419 ⟨sp 74 0 [sD 1 dW eG,sD 2 dU eI,bx 3,sD 7 dW eK,sI 8 fO,sD 9 dW fP,sI 10 fQ,bx 11,sD 49 D.b eO],[cL 3 AD.D eL,cL 11 Xc.D fR],[]⟩ (.normal,⟨sp 74 0 [sD 1 dW eG,sD 2 dU eI,bx 3,sD 7 dW eK,sI 8 fO,sD 9 dW fS,sI 10 fQ],[cL 3 AD.D eL],[]⟩):=by unfold Sp at h;apply g0 (o:=fS);cases eO;replace h:=CF h;exact lp h;replace h:=CG h;obtain⟨h9,h⟩:=cS h;refine gQ h9 ?_;exact lp h
theorem aBp(rd:Option Nat)(h:aBo eG eI eK fO fP fQ eL=some fS):Lq 24 rd 238802 ⟨sp 74 0 [sD 1 dW eG,sD 2 dU eI,bx 3,sD 7 dW eK,sI 8 fO,sD 9 dW fP,sI 10 fQ],[cL 3 AD.D eL],[]⟩ (.normal,⟨sp 74 0 [sD 1 dW eG,sD 2 dU eI,bx 3,sD 7 dW eK,sI 8 fO,sD 9 dW fS,sI 10 fQ],[cL 3 AD.D eL],[]⟩):=by unfold aBo at h;apply g0 (o:=fS);refine xX 35 Xc.D h fun x1 h=> ?_;refine iB 41 h (fun h=> ?_) fun h=> ?_;obtain⟨h7,h⟩:=cS h;refine gQ h7<|gQ (of_decide_eq_true rfl:(2:Int)≠0) ?_;obtain⟨o2,h10,h⟩:=bS h;refine gl (OR rd h10) ?_;exact lp h;obtain⟨o3,h11,h⟩:=bS h;refine gl (OR rd h11) ?_;exact lp h
def Ss(s1 s2:Int)(s7 s8:Int)(w3:AD)(s9 s10:Int):St:=⟨sp 74 0 [sD 1 dW s1,sD 2 dU s2,bx 3,sD 7 dW s7,sI 8 s8,sD 9 dW s9,sI 10 s10],[cL 3 AD.D w3],[]⟩
def Su(s1 s2:Int)(s7 s8:Int)(w3:AD)(o:Int):Ex×St:=(.exit 2,⟨sp 74 0 [sD 1 dW s1,sD 2 dU s2,bx 3,sD 7 dW s7,sI 8 s8,sD 9 dW o],[cL 3 AD.D w3],[]⟩)
theorem aBs(rd:Option Nat)(h:aBr eG eI eK fO eL fP fQ=some fS):Lq 24 rd 29850 (Ss eG eI eK fO eL fP fQ) ((Su eG eI eK fO eL) fS):=
 lL (fun s:Int×Int=>Ss eG eI eK fO eL s.1 s.2) (Su eG eI eK fO eL) (fP,fQ) (fun⟨fP,fQ⟩ o h=>by
 unfold Hx at h
 refine gN 28 Xc.D eL.trans ?_
 refine iB 29 h (fun h=> ?_) fun h=> ?_
 obtain⟨o4,h12,h⟩:=bS h
 refine gl (aBp rd h12) ?_
 exact lb h
 exact lb h) h
theorem OS(rd:Option Nat)(h:ND eG eI eK fO fP eO eL=some fQ):Lq 24 rd 29853 ⟨sp 74 0 [sD 1 dW eG,sD 2 dU eI,bx 3,sD 7 dW eK,sI 8 fO,sD 9 dW fP,sD 66 D.b eO],[cL 3 AD.D eL],[]⟩ (.normal,⟨sp 74 0 [sD 1 dW eG,sD 2 dU eI,bx 3,sD 7 dW eK,sI 8 fO,sD 9 dW fQ],[cL 3 AD.D eL],[]⟩):=by unfold ND at h;apply g0 (o:=fQ);cases eO;replace h:=CF h;exact lp h;replace h:=CG h;obtain⟨h17,h⟩:=cS h;refine gQ h17 ?_;exact lp h
theorem aBn(rd:Option Nat)(h:aBm eG eI eK fO eL=some fP):Lq 24 rd 466 ⟨sp 74 0 [sD 1 dW eG,sD 2 dU eI,bx 3,sD 7 dW eK,sI 8 fO],[cL 3 AD.D eL],[]⟩ (.normal,⟨sp 74 0 [sD 1 dW eG,sD 2 dU eI,bx 3,sD 7 dW fP,sI 8 fO],[cL 3 AD.D eL],[]⟩):=by unfold aBm at h;apply g0 (o:=fP);obtain⟨h2,h⟩:=cS h;refine gQ h2<|gQ (of_decide_eq_true rfl:(2:Int)≠0) ?_;refine iB 24 h (fun h=> ?_) fun h=> ?_;exact lp h;obtain⟨o5,h13,h⟩:=bS h;refine gl (aBs rd h13) ?_;refine iB 58 h (fun h=> ?_) fun h=> ?_;refine xX 62 Xb.D h fun x6 h=> ?_;obtain⟨o7,h18,h⟩:=bS h;refine gl (OS rd h18) ?_;exact lp h;obtain⟨o8,h19,h⟩:=bS h;refine gl (OS rd h19) ?_;exact lp h
def Sq(s1 s2:Int)(w3:AD)(s7 s8:Int):St:=⟨sp 74 0 [sD 1 dW s1,sD 2 dU s2,bx 3,sD 7 dW s7,sI 8 s8],[cL 3 AD.D w3],[]⟩
def Sr(s1 s2:Int)(w3:AD)(o:Int):Ex×St:=(.exit 0,⟨sp 74 0 [sD 7 dW o],[],[]⟩)
theorem aBq(rd:Option Nat)(h:aKt eG eI eL eK fO=some fP):Lq 24 rd 58 (Sq eG eI eL eK fO) ((Sr eG eI eL) fP):=
 lL (fun s:Int×Int=>Sq eG eI eL s.1 s.2) (Sr eG eI eL) (eK,fO) (fun⟨eK,fO⟩ o h=>by
 unfold Gb at h
 refine gN 15 Xb.D eL.states ?_
 refine iB 16 h (fun h=> ?_) fun h=> ?_
 obtain⟨o9,h20,h⟩:=bS h
 refine gl (aBn rd h20) ?_
 exact lb h
 exact lb h) h
theorem aKu(h:Xf eL eG eI=some eK):AL Tryz.prog 24 [.d (AD.D eL),.d (dW eG),.d (dU eI)] [] (.d (dW eK)) []:=by unfold Xf at h;apply g0 (o:=eK);obtain⟨o10,h21,h⟩:=bS h;refine gl (aBq none h21) ?_;exact lf h
def WC(s0:List Int)(s1 s5:Int):St:=⟨sp 18 0 [sD 0 (D.l dW) s0,sD 1 dW s1,sI 5 s5],[],[]⟩
def WD(s0:List Int)(s1:Int)(o:Unit⊕Unit):Ex×St:=match o with
 | .inl o=>(.exit 0,⟨sp 18 0 [],[],[]⟩)
 | .inr o=>(.ret,⟨sp 18 0 [sD 4 D.b true],[],[]⟩)
theorem aGu(rd:Option Nat)(h:aMd fL eG eI=some eZ):Lq 38 rd 26 (WC fL eG eI) ((WD fL eG) eZ):=
 lL (fun s:Int=>WC fL eG s) (WD fL eG) eI (fun eI o h=>by
 unfold Ip at h
 refine gN 8 dW fL ?_
 refine iB 9 h (fun h=> ?_) fun h=> ?_
 refine xX 14 dW h fun x1 h=> ?_
 refine iB 17 h (fun h=> ?_) fun h=> ?_
 exact lb h
 exact lb h
 exact lb h) h
theorem aUl(h:Zd fL eG=some eO):AL Tryz.prog 38 [.d ((D.l dW) fL),.d (dW eG)] [] (.d (D.b eO)) []:=by
 unfold Zd at h;apply g0 (o:=eO);obtain⟨o2,h4,h⟩:=bS h;refine gl (aGu none h4) ?_;replace h:=AK h;rcases h with⟨o3,rfl,h⟩|⟨o4,rfl,h⟩
 exact lf h;exact lf h
theorem aDh(rd:Option Nat)(h:aDg eO fL eG eI eK f9 eL fM fT=some fU):Lq 22 rd 2050451 ⟨sp 71 0 [sD 3 D.b eO,bx 4,sD 9 (D.l dU) fL,rx 10,rx 11,sI 12 eG,sI 13 eI,sD 14 dW eK,sD 58 D.b f9],[cL 4 AD.D eL,(10,.row 32 1 (fM.map dW)),(11,.row 3 1 (fT.map dZ))],[]⟩ (.normal,⟨sp 71 0 [sD 3 D.b eO,bx 4,sD 9 (D.l dU) fL,rx 10,rx 11,sI 12 eG,sI 13 eI],[cL 4 AD.D eL,(10,.row 32 1 (fU.1.map dW)),(11,.row 3 1 (fU.2.map dZ))],[]⟩):=by unfold aDg at h;apply g0 (o:=fU);cases f9;replace h:=CF h;exact lp h;replace h:=CG h;refine gQ (An dW [eK])<|gG 62 (.sl ((fM++[eK]).map dW)) (An dW [eK]) ?_;obtain⟨h13,h⟩:=cS h;refine gQ (Au dW h13)<|gQ (At dW fM [eK])<|xX 66 dZ h fun x9 h=> ?_;refine gQ (An dZ [(AA .add .i64 x9 1)])<|gG 70 (.sl ((fT++[(AA .add .i64 x9 1)]).map dZ)) (An dZ [(AA .add .i64 x9 1)]) ?_;obtain⟨h15,h⟩:=cS h;refine gQ (Au dZ h15)<|gQ (At dZ fT [(AA .add .i64 x9 1)]) ?_;exact lP h [.live [3,4,9,10,11,12,13],.keep [4,62,70],.ren 62 10,.ren 70 11,.sort]
theorem aDf(rd:Option Nat)(h:aDe eO fL eG eI eL fM fT=some fU):Lq 22 rd 256306 ⟨sp 71 0 [sD 3 D.b eO,bx 4,sD 9 (D.l dU) fL,rx 10,rx 11,sI 12 eG,sI 13 eI],[cL 4 AD.D eL,(10,.row 32 1 (fM.map dW)),(11,.row 3 1 (fT.map dZ))],[]⟩ (.normal,⟨sp 71 0 [sD 3 D.b eO,bx 4,sD 9 (D.l dU) fL,rx 10,rx 11,sI 12 eG,sI 13 eI],[cL 4 AD.D eL,(10,.row 32 1 (fU.1.map dW)),(11,.row 3 1 (fU.2.map dZ))],[]⟩):=by unfold aDe at h;apply g0 (o:=fU);refine xX 48 dW h fun x5 h=> ?_;refine xX 52 dU h fun x6 h=> ?_;obtain⟨r7,h10,h⟩:=bS h;refine gC 54 (aKu h10) ?_;obtain⟨r8,h11,h⟩:=bS h;refine gC 57 (aUl h11) ?_;obtain⟨o10,h16,h⟩:=bS h;refine gl (aDh rd h16) ?_;exact lp h
def T6(s3:Bool)(s9:List Int)(s12:Int)(w4:AD)(s13:Int)(w10 w11:List Int):St:=⟨sp 71 0 [sD 3 D.b s3,bx 4,sD 9 (D.l dU) s9,rx 10,rx 11,sI 12 s12,sI 13 s13],[cL 4 AD.D w4,(10,.row 32 1 (w10.map dW)),(11,.row 3 1 (w11.map dZ))],[]⟩
def T7(s3:Bool)(s9:List Int)(s12:Int)(w4:AD)(o:(List Int×List Int)):Ex×St:=(.exit 2,⟨sp 71 0 [sD 3 D.b s3,bx 4,sD 9 (D.l dU) s9,rx 10,rx 11,sI 12 s12],[cL 4 AD.D w4,(10,.row 32 1 (o.1.map dW)),(11,.row 3 1 (o.2.map dZ))],[]⟩)
theorem aDj(rd:Option Nat)(h:aK8 eO fL eG eL eI fM fT=some fU):Lq 22 rd 32038 (T6 eO fL eG eL eI fM fT) ((T7 eO fL eG eL) fU):=
 lL (fun s:Int×List Int×List Int=>T6 eO fL eG eL s.1 s.2.1 s.2.2) (T7 eO fL eG eL) (eI,fM,fT) (fun⟨eI,fM,fT⟩ o h=>by
 unfold IE at h
 refine gN 41 dU fL ?_
 refine iB 42 h (fun h=> ?_) fun h=> ?_
 obtain⟨o11,h17,h⟩:=bS h
 refine gl (aDf rd h17) ?_
 exact lb h
 exact lb h) h
def T4(s3:Bool)(s9:List Int)(w4:AD)(s12:Int)(w10 w11:List Int):St:=⟨sp 71 0 [sD 3 D.b s3,bx 4,sD 9 (D.l dU) s9,rx 10,rx 11,sI 12 s12],[cL 4 AD.D w4,(10,.row 32 1 (w10.map dW)),(11,.row 3 1 (w11.map dZ))],[]⟩
def T5(s3:Bool)(s9:List Int)(w4:AD)(o:Unit⊕Int):Ex×St:=match o with
 | .inl o=>(.exit 0,⟨sp 71 0 [],[],[]⟩)
 | .inr o=>(.ret,⟨sp 71 0 [sI 8 o],[],[]⟩)
theorem aDi(rd:Option Nat)(h:aK7 eO fL eL eG fM fT=some fV):Lq 22 rd 250 (T4 eO fL eL eG fM fT) ((T5 eO fL eL) fV):=
 lL (fun s:Int×List Int×List Int=>T4 eO fL eL s.1 s.2.1 s.2.2) (T5 eO fL eL) (eG,fM,fT) (fun⟨eG,fM,fT⟩ o h=>by
 unfold Gn at h
 refine gN 23 dW fM ?_
 refine iB 24 h (fun h=> ?_) fun h=> ?_
 refine xX 30 dW h fun x2 h=> ?_
 obtain⟨r3,h4,h⟩:=bS h
 refine gC 32 (aPi h4) ?_
 refine iB 34 h (fun h=> ?_) fun h=> ?_
 refine xX 37 dZ h fun x4 h=> ?_
 exact lb h
 obtain⟨o12,h18,h⟩:=bS h
 refine gl (aDj rd h18) ?_
 exact lb h
 exact lb h) h
theorem aPc(h:Xu eL eU eG eO=some eI):AL Tryz.prog 22 [.d (AD.D eL),.d ((D.l X2.D) eU),.d (dW eG),.d (D.b eO)] [] (dI eI) []:=by
 unfold Xu at h;apply g0 (o:=eI);obtain⟨r1,h1,h⟩:=bS h;refine gC 17 (aO9 h1)<|gQ (An dW [eG])<|gQ (An dZ [0]) ?_;obtain⟨o13,h19,h⟩:=bS h;refine gL [.live [3,4,9,10,11,12],.keep [4,19,20],.ren 19 10,.ren 20 11,.sort] (aDi none h19) ?_;replace h:=AK h;rcases h with⟨o14,rfl,h⟩|⟨o15,rfl,h⟩
 exact lf h;exact lf h
def UW(s1:List X2)(s3:Bool)(s9:List Int)(s10:Bool)(s11:Int)(s12:List Int)(s13 s14:Int)(w4:AD)(s15:Bool)(s16:Int):St:=⟨sp 137 0 [sD 1 (D.l X2.D) s1,sD 3 D.b s3,bx 4,sD 9 (D.l dU) s9,sD 10 D.b s10,sI 11 s11,sD 12 (D.l dU) s12,sD 13 dW s13,sI 14 s14,sD 15 D.b s15,sI 16 s16],[cL 4 AD.D w4],[]⟩
def UX(s1:List X2)(s3:Bool)(s9:List Int)(s10:Bool)(s11:Int)(s12:List Int)(s13 s14:Int)(w4:AD)(o:Bool⊕Unit):Ex×St:=match o with
 | .inl o=>(.exit 2,⟨sp 137 0 [sD 1 (D.l X2.D) s1,sD 3 D.b s3,bx 4,sD 9 (D.l dU) s9,sD 10 D.b s10,sI 11 s11,sD 12 (D.l dU) s12,sD 13 dW s13,sI 14 s14,sD 15 D.b o],[cL 4 AD.D w4],[]⟩)
 | .inr o=>(.ret,⟨sp 137 0 [sD 8 D.b false],[],[]⟩)
theorem aD4(rd:Option Nat)(h:aLi eU eO fL f9 eG fM eI eK eL fW fO=some fX):Lq 5 rd 522826 (UW eU eO fL f9 eG fM eI eK eL fW fO) ((UX eU eO fL f9 eG fM eI eK eL) fX):=
 lL (fun s:Bool×Int=>UW eU eO fL f9 eG fM eI eK eL s.1 s.2) (UX eU eO fL f9 eG fM eI eK eL) (fW,fO) (fun⟨fW,fO⟩ o h=>by
 unfold IK at h
 refine gN 68 dU fM ?_
 refine iB 69 h (fun h=> ?_) fun h=> ?_
 refine xX 74 dU h fun x8 h=> ?_
 refine xX 78 dU h fun x9 h=> ?_
 refine iB 81 h (fun h=> ?_) fun h=> ?_
 refine xX 88 dU h fun x10 h=> ?_
 obtain⟨r11,h20,h⟩:=bS h
 refine gC 90 (aKu h20) ?_
 obtain⟨r12,h21,h⟩:=bS h
 refine gC 92 (aPc h21) ?_
 refine iB 98 h (fun h=> ?_) fun h=> ?_
 exact lb h
 refine iB 100 h (fun h=> ?_) fun h=> ?_
 exact lb h
 refine xX 103 dU h fun x13 h=> ?_
 refine xX 107 dU h fun x14 h=> ?_
 exact lb h
 refine iB 100 h (fun h=> ?_) fun h=> ?_
 exact lb h
 refine xX 103 dU h fun x15 h=> ?_
 refine xX 107 dU h fun x16 h=> ?_
 exact lb h
 exact lb h) h
def UU(s1:List X2)(s3:Bool)(s9:List Int)(s10:Bool)(s11:Int)(s12:List Int)(w4:AD)(s13 s14:Int):St:=⟨sp 137 0 [sD 1 (D.l X2.D) s1,sD 3 D.b s3,bx 4,sD 9 (D.l dU) s9,sD 10 D.b s10,sI 11 s11,sD 12 (D.l dU) s12,sD 13 dW s13,sI 14 s14],[cL 4 AD.D w4],[]⟩
def UV(s1:List X2)(s3:Bool)(s9:List Int)(s10:Bool)(s11:Int)(s12:List Int)(w4:AD)(o:Int⊕Unit):Ex×St:=match o with
 | .inl o=>(.exit 0,⟨sp 137 0 [sD 3 D.b s3,bx 4,sD 9 (D.l dU) s9,sD 10 D.b s10,sI 11 s11,sD 13 dW o],[cL 4 AD.D w4],[]⟩)
 | .inr o=>(.ret,⟨sp 137 0 [sD 8 D.b false],[],[]⟩)
theorem aD3(rd:Option Nat)(h:aLh eU eO fL f9 eG fM eL eI eK=some fY):Lq 5 rd 2042 (UU eU eO fL f9 eG fM eL eI eK) ((UV eU eO fL f9 eG fM eL) fY):=
 lL (fun s:Int×Int=>UU eU eO fL f9 eG fM eL s.1 s.2) (UV eU eO fL f9 eG fM eL) (eI,eK) (fun⟨eI,eK⟩ o h=>by
 unfold IJ at h
 refine gN 62 dU fL ?_
 refine iB 63 h (fun h=> ?_) fun h=> ?_
 obtain⟨o17,h29,h⟩:=bS h
 refine gl (aD4 rd h29) ?_
 replace h:=AK h
 rcases h with⟨o18,rfl,h⟩|⟨o19,rfl,h⟩
 refine iB 112 h (fun h=> ?_) fun h=> ?_
 exact lb h
 refine xX 117 dU h fun x20 h=> ?_
 obtain⟨r21,h32,h⟩:=bS h
 refine gC 119 (aKu h32) ?_
 exact lb h
 exact lb h
 exact lb h) h
theorem aS9(h:Y0 eL eU eG eO=some f9):AL Tryz.prog 5 [.d (AD.D eL),.d ((D.l X2.D) eU),.d (dW eG),.d (D.b eO)] [] (.d (D.b f9)) []:=by
 unfold Y0 at h;apply g0 (o:=f9);obtain⟨r1,h1,h⟩:=bS h;refine gC 19 (aRs h1) ?_;refine iB 21 h (fun h=> ?_) fun h=> ?_;obtain⟨r2,h3,h⟩:=bS h;refine gC 30 (aG5 h3) ?_;exact lf h;refine gN 25 Xb.D eL.states ?_;obtain⟨h4,h⟩:=cS h;refine gQ h4 ?_;refine iB 29 h (fun h=> ?_) fun h=> ?_;obtain⟨r3,h6,h⟩:=bS h;refine gC 30 (aG5 h6) ?_;exact lf h;obtain⟨r4,h7,h⟩:=bS h;refine gC 36 (aTw h7) ?_;obtain⟨r5,h8,h⟩:=bS h;refine gC 43 (aPc h8) ?_;refine iB 45 h (fun h=> ?_) fun h=> ?_;refine gN 47 dU r4.1 ?_;refine iB 49 h (fun h=> ?_) fun h=> ?_;refine iB 53 h (fun h=> ?_) fun h=> ?_;obtain⟨r6,h12,h⟩:=bS h;refine gC 54 (aG5 h12) ?_;exact lf h;exact lf h;exact lf h;obtain⟨r7,h13,h⟩:=bS h;refine gC 58 (aO9 h13) ?_;obtain⟨o22,h33,h⟩:=bS h;refine gl (aD3 none h33) ?_;replace h:=AK h;rcases h with⟨o23,rfl,h⟩|⟨o24,rfl,h⟩
 refine iB 121 h (fun h=> ?_) fun h=> ?_;refine gN 123 dU r4.1 ?_;refine iB 127 h (fun h=> ?_) fun h=> ?_;obtain⟨r25,h36,h⟩:=bS h;refine gC 130 (aPi h36) ?_;refine iB 134 h (fun h=> ?_) fun h=> ?_;obtain⟨r26,h38,h⟩:=bS h;refine gC 135 (aG5 h38) ?_;exact lf h;exact lf h;exact lf h;exact lf h;exact lf h
end Go.Ac
