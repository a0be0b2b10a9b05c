/- Own work, printed: the functions compute these. -/
import Derived.Test.YtgcfokfcilgnlaaGreatWa23sx2
set_option linter.unusedVariables false
set_option linter.unusedSimpArgs false
namespace Go.Ac
open Go.Proofs
variable {eS:List Bool}
variable {eT eU:Bool}
variable {eV eY f8 gA gB gD gH:Int}
variable {eW:AD}
variable {eX:(Bool×Bool)}
variable {eZ gY i5:List X3}
variable {f0:Bool⊕Unit}
variable {f9 fB fE:List X0}
variable {fA fF fG:X0}
variable {fC:(List X0)}
variable {fD:CN}
variable {fH fL fN:List X2}
variable {fI:List X4}
variable {fJ:Unit⊕X0}
variable {fK:X0×Bool}
variable {fM:Unit⊕Unit}
variable {fO:(List X2)}
variable {fP:X2}
variable {fQ:X4}
variable {fR:X5}
variable {fS:Ad}
variable {fT:(List X2)⊕Unit}
variable {fU:(List X2×List X2)⊕Unit}
variable {fV:Ad×Bool}
variable {fW fY:List Ad}
variable {fX:(List Ad)}
variable {fZ g8 gJ:List Int}
variable {g9:(List Int)}
variable {gE:X6}
variable {gK:(List Int×List Int)}
variable {gM:Unit⊕Int}
variable {gO:X0×Int}
variable {gP:Bool×Int}
variable {gR:List Es}
variable {gS:(List X0)⊕Int}
variable {gU:List X0×Int}
variable {gV gZ:X3}
variable {gX:X3×Bool×Int}
variable {hU:(List X3)}
variable {hZ:(Int×List X3)}
variable {i4:List X3×Int}
variable {i6:(List X3×Int)}
variable {i7:Unit⊕Bool}
theorem aJ5(rd:Option Nat)(h:aJ4 eS eT eU eV eW=some eX):Lq 15 rd 2002 (aSz eS eT eU eV eW) (aS0 eS eT eU eV eW eX):=by unfold aJ4 at h;apply g0 (o:=eX);refine xX 20 D.b h fun x2 h=>?_;refine iB 22 h (fun h=>?_) fun h=>?_;refine xX 26 Xc.D h fun x3 h=>?_;obtain⟨o4,h7,h⟩:=bS h;refine gl (P8 rd h7)<|xX 32 D.b h fun x5 h=>?_;refine iB 34 h (fun h=>?_) fun h=>?_;refine xX 38 Xc.D h fun x6 h=>?_;refine iB 42 h (fun h=>?_) fun h=>?_;obtain⟨o7,h13,h⟩:=bS h;refine gl (FZ rd h13) ?_;exact lp h;refine xX 46 Xc.D h fun x8 h=>?_;obtain⟨o9,h15,h⟩:=bS h;refine gl (FZ rd h15) ?_;exact lp h;obtain⟨o10,h16,h⟩:=bS h;refine gl (FZ rd h16) ?_;exact lp h;obtain⟨o11,h17,h⟩:=bS h;refine gl (P8 rd h17)<|xX 32 D.b h fun x12 h=>?_;refine iB 34 h (fun h=>?_) fun h=>?_;refine xX 38 Xc.D h fun x13 h=>?_;refine iB 42 h (fun h=>?_) fun h=>?_;obtain⟨o14,h22,h⟩:=bS h;refine gl (FZ rd h22) ?_;exact lp h;refine xX 46 Xc.D h fun x15 h=>?_;obtain⟨o16,h24,h⟩:=bS h;refine gl (FZ rd h24) ?_;exact lp h;obtain⟨o17,h25,h⟩:=bS h;refine gl (FZ rd h25) ?_;exact lp h
def W3(s5:List Bool)(w2:AD)(s6 s7:Bool)(s8:Int):St:=⟨sp 53 0 [bx 2,sD 5 (D.l D.b) s5,sD 6 D.b s6,sD 7 D.b s7,sI 8 s8],[cL 2 AD.D w2],[]⟩
def W4(s5:List Bool)(w2:AD)(o:(Bool×Bool)):Ex×St:=(.exit 0,⟨sp 53 0 [sD 6 D.b o.1,sD 7 D.b o.2],[],[]⟩)
theorem aJ6(rd:Option Nat)(h:aS1 eS eW eT eU eV=some eX):Lq 15 rd 250 (W3 eS eW eT eU eV) ((W4 eS eW) eX):=
 lL (fun s:Bool×Bool×Int=>W3 eS eW s.1 s.2.1 s.2.2) (W4 eS eW) (eT,eU,eV) (fun⟨eT,eU,eV⟩ o h=>by
 unfold Iv at h
 refine gN 14 D.b eS ?_
 refine iB 15 h (fun h=>?_) fun h=>?_
 obtain⟨o18,h26,h⟩:=bS h
 refine gl (aJ5 rd h26) ?_
 exact lb h
 exact lb h) h
theorem bBq(h:Xw eW eV=some eY):AM Tryz.prog 15 [.d (AD.D eW),dI eV] [] (dI eY) []:=by unfold Xw at h;apply g0 (o:=eY);obtain⟨r1,h1,h⟩:=bS h;refine gC 11 (bBz h1) ?_;obtain⟨o19,h27,h⟩:=bS h;refine gl (aJ6 none h27) ?_;refine iB 51 h (fun h=>?_) fun h=>?_;exact lf h;refine iB 52 h (fun h=>?_) fun h=>?_;exact lf h;exact lf h
def aAm(s1:List X3)(w2:AD)(s5:Bool)(s6:Int):St:=⟨sp 29 0 [sD 1 (D.l X3.D) s1,bx 2,sD 5 D.b s5,sI 6 s6],[cL 2 AD.D w2],[]⟩
def aAn(s1:List X3)(w2:AD)(o:Bool⊕Unit):Ex×St:=match o with
 | .inl o=>(.exit 0,⟨sp 29 0 [sD 5 D.b o],[],[]⟩)
 | .inr o=>(.ret,⟨sp 29 0 [sI 4 1],[],[]⟩)
theorem aM9(rd:Option Nat)(h:aTq eZ eW eT eV=some f0):Lq 20 rd 58 (aAm eZ eW eT eV) ((aAn eZ eW) f0):=
 lL (fun s:Bool×Int=>aAm eZ eW s.1 s.2) (aAn eZ eW) (eT,eV) (fun⟨eT,eV⟩ o h=>by
 unfold HM at h
 refine gN 10 X3.D eZ ?_
 refine iB 11 h (fun h=>?_) fun h=>?_
 refine xX 17 X3.D h fun x1 h=>?_
 obtain⟨r2,h3,h⟩:=bS h
 refine gC 20 (bBq h3) ?_
 refine iB 22 h (fun h=>?_) fun h=>?_
 exact lb h
 refine iB 24 h (fun h=>?_) fun h=>?_
 exact lb h
 exact lb h
 exact lb h) h
theorem aX2(h:Z0 eW eZ=some eV):AM Tryz.prog 20 [.d (AD.D eW),.d ((D.l X3.D) eZ)] [] (dI eV) []:=by
 unfold Z0 at h;apply g0 (o:=eV);obtain⟨o3,h6,h⟩:=bS h;refine gl (aM9 none h6) ?_;replace h:=AJ h;rcases h with⟨o4,rfl,h⟩|⟨o5,rfl,h⟩
 refine iB 28 h (fun h=>?_) fun h=>?_;exact lf h;exact lf h;exact lf h
def aAd(s0:List X3)(s3 s4:Int):St:=⟨sp 21 0 [sD 0 (D.l X3.D) s0,sD 3 dW s3,sI 4 s4],[],[]⟩
def aAe(s0:List X3)(o:Int):Ex×St:=(.exit 0,⟨sp 21 0 [sD 3 dW o],[],[]⟩)
theorem aM3(rd:Option Nat)(h:aTp eZ eV eY=some f8):Lq 31 rd 58 (aAd eZ eV eY) ((aAe eZ) f8):=
 lL (fun s:Int×Int=>aAd eZ s.1 s.2) (aAe eZ) (eV,eY) (fun⟨eV,eY⟩ o h=>by
 unfold JG at h
 refine gN 7 X3.D eZ ?_
 refine iB 8 h (fun h=>?_) fun h=>?_
 refine xX 14 X3.D h fun x1 h=>?_
 obtain⟨h3,h⟩:=cS h
 refine gQ h3 ?_
 exact lb h
 exact lb h) h
theorem aAf(h:Yw eZ=some eV):AM Tryz.prog 31 [.d ((D.l X3.D) eZ)] [] (.d (dW eV)) []:=by unfold Yw at h;apply g0 (o:=eV);obtain⟨o2,h4,h⟩:=bS h;refine gl (aM3 none h4) ?_;exact lf h
def ZP(s0:List X0)(w3:X0)(s5:Int):St:=⟨sp 48 0 [sD 0 (D.l X0.D) s0,bx 3,sI 5 s5],[cL 3 X0.D w3],[]⟩
def ZQ(s0:List X0)(w3:X0)(o:Int):Ex×St:=(.exit 0,⟨sp 48 0 [sD 0 (D.l X0.D) s0,bx 3,sI 5 o],[cL 3 X0.D w3],[]⟩)
theorem aMp(rd:Option Nat)(h:aTj f9 fA eV=some eY):Lq 119 rd 28 (ZP f9 fA eV) ((ZQ f9 fA) eY):=
 lL (fun s:Int=>ZP f9 fA s) (ZQ f9 fA) eV (fun eV o h=>by
 unfold JD at h
 refine iB 11 h (fun h=>?_) fun h=>?_
 refine xX 16 X0.D h fun x1 h=>?_
 obtain⟨r2,h3,h⟩:=bS h
 refine gQ (aF6 h3) ?_
 cases r2
 replace h:=Bj h
 refine gW 18 (.ret (.d (D.b false))) ?_
 exact lb h
 replace h:=Bl h
 refine gW 18 (.ret (.d (D.b true))) ?_
 exact lb h
 exact lb h) h
theorem SS(h:Yq f9 fA=some fB):AM Tryz.prog 119 [.d ((D.l X0.D) f9),.d (X0.D fA)] [] (.d ((D.l X0.D) fB)) []:=by unfold Yq at h;apply g0 (o:=fB);refine gN 8 X0.D f9 ?_;obtain⟨o3,h5,h⟩:=bS h;refine gl (aMp none h5) ?_;refine iB 24 h (fun h=>?_) fun h=>?_;refine xX 28 X0.D h fun x4 h=>?_;refine iB 32 h (fun h=>?_) fun h=>?_;exact lf h;refine gQ (Ag X0.D ([]:List X0))<|gW 37 (.sl ((sub f9 0 o3).map X0.D))<|gW 38 (.sl ((([]:List X0)++(sub f9 0 o3)).map X0.D))<|gW 42 (.sl (((([]:List X0)++(sub f9 0 o3))++[fA]).map X0.D))<|gW 46 (.sl ((sub f9 o3 (f9.length:Int)).map X0.D))<|gW 47 (.sl ((((([]:List X0)++(sub f9 0 o3))++[fA])++(sub f9 o3 (f9.length:Int))).map X0.D)) ?_;obtain⟨h9,h⟩:=cS h;refine gQ (ED X0.D h9)<|gQ (Ag X0.D (sub f9 0 o3)) ?_;obtain⟨h10,h⟩:=cS h;refine gQ (Ak X0.D h10)<|gQ (Ai X0.D ([]:List X0) (sub f9 0 o3))<|gQ (Ag X0.D [fA])<|gQ (Ag X0.D [fA]) ?_;obtain⟨h11,h⟩:=cS h;refine gQ (Ak X0.D h11)<|gQ (Ai X0.D (([]:List X0)++(sub f9 0 o3)) [fA]) ?_;obtain⟨h12,h⟩:=cS h;refine gQ (EC X0.D h12)<|gQ (Ag X0.D (sub f9 o3 (f9.length:Int))) ?_;obtain⟨h13,h⟩:=cS h;refine gQ (Ak X0.D h13)<|gQ (Ai X0.D ((([]:List X0)++(sub f9 0 o3))++[fA]) (sub f9 o3 (f9.length:Int))) ?_;exact lf h;refine gQ (Ag X0.D ([]:List X0))<|gW 37 (.sl ((sub f9 0 o3).map X0.D))<|gW 38 (.sl ((([]:List X0)++(sub f9 0 o3)).map X0.D))<|gW 42 (.sl (((([]:List X0)++(sub f9 0 o3))++[fA]).map X0.D))<|gW 46 (.sl ((sub f9 o3 (f9.length:Int)).map X0.D))<|gW 47 (.sl ((((([]:List X0)++(sub f9 0 o3))++[fA])++(sub f9 o3 (f9.length:Int))).map X0.D)) ?_;obtain⟨h14,h⟩:=cS h;refine gQ (ED X0.D h14)<|gQ (Ag X0.D (sub f9 0 o3)) ?_;obtain⟨h15,h⟩:=cS h;refine gQ (Ak X0.D h15)<|gQ (Ai X0.D ([]:List X0) (sub f9 0 o3))<|gQ (Ag X0.D [fA])<|gQ (Ag X0.D [fA]) ?_;obtain⟨h16,h⟩:=cS h;refine gQ (Ak X0.D h16)<|gQ (Ai X0.D (([]:List X0)++(sub f9 0 o3)) [fA]) ?_;obtain⟨h17,h⟩:=cS h;refine gQ (EC X0.D h17)<|gQ (Ag X0.D (sub f9 o3 (f9.length:Int))) ?_;obtain⟨h18,h⟩:=cS h;refine gQ (Ak X0.D h18)<|gQ (Ai X0.D ((([]:List X0)++(sub f9 0 o3))++[fA]) (sub f9 o3 (f9.length:Int))) ?_;exact lf h
theorem aIt(rd:Option Nat)(h:WF eV eT eW=some fC):Lq 118 rd 29 ⟨sp 56 0 [sI 1 eV,bx 2,(5,.nil),sD 10 D.b eT],[cL 2 AD.D eW],[]⟩ (.normal,⟨sp 56 0 [sI 1 eV,bx 2,rx 5],[cL 2 AD.D eW,(5,.row 62 4 (fC.map X0.D))],[]⟩):=by unfold WF at h;apply g0 (o:=fC);cases eT;replace h:=Bj h;exact lP h [.live [1,2,5],.keep [2],.nil 5 5 62 4,.sort];replace h:=Bl h;refine gQ (Ag X0.D ([X0.mk 3 0 ([]:List UInt8) false,X0.mk 3 0 ([]:List UInt8) true])) ?_;exact lP h [.live [1,2,5],.keep [2,13],.ren 13 5,.sort]
theorem Pz(rd:Option Nat)(h:WG eV f9 eY f8 eT eW fD=some fC):Lq 118 rd 500883 ⟨sp 56 0 [sI 1 eV,bx 2,sD 5 (D.l X0.D) f9,sI 6 eY,sI 7 f8,bx 8,sD 50 D.b eT],[cL 2 AD.D eW,cL 8 CN.D fD],[]⟩ (.normal,⟨sp 56 0 [sI 1 eV,bx 2,sD 5 (D.l X0.D) fC,sI 6 eY,sI 7 f8],[cL 2 AD.D eW],[]⟩):=by unfold WG at h;apply g0 (o:=fC);cases eT;replace h:=Bj h;exact lp h;replace h:=Bl h;obtain⟨r12,h20,h⟩:=bS h;refine gC 54 (SS h20) ?_;exact lp h
theorem aIv(rd:Option Nat)(h:aIu eV f9 eY f8 eW=some fC):Lq 118 rd 62610 ⟨sp 56 0 [sI 1 eV,bx 2,sD 5 (D.l X0.D) f9,sI 6 eY,sI 7 f8],[cL 2 AD.D eW],[]⟩ (.normal,⟨sp 56 0 [sI 1 eV,bx 2,sD 5 (D.l X0.D) fC,sI 6 eY,sI 7 f8],[cL 2 AD.D eW],[]⟩):=by unfold aIu at h;apply g0 (o:=fC);refine xX 35 X5.D h fun x10 h=>?_;refine xX 39 CN.D h fun x11 h=>?_;refine iB 44 h (fun h=>?_) fun h=>?_;obtain⟨o13,h21,h⟩:=bS h;refine gl (Pz rd h21) ?_;exact lp h;obtain⟨o14,h22,h⟩:=bS h;refine gl (Pz rd h22) ?_;exact lp h
def WK(s1 s6:Int)(w2:AD)(s5:List X0)(s7:Int):St:=⟨sp 56 0 [sI 1 s1,bx 2,sD 5 (D.l X0.D) s5,sI 6 s6,sI 7 s7],[cL 2 AD.D w2],[]⟩
def WL(s1 s6:Int)(w2:AD)(o:(List X0)):Ex×St:=(.exit 2,⟨sp 56 0 [sI 1 s1,bx 2,sD 5 (D.l X0.D) o,sI 6 s6],[cL 2 AD.D w2],[]⟩)
theorem aIy(rd:Option Nat)(h:aIx eV eY eW f9 f8=some fC):Lq 118 rd 7826 (WK eV eY eW f9 f8) ((WL eV eY eW) fC):=
 lL (fun s:List X0×Int=>WK eV eY eW s.1 s.2) (WL eV eY eW) (f9,f8) (fun⟨f9,f8⟩ o h=>by
 unfold In at h
 refine xX 25 X5.D h fun x17 h=>?_
 refine gN 28 CN.D x17.args ?_
 refine iB 29 h (fun h=>?_) fun h=>?_
 obtain⟨o18,h28,h⟩:=bS h
 refine gl (aIv rd h28) ?_
 exact lb h
 exact lb h) h
def WH(s1:Int)(w2:AD)(s5:List X0)(s6:Int):St:=⟨sp 56 0 [sI 1 s1,bx 2,sD 5 (D.l X0.D) s5,sI 6 s6],[cL 2 AD.D w2],[]⟩
def WJ(s1:Int)(w2:AD)(o:(List X0)):Ex×St:=(.exit 0,⟨sp 56 0 [sD 5 (D.l X0.D) o],[],[]⟩)
theorem aIw(rd:Option Nat)(h:aSo eV eW f9 eY=some fC):Lq 118 rd 122 (WH eV eW f9 eY) ((WJ eV eW) fC):=
 lL (fun s:List X0×Int=>WH eV eW s.1 s.2) (WJ eV eW) (f9,eY) (fun⟨f9,eY⟩ o h=>by
 unfold Im at h
 refine gN 17 X5.D eW.symbols ?_
 refine iB 18 h (fun h=>?_) fun h=>?_
 obtain⟨o19,h29,h⟩:=bS h
 refine gl (aIy rd h29) ?_
 exact lb h
 exact lb h) h
theorem bBg(h:Xm eW eV=some f9):AM Tryz.prog 118 [.d (AD.D eW),dI eV] [] (.d ((D.l X0.D) f9)) []:=by unfold Xm at h;apply g0 (o:=f9);obtain⟨o1,h2,h⟩:=bS h;refine gl (aIt none h2) ?_;obtain⟨o20,h30,h⟩:=bS h;refine gL [.look 5,.live [1,2,5,6],.keep [2]] (aIw none h30) ?_;exact lf h
theorem aMw(rd:Option Nat)(h:aTm f9 eV fB eY eT=some fC):Lq 122 rd 1865 ⟨sp 27 0 [sD 0 (D.l X0.D) f9,sI 1 eV,sD 5 (D.l X0.D) fB,sI 6 eY,sD 19 D.b eT],[],[]⟩ (.normal,⟨sp 27 0 [sD 0 (D.l X0.D) f9,sI 1 eV,sD 5 (D.l X0.D) fC,sI 6 eY],[],[]⟩):=by unfold aTm at h;apply g0 (o:=fC);cases eT;replace h:=Bj h;exact lp h;replace h:=Bl h;refine xX 23 X0.D h fun x7 h=>?_;obtain⟨r8,h12,h⟩:=bS h;refine gC 25 (SS h12) ?_;exact lp h
theorem aMv(rd:Option Nat)(h:aTl f9 eV fB eY=some fC):Lq 122 rd 466 ⟨sp 27 0 [sD 0 (D.l X0.D) f9,sI 1 eV,sD 5 (D.l X0.D) fB,sI 6 eY],[],[]⟩ (.normal,⟨sp 27 0 [sD 0 (D.l X0.D) f9,sI 1 eV,sD 5 (D.l X0.D) fC,sI 6 eY],[],[]⟩):=by unfold aTl at h;apply g0 (o:=fC);refine xX 15 X0.D h fun x6 h=>?_;obtain⟨o9,h13,h⟩:=bS h;refine gl (aMw rd h13) ?_;exact lp h
def ZT(s0:List X0)(s1:Int)(s5:List X0)(s6:Int):St:=⟨sp 27 0 [sD 0 (D.l X0.D) s0,sI 1 s1,sD 5 (D.l X0.D) s5,sI 6 s6],[],[]⟩
def ZU(s0:List X0)(s1:Int)(o:(List X0)):Ex×St:=(.exit 0,⟨sp 27 0 [sD 5 (D.l X0.D) o],[],[]⟩)
theorem aMz(rd:Option Nat)(h:aMx f9 eV fB eY=some fC):Lq 122 rd 58 (ZT f9 eV fB eY) ((ZU f9 eV) fC):=
 lL (fun s:List X0×Int=>ZT f9 eV s.1 s.2) (ZU f9 eV) (fB,eY) (fun⟨fB,eY⟩ o h=>by
 unfold Li at h
 refine gN 9 X0.D f9 ?_
 refine iB 10 h (fun h=>?_) fun h=>?_
 obtain⟨o10,h14,h⟩:=bS h
 refine gl (aMv rd h14) ?_
 exact lb h
 exact lb h) h
theorem bCe(h:Ys f9 eV=some fB):AM Tryz.prog 122 [.d ((D.l X0.D) f9),dI eV] [] (.d ((D.l X0.D) fB)) []:=by unfold Ys at h;apply g0 (o:=fB);obtain⟨o11,h15,h⟩:=bS h;refine gL [.look 5,.live [0,1,5,6],.keep []] (aMz none h15) ?_;exact lf h
def aBb(s1 s5:List X0)(s6:Int):St:=⟨sp 21 0 [sD 1 (D.l X0.D) s1,sD 5 (D.l X0.D) s5,sI 6 s6],[],[]⟩
def aBc(s1:List X0)(o:(List X0)):Ex×St:=(.exit 0,⟨sp 21 0 [sD 5 (D.l X0.D) o],[],[]⟩)
theorem aNs(rd:Option Nat)(h:aNq f9 fB eV=some fC):Lq 121 rd 58 (aBb f9 fB eV) ((aBc f9) fC):=
 lL (fun s:List X0×Int=>aBb f9 s.1 s.2) (aBc f9) (fB,eV) (fun⟨fB,eV⟩ o h=>by
 unfold Lk at h
 refine gN 10 X0.D f9 ?_
 refine iB 11 h (fun h=>?_) fun h=>?_
 refine xX 17 X0.D h fun x1 h=>?_
 obtain⟨r2,h3,h⟩:=bS h
 refine gC 19 (SS h3) ?_
 exact lb h
 exact lb h) h
theorem bCt(h:Zd f9 fB=some fE):AM Tryz.prog 121 [.d ((D.l X0.D) f9),.d ((D.l X0.D) fB)] [] (.d ((D.l X0.D) fE)) []:=by unfold Zd at h;apply g0 (o:=fE);obtain⟨o3,h4,h⟩:=bS h;refine gl (aNs none h4) ?_;exact lf h
theorem aZ9(h:U6 f9 fA=some eT):AM Tryz.prog 145 [.d ((D.l X0.D) f9),.d (X0.D fA)] [] (.d (D.b eT)) []:=by unfold U6 at h;apply g0 (o:=eT);refine gW 10 (.int (f9.length:Int)) ?_;obtain⟨r1,h1,h⟩:=bS h;refine gC 7 (SS h1)<|gN 8 X0.D r1<|gQ (EN X0.D f9) ?_;exact lf h
theorem aL0(rd:Option Nat)(h:aLz eV f9 eT fA fF=some fG):Lq 120 rd 453 ⟨sp 22 0 [sI 0 eV,sD 1 (D.l X0.D) f9,bx 4,bx 5,sD 12 D.b eT],[cL 4 X0.D fA,cL 5 X0.D fF],[]⟩ (.normal,⟨sp 22 0 [sI 0 eV,sD 1 (D.l X0.D) f9,bx 4,bx 5],[cL 4 X0.D fA,cL 5 X0.D fG],[]⟩):=by unfold aLz at h;apply g0 (o:=fG);cases eT;replace h:=Bj h;refine gW 19 (.str (fF.str++([97]:List UInt8))) ?_;obtain⟨h4,h⟩:=cS h;refine gQ (KK h4) ?_;exact lp h;replace h:=Bl h;exact lp h
theorem aLy(rd:Option Nat)(h:YU eV f9 fA fF=some fG):Lq 120 rd 113 ⟨sp 22 0 [sI 0 eV,sD 1 (D.l X0.D) f9,bx 4,bx 5],[cL 4 X0.D fA,cL 5 X0.D fF],[]⟩ (.normal,⟨sp 22 0 [sI 0 eV,sD 1 (D.l X0.D) f9,bx 4,bx 5],[cL 4 X0.D fA,cL 5 X0.D fG],[]⟩):=by unfold YU at h;apply g0 (o:=fG);obtain⟨o2,h5,h⟩:=bS h;refine gl (aL0 rd h5) ?_;exact lp h
def YW(s0:Int)(s1:List X0)(w4 w5:X0):St:=⟨sp 22 0 [sI 0 s0,sD 1 (D.l X0.D) s1,bx 4,bx 5],[cL 4 X0.D w4,cL 5 X0.D w5],[]⟩
def YX(s0:Int)(s1:List X0)(w4 o:X0):Ex×St:=(.exit 0,⟨sp 22 0 [bx 4,bx 5],[cL 4 X0.D w4,cL 5 X0.D o],[]⟩)
theorem aL1(rd:Option Nat)(h:YV eV f9 fA fF=some fG):Lq 120 rd 28 (YW eV f9 fA fF) ((YX eV f9 fA) fG):=
 lL (fun s:X0=>YW eV f9 fA s) (YX eV f9 fA) fF (fun fF o h=>by
 unfold I8 at h
 obtain⟨r1,h1,h⟩:=bS h
 refine gQ (aZ9 h1) ?_
 cases r1
 replace h:=Bj h
 refine gW 10 (.ret (.d (D.b false))) ?_
 exact lb h
 replace h:=Bl h
 refine gW 10 (.ret (.d (D.b true))) ?_
 obtain⟨o3,h6,h⟩:=bS h
 refine gl (aLy rd h6) ?_
 exact lb h) h
theorem bB6(h:Ye eV f9=some fA):AM Tryz.prog 120 [dI eV,.d ((D.l X0.D) f9)] [] (.d (X0.D fA)) []:=by unfold Ye at h;apply g0 (o:=fA);obtain⟨o4,h7,h⟩:=bS h;refine gl (aL1 none h7) ?_;exact lf h
theorem aMb(rd:Option Nat)(h:aMa eV fH f9 fB eY eT=some fC):Lq 85 rd 1865 ⟨sp 47 0 [sI 1 eV,sD 2 (D.l X2.D) fH,sD 3 (D.l X0.D) f9,sD 9 (D.l X0.D) fB,sI 10 eY,sD 27 D.b eT],[],[]⟩ (.normal,⟨sp 47 0 [sI 1 eV,sD 2 (D.l X2.D) fH,sD 3 (D.l X0.D) f9,sD 9 (D.l X0.D) fC,sI 10 eY],[],[]⟩):=by unfold aMa at h;apply g0 (o:=fC);cases eT;replace h:=Bj h;exact lp h;replace h:=Bl h;refine xX 31 X2.D h fun x3 h=>?_;obtain⟨r4,h6,h⟩:=bS h;refine gC 34 (SS h6) ?_;exact lp h
theorem aL9(rd:Option Nat)(h:aL8 eV fH f9 fB eY=some fC):Lq 85 rd 466 ⟨sp 47 0 [sI 1 eV,sD 2 (D.l X2.D) fH,sD 3 (D.l X0.D) f9,sD 9 (D.l X0.D) fB,sI 10 eY],[],[]⟩ (.normal,⟨sp 47 0 [sI 1 eV,sD 2 (D.l X2.D) fH,sD 3 (D.l X0.D) f9,sD 9 (D.l X0.D) fC,sI 10 eY],[],[]⟩):=by unfold aL8 at h;apply g0 (o:=fC);refine xX 22 X2.D h fun x2 h=>?_;obtain⟨o5,h7,h⟩:=bS h;refine gl (aMb rd h7) ?_;exact lp h
def ZD(s1:Int)(s2:List X2)(s3 s9:List X0)(s10:Int):St:=⟨sp 47 0 [sI 1 s1,sD 2 (D.l X2.D) s2,sD 3 (D.l X0.D) s3,sD 9 (D.l X0.D) s9,sI 10 s10],[],[]⟩
def ZE(s1:Int)(s2:List X2)(s3:List X0)(o:(List X0)):Ex×St:=(.exit 0,⟨sp 47 0 [sI 1 s1,sD 3 (D.l X0.D) s3,sD 9 (D.l X0.D) o],[],[]⟩)
theorem aMd(rd:Option Nat)(h:aMc eV fH f9 fB eY=some fC):Lq 85 rd 58 (ZD eV fH f9 fB eY) ((ZE eV fH f9) fC):=
 lL (fun s:List X0×Int=>ZD eV fH f9 s.1 s.2) (ZE eV fH f9) (fB,eY) (fun⟨fB,eY⟩ o h=>by
 unfold JA at h
 refine gN 16 X2.D fH ?_
 refine iB 17 h (fun h=>?_) fun h=>?_
 obtain⟨o6,h8,h⟩:=bS h
 refine gl (aL9 rd h8) ?_
 exact lb h
 exact lb h) h
theorem bB8(h:Yk eW eV fH f9=some fB):AM Tryz.prog 85 [.d (AD.D eW),dI eV,.d ((D.l X2.D) fH),.d ((D.l X0.D) f9)] [] (.d ((D.l X0.D) fB)) []:=by unfold Yk at h;apply g0 (o:=fB);obtain⟨r1,h1,h⟩:=bS h;refine gC 13 (bBg h1) ?_;obtain⟨o7,h9,h⟩:=bS h;refine gl (aMd none h9) ?_;refine iB 36 h (fun h=>?_) fun h=>?_;exact lf h;obtain⟨r8,h11,h⟩:=bS h;refine gC 43 (bCe h11) ?_;obtain⟨r9,h12,h⟩:=bS h;refine gC 44 (bCt h12) ?_;obtain⟨r10,h13,h⟩:=bS h;refine gC 45 (bB6 h13) ?_;obtain⟨r11,h14,h⟩:=bS h;refine gC 46 (SS h14) ?_;exact lf h
def ZA(s1:Int)(s2:List X2)(s3 s4 s12:List X0)(w5:AD)(s13:Int)(w11:List X4):St:=⟨sp 72 0 [sI 1 s1,sD 2 (D.l X2.D) s2,sD 3 (D.l X0.D) s3,sD 4 (D.l X0.D) s4,bx 5,rx 11,sD 12 (D.l X0.D) s12,sI 13 s13],[cL 5 AD.D w5,(11,.row 70 2 (w11.map X4.D))],[]⟩
def ZB(s1:Int)(s2:List X2)(s3 s4 s12:List X0)(w5:AD)(o:(List X4)):Ex×St:=(.exit 0,⟨sp 72 0 [rx 11],[(11,.row 70 2 (o.map X4.D))],[]⟩)
theorem aL7(rd:Option Nat)(self:AD->Int->(List X2)->(List X0)->(List X0)->Option (List X4))(hs:∀(a0:AD) (a1:Int) (a2:List X2) (a3 a4:List X0) (r:List X4),self a0 a1 a2 a3 a4=some r->AM Tryz.prog 54 [.d (AD.D a0),dI a1,.d ((D.l X2.D) a2),.d ((D.l X0.D) a3),.d ((D.l X0.D) a4)] [] (.d ((D.l X4.D) r)) []){s1:Int}{s2:List X2}{s3 s4 s12:List X0}{w5:AD}{s13:Int}{w11:List X4}{t:(List X4)}(h:aTf self s1 s2 s3 s4 s12 w5 s13 w11=some t):Lq 54 rd 250 (ZA s1 s2 s3 s4 s12 w5 s13 w11) ((ZB s1 s2 s3 s4 s12 w5) t):=
 lL (fun s:Int×List X4=>ZA s1 s2 s3 s4 s12 w5 s.1 s.2) (ZB s1 s2 s3 s4 s12 w5) (s13,w11) (fun⟨s13,w11⟩ o h=>by
 unfold I9 at h
 refine gN 50 X0.D s12 ?_
 refine iB 51 h (fun h=>?_) fun h=>?_
 refine gQ (Ag X0.D ([]:List X0))<|gG 56 (.sl ((([]:List X0)++s4).map X0.D)) (Ag X0.D s4) ?_
 obtain⟨h14,h⟩:=cS h
 refine gQ (Ak X0.D h14)<|gQ (Ai X0.D ([]:List X0) s4)<|xX 59 X0.D h fun x8 h=>?_
 refine gQ (Ag X0.D [x8])<|gG 62 (.sl (((([]:List X0)++s4)++[x8]).map X0.D)) (Ag X0.D [x8]) ?_
 obtain⟨h16,h⟩:=cS h
 refine gQ (Ak X0.D h16)<|gQ (Ai X0.D (([]:List X0)++s4) [x8]) ?_
 obtain⟨r9,h17,h⟩:=bS h
 refine gG 69 (.ret (.d ((D.l X4.D) r9))) (hs w5 s1 s2 s3 ((([]:List X0)++s4)++[x8]) r9 h17)<|gG 70 (.sl ((w11++r9).map X4.D)) (Ag X4.D r9) ?_
 obtain⟨h18,h⟩:=cS h
 refine gQ (Ak X4.D h18)<|gQ (Ai X4.D w11 r9) ?_
 exact lB h [.live [1,2,3,4,5,11,12,13],.keep [5,70],.ren 70 11,.sort]
 exact lb h) h
theorem aTe(self:AD->Int->(List X2)->(List X0)->(List X0)->Option (List X4))(hs:∀(a0:AD) (a1:Int) (a2:List X2) (a3 a4:List X0) (r:List X4),self a0 a1 a2 a3 a4=some r->AM Tryz.prog 54 [.d (AD.D a0),dI a1,.d ((D.l X2.D) a2),.d ((D.l X0.D) a3),.d ((D.l X0.D) a4)] [] (.d ((D.l X4.D) r)) [])(a0:AD)(a1:Int)(a2:List X2)(a3 a4:List X0)(r:List X4)(h:aXz self a0 a1 a2 a3 a4=some r):AM Tryz.prog 54 [.d (AD.D a0),dI a1,.d ((D.l X2.D) a2),.d ((D.l X0.D) a3),.d ((D.l X0.D) a4)] [] (.d ((D.l X4.D) r)) []:=by unfold aXz at h;apply g0 (o:=r);refine gN 16 X0.D a4<|xX 20 Xf.D h fun x1 h=>?_;refine gN 23 dZ x1.types ?_;refine iB 24 h (fun h=>?_) fun h=>?_;refine xX 28 Xf.D h fun x2 h=>?_;refine gQ (Ag X4.D [X4.mk x2.name a4]) ?_;exact lf h;refine gW 42 (.int (a4.length:Int))<|xX 38 Xf.D h fun x3 h=>?_;refine gQ (EN X0.D a4)<|xX 43 dZ h fun x4 h=>?_;obtain⟨r5,h6,h⟩:=bS h;refine gC 47 (bB8 h6) ?_;obtain⟨o10,h19,h⟩:=bS h;refine gL [.live [1,2,3,4,5,11,12,13],.keep [5],.nil 11 11 70 2,.sort] (aL7 none self hs h19) ?_;exact lf h
theorem ZC:∀(n:Nat) (a0:AD) (a1:Int) (a2:List X2) (a3 a4:List X0) (r:List X4),aQk n a0 a1 a2 a3 a4=some r->AM Tryz.prog 54 [.d (AD.D a0),dI a1,.d ((D.l X2.D) a2),.d ((D.l X0.D) a3),.d ((D.l X0.D) a4)] [] (.d ((D.l X4.D) r)) []
 |0,a0,a1,a2,a3,a4,r,h=>by simp[aQk]at h
 |n+1,a0,a1,a2,a3,a4,r,h=>aTe _ (ZC n) a0 a1 a2 a3 a4 r h
theorem bB7(h:Yi eW eV fH f9 fB=some fI):AM Tryz.prog 54 [.d (AD.D eW),dI eV,.d ((D.l X2.D) fH),.d ((D.l X0.D) f9),.d ((D.l X0.D) fB)] [] (.d ((D.l X4.D) fI)) []:=ZC 100000 eW eV fH f9 fB fI h
def ZJ(s0:List X2)(s1:Int)(w4:X0)(s6:Int):St:=⟨sp 26 0 [sD 0 (D.l X2.D) s0,sI 1 s1,bx 4,sI 6 s6],[cL 4 X0.D w4],[]⟩
def ZK(s0:List X2)(s1:Int)(w4:X0)(o:Unit⊕X0):Ex×St:=match o with
 | .inl o=>(.exit 0,⟨sp 26 0 [bx 4],[cL 4 X0.D w4],[]⟩)
 | .inr o=>(.ret,⟨sp 26 0 [bx 4,sD 5 D.b true],[cL 4 X0.D o],[]⟩)
theorem aMh(rd:Option Nat)(h:aTh fH eV fA eY=some fJ):Lq 123 rd 26 (ZJ fH eV fA eY) ((ZK fH eV fA) fJ):=
 lL (fun s:Int=>ZJ fH eV fA s) (ZK fH eV fA) eY (fun eY o h=>by
 unfold Lh at h
 refine gN 9 X2.D fH ?_
 refine iB 10 h (fun h=>?_) fun h=>?_
 refine xX 15 X2.D h fun x1 h=>?_
 refine iB 19 h (fun h=>?_) fun h=>?_
 refine xX 22 X2.D h fun x2 h=>?_
 exact lb h
 exact lb h
 exact lb h) h
theorem SR(h:Ym fH eV=some fK):AM Tryz.prog 123 [.d ((D.l X2.D) fH),dI eV] [] (.tup [.d (X0.D fK.1),.d (D.b fK.2)]) []:=by
 unfold Ym at h;apply g0 (o:=fK);obtain⟨o3,h5,h⟩:=bS h;refine gl (aMh none h5) ?_;replace h:=AJ h;rcases h with⟨o4,rfl,h⟩|⟨o5,rfl,h⟩
 exact lf h;exact lf h
def aBp(s0 s1:List X2)(s5:Int):St:=⟨sp 34 0 [sD 0 (D.l X2.D) s0,sD 1 (D.l X2.D) s1,sI 5 s5],[],[]⟩
def aBq(s0 s1:List X2)(o:Unit⊕Unit):Ex×St:=match o with
 | .inl o=>(.exit 0,⟨sp 34 0 [],[],[]⟩)
 | .inr o=>(.ret,⟨sp 34 0 [sD 4 D.b false],[],[]⟩)
theorem aNz(rd:Option Nat)(h:aT1 fH fL eV=some fM):Lq 124 rd 26 (aBp fH fL eV) ((aBq fH fL) fM):=
 lL (fun s:Int=>aBp fH fL s) (aBq fH fL) eV (fun eV o h=>by
 unfold Lm at h
 refine gN 10 X2.D fH ?_
 refine iB 11 h (fun h=>?_) fun h=>?_
 refine xX 18 X2.D h fun x1 h=>?_
 obtain⟨r2,h3,h⟩:=bS h
 refine gC 21 (SR h3) ?_
 refine iB 25 h (fun h=>?_) fun h=>?_
 refine xX 29 X2.D h fun x3 h=>?_
 refine iB 33 h (fun h=>?_) fun h=>?_
 exact lb h
 exact lb h
 exact lb h
 exact lb h) h
theorem bC2(h:Zk fH fL=some eT):AM Tryz.prog 124 [.d ((D.l X2.D) fH),.d ((D.l X2.D) fL)] [] (.d (D.b eT)) []:=by
 unfold Zk at h;apply g0 (o:=eT);obtain⟨o4,h7,h⟩:=bS h;refine gl (aNz none h7) ?_;replace h:=AJ h;rcases h with⟨o5,rfl,h⟩|⟨o6,rfl,h⟩
 exact lf h;exact lf h
theorem aLj(rd:Option Nat)(h:aLi fH fL eV eT fN fA=some fO):Lq 125 rd 29855 ⟨sp 42 0 [sD 0 (D.l X2.D) fH,sD 1 (D.l X2.D) fL,rx 5,sI 6 eV,bx 9,sD 34 D.b eT],[(5,.row 64 5 (fN.map X2.D)),cL 9 X0.D fA],[]⟩ (.normal,⟨sp 42 0 [sD 0 (D.l X2.D) fH,sD 1 (D.l X2.D) fL,rx 5,sI 6 eV],[(5,.row 64 5 (fO.map X2.D))],[]⟩):=by unfold aLi at h;apply g0 (o:=fO);cases eT;replace h:=Bj h;exact lp h;replace h:=Bl h;refine gQ (Ag X2.D [X2.mk eV fA])<|gG 40 (.sl ((fN++[X2.mk eV fA]).map X2.D)) (Ag X2.D [X2.mk eV fA]) ?_;obtain⟨h17,h⟩:=cS h;refine gQ (Ak X2.D h17)<|gQ (Ai X2.D fN [X2.mk eV fA]) ?_;exact lP h [.live [0,1,5,6],.keep [40],.ren 40 5,.sort]
theorem aLh(rd:Option Nat)(h:aLg fH fL eV eT eU fN fA fF=some fO):Lq 125 rd 7463 ⟨sp 42 0 [sD 0 (D.l X2.D) fH,sD 1 (D.l X2.D) fL,rx 5,sI 6 eV,bx 7,bx 9,sD 10 D.b eT,sD 27 D.b eU],[(5,.row 64 5 (fN.map X2.D)),cL 7 X0.D fA,cL 9 X0.D fF],[]⟩ (.normal,⟨sp 42 0 [sD 0 (D.l X2.D) fH,sD 1 (D.l X2.D) fL,rx 5,sI 6 eV],[(5,.row 64 5 (fO.map X2.D))],[]⟩):=by unfold aLg at h;apply g0 (o:=fO);cases eU;replace h:=Bj h;obtain⟨o8,h18,h⟩:=bS h;refine gl (aLj rd h18) ?_;exact lp h;replace h:=Bl h;refine gQ (Ag X2.D [X2.mk eV fA])<|gG 33 (.sl ((fN++[X2.mk eV fA]).map X2.D)) (Ag X2.D [X2.mk eV fA]) ?_;obtain⟨h15,h⟩:=cS h;refine gQ (Ak X2.D h15)<|gQ (Ai X2.D fN [X2.mk eV fA]) ?_;exact lP h [.live [0,1,5,6],.keep [33],.ren 33 5,.sort]
theorem aLf(rd:Option Nat)(h:aLe fH fL eV fN=some fO):Lq 125 rd 466 ⟨sp 42 0 [sD 0 (D.l X2.D) fH,sD 1 (D.l X2.D) fL,rx 5,sI 6 eV],[(5,.row 64 5 (fN.map X2.D))],[]⟩ (.normal,⟨sp 42 0 [sD 0 (D.l X2.D) fH,sD 1 (D.l X2.D) fL,rx 5,sI 6 eV],[(5,.row 64 5 (fO.map X2.D))],[]⟩):=by unfold aLe at h;apply g0 (o:=fO);obtain⟨r6,h12,h⟩:=bS h;refine gC 18 (SR h12) ?_;obtain⟨r7,h13,h⟩:=bS h;refine gC 24 (SR h13) ?_;obtain⟨o9,h19,h⟩:=bS h;refine gl (aLh rd h19) ?_;exact lp h
def YK(s0 s1:List X2)(s6:Int)(w5:List X2):St:=⟨sp 42 0 [sD 0 (D.l X2.D) s0,sD 1 (D.l X2.D) s1,rx 5,sI 6 s6],[(5,.row 64 5 (w5.map X2.D))],[]⟩
def YL(s0 s1:List X2)(o:(List X2)):Ex×St:=(.exit 0,⟨sp 42 0 [rx 5],[(5,.row 64 5 (o.map X2.D))],[]⟩)
theorem aLk(rd:Option Nat)(h:aTa fH fL eV fN=some fO):Lq 125 rd 58 (YK fH fL eV fN) ((YL fH fL) fO):=
 lL (fun s:Int×List X2=>YK fH fL s.1 s.2) (YL fH fL) (eV,fN) (fun⟨eV,fN⟩ o h=>by
 unfold I6 at h
 refine iB 12 h (fun h=>?_) fun h=>?_
 obtain⟨o10,h20,h⟩:=bS h
 refine gl (aLf rd h20) ?_
 exact lb h
 exact lb h) h
theorem bB5(h:Ya fH fL=some fN):AM Tryz.prog 125 [.d ((D.l X2.D) fH),.d ((D.l X2.D) fL)] [] (.d ((D.l X2.D) fN)) []:=by unfold Ya at h;apply g0 (o:=fN);obtain⟨o11,h21,h⟩:=bS h;refine gL [.live [0,1,5,6],.keep [],.nil 5 5 64 5,.sort] (aLk none h21) ?_;exact lf h
def aBd(s0:List X2)(w3:X2)(s5:Int):St:=⟨sp 38 0 [sD 0 (D.l X2.D) s0,bx 3,sI 5 s5],[cL 3 X2.D w3],[]⟩
def aBe(s0:List X2)(w3:X2)(o:Int):Ex×St:=(.exit 0,⟨sp 38 0 [sD 0 (D.l X2.D) s0,bx 3,sI 5 o],[cL 3 X2.D w3],[]⟩)
theorem aNt(rd:Option Nat)(h:aTx fH fP eV=some eY):Lq 126 rd 28 (aBd fH fP eV) ((aBe fH fP) eY):=
 lL (fun s:Int=>aBd fH fP s) (aBe fH fP) eV (fun eV o h=>by
 unfold JP at h
 refine iB 11 h (fun h=>?_) fun h=>?_
 refine xX 15 X2.D h fun x1 h=>?_
 refine iB 21 h (fun h=>?_) fun h=>?_
 exact lb h
 exact lb h
 exact lb h) h
theorem bCv(h:Ze fH fP=some fL):AM Tryz.prog 126 [.d ((D.l X2.D) fH),.d (X2.D fP)] [] (.d ((D.l X2.D) fL)) []:=by unfold Ze at h;apply g0 (o:=fL);refine gN 8 X2.D fH ?_;obtain⟨o2,h4,h⟩:=bS h;refine gl (aNt none h4)<|gQ (Ag X2.D ([]:List X2))<|gW 27 (.sl ((sub fH 0 o2).map X2.D))<|gW 28 (.sl ((([]:List X2)++(sub fH 0 o2)).map X2.D))<|gW 32 (.sl (((([]:List X2)++(sub fH 0 o2))++[fP]).map X2.D))<|gW 36 (.sl ((sub fH o2 (fH.length:Int)).map X2.D))<|gW 37 (.sl ((((([]:List X2)++(sub fH 0 o2))++[fP])++(sub fH o2 (fH.length:Int))).map X2.D)) ?_;obtain⟨h5,h⟩:=cS h;refine gQ (ED X2.D h5)<|gQ (Ag X2.D (sub fH 0 o2)) ?_;obtain⟨h6,h⟩:=cS h;refine gQ (Ak X2.D h6)<|gQ (Ai X2.D ([]:List X2) (sub fH 0 o2))<|gQ (Ag X2.D [fP])<|gQ (Ag X2.D [fP]) ?_;obtain⟨h7,h⟩:=cS h;refine gQ (Ak X2.D h7)<|gQ (Ai X2.D (([]:List X2)++(sub fH 0 o2)) [fP]) ?_;obtain⟨h8,h⟩:=cS h;refine gQ (EC X2.D h8)<|gQ (Ag X2.D (sub fH o2 (fH.length:Int))) ?_;obtain⟨h9,h⟩:=cS h;refine gQ (Ak X2.D h9)<|gQ (Ai X2.D ((([]:List X2)++(sub fH 0 o2))++[fP]) (sub fH o2 (fH.length:Int))) ?_;exact lf h
theorem P3(rd:Option Nat)(h:Wh eV fH fL eY eT fQ f8 fR fS fD fN=some fT):Lq 87 rd 521373 ⟨sp 121 0 [sI 1 eV,bx 5,bx 6,bx 8,bx 9,sD 10 (D.l X2.D) fH,sD 11 (D.l X2.D) fL,sI 12 eY,bx 13,rx 14,sD 80 D.b eT],[cL 5 X4.D fQ,(6,.cells ([dI f8,.nil,.nil])),cL 8 X5.D fR,cL 9 Ad.D fS,cL 13 CN.D fD,(14,.row 64 5 (fN.map X2.D))],[]⟩ (match (generalizing:=false) fT with
 | .inl fT=>(.normal,⟨sp 121 0 [sI 1 eV,bx 5,bx 6,bx 8,bx 9,sD 10 (D.l X2.D) fT,sD 11 (D.l X2.D) fL,sI 12 eY,bx 13,rx 14],[cL 5 X4.D fQ,(6,.cells ([dI f8,.nil,.nil])),cL 8 X5.D fR,cL 9 Ad.D fS,cL 13 CN.D fD,(14,.row 64 5 (fN.map X2.D))],[]⟩)
 | .inr fT=>(.ret,⟨sp 121 0 [bx 6,sD 7 D.b false],[cL 6 Ad.D fS],[]⟩)):=by
 unfold Wh at h
 apply g0 (o:=fT)
 cases eT
 replace h:=Bj h
 exact lp h
 replace h:=Bl h
 obtain⟨r32,h37,h⟩:=bS h
 refine gC 83 (bC2 h37) ?_
 refine iB 84 h (fun h=>?_) fun h=>?_
 exact lp h
 obtain⟨r33,h39,h⟩:=bS h
 refine gC 88 (bB5 h39) ?_
 exact lp h
theorem P5(rd:Option Nat)(h:Wj eV fH fL eY eT fQ f8 fR fS fN=some fO):Lq 87 rd 8342007 ⟨sp 121 0 [sI 1 eV,bx 5,bx 6,bx 8,bx 9,sD 10 (D.l X2.D) fH,sD 11 (D.l X2.D) fL,sI 12 eY,rx 14,sD 111 D.b eT],[cL 5 X4.D fQ,(6,.cells ([dI f8,.nil,.nil])),cL 8 X5.D fR,cL 9 Ad.D fS,(14,.row 64 5 (fN.map X2.D))],[]⟩ (.normal,⟨sp 121 0 [sI 1 eV,bx 5,bx 6,bx 8,bx 9,sD 10 (D.l X2.D) fH,sD 11 (D.l X2.D) fO,sI 12 eY],[cL 5 X4.D fQ,(6,.cells ([dI f8,.nil,.nil])),cL 8 X5.D fR,cL 9 Ad.D fS],[]⟩):=by unfold Wj at h;apply g0 (o:=fO);cases eT;replace h:=Bj h;exact lp h;replace h:=Bl h;refine xX 114 X2.D h fun x39 h=>?_;obtain⟨r40,h48,h⟩:=bS h;refine gC 116 (bCv h48) ?_;exact lp h
theorem P4(rd:Option Nat)(h:Wi eV fH fL eY eT fQ f8 fR fS fD fN=some fT):Lq 87 rd 521375 ⟨sp 121 0 [sI 1 eV,bx 5,bx 6,bx 8,bx 9,sD 10 (D.l X2.D) fH,sD 11 (D.l X2.D) fL,sI 12 eY,bx 13,rx 14,sD 91 D.b eT],[cL 5 X4.D fQ,(6,.cells ([dI f8,.nil,.nil])),cL 8 X5.D fR,cL 9 Ad.D fS,cL 13 CN.D fD,(14,.row 64 5 (fN.map X2.D))],[]⟩ (match (generalizing:=false) fT with
 | .inl fT=>(.normal,⟨sp 121 0 [sI 1 eV,bx 5,bx 6,bx 8,bx 9,sD 10 (D.l X2.D) fH,sD 11 (D.l X2.D) fT,sI 12 eY],[cL 5 X4.D fQ,(6,.cells ([dI f8,.nil,.nil])),cL 8 X5.D fR,cL 9 Ad.D fS],[]⟩)
 | .inr fT=>(.ret,⟨sp 121 0 [bx 6,sD 7 D.b false],[cL 6 Ad.D fS],[]⟩)):=by
 unfold Wi at h
 apply g0 (o:=fT)
 cases eT
 replace h:=Bj h
 exact lp h
 replace h:=Bl h
 obtain⟨r37,h42,h⟩:=bS h
 refine gC 96 (SR h42) ?_
 refine iB 100 h (fun h=>?_) fun h=>?_
 refine xX 105 X0.D h fun x38 h=>?_
 refine iB 108 h (fun h=>?_) fun h=>?_
 exact lp h
 obtain⟨o41,h49,h⟩:=bS h
 refine gl (P5 rd h49) ?_
 exact lp h
 obtain⟨o42,h50,h⟩:=bS h
 refine gl (P5 rd h50) ?_
 exact lp h
theorem aJl(rd:Option Nat)(h:aJk eV fH fL eY fQ f8 fR fS=some fU):Lq 87 rd 8146 ⟨sp 121 0 [sI 1 eV,bx 5,bx 6,bx 8,bx 9,sD 10 (D.l X2.D) fH,sD 11 (D.l X2.D) fL,sI 12 eY],[cL 5 X4.D fQ,(6,.cells ([dI f8,.nil,.nil])),cL 8 X5.D fR,cL 9 Ad.D fS],[]⟩ (match (generalizing:=false) fU with
 | .inl fU=>(.normal,⟨sp 121 0 [sI 1 eV,bx 5,bx 6,bx 8,bx 9,sD 10 (D.l X2.D) fU.1,sD 11 (D.l X2.D) fU.2,sI 12 eY],[cL 5 X4.D fQ,(6,.cells ([dI f8,.nil,.nil])),cL 8 X5.D fR,cL 9 Ad.D fS],[]⟩)
 | .inr fU=>(.ret,⟨sp 121 0 [bx 6,sD 7 D.b false],[cL 6 Ad.D fS],[]⟩)):=by
 unfold aJk at h
 apply g0 (o:=fU)
 refine xX 53 CN.D h fun x29 h=>?_
 refine xX 60 X0.D h fun x30 h=>?_
 refine gQ (Ag X2.D [X2.mk x29.n x30]) ?_
 refine iB 67 h (fun h=>?_) fun h=>?_
 refine xX 73 X0.D h fun x31 h=>?_
 refine iB 76 h (fun h=>?_) fun h=>?_
 exact lp h
 obtain⟨o34,h40,h⟩:=bS h
 refine gL [.live [1,5,6,8,9,10,11,12,13,14,80],.keep [5,6,8,9,13,63],.ren 63 14,.sort] (P3 rd h40) ?_
 replace h:=AJ h
 rcases h with⟨o35,rfl,h⟩|⟨o36,rfl,h⟩
 obtain⟨o43,h51,h⟩:=bS h
 refine gl (P4 rd h51) ?_
 replace h:=AJ h
 rcases h with⟨o44,rfl,h⟩|⟨o45,rfl,h⟩
 exact lp h
 exact lp h
 exact lp h
 obtain⟨o46,h52,h⟩:=bS h
 refine gL [.live [1,5,6,8,9,10,11,12,13,14,80],.keep [5,6,8,9,13,63],.ren 63 14,.sort] (P3 rd h52) ?_
 replace h:=AJ h
 rcases h with⟨o47,rfl,h⟩|⟨o48,rfl,h⟩
 obtain⟨o49,h53,h⟩:=bS h
 refine gl (P4 rd h53) ?_
 replace h:=AJ h
 rcases h with⟨o50,rfl,h⟩|⟨o51,rfl,h⟩
 exact lp h
 exact lp h
 exact lp h
def Wl(s1:Int)(w5:X4)(w6:Int)(w8:X5)(w9:Ad)(s10 s11:List X2)(s12:Int):St:=⟨sp 121 0 [sI 1 s1,bx 5,bx 6,bx 8,bx 9,sD 10 (D.l X2.D) s10,sD 11 (D.l X2.D) s11,sI 12 s12],[cL 5 X4.D w5,(6,.cells ([dI w6,.nil,.nil])),cL 8 X5.D w8,cL 9 Ad.D w9],[]⟩
def Wm(s1:Int)(w5:X4)(w6:Int)(w8:X5)(w9:Ad)(o:(List X2×List X2)⊕Unit):Ex×St:=match o with
 | .inl o=>(.exit 0,⟨sp 121 0 [sI 1 s1,bx 6,sD 10 (D.l X2.D) o.1,sD 11 (D.l X2.D) o.2],[(6,.cells ([dI w6,.nil,.nil]))],[]⟩)
 | .inr o=>(.ret,⟨sp 121 0 [bx 6,sD 7 D.b false],[cL 6 Ad.D w9],[]⟩)
theorem aJm(rd:Option Nat)(h:SG eV fQ eY fR fS fH fL f8=some fU):Lq 87 rd 1018 (Wl eV fQ eY fR fS fH fL f8) ((Wm eV fQ eY fR fS) fU):=
 lL (fun s:List X2×List X2×Int=>Wl eV fQ eY fR fS s.1 s.2.1 s.2.2) (Wm eV fQ eY fR fS) (fH,fL,f8) (fun⟨fH,fL,f8⟩ o h=>by
 unfold It at h
 refine gN 46 CN.D fR.args ?_
 refine iB 47 h (fun h=>?_) fun h=>?_
 obtain⟨o52,h54,h⟩:=bS h
 refine gl (aJl rd h54) ?_
 replace h:=AJ h
 rcases h with⟨o53,rfl,h⟩|⟨o54,rfl,h⟩
 exact lb h
 exact lb h
 exact lb h) h
theorem bBn(h:Xs eW eV fQ=some fV):AM Tryz.prog 87 [.d (AD.D eW),dI eV,.d (X4.D fQ)] [] (.tup [.d (Ad.D fV.1),.d (D.b fV.2)]) []:=by
 unfold Xs at h;apply g0 (o:=fV);refine xX 20 X5.D h fun x1 h=>?_;refine xX 27 Xf.D h fun x2 h=>?_;refine iB 33 h (fun h=>?_) fun h=>?_;exact lf h;refine gN 36 CN.D x1.args<|gN 39 X0.D fQ.args ?_;refine iB 41 h (fun h=>?_) fun h=>?_;exact lf h;obtain⟨o55,h55,h⟩:=bS h;refine gL [.look 10,.look 11,.live [1,5,6,8,9,10,11,12],.keep [5,6,8,9]] (aJm none h55) ?_;replace h:=AJ h;rcases h with⟨o56,rfl,h⟩|⟨o57,rfl,h⟩
 exact lf h;exact lf h
theorem aLt(rd:Option Nat)(h:aLs eV eT eW fQ fW fS=some fX):Lq 57 rd 3731 ⟨sp 29 0 [bx 2,bx 3,rx 5,sI 6 eV,bx 7,sD 23 D.b eT],[cL 2 AD.D eW,cL 3 X4.D fQ,(5,.row 135 3 (fW.map Ad.D)),cL 7 Ad.D fS],[]⟩ (.normal,⟨sp 29 0 [bx 2,bx 3,rx 5,sI 6 eV],[cL 2 AD.D eW,cL 3 X4.D fQ,(5,.row 135 3 (fX.map Ad.D))],[]⟩):=by unfold aLs at h;apply g0 (o:=fX);cases eT;replace h:=Bj h;exact lp h;replace h:=Bl h;refine gQ (Ag Ad.D [fS])<|gG 27 (.sl ((fW++[fS]).map Ad.D)) (Ag Ad.D [fS]) ?_;obtain⟨h10,h⟩:=cS h;refine gQ (Ak Ad.D h10)<|gQ (Ai Ad.D fW [fS]) ?_;exact lP h [.live [2,3,5,6],.keep [2,3,27],.ren 27 5,.sort]
theorem aLr(rd:Option Nat)(h:aLq eV eW fQ fW=some fX):Lq 57 rd 466 ⟨sp 29 0 [bx 2,bx 3,rx 5,sI 6 eV],[cL 2 AD.D eW,cL 3 X4.D fQ,(5,.row 135 3 (fW.map Ad.D))],[]⟩ (.normal,⟨sp 29 0 [bx 2,bx 3,rx 5,sI 6 eV],[cL 2 AD.D eW,cL 3 X4.D fQ,(5,.row 135 3 (fX.map Ad.D))],[]⟩):=by unfold aLq at h;apply g0 (o:=fX);obtain⟨r4,h8,h⟩:=bS h;refine gC 20 (bBn h8) ?_;obtain⟨o5,h11,h⟩:=bS h;refine gl (aLt rd h11) ?_;exact lp h
def YP(w2:AD)(w3:X4)(s6:Int)(w5:List Ad):St:=⟨sp 29 0 [bx 2,bx 3,rx 5,sI 6 s6],[cL 2 AD.D w2,cL 3 X4.D w3,(5,.row 135 3 (w5.map Ad.D))],[]⟩
def YQ(w2:AD)(w3:X4)(o:(List Ad)):Ex×St:=(.exit 0,⟨sp 29 0 [rx 5],[(5,.row 135 3 (o.map Ad.D))],[]⟩)
theorem aLu(rd:Option Nat)(h:aTb eW fQ eV fW=some fX):Lq 57 rd 58 (YP eW fQ eV fW) ((YQ eW fQ) fX):=
 lL (fun s:Int×List Ad=>YP eW fQ s.1 s.2) (YQ eW fQ) (eV,fW) (fun⟨eV,fW⟩ o h=>by
 unfold I7 at h
 refine gN 12 X5.D eW.symbols ?_
 refine iB 13 h (fun h=>?_) fun h=>?_
 obtain⟨o6,h12,h⟩:=bS h
 refine gl (aLr rd h12) ?_
 exact lb h
 exact lb h) h
theorem aXw(h:Yc eW fQ=some fW):AM Tryz.prog 57 [.d (AD.D eW),.d (X4.D fQ)] [] (.d ((D.l Ad.D) fW)) []:=by unfold Yc at h;apply g0 (o:=fW);obtain⟨o7,h13,h⟩:=bS h;refine gL [.live [2,3,5,6],.keep [2,3],.nil 5 5 135 3,.sort] (aLu none h13) ?_;exact lf h
def aBr(s0 s1:List X2)(s5:Int):St:=⟨sp 35 0 [sD 0 (D.l X2.D) s0,sD 1 (D.l X2.D) s1,sI 5 s5],[],[]⟩
def aBs(s0 s1:List X2)(o:Unit⊕Unit):Ex×St:=match o with
 | .inl o=>(.exit 0,⟨sp 35 0 [],[],[]⟩)
 | .inr o=>(.ret,⟨sp 35 0 [sD 4 D.b false],[],[]⟩)
theorem aN0(rd:Option Nat)(h:aT2 fH fL eV=some fM):Lq 86 rd 26 (aBr fH fL eV) ((aBs fH fL) fM):=
 lL (fun s:Int=>aBr fH fL s) (aBs fH fL) eV (fun eV o h=>by
 unfold Ln at h
 refine gN 10 X2.D fH ?_
 refine iB 11 h (fun h=>?_) fun h=>?_
 refine xX 18 X2.D h fun x1 h=>?_
 obtain⟨r2,h3,h⟩:=bS h
 refine gC 21 (SR h3) ?_
 refine iB 26 h (fun h=>?_) fun h=>?_
 exact lb h
 refine xX 30 X2.D h fun x3 h=>?_
 refine iB 34 h (fun h=>?_) fun h=>?_
 exact lb h
 exact lb h
 exact lb h) h
theorem bC4(h:Zl fH fL=some eT):AM Tryz.prog 86 [.d ((D.l X2.D) fH),.d ((D.l X2.D) fL)] [] (.d (D.b eT)) []:=by
 unfold Zl at h;apply g0 (o:=eT);obtain⟨o4,h7,h⟩:=bS h;refine gl (aN0 none h7) ?_;replace h:=AJ h;rcases h with⟨o5,rfl,h⟩|⟨o6,rfl,h⟩
 exact lf h;exact lf h
theorem aL5(rd:Option Nat)(h:aL4 fW fH eV eT fY=some fX):Lq 56 rd 1865 ⟨sp 28 0 [sD 0 (D.l Ad.D) fW,sD 1 (D.l X2.D) fH,rx 5,sI 6 eV,sD 19 D.b eT],[(5,.row 135 3 (fY.map Ad.D))],[]⟩ (.normal,⟨sp 28 0 [sD 0 (D.l Ad.D) fW,sD 1 (D.l X2.D) fH,rx 5,sI 6 eV],[(5,.row 135 3 (fX.map Ad.D))],[]⟩):=by unfold aL4 at h;apply g0 (o:=fX);cases eT;replace h:=Bj h;exact lp h;replace h:=Bl h;refine xX 23 Ad.D h fun x8 h=>?_;refine gQ (Ag Ad.D [x8])<|gG 26 (.sl ((fY++[x8]).map Ad.D)) (Ag Ad.D [x8]) ?_;obtain⟨h14,h⟩:=cS h;refine gQ (Ak Ad.D h14)<|gQ (Ai Ad.D fY [x8]) ?_;exact lP h [.live [0,1,5,6],.keep [26],.ren 26 5,.sort]
theorem aL3(rd:Option Nat)(h:aL2 fW fH eV fY=some fX):Lq 56 rd 466 ⟨sp 28 0 [sD 0 (D.l Ad.D) fW,sD 1 (D.l X2.D) fH,rx 5,sI 6 eV],[(5,.row 135 3 (fY.map Ad.D))],[]⟩ (.normal,⟨sp 28 0 [sD 0 (D.l Ad.D) fW,sD 1 (D.l X2.D) fH,rx 5,sI 6 eV],[(5,.row 135 3 (fX.map Ad.D))],[]⟩):=by unfold aL2 at h;apply g0 (o:=fX);refine xX 15 Ad.D h fun x6 h=>?_;obtain⟨r7,h11,h⟩:=bS h;refine gC 19 (bC4 h11) ?_;obtain⟨o9,h15,h⟩:=bS h;refine gl (aL5 rd h15) ?_;exact lp h
def YY(s0:List Ad)(s1:List X2)(s6:Int)(w5:List Ad):St:=⟨sp 28 0 [sD 0 (D.l Ad.D) s0,sD 1 (D.l X2.D) s1,rx 5,sI 6 s6],[(5,.row 135 3 (w5.map Ad.D))],[]⟩
def YZ(s0:List Ad)(s1:List X2)(o:(List Ad)):Ex×St:=(.exit 0,⟨sp 28 0 [rx 5],[(5,.row 135 3 (o.map Ad.D))],[]⟩)
theorem aL6(rd:Option Nat)(h:aTd fW fH eV fY=some fX):Lq 56 rd 58 (YY fW fH eV fY) ((YZ fW fH) fX):=
 lL (fun s:Int×List Ad=>YY fW fH s.1 s.2) (YZ fW fH) (eV,fY) (fun⟨eV,fY⟩ o h=>by
 unfold Lg at h
 refine gN 9 Ad.D fW ?_
 refine iB 10 h (fun h=>?_) fun h=>?_
 obtain⟨o10,h16,h⟩:=bS h
 refine gl (aL3 rd h16) ?_
 exact lb h
 exact lb h) h
theorem aXy(h:Yf fW fH=some fY):AM Tryz.prog 56 [.d ((D.l Ad.D) fW),.d ((D.l X2.D) fH)] [] (.d ((D.l Ad.D) fY)) []:=by unfold Yf at h;apply g0 (o:=fY);obtain⟨o11,h17,h⟩:=bS h;refine gL [.live [0,1,5,6],.keep [],.nil 5 5 135 3,.sort] (aL6 none h17) ?_;exact lf h
def aBf(s0:List Ad)(s3 s4:Int):St:=⟨sp 21 0 [sD 0 (D.l Ad.D) s0,sD 3 dU s3,sI 4 s4],[],[]⟩
def aBg(s0:List Ad)(o:Int):Ex×St:=(.exit 0,⟨sp 21 0 [sD 3 dU o],[],[]⟩)
theorem aNu(rd:Option Nat)(h:aTy fW eV eY=some f8):Lq 55 rd 58 (aBf fW eV eY) ((aBg fW) f8):=
 lL (fun s:Int×Int=>aBf fW s.1 s.2) (aBg fW) (eV,eY) (fun⟨eV,eY⟩ o h=>by
 unfold JQ at h
 refine gN 7 Ad.D fW ?_
 refine iB 8 h (fun h=>?_) fun h=>?_
 refine xX 14 Ad.D h fun x1 h=>?_
 obtain⟨h3,h⟩:=cS h
 refine gQ h3 ?_
 exact lb h
 exact lb h) h
theorem bCw(h:Zf fW=some eV):AM Tryz.prog 55 [.d ((D.l Ad.D) fW)] [] (.d (dU eV)) []:=by unfold Zf at h;apply g0 (o:=eV);obtain⟨o2,h4,h⟩:=bS h;refine gl (aNu none h4) ?_;exact lf h
def aAs(s0:List Int)(s1 s5:Int):St:=⟨sp 48 0 [sD 0 (D.l dU) s0,sD 1 dU s1,sI 5 s5],[],[]⟩
def aAt(s0:List Int)(s1 o:Int):Ex×St:=(.exit 0,⟨sp 48 0 [sD 0 (D.l dU) s0,sD 1 dU s1,sI 5 o],[],[]⟩)
theorem aNd(rd:Option Nat)(h:aAr fZ eV eY=some f8):Lq 58 rd 28 (aAs fZ eV eY) ((aAt fZ eV) f8):=
 lL (fun s:Int=>aAs fZ eV s) (aAt fZ eV) eY (fun eY o h=>by
 unfold JJ at h
 refine iB 11 h (fun h=>?_) fun h=>?_
 refine xX 15 dU h fun x1 h=>?_
 refine iB 19 h (fun h=>?_) fun h=>?_
 exact lb h
 exact lb h
 exact lb h) h
theorem bCo(h:Z2 fZ eV=some g8):AM Tryz.prog 58 [.d ((D.l dU) fZ),.d (dU eV)] [] (.d ((D.l dU) g8)) []:=by unfold Z2 at h;apply g0 (o:=g8);refine gN 8 dU fZ ?_;obtain⟨o2,h4,h⟩:=bS h;refine gl (aNd none h4) ?_;refine iB 24 h (fun h=>?_) fun h=>?_;refine xX 28 dU h fun x3 h=>?_;refine iB 32 h (fun h=>?_) fun h=>?_;exact lf h;refine gQ (Ag dU ([]:List Int))<|gW 37 (.sl ((sub fZ 0 o2).map dU))<|gW 38 (.sl ((([]:List Int)++(sub fZ 0 o2)).map dU))<|gW 42 (.sl (((([]:List Int)++(sub fZ 0 o2))++[eV]).map dU))<|gW 46 (.sl ((sub fZ o2 (fZ.length:Int)).map dU))<|gW 47 (.sl ((((([]:List Int)++(sub fZ 0 o2))++[eV])++(sub fZ o2 (fZ.length:Int))).map dU)) ?_;obtain⟨h8,h⟩:=cS h;refine gQ (ED dU h8)<|gQ (Ag dU (sub fZ 0 o2)) ?_;obtain⟨h9,h⟩:=cS h;refine gQ (Ak dU h9)<|gQ (Ai dU ([]:List Int) (sub fZ 0 o2))<|gQ (Ag dU [eV])<|gQ (Ag dU [eV]) ?_;obtain⟨h10,h⟩:=cS h;refine gQ (Ak dU h10)<|gQ (Ai dU (([]:List Int)++(sub fZ 0 o2)) [eV]) ?_;obtain⟨h11,h⟩:=cS h;refine gQ (EC dU h11)<|gQ (Ag dU (sub fZ o2 (fZ.length:Int))) ?_;obtain⟨h12,h⟩:=cS h;refine gQ (Ak dU h12)<|gQ (Ai dU ((([]:List Int)++(sub fZ 0 o2))++[eV]) (sub fZ o2 (fZ.length:Int))) ?_;exact lf h;refine gQ (Ag dU ([]:List Int))<|gW 37 (.sl ((sub fZ 0 o2).map dU))<|gW 38 (.sl ((([]:List Int)++(sub fZ 0 o2)).map dU))<|gW 42 (.sl (((([]:List Int)++(sub fZ 0 o2))++[eV]).map dU))<|gW 46 (.sl ((sub fZ o2 (fZ.length:Int)).map dU))<|gW 47 (.sl ((((([]:List Int)++(sub fZ 0 o2))++[eV])++(sub fZ o2 (fZ.length:Int))).map dU)) ?_;obtain⟨h13,h⟩:=cS h;refine gQ (ED dU h13)<|gQ (Ag dU (sub fZ 0 o2)) ?_;obtain⟨h14,h⟩:=cS h;refine gQ (Ak dU h14)<|gQ (Ai dU ([]:List Int) (sub fZ 0 o2))<|gQ (Ag dU [eV])<|gQ (Ag dU [eV]) ?_;obtain⟨h15,h⟩:=cS h;refine gQ (Ak dU h15)<|gQ (Ai dU (([]:List Int)++(sub fZ 0 o2)) [eV]) ?_;obtain⟨h16,h⟩:=cS h;refine gQ (EC dU h16)<|gQ (Ag dU (sub fZ o2 (fZ.length:Int))) ?_;obtain⟨h17,h⟩:=cS h;refine gQ (Ak dU h17)<|gQ (Ai dU ((([]:List Int)++(sub fZ 0 o2))++[eV]) (sub fZ o2 (fZ.length:Int))) ?_;exact lf h
theorem aJf(rd:Option Nat)(h:SE fH fZ eV fI eY f8 eT eW=some g9):Lq 23 rd 477587 ⟨sp 42 0 [sD 1 (D.l X2.D) fH,bx 2,sD 5 (D.l dU) fZ,sI 6 eV,sD 7 (D.l X4.D) fI,sI 8 eY,sD 9 dU f8,sD 37 D.b eT],[cL 2 AD.D eW],[]⟩ (.normal,⟨sp 42 0 [sD 1 (D.l X2.D) fH,bx 2,sD 5 (D.l dU) g9,sI 6 eV,sD 7 (D.l X4.D) fI,sI 8 eY],[cL 2 AD.D eW],[]⟩):=by unfold SE at h;apply g0 (o:=g9);cases eT;replace h:=Bj h;exact lp h;replace h:=Bl h;obtain⟨r13,h18,h⟩:=bS h;refine gC 40 (bCo h18) ?_;exact lp h
theorem aJe(rd:Option Nat)(h:aJd fH fZ eV fI eY eW=some g9):Lq 23 rd 59698 ⟨sp 42 0 [sD 1 (D.l X2.D) fH,bx 2,sD 5 (D.l dU) fZ,sI 6 eV,sD 7 (D.l X4.D) fI,sI 8 eY],[cL 2 AD.D eW],[]⟩ (.normal,⟨sp 42 0 [sD 1 (D.l X2.D) fH,bx 2,sD 5 (D.l dU) g9,sI 6 eV,sD 7 (D.l X4.D) fI,sI 8 eY],[cL 2 AD.D eW],[]⟩):=by unfold aJd at h;apply g0 (o:=g9);refine xX 30 X4.D h fun x9 h=>?_;obtain⟨r10,h14,h⟩:=bS h;refine gC 32 (aXw h14) ?_;obtain⟨r11,h15,h⟩:=bS h;refine gC 34 (aXy h15) ?_;obtain⟨r12,h16,h⟩:=bS h;refine gC 35 (bCw h16) ?_;obtain⟨o14,h19,h⟩:=bS h;refine gl (aJf rd h19) ?_;exact lp h
def Wc(s1:List X2)(s6:Int)(s7:List X4)(w2:AD)(s5:List Int)(s8:Int):St:=⟨sp 42 0 [sD 1 (D.l X2.D) s1,bx 2,sD 5 (D.l dU) s5,sI 6 s6,sD 7 (D.l X4.D) s7,sI 8 s8],[cL 2 AD.D w2],[]⟩
def Wd(s1:List X2)(s6:Int)(s7:List X4)(w2:AD)(o:(List Int)):Ex×St:=(.exit 2,⟨sp 42 0 [sD 1 (D.l X2.D) s1,bx 2,sD 5 (D.l dU) o,sI 6 s6],[cL 2 AD.D w2],[]⟩)
theorem aJh(rd:Option Nat)(h:aSv fH eV fI eW fZ eY=some g9):Lq 23 rd 7462 (Wc fH eV fI eW fZ eY) ((Wd fH eV fI eW) g9):=
 lL (fun s:List Int×Int=>Wc fH eV fI eW s.1 s.2) (Wd fH eV fI eW) (fZ,eY) (fun⟨fZ,eY⟩ o h=>by
 unfold HD at h
 refine gN 23 X4.D fI ?_
 refine iB 24 h (fun h=>?_) fun h=>?_
 obtain⟨o18,h25,h⟩:=bS h
 refine gl (aJe rd h25) ?_
 exact lb h
 exact lb h) h
def Wa(s1:List X2)(w2:AD)(s5:List Int)(s6:Int):St:=⟨sp 42 0 [sD 1 (D.l X2.D) s1,bx 2,sD 5 (D.l dU) s5,sI 6 s6],[cL 2 AD.D w2],[]⟩
def Wb(s1:List X2)(w2:AD)(o:(List Int)):Ex×St:=(.exit 0,⟨sp 42 0 [sD 5 (D.l dU) o],[],[]⟩)
theorem aJg(rd:Option Nat)(h:aSu fH eW fZ eV=some g9):Lq 23 rd 58 (Wa fH eW fZ eV) ((Wb fH eW) g9):=
 lL (fun s:List Int×Int=>Wa fH eW s.1 s.2) (Wb fH eW) (fZ,eV) (fun⟨fZ,eV⟩ o h=>by
 unfold Is at h
 refine gN 13 Xf.D eW.decls ?_
 refine iB 14 h (fun h=>?_) fun h=>?_
 obtain⟨r17,h23,h⟩:=bS h
 refine gC 20 (bB7 h23) ?_
 obtain⟨o19,h26,h⟩:=bS h
 refine gl (aJh rd h26) ?_
 exact lb h
 exact lb h) h
theorem aXm(h:Xq eW fH=some fZ):AM Tryz.prog 23 [.d (AD.D eW),.d ((D.l X2.D) fH)] [] (.d ((D.l dU) fZ)) []:=by unfold Xq at h;apply g0 (o:=fZ);obtain⟨o20,h27,h⟩:=bS h;refine gL [.look 5,.live [1,2,5,6],.keep [2]] (aJg none h27) ?_;exact lf h
theorem Pv(rd:Option Nat)(h:Vn eV eY f8 gA gB gD eT eW gE=some gH):Lq 24 rd 1910419 ⟨sp 74 0 [sD 1 dW eV,sD 2 dU eY,bx 3,sD 7 dW f8,sI 8 gA,sD 9 dW gB,sI 10 gD,bx 11,sD 49 D.b eT],[cL 3 AD.D eW,cL 11 X6.D gE],[]⟩ (.normal,⟨sp 74 0 [sD 1 dW eV,sD 2 dU eY,bx 3,sD 7 dW f8,sI 8 gA,sD 9 dW gH,sI 10 gD],[cL 3 AD.D eW],[]⟩):=by unfold Vn at h;apply g0 (o:=gH);cases eT;replace h:=Bj h;exact lp h;replace h:=Bl h;obtain⟨h9,h⟩:=cS h;refine gQ h9 ?_;exact lp h
theorem aIa(rd:Option Nat)(h:aH9 eV eY f8 gA gB gD eW=some gH):Lq 24 rd 238802 ⟨sp 74 0 [sD 1 dW eV,sD 2 dU eY,bx 3,sD 7 dW f8,sI 8 gA,sD 9 dW gB,sI 10 gD],[cL 3 AD.D eW],[]⟩ (.normal,⟨sp 74 0 [sD 1 dW eV,sD 2 dU eY,bx 3,sD 7 dW f8,sI 8 gA,sD 9 dW gH,sI 10 gD],[cL 3 AD.D eW],[]⟩):=by unfold aH9 at h;apply g0 (o:=gH);refine xX 35 X6.D h fun x1 h=>?_;refine iB 41 h (fun h=>?_) fun h=>?_;obtain⟨h7,h⟩:=cS h;refine gQ h7<|gQ (of_decide_eq_true rfl:(2:Int)≠0) ?_;obtain⟨o2,h10,h⟩:=bS h;refine gl (Pv rd h10) ?_;exact lp h;obtain⟨o3,h11,h⟩:=bS h;refine gl (Pv rd h11) ?_;exact lp h
def Vq(s1 s2:Int)(s7 s8:Int)(w3:AD)(s9 s10:Int):St:=⟨sp 74 0 [sD 1 dW s1,sD 2 dU s2,bx 3,sD 7 dW s7,sI 8 s8,sD 9 dW s9,sI 10 s10],[cL 3 AD.D w3],[]⟩
def Vr(s1 s2:Int)(s7 s8:Int)(w3:AD)(o:Int):Ex×St:=(.exit 2,⟨sp 74 0 [sD 1 dW s1,sD 2 dU s2,bx 3,sD 7 dW s7,sI 8 s8,sD 9 dW o],[cL 3 AD.D w3],[]⟩)
theorem aId(rd:Option Nat)(h:aIc eV eY f8 gA eW gB gD=some gH):Lq 24 rd 29850 (Vq eV eY f8 gA eW gB gD) ((Vr eV eY f8 gA eW) gH):=
 lL (fun s:Int×Int=>Vq eV eY f8 gA eW s.1 s.2) (Vr eV eY f8 gA eW) (gB,gD) (fun⟨gB,gD⟩ o h=>by
 unfold Ig at h
 refine gN 28 X6.D eW.trans ?_
 refine iB 29 h (fun h=>?_) fun h=>?_
 obtain⟨o4,h12,h⟩:=bS h
 refine gl (aIa rd h12) ?_
 exact lb h
 exact lb h) h
theorem Pw(rd:Option Nat)(h:OV eV eY f8 gA gB eT eW=some gD):Lq 24 rd 29853 ⟨sp 74 0 [sD 1 dW eV,sD 2 dU eY,bx 3,sD 7 dW f8,sI 8 gA,sD 9 dW gB,sD 66 D.b eT],[cL 3 AD.D eW],[]⟩ (.normal,⟨sp 74 0 [sD 1 dW eV,sD 2 dU eY,bx 3,sD 7 dW f8,sI 8 gA,sD 9 dW gD],[cL 3 AD.D eW],[]⟩):=by unfold OV at h;apply g0 (o:=gD);cases eT;replace h:=Bj h;exact lp h;replace h:=Bl h;obtain⟨h17,h⟩:=cS h;refine gQ h17 ?_;exact lp h
theorem aH8(rd:Option Nat)(h:aH7 eV eY f8 gA eW=some gB):Lq 24 rd 466 ⟨sp 74 0 [sD 1 dW eV,sD 2 dU eY,bx 3,sD 7 dW f8,sI 8 gA],[cL 3 AD.D eW],[]⟩ (.normal,⟨sp 74 0 [sD 1 dW eV,sD 2 dU eY,bx 3,sD 7 dW gB,sI 8 gA],[cL 3 AD.D eW],[]⟩):=by unfold aH7 at h;apply g0 (o:=gB);obtain⟨h2,h⟩:=cS h;refine gQ h2<|gQ (of_decide_eq_true rfl:(2:Int)≠0) ?_;refine iB 24 h (fun h=>?_) fun h=>?_;exact lp h;obtain⟨o5,h13,h⟩:=bS h;refine gl (aId rd h13) ?_;refine iB 58 h (fun h=>?_) fun h=>?_;refine xX 62 Xc.D h fun x6 h=>?_;obtain⟨o7,h18,h⟩:=bS h;refine gl (Pw rd h18) ?_;exact lp h;obtain⟨o8,h19,h⟩:=bS h;refine gl (Pw rd h19) ?_;exact lp h
def Vo(s1 s2:Int)(w3:AD)(s7 s8:Int):St:=⟨sp 74 0 [sD 1 dW s1,sD 2 dU s2,bx 3,sD 7 dW s7,sI 8 s8],[cL 3 AD.D w3],[]⟩
def Vp(s1 s2:Int)(w3:AD)(o:Int):Ex×St:=(.exit 0,⟨sp 74 0 [sD 7 dW o],[],[]⟩)
theorem aIb(rd:Option Nat)(h:aSm eV eY eW f8 gA=some gB):Lq 24 rd 58 (Vo eV eY eW f8 gA) ((Vp eV eY eW) gB):=
 lL (fun s:Int×Int=>Vo eV eY eW s.1 s.2) (Vp eV eY eW) (f8,gA) (fun⟨f8,gA⟩ o h=>by
 unfold G6 at h
 refine gN 15 Xc.D eW.states ?_
 refine iB 16 h (fun h=>?_) fun h=>?_
 obtain⟨o9,h20,h⟩:=bS h
 refine gl (aH8 rd h20) ?_
 exact lb h
 exact lb h) h
theorem aXf(h:Xi eW eV eY=some f8):AM Tryz.prog 24 [.d (AD.D eW),.d (dW eV),.d (dU eY)] [] (.d (dW f8)) []:=by unfold Xi at h;apply g0 (o:=f8);obtain⟨o10,h21,h⟩:=bS h;refine gl (aIb none h21) ?_;exact lf h
def aBh(s0:List Int)(s1 s5:Int):St:=⟨sp 18 0 [sD 0 (D.l dW) s0,sD 1 dW s1,sI 5 s5],[],[]⟩
def aBi(s0:List Int)(s1:Int)(o:Unit⊕Unit):Ex×St:=match o with
 | .inl o=>(.exit 0,⟨sp 18 0 [],[],[]⟩)
 | .inr o=>(.ret,⟨sp 18 0 [sD 4 D.b true],[],[]⟩)
theorem aNv(rd:Option Nat)(h:aTz fZ eV eY=some fM):Lq 38 rd 26 (aBh fZ eV eY) ((aBi fZ eV) fM):=
 lL (fun s:Int=>aBh fZ eV s) (aBi fZ eV) eY (fun eY o h=>by
 unfold JR at h
 refine gN 8 dW fZ ?_
 refine iB 9 h (fun h=>?_) fun h=>?_
 refine xX 14 dW h fun x1 h=>?_
 refine iB 17 h (fun h=>?_) fun h=>?_
 exact lb h
 exact lb h
 exact lb h) h
theorem aYa(h:Zg fZ eV=some eT):AM Tryz.prog 38 [.d ((D.l dW) fZ),.d (dW eV)] [] (.d (D.b eT)) []:=by
 unfold Zg at h;apply g0 (o:=eT);obtain⟨o2,h4,h⟩:=bS h;refine gl (aNv none h4) ?_;replace h:=AJ h;rcases h with⟨o3,rfl,h⟩|⟨o4,rfl,h⟩
 exact lf h;exact lf h
theorem aKk(rd:Option Nat)(h:aKj fZ eV eY f8 eT eW g8=some g9):Lq 10 rd 500883 ⟨sp 48 0 [bx 3,sD 7 (D.l dU) fZ,rx 8,sI 9 eV,sI 10 eY,sD 11 dW f8,sD 42 D.b eT],[cL 3 AD.D eW,(8,.row 32 1 (g8.map dW))],[]⟩ (.normal,⟨sp 48 0 [bx 3,sD 7 (D.l dU) fZ,rx 8,sI 9 eV,sI 10 eY],[cL 3 AD.D eW,(8,.row 32 1 (g9.map dW))],[]⟩):=by unfold aKj at h;apply g0 (o:=g9);cases eT;replace h:=Bj h;exact lp h;replace h:=Bl h;refine gQ (Ag dW [f8])<|gG 46 (.sl ((g8++[f8]).map dW)) (Ag dW [f8]) ?_;obtain⟨h9,h⟩:=cS h;refine gQ (Ak dW h9)<|gQ (Ai dW g8 [f8]) ?_;exact lP h [.live [3,7,8,9,10],.keep [3,46],.ren 46 8,.sort]
theorem aKi(rd:Option Nat)(h:aKh fZ eV eY eW g8=some g9):Lq 10 rd 62610 ⟨sp 48 0 [bx 3,sD 7 (D.l dU) fZ,rx 8,sI 9 eV,sI 10 eY],[cL 3 AD.D eW,(8,.row 32 1 (g8.map dW))],[]⟩ (.normal,⟨sp 48 0 [bx 3,sD 7 (D.l dU) fZ,rx 8,sI 9 eV,sI 10 eY],[cL 3 AD.D eW,(8,.row 32 1 (g9.map dW))],[]⟩):=by unfold aKh at h;apply g0 (o:=g9);refine xX 32 dW h fun x2 h=>?_;refine xX 36 dU h fun x3 h=>?_;obtain⟨r4,h6,h⟩:=bS h;refine gC 38 (aXf h6) ?_;obtain⟨r5,h7,h⟩:=bS h;refine gC 41 (aYa h7) ?_;obtain⟨o6,h10,h⟩:=bS h;refine gl (aKk rd h10) ?_;exact lp h
def XJ(s7:List Int)(s9:Int)(w3:AD)(s10:Int)(w8:List Int):St:=⟨sp 48 0 [bx 3,sD 7 (D.l dU) s7,rx 8,sI 9 s9,sI 10 s10],[cL 3 AD.D w3,(8,.row 32 1 (w8.map dW))],[]⟩
def XK(s7:List Int)(s9:Int)(w3:AD)(o:(List Int)):Ex×St:=(.exit 2,⟨sp 48 0 [bx 3,sD 7 (D.l dU) s7,rx 8,sI 9 s9],[cL 3 AD.D w3,(8,.row 32 1 (o.map dW))],[]⟩)
theorem aKm(rd:Option Nat)(h:aS5 fZ eV eW eY g8=some g9):Lq 10 rd 7826 (XJ fZ eV eW eY g8) ((XK fZ eV eW) g9):=
 lL (fun s:Int×List Int=>XJ fZ eV eW s.1 s.2) (XK fZ eV eW) (eY,g8) (fun⟨eY,g8⟩ o h=>by
 unfold Iz at h
 refine gN 25 dU fZ ?_
 refine iB 26 h (fun h=>?_) fun h=>?_
 obtain⟨o7,h11,h⟩:=bS h
 refine gl (aKi rd h11) ?_
 exact lb h
 exact lb h) h
def XH(s7:List Int)(w3:AD)(s9:Int)(w8:List Int):St:=⟨sp 48 0 [bx 3,sD 7 (D.l dU) s7,rx 8,sI 9 s9],[cL 3 AD.D w3,(8,.row 32 1 (w8.map dW))],[]⟩
def XI(s7:List Int)(w3:AD)(o:(List Int)):Ex×St:=(.exit 0,⟨sp 48 0 [rx 8],[(8,.row 32 1 (o.map dW))],[]⟩)
theorem aKl(rd:Option Nat)(h:aS4 fZ eW eV g8=some g9):Lq 10 rd 122 (XH fZ eW eV g8) ((XI fZ eW) g9):=
 lL (fun s:Int×List Int=>XH fZ eW s.1 s.2) (XI fZ eW) (eV,g8) (fun⟨eV,g8⟩ o h=>by
 unfold Iy at h
 refine gN 19 dW g8 ?_
 refine iB 20 h (fun h=>?_) fun h=>?_
 obtain⟨o8,h12,h⟩:=bS h
 refine gl (aKm rd h12) ?_
 exact lb h
 exact lb h) h
theorem bBv(h:Y1 eW fH eV=some fZ):AM Tryz.prog 10 [.d (AD.D eW),.d ((D.l X2.D) fH),.d (dW eV)] [] (.d ((D.l dW) fZ)) []:=by unfold Y1 at h;apply g0 (o:=fZ);obtain⟨r1,h1,h⟩:=bS h;refine gC 14 (aXm h1)<|gQ (Ag dW [eV]) ?_;obtain⟨o9,h13,h⟩:=bS h;refine gL [.live [3,7,8,9],.keep [3,16],.ren 16 8,.sort] (aKl none h13) ?_;exact lf h
def aA3(s1:Int)(w2:AD)(s5:Int):St:=⟨sp 27 0 [sD 1 dW s1,bx 2,sI 5 s5],[cL 2 AD.D w2],[]⟩
def aA4(s1:Int)(w2:AD)(o:Unit⊕Unit):Ex×St:=match o with
 | .inl o=>(.exit 0,⟨sp 27 0 [],[],[]⟩)
 | .inr o=>(.ret,⟨sp 27 0 [sD 4 D.b true],[],[]⟩)
theorem aNm(rd:Option Nat)(h:aTt eV eW eY=some fM):Lq 25 rd 26 (aA3 eV eW eY) ((aA4 eV eW) fM):=
 lL (fun s:Int=>aA3 eV eW s) (aA4 eV eW) eY (fun eY o h=>by
 unfold JL at h
 refine gN 9 Xc.D eW.states ?_
 refine iB 10 h (fun h=>?_) fun h=>?_
 obtain⟨h2,h⟩:=cS h
 refine gQ h2<|gQ (of_decide_eq_true rfl:(2:Int)≠0) ?_
 refine iB 19 h (fun h=>?_) fun h=>?_
 refine xX 23 Xc.D h fun x1 h=>?_
 refine iB 26 h (fun h=>?_) fun h=>?_
 exact lb h
 exact lb h
 exact lb h
 exact lb h) h
theorem aX6(h:Z9 eW eV=some eT):AM Tryz.prog 25 [.d (AD.D eW),.d (dW eV)] [] (.d (D.b eT)) []:=by
 unfold Z9 at h;apply g0 (o:=eT);obtain⟨o2,h6,h⟩:=bS h;refine gl (aNm none h6) ?_;replace h:=AJ h;rcases h with⟨o3,rfl,h⟩|⟨o4,rfl,h⟩
 exact lf h;exact lf h
theorem aMl(rd:Option Nat)(h:aMk fZ eV eY eT eW=some f8):Lq 13 rd 3913 ⟨sp 34 0 [bx 3,sD 7 (D.l dW) fZ,sI 8 eV,sI 9 eY,sD 25 D.b eT],[cL 3 AD.D eW],[]⟩ (.normal,⟨sp 34 0 [bx 3,sD 7 (D.l dW) fZ,sI 8 f8,sI 9 eY],[cL 3 AD.D eW],[]⟩):=by unfold aMk at h;apply g0 (o:=f8);cases eT;replace h:=Bj h;exact lp h;replace h:=Bl h;exact lp h
theorem aMj(rd:Option Nat)(h:aMi fZ eV eY eW=some f8):Lq 13 rd 978 ⟨sp 34 0 [bx 3,sD 7 (D.l dW) fZ,sI 8 eV,sI 9 eY],[cL 3 AD.D eW],[]⟩ (.normal,⟨sp 34 0 [bx 3,sD 7 (D.l dW) fZ,sI 8 f8,sI 9 eY],[cL 3 AD.D eW],[]⟩):=by unfold aMi at h;apply g0 (o:=f8);refine xX 23 dW h fun x2 h=>?_;obtain⟨r3,h4,h⟩:=bS h;refine gC 25 (aX6 h4) ?_;obtain⟨o4,h6,h⟩:=bS h;refine gl (aMl rd h6) ?_;exact lp h
def ZL(s7:List Int)(w3:AD)(s8 s9:Int):St:=⟨sp 34 0 [bx 3,sD 7 (D.l dW) s7,sI 8 s8,sI 9 s9],[cL 3 AD.D w3],[]⟩
def ZM(s7:List Int)(w3:AD)(o:Int):Ex×St:=(.exit 0,⟨sp 34 0 [sD 7 (D.l dW) s7,sI 8 o],[],[]⟩)
theorem aMm(rd:Option Nat)(h:aTi fZ eW eV eY=some f8):Lq 13 rd 122 (ZL fZ eW eV eY) ((ZM fZ eW) f8):=
 lL (fun s:Int×Int=>ZL fZ eW s.1 s.2) (ZM fZ eW) (eV,eY) (fun⟨eV,eY⟩ o h=>by
 unfold JC at h
 refine gN 16 dW fZ ?_
 refine iB 17 h (fun h=>?_) fun h=>?_
 obtain⟨o5,h7,h⟩:=bS h
 refine gl (aMj rd h7) ?_
 exact lb h
 exact lb h) h
theorem bCb(h:Yn eW fH eV=some eY):AM Tryz.prog 13 [.d (AD.D eW),.d ((D.l X2.D) fH),.d (dW eV)] [] (dI eY) []:=by unfold Yn at h;apply g0 (o:=eY);obtain⟨r1,h1,h⟩:=bS h;refine gC 13 (bBv h1)<|gW 30 (.int (r1.length:Int)) ?_;obtain⟨o6,h8,h⟩:=bS h;refine gl (aMm none h8)<|gQ (EN dW r1) ?_;refine iB 31 h (fun h=>?_) fun h=>?_;exact lf h;refine iB 33 h (fun h=>?_) fun h=>?_;exact lf h;exact lf h
theorem aJu(rd:Option Nat)(h:aJt eT fZ eV eY f8 eU eW g8 gJ=some gK):Lq 22 rd 2050451 ⟨sp 71 0 [sD 3 D.b eT,bx 4,sD 9 (D.l dU) fZ,rx 10,rx 11,sI 12 eV,sI 13 eY,sD 14 dW f8,sD 58 D.b eU],[cL 4 AD.D eW,(10,.row 32 1 (g8.map dW)),(11,.row 3 1 (gJ.map dZ))],[]⟩ (.normal,⟨sp 71 0 [sD 3 D.b eT,bx 4,sD 9 (D.l dU) fZ,rx 10,rx 11,sI 12 eV,sI 13 eY],[cL 4 AD.D eW,(10,.row 32 1 (gK.1.map dW)),(11,.row 3 1 (gK.2.map dZ))],[]⟩):=by unfold aJt at h;apply g0 (o:=gK);cases eU;replace h:=Bj h;exact lp h;replace h:=Bl h;refine gQ (Ag dW [f8])<|gG 62 (.sl ((g8++[f8]).map dW)) (Ag dW [f8]) ?_;obtain⟨h13,h⟩:=cS h;refine gQ (Ak dW h13)<|gQ (Ai dW g8 [f8])<|xX 66 dZ h fun x9 h=>?_;refine gQ (Ag dZ [(AA .add .i64 x9 1)])<|gG 70 (.sl ((gJ++[(AA .add .i64 x9 1)]).map dZ)) (Ag dZ [(AA .add .i64 x9 1)]) ?_;obtain⟨h15,h⟩:=cS h;refine gQ (Ak dZ h15)<|gQ (Ai dZ gJ [(AA .add .i64 x9 1)]) ?_;exact lP h [.live [3,4,9,10,11,12,13],.keep [4,62,70],.ren 62 10,.ren 70 11,.sort]
theorem aJs(rd:Option Nat)(h:aJr eT fZ eV eY eW g8 gJ=some gK):Lq 22 rd 256306 ⟨sp 71 0 [sD 3 D.b eT,bx 4,sD 9 (D.l dU) fZ,rx 10,rx 11,sI 12 eV,sI 13 eY],[cL 4 AD.D eW,(10,.row 32 1 (g8.map dW)),(11,.row 3 1 (gJ.map dZ))],[]⟩ (.normal,⟨sp 71 0 [sD 3 D.b eT,bx 4,sD 9 (D.l dU) fZ,rx 10,rx 11,sI 12 eV,sI 13 eY],[cL 4 AD.D eW,(10,.row 32 1 (gK.1.map dW)),(11,.row 3 1 (gK.2.map dZ))],[]⟩):=by unfold aJr at h;apply g0 (o:=gK);refine xX 48 dW h fun x5 h=>?_;refine xX 52 dU h fun x6 h=>?_;obtain⟨r7,h10,h⟩:=bS h;refine gC 54 (aXf h10) ?_;obtain⟨r8,h11,h⟩:=bS h;refine gC 57 (aYa h11) ?_;obtain⟨o10,h16,h⟩:=bS h;refine gl (aJu rd h16) ?_;exact lp h
def Wu(s3:Bool)(s9:List Int)(s12:Int)(w4:AD)(s13:Int)(w10 w11:List Int):St:=⟨sp 71 0 [sD 3 D.b s3,bx 4,sD 9 (D.l dU) s9,rx 10,rx 11,sI 12 s12,sI 13 s13],[cL 4 AD.D w4,(10,.row 32 1 (w10.map dW)),(11,.row 3 1 (w11.map dZ))],[]⟩
def Wv(s3:Bool)(s9:List Int)(s12:Int)(w4:AD)(o:(List Int×List Int)):Ex×St:=(.exit 2,⟨sp 71 0 [sD 3 D.b s3,bx 4,sD 9 (D.l dU) s9,rx 10,rx 11,sI 12 s12],[cL 4 AD.D w4,(10,.row 32 1 (o.1.map dW)),(11,.row 3 1 (o.2.map dZ))],[]⟩)
theorem aJw(rd:Option Nat)(h:aSx eT fZ eV eW eY g8 gJ=some gK):Lq 22 rd 32038 (Wu eT fZ eV eW eY g8 gJ) ((Wv eT fZ eV eW) gK):=
 lL (fun s:Int×List Int×List Int=>Wu eT fZ eV eW s.1 s.2.1 s.2.2) (Wv eT fZ eV eW) (eY,g8,gJ) (fun⟨eY,g8,gJ⟩ o h=>by
 unfold Iu at h
 refine gN 41 dU fZ ?_
 refine iB 42 h (fun h=>?_) fun h=>?_
 obtain⟨o11,h17,h⟩:=bS h
 refine gl (aJs rd h17) ?_
 exact lb h
 exact lb h) h
def Wr(s3:Bool)(s9:List Int)(w4:AD)(s12:Int)(w10 w11:List Int):St:=⟨sp 71 0 [sD 3 D.b s3,bx 4,sD 9 (D.l dU) s9,rx 10,rx 11,sI 12 s12],[cL 4 AD.D w4,(10,.row 32 1 (w10.map dW)),(11,.row 3 1 (w11.map dZ))],[]⟩
def Wt(s3:Bool)(s9:List Int)(w4:AD)(o:Unit⊕Int):Ex×St:=match o with
 | .inl o=>(.exit 0,⟨sp 71 0 [],[],[]⟩)
 | .inr o=>(.ret,⟨sp 71 0 [sI 8 o],[],[]⟩)
theorem aJv(rd:Option Nat)(h:aSw eT fZ eW eV g8 gJ=some gM):Lq 22 rd 250 (Wr eT fZ eW eV g8 gJ) ((Wt eT fZ eW) gM):=
 lL (fun s:Int×List Int×List Int=>Wr eT fZ eW s.1 s.2.1 s.2.2) (Wt eT fZ eW) (eV,g8,gJ) (fun⟨eV,g8,gJ⟩ o h=>by
 unfold HE at h
 refine gN 23 dW g8 ?_
 refine iB 24 h (fun h=>?_) fun h=>?_
 refine xX 30 dW h fun x2 h=>?_
 obtain⟨r3,h4,h⟩:=bS h
 refine gC 32 (aX6 h4) ?_
 refine iB 34 h (fun h=>?_) fun h=>?_
 refine xX 37 dZ h fun x4 h=>?_
 exact lb h
 obtain⟨o12,h18,h⟩:=bS h
 refine gl (aJw rd h18) ?_
 exact lb h
 exact lb h) h
theorem aJx(h:Xu eW fH eV eT=some eY):AM Tryz.prog 22 [.d (AD.D eW),.d ((D.l X2.D) fH),.d (dW eV),.d (D.b eT)] [] (dI eY) []:=by
 unfold Xu at h;apply g0 (o:=eY);obtain⟨r1,h1,h⟩:=bS h;refine gC 17 (aXm h1)<|gQ (Ag dW [eV])<|gQ (Ag dZ [0]) ?_;obtain⟨o13,h19,h⟩:=bS h;refine gL [.live [3,4,9,10,11,12],.keep [4,19,20],.ren 19 10,.ren 20 11,.sort] (aJv none h19) ?_;replace h:=AJ h;rcases h with⟨o14,rfl,h⟩|⟨o15,rfl,h⟩
 exact lf h;exact lf h
def aBt(s1:List X3)(w2:AD)(s5:Int):St:=⟨sp 22 0 [sD 1 (D.l X3.D) s1,bx 2,sI 5 s5],[cL 2 AD.D w2],[]⟩
def aBu(s1:List X3)(w2:AD)(o:Unit⊕Unit):Ex×St:=match o with
 | .inl o=>(.exit 0,⟨sp 22 0 [],[],[]⟩)
 | .inr o=>(.ret,⟨sp 22 0 [sD 4 D.b true],[],[]⟩)
theorem aN1(rd:Option Nat)(h:aT3 eZ eW eV=some fM):Lq 32 rd 26 (aBt eZ eW eV) ((aBu eZ eW) fM):=
 lL (fun s:Int=>aBt eZ eW s) (aBu eZ eW) eV (fun eV o h=>by
 unfold JU at h
 refine gN 8 X3.D eZ ?_
 refine iB 9 h (fun h=>?_) fun h=>?_
 refine xX 16 X3.D h fun x1 h=>?_
 refine xX 19 Xc.D h fun x2 h=>?_
 refine iB 21 h (fun h=>?_) fun h=>?_
 exact lb h
 exact lb h
 exact lb h) h
theorem bC5(h:Zm eW eZ=some eT):AM Tryz.prog 32 [.d (AD.D eW),.d ((D.l X3.D) eZ)] [] (.d (D.b eT)) []:=by
 unfold Zm at h;apply g0 (o:=eT);obtain⟨o3,h5,h⟩:=bS h;refine gl (aN1 none h5) ?_;replace h:=AJ h;rcases h with⟨o4,rfl,h⟩|⟨o5,rfl,h⟩
 exact lf h;exact lf h
def aAw(us:List Value)(s1:List X2)(s6:Int)(w5:List X0):St:=⟨sp 29 0 [sD 1 (D.l X2.D) s1,rx 5,sI 6 s6],[rW 5 62 4 X0.D w5,(997,.vals [] us)],[]⟩
def aAx(us:List Value)(s1:List X2)(o:(List X0)):Ex×St:=(.exit 0,⟨sp 29 0 [rx 5],[rW 5 62 4 X0.D o,(997,.vals [] us)],[]⟩)
theorem aNg(rd:Option Nat)(us:List Value)(h:aNf fH eV f9=some fC):Lq 147 rd 58 (aAw us fH eV f9) ((aAx us fH) fC):=
 lL (fun s:Int×List X0=>aAw us fH s.1 s.2) (aAx us fH) (eV,f9) (fun⟨eV,f9⟩ o h=>by
 unfold HN at h
 refine gN 12 X2.D fH ?_
 refine iB 13 h (fun h=>?_) fun h=>?_
 refine xX 19 X2.D h fun x1 h=>?_
 refine xX 24 X2.D h fun x2 h=>?_
 refine gW 10027 (.sl ((f9.set x1.var.toNat x2.value).map X0.D)) ?_
 obtain⟨h5,h⟩:=cS h
 refine gQ h5.1<|gQ (AI X0.D h5.2) ?_
 obtain⟨h6,h⟩:=cS h
 refine gQ (A0 X0.D h6)<|gQ (AV X0.D f9 x1.var x2.value) ?_
 exact lb h
 exact lb h) h
theorem bCp(h:Z4 f9 fH=some fB):AM Tryz.prog 147 [.d ((D.l X0.D) f9),.d ((D.l X2.D) fH)] [] (.row 0) [rW 0 62 4 X0.D fB]:=by unfold Z4 at h;refine XG.call (ks:=[]) mixed fun us=>?_;apply g0 (o:=fB);refine gQ (Ag X0.D ([]:List X0))<|gG 9 (.rwl ((f9).map X0.D)) (Ag X0.D f9) ?_;obtain⟨h1,h⟩:=cS h;refine gQ (Ak X0.D h1)<|gQ (Ai X0.D ([]:List X0) f9) ?_;obtain⟨o3,h7,h⟩:=bS h;refine gL [.live [1,5,6],.keep [9,997],.ren 9 5,.sort] (aNg none us h7) ?_;exact lX h [.live [4],.keep [5,997],.ren 5 0,.sort]
theorem aUb(self:AD->Int->(List X2)->(List X0)->Option (X0×Int))(hs:∀(a0:AD) (a1:Int) (a2:List X2) (a3:List X0) (r:X0×Int),self a0 a1 a2 a3=some r->AM Tryz.prog 166 [.d (AD.D a0),dI a1,.d ((D.l X2.D) a2),.d ((D.l X0.D) a3)] [] (.tup [.d (X0.D r.1),dI r.2]) [])(a0:AD)(a1:Int)(a2:List X2)(a3:List X0)(r:X0×Int)(h:aYe self a0 a1 a2 a3=some r):AM Tryz.prog 166 [.d (AD.D a0),dI a1,.d ((D.l X2.D) a2),.d ((D.l X0.D) a3)] [] (.tup [.d (X0.D r.1),dI r.2]) []:=by unfold aYe at h;apply g0 (o:=r);refine xX 19 Yp.D h fun x1 h=>?_;refine iB 23 h (fun h=>?_) fun h=>?_;exact lf h;refine iB 28 h (fun h=>?_) fun h=>?_;obtain⟨r2,h4,h⟩:=bS h;refine gC 33 (SR h4) ?_;refine iB 38 h (fun h=>?_) fun h=>?_;exact lf h;refine xX 45 Yg.D h fun x3 h=>?_;refine iB 49 h (fun h=>?_) fun h=>?_;exact lf h;exact lf h;refine iB 54 h (fun h=>?_) fun h=>?_;refine xX 58 X0.D h fun x4 h=>?_;exact lf h;obtain⟨r5,h10,h⟩:=bS h;refine gG 66 (.ret (.tup [.d (X0.D r5.1),dI r5.2])) (hs a0 x1.a a2 a3 r5 h10) ?_;refine iB 70 h (fun h=>?_) fun h=>?_;exact lf h;refine iB 75 h (fun h=>?_) fun h=>?_;obtain⟨r6,h13,h⟩:=bS h;refine gC 80 (Rx h13) ?_;exact lf h;refine iB 86 h (fun h=>?_) fun h=>?_;refine iB 91 h (fun h=>?_) fun h=>?_;exact lf h;refine iB 95 h (fun h=>?_) fun h=>?_;refine iB 99 h (fun h=>?_) fun h=>?_;exact lf h;obtain⟨r7,h18,h⟩:=bS h;refine gG 107 (.ret (.tup [.d (X0.D r7.1),dI r7.2])) (hs a0 x1.b a2 a3 r7 h18) ?_;refine iB 111 h (fun h=>?_) fun h=>?_;exact lf h;obtain⟨r8,h20,h⟩:=bS h;refine gC 118 (Rx h20) ?_;exact lf h;obtain⟨r9,h21,h⟩:=bS h;refine gG 107 (.ret (.tup [.d (X0.D r9.1),dI r9.2])) (hs a0 x1.b a2 a3 r9 h21) ?_;refine iB 111 h (fun h=>?_) fun h=>?_;exact lf h;obtain⟨r10,h23,h⟩:=bS h;refine gC 118 (Rx h23) ?_;exact lf h;refine iB 95 h (fun h=>?_) fun h=>?_;refine iB 99 h (fun h=>?_) fun h=>?_;exact lf h;obtain⟨r11,h26,h⟩:=bS h;refine gG 107 (.ret (.tup [.d (X0.D r11.1),dI r11.2])) (hs a0 x1.b a2 a3 r11 h26) ?_;refine iB 111 h (fun h=>?_) fun h=>?_;exact lf h;obtain⟨r12,h28,h⟩:=bS h;refine gC 118 (Rx h28) ?_;exact lf h;obtain⟨r13,h29,h⟩:=bS h;refine gG 107 (.ret (.tup [.d (X0.D r13.1),dI r13.2])) (hs a0 x1.b a2 a3 r13 h29) ?_;refine iB 111 h (fun h=>?_) fun h=>?_;exact lf h;obtain⟨r14,h31,h⟩:=bS h;refine gC 118 (Rx h31) ?_;exact lf h
theorem aCd:∀(n:Nat) (a0:AD) (a1:Int) (a2:List X2) (a3:List X0) (r:X0×Int),aWb n a0 a1 a2 a3=some r->AM Tryz.prog 166 [.d (AD.D a0),dI a1,.d ((D.l X2.D) a2),.d ((D.l X0.D) a3)] [] (.tup [.d (X0.D r.1),dI r.2]) []
 |0,a0,a1,a2,a3,r,h=>by simp[aWb]at h
 |n+1,a0,a1,a2,a3,r,h=>aUb _ (aCd n) a0 a1 a2 a3 r h
theorem aYf(h:Zw eW eV fH f9=some gO):AM Tryz.prog 166 [.d (AD.D eW),dI eV,.d ((D.l X2.D) fH),.d ((D.l X0.D) f9)] [] (.tup [.d (X0.D gO.1),dI gO.2]) []:=aCd 100000 eW eV fH f9 gO h
theorem aZ6(h:U0 eW eV fH f9=some gP):AM Tryz.prog 148 [.d (AD.D eW),dI eV,.d ((D.l X2.D) fH),.d ((D.l X0.D) f9)] [] (.tup [.d (D.b gP.1),dI gP.2]) []:=by unfold U0 at h;apply g0 (o:=gP);refine xX 16 X6.D h fun x1 h=>?_;refine iB 20 h (fun h=>?_) fun h=>?_;exact lf h;obtain⟨r2,h3,h⟩:=bS h;refine gC 26 (aYf h3) ?_;exact lf h
def aAy(us:List Value)(s2:List X2)(s11:List Es)(w3:List X0)(w4:AD)(s12:Int)(w10:List X0):St:=⟨sp 54 0 [sD 2 (D.l X2.D) s2,rx 3,bx 4,rx 10,sD 11 (D.l Es.D) s11,sI 12 s12],[(3,.row 62 4 (w3.map X0.D)),cL 4 AD.D w4,rW 10 62 4 X0.D w10,(997,.vals [] us)],[]⟩
def aAz(us:List Value)(s2:List X2)(s11:List Es)(w3:List X0)(w4:AD)(o:(List X0)⊕Int):Ex×St:=match o with
 | .inl o=>(.exit 0,⟨sp 54 0 [rx 10],[rW 10 62 4 X0.D o,(997,.vals [] us)],[]⟩)
 | .inr o=>(.ret,⟨sp 54 0 [(8,.nil),sI 9 o],[(997,.vals [] us)],[]⟩)
theorem aNi(rd:Option Nat)(us:List Value)(h:aNh fH gR f9 eW eV fB=some gS):Lq 149 rd 122 (aAy us fH gR f9 eW eV fB) ((aAz us fH gR f9 eW) gS):=
 lL (fun s:Int×List X0=>aAy us fH gR f9 eW s.1 s.2) (aAz us fH gR f9 eW) (eV,fB) (fun⟨eV,fB⟩ o h=>by
 unfold HO at h
 refine gN 26 Es.D gR ?_
 refine iB 27 h (fun h=>?_) fun h=>?_
 refine xX 34 Es.D h fun x2 h=>?_
 obtain⟨r3,h5,h⟩:=bS h
 refine gC 39 (aYf h5) ?_
 refine iB 43 h (fun h=>?_) fun h=>?_
 exact lb h
 refine xX 48 Es.D h fun x4 h=>?_
 refine gW 10052 (.sl ((fB.set x4.free.toNat r3.1).map X0.D)) ?_
 obtain⟨h8,h⟩:=cS h
 refine gQ h8.1<|gQ (AI X0.D h8.2) ?_
 obtain⟨h9,h⟩:=cS h
 refine gQ (A0 X0.D h9)<|gQ (AV X0.D fB x4.free r3.1) ?_
 exact lb h
 exact lb h) h
theorem bCq(h:Z5 eW eV fH f9=some gU):AM Tryz.prog 149 [.d (AD.D eW),dI eV,.d ((D.l X2.D) fH),.row 0] [rW 0 62 4 X0.D f9] (.tup [.d ((D.l X0.D) gU.1),dI gU.2]) []:=by
 unfold Z5 at h;refine XG.call (ks:=[]) mixed fun us=>?_;apply g0 (o:=gU);refine gQ (Ag X0.D ([]:List X0))<|gG 17 (.rwl ((f9).map X0.D)) (Ag X0.D f9)<|gW 16 (.fzn 0) ?_;obtain⟨h1,h⟩:=cS h;refine gQ (Ak X0.D h1)<|gQ (Ai X0.D ([]:List X0) f9)<|xX 21 X6.D h fun x1 h=>?_;obtain⟨o5,h10,h⟩:=bS h;refine gL [.live [2,3,4,10,11,12],.keep [0,4,17,997],.ren 0 3,.ren 17 10,.sort] (aNi none us h10) ?_;replace h:=AJ h;rcases h with⟨o6,rfl,h⟩|⟨o7,rfl,h⟩
 exact lX h [.frz 10,.look 8,.live [8,9],.keep [997]];exact lX h [.look 8,.live [8,9],.keep [997]]
theorem aZ7(h:U1 eW eV gV fS=some gX):AM Tryz.prog 129 [.d (AD.D eW),dI eV,.d (X3.D gV),.d (Ad.D fS)] [] (.tup [.d (X3.D gX.1),.d (D.b gX.2.1),dI gX.2.2]) []:=by unfold U1 at h;apply g0 (o:=gX);obtain⟨r1,h1,h⟩:=bS h;refine gG 19 (.cx false [] [(0,19)] (.row 0) [rW 0 62 4 X0.D r1]) (bCp h1) ?_;obtain⟨r2,h2,h⟩:=bS h;refine gG 26 (.lend [19] (.tup [.d (D.b r2.1),dI r2.2])) (aZ6 h2) ?_;refine iB 31 h (fun h=>?_) fun h=>?_;exact lf h;refine iB 34 h (fun h=>?_) fun h=>?_;exact lf h;obtain⟨r3,h5,h⟩:=bS h;refine gG 43 (.cx false [(0,19)] [] (.tup [.d ((D.l X0.D) r3.1),dI r3.2]) []) (bCq h5) ?_;refine iB 47 h (fun h=>?_) fun h=>?_;exact lf h;refine xX 53 X6.D h fun x4 h=>?_;exact lf h
theorem aW5(h:Qt eV eY=some f8):AM Tryz.prog 90 [dI eV,dI eY] [] (dI f8) []:=by unfold Qt at h;apply g0 (o:=f8);refine iB 7 h (fun h=>?_) fun h=>?_;exact lf h;refine iB 10 h (fun h=>?_) fun h=>?_;refine iB 15 h (fun h=>?_) fun h=>?_;exact lf h;exact lf h;exact lf h
def ZN(us:List Value)(w0:List X3)(w3:X3)(s5:Int):St:=⟨sp 48 0 [rx 0,bx 3,sI 5 s5],[rW 0 46 2 X3.D w0,cL 3 X3.D w3,(997,.vals [] us)],[]⟩
def ZO(us:List Value)(w0:List X3)(w3:X3)(o:Int):Ex×St:=(.exit 0,⟨sp 48 0 [rx 0,bx 3,sI 5 o],[rW 0 46 2 X3.D w0,cL 3 X3.D w3,(997,.vals [] us)],[]⟩)
theorem aMn(rd:Option Nat)(us:List Value)(h:Mw eZ gV eV=some eY):Lq 46 rd 28 (ZN us eZ gV eV) ((ZO us eZ gV) eY):=
 lL (fun s:Int=>ZN us eZ gV s) (ZO us eZ gV) eV (fun eV o h=>by
 unfold FF at h
 refine iB 11 h (fun h=>?_) fun h=>?_
 obtain⟨h2,h⟩:=cS h
 refine gQ h2.1<|gQ (AI X3.D h2.2) ?_
 obtain⟨x1,h3,h⟩:=xS h
 refine gG 17 (.el (X3.D x1)) (AK X3.D h3) ?_
 obtain⟨r2,h4,h⟩:=bS h
 refine gQ (aLx h4) ?_
 cases r2
 replace h:=Bj h
 refine gW 18 (.ret (.d (D.b false))) ?_
 exact lb h
 replace h:=Bl h
 refine gW 18 (.ret (.d (D.b true))) ?_
 exact lb h
 exact lb h) h
theorem bCc(h:Yo gV eZ=some gY):AM Tryz.prog 46 [.row 0,.d (X3.D gV)] [rW 0 46 2 X3.D eZ] (.row 1) [rW 1 46 2 X3.D gY]:=by unfold Yo at h;refine XG.call (ks:=[]) mixed fun us=>?_;apply g0 (o:=gY);refine gN 8 X3.D eZ ?_;obtain⟨o3,h6,h⟩:=bS h;refine gl (aMn none us h6) ?_;refine iB 24 h (fun h=>?_) fun h=>?_;obtain⟨h8,h⟩:=cS h;refine gQ h8.1<|gQ (AI X3.D h8.2) ?_;obtain⟨x4,h9,h⟩:=xS h;refine gG 29 (.el (X3.D x4)) (AK X3.D h9) ?_;obtain⟨r5,h10,h⟩:=bS h;refine gQ (aWs h10) ?_;cases r5;replace h:=Bj h;refine gQ (Ag X3.D ([]:List X3))<|gW 31 (.ret (.d (D.b false)))<|gW 35 (.fzn 0)<|gW 37 (.sl ((sub eZ 0 o3).map X3.D))<|gW 38 (.rwl ((sub eZ 0 o3).map X3.D))<|gW 42 (.rwl (((sub eZ 0 o3)++[gV]).map X3.D))<|gW 46 (.sl ((sub eZ o3 (eZ.length:Int)).map X3.D))<|gW 47 (.rwl ((((sub eZ 0 o3)++[gV])++(sub eZ o3 (eZ.length:Int))).map X3.D)) ?_;obtain⟨h12,h⟩:=cS h;refine gQ (ED X3.D h12)<|gQ (Ag X3.D (sub eZ 0 o3)) ?_;obtain⟨h13,h⟩:=cS h;refine gQ (Ak X3.D h13)<|gQ (Ai X3.D ([]:List X3) (sub eZ 0 o3))<|gQ (Ag X3.D [gV])<|gQ (Ag X3.D [gV]) ?_;obtain⟨h14,h⟩:=cS h;refine gQ (Ak X3.D h14)<|gQ (Ai X3.D (sub eZ 0 o3) [gV]) ?_;obtain⟨h15,h⟩:=cS h;refine gQ (EC X3.D h15)<|gQ (Ag X3.D (sub eZ o3 (eZ.length:Int))) ?_;obtain⟨h16,h⟩:=cS h;refine gQ (Ak X3.D h16)<|gQ (Ai X3.D ((sub eZ 0 o3)++[gV]) (sub eZ o3 (eZ.length:Int))) ?_;exact lX h [.live [4],.keep [47,997],.ren 47 1,.sort];replace h:=Bl h;refine gW 31 (.ret (.d (D.b true))) ?_;exact lX h [.live [4],.keep [0,997],.ren 0 1,.sort];refine gQ (Ag X3.D ([]:List X3))<|gW 35 (.fzn 0)<|gW 37 (.sl ((sub eZ 0 o3).map X3.D))<|gW 38 (.rwl ((sub eZ 0 o3).map X3.D))<|gW 42 (.rwl (((sub eZ 0 o3)++[gV]).map X3.D))<|gW 46 (.sl ((sub eZ o3 (eZ.length:Int)).map X3.D))<|gW 47 (.rwl ((((sub eZ 0 o3)++[gV])++(sub eZ o3 (eZ.length:Int))).map X3.D)) ?_;obtain⟨h17,h⟩:=cS h;refine gQ (ED X3.D h17)<|gQ (Ag X3.D (sub eZ 0 o3)) ?_;obtain⟨h18,h⟩:=cS h;refine gQ (Ak X3.D h18)<|gQ (Ai X3.D ([]:List X3) (sub eZ 0 o3))<|gQ (Ag X3.D [gV])<|gQ (Ag X3.D [gV]) ?_;obtain⟨h19,h⟩:=cS h;refine gQ (Ak X3.D h19)<|gQ (Ai X3.D (sub eZ 0 o3) [gV]) ?_;obtain⟨h20,h⟩:=cS h;refine gQ (EC X3.D h20)<|gQ (Ag X3.D (sub eZ o3 (eZ.length:Int))) ?_;obtain⟨h21,h⟩:=cS h;refine gQ (Ak X3.D h21)<|gQ (Ai X3.D ((sub eZ 0 o3)++[gV]) (sub eZ o3 (eZ.length:Int))) ?_;exact lX h [.live [4],.keep [47,997],.ren 47 1,.sort]
theorem aHy(rd:Option Nat)(h:Vc fW eV eY f8 eT eW gV eZ gZ=some hU):Lq 89 rd 4007503 ⟨sp 89 0 [sD 2 (D.l Ad.D) fW,bx 3,bx 4,rx 8,sI 9 eV,sI 10 eY,sI 11 f8,bx 12,sD 64 D.b eT],[cL 3 AD.D eW,cL 4 X3.D gV,rW 8 46 2 X3.D eZ,cL 12 X3.D gZ],[]⟩ (.normal,⟨sp 89 0 [sD 2 (D.l Ad.D) fW,bx 3,bx 4,rx 8,sI 9 eV,sI 10 eY,sI 11 f8],[cL 3 AD.D eW,cL 4 X3.D gV,rW 8 46 2 X3.D hU],[]⟩):=by unfold Vc at h;apply g0 (o:=hU);cases eT;replace h:=Bj h;exact lp h;replace h:=Bl h;obtain⟨r7,h12,h⟩:=bS h;refine gG 67 (.cx false [(0,8)] [(1,67)] (.row 1) [rW 1 46 2 X3.D r7]) (bCc h12) ?_;exact lP h [.live [2,3,4,8,9,10,11],.keep [3,4,67],.ren 67 8,.sort]
theorem aHx(rd:Option Nat)(h:Vb fW eV eY f8 eW gV eZ=some hZ):Lq 89 rd 125234 ⟨sp 89 0 [sD 2 (D.l Ad.D) fW,bx 3,bx 4,rx 8,sI 9 eV,sI 10 eY,sI 11 f8],[cL 3 AD.D eW,cL 4 X3.D gV,rW 8 46 2 X3.D eZ],[]⟩ (.normal,⟨sp 89 0 [sD 2 (D.l Ad.D) fW,bx 3,bx 4,rx 8,sI 9 hZ.1,sI 10 eY,sI 11 f8],[cL 3 AD.D eW,cL 4 X3.D gV,rW 8 46 2 X3.D hZ.2],[]⟩):=by unfold Vb at h;apply g0 (o:=hZ);refine xX 39 Ad.D h fun x2 h=>?_;refine xX 45 X6.D h fun x3 h=>?_;refine iB 48 h (fun h=>?_) fun h=>?_;exact lp h;refine xX 55 Ad.D h fun x4 h=>?_;obtain⟨r5,h9,h⟩:=bS h;refine gC 57 (aZ7 h9) ?_;obtain⟨r6,h10,h⟩:=bS h;refine gC 63 (aW5 h10) ?_;obtain⟨o8,h13,h⟩:=bS h;refine gl (aHy rd h13) ?_;exact lp h
def Vf(s2:List Ad)(s10:Int)(w3:AD)(w4:X3)(s9 s11:Int)(w8:List X3):St:=⟨sp 89 0 [sD 2 (D.l Ad.D) s2,bx 3,bx 4,rx 8,sI 9 s9,sI 10 s10,sI 11 s11],[cL 3 AD.D w3,cL 4 X3.D w4,rW 8 46 2 X3.D w8],[]⟩
def Vg(s2:List Ad)(s10:Int)(w3:AD)(w4:X3)(o:(Int×List X3)):Ex×St:=(.exit 2,⟨sp 89 0 [sD 2 (D.l Ad.D) s2,bx 3,bx 4,rx 8,sI 9 o.1,sI 10 s10],[cL 3 AD.D w3,cL 4 X3.D w4,rW 8 46 2 X3.D o.2],[]⟩)
theorem aH2(rd:Option Nat)(h:aH1 fW eV eW gV eY f8 eZ=some hZ):Lq 89 rd 15654 (Vf fW eV eW gV eY f8 eZ) ((Vg fW eV eW gV) hZ):=
 lL (fun s:Int×Int×List X3=>Vf fW eV eW gV s.1 s.2.1 s.2.2) (Vg fW eV eW gV) (eY,f8,eZ) (fun⟨eY,f8,eZ⟩ o h=>by
 unfold E6 at h
 refine gN 33 Ad.D fW ?_
 refine iB 34 h (fun h=>?_) fun h=>?_
 obtain⟨o9,h14,h⟩:=bS h
 refine gl (aHx rd h14) ?_
 exact lb h
 exact lb h) h
theorem aHw(rd:Option Nat)(h:Va fW eV eY eW gV eZ=some hZ):Lq 89 rd 978 ⟨sp 89 0 [sD 2 (D.l Ad.D) fW,bx 3,bx 4,rx 8,sI 9 eV,sI 10 eY],[cL 3 AD.D eW,cL 4 X3.D gV,rW 8 46 2 X3.D eZ],[]⟩ (.normal,⟨sp 89 0 [sD 2 (D.l Ad.D) fW,bx 3,bx 4,rx 8,sI 9 hZ.1,sI 10 eY],[cL 3 AD.D eW,cL 4 X3.D gV,rW 8 46 2 X3.D hZ.2],[]⟩):=by unfold Va at h;apply g0 (o:=hZ);refine xX 25 X6.D h fun x1 h=>?_;refine iB 30 h (fun h=>?_) fun h=>?_;exact lp h;obtain⟨o10,h15,h⟩:=bS h;refine gl (aH2 rd h15) ?_;exact lp h
def Vd(s2:List Ad)(w3:AD)(w4:X3)(s9 s10:Int)(w8:List X3):St:=⟨sp 89 0 [sD 2 (D.l Ad.D) s2,bx 3,bx 4,rx 8,sI 9 s9,sI 10 s10],[cL 3 AD.D w3,cL 4 X3.D w4,rW 8 46 2 X3.D w8],[]⟩
def Ve(s2:List Ad)(w3:AD)(w4:X3)(o:(Int×List X3)):Ex×St:=(.exit 0,⟨sp 89 0 [bx 3,bx 4,rx 8,sI 9 o.1],[cL 3 AD.D w3,cL 4 X3.D w4,rW 8 46 2 X3.D o.2],[]⟩)
theorem aH0(rd:Option Nat)(h:aHz fW eW gV eV eY eZ=some hZ):Lq 89 rd 122 (Vd fW eW gV eV eY eZ) ((Ve fW eW gV) hZ):=
 lL (fun s:Int×Int×List X3=>Vd fW eW gV s.1 s.2.1 s.2.2) (Ve fW eW gV) (eV,eY,eZ) (fun⟨eV,eY,eZ⟩ o h=>by
 unfold E5 at h
 refine gN 18 X6.D eW.trans ?_
 refine iB 19 h (fun h=>?_) fun h=>?_
 obtain⟨o11,h16,h⟩:=bS h
 refine gl (aHw rd h16) ?_
 exact lb h
 exact lb h) h
theorem Ps(rd:Option Nat)(h:R8 eT gV eZ=some hU):Lq 89 rd 253 ⟨sp 89 0 [bx 4,rx 8,sD 83 D.b eT],[cL 4 X3.D gV,rW 8 46 2 X3.D eZ],[]⟩ (.normal,⟨sp 89 0 [rx 8],[rW 8 46 2 X3.D hU],[]⟩):=by unfold R8 at h;apply g0 (o:=hU);cases eT;replace h:=Bj h;exact lp h;replace h:=Bl h;refine gQ (Ag X3.D [gV])<|gG 87 (.rwl ((eZ++[gV]).map X3.D)) (Ag X3.D [gV]) ?_;obtain⟨h22,h⟩:=cS h;refine gQ (Ak X3.D h22)<|gQ (Ai X3.D eZ [gV]) ?_;exact lP h [.live [8],.keep [87],.ren 87 8,.sort]
theorem bBa(h:Xg eW gV fW=some i4):AM Tryz.prog 89 [.d (AD.D eW),.d (X3.D gV),.d ((D.l Ad.D) fW)] [] (.tup [.d ((D.l X3.D) i4.1),dI i4.2]) []:=by unfold Xg at h;apply g0 (o:=i4);obtain⟨o12,h17,h⟩:=bS h;refine gL [.live [2,3,4,8,9,10],.keep [3,4],.nilw 8 8 46 2,.sort] (aH0 none h17) ?_;refine iB 69 h (fun h=>?_) fun h=>?_;exact lf h;refine gN 72 X3.D o12.2 ?_;refine iB 74 h (fun h=>?_) fun h=>?_;refine xX 79 Xc.D h fun x13 h=>?_;obtain⟨o14,h23,h⟩:=bS h;refine gl (Ps none h23) ?_;exact lF h [.frz 8];obtain⟨o15,h24,h⟩:=bS h;refine gl (Ps none h24) ?_;exact lF h [.frz 8]
def Wp(s1:List X3)(s2:List Ad)(s9 s10:Int)(s11:List X3)(w3:AD)(s8:List X3)(s13:Int):St:=⟨sp 56 0 [sD 1 (D.l X3.D) s1,sD 2 (D.l Ad.D) s2,bx 3,sD 8 (D.l X3.D) s8,sI 9 s9,sI 10 s10,sD 11 (D.l X3.D) s11,sI 13 s13],[cL 3 AD.D w3],[]⟩
def Wq(s1:List X3)(s2:List Ad)(s9 s10:Int)(s11:List X3)(w3:AD)(o:(List X3)):Ex×St:=(.exit 2,⟨sp 56 0 [sD 1 (D.l X3.D) s1,sD 2 (D.l Ad.D) s2,bx 3,sD 8 (D.l X3.D) o,sI 9 s9,sI 10 s10],[cL 3 AD.D w3],[]⟩)
theorem aJq(rd:Option Nat)(h:aJp eZ fW eV eY gY eW i5 f8=some hU):Lq 65 rd 31310 (Wp eZ fW eV eY gY eW i5 f8) ((Wq eZ fW eV eY gY eW) hU):=
 lL (fun s:List X3×Int=>Wp eZ fW eV eY gY eW s.1 s.2) (Wq eZ fW eV eY gY eW) (i5,f8) (fun⟨i5,f8⟩ o h=>by
 unfold E8 at h
 refine gN 35 X3.D gY ?_
 refine iB 36 h (fun h=>?_) fun h=>?_
 refine xX 42 X3.D h fun x12 h=>?_
 obtain⟨r13,h18,h⟩:=bS h
 refine gC 44 (aXt h18) ?_
 exact lb h
 exact lb h) h
def Wn(s1:List X3)(s2:List Ad)(w3:AD)(s8:List X3)(s9 s10:Int):St:=⟨sp 56 0 [sD 1 (D.l X3.D) s1,sD 2 (D.l Ad.D) s2,bx 3,sD 8 (D.l X3.D) s8,sI 9 s9,sI 10 s10],[cL 3 AD.D w3],[]⟩
def Wo(s1:List X3)(s2:List Ad)(w3:AD)(o:(List X3×Int)):Ex×St:=(.exit 0,⟨sp 56 0 [sD 8 (D.l X3.D) o.1,sI 9 o.2],[],[]⟩)
theorem aJo(rd:Option Nat)(h:aJn eZ fW eW gY eV eY=some i6):Lq 65 rd 122 (Wn eZ fW eW gY eV eY) ((Wo eZ fW eW) i6):=
 lL (fun s:List X3×Int×Int=>Wn eZ fW eW s.1 s.2.1 s.2.2) (Wo eZ fW eW) (gY,eV,eY) (fun⟨gY,eV,eY⟩ o h=>by
 unfold E7 at h
 refine gN 16 X3.D eZ ?_
 refine iB 17 h (fun h=>?_) fun h=>?_
 refine xX 24 X3.D h fun x9 h=>?_
 obtain⟨r10,h14,h⟩:=bS h
 refine gC 27 (bBa h14) ?_
 obtain⟨r11,h15,h⟩:=bS h
 refine gC 32 (aW5 h15) ?_
 obtain⟨o14,h19,h⟩:=bS h
 refine gl (aJq rd h19) ?_
 exact lb h
 exact lb h) h
theorem P7(rd:Option Nat)(h:OX eZ eV eT=some eY):Lq 65 rd 125 ⟨sp 56 0 [sD 8 (D.l X3.D) eZ,sI 9 eV,sD 51 D.b eT],[],[]⟩ (.normal,⟨sp 56 0 [sD 8 (D.l X3.D) eZ,sI 9 eY],[],[]⟩):=by unfold OX at h;apply g0 (o:=eY);cases eT;replace h:=Bj h;exact lp h;replace h:=Bl h;exact lp h
theorem bBo(h:Xt eW eZ fW=some i4):AM Tryz.prog 65 [.d (AD.D eW),.d ((D.l X3.D) eZ),.d ((D.l Ad.D) fW)] [] (.tup [.d ((D.l X3.D) i4.1),dI i4.2]) []:=by unfold Xt at h;apply g0 (o:=i4);obtain⟨o15,h20,h⟩:=bS h;refine gL [.look 8,.live [1,2,3,8,9,10],.keep [3]] (aJo none h20) ?_;refine iB 47 h (fun h=>?_) fun h=>?_;refine gN 49 X3.D o15.1 ?_;obtain⟨o16,h23,h⟩:=bS h;refine gl (P7 none h23) ?_;refine iB 53 h (fun h=>?_) fun h=>?_;exact lf h;exact lf h;obtain⟨o17,h25,h⟩:=bS h;refine gl (P7 none h25) ?_;refine iB 53 h (fun h=>?_) fun h=>?_;exact lf h;exact lf h
theorem aWv(h:Qg eW fH eZ fQ=some i4):AM Tryz.prog 33 [.d (AD.D eW),.d ((D.l X2.D) fH),.d ((D.l X3.D) eZ),.d (X4.D fQ)] [] (.tup [.d ((D.l X3.D) i4.1),dI i4.2]) []:=by unfold Qg at h;apply g0 (o:=i4);obtain⟨r1,h1,h⟩:=bS h;refine gC 13 (aXw h1) ?_;obtain⟨r2,h2,h⟩:=bS h;refine gC 15 (aXy h2)<|gN 17 Ad.D r2 ?_;refine iB 18 h (fun h=>?_) fun h=>?_;exact lf h;obtain⟨r3,h4,h⟩:=bS h;refine gC 23 (bBo h4) ?_;exact lf h
def UG(s1:List X2)(s2:List X3)(s3:List X4)(s9:Bool)(w4:AD)(s10:Int):St:=⟨sp 234 0 [sD 1 (D.l X2.D) s1,sD 2 (D.l X3.D) s2,sD 3 (D.l X4.D) s3,bx 4,sD 9 D.b s9,sI 10 s10],[cL 4 AD.D w4],[]⟩
def UH(s1:List X2)(s2:List X3)(s3:List X4)(s9:Bool)(w4:AD)(o:Unit⊕Bool):Ex×St:=match o with
 | .inl o=>(.exit 0,⟨sp 234 0 [sD 1 (D.l X2.D) s1,sD 2 (D.l X3.D) s2,sD 3 (D.l X4.D) s3,bx 4,sD 9 D.b s9],[cL 4 AD.D w4],[]⟩)
 | .inr o=>(.ret,⟨sp 234 0 [sD 8 D.b o],[],[]⟩)
theorem Pk(rd:Option Nat)(h:aG0 fH eZ fI eT eW eV=some i7):Lq 6 rd 250 (UG fH eZ fI eT eW eV) ((UH fH eZ fI eT eW) i7):=
 lL (fun s:Int=>UG fH eZ fI eT eW s) (UH fH eZ fI eT eW) eV (fun eV o h=>by
 unfold IO at h
 refine gN 58 X2.D fH ?_
 refine iB 59 h (fun h=>?_) fun h=>?_
 refine xX 64 X2.D h fun x10 h=>?_
 refine gG 68 (.int (x10.value.str.length:Int)) (CZ x10.value.str) ?_
 refine iB 70 h (fun h=>?_) fun h=>?_
 obtain⟨r11,h20,h⟩:=bS h
 refine gC 108 (Eu h20) ?_
 exact lb h
 refine xX 73 X2.D h fun x12 h=>?_
 refine iB 78 h (fun h=>?_) fun h=>?_
 obtain⟨r13,h23,h⟩:=bS h
 refine gC 108 (Eu h23) ?_
 exact lb h
 refine gW 86 (.int (eW.quants.length:Int))<|xX 81 X2.D h fun x14 h=>?_
 refine gQ (EN Yg.D eW.quants) ?_
 refine iB 89 h (fun h=>?_) fun h=>?_
 obtain⟨r15,h26,h⟩:=bS h
 refine gC 108 (Eu h26) ?_
 exact lb h
 refine xX 92 X2.D h fun x16 h=>?_
 refine xX 100 X2.D h fun x17 h=>?_
 refine xX 103 Yg.D h fun x18 h=>?_
 refine iB 107 h (fun h=>?_) fun h=>?_
 obtain⟨r19,h31,h⟩:=bS h
 refine gC 108 (Eu h31) ?_
 exact lb h
 exact lb h
 exact lb h) h
def UI(s1:List X2)(s2:List X3)(s3:List X4)(s9:Bool)(w4:AD)(s11:Int):St:=⟨sp 234 0 [sD 1 (D.l X2.D) s1,sD 2 (D.l X3.D) s2,sD 3 (D.l X4.D) s3,bx 4,sD 9 D.b s9,sI 11 s11],[cL 4 AD.D w4],[]⟩
def UJ(s1:List X2)(s2:List X3)(s3:List X4)(s9:Bool)(w4:AD)(o:Unit⊕Bool):Ex×St:=match o with
 | .inl o=>(.exit 2,⟨sp 234 0 [sD 1 (D.l X2.D) s1,sD 2 (D.l X3.D) s2,sD 3 (D.l X4.D) s3,bx 4,sD 9 D.b s9],[cL 4 AD.D w4],[]⟩)
 | .inr o=>(.ret,⟨sp 234 0 [sD 8 D.b o],[],[]⟩)
theorem Pl(rd:Option Nat)(h:aG1 fH eZ fI eT eW eV=some i7):Lq 6 rd 506 (UI fH eZ fI eT eW eV) ((UJ fH eZ fI eT eW) i7):=
 lL (fun s:Int=>UI fH eZ fI eT eW s) (UJ fH eZ fI eT eW) eV (fun eV o h=>by
 unfold IP at h
 refine gN 111 X3.D eZ ?_
 refine iB 112 h (fun h=>?_) fun h=>?_
 refine xX 118 X3.D h fun x23 h=>?_
 obtain⟨r24,h35,h⟩:=bS h
 refine gC 120 (bAj h35) ?_
 refine iB 121 h (fun h=>?_) fun h=>?_
 obtain⟨r25,h37,h⟩:=bS h
 refine gC 122 (Eu h37) ?_
 exact lb h
 exact lb h
 exact lb h) h
def UM(s1:List X2)(s2:List X3)(s3:List X4)(s9:Bool)(s12:Int)(w4:AD)(s13:Int):St:=⟨sp 234 0 [sD 1 (D.l X2.D) s1,sD 2 (D.l X3.D) s2,sD 3 (D.l X4.D) s3,bx 4,sD 9 D.b s9,sI 12 s12,sI 13 s13],[cL 4 AD.D w4],[]⟩
def UN(s1:List X2)(s2:List X3)(s3:List X4)(s9:Bool)(s12:Int)(w4:AD)(o:Unit⊕Bool):Ex×St:=match o with
 | .inl o=>(.exit 6,⟨sp 234 0 [sD 1 (D.l X2.D) s1,sD 2 (D.l X3.D) s2,sD 3 (D.l X4.D) s3,bx 4,sD 9 D.b s9,sI 12 s12],[cL 4 AD.D w4],[]⟩)
 | .inr o=>(.ret,⟨sp 234 0 [sD 8 D.b o],[],[]⟩)
theorem aG3(rd:Option Nat)(h:aSb fH eZ fI eT eV eW eY=some i7):Lq 6 rd 130342 (UM fH eZ fI eT eV eW eY) ((UN fH eZ fI eT eV eW) i7):=
 lL (fun s:Int=>UM fH eZ fI eT eV eW s) (UN fH eZ fI eT eV eW) eY (fun eY o h=>by
 unfold IR at h
 refine xX 141 X4.D h fun x32 h=>?_
 refine gN 144 X0.D x32.args ?_
 refine iB 145 h (fun h=>?_) fun h=>?_
 refine xX 150 X4.D h fun x33 h=>?_
 refine xX 154 X0.D h fun x34 h=>?_
 refine gG 157 (.int (x34.str.length:Int)) (CZ x34.str) ?_
 refine iB 158 h (fun h=>?_) fun h=>?_
 obtain⟨r35,h49,h⟩:=bS h
 refine gC 159 (Eu h49) ?_
 exact lb h
 exact lb h
 exact lb h) h
def UK(s1:List X2)(s2:List X3)(s3:List X4)(s9:Bool)(w4:AD)(s12:Int):St:=⟨sp 234 0 [sD 1 (D.l X2.D) s1,sD 2 (D.l X3.D) s2,sD 3 (D.l X4.D) s3,bx 4,sD 9 D.b s9,sI 12 s12],[cL 4 AD.D w4],[]⟩
def UL(s1:List X2)(s2:List X3)(s3:List X4)(s9:Bool)(w4:AD)(o:Unit⊕Bool):Ex×St:=match o with
 | .inl o=>(.exit 4,⟨sp 234 0 [sD 1 (D.l X2.D) s1,sD 2 (D.l X3.D) s2,sD 3 (D.l X4.D) s3,bx 4,sD 9 D.b s9],[cL 4 AD.D w4],[]⟩)
 | .inr o=>(.ret,⟨sp 234 0 [sD 8 D.b o],[],[]⟩)
theorem Pn(rd:Option Nat)(h:aG2 fH eZ fI eT eW eV=some i7):Lq 6 rd 1018 (UK fH eZ fI eT eW eV) ((UL fH eZ fI eT eW) i7):=
 lL (fun s:Int=>UK fH eZ fI eT eW s) (UL fH eZ fI eT eW) eV (fun eV o h=>by
 unfold IQ at h
 refine gN 125 X4.D fI ?_
 refine iB 126 h (fun h=>?_) fun h=>?_
 refine xX 133 X4.D h fun x29 h=>?_
 obtain⟨r30,h41,h⟩:=bS h
 refine gC 135 (bC0 h41) ?_
 refine iB 136 h (fun h=>?_) fun h=>?_
 obtain⟨r31,h43,h⟩:=bS h
 refine gC 137 (Eu h43) ?_
 exact lb h
 obtain⟨o36,h50,h⟩:=bS h
 refine gl (aG3 rd h50) ?_
 replace h:=AJ h
 rcases h with⟨o37,rfl,h⟩|⟨o38,rfl,h⟩
 exact lb h
 exact lb h
 exact lb h) h
theorem Pj(rd:Option Nat)(h:R4 fH eZ fI eT eV eY eU eW=some f8):Lq 6 rd 8189 ⟨sp 234 0 [sD 1 (D.l X2.D) fH,sD 2 (D.l X3.D) eZ,sD 3 (D.l X4.D) fI,bx 4,sD 9 D.b eT,sI 14 eV,sI 15 eY,sD 169 D.b eU],[cL 4 AD.D eW],[]⟩ (.normal,⟨sp 234 0 [sD 1 (D.l X2.D) fH,sD 2 (D.l X3.D) eZ,sD 3 (D.l X4.D) fI,bx 4,sD 9 D.b eT,sI 14 eV,sI 15 f8],[cL 4 AD.D eW],[]⟩):=by unfold R4 at h;apply g0 (o:=f8);cases eU;replace h:=Bj h;exact lp h;replace h:=Bl h;obtain⟨r45,h56,h⟩:=bS h;refine gC 173 (aAf h56) ?_;obtain⟨r46,h57,h⟩:=bS h;refine gC 174 (bCb h57) ?_;exact lp h
def UO(s1:List X2)(s3:List X4)(s14:Int)(w4:AD)(s2:List X3)(s16:Int):St:=⟨sp 234 0 [sD 1 (D.l X2.D) s1,sD 2 (D.l X3.D) s2,sD 3 (D.l X4.D) s3,bx 4,sI 14 s14,sI 16 s16],[cL 4 AD.D w4],[]⟩
def UP(s1:List X2)(s3:List X4)(s14:Int)(w4:AD)(o:Unit⊕Unit):Ex×St:=match o with
 | .inl o=>(.exit 8,⟨sp 234 0 [],[],[]⟩)
 | .inr o=>(.ret,⟨sp 234 0 [sD 8 D.b false],[],[]⟩)
theorem FW(rd:Option Nat)(h:LX fH fI eV eW eZ eY=some fM):Lq 6 rd 131066 (UO fH fI eV eW eZ eY) ((UP fH fI eV eW) fM):=
 lL (fun s:List X3×Int=>UO fH fI eV eW s.1 s.2) (UP fH fI eV eW) (eZ,eY) (fun⟨eZ,eY⟩ o h=>by
 unfold LY at h
 refine gN 201 X4.D fI ?_
 refine iB 202 h (fun h=>?_) fun h=>?_
 refine iB 207 h (fun h=>?_) fun h=>?_
 obtain⟨r52,h70,h⟩:=bS h
 refine gC 210 (bC5 h70) ?_
 refine iB 214 h (fun h=>?_) fun h=>?_
 exact lb h
 refine gN 217 X4.D fI ?_
 refine iB 218 h (fun h=>?_) fun h=>?_
 exact lb h
 refine xX 225 X4.D h fun x53 h=>?_
 obtain⟨r54,h74,h⟩:=bS h
 refine gC 227 (aWv h74) ?_
 refine iB 231 h (fun h=>?_) fun h=>?_
 exact lb h
 exact lb h
 refine gN 217 X4.D fI ?_
 refine iB 218 h (fun h=>?_) fun h=>?_
 exact lb h
 refine xX 225 X4.D h fun x55 h=>?_
 obtain⟨r56,h78,h⟩:=bS h
 refine gC 227 (aWv h78) ?_
 refine iB 231 h (fun h=>?_) fun h=>?_
 exact lb h
 exact lb h
 exact lb h) h
theorem bA3(h:X9 eW fH eZ fI=some eT):AM Tryz.prog 6 [.d (AD.D eW),.d ((D.l X2.D) fH),.d ((D.l X3.D) eZ),.d ((D.l X4.D) fI)] [] (.d (D.b eT)) []:=by
 unfold X9 at h;apply g0 (o:=eT);obtain⟨r1,h1,h⟩:=bS h;refine gC 20 (bC7 h1) ?_;refine iB 22 h (fun h=>?_) fun h=>?_;obtain⟨r2,h3,h⟩:=bS h;refine gC 37 (Eu h3) ?_;exact lf h;refine gN 24 X3.D eZ ?_;refine iB 27 h (fun h=>?_) fun h=>?_;obtain⟨r3,h5,h⟩:=bS h;refine gC 37 (Eu h5) ?_;exact lf h;refine gN 29 X4.D fI ?_;refine iB 32 h (fun h=>?_) fun h=>?_;obtain⟨r4,h7,h⟩:=bS h;refine gC 37 (Eu h7) ?_;exact lf h;refine gN 34 X2.D fH ?_;refine iB 36 h (fun h=>?_) fun h=>?_;obtain⟨r5,h9,h⟩:=bS h;refine gC 37 (Eu h9) ?_;exact lf h;obtain⟨r6,h10,h⟩:=bS h;refine gQ (bCh h10) ?_;cases r6;replace h:=Bj h;refine gW 39 (.ret (.d (D.b false))) ?_;obtain⟨o69,h86,h⟩:=bS h;refine gl (Pk none h86) ?_;replace h:=AJ h;rcases h with⟨o70,rfl,h⟩|⟨o71,rfl,h⟩
 obtain⟨o72,h87,h⟩:=bS h;refine gl (Pl none h87) ?_;replace h:=AJ h;rcases h with⟨o73,rfl,h⟩|⟨o74,rfl,h⟩
 obtain⟨o75,h88,h⟩:=bS h;refine gl (Pn none h88) ?_;replace h:=AJ h;rcases h with⟨o76,rfl,h⟩|⟨o77,rfl,h⟩
 obtain⟨r78,h89,h⟩:=bS h;refine gC 161 (aX9 h89) ?_;obtain⟨r79,h90,h⟩:=bS h;refine gC 165 (aW1 h90) ?_;obtain⟨r80,h91,h⟩:=bS h;refine gC 168 (aX2 h91) ?_;obtain⟨o81,h92,h⟩:=bS h;refine gl (Pj none h92) ?_;refine iB 177 h (fun h=>?_) fun h=>?_;exact lf h;refine iB 179 h (fun h=>?_) fun h=>?_;refine iB 183 h (fun h=>?_) fun h=>?_;obtain⟨r82,h96,h⟩:=bS h;refine gC 187 (aAf h96) ?_;obtain⟨r83,h97,h⟩:=bS h;refine gC 188 (aJx h97) ?_;refine iB 190 h (fun h=>?_) fun h=>?_;exact lf h;obtain⟨r84,h99,h⟩:=bS h;refine gC 194 (aAf h99) ?_;obtain⟨r85,h100,h⟩:=bS h;refine gC 195 (aJx h100) ?_;refine iB 198 h (fun h=>?_) fun h=>?_;exact lf h;obtain⟨o86,h102,h⟩:=bS h;refine gl (FW none h102) ?_;replace h:=AJ h;rcases h with⟨o87,rfl,h⟩|⟨o88,rfl,h⟩
 obtain⟨r89,h103,h⟩:=bS h;refine gC 233 (Eu h103) ?_;exact lf h;exact lf h;obtain⟨o90,h104,h⟩:=bS h;refine gl (FW none h104) ?_;replace h:=AJ h;rcases h with⟨o91,rfl,h⟩|⟨o92,rfl,h⟩
 obtain⟨r93,h105,h⟩:=bS h;refine gC 233 (Eu h105) ?_;exact lf h;exact lf h;obtain⟨o94,h106,h⟩:=bS h;refine gl (FW none h106) ?_;replace h:=AJ h;rcases h with⟨o95,rfl,h⟩|⟨o96,rfl,h⟩
 obtain⟨r97,h107,h⟩:=bS h;refine gC 233 (Eu h107) ?_;exact lf h;exact lf h;exact lf h;exact lf h;exact lf h;replace h:=Bl h;refine gW 39 (.ret (.d (D.b true))) ?_;obtain⟨r7,h12,h⟩:=bS h;refine gC 44 (aZ3 h12) ?_;refine iB 46 h (fun h=>?_) fun h=>?_;obtain⟨r8,h14,h⟩:=bS h;refine gC 55 (Eu h14) ?_;exact lf h;refine gN 48 X2.D fH<|gN 51 Yg.D eW.quants ?_;refine iB 54 h (fun h=>?_) fun h=>?_;obtain⟨r9,h16,h⟩:=bS h;refine gC 55 (Eu h16) ?_;exact lf h;obtain⟨o20,h32,h⟩:=bS h;refine gl (Pk none h32) ?_;replace h:=AJ h;rcases h with⟨o21,rfl,h⟩|⟨o22,rfl,h⟩
 obtain⟨o26,h38,h⟩:=bS h;refine gl (Pl none h38) ?_;replace h:=AJ h;rcases h with⟨o27,rfl,h⟩|⟨o28,rfl,h⟩
 obtain⟨o39,h51,h⟩:=bS h;refine gl (Pn none h51) ?_;replace h:=AJ h;rcases h with⟨o40,rfl,h⟩|⟨o41,rfl,h⟩
 obtain⟨r42,h52,h⟩:=bS h;refine gC 161 (aX9 h52) ?_;obtain⟨r43,h53,h⟩:=bS h;refine gC 165 (aW1 h53) ?_;obtain⟨r44,h54,h⟩:=bS h;refine gC 168 (aX2 h54) ?_;obtain⟨o47,h58,h⟩:=bS h;refine gl (Pj none h58) ?_;refine iB 177 h (fun h=>?_) fun h=>?_;exact lf h;refine iB 179 h (fun h=>?_) fun h=>?_;refine iB 183 h (fun h=>?_) fun h=>?_;obtain⟨r48,h62,h⟩:=bS h;refine gC 187 (aAf h62) ?_;obtain⟨r49,h63,h⟩:=bS h;refine gC 188 (aJx h63) ?_;refine iB 190 h (fun h=>?_) fun h=>?_;exact lf h;obtain⟨r50,h65,h⟩:=bS h;refine gC 194 (aAf h65) ?_;obtain⟨r51,h66,h⟩:=bS h;refine gC 195 (aJx h66) ?_;refine iB 198 h (fun h=>?_) fun h=>?_;exact lf h;obtain⟨o57,h80,h⟩:=bS h;refine gl (FW none h80) ?_;replace h:=AJ h;rcases h with⟨o58,rfl,h⟩|⟨o59,rfl,h⟩
 obtain⟨r60,h81,h⟩:=bS h;refine gC 233 (Eu h81) ?_;exact lf h;exact lf h;obtain⟨o61,h82,h⟩:=bS h;refine gl (FW none h82) ?_;replace h:=AJ h;rcases h with⟨o62,rfl,h⟩|⟨o63,rfl,h⟩
 obtain⟨r64,h83,h⟩:=bS h;refine gC 233 (Eu h83) ?_;exact lf h;exact lf h;obtain⟨o65,h84,h⟩:=bS h;refine gl (FW none h84) ?_;replace h:=AJ h;rcases h with⟨o66,rfl,h⟩|⟨o67,rfl,h⟩
 obtain⟨r68,h85,h⟩:=bS h;refine gC 233 (Eu h85) ?_;exact lf h;exact lf h;exact lf h;exact lf h;exact lf h
end Go.Ac
