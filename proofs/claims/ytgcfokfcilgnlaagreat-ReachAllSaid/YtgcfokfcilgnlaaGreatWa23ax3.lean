/- Own work, printed: the functions compute these. -/
import Derived.Test.YtgcfokfcilgnlaaGreatWa23ax2
set_option linter.unusedVariables false
set_option linter.unusedSimpArgs false
namespace Go.Ac
open Go.Proofs
variable {eF:AD}
variable {eG eN f0 fK fL fM fO:Int}
variable {eH eR eU:List X2}
variable {eI eK:List X0}
variable {eL:List X8}
variable {eM eX:X0}
variable {eO:Unit⊕X0}
variable {eQ:X0×Bool}
variable {eS:Unit⊕Unit}
variable {eT eW:Bool}
variable {eV:(List X2)}
variable {eY:X2}
variable {eZ:X8}
variable {f8:X3}
variable {f9:Ao}
variable {fA:CE}
variable {fB:(List X2)⊕Unit}
variable {fC:(List X2×List X2)⊕Unit}
variable {fD:Ao×Bool}
variable {fE fG:List Ao}
variable {fF:(List Ao)}
variable {fH fI:List Int}
variable {fJ:(List Int)}
variable {fN:Xc}
theorem aDu(rd:Option Nat)(self:AD->Int->(List X2)->(List X0)->(List X0)->Option (List X8))(hs: ∀(a0:AD) (a1:Int) (a2:List X2) (a3 a4:List X0) (r:List X8),self a0 a1 a2 a3 a4=some r->AL Tryz.prog 54 [.d (AD.D a0),dI a1,.d ((D.l X2.D) a2),.d ((D.l X0.D) a3),.d ((D.l X0.D) a4)] [] (.d ((D.l X8.D) r)) []){s1:Int}{s2:List X2}{s3 s4 s12:List X0}{w5:AD}{s13:Int}{w11:List X8}{t:(List X8)}(h:aKf self s1 s2 s3 s4 s12 w5 s13 w11=some t):Lq 54 rd 250 (UT s1 s2 s3 s4 s12 w5 s13 w11) ((UU s1 s2 s3 s4 s12 w5) t):=
 lL (fun s:Int×List X8=>UT s1 s2 s3 s4 s12 w5 s.1 s.2) (UU s1 s2 s3 s4 s12 w5) (s13,w11) (fun⟨s13,w11⟩ o h=>by
 unfold IF at h
 refine gN 50 X0.D s12 ?_
 refine iB 51 h (fun h=> ?_) fun h=> ?_
 refine gQ (Ar X0.D ([]:List X0))<|gG 56 (.sl ((([]:List X0)++s4).map X0.D)) (Ar X0.D s4) ?_
 obtain⟨h14,h⟩:=cS h
 refine gQ (A6 X0.D h14)<|gQ (A5 X0.D ([]:List X0) s4)<|xX 59 X0.D h fun x8 h=> ?_
 refine gQ (Ar X0.D [x8])<|gG 62 (.sl (((([]:List X0)++s4)++[x8]).map X0.D)) (Ar X0.D [x8]) ?_
 obtain⟨h16,h⟩:=cS h
 refine gQ (A6 X0.D h16)<|gQ (A5 X0.D (([]:List X0)++s4) [x8]) ?_
 obtain⟨r9,h17,h⟩:=bS h
 refine gG 69 (.ret (.d ((D.l X8.D) r9))) (hs w5 s1 s2 s3 ((([]:List X0)++s4)++[x8]) r9 h17)<|gG 70 (.sl ((w11++r9).map X8.D)) (Ar X8.D r9) ?_
 obtain⟨h18,h⟩:=cS h
 refine gQ (A6 X8.D h18)<|gQ (A5 X8.D w11 r9) ?_
 exact lB h [.live [1,2,3,4,5,11,12,13],.keep [5,70],.ren 70 11,.sort]
 exact lb h) h
theorem aKe(self:AD->Int->(List X2)->(List X0)->(List X0)->Option (List X8))(hs: ∀(a0:AD) (a1:Int) (a2:List X2) (a3 a4:List X0) (r:List X8),self a0 a1 a2 a3 a4=some r->AL Tryz.prog 54 [.d (AD.D a0),dI a1,.d ((D.l X2.D) a2),.d ((D.l X0.D) a3),.d ((D.l X0.D) a4)] [] (.d ((D.l X8.D) r)) [])(a0:AD)(a1:Int)(a2:List X2)(a3 a4:List X0)(r:List X8)(h:aN8 self a0 a1 a2 a3 a4=some r):AL Tryz.prog 54 [.d (AD.D a0),dI a1,.d ((D.l X2.D) a2),.d ((D.l X0.D) a3),.d ((D.l X0.D) a4)] [] (.d ((D.l X8.D) r)) []:=by unfold aN8 at h;apply g0 (o:=r);refine gN 16 X0.D a4<|xX 20 Xd.D h fun x1 h=> ?_;refine gN 23 dZ x1.types ?_;refine iB 24 h (fun h=> ?_) fun h=> ?_;refine xX 28 Xd.D h fun x2 h=> ?_;refine gQ (Ar X8.D [X8.mk x2.name a4]) ?_;exact lf h;refine gW 42 (.int (a4.length:Int))<|xX 38 Xd.D h fun x3 h=> ?_;refine gQ (ET X0.D a4)<|xX 43 dZ h fun x4 h=> ?_;obtain⟨r5,h6,h⟩:=bS h;refine gC 47 (aSc h6) ?_;obtain⟨o10,h19,h⟩:=bS h;refine gL [.live [1,2,3,4,5,11,12,13],.keep [5],.nil 11 11 70 2,.sort] (aDu none self hs h19) ?_;exact lf h
theorem UV: ∀(n:Nat) (a0:AD) (a1:Int) (a2:List X2) (a3 a4:List X0) (r:List X8),aH4 n a0 a1 a2 a3 a4=some r->AL Tryz.prog 54 [.d (AD.D a0),dI a1,.d ((D.l X2.D) a2),.d ((D.l X0.D) a3),.d ((D.l X0.D) a4)] [] (.d ((D.l X8.D) r)) []
 |0,a0,a1,a2,a3,a4,r,h=>by simp [aH4]at h
 |n+1,a0,a1,a2,a3,a4,r,h=>aKe _ (UV n) a0 a1 a2 a3 a4 r h
theorem aSb(h:Y5 eF eG eH eI eK=some eL):AL Tryz.prog 54 [.d (AD.D eF),dI eG,.d ((D.l X2.D) eH),.d ((D.l X0.D) eI),.d ((D.l X0.D) eK)] [] (.d ((D.l X8.D) eL)) []:=UV 100000 eF eG eH eI eK eL h
def Un(s0:List X2)(s1:Int)(w4:X0)(s6:Int):St:=⟨sp 26 0 [sD 0 (D.l X2.D) s0,sI 1 s1,bx 4,sI 6 s6],[cL 4 X0.D w4],[]⟩
def Uo(s0:List X2)(s1:Int)(w4:X0)(o:Unit⊕X0):Ex×St:=match o with
 | .inl o=>(.exit 0,⟨sp 26 0 [bx 4],[cL 4 X0.D w4],[]⟩)
 | .inr o=>(.ret,⟨sp 26 0 [bx 4,sD 5 D.b true],[cL 4 X0.D o],[]⟩)
theorem aEw(rd:Option Nat)(h:aKo eH eG eM eN=some eO):Lq 123 rd 26 (Un eH eG eM eN) ((Uo eH eG eM) eO):=
 lL (fun s:Int=>Un eH eG eM s) (Uo eH eG eM) eN (fun eN o h=>by
 unfold KR at h
 refine gN 9 X2.D eH ?_
 refine iB 10 h (fun h=> ?_) fun h=> ?_
 refine xX 15 X2.D h fun x1 h=> ?_
 refine iB 19 h (fun h=> ?_) fun h=> ?_
 refine xX 22 X2.D h fun x2 h=> ?_
 exact lb h
 exact lb h
 exact lb h) h
theorem Up(h:Yh eH eG=some eQ):AL Tryz.prog 123 [.d ((D.l X2.D) eH),dI eG] [] (.tup [.d (X0.D eQ.1),.d (D.b eQ.2)]) []:=by
 unfold Yh at h;apply g0 (o:=eQ);obtain⟨o3,h5,h⟩:=bS h;refine gl (aEw none h5) ?_;replace h:=AK h;rcases h with⟨o4,rfl,h⟩|⟨o5,rfl,h⟩
 exact lf h;exact lf h
def VR(s0 s1:List X2)(s5:Int):St:=⟨sp 34 0 [sD 0 (D.l X2.D) s0,sD 1 (D.l X2.D) s1,sI 5 s5],[],[]⟩
def VT(s0 s1:List X2)(o:Unit⊕Unit):Ex×St:=match o with
 | .inl o=>(.exit 0,⟨sp 34 0 [],[],[]⟩)
 | .inr o=>(.ret,⟨sp 34 0 [sD 4 D.b false],[],[]⟩)
theorem aFm(rd:Option Nat)(h:aKz eH eR eG=some eS):Lq 124 rd 26 (VR eH eR eG) ((VT eH eR) eS):=
 lL (fun s:Int=>VR eH eR s) (VT eH eR) eG (fun eG o h=>by
 unfold KV at h
 refine gN 10 X2.D eH ?_
 refine iB 11 h (fun h=> ?_) fun h=> ?_
 refine xX 18 X2.D h fun x1 h=> ?_
 obtain⟨r2,h3,h⟩:=bS h
 refine gC 21 (Up h3) ?_
 refine iB 25 h (fun h=> ?_) fun h=> ?_
 refine xX 29 X2.D h fun x3 h=> ?_
 refine iB 33 h (fun h=> ?_) fun h=> ?_
 exact lb h
 exact lb h
 exact lb h
 exact lb h) h
theorem aS7(h:Z2 eH eR=some eT):AL Tryz.prog 124 [.d ((D.l X2.D) eH),.d ((D.l X2.D) eR)] [] (.d (D.b eT)) []:=by
 unfold Z2 at h;apply g0 (o:=eT);obtain⟨o4,h7,h⟩:=bS h;refine gl (aFm none h7) ?_;replace h:=AK h;rcases h with⟨o5,rfl,h⟩|⟨o6,rfl,h⟩
 exact lf h;exact lf h
theorem aDj(rd:Option Nat)(h:aDi eH eR eG eT eU eM=some eV):Lq 125 rd 29855 ⟨sp 42 0 [sD 0 (D.l X2.D) eH,sD 1 (D.l X2.D) eR,rx 5,sI 6 eG,bx 9,sD 34 D.b eT],[(5,.row 64 5 (eU.map X2.D)),cL 9 X0.D eM],[]⟩ (.normal,⟨sp 42 0 [sD 0 (D.l X2.D) eH,sD 1 (D.l X2.D) eR,rx 5,sI 6 eG],[(5,.row 64 5 (eV.map X2.D))],[]⟩):=by unfold aDi at h;apply g0 (o:=eV);cases eT;replace h:=CF h;exact lp h;replace h:=CG h;refine gQ (Ar X2.D [X2.mk eG eM])<|gG 40 (.sl ((eU++[X2.mk eG eM]).map X2.D)) (Ar X2.D [X2.mk eG eM]) ?_;obtain⟨h17,h⟩:=cS h;refine gQ (A6 X2.D h17)<|gQ (A5 X2.D eU [X2.mk eG eM]) ?_;exact lP h [.live [0,1,5,6],.keep [40],.ren 40 5,.sort]
theorem aDh(rd:Option Nat)(h:aDg eH eR eG eT eW eU eM eX=some eV):Lq 125 rd 7463 ⟨sp 42 0 [sD 0 (D.l X2.D) eH,sD 1 (D.l X2.D) eR,rx 5,sI 6 eG,bx 7,bx 9,sD 10 D.b eT,sD 27 D.b eW],[(5,.row 64 5 (eU.map X2.D)),cL 7 X0.D eM,cL 9 X0.D eX],[]⟩ (.normal,⟨sp 42 0 [sD 0 (D.l X2.D) eH,sD 1 (D.l X2.D) eR,rx 5,sI 6 eG],[(5,.row 64 5 (eV.map X2.D))],[]⟩):=by unfold aDg at h;apply g0 (o:=eV);cases eW;replace h:=CF h;obtain⟨o8,h18,h⟩:=bS h;refine gl (aDj rd h18) ?_;exact lp h;replace h:=CG h;refine gQ (Ar X2.D [X2.mk eG eM])<|gG 33 (.sl ((eU++[X2.mk eG eM]).map X2.D)) (Ar X2.D [X2.mk eG eM]) ?_;obtain⟨h15,h⟩:=cS h;refine gQ (A6 X2.D h15)<|gQ (A5 X2.D eU [X2.mk eG eM]) ?_;exact lP h [.live [0,1,5,6],.keep [33],.ren 33 5,.sort]
theorem aDf(rd:Option Nat)(h:aDe eH eR eG eU=some eV):Lq 125 rd 466 ⟨sp 42 0 [sD 0 (D.l X2.D) eH,sD 1 (D.l X2.D) eR,rx 5,sI 6 eG],[(5,.row 64 5 (eU.map X2.D))],[]⟩ (.normal,⟨sp 42 0 [sD 0 (D.l X2.D) eH,sD 1 (D.l X2.D) eR,rx 5,sI 6 eG],[(5,.row 64 5 (eV.map X2.D))],[]⟩):=by unfold aDe at h;apply g0 (o:=eV);obtain⟨r6,h12,h⟩:=bS h;refine gC 18 (Up h12) ?_;obtain⟨r7,h13,h⟩:=bS h;refine gC 24 (Up h13) ?_;obtain⟨o9,h19,h⟩:=bS h;refine gl (aDh rd h19) ?_;exact lp h
def UK(s0 s1:List X2)(s6:Int)(w5:List X2):St:=⟨sp 42 0 [sD 0 (D.l X2.D) s0,sD 1 (D.l X2.D) s1,rx 5,sI 6 s6],[(5,.row 64 5 (w5.map X2.D))],[]⟩
def UL(s0 s1:List X2)(o:(List X2)):Ex×St:=(.exit 0,⟨sp 42 0 [rx 5],[(5,.row 64 5 (o.map X2.D))],[]⟩)
theorem aDk(rd:Option Nat)(h:aKd eH eR eG eU=some eV):Lq 125 rd 58 (UK eH eR eG eU) ((UL eH eR) eV):=
 lL (fun s:Int×List X2=>UK eH eR s.1 s.2) (UL eH eR) (eG,eU) (fun⟨eG,eU⟩ o h=>by
 unfold ID at h
 refine iB 12 h (fun h=> ?_) fun h=> ?_
 obtain⟨o10,h20,h⟩:=bS h
 refine gl (aDf rd h20) ?_
 exact lb h
 exact lb h) h
theorem aR9(h:Y2 eH eR=some eU):AL Tryz.prog 125 [.d ((D.l X2.D) eH),.d ((D.l X2.D) eR)] [] (.d ((D.l X2.D) eU)) []:=by unfold Y2 at h;apply g0 (o:=eU);obtain⟨o11,h21,h⟩:=bS h;refine gL [.live [0,1,5,6],.keep [],.nil 5 5 64 5,.sort] (aDk none h21) ?_;exact lf h
def VH(s0:List X2)(w3:X2)(s5:Int):St:=⟨sp 38 0 [sD 0 (D.l X2.D) s0,bx 3,sI 5 s5],[cL 3 X2.D w3],[]⟩
def VI(s0:List X2)(w3:X2)(o:Int):Ex×St:=(.exit 0,⟨sp 38 0 [sD 0 (D.l X2.D) s0,bx 3,sI 5 o],[cL 3 X2.D w3],[]⟩)
theorem aFh(rd:Option Nat)(h:aKw eH eY eG=some eN):Lq 126 rd 28 (VH eH eY eG) ((VI eH eY) eN):=
 lL (fun s:Int=>VH eH eY s) (VI eH eY) eG (fun eG o h=>by
 unfold IU at h
 refine iB 11 h (fun h=> ?_) fun h=> ?_
 refine xX 15 X2.D h fun x1 h=> ?_
 refine iB 21 h (fun h=> ?_) fun h=> ?_
 exact lb h
 exact lb h
 exact lb h) h
theorem aS0(h:Yx eH eY=some eR):AL Tryz.prog 126 [.d ((D.l X2.D) eH),.d (X2.D eY)] [] (.d ((D.l X2.D) eR)) []:=by unfold Yx at h;apply g0 (o:=eR);refine gN 8 X2.D eH ?_;obtain⟨o2,h4,h⟩:=bS h;refine gl (aFh none h4)<|gQ (Ar X2.D ([]:List X2))<|gW 27 (.sl ((sub eH 0 o2).map X2.D))<|gW 28 (.sl ((([]:List X2)++(sub eH 0 o2)).map X2.D))<|gW 32 (.sl (((([]:List X2)++(sub eH 0 o2))++[eY]).map X2.D))<|gW 36 (.sl ((sub eH o2 (eH.length:Int)).map X2.D))<|gW 37 (.sl ((((([]:List X2)++(sub eH 0 o2))++[eY])++(sub eH o2 (eH.length:Int))).map X2.D)) ?_;obtain⟨h5,h⟩:=cS h;refine gQ (Fq X2.D h5)<|gQ (Ar X2.D (sub eH 0 o2)) ?_;obtain⟨h6,h⟩:=cS h;refine gQ (A6 X2.D h6)<|gQ (A5 X2.D ([]:List X2) (sub eH 0 o2))<|gQ (Ar X2.D [eY])<|gQ (Ar X2.D [eY]) ?_;obtain⟨h7,h⟩:=cS h;refine gQ (A6 X2.D h7)<|gQ (A5 X2.D (([]:List X2)++(sub eH 0 o2)) [eY]) ?_;obtain⟨h8,h⟩:=cS h;refine gQ (Fp X2.D h8)<|gQ (Ar X2.D (sub eH o2 (eH.length:Int))) ?_;obtain⟨h9,h⟩:=cS h;refine gQ (A6 X2.D h9)<|gQ (A5 X2.D ((([]:List X2)++(sub eH 0 o2))++[eY]) (sub eH o2 (eH.length:Int))) ?_;exact lf h
theorem OI(rd:Option Nat)(h:TM eG eH eR eN eT eZ f0 f8 f9 fA eU=some fB):Lq 87 rd 521373 ⟨sp 121 0 [sI 1 eG,bx 5,bx 6,bx 8,bx 9,sD 10 (D.l X2.D) eH,sD 11 (D.l X2.D) eR,sI 12 eN,bx 13,rx 14,sD 80 D.b eT],[cL 5 X8.D eZ,(6,.cells ([dI f0,.nil,.nil])),cL 8 X3.D f8,cL 9 Ao.D f9,cL 13 CE.D fA,(14,.row 64 5 (eU.map X2.D))],[]⟩ (match (generalizing:=false) fB with
 | .inl fB=>(.normal,⟨sp 121 0 [sI 1 eG,bx 5,bx 6,bx 8,bx 9,sD 10 (D.l X2.D) fB,sD 11 (D.l X2.D) eR,sI 12 eN,bx 13,rx 14],[cL 5 X8.D eZ,(6,.cells ([dI f0,.nil,.nil])),cL 8 X3.D f8,cL 9 Ao.D f9,cL 13 CE.D fA,(14,.row 64 5 (eU.map X2.D))],[]⟩)
 | .inr fB=>(.ret,⟨sp 121 0 [bx 6,sD 7 D.b false],[cL 6 Ao.D f9],[]⟩)):=by
 unfold TM at h
 apply g0 (o:=fB)
 cases eT
 replace h:=CF h
 exact lp h
 replace h:=CG h
 obtain⟨r32,h37,h⟩:=bS h
 refine gC 83 (aS7 h37) ?_
 refine iB 84 h (fun h=> ?_) fun h=> ?_
 exact lp h
 obtain⟨r33,h39,h⟩:=bS h
 refine gC 88 (aR9 h39) ?_
 exact lp h
theorem OK(rd:Option Nat)(h:TO eG eH eR eN eT eZ f0 f8 f9 eU=some eV):Lq 87 rd 8342007 ⟨sp 121 0 [sI 1 eG,bx 5,bx 6,bx 8,bx 9,sD 10 (D.l X2.D) eH,sD 11 (D.l X2.D) eR,sI 12 eN,rx 14,sD 111 D.b eT],[cL 5 X8.D eZ,(6,.cells ([dI f0,.nil,.nil])),cL 8 X3.D f8,cL 9 Ao.D f9,(14,.row 64 5 (eU.map X2.D))],[]⟩ (.normal,⟨sp 121 0 [sI 1 eG,bx 5,bx 6,bx 8,bx 9,sD 10 (D.l X2.D) eH,sD 11 (D.l X2.D) eV,sI 12 eN],[cL 5 X8.D eZ,(6,.cells ([dI f0,.nil,.nil])),cL 8 X3.D f8,cL 9 Ao.D f9],[]⟩):=by unfold TO at h;apply g0 (o:=eV);cases eT;replace h:=CF h;exact lp h;replace h:=CG h;refine xX 114 X2.D h fun x39 h=> ?_;obtain⟨r40,h48,h⟩:=bS h;refine gC 116 (aS0 h48) ?_;exact lp h
theorem OJ(rd:Option Nat)(h:TN eG eH eR eN eT eZ f0 f8 f9 fA eU=some fB):Lq 87 rd 521375 ⟨sp 121 0 [sI 1 eG,bx 5,bx 6,bx 8,bx 9,sD 10 (D.l X2.D) eH,sD 11 (D.l X2.D) eR,sI 12 eN,bx 13,rx 14,sD 91 D.b eT],[cL 5 X8.D eZ,(6,.cells ([dI f0,.nil,.nil])),cL 8 X3.D f8,cL 9 Ao.D f9,cL 13 CE.D fA,(14,.row 64 5 (eU.map X2.D))],[]⟩ (match (generalizing:=false) fB with
 | .inl fB=>(.normal,⟨sp 121 0 [sI 1 eG,bx 5,bx 6,bx 8,bx 9,sD 10 (D.l X2.D) eH,sD 11 (D.l X2.D) fB,sI 12 eN],[cL 5 X8.D eZ,(6,.cells ([dI f0,.nil,.nil])),cL 8 X3.D f8,cL 9 Ao.D f9],[]⟩)
 | .inr fB=>(.ret,⟨sp 121 0 [bx 6,sD 7 D.b false],[cL 6 Ao.D f9],[]⟩)):=by
 unfold TN at h
 apply g0 (o:=fB)
 cases eT
 replace h:=CF h
 exact lp h
 replace h:=CG h
 obtain⟨r37,h42,h⟩:=bS h
 refine gC 96 (Up h42) ?_
 refine iB 100 h (fun h=> ?_) fun h=> ?_
 refine xX 105 X0.D h fun x38 h=> ?_
 refine iB 108 h (fun h=> ?_) fun h=> ?_
 exact lp h
 obtain⟨o41,h49,h⟩:=bS h
 refine gl (OK rd h49) ?_
 exact lp h
 obtain⟨o42,h50,h⟩:=bS h
 refine gl (OK rd h50) ?_
 exact lp h
theorem aBv(rd:Option Nat)(h:aBu eG eH eR eN eZ f0 f8 f9=some fC):Lq 87 rd 8146 ⟨sp 121 0 [sI 1 eG,bx 5,bx 6,bx 8,bx 9,sD 10 (D.l X2.D) eH,sD 11 (D.l X2.D) eR,sI 12 eN],[cL 5 X8.D eZ,(6,.cells ([dI f0,.nil,.nil])),cL 8 X3.D f8,cL 9 Ao.D f9],[]⟩ (match (generalizing:=false) fC with
 | .inl fC=>(.normal,⟨sp 121 0 [sI 1 eG,bx 5,bx 6,bx 8,bx 9,sD 10 (D.l X2.D) fC.1,sD 11 (D.l X2.D) fC.2,sI 12 eN],[cL 5 X8.D eZ,(6,.cells ([dI f0,.nil,.nil])),cL 8 X3.D f8,cL 9 Ao.D f9],[]⟩)
 | .inr fC=>(.ret,⟨sp 121 0 [bx 6,sD 7 D.b false],[cL 6 Ao.D f9],[]⟩)):=by
 unfold aBu at h
 apply g0 (o:=fC)
 refine xX 53 CE.D h fun x29 h=> ?_
 refine xX 60 X0.D h fun x30 h=> ?_
 refine gQ (Ar X2.D [X2.mk x29.n x30]) ?_
 refine iB 67 h (fun h=> ?_) fun h=> ?_
 refine xX 73 X0.D h fun x31 h=> ?_
 refine iB 76 h (fun h=> ?_) fun h=> ?_
 exact lp h
 obtain⟨o34,h40,h⟩:=bS h
 refine gL [.live [1,5,6,8,9,10,11,12,13,14,80],.keep [5,6,8,9,13,63],.ren 63 14,.sort] (OI rd h40) ?_
 replace h:=AK h
 rcases h with⟨o35,rfl,h⟩|⟨o36,rfl,h⟩
 obtain⟨o43,h51,h⟩:=bS h
 refine gl (OJ rd h51) ?_
 replace h:=AK h
 rcases h with⟨o44,rfl,h⟩|⟨o45,rfl,h⟩
 exact lp h
 exact lp h
 exact lp h
 obtain⟨o46,h52,h⟩:=bS h
 refine gL [.live [1,5,6,8,9,10,11,12,13,14,80],.keep [5,6,8,9,13,63],.ren 63 14,.sort] (OI rd h52) ?_
 replace h:=AK h
 rcases h with⟨o47,rfl,h⟩|⟨o48,rfl,h⟩
 obtain⟨o49,h53,h⟩:=bS h
 refine gl (OJ rd h53) ?_
 replace h:=AK h
 rcases h with⟨o50,rfl,h⟩|⟨o51,rfl,h⟩
 exact lp h
 exact lp h
 exact lp h
def TP(s1:Int)(w5:X8)(w6:Int)(w8:X3)(w9:Ao)(s10 s11:List X2)(s12:Int):St:=⟨sp 121 0 [sI 1 s1,bx 5,bx 6,bx 8,bx 9,sD 10 (D.l X2.D) s10,sD 11 (D.l X2.D) s11,sI 12 s12],[cL 5 X8.D w5,(6,.cells ([dI w6,.nil,.nil])),cL 8 X3.D w8,cL 9 Ao.D w9],[]⟩
def TQ(s1:Int)(w5:X8)(w6:Int)(w8:X3)(w9:Ao)(o:(List X2×List X2)⊕Unit):Ex×St:=match o with
 | .inl o=>(.exit 0,⟨sp 121 0 [sI 1 s1,bx 6,sD 10 (D.l X2.D) o.1,sD 11 (D.l X2.D) o.2],[(6,.cells ([dI w6,.nil,.nil]))],[]⟩)
 | .inr o=>(.ret,⟨sp 121 0 [bx 6,sD 7 D.b false],[cL 6 Ao.D w9],[]⟩)
theorem aBw(rd:Option Nat)(h:Pf eG eZ eN f8 f9 eH eR f0=some fC):Lq 87 rd 1018 (TP eG eZ eN f8 f9 eH eR f0) ((TQ eG eZ eN f8 f9) fC):=
 lL (fun s:List X2×List X2×Int=>TP eG eZ eN f8 f9 s.1 s.2.1 s.2.2) (TQ eG eZ eN f8 f9) (eH,eR,f0) (fun⟨eH,eR,f0⟩ o h=>by
 unfold Hx at h
 refine gN 46 CE.D f8.args ?_
 refine iB 47 h (fun h=> ?_) fun h=> ?_
 obtain⟨o52,h54,h⟩:=bS h
 refine gl (aBv rd h54) ?_
 replace h:=AK h
 rcases h with⟨o53,rfl,h⟩|⟨o54,rfl,h⟩
 exact lb h
 exact lb h
 exact lb h) h
theorem aRp(h:Xn eF eG eZ=some fD):AL Tryz.prog 87 [.d (AD.D eF),dI eG,.d (X8.D eZ)] [] (.tup [.d (Ao.D fD.1),.d (D.b fD.2)]) []:=by
 unfold Xn at h;apply g0 (o:=fD);refine xX 20 X3.D h fun x1 h=> ?_;refine xX 27 Xd.D h fun x2 h=> ?_;refine iB 33 h (fun h=> ?_) fun h=> ?_;exact lf h;refine gN 36 CE.D x1.args<|gN 39 X0.D eZ.args ?_;refine iB 41 h (fun h=> ?_) fun h=> ?_;exact lf h;obtain⟨o55,h55,h⟩:=bS h;refine gL [.look 10,.look 11,.live [1,5,6,8,9,10,11,12],.keep [5,6,8,9]] (aBw none h55) ?_;replace h:=AK h;rcases h with⟨o56,rfl,h⟩|⟨o57,rfl,h⟩
 exact lf h;exact lf h
theorem aD4(rd:Option Nat)(h:aD3 eG eT eF eZ fE f9=some fF):Lq 57 rd 3731 ⟨sp 29 0 [bx 2,bx 3,rx 5,sI 6 eG,bx 7,sD 23 D.b eT],[cL 2 AD.D eF,cL 3 X8.D eZ,(5,.row 135 3 (fE.map Ao.D)),cL 7 Ao.D f9],[]⟩ (.normal,⟨sp 29 0 [bx 2,bx 3,rx 5,sI 6 eG],[cL 2 AD.D eF,cL 3 X8.D eZ,(5,.row 135 3 (fF.map Ao.D))],[]⟩):=by unfold aD3 at h;apply g0 (o:=fF);cases eT;replace h:=CF h;exact lp h;replace h:=CG h;refine gQ (Ar Ao.D [f9])<|gG 27 (.sl ((fE++[f9]).map Ao.D)) (Ar Ao.D [f9]) ?_;obtain⟨h10,h⟩:=cS h;refine gQ (A6 Ao.D h10)<|gQ (A5 Ao.D fE [f9]) ?_;exact lP h [.live [2,3,5,6],.keep [2,3,27],.ren 27 5,.sort]
theorem aD2(rd:Option Nat)(h:aD1 eG eF eZ fE=some fF):Lq 57 rd 466 ⟨sp 29 0 [bx 2,bx 3,rx 5,sI 6 eG],[cL 2 AD.D eF,cL 3 X8.D eZ,(5,.row 135 3 (fE.map Ao.D))],[]⟩ (.normal,⟨sp 29 0 [bx 2,bx 3,rx 5,sI 6 eG],[cL 2 AD.D eF,cL 3 X8.D eZ,(5,.row 135 3 (fF.map Ao.D))],[]⟩):=by unfold aD1 at h;apply g0 (o:=fF);obtain⟨r4,h8,h⟩:=bS h;refine gC 20 (aRp h8) ?_;obtain⟨o5,h11,h⟩:=bS h;refine gl (aD4 rd h11) ?_;exact lp h
def UY(w2:AD)(w3:X8)(s6:Int)(w5:List Ao):St:=⟨sp 29 0 [bx 2,bx 3,rx 5,sI 6 s6],[cL 2 AD.D w2,cL 3 X8.D w3,(5,.row 135 3 (w5.map Ao.D))],[]⟩
def UZ(w2:AD)(w3:X8)(o:(List Ao)):Ex×St:=(.exit 0,⟨sp 29 0 [rx 5],[(5,.row 135 3 (o.map Ao.D))],[]⟩)
theorem aD5(rd:Option Nat)(h:aKg eF eZ eG fE=some fF):Lq 57 rd 58 (UY eF eZ eG fE) ((UZ eF eZ) fF):=
 lL (fun s:Int×List Ao=>UY eF eZ s.1 s.2) (UZ eF eZ) (eG,fE) (fun⟨eG,fE⟩ o h=>by
 unfold IH at h
 refine gN 12 X3.D eF.symbols ?_
 refine iB 13 h (fun h=> ?_) fun h=> ?_
 obtain⟨o6,h12,h⟩:=bS h
 refine gl (aD2 rd h12) ?_
 exact lb h
 exact lb h) h
theorem aSe(h:Y8 eF eZ=some fE):AL Tryz.prog 57 [.d (AD.D eF),.d (X8.D eZ)] [] (.d ((D.l Ao.D) fE)) []:=by unfold Y8 at h;apply g0 (o:=fE);obtain⟨o7,h13,h⟩:=bS h;refine gL [.live [2,3,5,6],.keep [2,3],.nil 5 5 135 3,.sort] (aD5 none h13) ?_;exact lf h
def VU(s0 s1:List X2)(s5:Int):St:=⟨sp 35 0 [sD 0 (D.l X2.D) s0,sD 1 (D.l X2.D) s1,sI 5 s5],[],[]⟩
def VV(s0 s1:List X2)(o:Unit⊕Unit):Ex×St:=match o with
 | .inl o=>(.exit 0,⟨sp 35 0 [],[],[]⟩)
 | .inr o=>(.ret,⟨sp 35 0 [sD 4 D.b false],[],[]⟩)
theorem aFn(rd:Option Nat)(h:aK0 eH eR eG=some eS):Lq 86 rd 26 (VU eH eR eG) ((VV eH eR) eS):=
 lL (fun s:Int=>VU eH eR s) (VV eH eR) eG (fun eG o h=>by
 unfold KW at h
 refine gN 10 X2.D eH ?_
 refine iB 11 h (fun h=> ?_) fun h=> ?_
 refine xX 18 X2.D h fun x1 h=> ?_
 obtain⟨r2,h3,h⟩:=bS h
 refine gC 21 (Up h3) ?_
 refine iB 26 h (fun h=> ?_) fun h=> ?_
 exact lb h
 refine xX 30 X2.D h fun x3 h=> ?_
 refine iB 34 h (fun h=> ?_) fun h=> ?_
 exact lb h
 exact lb h
 exact lb h) h
theorem aS9(h:Z3 eH eR=some eT):AL Tryz.prog 86 [.d ((D.l X2.D) eH),.d ((D.l X2.D) eR)] [] (.d (D.b eT)) []:=by
 unfold Z3 at h;apply g0 (o:=eT);obtain⟨o4,h7,h⟩:=bS h;refine gl (aFn none h7) ?_;replace h:=AK h;rcases h with⟨o5,rfl,h⟩|⟨o6,rfl,h⟩
 exact lf h;exact lf h
theorem aEc(rd:Option Nat)(h:aEb fE eH eG eT fG=some fF):Lq 56 rd 1865 ⟨sp 28 0 [sD 0 (D.l Ao.D) fE,sD 1 (D.l X2.D) eH,rx 5,sI 6 eG,sD 19 D.b eT],[(5,.row 135 3 (fG.map Ao.D))],[]⟩ (.normal,⟨sp 28 0 [sD 0 (D.l Ao.D) fE,sD 1 (D.l X2.D) eH,rx 5,sI 6 eG],[(5,.row 135 3 (fF.map Ao.D))],[]⟩):=by unfold aEb at h;apply g0 (o:=fF);cases eT;replace h:=CF h;exact lp h;replace h:=CG h;refine xX 23 Ao.D h fun x8 h=> ?_;refine gQ (Ar Ao.D [x8])<|gG 26 (.sl ((fG++[x8]).map Ao.D)) (Ar Ao.D [x8]) ?_;obtain⟨h14,h⟩:=cS h;refine gQ (A6 Ao.D h14)<|gQ (A5 Ao.D fG [x8]) ?_;exact lP h [.live [0,1,5,6],.keep [26],.ren 26 5,.sort]
theorem aEa(rd:Option Nat)(h:aD9 fE eH eG fG=some fF):Lq 56 rd 466 ⟨sp 28 0 [sD 0 (D.l Ao.D) fE,sD 1 (D.l X2.D) eH,rx 5,sI 6 eG],[(5,.row 135 3 (fG.map Ao.D))],[]⟩ (.normal,⟨sp 28 0 [sD 0 (D.l Ao.D) fE,sD 1 (D.l X2.D) eH,rx 5,sI 6 eG],[(5,.row 135 3 (fF.map Ao.D))],[]⟩):=by unfold aD9 at h;apply g0 (o:=fF);refine xX 15 Ao.D h fun x6 h=> ?_;obtain⟨r7,h11,h⟩:=bS h;refine gC 19 (aS9 h11) ?_;obtain⟨o9,h15,h⟩:=bS h;refine gl (aEc rd h15) ?_;exact lp h
def Ud(s0:List Ao)(s1:List X2)(s6:Int)(w5:List Ao):St:=⟨sp 28 0 [sD 0 (D.l Ao.D) s0,sD 1 (D.l X2.D) s1,rx 5,sI 6 s6],[(5,.row 135 3 (w5.map Ao.D))],[]⟩
def Ue(s0:List Ao)(s1:List X2)(o:(List Ao)):Ex×St:=(.exit 0,⟨sp 28 0 [rx 5],[(5,.row 135 3 (o.map Ao.D))],[]⟩)
theorem aEd(rd:Option Nat)(h:aKi fE eH eG fG=some fF):Lq 56 rd 58 (Ud fE eH eG fG) ((Ue fE eH) fF):=
 lL (fun s:Int×List Ao=>Ud fE eH s.1 s.2) (Ue fE eH) (eG,fG) (fun⟨eG,fG⟩ o h=>by
 unfold KP at h
 refine gN 9 Ao.D fE ?_
 refine iB 10 h (fun h=> ?_) fun h=> ?_
 obtain⟨o10,h16,h⟩:=bS h
 refine gl (aEa rd h16) ?_
 exact lb h
 exact lb h) h
theorem aSh(h:Ya fE eH=some fG):AL Tryz.prog 56 [.d ((D.l Ao.D) fE),.d ((D.l X2.D) eH)] [] (.d ((D.l Ao.D) fG)) []:=by unfold Ya at h;apply g0 (o:=fG);obtain⟨o11,h17,h⟩:=bS h;refine gL [.live [0,1,5,6],.keep [],.nil 5 5 135 3,.sort] (aEd none h17) ?_;exact lf h
def VJ(s0:List Ao)(s3 s4:Int):St:=⟨sp 21 0 [sD 0 (D.l Ao.D) s0,sD 3 dU s3,sI 4 s4],[],[]⟩
def VK(s0:List Ao)(o:Int):Ex×St:=(.exit 0,⟨sp 21 0 [sD 3 dU o],[],[]⟩)
theorem aFi(rd:Option Nat)(h:aKx fE eG eN=some f0):Lq 55 rd 58 (VJ fE eG eN) ((VK fE) f0):=
 lL (fun s:Int×Int=>VJ fE s.1 s.2) (VK fE) (eG,eN) (fun⟨eG,eN⟩ o h=>by
 unfold IV at h
 refine gN 7 Ao.D fE ?_
 refine iB 8 h (fun h=> ?_) fun h=> ?_
 refine xX 14 Ao.D h fun x1 h=> ?_
 obtain⟨h3,h⟩:=cS h
 refine gQ h3 ?_
 exact lb h
 exact lb h) h
theorem aS1(h:Yy fE=some eG):AL Tryz.prog 55 [.d ((D.l Ao.D) fE)] [] (.d (dU eG)) []:=by unfold Yy at h;apply g0 (o:=eG);obtain⟨o2,h4,h⟩:=bS h;refine gl (aFi none h4) ?_;exact lf h
def U4(s0:List Int)(s1 s5:Int):St:=⟨sp 48 0 [sD 0 (D.l dU) s0,sD 1 dU s1,sI 5 s5],[],[]⟩
def U5(s0:List Int)(s1 o:Int):Ex×St:=(.exit 0,⟨sp 48 0 [sD 0 (D.l dU) s0,sD 1 dU s1,sI 5 o],[],[]⟩)
theorem aE7(rd:Option Nat)(h:U3 fH eG eN=some f0):Lq 58 rd 28 (U4 fH eG eN) ((U5 fH eG) f0):=
 lL (fun s:Int=>U4 fH eG s) (U5 fH eG) eN (fun eN o h=>by
 unfold IP at h
 refine iB 11 h (fun h=> ?_) fun h=> ?_
 refine xX 15 dU h fun x1 h=> ?_
 refine iB 19 h (fun h=> ?_) fun h=> ?_
 exact lb h
 exact lb h
 exact lb h) h
theorem aSs(h:Yp fH eG=some fI):AL Tryz.prog 58 [.d ((D.l dU) fH),.d (dU eG)] [] (.d ((D.l dU) fI)) []:=by unfold Yp at h;apply g0 (o:=fI);refine gN 8 dU fH ?_;obtain⟨o2,h4,h⟩:=bS h;refine gl (aE7 none h4) ?_;refine iB 24 h (fun h=> ?_) fun h=> ?_;refine xX 28 dU h fun x3 h=> ?_;refine iB 32 h (fun h=> ?_) fun h=> ?_;exact lf h;refine gQ (Ar dU ([]:List Int))<|gW 37 (.sl ((sub fH 0 o2).map dU))<|gW 38 (.sl ((([]:List Int)++(sub fH 0 o2)).map dU))<|gW 42 (.sl (((([]:List Int)++(sub fH 0 o2))++[eG]).map dU))<|gW 46 (.sl ((sub fH o2 (fH.length:Int)).map dU))<|gW 47 (.sl ((((([]:List Int)++(sub fH 0 o2))++[eG])++(sub fH o2 (fH.length:Int))).map dU)) ?_;obtain⟨h8,h⟩:=cS h;refine gQ (Fq dU h8)<|gQ (Ar dU (sub fH 0 o2)) ?_;obtain⟨h9,h⟩:=cS h;refine gQ (A6 dU h9)<|gQ (A5 dU ([]:List Int) (sub fH 0 o2))<|gQ (Ar dU [eG])<|gQ (Ar dU [eG]) ?_;obtain⟨h10,h⟩:=cS h;refine gQ (A6 dU h10)<|gQ (A5 dU (([]:List Int)++(sub fH 0 o2)) [eG]) ?_;obtain⟨h11,h⟩:=cS h;refine gQ (Fp dU h11)<|gQ (Ar dU (sub fH o2 (fH.length:Int))) ?_;obtain⟨h12,h⟩:=cS h;refine gQ (A6 dU h12)<|gQ (A5 dU ((([]:List Int)++(sub fH 0 o2))++[eG]) (sub fH o2 (fH.length:Int))) ?_;exact lf h;refine gQ (Ar dU ([]:List Int))<|gW 37 (.sl ((sub fH 0 o2).map dU))<|gW 38 (.sl ((([]:List Int)++(sub fH 0 o2)).map dU))<|gW 42 (.sl (((([]:List Int)++(sub fH 0 o2))++[eG]).map dU))<|gW 46 (.sl ((sub fH o2 (fH.length:Int)).map dU))<|gW 47 (.sl ((((([]:List Int)++(sub fH 0 o2))++[eG])++(sub fH o2 (fH.length:Int))).map dU)) ?_;obtain⟨h13,h⟩:=cS h;refine gQ (Fq dU h13)<|gQ (Ar dU (sub fH 0 o2)) ?_;obtain⟨h14,h⟩:=cS h;refine gQ (A6 dU h14)<|gQ (A5 dU ([]:List Int) (sub fH 0 o2))<|gQ (Ar dU [eG])<|gQ (Ar dU [eG]) ?_;obtain⟨h15,h⟩:=cS h;refine gQ (A6 dU h15)<|gQ (A5 dU (([]:List Int)++(sub fH 0 o2)) [eG]) ?_;obtain⟨h16,h⟩:=cS h;refine gQ (Fp dU h16)<|gQ (Ar dU (sub fH o2 (fH.length:Int))) ?_;obtain⟨h17,h⟩:=cS h;refine gQ (A6 dU h17)<|gQ (A5 dU ((([]:List Int)++(sub fH 0 o2))++[eG]) (sub fH o2 (fH.length:Int))) ?_;exact lf h
theorem aBz(rd:Option Nat)(h:Pg eH fH eG eL eN f0 eT eF=some fJ):Lq 23 rd 477587 ⟨sp 42 0 [sD 1 (D.l X2.D) eH,bx 2,sD 5 (D.l dU) fH,sI 6 eG,sD 7 (D.l X8.D) eL,sI 8 eN,sD 9 dU f0,sD 37 D.b eT],[cL 2 AD.D eF],[]⟩ (.normal,⟨sp 42 0 [sD 1 (D.l X2.D) eH,bx 2,sD 5 (D.l dU) fJ,sI 6 eG,sD 7 (D.l X8.D) eL,sI 8 eN],[cL 2 AD.D eF],[]⟩):=by unfold Pg at h;apply g0 (o:=fJ);cases eT;replace h:=CF h;exact lp h;replace h:=CG h;obtain⟨r13,h18,h⟩:=bS h;refine gC 40 (aSs h18) ?_;exact lp h
theorem aBy(rd:Option Nat)(h:aBx eH fH eG eL eN eF=some fJ):Lq 23 rd 59698 ⟨sp 42 0 [sD 1 (D.l X2.D) eH,bx 2,sD 5 (D.l dU) fH,sI 6 eG,sD 7 (D.l X8.D) eL,sI 8 eN],[cL 2 AD.D eF],[]⟩ (.normal,⟨sp 42 0 [sD 1 (D.l X2.D) eH,bx 2,sD 5 (D.l dU) fJ,sI 6 eG,sD 7 (D.l X8.D) eL,sI 8 eN],[cL 2 AD.D eF],[]⟩):=by unfold aBx at h;apply g0 (o:=fJ);refine xX 30 X8.D h fun x9 h=> ?_;obtain⟨r10,h14,h⟩:=bS h;refine gC 32 (aSe h14) ?_;obtain⟨r11,h15,h⟩:=bS h;refine gC 34 (aSh h15) ?_;obtain⟨r12,h16,h⟩:=bS h;refine gC 35 (aS1 h16) ?_;obtain⟨o14,h19,h⟩:=bS h;refine gl (aBz rd h19) ?_;exact lp h
def TU(s1:List X2)(s6:Int)(s7:List X8)(w2:AD)(s5:List Int)(s8:Int):St:=⟨sp 42 0 [sD 1 (D.l X2.D) s1,bx 2,sD 5 (D.l dU) s5,sI 6 s6,sD 7 (D.l X8.D) s7,sI 8 s8],[cL 2 AD.D w2],[]⟩
def TV(s1:List X2)(s6:Int)(s7:List X8)(w2:AD)(o:(List Int)):Ex×St:=(.exit 2,⟨sp 42 0 [sD 1 (D.l X2.D) s1,bx 2,sD 5 (D.l dU) o,sI 6 s6],[cL 2 AD.D w2],[]⟩)
theorem aB1(rd:Option Nat)(h:aJ1 eH eG eL eF fH eN=some fJ):Lq 23 rd 7462 (TU eH eG eL eF fH eN) ((TV eH eG eL eF) fJ):=
 lL (fun s:List Int×Int=>TU eH eG eL eF s.1 s.2) (TV eH eG eL eF) (fH,eN) (fun⟨fH,eN⟩ o h=>by
 unfold GX at h
 refine gN 23 X8.D eL ?_
 refine iB 24 h (fun h=> ?_) fun h=> ?_
 obtain⟨o18,h25,h⟩:=bS h
 refine gl (aBy rd h25) ?_
 exact lb h
 exact lb h) h
def TS(s1:List X2)(w2:AD)(s5:List Int)(s6:Int):St:=⟨sp 42 0 [sD 1 (D.l X2.D) s1,bx 2,sD 5 (D.l dU) s5,sI 6 s6],[cL 2 AD.D w2],[]⟩
def TT(s1:List X2)(w2:AD)(o:(List Int)):Ex×St:=(.exit 0,⟨sp 42 0 [sD 5 (D.l dU) o],[],[]⟩)
theorem aB0(rd:Option Nat)(h:aJ0 eH eF fH eG=some fJ):Lq 23 rd 58 (TS eH eF fH eG) ((TT eH eF) fJ):=
 lL (fun s:List Int×Int=>TS eH eF s.1 s.2) (TT eH eF) (fH,eG) (fun⟨fH,eG⟩ o h=>by
 unfold Hy at h
 refine gN 13 Xd.D eF.decls ?_
 refine iB 14 h (fun h=> ?_) fun h=> ?_
 obtain⟨r17,h23,h⟩:=bS h
 refine gC 20 (aSb h23) ?_
 obtain⟨o19,h26,h⟩:=bS h
 refine gl (aB1 rd h26) ?_
 exact lb h
 exact lb h) h
theorem aRr(h:Xo eF eH=some fH):AL Tryz.prog 23 [.d (AD.D eF),.d ((D.l X2.D) eH)] [] (.d ((D.l dU) fH)) []:=by unfold Xo at h;apply g0 (o:=fH);obtain⟨o20,h27,h⟩:=bS h;refine gL [.look 5,.live [1,2,5,6],.keep [2]] (aB0 none h27) ?_;exact lf h
theorem OC(rd:Option Nat)(h:Sd eG eN f0 fK fL fM eT eF fN=some fO):Lq 24 rd 1910419 ⟨sp 74 0 [sD 1 dW eG,sD 2 dU eN,bx 3,sD 7 dW f0,sI 8 fK,sD 9 dW fL,sI 10 fM,bx 11,sD 49 D.b eT],[cL 3 AD.D eF,cL 11 Xc.D fN],[]⟩ (.normal,⟨sp 74 0 [sD 1 dW eG,sD 2 dU eN,bx 3,sD 7 dW f0,sI 8 fK,sD 9 dW fO,sI 10 fM],[cL 3 AD.D eF],[]⟩):=by unfold Sd at h;apply g0 (o:=fO);cases eT;replace h:=CF h;exact lp h;replace h:=CG h;obtain⟨h9,h⟩:=cS h;refine gQ h9 ?_;exact lp h
theorem aA0(rd:Option Nat)(h:aAz eG eN f0 fK fL fM eF=some fO):Lq 24 rd 238802 ⟨sp 74 0 [sD 1 dW eG,sD 2 dU eN,bx 3,sD 7 dW f0,sI 8 fK,sD 9 dW fL,sI 10 fM],[cL 3 AD.D eF],[]⟩ (.normal,⟨sp 74 0 [sD 1 dW eG,sD 2 dU eN,bx 3,sD 7 dW f0,sI 8 fK,sD 9 dW fO,sI 10 fM],[cL 3 AD.D eF],[]⟩):=by unfold aAz at h;apply g0 (o:=fO);refine xX 35 Xc.D h fun x1 h=> ?_;refine iB 41 h (fun h=> ?_) fun h=> ?_;obtain⟨h7,h⟩:=cS h;refine gQ h7<|gQ (of_decide_eq_true rfl:(2:Int)≠0) ?_;obtain⟨o2,h10,h⟩:=bS h;refine gl (OC rd h10) ?_;exact lp h;obtain⟨o3,h11,h⟩:=bS h;refine gl (OC rd h11) ?_;exact lp h
def Sg(s1 s2:Int)(s7 s8:Int)(w3:AD)(s9 s10:Int):St:=⟨sp 74 0 [sD 1 dW s1,sD 2 dU s2,bx 3,sD 7 dW s7,sI 8 s8,sD 9 dW s9,sI 10 s10],[cL 3 AD.D w3],[]⟩
def Sh(s1 s2:Int)(s7 s8:Int)(w3:AD)(o:Int):Ex×St:=(.exit 2,⟨sp 74 0 [sD 1 dW s1,sD 2 dU s2,bx 3,sD 7 dW s7,sI 8 s8,sD 9 dW o],[cL 3 AD.D w3],[]⟩)
theorem aA3(rd:Option Nat)(h:aA2 eG eN f0 fK eF fL fM=some fO):Lq 24 rd 29850 (Sg eG eN f0 fK eF fL fM) ((Sh eG eN f0 fK eF) fO):=
 lL (fun s:Int×Int=>Sg eG eN f0 fK eF s.1 s.2) (Sh eG eN f0 fK eF) (fL,fM) (fun⟨fL,fM⟩ o h=>by
 unfold Hl at h
 refine gN 28 Xc.D eF.trans ?_
 refine iB 29 h (fun h=> ?_) fun h=> ?_
 obtain⟨o4,h12,h⟩:=bS h
 refine gl (aA0 rd h12) ?_
 exact lb h
 exact lb h) h
theorem OD(rd:Option Nat)(h:My eG eN f0 fK fL eT eF=some fM):Lq 24 rd 29853 ⟨sp 74 0 [sD 1 dW eG,sD 2 dU eN,bx 3,sD 7 dW f0,sI 8 fK,sD 9 dW fL,sD 66 D.b eT],[cL 3 AD.D eF],[]⟩ (.normal,⟨sp 74 0 [sD 1 dW eG,sD 2 dU eN,bx 3,sD 7 dW f0,sI 8 fK,sD 9 dW fM],[cL 3 AD.D eF],[]⟩):=by unfold My at h;apply g0 (o:=fM);cases eT;replace h:=CF h;exact lp h;replace h:=CG h;obtain⟨h17,h⟩:=cS h;refine gQ h17 ?_;exact lp h
theorem aAy(rd:Option Nat)(h:aAx eG eN f0 fK eF=some fL):Lq 24 rd 466 ⟨sp 74 0 [sD 1 dW eG,sD 2 dU eN,bx 3,sD 7 dW f0,sI 8 fK],[cL 3 AD.D eF],[]⟩ (.normal,⟨sp 74 0 [sD 1 dW eG,sD 2 dU eN,bx 3,sD 7 dW fL,sI 8 fK],[cL 3 AD.D eF],[]⟩):=by unfold aAx at h;apply g0 (o:=fL);obtain⟨h2,h⟩:=cS h;refine gQ h2<|gQ (of_decide_eq_true rfl:(2:Int)≠0) ?_;refine iB 24 h (fun h=> ?_) fun h=> ?_;exact lp h;obtain⟨o5,h13,h⟩:=bS h;refine gl (aA3 rd h13) ?_;refine iB 58 h (fun h=> ?_) fun h=> ?_;refine xX 62 Xb.D h fun x6 h=> ?_;obtain⟨o7,h18,h⟩:=bS h;refine gl (OD rd h18) ?_;exact lp h;obtain⟨o8,h19,h⟩:=bS h;refine gl (OD rd h19) ?_;exact lp h
def Se(s1 s2:Int)(w3:AD)(s7 s8:Int):St:=⟨sp 74 0 [sD 1 dW s1,sD 2 dU s2,bx 3,sD 7 dW s7,sI 8 s8],[cL 3 AD.D w3],[]⟩
def Sf(s1 s2:Int)(w3:AD)(o:Int):Ex×St:=(.exit 0,⟨sp 74 0 [sD 7 dW o],[],[]⟩)
theorem aA1(rd:Option Nat)(h:aJu eG eN eF f0 fK=some fL):Lq 24 rd 58 (Se eG eN eF f0 fK) ((Sf eG eN eF) fL):=
 lL (fun s:Int×Int=>Se eG eN eF s.1 s.2) (Sf eG eN eF) (f0,fK) (fun⟨f0,fK⟩ o h=>by
 unfold GR at h
 refine gN 15 Xb.D eF.states ?_
 refine iB 16 h (fun h=> ?_) fun h=> ?_
 obtain⟨o9,h20,h⟩:=bS h
 refine gl (aAy rd h20) ?_
 exact lb h
 exact lb h) h
theorem aRh(h:Xg eF eG eN=some f0):AL Tryz.prog 24 [.d (AD.D eF),.d (dW eG),.d (dU eN)] [] (.d (dW f0)) []:=by unfold Xg at h;apply g0 (o:=f0);obtain⟨o10,h21,h⟩:=bS h;refine gl (aA1 none h21) ?_;exact lf h
def Vi(s0:List Int)(s1 s5:Int):St:=⟨sp 18 0 [sD 0 (D.l dW) s0,sD 1 dW s1,sI 5 s5],[],[]⟩
def Vj(s0:List Int)(s1:Int)(o:Unit⊕Unit):Ex×St:=match o with
 | .inl o=>(.exit 0,⟨sp 18 0 [],[],[]⟩)
 | .inr o=>(.ret,⟨sp 18 0 [sD 4 D.b true],[],[]⟩)
theorem aFv(rd:Option Nat)(h:aK6 fH eG eN=some eS):Lq 38 rd 26 (Vi fH eG eN) ((Vj fH eG) eS):=
 lL (fun s:Int=>Vi fH eG s) (Vj fH eG) eN (fun eN o h=>by
 unfold Ie at h
 refine gN 8 dW fH ?_
 refine iB 9 h (fun h=> ?_) fun h=> ?_
 refine xX 14 dW h fun x1 h=> ?_
 refine iB 17 h (fun h=> ?_) fun h=> ?_
 exact lb h
 exact lb h
 exact lb h) h
theorem aTg(h:Za fH eG=some eT):AL Tryz.prog 38 [.d ((D.l dW) fH),.d (dW eG)] [] (.d (D.b eT)) []:=by
 unfold Za at h;apply g0 (o:=eT);obtain⟨o2,h4,h⟩:=bS h;refine gl (aFv none h4) ?_;replace h:=AK h;rcases h with⟨o3,rfl,h⟩|⟨o4,rfl,h⟩
 exact lf h;exact lf h
theorem aB9(rd:Option Nat)(h:aB8 fH eG eN f0 eT eF fI=some fJ):Lq 10 rd 500883 ⟨sp 48 0 [bx 3,sD 7 (D.l dU) fH,rx 8,sI 9 eG,sI 10 eN,sD 11 dW f0,sD 42 D.b eT],[cL 3 AD.D eF,(8,.row 32 1 (fI.map dW))],[]⟩ (.normal,⟨sp 48 0 [bx 3,sD 7 (D.l dU) fH,rx 8,sI 9 eG,sI 10 eN],[cL 3 AD.D eF,(8,.row 32 1 (fJ.map dW))],[]⟩):=by unfold aB8 at h;apply g0 (o:=fJ);cases eT;replace h:=CF h;exact lp h;replace h:=CG h;refine gQ (Ar dW [f0])<|gG 46 (.sl ((fI++[f0]).map dW)) (Ar dW [f0]) ?_;obtain⟨h9,h⟩:=cS h;refine gQ (A6 dW h9)<|gQ (A5 dW fI [f0]) ?_;exact lP h [.live [3,7,8,9,10],.keep [3,46],.ren 46 8,.sort]
theorem aB7(rd:Option Nat)(h:aB6 fH eG eN eF fI=some fJ):Lq 10 rd 62610 ⟨sp 48 0 [bx 3,sD 7 (D.l dU) fH,rx 8,sI 9 eG,sI 10 eN],[cL 3 AD.D eF,(8,.row 32 1 (fI.map dW))],[]⟩ (.normal,⟨sp 48 0 [bx 3,sD 7 (D.l dU) fH,rx 8,sI 9 eG,sI 10 eN],[cL 3 AD.D eF,(8,.row 32 1 (fJ.map dW))],[]⟩):=by unfold aB6 at h;apply g0 (o:=fJ);refine xX 32 dW h fun x2 h=> ?_;refine xX 36 dU h fun x3 h=> ?_;obtain⟨r4,h6,h⟩:=bS h;refine gC 38 (aRh h6) ?_;obtain⟨r5,h7,h⟩:=bS h;refine gC 41 (aTg h7) ?_;obtain⟨o6,h10,h⟩:=bS h;refine gl (aB9 rd h10) ?_;exact lp h
def Ta(s7:List Int)(s9:Int)(w3:AD)(s10:Int)(w8:List Int):St:=⟨sp 48 0 [bx 3,sD 7 (D.l dU) s7,rx 8,sI 9 s9,sI 10 s10],[cL 3 AD.D w3,(8,.row 32 1 (w8.map dW))],[]⟩
def Tb(s7:List Int)(s9:Int)(w3:AD)(o:(List Int)):Ex×St:=(.exit 2,⟨sp 48 0 [bx 3,sD 7 (D.l dU) s7,rx 8,sI 9 s9],[cL 3 AD.D w3,(8,.row 32 1 (o.map dW))],[]⟩)
theorem aCb(rd:Option Nat)(h:aJ3 fH eG eF eN fI=some fJ):Lq 10 rd 7826 (Ta fH eG eF eN fI) ((Tb fH eG eF) fJ):=
 lL (fun s:Int×List Int=>Ta fH eG eF s.1 s.2) (Tb fH eG eF) (eN,fI) (fun⟨eN,fI⟩ o h=>by
 unfold H0 at h
 refine gN 25 dU fH ?_
 refine iB 26 h (fun h=> ?_) fun h=> ?_
 obtain⟨o7,h11,h⟩:=bS h
 refine gl (aB7 rd h11) ?_
 exact lb h
 exact lb h) h
def TY(s7:List Int)(w3:AD)(s9:Int)(w8:List Int):St:=⟨sp 48 0 [bx 3,sD 7 (D.l dU) s7,rx 8,sI 9 s9],[cL 3 AD.D w3,(8,.row 32 1 (w8.map dW))],[]⟩
def TZ(s7:List Int)(w3:AD)(o:(List Int)):Ex×St:=(.exit 0,⟨sp 48 0 [rx 8],[(8,.row 32 1 (o.map dW))],[]⟩)
theorem aCa(rd:Option Nat)(h:aJ2 fH eF eG fI=some fJ):Lq 10 rd 122 (TY fH eF eG fI) ((TZ fH eF) fJ):=
 lL (fun s:Int×List Int=>TY fH eF s.1 s.2) (TZ fH eF) (eG,fI) (fun⟨eG,fI⟩ o h=>by
 unfold Hz at h
 refine gN 19 dW fI ?_
 refine iB 20 h (fun h=> ?_) fun h=> ?_
 obtain⟨o8,h12,h⟩:=bS h
 refine gl (aCb rd h12) ?_
 exact lb h
 exact lb h) h
theorem aN4(h:Xr eF eH eG=some fH):AL Tryz.prog 10 [.d (AD.D eF),.d ((D.l X2.D) eH),.d (dW eG)] [] (.d ((D.l dW) fH)) []:=by unfold Xr at h;apply g0 (o:=fH);obtain⟨r1,h1,h⟩:=bS h;refine gC 14 (aRr h1)<|gQ (Ar dW [eG]) ?_;obtain⟨o9,h13,h⟩:=bS h;refine gL [.live [3,7,8,9],.keep [3,16],.ren 16 8,.sort] (aCa none h13) ?_;exact lf h
def Vk(s1:Int)(w2:AD)(s5:Int):St:=⟨sp 27 0 [sD 1 dW s1,bx 2,sI 5 s5],[cL 2 AD.D w2],[]⟩
def Vl(s1:Int)(w2:AD)(o:Unit⊕Unit):Ex×St:=match o with
 | .inl o=>(.exit 0,⟨sp 27 0 [],[],[]⟩)
 | .inr o=>(.ret,⟨sp 27 0 [sD 4 D.b true],[],[]⟩)
theorem aFw(rd:Option Nat)(h:aK7 eG eF eN=some eS):Lq 25 rd 26 (Vk eG eF eN) ((Vl eG eF) eS):=
 lL (fun s:Int=>Vk eG eF s) (Vl eG eF) eN (fun eN o h=>by
 unfold If at h
 refine gN 9 Xb.D eF.states ?_
 refine iB 10 h (fun h=> ?_) fun h=> ?_
 obtain⟨h2,h⟩:=cS h
 refine gQ h2<|gQ (of_decide_eq_true rfl:(2:Int)≠0) ?_
 refine iB 19 h (fun h=> ?_) fun h=> ?_
 refine xX 23 Xb.D h fun x1 h=> ?_
 refine iB 26 h (fun h=> ?_) fun h=> ?_
 exact lb h
 exact lb h
 exact lb h
 exact lb h) h
theorem aTh(h:Zb eF eG=some eT):AL Tryz.prog 25 [.d (AD.D eF),.d (dW eG)] [] (.d (D.b eT)) []:=by
 unfold Zb at h;apply g0 (o:=eT);obtain⟨o2,h6,h⟩:=bS h;refine gl (aFw none h6) ?_;replace h:=AK h;rcases h with⟨o3,rfl,h⟩|⟨o4,rfl,h⟩
 exact lf h;exact lf h
theorem aEh(rd:Option Nat)(h:aEg fH eG eN eT eF=some f0):Lq 13 rd 3913 ⟨sp 34 0 [bx 3,sD 7 (D.l dW) fH,sI 8 eG,sI 9 eN,sD 25 D.b eT],[cL 3 AD.D eF],[]⟩ (.normal,⟨sp 34 0 [bx 3,sD 7 (D.l dW) fH,sI 8 f0,sI 9 eN],[cL 3 AD.D eF],[]⟩):=by unfold aEg at h;apply g0 (o:=f0);cases eT;replace h:=CF h;exact lp h;replace h:=CG h;exact lp h
theorem aEf(rd:Option Nat)(h:aEe fH eG eN eF=some f0):Lq 13 rd 978 ⟨sp 34 0 [bx 3,sD 7 (D.l dW) fH,sI 8 eG,sI 9 eN],[cL 3 AD.D eF],[]⟩ (.normal,⟨sp 34 0 [bx 3,sD 7 (D.l dW) fH,sI 8 f0,sI 9 eN],[cL 3 AD.D eF],[]⟩):=by unfold aEe at h;apply g0 (o:=f0);refine xX 23 dW h fun x2 h=> ?_;obtain⟨r3,h4,h⟩:=bS h;refine gC 25 (aTh h4) ?_;obtain⟨o4,h6,h⟩:=bS h;refine gl (aEh rd h6) ?_;exact lp h
def Uf(s7:List Int)(w3:AD)(s8 s9:Int):St:=⟨sp 34 0 [bx 3,sD 7 (D.l dW) s7,sI 8 s8,sI 9 s9],[cL 3 AD.D w3],[]⟩
def Ug(s7:List Int)(w3:AD)(o:Int):Ex×St:=(.exit 0,⟨sp 34 0 [sD 7 (D.l dW) s7,sI 8 o],[],[]⟩)
theorem aEi(rd:Option Nat)(h:aKj fH eF eG eN=some f0):Lq 13 rd 122 (Uf fH eF eG eN) ((Ug fH eF) f0):=
 lL (fun s:Int×Int=>Uf fH eF s.1 s.2) (Ug fH eF) (eG,eN) (fun⟨eG,eN⟩ o h=>by
 unfold IJ at h
 refine gN 16 dW fH ?_
 refine iB 17 h (fun h=> ?_) fun h=> ?_
 obtain⟨o5,h7,h⟩:=bS h
 refine gl (aEf rd h7) ?_
 exact lb h
 exact lb h) h
theorem aSj(h:Yb eF eH eG=some eN):AL Tryz.prog 13 [.d (AD.D eF),.d ((D.l X2.D) eH),.d (dW eG)] [] (dI eN) []:=by unfold Yb at h;apply g0 (o:=eN);obtain⟨r1,h1,h⟩:=bS h;refine gC 13 (aN4 h1)<|gW 30 (.int (r1.length:Int)) ?_;obtain⟨o6,h8,h⟩:=bS h;refine gl (aEi none h8)<|gQ (ET dW r1) ?_;refine iB 31 h (fun h=> ?_) fun h=> ?_;exact lf h;refine iB 33 h (fun h=> ?_) fun h=> ?_;exact lf h;exact lf h
def UB(s7 s8:List Int)(s9:Int)(s10:Bool)(s11:Int):St:=⟨sp 93 0 [sD 7 (D.l dW) s7,sD 8 (D.l dW) s8,sI 9 s9,sD 10 D.b s10,sI 11 s11],[],[]⟩
def UC(s7 s8:List Int)(s9:Int)(o:Bool):Ex×St:=(.exit 2,⟨sp 93 0 [sD 7 (D.l dW) s7,sD 8 (D.l dW) s8,sI 9 s9,sD 10 D.b o],[],[]⟩)
theorem aC4(rd:Option Nat)(h:aKc fH fI eG eT eN=some eW):Lq 3 rd 129610 (UB fH fI eG eT eN) ((UC fH fI eG) eW):=
 lL (fun s:Bool×Int=>UB fH fI eG s.1 s.2) (UC fH fI eG) (eT,eN) (fun⟨eT,eN⟩ o h=>by
 unfold IA at h
 refine gN 58 dW fH ?_
 refine iB 59 h (fun h=> ?_) fun h=> ?_
 refine iB 63 h (fun h=> ?_) fun h=> ?_
 exact lb h
 refine xX 66 dW h fun x8 h=> ?_
 refine xX 70 dW h fun x9 h=> ?_
 exact lb h
 exact lb h) h
def T9(s7 s8:List Int)(s9:Int):St:=⟨sp 93 0 [sD 7 (D.l dW) s7,sD 8 (D.l dW) s8,sI 9 s9],[],[]⟩
def UA(s7 s8:List Int)(o:Unit⊕Unit):Ex×St:=match o with
 | .inl o=>(.exit 0,⟨sp 93 0 [],[],[]⟩)
 | .inr o=>(.ret,⟨sp 93 0 [sD 6 D.b false],[],[]⟩)
theorem aC3(rd:Option Nat)(h:aKb fH fI eG=some eS):Lq 3 rd 506 (T9 fH fI eG) ((UA fH fI) eS):=
 lL (fun s:Int=>T9 fH fI s) (UA fH fI) eG (fun eG o h=>by
 unfold H9 at h
 refine gN 52 dW fI ?_
 refine iB 53 h (fun h=> ?_) fun h=> ?_
 obtain⟨o10,h18,h⟩:=bS h
 refine gl (aC4 rd h18) ?_
 refine iB 76 h (fun h=> ?_) fun h=> ?_
 exact lb h
 refine iB 79 h (fun h=> ?_) fun h=> ?_
 refine xX 82 dW h fun x11 h=> ?_
 refine xX 87 dW h fun x12 h=> ?_
 refine iB 91 h (fun h=> ?_) fun h=> ?_
 exact lb h
 exact lb h
 exact lb h
 exact lb h) h
theorem aR5(h:Xz eF eH eG=some eT):AL Tryz.prog 3 [.d (AD.D eF),.d ((D.l X2.D) eH),.d (dW eG)] [] (.d (D.b eT)) []:=by
 unfold Xz at h;apply g0 (o:=eT);obtain⟨r1,h1,h⟩:=bS h;refine gC 14 (aQl h1) ?_;refine iB 16 h (fun h=> ?_) fun h=> ?_;obtain⟨r2,h3,h⟩:=bS h;refine gC 25 (aLh h3) ?_;exact lf h;refine gN 20 Xb.D eF.states ?_;obtain⟨h4,h⟩:=cS h;refine gQ h4 ?_;refine iB 24 h (fun h=> ?_) fun h=> ?_;obtain⟨r3,h6,h⟩:=bS h;refine gC 25 (aLh h6) ?_;exact lf h;obtain⟨r4,h7,h⟩:=bS h;refine gC 29 (aN4 h7)<|gW 37 (.int (r4.length:Int)) ?_;obtain⟨r5,h8,h⟩:=bS h;refine gC 33 (aOr h8)<|gN 35 dW r5<|gQ (ET dW r4) ?_;refine iB 39 h (fun h=> ?_) fun h=> ?_;exact lf h;obtain⟨r6,h10,h⟩:=bS h;refine gC 43 (aOk h10) ?_;obtain⟨r7,h11,h⟩:=bS h;refine gC 47 (aSj h11) ?_;refine iB 49 h (fun h=> ?_) fun h=> ?_;exact lf h;obtain⟨o13,h24,h⟩:=bS h;refine gl (aC3 none h24) ?_;replace h:=AK h;rcases h with⟨o14,rfl,h⟩|⟨o15,rfl,h⟩
 obtain⟨r16,h25,h⟩:=bS h;refine gC 92 (aLh h25) ?_;exact lf h;exact lf h
end Go.Ac
