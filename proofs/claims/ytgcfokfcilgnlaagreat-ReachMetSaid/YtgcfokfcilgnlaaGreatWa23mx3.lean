/- Own work, printed: the functions compute these. -/
import Derived.Test.YtgcfokfcilgnlaaGreatWa23mx2
set_option linter.unusedVariables false
set_option linter.unusedSimpArgs false
namespace Go.Ac
open Go.Proofs
variable {eF:AD}
variable {eG eN f0 fK fL fM fO:Int}
variable {eH eR eU:List X2}
variable {eI eK:List X0}
variable {eL:List X8}
variable {eM eX:X0}
variable {eO:Unit⊕X0}
variable {eQ:X0×Bool}
variable {eS:Unit⊕Unit}
variable {eT eW:Bool}
variable {eV:(List X2)}
variable {eY:X2}
variable {eZ:X8}
variable {f8:X3}
variable {f9:Ar}
variable {fA:BW}
variable {fB:(List X2)⊕Unit}
variable {fC:(List X2×List X2)⊕Unit}
variable {fD:Ar×Bool}
variable {fE fG:List Ar}
variable {fF:(List Ar)}
variable {fH fI fP:List Int}
variable {fJ:(List Int)}
variable {fN:Xd}
variable {fQ:List BW}
variable {fR:Unit⊕Int}
variable {fS:List X3}
theorem aGt(rd:Option Nat)(self:AD->Int->(List X2)->(List X0)->(List X0)->Option (List X8))(hs:∀(a0:AD) (a1:Int) (a2:List X2) (a3 a4:List X0) (r:List X8),self a0 a1 a2 a3 a4=some r->AL Tryz.prog 54 [.d (AD.D a0),dI a1,.d ((D.l X2.D) a2),.d ((D.l X0.D) a3),.d ((D.l X0.D) a4)] [] (.d ((D.l X8.D) r)) []){s1:Int}{s2:List X2}{s3 s4 s12:List X0}{w5:AD}{s13:Int}{w11:List X8}{t:(List X8)}(h:aNu self s1 s2 s3 s4 s12 w5 s13 w11=some t):Lq 54 rd 250 (Vc s1 s2 s3 s4 s12 w5 s13 w11) ((Vd s1 s2 s3 s4 s12 w5) t):=
 lL (fun s:Int×List X8=>Vc s1 s2 s3 s4 s12 w5 s.1 s.2) (Vd s1 s2 s3 s4 s12 w5) (s13,w11) (fun⟨s13,w11⟩ o h=>by
 unfold Ib at h
 refine gN 50 X0.D s12 ?_
 refine iB 51 h (fun h=>?_) fun h=>?_
 refine gQ (Ap X0.D ([]:List X0))<|gG 56 (.sl ((([]:List X0)++s4).map X0.D)) (Ap X0.D s4) ?_
 obtain⟨h14,h⟩:=cS h
 refine gQ (Av X0.D h14)<|gQ (Au X0.D ([]:List X0) s4)<|xX 59 X0.D h fun x8 h=>?_
 refine gQ (Ap X0.D [x8])<|gG 62 (.sl (((([]:List X0)++s4)++[x8]).map X0.D)) (Ap X0.D [x8]) ?_
 obtain⟨h16,h⟩:=cS h
 refine gQ (Av X0.D h16)<|gQ (Au X0.D (([]:List X0)++s4) [x8]) ?_
 obtain⟨r9,h17,h⟩:=bS h
 refine gG 69 (.ret (.d ((D.l X8.D) r9))) (hs w5 s1 s2 s3 ((([]:List X0)++s4)++[x8]) r9 h17)<|gG 70 (.sl ((w11++r9).map X8.D)) (Ap X8.D r9) ?_
 obtain⟨h18,h⟩:=cS h
 refine gQ (Av X8.D h18)<|gQ (Au X8.D w11 r9) ?_
 exact lB h [.live [1,2,3,4,5,11,12,13],.keep [5,70],.ren 70 11,.sort]
 exact lb h) h
theorem aNt(self:AD->Int->(List X2)->(List X0)->(List X0)->Option (List X8))(hs:∀(a0:AD) (a1:Int) (a2:List X2) (a3 a4:List X0) (r:List X8),self a0 a1 a2 a3 a4=some r->AL Tryz.prog 54 [.d (AD.D a0),dI a1,.d ((D.l X2.D) a2),.d ((D.l X0.D) a3),.d ((D.l X0.D) a4)] [] (.d ((D.l X8.D) r)) [])(a0:AD)(a1:Int)(a2:List X2)(a3 a4:List X0)(r:List X8)(h:aR4 self a0 a1 a2 a3 a4=some r):AL Tryz.prog 54 [.d (AD.D a0),dI a1,.d ((D.l X2.D) a2),.d ((D.l X0.D) a3),.d ((D.l X0.D) a4)] [] (.d ((D.l X8.D) r)) []:=by unfold aR4 at h;apply g0 (o:=r);refine gN 16 X0.D a4<|xX 20 Xe.D h fun x1 h=>?_;refine gN 23 dZ x1.types ?_;refine iB 24 h (fun h=>?_) fun h=>?_;refine xX 28 Xe.D h fun x2 h=>?_;refine gQ (Ap X8.D [X8.mk x2.name a4]) ?_;exact lf h;refine gW 42 (.int (a4.length:Int))<|xX 38 Xe.D h fun x3 h=>?_;refine gQ (Ee X0.D a4)<|xX 43 dZ h fun x4 h=>?_;obtain⟨r5,h6,h⟩:=bS h;refine gC 47 (aWb h6) ?_;obtain⟨o10,h19,h⟩:=bS h;refine gL [.live [1,2,3,4,5,11,12,13],.keep [5],.nil 11 11 70 2,.sort] (aGt none self hs h19) ?_;exact lf h
theorem Ve:∀(n:Nat) (a0:AD) (a1:Int) (a2:List X2) (a3 a4:List X0) (r:List X8),aK9 n a0 a1 a2 a3 a4=some r->AL Tryz.prog 54 [.d (AD.D a0),dI a1,.d ((D.l X2.D) a2),.d ((D.l X0.D) a3),.d ((D.l X0.D) a4)] [] (.d ((D.l X8.D) r)) []
 |0,a0,a1,a2,a3,a4,r,h=>by simp[aK9]at h
 |n+1,a0,a1,a2,a3,a4,r,h=>aNt _ (Ve n) a0 a1 a2 a3 a4 r h
theorem aWa(h:Y8 eF eG eH eI eK=some eL):AL Tryz.prog 54 [.d (AD.D eF),dI eG,.d ((D.l X2.D) eH),.d ((D.l X0.D) eI),.d ((D.l X0.D) eK)] [] (.d ((D.l X8.D) eL)) []:=Ve 100000 eF eG eH eI eK eL h
def Vw(s0:List X2)(s1:Int)(w4:X0)(s6:Int):St:=⟨sp 26 0 [sD 0 (D.l X2.D) s0,sI 1 s1,bx 4,sI 6 s6],[cL 4 X0.D w4],[]⟩
def Vy(s0:List X2)(s1:Int)(w4:X0)(o:Unit⊕X0):Ex×St:=match o with
 | .inl o=>(.exit 0,⟨sp 26 0 [bx 4],[cL 4 X0.D w4],[]⟩)
 | .inr o=>(.ret,⟨sp 26 0 [bx 4,sD 5 D.b true],[cL 4 X0.D o],[]⟩)
theorem aHv(rd:Option Nat)(h:aN3 eH eG eM eN=some eO):Lq 123 rd 26 (Vw eH eG eM eN) ((Vy eH eG eM) eO):=
 lL (fun s:Int=>Vw eH eG eM s) (Vy eH eG eM) eN (fun eN o h=>by
 unfold Kx at h
 refine gN 9 X2.D eH ?_
 refine iB 10 h (fun h=>?_) fun h=>?_
 refine xX 15 X2.D h fun x1 h=>?_
 refine iB 19 h (fun h=>?_) fun h=>?_
 refine xX 22 X2.D h fun x2 h=>?_
 exact lb h
 exact lb h
 exact lb h) h
theorem Vz(h:Yk eH eG=some eQ):AL Tryz.prog 123 [.d ((D.l X2.D) eH),dI eG] [] (.tup [.d (X0.D eQ.1),.d (D.b eQ.2)]) []:=by
 unfold Yk at h;apply g0 (o:=eQ);obtain⟨o3,h5,h⟩:=bS h;refine gl (aHv none h5) ?_;replace h:=AK h;rcases h with⟨o4,rfl,h⟩|⟨o5,rfl,h⟩
 exact lf h;exact lf h
def We(s0 s1:List X2)(s5:Int):St:=⟨sp 34 0 [sD 0 (D.l X2.D) s0,sD 1 (D.l X2.D) s1,sI 5 s5],[],[]⟩
def Wg(s0 s1:List X2)(o:Unit⊕Unit):Ex×St:=match o with
 | .inl o=>(.exit 0,⟨sp 34 0 [],[],[]⟩)
 | .inr o=>(.ret,⟨sp 34 0 [sD 4 D.b false],[],[]⟩)
theorem aIo(rd:Option Nat)(h:aOg eH eR eG=some eS):Lq 124 rd 26 (We eH eR eG) ((Wg eH eR) eS):=
 lL (fun s:Int=>We eH eR s) (Wg eH eR) eG (fun eG o h=>by
 unfold K0 at h
 refine gN 10 X2.D eH ?_
 refine iB 11 h (fun h=>?_) fun h=>?_
 refine xX 18 X2.D h fun x1 h=>?_
 obtain⟨r2,h3,h⟩:=bS h
 refine gC 21 (Vz h3) ?_
 refine iB 25 h (fun h=>?_) fun h=>?_
 refine xX 29 X2.D h fun x3 h=>?_
 refine iB 33 h (fun h=>?_) fun h=>?_
 exact lb h
 exact lb h
 exact lb h
 exact lb h) h
theorem aW6(h:Z7 eH eR=some eT):AL Tryz.prog 124 [.d ((D.l X2.D) eH),.d ((D.l X2.D) eR)] [] (.d (D.b eT)) []:=by
 unfold Z7 at h;apply g0 (o:=eT);obtain⟨o4,h7,h⟩:=bS h;refine gl (aIo none h7) ?_;replace h:=AK h;rcases h with⟨o5,rfl,h⟩|⟨o6,rfl,h⟩
 exact lf h;exact lf h
theorem aGi(rd:Option Nat)(h:aGh eH eR eG eT eU eM=some eV):Lq 125 rd 29855 ⟨sp 42 0 [sD 0 (D.l X2.D) eH,sD 1 (D.l X2.D) eR,rx 5,sI 6 eG,bx 9,sD 34 D.b eT],[(5,.row 64 5 (eU.map X2.D)),cL 9 X0.D eM],[]⟩ (.normal,⟨sp 42 0 [sD 0 (D.l X2.D) eH,sD 1 (D.l X2.D) eR,rx 5,sI 6 eG],[(5,.row 64 5 (eV.map X2.D))],[]⟩):=by unfold aGh at h;apply g0 (o:=eV);cases eT;replace h:=By h;exact lp h;replace h:=Bz h;refine gQ (Ap X2.D [X2.mk eG eM])<|gG 40 (.sl ((eU++[X2.mk eG eM]).map X2.D)) (Ap X2.D [X2.mk eG eM]) ?_;obtain⟨h17,h⟩:=cS h;refine gQ (Av X2.D h17)<|gQ (Au X2.D eU [X2.mk eG eM]) ?_;exact lP h [.live [0,1,5,6],.keep [40],.ren 40 5,.sort]
theorem aGg(rd:Option Nat)(h:aGf eH eR eG eT eW eU eM eX=some eV):Lq 125 rd 7463 ⟨sp 42 0 [sD 0 (D.l X2.D) eH,sD 1 (D.l X2.D) eR,rx 5,sI 6 eG,bx 7,bx 9,sD 10 D.b eT,sD 27 D.b eW],[(5,.row 64 5 (eU.map X2.D)),cL 7 X0.D eM,cL 9 X0.D eX],[]⟩ (.normal,⟨sp 42 0 [sD 0 (D.l X2.D) eH,sD 1 (D.l X2.D) eR,rx 5,sI 6 eG],[(5,.row 64 5 (eV.map X2.D))],[]⟩):=by unfold aGf at h;apply g0 (o:=eV);cases eW;replace h:=By h;obtain⟨o8,h18,h⟩:=bS h;refine gl (aGi rd h18) ?_;exact lp h;replace h:=Bz h;refine gQ (Ap X2.D [X2.mk eG eM])<|gG 33 (.sl ((eU++[X2.mk eG eM]).map X2.D)) (Ap X2.D [X2.mk eG eM]) ?_;obtain⟨h15,h⟩:=cS h;refine gQ (Av X2.D h15)<|gQ (Au X2.D eU [X2.mk eG eM]) ?_;exact lP h [.live [0,1,5,6],.keep [33],.ren 33 5,.sort]
theorem aGe(rd:Option Nat)(h:aGd eH eR eG eU=some eV):Lq 125 rd 466 ⟨sp 42 0 [sD 0 (D.l X2.D) eH,sD 1 (D.l X2.D) eR,rx 5,sI 6 eG],[(5,.row 64 5 (eU.map X2.D))],[]⟩ (.normal,⟨sp 42 0 [sD 0 (D.l X2.D) eH,sD 1 (D.l X2.D) eR,rx 5,sI 6 eG],[(5,.row 64 5 (eV.map X2.D))],[]⟩):=by unfold aGd at h;apply g0 (o:=eV);obtain⟨r6,h12,h⟩:=bS h;refine gC 18 (Vz h12) ?_;obtain⟨r7,h13,h⟩:=bS h;refine gC 24 (Vz h13) ?_;obtain⟨o9,h19,h⟩:=bS h;refine gl (aGg rd h19) ?_;exact lp h
def VT(s0 s1:List X2)(s6:Int)(w5:List X2):St:=⟨sp 42 0 [sD 0 (D.l X2.D) s0,sD 1 (D.l X2.D) s1,rx 5,sI 6 s6],[(5,.row 64 5 (w5.map X2.D))],[]⟩
def VU(s0 s1:List X2)(o:(List X2)):Ex×St:=(.exit 0,⟨sp 42 0 [rx 5],[(5,.row 64 5 (o.map X2.D))],[]⟩)
theorem aGj(rd:Option Nat)(h:aNs eH eR eG eU=some eV):Lq 125 rd 58 (VT eH eR eG eU) ((VU eH eR) eV):=
 lL (fun s:Int×List X2=>VT eH eR s.1 s.2) (VU eH eR) (eG,eU) (fun⟨eG,eU⟩ o h=>by
 unfold IZ at h
 refine iB 12 h (fun h=>?_) fun h=>?_
 obtain⟨o10,h20,h⟩:=bS h
 refine gl (aGe rd h20) ?_
 exact lb h
 exact lb h) h
theorem aV8(h:Y5 eH eR=some eU):AL Tryz.prog 125 [.d ((D.l X2.D) eH),.d ((D.l X2.D) eR)] [] (.d ((D.l X2.D) eU)) []:=by unfold Y5 at h;apply g0 (o:=eU);obtain⟨o11,h21,h⟩:=bS h;refine gL [.live [0,1,5,6],.keep [],.nil 5 5 64 5,.sort] (aGj none h21) ?_;exact lf h
def WU(s0:List X2)(w3:X2)(s5:Int):St:=⟨sp 38 0 [sD 0 (D.l X2.D) s0,bx 3,sI 5 s5],[cL 3 X2.D w3],[]⟩
def WV(s0:List X2)(w3:X2)(o:Int):Ex×St:=(.exit 0,⟨sp 38 0 [sD 0 (D.l X2.D) s0,bx 3,sI 5 o],[cL 3 X2.D w3],[]⟩)
theorem aIj(rd:Option Nat)(h:aOd eH eY eG=some eN):Lq 126 rd 28 (WU eH eY eG) ((WV eH eY) eN):=
 lL (fun s:Int=>WU eH eY s) (WV eH eY) eG (fun eG o h=>by
 unfold Ir at h
 refine iB 11 h (fun h=>?_) fun h=>?_
 refine xX 15 X2.D h fun x1 h=>?_
 refine iB 21 h (fun h=>?_) fun h=>?_
 exact lb h
 exact lb h
 exact lb h) h
theorem aWz(h:Z2 eH eY=some eR):AL Tryz.prog 126 [.d ((D.l X2.D) eH),.d (X2.D eY)] [] (.d ((D.l X2.D) eR)) []:=by unfold Z2 at h;apply g0 (o:=eR);refine gN 8 X2.D eH ?_;obtain⟨o2,h4,h⟩:=bS h;refine gl (aIj none h4)<|gQ (Ap X2.D ([]:List X2))<|gW 27 (.sl ((sub eH 0 o2).map X2.D))<|gW 28 (.sl ((([]:List X2)++(sub eH 0 o2)).map X2.D))<|gW 32 (.sl (((([]:List X2)++(sub eH 0 o2))++[eY]).map X2.D))<|gW 36 (.sl ((sub eH o2 (eH.length:Int)).map X2.D))<|gW 37 (.sl ((((([]:List X2)++(sub eH 0 o2))++[eY])++(sub eH o2 (eH.length:Int))).map X2.D)) ?_;obtain⟨h5,h⟩:=cS h;refine gQ (F4 X2.D h5)<|gQ (Ap X2.D (sub eH 0 o2)) ?_;obtain⟨h6,h⟩:=cS h;refine gQ (Av X2.D h6)<|gQ (Au X2.D ([]:List X2) (sub eH 0 o2))<|gQ (Ap X2.D [eY])<|gQ (Ap X2.D [eY]) ?_;obtain⟨h7,h⟩:=cS h;refine gQ (Av X2.D h7)<|gQ (Au X2.D (([]:List X2)++(sub eH 0 o2)) [eY]) ?_;obtain⟨h8,h⟩:=cS h;refine gQ (F3 X2.D h8)<|gQ (Ap X2.D (sub eH o2 (eH.length:Int))) ?_;obtain⟨h9,h⟩:=cS h;refine gQ (Av X2.D h9)<|gQ (Au X2.D ((([]:List X2)++(sub eH 0 o2))++[eY]) (sub eH o2 (eH.length:Int))) ?_;exact lf h
theorem O2(rd:Option Nat)(h:UM eG eH eR eN eT eZ f0 f8 f9 fA eU=some fB):Lq 87 rd 521373 ⟨sp 121 0 [sI 1 eG,bx 5,bx 6,bx 8,bx 9,sD 10 (D.l X2.D) eH,sD 11 (D.l X2.D) eR,sI 12 eN,bx 13,rx 14,sD 80 D.b eT],[cL 5 X8.D eZ,(6,.cells ([dI f0,.nil,.nil])),cL 8 X3.D f8,cL 9 Ar.D f9,cL 13 BW.D fA,(14,.row 64 5 (eU.map X2.D))],[]⟩ (match (generalizing:=false) fB with
 | .inl fB=>(.normal,⟨sp 121 0 [sI 1 eG,bx 5,bx 6,bx 8,bx 9,sD 10 (D.l X2.D) fB,sD 11 (D.l X2.D) eR,sI 12 eN,bx 13,rx 14],[cL 5 X8.D eZ,(6,.cells ([dI f0,.nil,.nil])),cL 8 X3.D f8,cL 9 Ar.D f9,cL 13 BW.D fA,(14,.row 64 5 (eU.map X2.D))],[]⟩)
 | .inr fB=>(.ret,⟨sp 121 0 [bx 6,sD 7 D.b false],[cL 6 Ar.D f9],[]⟩)):=by
 unfold UM at h
 apply g0 (o:=fB)
 cases eT
 replace h:=By h
 exact lp h
 replace h:=Bz h
 obtain⟨r32,h37,h⟩:=bS h
 refine gC 83 (aW6 h37) ?_
 refine iB 84 h (fun h=>?_) fun h=>?_
 exact lp h
 obtain⟨r33,h39,h⟩:=bS h
 refine gC 88 (aV8 h39) ?_
 exact lp h
theorem O4(rd:Option Nat)(h:UO eG eH eR eN eT eZ f0 f8 f9 eU=some eV):Lq 87 rd 8342007 ⟨sp 121 0 [sI 1 eG,bx 5,bx 6,bx 8,bx 9,sD 10 (D.l X2.D) eH,sD 11 (D.l X2.D) eR,sI 12 eN,rx 14,sD 111 D.b eT],[cL 5 X8.D eZ,(6,.cells ([dI f0,.nil,.nil])),cL 8 X3.D f8,cL 9 Ar.D f9,(14,.row 64 5 (eU.map X2.D))],[]⟩ (.normal,⟨sp 121 0 [sI 1 eG,bx 5,bx 6,bx 8,bx 9,sD 10 (D.l X2.D) eH,sD 11 (D.l X2.D) eV,sI 12 eN],[cL 5 X8.D eZ,(6,.cells ([dI f0,.nil,.nil])),cL 8 X3.D f8,cL 9 Ar.D f9],[]⟩):=by unfold UO at h;apply g0 (o:=eV);cases eT;replace h:=By h;exact lp h;replace h:=Bz h;refine xX 114 X2.D h fun x39 h=>?_;obtain⟨r40,h48,h⟩:=bS h;refine gC 116 (aWz h48) ?_;exact lp h
theorem O3(rd:Option Nat)(h:UN eG eH eR eN eT eZ f0 f8 f9 fA eU=some fB):Lq 87 rd 521375 ⟨sp 121 0 [sI 1 eG,bx 5,bx 6,bx 8,bx 9,sD 10 (D.l X2.D) eH,sD 11 (D.l X2.D) eR,sI 12 eN,bx 13,rx 14,sD 91 D.b eT],[cL 5 X8.D eZ,(6,.cells ([dI f0,.nil,.nil])),cL 8 X3.D f8,cL 9 Ar.D f9,cL 13 BW.D fA,(14,.row 64 5 (eU.map X2.D))],[]⟩ (match (generalizing:=false) fB with
 | .inl fB=>(.normal,⟨sp 121 0 [sI 1 eG,bx 5,bx 6,bx 8,bx 9,sD 10 (D.l X2.D) eH,sD 11 (D.l X2.D) fB,sI 12 eN],[cL 5 X8.D eZ,(6,.cells ([dI f0,.nil,.nil])),cL 8 X3.D f8,cL 9 Ar.D f9],[]⟩)
 | .inr fB=>(.ret,⟨sp 121 0 [bx 6,sD 7 D.b false],[cL 6 Ar.D f9],[]⟩)):=by
 unfold UN at h
 apply g0 (o:=fB)
 cases eT
 replace h:=By h
 exact lp h
 replace h:=Bz h
 obtain⟨r37,h42,h⟩:=bS h
 refine gC 96 (Vz h42) ?_
 refine iB 100 h (fun h=>?_) fun h=>?_
 refine xX 105 X0.D h fun x38 h=>?_
 refine iB 108 h (fun h=>?_) fun h=>?_
 exact lp h
 obtain⟨o41,h49,h⟩:=bS h
 refine gl (O4 rd h49) ?_
 exact lp h
 obtain⟨o42,h50,h⟩:=bS h
 refine gl (O4 rd h50) ?_
 exact lp h
theorem aEt(rd:Option Nat)(h:aEs eG eH eR eN eZ f0 f8 f9=some fC):Lq 87 rd 8146 ⟨sp 121 0 [sI 1 eG,bx 5,bx 6,bx 8,bx 9,sD 10 (D.l X2.D) eH,sD 11 (D.l X2.D) eR,sI 12 eN],[cL 5 X8.D eZ,(6,.cells ([dI f0,.nil,.nil])),cL 8 X3.D f8,cL 9 Ar.D f9],[]⟩ (match (generalizing:=false) fC with
 | .inl fC=>(.normal,⟨sp 121 0 [sI 1 eG,bx 5,bx 6,bx 8,bx 9,sD 10 (D.l X2.D) fC.1,sD 11 (D.l X2.D) fC.2,sI 12 eN],[cL 5 X8.D eZ,(6,.cells ([dI f0,.nil,.nil])),cL 8 X3.D f8,cL 9 Ar.D f9],[]⟩)
 | .inr fC=>(.ret,⟨sp 121 0 [bx 6,sD 7 D.b false],[cL 6 Ar.D f9],[]⟩)):=by
 unfold aEs at h
 apply g0 (o:=fC)
 refine xX 53 BW.D h fun x29 h=>?_
 refine xX 60 X0.D h fun x30 h=>?_
 refine gQ (Ap X2.D [X2.mk x29.n x30]) ?_
 refine iB 67 h (fun h=>?_) fun h=>?_
 refine xX 73 X0.D h fun x31 h=>?_
 refine iB 76 h (fun h=>?_) fun h=>?_
 exact lp h
 obtain⟨o34,h40,h⟩:=bS h
 refine gL [.live [1,5,6,8,9,10,11,12,13,14,80],.keep [5,6,8,9,13,63],.ren 63 14,.sort] (O2 rd h40) ?_
 replace h:=AK h
 rcases h with⟨o35,rfl,h⟩|⟨o36,rfl,h⟩
 obtain⟨o43,h51,h⟩:=bS h
 refine gl (O3 rd h51) ?_
 replace h:=AK h
 rcases h with⟨o44,rfl,h⟩|⟨o45,rfl,h⟩
 exact lp h
 exact lp h
 exact lp h
 obtain⟨o46,h52,h⟩:=bS h
 refine gL [.live [1,5,6,8,9,10,11,12,13,14,80],.keep [5,6,8,9,13,63],.ren 63 14,.sort] (O2 rd h52) ?_
 replace h:=AK h
 rcases h with⟨o47,rfl,h⟩|⟨o48,rfl,h⟩
 obtain⟨o49,h53,h⟩:=bS h
 refine gl (O3 rd h53) ?_
 replace h:=AK h
 rcases h with⟨o50,rfl,h⟩|⟨o51,rfl,h⟩
 exact lp h
 exact lp h
 exact lp h
def UP(s1:Int)(w5:X8)(w6:Int)(w8:X3)(w9:Ar)(s10 s11:List X2)(s12:Int):St:=⟨sp 121 0 [sI 1 s1,bx 5,bx 6,bx 8,bx 9,sD 10 (D.l X2.D) s10,sD 11 (D.l X2.D) s11,sI 12 s12],[cL 5 X8.D w5,(6,.cells ([dI w6,.nil,.nil])),cL 8 X3.D w8,cL 9 Ar.D w9],[]⟩
def UQ(s1:Int)(w5:X8)(w6:Int)(w8:X3)(w9:Ar)(o:(List X2×List X2)⊕Unit):Ex×St:=match o with
 | .inl o=>(.exit 0,⟨sp 121 0 [sI 1 s1,bx 6,sD 10 (D.l X2.D) o.1,sD 11 (D.l X2.D) o.2],[(6,.cells ([dI w6,.nil,.nil]))],[]⟩)
 | .inr o=>(.ret,⟨sp 121 0 [bx 6,sD 7 D.b false],[cL 6 Ar.D w9],[]⟩)
theorem aEu(rd:Option Nat)(h:QM eG eZ eN f8 f9 eH eR f0=some fC):Lq 87 rd 1018 (UP eG eZ eN f8 f9 eH eR f0) ((UQ eG eZ eN f8 f9) fC):=
 lL (fun s:List X2×List X2×Int=>UP eG eZ eN f8 f9 s.1 s.2.1 s.2.2) (UQ eG eZ eN f8 f9) (eH,eR,f0) (fun⟨eH,eR,f0⟩ o h=>by
 unfold IK at h
 refine gN 46 BW.D f8.args ?_
 refine iB 47 h (fun h=>?_) fun h=>?_
 obtain⟨o52,h54,h⟩:=bS h
 refine gl (aEt rd h54) ?_
 replace h:=AK h
 rcases h with⟨o53,rfl,h⟩|⟨o54,rfl,h⟩
 exact lb h
 exact lb h
 exact lb h) h
theorem aVo(h:Xq eF eG eZ=some fD):AL Tryz.prog 87 [.d (AD.D eF),dI eG,.d (X8.D eZ)] [] (.tup [.d (Ar.D fD.1),.d (D.b fD.2)]) []:=by
 unfold Xq at h;apply g0 (o:=fD);refine xX 20 X3.D h fun x1 h=>?_;refine xX 27 Xe.D h fun x2 h=>?_;refine iB 33 h (fun h=>?_) fun h=>?_;exact lf h;refine gN 36 BW.D x1.args<|gN 39 X0.D eZ.args ?_;refine iB 41 h (fun h=>?_) fun h=>?_;exact lf h;obtain⟨o55,h55,h⟩:=bS h;refine gL [.look 10,.look 11,.live [1,5,6,8,9,10,11,12],.keep [5,6,8,9]] (aEu none h55) ?_;replace h:=AK h;rcases h with⟨o56,rfl,h⟩|⟨o57,rfl,h⟩
 exact lf h;exact lf h
theorem aG3(rd:Option Nat)(h:aG2 eG eT eF eZ fE f9=some fF):Lq 57 rd 3731 ⟨sp 29 0 [bx 2,bx 3,rx 5,sI 6 eG,bx 7,sD 23 D.b eT],[cL 2 AD.D eF,cL 3 X8.D eZ,(5,.row 135 3 (fE.map Ar.D)),cL 7 Ar.D f9],[]⟩ (.normal,⟨sp 29 0 [bx 2,bx 3,rx 5,sI 6 eG],[cL 2 AD.D eF,cL 3 X8.D eZ,(5,.row 135 3 (fF.map Ar.D))],[]⟩):=by unfold aG2 at h;apply g0 (o:=fF);cases eT;replace h:=By h;exact lp h;replace h:=Bz h;refine gQ (Ap Ar.D [f9])<|gG 27 (.sl ((fE++[f9]).map Ar.D)) (Ap Ar.D [f9]) ?_;obtain⟨h10,h⟩:=cS h;refine gQ (Av Ar.D h10)<|gQ (Au Ar.D fE [f9]) ?_;exact lP h [.live [2,3,5,6],.keep [2,3,27],.ren 27 5,.sort]
theorem aG1(rd:Option Nat)(h:aG0 eG eF eZ fE=some fF):Lq 57 rd 466 ⟨sp 29 0 [bx 2,bx 3,rx 5,sI 6 eG],[cL 2 AD.D eF,cL 3 X8.D eZ,(5,.row 135 3 (fE.map Ar.D))],[]⟩ (.normal,⟨sp 29 0 [bx 2,bx 3,rx 5,sI 6 eG],[cL 2 AD.D eF,cL 3 X8.D eZ,(5,.row 135 3 (fF.map Ar.D))],[]⟩):=by unfold aG0 at h;apply g0 (o:=fF);obtain⟨r4,h8,h⟩:=bS h;refine gC 20 (aVo h8) ?_;obtain⟨o5,h11,h⟩:=bS h;refine gl (aG3 rd h11) ?_;exact lp h
def Vh(w2:AD)(w3:X8)(s6:Int)(w5:List Ar):St:=⟨sp 29 0 [bx 2,bx 3,rx 5,sI 6 s6],[cL 2 AD.D w2,cL 3 X8.D w3,(5,.row 135 3 (w5.map Ar.D))],[]⟩
def Vi(w2:AD)(w3:X8)(o:(List Ar)):Ex×St:=(.exit 0,⟨sp 29 0 [rx 5],[(5,.row 135 3 (o.map Ar.D))],[]⟩)
theorem aG4(rd:Option Nat)(h:aNv eF eZ eG fE=some fF):Lq 57 rd 58 (Vh eF eZ eG fE) ((Vi eF eZ) fF):=
 lL (fun s:Int×List Ar=>Vh eF eZ s.1 s.2) (Vi eF eZ) (eG,fE) (fun⟨eG,fE⟩ o h=>by
 unfold Id at h
 refine gN 12 X3.D eF.symbols ?_
 refine iB 13 h (fun h=>?_) fun h=>?_
 obtain⟨o6,h12,h⟩:=bS h
 refine gl (aG1 rd h12) ?_
 exact lb h
 exact lb h) h
theorem aWd(h:Yb eF eZ=some fE):AL Tryz.prog 57 [.d (AD.D eF),.d (X8.D eZ)] [] (.d ((D.l Ar.D) fE)) []:=by unfold Yb at h;apply g0 (o:=fE);obtain⟨o7,h13,h⟩:=bS h;refine gL [.live [2,3,5,6],.keep [2,3],.nil 5 5 135 3,.sort] (aG4 none h13) ?_;exact lf h
def Wh(s0 s1:List X2)(s5:Int):St:=⟨sp 35 0 [sD 0 (D.l X2.D) s0,sD 1 (D.l X2.D) s1,sI 5 s5],[],[]⟩
def Wi(s0 s1:List X2)(o:Unit⊕Unit):Ex×St:=match o with
 | .inl o=>(.exit 0,⟨sp 35 0 [],[],[]⟩)
 | .inr o=>(.ret,⟨sp 35 0 [sD 4 D.b false],[],[]⟩)
theorem aIp(rd:Option Nat)(h:aOh eH eR eG=some eS):Lq 86 rd 26 (Wh eH eR eG) ((Wi eH eR) eS):=
 lL (fun s:Int=>Wh eH eR s) (Wi eH eR) eG (fun eG o h=>by
 unfold K1 at h
 refine gN 10 X2.D eH ?_
 refine iB 11 h (fun h=>?_) fun h=>?_
 refine xX 18 X2.D h fun x1 h=>?_
 obtain⟨r2,h3,h⟩:=bS h
 refine gC 21 (Vz h3) ?_
 refine iB 26 h (fun h=>?_) fun h=>?_
 exact lb h
 refine xX 30 X2.D h fun x3 h=>?_
 refine iB 34 h (fun h=>?_) fun h=>?_
 exact lb h
 exact lb h
 exact lb h) h
theorem aW8(h:Z8 eH eR=some eT):AL Tryz.prog 86 [.d ((D.l X2.D) eH),.d ((D.l X2.D) eR)] [] (.d (D.b eT)) []:=by
 unfold Z8 at h;apply g0 (o:=eT);obtain⟨o4,h7,h⟩:=bS h;refine gl (aIp none h7) ?_;replace h:=AK h;rcases h with⟨o5,rfl,h⟩|⟨o6,rfl,h⟩
 exact lf h;exact lf h
theorem aHb(rd:Option Nat)(h:aHa fE eH eG eT fG=some fF):Lq 56 rd 1865 ⟨sp 28 0 [sD 0 (D.l Ar.D) fE,sD 1 (D.l X2.D) eH,rx 5,sI 6 eG,sD 19 D.b eT],[(5,.row 135 3 (fG.map Ar.D))],[]⟩ (.normal,⟨sp 28 0 [sD 0 (D.l Ar.D) fE,sD 1 (D.l X2.D) eH,rx 5,sI 6 eG],[(5,.row 135 3 (fF.map Ar.D))],[]⟩):=by unfold aHa at h;apply g0 (o:=fF);cases eT;replace h:=By h;exact lp h;replace h:=Bz h;refine xX 23 Ar.D h fun x8 h=>?_;refine gQ (Ap Ar.D [x8])<|gG 26 (.sl ((fG++[x8]).map Ar.D)) (Ap Ar.D [x8]) ?_;obtain⟨h14,h⟩:=cS h;refine gQ (Av Ar.D h14)<|gQ (Au Ar.D fG [x8]) ?_;exact lP h [.live [0,1,5,6],.keep [26],.ren 26 5,.sort]
theorem aG9(rd:Option Nat)(h:aG8 fE eH eG fG=some fF):Lq 56 rd 466 ⟨sp 28 0 [sD 0 (D.l Ar.D) fE,sD 1 (D.l X2.D) eH,rx 5,sI 6 eG],[(5,.row 135 3 (fG.map Ar.D))],[]⟩ (.normal,⟨sp 28 0 [sD 0 (D.l Ar.D) fE,sD 1 (D.l X2.D) eH,rx 5,sI 6 eG],[(5,.row 135 3 (fF.map Ar.D))],[]⟩):=by unfold aG8 at h;apply g0 (o:=fF);refine xX 15 Ar.D h fun x6 h=>?_;obtain⟨r7,h11,h⟩:=bS h;refine gC 19 (aW8 h11) ?_;obtain⟨o9,h15,h⟩:=bS h;refine gl (aHb rd h15) ?_;exact lp h
def Vm(s0:List Ar)(s1:List X2)(s6:Int)(w5:List Ar):St:=⟨sp 28 0 [sD 0 (D.l Ar.D) s0,sD 1 (D.l X2.D) s1,rx 5,sI 6 s6],[(5,.row 135 3 (w5.map Ar.D))],[]⟩
def Vn(s0:List Ar)(s1:List X2)(o:(List Ar)):Ex×St:=(.exit 0,⟨sp 28 0 [rx 5],[(5,.row 135 3 (o.map Ar.D))],[]⟩)
theorem aHc(rd:Option Nat)(h:aNx fE eH eG fG=some fF):Lq 56 rd 58 (Vm fE eH eG fG) ((Vn fE eH) fF):=
 lL (fun s:Int×List Ar=>Vm fE eH s.1 s.2) (Vn fE eH) (eG,fG) (fun⟨eG,fG⟩ o h=>by
 unfold Kv at h
 refine gN 9 Ar.D fE ?_
 refine iB 10 h (fun h=>?_) fun h=>?_
 obtain⟨o10,h16,h⟩:=bS h
 refine gl (aG9 rd h16) ?_
 exact lb h
 exact lb h) h
theorem aWg(h:Yd fE eH=some fG):AL Tryz.prog 56 [.d ((D.l Ar.D) fE),.d ((D.l X2.D) eH)] [] (.d ((D.l Ar.D) fG)) []:=by unfold Yd at h;apply g0 (o:=fG);obtain⟨o11,h17,h⟩:=bS h;refine gL [.live [0,1,5,6],.keep [],.nil 5 5 135 3,.sort] (aHc none h17) ?_;exact lf h
def WW(s0:List Ar)(s3 s4:Int):St:=⟨sp 21 0 [sD 0 (D.l Ar.D) s0,sD 3 dU s3,sI 4 s4],[],[]⟩
def WX(s0:List Ar)(o:Int):Ex×St:=(.exit 0,⟨sp 21 0 [sD 3 dU o],[],[]⟩)
theorem aIk(rd:Option Nat)(h:aOe fE eG eN=some f0):Lq 55 rd 58 (WW fE eG eN) ((WX fE) f0):=
 lL (fun s:Int×Int=>WW fE s.1 s.2) (WX fE) (eG,eN) (fun⟨eG,eN⟩ o h=>by
 unfold Is at h
 refine gN 7 Ar.D fE ?_
 refine iB 8 h (fun h=>?_) fun h=>?_
 refine xX 14 Ar.D h fun x1 h=>?_
 obtain⟨h3,h⟩:=cS h
 refine gQ h3 ?_
 exact lb h
 exact lb h) h
theorem aW0(h:Z3 fE=some eG):AL Tryz.prog 55 [.d ((D.l Ar.D) fE)] [] (.d (dU eG)) []:=by unfold Z3 at h;apply g0 (o:=eG);obtain⟨o2,h4,h⟩:=bS h;refine gl (aIk none h4) ?_;exact lf h
def WC(s0:List Int)(s1 s5:Int):St:=⟨sp 48 0 [sD 0 (D.l dU) s0,sD 1 dU s1,sI 5 s5],[],[]⟩
def WD(s0:List Int)(s1 o:Int):Ex×St:=(.exit 0,⟨sp 48 0 [sD 0 (D.l dU) s0,sD 1 dU s1,sI 5 o],[],[]⟩)
theorem aH6(rd:Option Nat)(h:WB fH eG eN=some f0):Lq 58 rd 28 (WC fH eG eN) ((WD fH eG) f0):=
 lL (fun s:Int=>WC fH eG s) (WD fH eG) eN (fun eN o h=>by
 unfold Il at h
 refine iB 11 h (fun h=>?_) fun h=>?_
 refine xX 15 dU h fun x1 h=>?_
 refine iB 19 h (fun h=>?_) fun h=>?_
 exact lb h
 exact lb h
 exact lb h) h
theorem aWq(h:Ys fH eG=some fI):AL Tryz.prog 58 [.d ((D.l dU) fH),.d (dU eG)] [] (.d ((D.l dU) fI)) []:=by unfold Ys at h;apply g0 (o:=fI);refine gN 8 dU fH ?_;obtain⟨o2,h4,h⟩:=bS h;refine gl (aH6 none h4) ?_;refine iB 24 h (fun h=>?_) fun h=>?_;refine xX 28 dU h fun x3 h=>?_;refine iB 32 h (fun h=>?_) fun h=>?_;exact lf h;refine gQ (Ap dU ([]:List Int))<|gW 37 (.sl ((sub fH 0 o2).map dU))<|gW 38 (.sl ((([]:List Int)++(sub fH 0 o2)).map dU))<|gW 42 (.sl (((([]:List Int)++(sub fH 0 o2))++[eG]).map dU))<|gW 46 (.sl ((sub fH o2 (fH.length:Int)).map dU))<|gW 47 (.sl ((((([]:List Int)++(sub fH 0 o2))++[eG])++(sub fH o2 (fH.length:Int))).map dU)) ?_;obtain⟨h8,h⟩:=cS h;refine gQ (F4 dU h8)<|gQ (Ap dU (sub fH 0 o2)) ?_;obtain⟨h9,h⟩:=cS h;refine gQ (Av dU h9)<|gQ (Au dU ([]:List Int) (sub fH 0 o2))<|gQ (Ap dU [eG])<|gQ (Ap dU [eG]) ?_;obtain⟨h10,h⟩:=cS h;refine gQ (Av dU h10)<|gQ (Au dU (([]:List Int)++(sub fH 0 o2)) [eG]) ?_;obtain⟨h11,h⟩:=cS h;refine gQ (F3 dU h11)<|gQ (Ap dU (sub fH o2 (fH.length:Int))) ?_;obtain⟨h12,h⟩:=cS h;refine gQ (Av dU h12)<|gQ (Au dU ((([]:List Int)++(sub fH 0 o2))++[eG]) (sub fH o2 (fH.length:Int))) ?_;exact lf h;refine gQ (Ap dU ([]:List Int))<|gW 37 (.sl ((sub fH 0 o2).map dU))<|gW 38 (.sl ((([]:List Int)++(sub fH 0 o2)).map dU))<|gW 42 (.sl (((([]:List Int)++(sub fH 0 o2))++[eG]).map dU))<|gW 46 (.sl ((sub fH o2 (fH.length:Int)).map dU))<|gW 47 (.sl ((((([]:List Int)++(sub fH 0 o2))++[eG])++(sub fH o2 (fH.length:Int))).map dU)) ?_;obtain⟨h13,h⟩:=cS h;refine gQ (F4 dU h13)<|gQ (Ap dU (sub fH 0 o2)) ?_;obtain⟨h14,h⟩:=cS h;refine gQ (Av dU h14)<|gQ (Au dU ([]:List Int) (sub fH 0 o2))<|gQ (Ap dU [eG])<|gQ (Ap dU [eG]) ?_;obtain⟨h15,h⟩:=cS h;refine gQ (Av dU h15)<|gQ (Au dU (([]:List Int)++(sub fH 0 o2)) [eG]) ?_;obtain⟨h16,h⟩:=cS h;refine gQ (F3 dU h16)<|gQ (Ap dU (sub fH o2 (fH.length:Int))) ?_;obtain⟨h17,h⟩:=cS h;refine gQ (Av dU h17)<|gQ (Au dU ((([]:List Int)++(sub fH 0 o2))++[eG]) (sub fH o2 (fH.length:Int))) ?_;exact lf h
theorem aEn(rd:Option Nat)(h:QK eH fH eG eL eN f0 eT eF=some fJ):Lq 23 rd 477587 ⟨sp 42 0 [sD 1 (D.l X2.D) eH,bx 2,sD 5 (D.l dU) fH,sI 6 eG,sD 7 (D.l X8.D) eL,sI 8 eN,sD 9 dU f0,sD 37 D.b eT],[cL 2 AD.D eF],[]⟩ (.normal,⟨sp 42 0 [sD 1 (D.l X2.D) eH,bx 2,sD 5 (D.l dU) fJ,sI 6 eG,sD 7 (D.l X8.D) eL,sI 8 eN],[cL 2 AD.D eF],[]⟩):=by unfold QK at h;apply g0 (o:=fJ);cases eT;replace h:=By h;exact lp h;replace h:=Bz h;obtain⟨r13,h18,h⟩:=bS h;refine gC 40 (aWq h18) ?_;exact lp h
theorem aEm(rd:Option Nat)(h:aEl eH fH eG eL eN eF=some fJ):Lq 23 rd 59698 ⟨sp 42 0 [sD 1 (D.l X2.D) eH,bx 2,sD 5 (D.l dU) fH,sI 6 eG,sD 7 (D.l X8.D) eL,sI 8 eN],[cL 2 AD.D eF],[]⟩ (.normal,⟨sp 42 0 [sD 1 (D.l X2.D) eH,bx 2,sD 5 (D.l dU) fJ,sI 6 eG,sD 7 (D.l X8.D) eL,sI 8 eN],[cL 2 AD.D eF],[]⟩):=by unfold aEl at h;apply g0 (o:=fJ);refine xX 30 X8.D h fun x9 h=>?_;obtain⟨r10,h14,h⟩:=bS h;refine gC 32 (aWd h14) ?_;obtain⟨r11,h15,h⟩:=bS h;refine gC 34 (aWg h15) ?_;obtain⟨r12,h16,h⟩:=bS h;refine gC 35 (aW0 h16) ?_;obtain⟨o14,h19,h⟩:=bS h;refine gl (aEn rd h19) ?_;exact lp h
def UI(s1:List X2)(s6:Int)(s7:List X8)(w2:AD)(s5:List Int)(s8:Int):St:=⟨sp 42 0 [sD 1 (D.l X2.D) s1,bx 2,sD 5 (D.l dU) s5,sI 6 s6,sD 7 (D.l X8.D) s7,sI 8 s8],[cL 2 AD.D w2],[]⟩
def UJ(s1:List X2)(s6:Int)(s7:List X8)(w2:AD)(o:(List Int)):Ex×St:=(.exit 2,⟨sp 42 0 [sD 1 (D.l X2.D) s1,bx 2,sD 5 (D.l dU) o,sI 6 s6],[cL 2 AD.D w2],[]⟩)
theorem aEp(rd:Option Nat)(h:aNg eH eG eL eF fH eN=some fJ):Lq 23 rd 7462 (UI eH eG eL eF fH eN) ((UJ eH eG eL eF) fJ):=
 lL (fun s:List Int×Int=>UI eH eG eL eF s.1 s.2) (UJ eH eG eL eF) (fH,eN) (fun⟨fH,eN⟩ o h=>by
 unfold Gn at h
 refine gN 23 X8.D eL ?_
 refine iB 24 h (fun h=>?_) fun h=>?_
 obtain⟨o18,h25,h⟩:=bS h
 refine gl (aEm rd h25) ?_
 exact lb h
 exact lb h) h
def UG(s1:List X2)(w2:AD)(s5:List Int)(s6:Int):St:=⟨sp 42 0 [sD 1 (D.l X2.D) s1,bx 2,sD 5 (D.l dU) s5,sI 6 s6],[cL 2 AD.D w2],[]⟩
def UH(s1:List X2)(w2:AD)(o:(List Int)):Ex×St:=(.exit 0,⟨sp 42 0 [sD 5 (D.l dU) o],[],[]⟩)
theorem aEo(rd:Option Nat)(h:aNf eH eF fH eG=some fJ):Lq 23 rd 58 (UG eH eF fH eG) ((UH eH eF) fJ):=
 lL (fun s:List Int×Int=>UG eH eF s.1 s.2) (UH eH eF) (fH,eG) (fun⟨fH,eG⟩ o h=>by
 unfold IJ at h
 refine gN 13 Xe.D eF.decls ?_
 refine iB 14 h (fun h=>?_) fun h=>?_
 obtain⟨r17,h23,h⟩:=bS h
 refine gC 20 (aWa h23) ?_
 obtain⟨o19,h26,h⟩:=bS h
 refine gl (aEp rd h26) ?_
 exact lb h
 exact lb h) h
theorem aRz(h:Xo eF eH=some fH):AL Tryz.prog 23 [.d (AD.D eF),.d ((D.l X2.D) eH)] [] (.d ((D.l dU) fH)) []:=by unfold Xo at h;apply g0 (o:=fH);obtain⟨o20,h27,h⟩:=bS h;refine gL [.look 5,.live [1,2,5,6],.keep [2]] (aEo none h27) ?_;exact lf h
theorem Ou(rd:Option Nat)(h:TQ eG eN f0 fK fL fM eT eF fN=some fO):Lq 24 rd 1910419 ⟨sp 74 0 [sD 1 dW eG,sD 2 dU eN,bx 3,sD 7 dW f0,sI 8 fK,sD 9 dW fL,sI 10 fM,bx 11,sD 49 D.b eT],[cL 3 AD.D eF,cL 11 Xd.D fN],[]⟩ (.normal,⟨sp 74 0 [sD 1 dW eG,sD 2 dU eN,bx 3,sD 7 dW f0,sI 8 fK,sD 9 dW fO,sI 10 fM],[cL 3 AD.D eF],[]⟩):=by unfold TQ at h;apply g0 (o:=fO);cases eT;replace h:=By h;exact lp h;replace h:=Bz h;obtain⟨h9,h⟩:=cS h;refine gQ h9 ?_;exact lp h
theorem aDh(rd:Option Nat)(h:aDg eG eN f0 fK fL fM eF=some fO):Lq 24 rd 238802 ⟨sp 74 0 [sD 1 dW eG,sD 2 dU eN,bx 3,sD 7 dW f0,sI 8 fK,sD 9 dW fL,sI 10 fM],[cL 3 AD.D eF],[]⟩ (.normal,⟨sp 74 0 [sD 1 dW eG,sD 2 dU eN,bx 3,sD 7 dW f0,sI 8 fK,sD 9 dW fO,sI 10 fM],[cL 3 AD.D eF],[]⟩):=by unfold aDg at h;apply g0 (o:=fO);refine xX 35 Xd.D h fun x1 h=>?_;refine iB 41 h (fun h=>?_) fun h=>?_;obtain⟨h7,h⟩:=cS h;refine gQ h7<|gQ (of_decide_eq_true rfl:(2:Int)≠0) ?_;obtain⟨o2,h10,h⟩:=bS h;refine gl (Ou rd h10) ?_;exact lp h;obtain⟨o3,h11,h⟩:=bS h;refine gl (Ou rd h11) ?_;exact lp h
def TU(s1 s2:Int)(s7 s8:Int)(w3:AD)(s9 s10:Int):St:=⟨sp 74 0 [sD 1 dW s1,sD 2 dU s2,bx 3,sD 7 dW s7,sI 8 s8,sD 9 dW s9,sI 10 s10],[cL 3 AD.D w3],[]⟩
def TV(s1 s2:Int)(s7 s8:Int)(w3:AD)(o:Int):Ex×St:=(.exit 2,⟨sp 74 0 [sD 1 dW s1,sD 2 dU s2,bx 3,sD 7 dW s7,sI 8 s8,sD 9 dW o],[cL 3 AD.D w3],[]⟩)
theorem aDk(rd:Option Nat)(h:aDj eG eN f0 fK eF fL fM=some fO):Lq 24 rd 29850 (TU eG eN f0 fK eF fL fM) ((TV eG eN f0 fK eF) fO):=
 lL (fun s:Int×Int=>TU eG eN f0 fK eF s.1 s.2) (TV eG eN f0 fK eF) (fL,fM) (fun⟨fL,fM⟩ o h=>by
 unfold H8 at h
 refine gN 28 Xd.D eF.trans ?_
 refine iB 29 h (fun h=>?_) fun h=>?_
 obtain⟨o4,h12,h⟩:=bS h
 refine gl (aDh rd h12) ?_
 exact lb h
 exact lb h) h
theorem Ov(rd:Option Nat)(h:Na eG eN f0 fK fL eT eF=some fM):Lq 24 rd 29853 ⟨sp 74 0 [sD 1 dW eG,sD 2 dU eN,bx 3,sD 7 dW f0,sI 8 fK,sD 9 dW fL,sD 66 D.b eT],[cL 3 AD.D eF],[]⟩ (.normal,⟨sp 74 0 [sD 1 dW eG,sD 2 dU eN,bx 3,sD 7 dW f0,sI 8 fK,sD 9 dW fM],[cL 3 AD.D eF],[]⟩):=by unfold Na at h;apply g0 (o:=fM);cases eT;replace h:=By h;exact lp h;replace h:=Bz h;obtain⟨h17,h⟩:=cS h;refine gQ h17 ?_;exact lp h
theorem aDf(rd:Option Nat)(h:aDe eG eN f0 fK eF=some fL):Lq 24 rd 466 ⟨sp 74 0 [sD 1 dW eG,sD 2 dU eN,bx 3,sD 7 dW f0,sI 8 fK],[cL 3 AD.D eF],[]⟩ (.normal,⟨sp 74 0 [sD 1 dW eG,sD 2 dU eN,bx 3,sD 7 dW fL,sI 8 fK],[cL 3 AD.D eF],[]⟩):=by unfold aDe at h;apply g0 (o:=fL);obtain⟨h2,h⟩:=cS h;refine gQ h2<|gQ (of_decide_eq_true rfl:(2:Int)≠0) ?_;refine iB 24 h (fun h=>?_) fun h=>?_;exact lp h;obtain⟨o5,h13,h⟩:=bS h;refine gl (aDk rd h13) ?_;refine iB 58 h (fun h=>?_) fun h=>?_;refine xX 62 Xc.D h fun x6 h=>?_;obtain⟨o7,h18,h⟩:=bS h;refine gl (Ov rd h18) ?_;exact lp h;obtain⟨o8,h19,h⟩:=bS h;refine gl (Ov rd h19) ?_;exact lp h
def TS(s1 s2:Int)(w3:AD)(s7 s8:Int):St:=⟨sp 74 0 [sD 1 dW s1,sD 2 dU s2,bx 3,sD 7 dW s7,sI 8 s8],[cL 3 AD.D w3],[]⟩
def TT(s1 s2:Int)(w3:AD)(o:Int):Ex×St:=(.exit 0,⟨sp 74 0 [sD 7 dW o],[],[]⟩)
theorem aDi(rd:Option Nat)(h:aM5 eG eN eF f0 fK=some fL):Lq 24 rd 58 (TS eG eN eF f0 fK) ((TT eG eN eF) fL):=
 lL (fun s:Int×Int=>TS eG eN eF s.1 s.2) (TT eG eN eF) (f0,fK) (fun⟨f0,fK⟩ o h=>by
 unfold Gd at h
 refine gN 15 Xc.D eF.states ?_
 refine iB 16 h (fun h=>?_) fun h=>?_
 obtain⟨o9,h20,h⟩:=bS h
 refine gl (aDf rd h20) ?_
 exact lb h
 exact lb h) h
theorem aM6(h:Xg eF eG eN=some f0):AL Tryz.prog 24 [.d (AD.D eF),.d (dW eG),.d (dU eN)] [] (.d (dW f0)) []:=by unfold Xg at h;apply g0 (o:=f0);obtain⟨o10,h21,h⟩:=bS h;refine gl (aDi none h21) ?_;exact lf h
def WG(s0:List Int)(s1 s5:Int):St:=⟨sp 18 0 [sD 0 (D.l dW) s0,sD 1 dW s1,sI 5 s5],[],[]⟩
def WH(s0:List Int)(s1:Int)(o:Unit⊕Unit):Ex×St:=match o with
 | .inl o=>(.exit 0,⟨sp 18 0 [],[],[]⟩)
 | .inr o=>(.ret,⟨sp 18 0 [sD 4 D.b true],[],[]⟩)
theorem aH9(rd:Option Nat)(h:aN5 fH eG eN=some eS):Lq 38 rd 26 (WG fH eG eN) ((WH fH eG) eS):=
 lL (fun s:Int=>WG fH eG s) (WH fH eG) eN (fun eN o h=>by
 unfold Im at h
 refine gN 8 dW fH ?_
 refine iB 9 h (fun h=>?_) fun h=>?_
 refine xX 14 dW h fun x1 h=>?_
 refine iB 17 h (fun h=>?_) fun h=>?_
 exact lb h
 exact lb h
 exact lb h) h
theorem aN6(h:Yu fH eG=some eT):AL Tryz.prog 38 [.d ((D.l dW) fH),.d (dW eG)] [] (.d (D.b eT)) []:=by
 unfold Yu at h;apply g0 (o:=eT);obtain⟨o2,h4,h⟩:=bS h;refine gl (aH9 none h4) ?_;replace h:=AK h;rcases h with⟨o3,rfl,h⟩|⟨o4,rfl,h⟩
 exact lf h;exact lf h
theorem aFm(rd:Option Nat)(h:aFl fH eG eN f0 eT eF fI=some fJ):Lq 10 rd 500883 ⟨sp 48 0 [bx 3,sD 7 (D.l dU) fH,rx 8,sI 9 eG,sI 10 eN,sD 11 dW f0,sD 42 D.b eT],[cL 3 AD.D eF,(8,.row 32 1 (fI.map dW))],[]⟩ (.normal,⟨sp 48 0 [bx 3,sD 7 (D.l dU) fH,rx 8,sI 9 eG,sI 10 eN],[cL 3 AD.D eF,(8,.row 32 1 (fJ.map dW))],[]⟩):=by unfold aFl at h;apply g0 (o:=fJ);cases eT;replace h:=By h;exact lp h;replace h:=Bz h;refine gQ (Ap dW [f0])<|gG 46 (.sl ((fI++[f0]).map dW)) (Ap dW [f0]) ?_;obtain⟨h9,h⟩:=cS h;refine gQ (Av dW h9)<|gQ (Au dW fI [f0]) ?_;exact lP h [.live [3,7,8,9,10],.keep [3,46],.ren 46 8,.sort]
theorem aFk(rd:Option Nat)(h:aFj fH eG eN eF fI=some fJ):Lq 10 rd 62610 ⟨sp 48 0 [bx 3,sD 7 (D.l dU) fH,rx 8,sI 9 eG,sI 10 eN],[cL 3 AD.D eF,(8,.row 32 1 (fI.map dW))],[]⟩ (.normal,⟨sp 48 0 [bx 3,sD 7 (D.l dU) fH,rx 8,sI 9 eG,sI 10 eN],[cL 3 AD.D eF,(8,.row 32 1 (fJ.map dW))],[]⟩):=by unfold aFj at h;apply g0 (o:=fJ);refine xX 32 dW h fun x2 h=>?_;refine xX 36 dU h fun x3 h=>?_;obtain⟨r4,h6,h⟩:=bS h;refine gC 38 (aM6 h6) ?_;obtain⟨r5,h7,h⟩:=bS h;refine gC 41 (aN6 h7) ?_;obtain⟨o6,h10,h⟩:=bS h;refine gl (aFm rd h10) ?_;exact lp h
def Us(s7:List Int)(s9:Int)(w3:AD)(s10:Int)(w8:List Int):St:=⟨sp 48 0 [bx 3,sD 7 (D.l dU) s7,rx 8,sI 9 s9,sI 10 s10],[cL 3 AD.D w3,(8,.row 32 1 (w8.map dW))],[]⟩
def Ut(s7:List Int)(s9:Int)(w3:AD)(o:(List Int)):Ex×St:=(.exit 2,⟨sp 48 0 [bx 3,sD 7 (D.l dU) s7,rx 8,sI 9 s9],[cL 3 AD.D w3,(8,.row 32 1 (o.map dW))],[]⟩)
theorem aFo(rd:Option Nat)(h:aNn fH eG eF eN fI=some fJ):Lq 10 rd 7826 (Us fH eG eF eN fI) ((Ut fH eG eF) fJ):=
 lL (fun s:Int×List Int=>Us fH eG eF s.1 s.2) (Ut fH eG eF) (eN,fI) (fun⟨eN,fI⟩ o h=>by
 unfold IQ at h
 refine gN 25 dU fH ?_
 refine iB 26 h (fun h=>?_) fun h=>?_
 obtain⟨o7,h11,h⟩:=bS h
 refine gl (aFk rd h11) ?_
 exact lb h
 exact lb h) h
def Uq(s7:List Int)(w3:AD)(s9:Int)(w8:List Int):St:=⟨sp 48 0 [bx 3,sD 7 (D.l dU) s7,rx 8,sI 9 s9],[cL 3 AD.D w3,(8,.row 32 1 (w8.map dW))],[]⟩
def Ur(s7:List Int)(w3:AD)(o:(List Int)):Ex×St:=(.exit 0,⟨sp 48 0 [rx 8],[(8,.row 32 1 (o.map dW))],[]⟩)
theorem aFn(rd:Option Nat)(h:aNm fH eF eG fI=some fJ):Lq 10 rd 122 (Uq fH eF eG fI) ((Ur fH eF) fJ):=
 lL (fun s:Int×List Int=>Uq fH eF s.1 s.2) (Ur fH eF) (eG,fI) (fun⟨eG,fI⟩ o h=>by
 unfold IP at h
 refine gN 19 dW fI ?_
 refine iB 20 h (fun h=>?_) fun h=>?_
 obtain⟨o8,h12,h⟩:=bS h
 refine gl (aFo rd h12) ?_
 exact lb h
 exact lb h) h
theorem aVy(h:Xy eF eH eG=some fH):AL Tryz.prog 10 [.d (AD.D eF),.d ((D.l X2.D) eH),.d (dW eG)] [] (.d ((D.l dW) fH)) []:=by unfold Xy at h;apply g0 (o:=fH);obtain⟨r1,h1,h⟩:=bS h;refine gC 14 (aRz h1)<|gQ (Ap dW [eG]) ?_;obtain⟨o9,h13,h⟩:=bS h;refine gL [.live [3,7,8,9],.keep [3,16],.ren 16 8,.sort] (aFn none h13) ?_;exact lf h
def VN(s1 s5:Int)(w2:AD)(s6:Int):St:=⟨sp 42 0 [sD 1 dU s1,bx 2,sI 5 s5,sI 6 s6],[cL 2 AD.D w2],[]⟩
def VO(s1 s5:Int)(w2:AD)(o:Unit⊕Unit):Ex×St:=match o with
 | .inl o=>(.exit 2,⟨sp 42 0 [sD 1 dU s1,bx 2,sI 5 s5],[cL 2 AD.D w2],[]⟩)
 | .inr o=>(.ret,⟨sp 42 0 [sD 4 D.b true],[],[]⟩)
theorem aF9(rd:Option Nat)(h:aF8 eG eN eF f0=some eS):Lq 66 rd 3366 (VN eG eN eF f0) ((VO eG eN eF) eS):=
 lL (fun s:Int=>VN eG eN eF s) (VO eG eN eF) f0 (fun f0 o h=>by
 unfold IX at h
 refine xX 24 X3.D h fun x1 h=>?_
 refine gN 27 BW.D x1.args ?_
 refine iB 28 h (fun h=>?_) fun h=>?_
 refine xX 34 X3.D h fun x2 h=>?_
 refine xX 38 BW.D h fun x3 h=>?_
 refine iB 41 h (fun h=>?_) fun h=>?_
 exact lb h
 exact lb h
 exact lb h) h
theorem aF6(rd:Option Nat)(h:aF5 eG eN eF=some eS):Lq 66 rd 210 ⟨sp 42 0 [sD 1 dU eG,bx 2,sI 5 eN],[cL 2 AD.D eF],[]⟩ (match (generalizing:=false) eS with
 | .inl eS=>(.normal,⟨sp 42 0 [sD 1 dU eG,bx 2,sI 5 eN],[cL 2 AD.D eF],[]⟩)
 | .inr eS=>(.ret,⟨sp 42 0 [sD 4 D.b true],[],[]⟩)):=by
 unfold aF5 at h
 apply g0 (o:=eS)
 obtain⟨h2,h⟩:=cS h
 refine gQ h2<|gQ (of_decide_eq_true rfl:(2:Int)≠0) ?_
 refine iB 19 h (fun h=>?_) fun h=>?_
 exact lp h
 obtain⟨o4,h9,h⟩:=bS h
 refine gl (aF9 rd h9) ?_
 replace h:=AK h
 rcases h with⟨o5,rfl,h⟩|⟨o6,rfl,h⟩
 exact lp h
 exact lp h
def VL(s1:Int)(w2:AD)(s5:Int):St:=⟨sp 42 0 [sD 1 dU s1,bx 2,sI 5 s5],[cL 2 AD.D w2],[]⟩
def VM(s1:Int)(w2:AD)(o:Unit⊕Unit):Ex×St:=match o with
 | .inl o=>(.exit 0,⟨sp 42 0 [],[],[]⟩)
 | .inr o=>(.ret,⟨sp 42 0 [sD 4 D.b true],[],[]⟩)
theorem aF7(rd:Option Nat)(h:aNr eG eF eN=some eS):Lq 66 rd 26 (VL eG eF eN) ((VM eG eF) eS):=
 lL (fun s:Int=>VL eG eF s) (VM eG eF) eN (fun eN o h=>by
 unfold IW at h
 refine gN 10 X3.D eF.symbols ?_
 refine iB 11 h (fun h=>?_) fun h=>?_
 obtain⟨o7,h10,h⟩:=bS h
 refine gl (aF6 rd h10) ?_
 replace h:=AK h
 rcases h with⟨o8,rfl,h⟩|⟨o9,rfl,h⟩
 exact lb h
 exact lb h
 exact lb h) h
theorem aV5(h:Y3 eF eG=some eT):AL Tryz.prog 66 [.d (AD.D eF),.d (dU eG)] [] (.d (D.b eT)) []:=by
 unfold Y3 at h;apply g0 (o:=eT);obtain⟨o10,h11,h⟩:=bS h;refine gl (aF7 none h11) ?_;replace h:=AK h;rcases h with⟨o11,rfl,h⟩|⟨o12,rfl,h⟩
 exact lf h;exact lf h
theorem Oo(rd:Option Nat)(h:TA fH fI eG eN f0 eT eF fP=some fJ):Lq 34 rd 1025171 ⟨sp 92 0 [bx 3,sD 7 (D.l dU) fH,sD 8 (D.l dW) fI,rx 9,sI 10 eG,sI 11 eN,sD 12 dW f0,sD 56 D.b eT],[cL 3 AD.D eF,(9,.row 32 1 (fP.map dW))],[]⟩ (.normal,⟨sp 92 0 [bx 3,sD 7 (D.l dU) fH,sD 8 (D.l dW) fI,rx 9,sI 10 eG,sI 11 eN],[cL 3 AD.D eF,(9,.row 32 1 (fJ.map dW))],[]⟩):=by unfold TA at h;apply g0 (o:=fJ);cases eT;replace h:=By h;exact lp h;replace h:=Bz h;refine gQ (Ap dW [f0])<|gG 60 (.sl ((fP++[f0]).map dW)) (Ap dW [f0]) ?_;obtain⟨h26,h⟩:=cS h;refine gQ (Av dW h26)<|gQ (Au dW fP [f0]) ?_;exact lP h [.live [3,7,8,9,10,11],.keep [3,60],.ren 60 9,.sort]
theorem aC5(rd:Option Nat)(h:aC4 fH fI eG eN eF fP=some fJ):Lq 34 rd 128146 ⟨sp 92 0 [bx 3,sD 7 (D.l dU) fH,sD 8 (D.l dW) fI,rx 9,sI 10 eG,sI 11 eN],[cL 3 AD.D eF,(9,.row 32 1 (fP.map dW))],[]⟩ (.normal,⟨sp 92 0 [bx 3,sD 7 (D.l dU) fH,sD 8 (D.l dW) fI,rx 9,sI 10 eG,sI 11 eN],[cL 3 AD.D eF,(9,.row 32 1 (fJ.map dW))],[]⟩):=by unfold aC4 at h;apply g0 (o:=fJ);refine xX 38 dW h fun x12 h=>?_;refine xX 42 dU h fun x13 h=>?_;obtain⟨r14,h20,h⟩:=bS h;refine gC 44 (aM6 h20)<|xX 48 dU h fun x15 h=>?_;obtain⟨r16,h22,h⟩:=bS h;refine gQ (aV5 h22) ?_;cases r16;replace h:=By h;refine gW 50 (.ret (.d (D.b false))) ?_;obtain⟨o19,h28,h⟩:=bS h;refine gl (Oo rd h28) ?_;exact lp h;replace h:=Bz h;refine gW 50 (.ret (.d (D.b true))) ?_;obtain⟨r17,h24,h⟩:=bS h;refine gC 54 (aN6 h24) ?_;obtain⟨o18,h27,h⟩:=bS h;refine gl (Oo rd h27) ?_;exact lp h
def TD(s7 s8:List Int)(s10:Int)(w3:AD)(s11:Int)(w9:List Int):St:=⟨sp 92 0 [bx 3,sD 7 (D.l dU) s7,sD 8 (D.l dW) s8,rx 9,sI 10 s10,sI 11 s11],[cL 3 AD.D w3,(9,.row 32 1 (w9.map dW))],[]⟩
def TE(s7 s8:List Int)(s10:Int)(w3:AD)(o:(List Int)):Ex×St:=(.exit 2,⟨sp 92 0 [bx 3,sD 7 (D.l dU) s7,sD 8 (D.l dW) s8,rx 9,sI 10 s10],[cL 3 AD.D w3,(9,.row 32 1 (o.map dW))],[]⟩)
theorem aC7(rd:Option Nat)(h:aM1 fH fI eG eF eN fP=some fJ):Lq 34 rd 16018 (TD fH fI eG eF eN fP) ((TE fH fI eG eF) fJ):=
 lL (fun s:Int×List Int=>TD fH fI eG eF s.1 s.2) (TE fH fI eG eF) (eN,fP) (fun⟨eN,fP⟩ o h=>by
 unfold H4 at h
 refine gN 31 dU fH ?_
 refine iB 32 h (fun h=>?_) fun h=>?_
 obtain⟨o22,h33,h⟩:=bS h
 refine gl (aC5 rd h33) ?_
 exact lb h
 exact lb h) h
def TB(s7 s8:List Int)(w3:AD)(s10:Int)(w9:List Int):St:=⟨sp 92 0 [bx 3,sD 7 (D.l dU) s7,sD 8 (D.l dW) s8,rx 9,sI 10 s10],[cL 3 AD.D w3,(9,.row 32 1 (w9.map dW))],[]⟩
def TC(s7 s8:List Int)(w3:AD)(o:(List Int)):Ex×St:=(.exit 0,⟨sp 92 0 [bx 3,sD 7 (D.l dU) s7,rx 9],[cL 3 AD.D w3,(9,.row 32 1 (o.map dW))],[]⟩)
theorem aC6(rd:Option Nat)(h:aM0 fH fI eF eG fP=some fJ):Lq 34 rd 250 (TB fH fI eF eG fP) ((TC fH fI eF) fJ):=
 lL (fun s:Int×List Int=>TB fH fI eF s.1 s.2) (TC fH fI eF) (eG,fP) (fun⟨eG,fP⟩ o h=>by
 unfold H3 at h
 refine gN 25 dW fI ?_
 refine iB 26 h (fun h=>?_) fun h=>?_
 obtain⟨o23,h34,h⟩:=bS h
 refine gl (aC7 rd h34) ?_
 exact lb h
 exact lb h) h
theorem S9(rd:Option Nat)(h:On fH eG eN f0 eT eF fI=some fJ):Lq 34 rd 2073747 ⟨sp 92 0 [bx 3,sD 7 (D.l dU) fH,rx 9,sI 13 eG,sI 14 eN,sD 15 dW f0,sD 86 D.b eT],[cL 3 AD.D eF,(9,.row 32 1 (fI.map dW))],[]⟩ (.normal,⟨sp 92 0 [bx 3,sD 7 (D.l dU) fH,rx 9,sI 13 eG,sI 14 eN],[cL 3 AD.D eF,(9,.row 32 1 (fJ.map dW))],[]⟩):=by unfold On at h;apply g0 (o:=fJ);cases eT;replace h:=By h;exact lp h;replace h:=Bz h;refine gQ (Ap dW [f0])<|gG 90 (.sl ((fI++[f0]).map dW)) (Ap dW [f0]) ?_;obtain⟨h43,h⟩:=cS h;refine gQ (Av dW h43)<|gQ (Au dW fI [f0]) ?_;exact lP h [.live [3,7,9,13,14],.keep [3,90],.ren 90 9,.sort]
theorem S8(rd:Option Nat)(h:Om fH eG eN eF fI=some fJ):Lq 34 rd 259218 ⟨sp 92 0 [bx 3,sD 7 (D.l dU) fH,rx 9,sI 13 eG,sI 14 eN],[cL 3 AD.D eF,(9,.row 32 1 (fI.map dW))],[]⟩ (.normal,⟨sp 92 0 [bx 3,sD 7 (D.l dU) fH,rx 9,sI 13 eG,sI 14 eN],[cL 3 AD.D eF,(9,.row 32 1 (fJ.map dW))],[]⟩):=by unfold Om at h;apply g0 (o:=fJ);refine xX 76 dW h fun x25 h=>?_;refine xX 80 dU h fun x26 h=>?_;obtain⟨r27,h40,h⟩:=bS h;refine gC 82 (aM6 h40) ?_;obtain⟨r28,h41,h⟩:=bS h;refine gC 85 (aN6 h41) ?_;obtain⟨o29,h44,h⟩:=bS h;refine gl (S9 rd h44) ?_;exact lp h
def TH(s7:List Int)(s13:Int)(w3:AD)(s14:Int)(w9:List Int):St:=⟨sp 92 0 [bx 3,sD 7 (D.l dU) s7,rx 9,sI 13 s13,sI 14 s14],[cL 3 AD.D w3,(9,.row 32 1 (w9.map dW))],[]⟩
def TJ(s7:List Int)(s13:Int)(w3:AD)(o:(List Int)):Ex×St:=(.exit 6,⟨sp 92 0 [bx 3,sD 7 (D.l dU) s7,rx 9,sI 13 s13],[cL 3 AD.D w3,(9,.row 32 1 (o.map dW))],[]⟩)
theorem aC9(rd:Option Nat)(h:aM3 fH eG eF eN fI=some fJ):Lq 34 rd 32402 (TH fH eG eF eN fI) ((TJ fH eG eF) fJ):=
 lL (fun s:Int×List Int=>TH fH eG eF s.1 s.2) (TJ fH eG eF) (eN,fI) (fun⟨eN,fI⟩ o h=>by
 unfold H6 at h
 refine gN 69 dU fH ?_
 refine iB 70 h (fun h=>?_) fun h=>?_
 obtain⟨o30,h45,h⟩:=bS h
 refine gl (S8 rd h45) ?_
 exact lb h
 exact lb h) h
def TF(s7:List Int)(w3:AD)(s13:Int)(w9:List Int):St:=⟨sp 92 0 [bx 3,sD 7 (D.l dU) s7,rx 9,sI 13 s13],[cL 3 AD.D w3,(9,.row 32 1 (w9.map dW))],[]⟩
def TG(s7:List Int)(w3:AD)(o:(List Int)):Ex×St:=(.exit 4,⟨sp 92 0 [rx 9],[(9,.row 32 1 (o.map dW))],[]⟩)
theorem aC8(rd:Option Nat)(h:aM2 fH eF eG fI=some fJ):Lq 34 rd 506 (TF fH eF eG fI) ((TG fH eF) fJ):=
 lL (fun s:Int×List Int=>TF fH eF s.1 s.2) (TG fH eF) (eG,fI) (fun⟨eG,fI⟩ o h=>by
 unfold H5 at h
 refine gN 63 dW fI ?_
 refine iB 64 h (fun h=>?_) fun h=>?_
 obtain⟨o31,h46,h⟩:=bS h
 refine gl (aC9 rd h46) ?_
 exact lb h
 exact lb h) h
theorem aRq(h:Xb eF eH eG=some fH):AL Tryz.prog 34 [.d (AD.D eF),.d ((D.l X2.D) eH),.d (dW eG)] [] (.d ((D.l dW) fH)) []:=by unfold Xb at h;apply g0 (o:=fH);obtain⟨r1,h1,h⟩:=bS h;refine gC 18 (aRz h1) ?_;obtain⟨r2,h2,h⟩:=bS h;refine gC 22 (aVy h2) ?_;obtain⟨o24,h35,h⟩:=bS h;refine gL [.live [3,7,8,9,10],.keep [3],.nil 9 9 32 1,.sort] (aC6 none h35) ?_;obtain⟨o32,h47,h⟩:=bS h;refine gl (aC8 none h47) ?_;exact lf h
theorem aU2(h:U7 fA=some eT):AL Tryz.prog 95 [.d (BW.D fA)] [] (.d (D.b eT)) []:=by unfold U7 at h;apply g0 (o:=eT);exact lf h
def XA(s0:List BW)(s7 s8:Int):St:=⟨sp 19 0 [sD 0 (D.l BW.D) s0,(1,.clo (.func 95) [] []),sI 7 s7,sI 8 s8],[],[]⟩
def XB(s0:List BW)(s7:Int)(o:Unit⊕Int):Ex×St:=match o with
 | .inl o=>(.exit 0,⟨sp 19 0 [],[],[]⟩)
 | .inr o=>(.ret,⟨sp 19 0 [sI 4 o],[],[]⟩)
theorem aI3(rd:Option Nat)(h:aOs fQ eG eN=some fR):Lq 133 rd 26 (XA fQ eG eN) ((XB fQ eG) fR):=
 lL (fun s:Int=>XA fQ eG s) (XB fQ eG) eN (fun eN o h=>by
 unfold I7 at h
 refine iB 9 h (fun h=>?_) fun h=>?_
 refine xX 14 BW.D h fun x1 h=>?_
 obtain⟨r2,h3,h⟩:=bS h
 refine gQ (aU2 h3) ?_
 cases r2
 replace h:=By h
 refine gW 16 (.ret (.d (D.b false))) ?_
 exact lb h
 replace h:=Bz h
 refine gW 16 (.ret (.d (D.b true))) ?_
 exact lb h
 exact lb h) h
theorem aXl(h:Zl fQ=some eG):AL Tryz.prog 133 [.d ((D.l BW.D) fQ),.clo (.func 95) [] []] [] (dI eG) []:=by
 unfold Zl at h;apply g0 (o:=eG);refine gN 7 BW.D fQ ?_;obtain⟨o3,h5,h⟩:=bS h;refine gl (aI3 none h5) ?_;replace h:=AK h;rcases h with⟨o4,rfl,h⟩|⟨o5,rfl,h⟩
 exact lf h;exact lf h
theorem aUs(h:Qx fQ=some eT):AL Tryz.prog 94 [.d ((D.l BW.D) fQ),.clo (.func 95) [] []] [] (.d (D.b eT)) []:=by unfold Qx at h;apply g0 (o:=eT);obtain⟨r1,h1,h⟩:=bS h;refine gC 7 (aXl h1) ?_;exact lf h
def Wj(s1:Int)(s8:List X3)(s9 s10:Int):St:=⟨sp 27 0 [sD 1 dU s1,sD 8 (D.l X3.D) s8,sI 9 s9,sI 10 s10],[],[]⟩
def Wl(s1:Int)(s8:List X3)(s9:Int)(o:Unit⊕Unit):Ex×St:=match o with
 | .inl o=>(.exit 0,⟨sp 27 0 [],[],[]⟩)
 | .inr o=>(.ret,⟨sp 27 0 [sD 4 D.b true],[],[]⟩)
theorem aIq(rd:Option Nat)(h:aOi eG fS eN f0=some eS):Lq 68 rd 26 (Wj eG fS eN f0) ((Wl eG fS eN) eS):=
 lL (fun s:Int=>Wj eG fS eN s) (Wl eG fS eN) f0 (fun f0 o h=>by
 unfold Iv at h
 refine iB 11 h (fun h=>?_) fun h=>?_
 refine xX 13 X3.D h fun x1 h=>?_
 obtain⟨h3,h⟩:=cS h
 refine gQ h3 ?_
 refine iB 21 h (fun h=>?_) fun h=>?_
 obtain⟨r2,h5,h⟩:=bS h
 refine gQ (aUs h5) ?_
 cases r2
 replace h:=By h
 refine gW 24 (.ret (.d (D.b false))) ?_
 exact lb h
 replace h:=Bz h
 refine gW 24 (.ret (.d (D.b true))) ?_
 exact lb h
 exact lb h
 exact lb h) h
theorem aW9(h:Z9 eF eG=some eT):AL Tryz.prog 68 [.d (AD.D eF),.d (dU eG)] [] (.d (D.b eT)) []:=by
 unfold Z9 at h;apply g0 (o:=eT);refine gN 9 X3.D eF.symbols ?_;obtain⟨o3,h7,h⟩:=bS h;refine gl (aIq none h7) ?_;replace h:=AK h;rcases h with⟨o4,rfl,h⟩|⟨o5,rfl,h⟩
 exact lf h;exact lf h
def CW(s0:List Int)(s1 s7 s8:Int):St:=⟨sp 19 0 [sD 0 (D.l dW) s0,sD 1 dW s1,sI 7 s7,sI 8 s8],[],[]⟩
def CX(s0:List Int)(s1 s7:Int)(o:Unit⊕Int):Ex×St:=match o with
 | .inl o=>(.exit 0,⟨sp 19 0 [],[],[]⟩)
 | .inr o=>(.ret,⟨sp 19 0 [sI 4 o],[],[]⟩)
theorem Dl(rd:Option Nat)(h:aH7 fH eG eN f0=some fR):Lq 96 rd 26 (CW fH eG eN f0) ((CX fH eG eN) fR):=
 lL (fun s:Int=>CW fH eG eN s) (CX fH eG eN) f0 (fun f0 o h=>by
 unfold Gw at h
 refine iB 9 h (fun h=>?_) fun h=>?_
 refine xX 14 dW h fun x1 h=>?_
 refine iB 16 h (fun h=>?_) fun h=>?_
 exact lb h
 exact lb h
 exact lb h) h
theorem EB(h:Yt fH eG=some eN):AL Tryz.prog 96 [.d ((D.l dW) fH),.d (dW eG)] [] (dI eN) []:=by
 unfold Yt at h;apply g0 (o:=eN);refine gN 7 dW fH ?_;obtain⟨o2,h4,h⟩:=bS h;refine gl (Dl none h4) ?_;replace h:=AK h;rcases h with⟨o3,rfl,h⟩|⟨o4,rfl,h⟩
 exact lf h;exact lf h
theorem Dk(h:Q8 fH eG=some eT):AL Tryz.prog 70 [.d ((D.l dW) fH),.d (dW eG)] [] (.d (D.b eT)) []:=by unfold Q8 at h;apply g0 (o:=eT);obtain⟨r1,h1,h⟩:=bS h;refine gC 7 (EB h1) ?_;exact lf h
theorem aU5(h:Ua fH=some fI):AL Tryz.prog 71 [.row 0] [rW 0 32 1 dW fH] (.row 1) [rW 1 32 1 dW fI]:=
 Nw (ρ:=⟨fun _=>71,fun n=>if n=0 then 0 else if n=3 then 3 else if n=4 then 4 else if n=22 then 36 else 32,id⟩) rfl rfl (aJo mixed ⟨ "slices.Compact[[]uint32,uint32]",by decide,(Tryz.func71).trans (by kernel_rfl)⟩ Tryz.underlying0 Tryz.underlying3 Tryz.underlying4 Tryz.underlying36 Tryz.underlying32 (by kernel_rfl) (by kernel_rfl) (by kernel_rfl) (by kernel_rfl) (by kernel_rfl) (by kernel_rfl) (by kernel_rfl) (by kernel_rfl) (by kernel_rfl)) (by kernel_rfl) fH fI h
theorem aD8(rd:Option Nat)(h:Tz eH eG eN f0 fH fK fL fI fM fO eT eF fP=some fJ):Lq 35 rd 7655015 ⟨sp 54 0 [sD 1 (D.l X2.D) eH,sD 2 dW eG,bx 3,rx 7,sD 9 dU eN,sD 12 dW f0,sD 15 (D.l dU) fH,sI 16 fK,sI 17 fL,sD 28 (D.l dW) fI,sI 29 fM,sI 30 fO,sD 41 D.b eT],[cL 3 AD.D eF,rW 7 32 1 dW fP],[]⟩ (.normal,⟨sp 54 0 [sD 1 (D.l X2.D) eH,sD 2 dW eG,bx 3,rx 7,sD 9 dU eN,sD 15 (D.l dU) fH,sI 16 fK,sI 17 fL,sD 28 (D.l dW) fI,sI 29 fM,sI 30 fO],[cL 3 AD.D eF,rW 7 32 1 dW fJ],[]⟩):=by unfold Tz at h;apply g0 (o:=fJ);cases eT;replace h:=By h;exact lp h;replace h:=Bz h;obtain⟨r8,h12,h⟩:=bS h;refine gC 46 (aOx h12)<|gG 47 (.rwl ((fP++r8).map dW)) (Ap dW r8) ?_;obtain⟨h13,h⟩:=cS h;refine gQ (Av dW h13)<|gQ (Au dW fP r8) ?_;exact lP h [.live [1,2,3,7,9,15,16,17,28,29,30],.keep [3,47],.ren 47 7,.sort]
theorem aD7(rd:Option Nat)(h:Ty eH eG eN fH f0 fK fI fL fM eF fP=some fJ):Lq 35 rd 478438 ⟨sp 54 0 [sD 1 (D.l X2.D) eH,sD 2 dW eG,bx 3,rx 7,sD 9 dU eN,sD 15 (D.l dU) fH,sI 16 f0,sI 17 fK,sD 28 (D.l dW) fI,sI 29 fL,sI 30 fM],[cL 3 AD.D eF,rW 7 32 1 dW fP],[]⟩ (.normal,⟨sp 54 0 [sD 1 (D.l X2.D) eH,sD 2 dW eG,bx 3,rx 7,sD 9 dU eN,sD 15 (D.l dU) fH,sI 16 f0,sI 17 fK,sD 28 (D.l dW) fI,sI 29 fL,sI 30 fM],[cL 3 AD.D eF,rW 7 32 1 dW fJ],[]⟩):=by unfold Ty at h;apply g0 (o:=fJ);refine xX 32 dW h fun x5 h=>?_;obtain⟨r6,h9,h⟩:=bS h;refine gC 37 (aRr h9) ?_;obtain⟨r7,h10,h⟩:=bS h;refine gG 40 (.lend [7] (.d (D.b r7))) (Dk h10) ?_;obtain⟨o9,h14,h⟩:=bS h;refine gl (aD8 rd h14) ?_;exact lp h
def T4(s1:List X2)(s2 s9:Int)(s15:List Int)(s16 s17:Int)(s28:List Int)(s29:Int)(w3:AD)(s30:Int)(w7:List Int):St:=⟨sp 54 0 [sD 1 (D.l X2.D) s1,sD 2 dW s2,bx 3,rx 7,sD 9 dU s9,sD 15 (D.l dU) s15,sI 16 s16,sI 17 s17,sD 28 (D.l dW) s28,sI 29 s29,sI 30 s30],[cL 3 AD.D w3,rW 7 32 1 dW w7],[]⟩
def T5(s1:List X2)(s2 s9:Int)(s15:List Int)(s16 s17:Int)(s28:List Int)(s29:Int)(w3:AD)(o:(List Int)):Ex×St:=(.exit 2,⟨sp 54 0 [sD 1 (D.l X2.D) s1,sD 2 dW s2,bx 3,rx 7,sD 15 (D.l dU) s15,sI 16 s16,sI 17 s17],[cL 3 AD.D w3,rW 7 32 1 dW o],[]⟩)
theorem aEa(rd:Option Nat)(h:aNa eH eG eN fH f0 fK fI fL eF fM fP=some fJ):Lq 35 rd 29902 (T4 eH eG eN fH f0 fK fI fL eF fM fP) ((T5 eH eG eN fH f0 fK fI fL eF) fJ):=
 lL (fun s:Int×List Int=>T4 eH eG eN fH f0 fK fI fL eF s.1 s.2) (T5 eH eG eN fH f0 fK fI fL eF) (fM,fP) (fun⟨fM,fP⟩ o h=>by
 unfold Gi at h
 refine iB 31 h (fun h=>?_) fun h=>?_
 obtain⟨o10,h15,h⟩:=bS h
 refine gl (aD7 rd h15) ?_
 exact lb h
 exact lb h) h
theorem aD6(rd:Option Nat)(h:Tx eH eG fH eN f0 eF fI=some fJ):Lq 35 rd 934 ⟨sp 54 0 [sD 1 (D.l X2.D) eH,sD 2 dW eG,bx 3,rx 7,sD 15 (D.l dU) fH,sI 16 eN,sI 17 f0],[cL 3 AD.D eF,rW 7 32 1 dW fI],[]⟩ (.normal,⟨sp 54 0 [sD 1 (D.l X2.D) eH,sD 2 dW eG,bx 3,rx 7,sD 15 (D.l dU) fH,sI 16 eN,sI 17 f0],[cL 3 AD.D eF,rW 7 32 1 dW fJ],[]⟩):=by unfold Tx at h;apply g0 (o:=fJ);refine xX 19 dU h fun x2 h=>?_;obtain⟨r3,h4,h⟩:=bS h;refine gC 23 (aW9 h4) ?_;refine iB 24 h (fun h=>?_) fun h=>?_;exact lp h;obtain⟨r4,h6,h⟩:=bS h;refine gC 28 (aOx h6)<|gN 29 dW r4 ?_;obtain⟨o11,h16,h⟩:=bS h;refine gl (aEa rd h16) ?_;exact lp h
def T0(s1:List X2)(s2:Int)(s15:List Int)(s16:Int)(w3:AD)(s17:Int)(w7:List Int):St:=⟨sp 54 0 [sD 1 (D.l X2.D) s1,sD 2 dW s2,bx 3,rx 7,sD 15 (D.l dU) s15,sI 16 s16,sI 17 s17],[cL 3 AD.D w3,rW 7 32 1 dW w7],[]⟩
def T3(s1:List X2)(s2:Int)(s15:List Int)(s16:Int)(w3:AD)(o:(List Int)):Ex×St:=(.exit 0,⟨sp 54 0 [rx 7],[rW 7 32 1 dW o],[]⟩)
theorem aD9(rd:Option Nat)(h:aM9 eH eG fH eN eF f0 fI=some fJ):Lq 35 rd 58 (T0 eH eG fH eN eF f0 fI) ((T3 eH eG fH eN eF) fJ):=
 lL (fun s:Int×List Int=>T0 eH eG fH eN eF s.1 s.2) (T3 eH eG fH eN eF) (f0,fI) (fun⟨f0,fI⟩ o h=>by
 unfold Gh at h
 refine iB 18 h (fun h=>?_) fun h=>?_
 obtain⟨o12,h17,h⟩:=bS h
 refine gl (aD6 rd h17) ?_
 exact lb h
 exact lb h) h
theorem aRy(h:Xl eF eH eG=some fH):AL Tryz.prog 35 [.d (AD.D eF),.d ((D.l X2.D) eH),.d (dW eG)] [] (.d ((D.l dW) fH)) []:=by unfold Xl at h;apply g0 (o:=fH);obtain⟨r1,h1,h⟩:=bS h;refine gC 15 (aRl h1)<|gN 16 dU r1 ?_;obtain⟨o13,h18,h⟩:=bS h;refine gL [.live [1,2,3,7,15,16,17],.keep [3],.nilw 7 7 32 1,.sort] (aD9 none h18) ?_;obtain⟨r14,h19,h⟩:=bS h;refine gG 51 (.cx false [(0,7)] [] (.tup []) [rW 0 32 1 dW r14]) (Cq h19) ?_;obtain⟨r15,h20,h⟩:=bS h;refine gG 53 (.cx true [(0,7)] [(1,53)] (.row 1) [rW 1 32 1 dW r15]) (aU5 h20) ?_;exact lF h [.frz 53]
theorem aUt(h:Qy eF eH eG=some eN):AL Tryz.prog 36 [.d (AD.D eF),.d ((D.l X2.D) eH),.d (dW eG)] [] (dI eN) []:=by unfold Qy at h;apply g0 (o:=eN);obtain⟨r1,h1,h⟩:=bS h;refine gC 11 (aRy h1) ?_;obtain⟨r2,h2,h⟩:=bS h;refine gC 12 (aRf h2) ?_;exact lf h
def Wx(s1:Int)(w2:AD)(s5:Int):St:=⟨sp 27 0 [sD 1 dW s1,bx 2,sI 5 s5],[cL 2 AD.D w2],[]⟩
def Wy(s1:Int)(w2:AD)(o:Unit⊕Unit):Ex×St:=match o with
 | .inl o=>(.exit 0,⟨sp 27 0 [],[],[]⟩)
 | .inr o=>(.ret,⟨sp 27 0 [sD 4 D.b true],[],[]⟩)
theorem aIx(rd:Option Nat)(h:aOn eG eF eN=some eS):Lq 25 rd 26 (Wx eG eF eN) ((Wy eG eF) eS):=
 lL (fun s:Int=>Wx eG eF s) (Wy eG eF) eN (fun eN o h=>by
 unfold I1 at h
 refine gN 9 Xc.D eF.states ?_
 refine iB 10 h (fun h=>?_) fun h=>?_
 obtain⟨h2,h⟩:=cS h
 refine gQ h2<|gQ (of_decide_eq_true rfl:(2:Int)≠0) ?_
 refine iB 19 h (fun h=>?_) fun h=>?_
 refine xX 23 Xc.D h fun x1 h=>?_
 refine iB 26 h (fun h=>?_) fun h=>?_
 exact lb h
 exact lb h
 exact lb h
 exact lb h) h
theorem aXf(h:Zf eF eG=some eT):AL Tryz.prog 25 [.d (AD.D eF),.d (dW eG)] [] (.d (D.b eT)) []:=by
 unfold Zf at h;apply g0 (o:=eT);obtain⟨o2,h6,h⟩:=bS h;refine gl (aIx none h6) ?_;replace h:=AK h;rcases h with⟨o3,rfl,h⟩|⟨o4,rfl,h⟩
 exact lf h;exact lf h
theorem aHs(rd:Option Nat)(h:aHr fH eG eN eT eF=some f0):Lq 37 rd 3913 ⟨sp 34 0 [bx 3,sD 7 (D.l dW) fH,sI 8 eG,sI 9 eN,sD 25 D.b eT],[cL 3 AD.D eF],[]⟩ (.normal,⟨sp 34 0 [bx 3,sD 7 (D.l dW) fH,sI 8 f0,sI 9 eN],[cL 3 AD.D eF],[]⟩):=by unfold aHr at h;apply g0 (o:=f0);cases eT;replace h:=By h;exact lp h;replace h:=Bz h;exact lp h
theorem aHq(rd:Option Nat)(h:aHp fH eG eN eF=some f0):Lq 37 rd 978 ⟨sp 34 0 [bx 3,sD 7 (D.l dW) fH,sI 8 eG,sI 9 eN],[cL 3 AD.D eF],[]⟩ (.normal,⟨sp 34 0 [bx 3,sD 7 (D.l dW) fH,sI 8 f0,sI 9 eN],[cL 3 AD.D eF],[]⟩):=by unfold aHp at h;apply g0 (o:=f0);refine xX 23 dW h fun x2 h=>?_;obtain⟨r3,h4,h⟩:=bS h;refine gC 25 (aXf h4) ?_;obtain⟨o4,h6,h⟩:=bS h;refine gl (aHs rd h6) ?_;exact lp h
def Vu(s7:List Int)(w3:AD)(s8 s9:Int):St:=⟨sp 34 0 [bx 3,sD 7 (D.l dW) s7,sI 8 s8,sI 9 s9],[cL 3 AD.D w3],[]⟩
def Vv(s7:List Int)(w3:AD)(o:Int):Ex×St:=(.exit 0,⟨sp 34 0 [sD 7 (D.l dW) s7,sI 8 o],[],[]⟩)
theorem aHt(rd:Option Nat)(h:aN2 fH eF eG eN=some f0):Lq 37 rd 122 (Vu fH eF eG eN) ((Vv fH eF) f0):=
 lL (fun s:Int×Int=>Vu fH eF s.1 s.2) (Vv fH eF) (eG,eN) (fun⟨eG,eN⟩ o h=>by
 unfold Ih at h
 refine gN 16 dW fH ?_
 refine iB 17 h (fun h=>?_) fun h=>?_
 obtain⟨o5,h7,h⟩:=bS h
 refine gl (aHq rd h7) ?_
 exact lb h
 exact lb h) h
theorem aWj(h:Yj eF eH eG=some eN):AL Tryz.prog 37 [.d (AD.D eF),.d ((D.l X2.D) eH),.d (dW eG)] [] (dI eN) []:=by unfold Yj at h;apply g0 (o:=eN);obtain⟨r1,h1,h⟩:=bS h;refine gC 13 (aRq h1)<|gW 30 (.int (r1.length:Int)) ?_;obtain⟨o6,h8,h⟩:=bS h;refine gl (aHt none h8)<|gQ (Ee dW r1) ?_;refine iB 31 h (fun h=>?_) fun h=>?_;exact lf h;refine iB 33 h (fun h=>?_) fun h=>?_;exact lf h;exact lf h
def VF(s7 s8:List Int)(s9:Int)(s10:Bool)(s11:Int):St:=⟨sp 93 0 [sD 7 (D.l dW) s7,sD 8 (D.l dW) s8,sI 9 s9,sD 10 D.b s10,sI 11 s11],[],[]⟩
def VG(s7 s8:List Int)(s9:Int)(o:Bool):Ex×St:=(.exit 2,⟨sp 93 0 [sD 7 (D.l dW) s7,sD 8 (D.l dW) s8,sI 9 s9,sD 10 D.b o],[],[]⟩)
theorem aFy(rd:Option Nat)(h:aNq fH fI eG eT eN=some eW):Lq 7 rd 129610 (VF fH fI eG eT eN) ((VG fH fI eG) eW):=
 lL (fun s:Bool×Int=>VF fH fI eG s.1 s.2) (VG fH fI eG) (eT,eN) (fun⟨eT,eN⟩ o h=>by
 unfold IU at h
 refine gN 58 dW fH ?_
 refine iB 59 h (fun h=>?_) fun h=>?_
 refine iB 63 h (fun h=>?_) fun h=>?_
 exact lb h
 refine xX 66 dW h fun x8 h=>?_
 refine xX 70 dW h fun x9 h=>?_
 exact lb h
 exact lb h) h
def VD(s7 s8:List Int)(s9:Int):St:=⟨sp 93 0 [sD 7 (D.l dW) s7,sD 8 (D.l dW) s8,sI 9 s9],[],[]⟩
def VE(s7 s8:List Int)(o:Unit⊕Unit):Ex×St:=match o with
 | .inl o=>(.exit 0,⟨sp 93 0 [],[],[]⟩)
 | .inr o=>(.ret,⟨sp 93 0 [sD 6 D.b false],[],[]⟩)
theorem aFx(rd:Option Nat)(h:aFw fH fI eG=some eS):Lq 7 rd 506 (VD fH fI eG) ((VE fH fI) eS):=
 lL (fun s:Int=>VD fH fI s) (VE fH fI) eG (fun eG o h=>by
 unfold IT at h
 refine gN 52 dW fI ?_
 refine iB 53 h (fun h=>?_) fun h=>?_
 obtain⟨o10,h18,h⟩:=bS h
 refine gl (aFy rd h18) ?_
 refine iB 76 h (fun h=>?_) fun h=>?_
 exact lb h
 refine iB 79 h (fun h=>?_) fun h=>?_
 refine xX 82 dW h fun x11 h=>?_
 refine xX 87 dW h fun x12 h=>?_
 refine iB 91 h (fun h=>?_) fun h=>?_
 exact lb h
 exact lb h
 exact lb h
 exact lb h) h
theorem aV3(h:Y1 eF eH eG=some eT):AL Tryz.prog 7 [.d (AD.D eF),.d ((D.l X2.D) eH),.d (dW eG)] [] (.d (D.b eT)) []:=by
 unfold Y1 at h;apply g0 (o:=eT);obtain⟨r1,h1,h⟩:=bS h;refine gC 14 (aUk h1) ?_;refine iB 16 h (fun h=>?_) fun h=>?_;obtain⟨r2,h3,h⟩:=bS h;refine gC 25 (aMh h3) ?_;exact lf h;refine gN 20 Xc.D eF.states ?_;obtain⟨h4,h⟩:=cS h;refine gQ h4 ?_;refine iB 24 h (fun h=>?_) fun h=>?_;obtain⟨r3,h6,h⟩:=bS h;refine gC 25 (aMh h6) ?_;exact lf h;obtain⟨r4,h7,h⟩:=bS h;refine gC 29 (aRq h7)<|gW 37 (.int (r4.length:Int)) ?_;obtain⟨r5,h8,h⟩:=bS h;refine gC 33 (aRy h8)<|gN 35 dW r5<|gQ (Ee dW r4) ?_;refine iB 39 h (fun h=>?_) fun h=>?_;exact lf h;obtain⟨r6,h10,h⟩:=bS h;refine gC 43 (aUt h10) ?_;obtain⟨r7,h11,h⟩:=bS h;refine gC 47 (aWj h11) ?_;refine iB 49 h (fun h=>?_) fun h=>?_;exact lf h;obtain⟨o13,h24,h⟩:=bS h;refine gl (aFx none h24) ?_;replace h:=AK h;rcases h with⟨o14,rfl,h⟩|⟨o15,rfl,h⟩
 obtain⟨r16,h25,h⟩:=bS h;refine gC 92 (aMh h25) ?_;exact lf h;exact lf h
end Go.Ac
