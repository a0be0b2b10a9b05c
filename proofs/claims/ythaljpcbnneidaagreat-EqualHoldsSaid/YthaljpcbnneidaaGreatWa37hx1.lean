/- Own work, printed: the functions compute these. -/
import Derived.Test.YthaljpcbnneidaaGreatSh37h
import Derived.Test.YthaljpcbnneidaaGreatProg
set_option linter.unusedVariables false
set_option linter.unusedSimpArgs false
namespace Go.Ac
open Go.Proofs
variable {a8 bG cT cU:AA}
variable {a9 aB aO aS bN d4 d5 d6 d7 d9:Int}
variable {aA:Unit⊕Unit}
variable {aC:List (List UInt8)}
variable {aD aP:List UInt8}
variable {aE b9:Bool}
variable {aF bE:List X7}
variable {aG:Unit⊕Int}
variable {aH:Unit⊕(Int×Int)}
variable {aI:Int×Int}
variable {aJ aR cR:X0}
variable {aK:(List (List UInt8))⊕Unit}
variable {aL:X0×Int}
variable {aM:Int×Bool}
variable {aN:Int×Int×Int}
variable {aQ:Unit⊕Bool}
variable {aT aY:X8}
variable {aU:Xe}
variable {aV:Int⊕Unit}
variable {aW:DN}
variable {aX:BQ}
variable {aZ:List Bool}
variable {b6 bB:List Int}
variable {b7:(List Int)}
variable {b8:(List Bool×List Int)}
variable {bA:List Xe}
variable {bC bD:X7}
variable {bH bI:List X0}
variable {bJ c9:X3}
variable {bK:AA×X3}
variable {bL:X2}
variable {bM bP bR cE:List X2}
variable {bO:(Int×Int)}
variable {bQ:Bool×List X2}
variable {bU:List BQ}
variable {bV:(List X2×List X2)⊕(List X2×List X2)}
variable {bW:Bool×List X2×List X2}
variable {bX:AL×Bool}
variable {bY:AL}
variable {bZ cF cG:List AL}
variable {cA:Unit}
variable {cB:List X2×List X2}
variable {cC:Unit⊕X0}
variable {cD:X0×Bool}
variable {cH:(List AL×List AL)}
variable {cI:List AL×List AL}
variable {cJ:X5}
variable {cK:MP X5 X3}
variable {cM:List X5}
variable {cN:(MP X5 X3×List X5)}
variable {cO:MP X5 X3×List X5}
variable {cP:List X8}
variable {cQ:(List X0)}
variable {cV:List X5×MP X5 X3}
variable {cW:List Xd}
variable {cX cZ:List X3}
variable {cY:(List X3)}
variable {d8:Xd}
variable {dA dB dC:X6}
variable {dD:MP X6 Xc}
variable {dE:List X6}
variable {dF:(List X6×MP X6 Xc)}
theorem mixed:Tryz.prog.follows .mixedOrders=true:=by kernel_rfl
theorem lB{β:Type}{ws:List (Nat×W)}{lw:List Lw}{Q:List Prop}{o v:β}{rd:Option Nat}{root:Code}{q:List Nat}{s:St}{E:β->Ex}{S:β->St}(h:some v=some o)(l:List Ws)(he:(cj Q True/\(E v=E v/\S v=S v))=PF Tryz.prog rd root ws lw q l s (E v) (S v):=by kernel_rfl):Gl ws lw Q (fun o=>Arr Tryz.prog rd root q s (E o) (S o)) o:=lB_ mixed h l he
theorem lP{β:Type}{ws:List (Nat×W)}{lw:List Lw}{Q:List Prop}{o v:β}{rd:Option Nat}{root:Code}{q:List Nat}{s:St}{E:β->Ex}{S:β->St}(h:some v=some o)(l:List Ws)(he:(cj Q True/\(E v=E v/\S v=S v))=PF Tryz.prog rd root ws lw q l s (E v) (S v):=by kernel_rfl):Gl ws lw Q (fun o=>C6 Tryz.prog rd root q s (E o) (S o)) o:=lP_ mixed h l he
theorem lb{β:Type}{ws:List (Nat×W)}{lw:List Lw}{Q:List Prop}{o v:β}{rd:Option Nat}{root:Code}{q:List Nat}{s:St}{E:β->Ex}{S:β->St}(h:some v=some o)(he:(cj Q True/\(E v=E v/\S v=S v))=PF Tryz.prog rd root ws lw q (lvS (S v)) s (E v) (S v):=by kernel_rfl):Gl ws lw Q (fun o=>Arr Tryz.prog rd root q s (E o) (S o)) o:=lB_ mixed h _ he
theorem lp{β:Type}{ws:List (Nat×W)}{lw:List Lw}{Q:List Prop}{o v:β}{rd:Option Nat}{root:Code}{q:List Nat}{s:St}{E:β->Ex}{S:β->St}(h:some v=some o)(he:(cj Q True/\(E v=E v/\S v=S v))=PF Tryz.prog rd root ws lw q (lvS (S v)) s (E v) (S v):=by kernel_rfl):Gl ws lw Q (fun o=>C6 Tryz.prog rd root q s (E o) (S o)) o:=lP_ mixed h _ he
theorem lF{β:Type}{ws:List (Nat×W)}{lw:List Lw}{Q:List Prop}{o v:β}{f:FuncId}{args:List A}{R:β->A}(h:some v=some o)(l:List Ws)(he:(cj Q True/\(R v=R v/\true=true))=Vx Tryz.prog f ws lw l args (R v):=by kernel_rfl):Gl ws lw Q (fun o=>AO Tryz.prog f args [] (R o) []) o:=lF_ mixed h l he
theorem lf{β:Type}{ws:List (Nat×W)}{lw:List Lw}{Q:List Prop}{o v:β}{f:FuncId}{args:List A}{R:β->A}(h:some v=some o)(he:(cj Q True/\(R v=R v/\true=true))=Vx Tryz.prog f ws lw [] args (R v):=by kernel_rfl):Gl ws lw Q (fun o=>AO Tryz.prog f args [] (R o) []) o:=lF_ mixed h [] he
abbrev Lq(n:Nat)(rd:Option Nat)(p:Nat)(s:St)(x:Ex×St):Prop:=C6 Tryz.prog rd (Cg Tryz.prog n) (pth p) s x.1 x.2
theorem lI{β:Type}{ws:List (Nat×W)}{lw:List Lw}{Q:List Prop}{o v:β}{f:FuncId}{args:List A}{F0:Bx}(hF:Far F0){r:A}{F:β->Bx}(hc:∀f,∀p∈F f,∀m,p.2.has m=true->m∈AI (F f))(h:some v=some o)(l:List Ws)(he:(cj Q True/\(r=r/\F v=F v/\true=true))=aDd Tryz.prog f ws lw l args F0 r (F v):=by kernel_rfl):Gl ws lw Q (fun o=>IE Tryz.prog f args F0 r (F o)) o:=lI_ mixed hF hc h l he
theorem lX{β:Type}{ws:List (Nat×W)}{lw:List Lw}{Q:List Prop}{o v:β}{f:FuncId}{args:List A}{X:Bx}{ks:List Nat}{us:List Value}{R:β->A}{X1:β->Bx}(h:some v=some o)(l:List Ws)(he:(cj Q True/\(R v=R v/\X1 v++[(vx,.vals (HO args ks) us)]=X1 v++[(vx,.vals (HO args ks) us)]/\true=true))=aDe Tryz.prog f ws lw l args X ks us (R v) (X1 v):=by kernel_rfl):Gl ws lw Q (fun o=>XG Tryz.prog f args X ks us (R o) (X1 o)) o:=lX_ h l he
theorem BE:aDb Tryz.prog 60 X6.D:=aPf (x:=fun v=>v.p) (y:=fun v=>v.q) Tryz.underlying60 (by kernel_rfl) Tryz.underlying57 Tryz.underlying57 (by decide) (by decide) rfl rfl (fun _=>rfl) (fun a b h1 h2=>by cases a;cases b;simp only at h1 h2;subst h1;subst h2;rfl)
theorem B5:aDb Tryz.prog 64 X5.D:=aPf (x:=fun v=>v.p) (y:=fun v=>v.q) Tryz.underlying64 (by kernel_rfl) Tryz.underlying62 Tryz.underlying62 (by decide) (by decide) rfl rfl (fun _=>rfl) (fun a b h1 h2=>by cases a;cases b;simp only at h1 h2;subst h1;subst h2;rfl)
def P8(w1:AA)(s3:Int):St:=⟨sp 166 0 [bx 1,sI 3 s3],[cL 1 AA.D w1],[]⟩
def P9(w1:AA)(o:Unit⊕Unit):Ex×St:=match o with
 | .inl o=>(.exit 0,⟨sp 166 0 [bx 1],[cL 1 AA.D w1],[]⟩)
 | .inr o=>(.ret,⟨sp 166 0 [sI 2 0],[],[]⟩)
theorem WP(rd:Option Nat)(h:aEv a8 a9=some aA):Lq 14 rd 58 (P8 a8 a9) ((P9 a8) aA):=
 lL (fun s:Int=>P8 a8 s) (P9 a8) a9 (fun a9 o h=>by
 unfold GD at h
 refine gN 58 X7.D a8.decls ?_
 refine iB 59 h (fun h=>?_) fun h=>?_
 refine xX 65 X7.D h fun x1 h=>?_
 refine gN 68 dZ x1.types ?_
 refine iB 70 h (fun h=>?_) fun h=>?_
 exact lb h
 refine xX 74 X7.D h fun x2 h=>?_
 refine gG 77 (.int (x2.name.length:Int)) (BO x2.name) ?_
 refine iB 79 h (fun h=>?_) fun h=>?_
 exact lb h
 exact lb h
 exact lb h) h
def QC(s4:Int)(w1:AA)(s5:Int):St:=⟨sp 166 0 [bx 1,sI 4 s4,sI 5 s5],[cL 1 AA.D w1],[]⟩
def QD(s4:Int)(w1:AA)(o:Unit⊕Unit):Ex×St:=match o with
 | .inl o=>(.exit 4,⟨sp 166 0 [bx 1,sI 4 s4],[cL 1 AA.D w1],[]⟩)
 | .inr o=>(.ret,⟨sp 166 0 [sI 2 0],[],[]⟩)
theorem WR(rd:Option Nat)(h:aEx a9 a8 aB=some aA):Lq 14 rd 15654 (QC a9 a8 aB) ((QD a9 a8) aA):=
 lL (fun s:Int=>QC a9 a8 s) (QD a9 a8) aB (fun aB o h=>by
 unfold GF at h
 refine xX 99 X8.D h fun x7 h=>?_
 refine gN 102 BQ.D x7.args ?_
 refine iB 103 h (fun h=>?_) fun h=>?_
 refine xX 109 X8.D h fun x8 h=>?_
 refine xX 113 BQ.D h fun x9 h=>?_
 refine gG 117 (.int (x9.value.str.length:Int)) (BO x9.value.str) ?_
 refine iB 118 h (fun h=>?_) fun h=>?_
 exact lb h
 exact lb h
 exact lb h) h
def QA(w1:AA)(s4:Int):St:=⟨sp 166 0 [bx 1,sI 4 s4],[cL 1 AA.D w1],[]⟩
def QB(w1:AA)(o:Unit⊕Unit):Ex×St:=match o with
 | .inl o=>(.exit 2,⟨sp 166 0 [bx 1],[cL 1 AA.D w1],[]⟩)
 | .inr o=>(.ret,⟨sp 166 0 [sI 2 0],[],[]⟩)
theorem WQ(rd:Option Nat)(h:aEw a8 a9=some aA):Lq 14 rd 122 (QA a8 a9) ((QB a8) aA):=
 lL (fun s:Int=>QA a8 s) (QB a8) a9 (fun a9 o h=>by
 unfold GE at h
 refine gN 83 X8.D a8.symbols ?_
 refine iB 84 h (fun h=>?_) fun h=>?_
 refine xX 90 X8.D h fun x6 h=>?_
 refine gN 93 BQ.D x6.args ?_
 refine iB 94 h (fun h=>?_) fun h=>?_
 exact lb h
 obtain⟨o10,h23,h⟩:=bS h
 refine gl (WR rd h23) ?_
 replace h:=AM h
 rcases h with⟨o11,rfl,h⟩|⟨o12,rfl,h⟩
 exact lb h
 exact lb h
 exact lb h) h
def QE(w1:AA)(s6:Int):St:=⟨sp 166 0 [bx 1,sI 6 s6],[cL 1 AA.D w1],[]⟩
def QF(w1:AA)(o:Unit⊕Unit):Ex×St:=match o with
 | .inl o=>(.exit 6,⟨sp 166 0 [bx 1],[cL 1 AA.D w1],[]⟩)
 | .inr o=>(.ret,⟨sp 166 0 [sI 2 0],[],[]⟩)
theorem WS(rd:Option Nat)(h:aEy a8 a9=some aA):Lq 14 rd 250 (QE a8 a9) ((QF a8) aA):=
 lL (fun s:Int=>QE a8 s) (QF a8) a9 (fun a9 o h=>by
 unfold GG at h
 refine gN 122 Xt.D a8.frees ?_
 refine iB 123 h (fun h=>?_) fun h=>?_
 refine xX 129 Xt.D h fun x16 h=>?_
 refine gG 133 (.int (x16.init_.str.length:Int)) (BO x16.init_.str) ?_
 refine iB 134 h (fun h=>?_) fun h=>?_
 exact lb h
 exact lb h
 exact lb h) h
def QG(w1:AA)(s7:Int):St:=⟨sp 166 0 [bx 1,sI 7 s7],[cL 1 AA.D w1],[]⟩
def QH(w1:AA)(o:Unit⊕Unit):Ex×St:=match o with
 | .inl o=>(.exit 8,⟨sp 166 0 [bx 1],[cL 1 AA.D w1],[]⟩)
 | .inr o=>(.ret,⟨sp 166 0 [sI 2 0],[],[]⟩)
theorem WT(rd:Option Nat)(h:aEz a8 a9=some aA):Lq 14 rd 506 (QG a8 a9) ((QH a8) aA):=
 lL (fun s:Int=>QG a8 s) (QH a8) a9 (fun a9 o h=>by
 unfold GH at h
 refine gN 138 Y7.D a8.nodes ?_
 refine iB 139 h (fun h=>?_) fun h=>?_
 refine xX 145 Y7.D h fun x20 h=>?_
 refine gG 149 (.int (x20.value.str.length:Int)) (BO x20.value.str) ?_
 refine iB 150 h (fun h=>?_) fun h=>?_
 exact lb h
 exact lb h
 exact lb h) h
def QI(w1:AA)(s8:Int):St:=⟨sp 166 0 [bx 1,sI 8 s8],[cL 1 AA.D w1],[]⟩
def QJ(w1:AA)(o:Unit⊕Unit):Ex×St:=match o with
 | .inl o=>(.exit 10,⟨sp 166 0 [],[],[]⟩)
 | .inr o=>(.ret,⟨sp 166 0 [sI 2 0],[],[]⟩)
theorem WU(rd:Option Nat)(h:aE0 a8 a9=some aA):Lq 14 rd 1018 (QI a8 a9) ((QJ a8) aA):=
 lL (fun s:Int=>QI a8 s) (QJ a8) a9 (fun a9 o h=>by
 unfold GI at h
 refine gN 154 Xe.D a8.trans ?_
 refine iB 155 h (fun h=>?_) fun h=>?_
 refine xX 161 Xe.D h fun x24 h=>?_
 refine gN 164 DN.D x24.sets ?_
 refine iB 165 h (fun h=>?_) fun h=>?_
 exact lb h
 exact lb h
 exact lb h) h
theorem aMj(h:Xf a8=some a9):AO Tryz.prog 14 [.d (AA.D a8)] [] (dI a9) []:=by
 unfold Xf at h;apply g0 (o:=a9);refine gN 11 X7.D a8.decls ?_;refine iB 13 h (fun h=>?_) fun h=>?_;exact lf h;refine gN 16 Xq.D a8.quants ?_;refine iB 19 h (fun h=>?_) fun h=>?_;exact lf h;refine gN 22 Xt.D a8.frees ?_;refine iB 25 h (fun h=>?_) fun h=>?_;exact lf h;refine gN 28 Xd.D a8.states ?_;refine iB 31 h (fun h=>?_) fun h=>?_;exact lf h;refine gN 34 X8.D a8.symbols ?_;refine iB 37 h (fun h=>?_) fun h=>?_;exact lf h;refine gN 40 Xe.D a8.trans ?_;refine iB 43 h (fun h=>?_) fun h=>?_;exact lf h;refine gN 46 Y7.D a8.nodes ?_;refine iB 49 h (fun h=>?_) fun h=>?_;exact lf h;refine gG 52 (.int (a8.name.length:Int)) (BO a8.name) ?_;refine iB 54 h (fun h=>?_) fun h=>?_;exact lf h;obtain⟨o3,h14,h⟩:=bS h;refine gl (WP none h14) ?_;replace h:=AM h;rcases h with⟨o4,rfl,h⟩|⟨o5,rfl,h⟩
 obtain⟨o13,h24,h⟩:=bS h;refine gl (WQ none h24) ?_;replace h:=AM h;rcases h with⟨o14,rfl,h⟩|⟨o15,rfl,h⟩
 obtain⟨o17,h28,h⟩:=bS h;refine gl (WS none h28) ?_;replace h:=AM h;rcases h with⟨o18,rfl,h⟩|⟨o19,rfl,h⟩
 obtain⟨o21,h32,h⟩:=bS h;refine gl (WT none h32) ?_;replace h:=AM h;rcases h with⟨o22,rfl,h⟩|⟨o23,rfl,h⟩
 obtain⟨o25,h36,h⟩:=bS h;refine gl (WU none h36) ?_;replace h:=AM h;rcases h with⟨o26,rfl,h⟩|⟨o27,rfl,h⟩
 exact lf h;exact lf h;exact lf h;exact lf h;exact lf h;exact lf h
theorem aLy(h:Qs=some aC):AO Tryz.prog 73 [] [] (.d ((D.l D.s) aC)) []:=by unfold Qs at h;apply g0 (o:=aC);refine gQ (AY D.s ([([97,99,99,101,112,116]:List UInt8),([97,108,115,111]:List UInt8),([97,110,100]:List UInt8),([98,111,111,108]:List UInt8),([100,111]:List UInt8),([101,118,101,110,116]:List UInt8),([101,120,105,115,116,115]:List UInt8),([102,97,108,115,101]:List UInt8),([102,111,114,97,108,108]:List UInt8),([102,114,101,101]:List UInt8),([105,102]:List UInt8),([105,110,116]:List UInt8),([110,101,120,116]:List UInt8),([110,111,116]:List UInt8),([111,110]:List UInt8),([111,114]:List UInt8),([113,101,97]:List UInt8),([115,107,105,112]:List UInt8),([115,116,97,114,116]:List UInt8),([115,116,114,105,110,103]:List UInt8),([116,111]:List UInt8),([116,114,117,101]:List UInt8)])) ?_;exact lf h
def TK(s0:List UInt8)(s3:Int):St:=⟨sp 55 0 [sD 0 D.s s0,sI 3 s3],[],[]⟩
def TL(s0:List UInt8)(o:Unit⊕Unit):Ex×St:=match o with
 | .inl o=>(.exit 0,⟨sp 55 0 [],[],[]⟩)
 | .inr o=>(.ret,⟨sp 55 0 [sD 2 D.b false],[],[]⟩)
theorem aAn(rd:Option Nat)(h:aFy aD a9=some aA):Lq 74 rd 58 (TK aD a9) ((TL aD) aA):=
 lL (fun s:Int=>TK aD s) (TL aD) a9 (fun a9 o h=>by
 unfold Gr at h
 refine gG 16 (.int (aD.length:Int)) (BO aD) ?_
 refine iB 17 h (fun h=>?_) fun h=>?_
 obtain⟨x1,h4,h⟩:=xS h
 refine gG 22 (.int x1.toNat) (G9 h4) ?_
 refine iB 25 h (fun h=>?_) fun h=>?_
 refine iB 29 h (fun h=>?_) fun h=>?_
 exact lb h
 refine iB 32 h (fun h=>?_) fun h=>?_
 refine iB 37 h (fun h=>?_) fun h=>?_
 exact lb h
 refine iB 43 h (fun h=>?_) fun h=>?_
 refine iB 46 h (fun h=>?_) fun h=>?_
 exact lb h
 refine iB 50 h (fun h=>?_) fun h=>?_
 exact lb h
 refine iB 54 h (fun h=>?_) fun h=>?_
 exact lb h
 exact lb h
 exact lb h
 refine iB 43 h (fun h=>?_) fun h=>?_
 refine iB 46 h (fun h=>?_) fun h=>?_
 exact lb h
 refine iB 50 h (fun h=>?_) fun h=>?_
 exact lb h
 refine iB 54 h (fun h=>?_) fun h=>?_
 exact lb h
 exact lb h
 exact lb h
 refine iB 32 h (fun h=>?_) fun h=>?_
 refine iB 37 h (fun h=>?_) fun h=>?_
 exact lb h
 refine iB 43 h (fun h=>?_) fun h=>?_
 refine iB 46 h (fun h=>?_) fun h=>?_
 exact lb h
 refine iB 50 h (fun h=>?_) fun h=>?_
 exact lb h
 refine iB 54 h (fun h=>?_) fun h=>?_
 exact lb h
 exact lb h
 exact lb h
 refine iB 43 h (fun h=>?_) fun h=>?_
 refine iB 46 h (fun h=>?_) fun h=>?_
 exact lb h
 refine iB 50 h (fun h=>?_) fun h=>?_
 exact lb h
 refine iB 54 h (fun h=>?_) fun h=>?_
 exact lb h
 exact lb h
 exact lb h
 exact lb h) h
theorem aNw(h:Yy aD=some aE):AO Tryz.prog 74 [.d (D.s aD)] [] (.d (D.b aE)) []:=by
 unfold Yy at h;apply g0 (o:=aE);refine gG 7 (.int (aD.length:Int)) (BO aD) ?_;refine iB 9 h (fun h=>?_) fun h=>?_;exact lf h;refine gG 11 (.int (aD.length:Int)) (BO aD) ?_;refine iB 13 h (fun h=>?_) fun h=>?_;exact lf h;obtain⟨o2,h27,h⟩:=bS h;refine gl (aAn none h27) ?_;replace h:=AM h;rcases h with⟨o3,rfl,h⟩|⟨o4,rfl,h⟩
 exact lf h;exact lf h
def Si(s0:List UInt8)(s3:List (List UInt8))(s4:Int):St:=⟨sp 24 0 [sD 0 D.s s0,sD 3 (D.l D.s) s3,sI 4 s4],[],[]⟩
def Sj(s0:List UInt8)(s3:List (List UInt8))(o:Unit⊕Unit):Ex×St:=match o with
 | .inl o=>(.exit 0,⟨sp 24 0 [sD 0 D.s s0],[],[]⟩)
 | .inr o=>(.ret,⟨sp 24 0 [sD 2 D.b false],[],[]⟩)
theorem ZU(rd:Option Nat)(h:aFk aD aC a9=some aA):Lq 49 rd 58 (Si aD aC a9) ((Sj aD aC) aA):=
 lL (fun s:Int=>Si aD aC s) (Sj aD aC) a9 (fun a9 o h=>by
 unfold Gf at h
 refine gN 8 D.s aC ?_
 refine iB 9 h (fun h=>?_) fun h=>?_
 refine xX 14 D.s h fun x2 h=>?_
 refine iB 17 h (fun h=>?_) fun h=>?_
 exact lb h
 exact lb h
 exact lb h) h
theorem ZV(h:Yg aD=some aE):AO Tryz.prog 49 [.d (D.s aD)] [] (.d (D.b aE)) []:=by
 unfold Yg at h;apply g0 (o:=aE);obtain⟨r1,h1,h⟩:=bS h;refine gC 5 (aLy h1) ?_;obtain⟨o3,h5,h⟩:=bS h;refine gl (ZU none h5) ?_;replace h:=AM h;rcases h with⟨o4,rfl,h⟩|⟨o5,rfl,h⟩
 obtain⟨r6,h6,h⟩:=bS h;refine gQ (aNw h6) ?_;cases r6;replace h:=Cy h;refine gW 19 (.ret (.d (D.b false))) ?_;exact lf h;replace h:=Cz h;refine gW 19 (.ret (.d (D.b true))) ?_;exact lf h;exact lf h
def S9(s0:List X7)(s1:List UInt8)(s5:Int):St:=⟨sp 20 0 [sD 0 (D.l X7.D) s0,sD 1 D.s s1,sI 5 s5],[],[]⟩
def TA(s0:List X7)(s1:List UInt8)(o:Unit⊕Int):Ex×St:=match o with
 | .inl o=>(.exit 0,⟨sp 20 0 [],[],[]⟩)
 | .inr o=>(.ret,⟨sp 20 0 [sI 4 o],[],[]⟩)
theorem aAi(rd:Option Nat)(h:aFt aF aD a9=some aG):Lq 27 rd 26 (S9 aF aD a9) ((TA aF aD) aG):=
 lL (fun s:Int=>S9 aF aD s) (TA aF aD) a9 (fun a9 o h=>by
 unfold JE at h
 refine gN 8 X7.D aF ?_
 refine iB 9 h (fun h=>?_) fun h=>?_
 refine xX 14 X7.D h fun x1 h=>?_
 refine iB 18 h (fun h=>?_) fun h=>?_
 exact lb h
 exact lb h
 exact lb h) h
theorem aJl(h:Ys aF aD=some a9):AO Tryz.prog 27 [.d ((D.l X7.D) aF),.d (D.s aD)] [] (dI a9) []:=by
 unfold Ys at h;apply g0 (o:=a9);obtain⟨o2,h4,h⟩:=bS h;refine gl (aAi none h4) ?_;replace h:=AM h;rcases h with⟨o3,rfl,h⟩|⟨o4,rfl,h⟩
 exact lf h;exact lf h
def Rq(s0:List X7)(s4 s5:Int):St:=⟨sp 72 0 [sD 0 (D.l X7.D) s0,sI 4 s4,sI 5 s5],[],[]⟩
def Rr(s0:List X7)(s4:Int)(o:Unit⊕Unit):Ex×St:=match o with
 | .inl o=>(.exit 2,⟨sp 72 0 [sD 0 (D.l X7.D) s0,sI 4 s4],[],[]⟩)
 | .inr o=>(.ret,⟨sp 72 0 [sI 2 8,sI 3 s4],[],[]⟩)
theorem XM(rd:Option Nat)(h:XL aF a9 aB=some aA):Lq 31 rd 29854 (Rq aF a9 aB) ((Rr aF a9) aA):=
 lL (fun s:Int=>Rq aF a9 s) (Rr aF a9) aB (fun aB o h=>by
 unfold Da at h
 refine xX 44 X7.D h fun x6 h=>?_
 refine gN 47 dZ x6.types ?_
 refine iB 48 h (fun h=>?_) fun h=>?_
 refine xX 53 X7.D h fun x7 h=>?_
 refine xX 57 dZ h fun x8 h=>?_
 refine iB 60 h (fun h=>?_) fun h=>?_
 exact lb h
 refine xX 63 X7.D h fun x9 h=>?_
 refine xX 67 dZ h fun x10 h=>?_
 refine iB 70 h (fun h=>?_) fun h=>?_
 exact lb h
 exact lb h
 exact lb h) h
def Ro(s0:List X7)(s4:Int):St:=⟨sp 72 0 [sD 0 (D.l X7.D) s0,sI 4 s4],[],[]⟩
def Rp(s0:List X7)(o:Unit⊕(Int×Int)):Ex×St:=match o with
 | .inl o=>(.exit 0,⟨sp 72 0 [],[],[]⟩)
 | .inr o=>(.ret,⟨sp 72 0 [sI 2 o.1,sI 3 o.2],[],[]⟩)
theorem XK(rd:Option Nat)(h:XJ aF a9=some aH):Lq 31 rd 58 (Ro aF a9) ((Rp aF) aH):=
 lL (fun s:Int=>Ro aF s) (Rp aF) a9 (fun a9 o h=>by
 unfold DZ at h
 refine gN 11 X7.D aF ?_
 refine iB 12 h (fun h=>?_) fun h=>?_
 refine xX 17 X7.D h fun x1 h=>?_
 obtain⟨r2,h4,h⟩:=bS h
 refine gC 20 (ZV h4) ?_
 refine iB 21 h (fun h=>?_) fun h=>?_
 exact lb h
 refine xX 26 X7.D h fun x3 h=>?_
 obtain⟨r4,h7,h⟩:=bS h
 refine gC 29 (aJl h7) ?_
 refine iB 31 h (fun h=>?_) fun h=>?_
 exact lb h
 refine xX 35 X7.D h fun x5 h=>?_
 refine gN 38 dZ x5.types ?_
 refine iB 39 h (fun h=>?_) fun h=>?_
 exact lb h
 obtain⟨o11,h19,h⟩:=bS h
 refine gl (XM rd h19) ?_
 replace h:=AM h
 rcases h with⟨o12,rfl,h⟩|⟨o13,rfl,h⟩
 exact lb h
 exact lb h
 exact lb h) h
theorem aMw(h:Xr aF=some aI):AO Tryz.prog 31 [.d ((D.l X7.D) aF)] [] (.tup [dI aI.1,dI aI.2]) []:=by
 unfold Xr at h;apply g0 (o:=aI);refine gN 7 X7.D aF ?_;refine iB 8 h (fun h=>?_) fun h=>?_;exact lf h;obtain⟨o14,h20,h⟩:=bS h;refine gl (XK none h20) ?_;replace h:=AM h;rcases h with⟨o15,rfl,h⟩|⟨o16,rfl,h⟩
 exact lf h;exact lf h
theorem aA2(h:Zd aJ=some aE):AO Tryz.prog 28 [.d (X0.D aJ)] [] (.d (D.b aE)) []:=by unfold Zd at h;apply g0 (o:=aE);refine iB 5 h (fun h=>?_) fun h=>?_;refine iB 9 h (fun h=>?_) fun h=>?_;exact lf h;exact lf h;refine iB 16 h (fun h=>?_) fun h=>?_;refine iB 20 h (fun h=>?_) fun h=>?_;refine iB 25 h (fun h=>?_) fun h=>?_;refine gG 28 (.int (aJ.str.length:Int)) (BO aJ.str) ?_;exact lf h;exact lf h;exact lf h;refine iB 34 h (fun h=>?_) fun h=>?_;refine iB 39 h (fun h=>?_) fun h=>?_;exact lf h;exact lf h;exact lf h
def TP(s0:List (List UInt8))(s1 s5:Int):St:=⟨sp 20 0 [sD 0 (D.l D.s) s0,sI 1 s1,sI 5 s5],[],[]⟩
def TQ(s0:List (List UInt8))(s1:Int)(o:Unit⊕Unit):Ex×St:=match o with
 | .inl o=>(.exit 0,⟨sp 20 0 [],[],[]⟩)
 | .inr o=>(.ret,⟨sp 20 0 [sD 4 D.b true],[],[]⟩)
theorem aAp(rd:Option Nat)(h:aJr aC a9 aB=some aA):Lq 50 rd 26 (TP aC a9 aB) ((TQ aC a9) aA):=
 lL (fun s:Int=>TP aC a9 s) (TQ aC a9) aB (fun aB o h=>by
 unfold Gt at h
 refine iB 8 h (fun h=>?_) fun h=>?_
 refine xX 13 D.s h fun x1 h=>?_
 refine xX 17 D.s h fun x2 h=>?_
 refine iB 19 h (fun h=>?_) fun h=>?_
 exact lb h
 exact lb h
 exact lb h) h
theorem aJs(h:Z1 aC a9=some aE):AO Tryz.prog 50 [.d ((D.l D.s) aC),dI a9] [] (.d (D.b aE)) []:=by
 unfold Z1 at h;apply g0 (o:=aE);obtain⟨o3,h5,h⟩:=bS h;refine gl (aAp none h5) ?_;replace h:=AM h;rcases h with⟨o4,rfl,h⟩|⟨o5,rfl,h⟩
 exact lf h;exact lf h
def QP(w1:AA)(s4:Int)(w3:List (List UInt8)):St:=⟨sp 112 0 [bx 1,rx 3,sI 4 s4],[cL 1 AA.D w1,(3,.row 9 1 (w3.map D.s))],[]⟩
def QQ(w1:AA)(o:(List (List UInt8))⊕Unit):Ex×St:=match o with
 | .inl o=>(.exit 0,⟨sp 112 0 [bx 1,rx 3],[cL 1 AA.D w1,(3,.row 9 1 (o.map D.s))],[]⟩)
 | .inr o=>(.ret,⟨sp 112 0 [sD 2 D.b false],[],[]⟩)
theorem Wb(rd:Option Nat)(h:aIl a8 a9 aC=some aK):Lq 32 rd 58 (QP a8 a9 aC) ((QQ a8) aK):=
 lL (fun s:Int×List (List UInt8)=>QP a8 s.1 s.2) (QQ a8) (a9,aC) (fun⟨a9,aC⟩ o h=>by
 unfold GK at h
 refine gN 12 Xq.D a8.quants ?_
 refine iB 13 h (fun h=>?_) fun h=>?_
 refine xX 20 Xq.D h fun x4 h=>?_
 refine gQ (AY D.s [x4.name])<|gG 24 (.sl ((aC++[x4.name]).map D.s)) (AY D.s [x4.name]) ?_
 obtain⟨h10,h⟩:=cS h
 refine gQ (Ab D.s h10)<|gQ (AZ D.s aC [x4.name])<|xX 28 Xq.D h fun x5 h=>?_
 refine iB 32 h (fun h=>?_) fun h=>?_
 exact lb h
 refine xX 36 Xq.D h fun x6 h=>?_
 refine iB 40 h (fun h=>?_) fun h=>?_
 exact lb h
 exact lB h [.live [1,3,4],.keep [1,24],.ren 24 3,.sort]
 exact lb h) h
def QR(w1:AA)(s5:Int)(w3:List (List UInt8)):St:=⟨sp 112 0 [bx 1,rx 3,sI 5 s5],[cL 1 AA.D w1,(3,.row 9 1 (w3.map D.s))],[]⟩
def QS(w1:AA)(o:(List (List UInt8))⊕Unit):Ex×St:=match o with
 | .inl o=>(.exit 2,⟨sp 112 0 [bx 1,rx 3],[cL 1 AA.D w1,(3,.row 9 1 (o.map D.s))],[]⟩)
 | .inr o=>(.ret,⟨sp 112 0 [sD 2 D.b false],[],[]⟩)
theorem Wc(rd:Option Nat)(h:aIm a8 a9 aC=some aK):Lq 32 rd 122 (QR a8 a9 aC) ((QS a8) aK):=
 lL (fun s:Int×List (List UInt8)=>QR a8 s.1 s.2) (QS a8) (a9,aC) (fun⟨a9,aC⟩ o h=>by
 unfold GL at h
 refine gN 44 Xt.D a8.frees ?_
 refine iB 45 h (fun h=>?_) fun h=>?_
 refine xX 52 Xt.D h fun x10 h=>?_
 refine gQ (AY D.s [x10.name])<|gG 56 (.sl ((aC++[x10.name]).map D.s)) (AY D.s [x10.name]) ?_
 obtain⟨h18,h⟩:=cS h
 refine gQ (Ab D.s h18)<|gQ (AZ D.s aC [x10.name])<|xX 60 Xt.D h fun x11 h=>?_
 obtain⟨r12,h20,h⟩:=bS h
 refine gC 63 (aA2 h20) ?_
 refine iB 64 h (fun h=>?_) fun h=>?_
 exact lb h
 exact lB h [.live [1,3,5],.keep [1,56],.ren 56 3,.sort]
 exact lb h) h
def QT(w1:AA)(w3:List (List UInt8))(s6:Int):St:=⟨sp 112 0 [bx 1,rx 3,sI 6 s6],[cL 1 AA.D w1,(3,.row 9 1 (w3.map D.s))],[]⟩
def QU(w1:AA)(w3:List (List UInt8))(o:Unit⊕Unit):Ex×St:=match o with
 | .inl o=>(.exit 4,⟨sp 112 0 [bx 1],[cL 1 AA.D w1],[]⟩)
 | .inr o=>(.ret,⟨sp 112 0 [sD 2 D.b false],[],[]⟩)
theorem Wd(rd:Option Nat)(h:aIn a8 aC a9=some aA):Lq 32 rd 250 (QT a8 aC a9) ((QU a8 aC) aA):=
 lL (fun s:Int=>QT a8 aC s) (QU a8 aC) a9 (fun a9 o h=>by
 unfold GM at h
 refine gN 67 D.s aC ?_
 refine iB 68 h (fun h=>?_) fun h=>?_
 refine xX 73 D.s h fun x16 h=>?_
 obtain⟨r17,h25,h⟩:=bS h
 refine gC 75 (ZV h25) ?_
 refine iB 77 h (fun h=>?_) fun h=>?_
 exact lb h
 obtain⟨r18,h27,h⟩:=bS h
 refine gQ (aJs h27) ?_
 cases r18
 replace h:=Cy h
 refine gW 80 (.ret (.d (D.b false))) ?_
 exact lb h
 replace h:=Cz h
 refine gW 80 (.ret (.d (D.b true))) ?_
 exact lb h
 exact lb h) h
def QV(w1:AA)(s8:Int)(w7:List (List UInt8)):St:=⟨sp 112 0 [bx 1,rx 7,sI 8 s8],[cL 1 AA.D w1,(7,.row 9 1 (w7.map D.s))],[]⟩
def QW(w1:AA)(o:Unit⊕Unit):Ex×St:=match o with
 | .inl o=>(.exit 6,⟨sp 112 0 [bx 1],[cL 1 AA.D w1],[]⟩)
 | .inr o=>(.ret,⟨sp 112 0 [sD 2 D.b false],[],[]⟩)
theorem We(rd:Option Nat)(h:aIo a8 a9 aC=some aA):Lq 32 rd 1018 (QV a8 a9 aC) ((QW a8) aA):=
 lL (fun s:Int×List (List UInt8)=>QV a8 s.1 s.2) (QW a8) (a9,aC) (fun⟨a9,aC⟩ o h=>by
 unfold GN at h
 refine gN 85 Xd.D a8.states ?_
 refine iB 86 h (fun h=>?_) fun h=>?_
 refine xX 93 Xd.D h fun x26 h=>?_
 refine gQ (AY D.s [x26.name])<|gG 97 (.sl ((aC++[x26.name]).map D.s)) (AY D.s [x26.name]) ?_
 obtain⟨h40,h⟩:=cS h
 refine gQ (Ab D.s h40)<|gQ (AZ D.s aC [x26.name])<|xX 100 D.s h fun x27 h=>?_
 obtain⟨r28,h42,h⟩:=bS h
 refine gC 102 (ZV h42) ?_
 refine iB 104 h (fun h=>?_) fun h=>?_
 exact lb h
 obtain⟨r29,h44,h⟩:=bS h
 refine gQ (aJs h44) ?_
 cases r29
 replace h:=Cy h
 refine gW 107 (.ret (.d (D.b false))) ?_
 exact lB h [.live [1,7,8],.keep [1,97],.ren 97 7,.sort]
 replace h:=Cz h
 refine gW 107 (.ret (.d (D.b true))) ?_
 exact lb h
 exact lb h) h
theorem aMm(h:Xh a8=some aE):AO Tryz.prog 32 [.d (AA.D a8)] [] (.d (D.b aE)) []:=by
 unfold Xh at h;apply g0 (o:=aE);obtain⟨o7,h15,h⟩:=bS h;refine gL [.live [1,3,4],.keep [1],.nil 3 3 9 1,.sort] (Wb none h15) ?_;replace h:=AM h;rcases h with⟨o8,rfl,h⟩|⟨o9,rfl,h⟩
 obtain⟨o13,h22,h⟩:=bS h;refine gl (Wc none h22) ?_;replace h:=AM h;rcases h with⟨o14,rfl,h⟩|⟨o15,rfl,h⟩
 obtain⟨o19,h29,h⟩:=bS h;refine gl (Wd none h29) ?_;replace h:=AM h;rcases h with⟨o20,rfl,h⟩|⟨o21,rfl,h⟩
 obtain⟨o30,h46,h⟩:=bS h;refine gL [.live [1,7,8],.keep [1],.nil 7 7 9 1,.sort] (We none h46) ?_;replace h:=AM h;rcases h with⟨o31,rfl,h⟩|⟨o32,rfl,h⟩
 obtain⟨r33,h47,h⟩:=bS h;refine gC 111 (ZV h47) ?_;exact lf h;exact lf h;exact lf h;exact lf h;exact lf h
theorem JL(h:Zi aE=some aL):AO Tryz.prog 112 [.d (D.b aE)] [] (.tup [.d (X0.D aL.1),dI aL.2]) []:=by unfold Zi at h;apply g0 (o:=aL);exact lf h
theorem aLr(h:Ql a9 aB=some aM):AO Tryz.prog 123 [dI a9,dI aB] [] (.tup [dI aM.1,.d (D.b aM.2)]) []:=by unfold Ql at h;apply g0 (o:=aM);refine iB 8 h (fun h=>?_) fun h=>?_;refine iB 14 h (fun h=>?_) fun h=>?_;exact lf h;refine iB 17 h (fun h=>?_) fun h=>?_;refine iB 23 h (fun h=>?_) fun h=>?_;exact lf h;exact lf h;exact lf h;refine iB 17 h (fun h=>?_) fun h=>?_;refine iB 23 h (fun h=>?_) fun h=>?_;exact lf h;exact lf h;exact lf h
theorem Vv(h:Q3 a9 aE=some aL):AO Tryz.prog 124 [dI a9,.d (D.b aE)] [] (.tup [.d (X0.D aL.1),dI aL.2]) []:=by unfold Q3 at h;apply g0 (o:=aL);refine iB 7 h (fun h=>?_) fun h=>?_;exact lf h;exact lf h
theorem aBc(h:Zx a9 aB=some aM):AO Tryz.prog 125 [dI a9,dI aB] [] (.tup [dI aM.1,.d (D.b aM.2)]) []:=by unfold Zx at h;apply g0 (o:=aM);refine iB 8 h (fun h=>?_) fun h=>?_;refine iB 14 h (fun h=>?_) fun h=>?_;exact lf h;refine iB 17 h (fun h=>?_) fun h=>?_;refine iB 23 h (fun h=>?_) fun h=>?_;exact lf h;exact lf h;exact lf h;refine iB 17 h (fun h=>?_) fun h=>?_;refine iB 23 h (fun h=>?_) fun h=>?_;exact lf h;exact lf h;exact lf h
theorem aLs(h:Qm a9 aB=some aM):AO Tryz.prog 126 [dI a9,dI aB] [] (.tup [dI aM.1,.d (D.b aM.2)]) []:=by
 unfold Qm at h;apply g0 (o:=aM);refine iB 8 h (fun h=>?_) fun h=>?_;exact lf h;refine iB 11 h (fun h=>?_) fun h=>?_;exact lf h;refine iB 13 h (fun h=>?_) fun h=>?_;obtain⟨r1,h4,h⟩:=bS h;refine gC 15 (aBc h4) ?_;exact lf h;refine iB 19 h (fun h=>?_) fun h=>?_;obtain⟨r2,h6,h⟩:=bS h;refine gC 21 (aBc h6) ?_;exact lf h;rcases iS h with⟨h7,h⟩|⟨h7,h⟩
 refine gT 26 h7 ?_;rcases iS h with⟨h8,h⟩|⟨h8,h⟩
 refine gT 30 h8 ?_;obtain⟨h9,h⟩:=cS h;refine gQ h9 ?_;refine iB 36 h (fun h=>?_) fun h=>?_;exact lf h;refine gT 39 h7 ?_;rcases iS h with⟨h11,h⟩|⟨h11,h⟩
 refine gT 43 h11 ?_;obtain⟨h12,h⟩:=cS h;refine gQ h12 ?_;refine iB 50 h (fun h=>?_) fun h=>?_;exact lf h;rcases iS h with⟨h14,h⟩|⟨h14,h⟩
 refine gT 53 h14<|gT 57 h8 ?_;obtain⟨h15,h⟩:=cS h;refine gQ h15 ?_;refine iB 64 h (fun h=>?_) fun h=>?_;exact lf h;refine gT 67 h14<|gT 71 h11 ?_;obtain⟨h17,h⟩:=cS h;refine gQ h17 ?_;refine iB 77 h (fun h=>?_) fun h=>?_;exact lf h;exact lf h;refine gF 53 h14<|gF 67 h14 ?_;exact lf h;refine gF 43 h11 ?_;rcases iS h with⟨h19,h⟩|⟨h19,h⟩
 refine gT 53 h19<|gT 57 h8 ?_;obtain⟨h20,h⟩:=cS h;refine gQ h20 ?_;refine iB 64 h (fun h=>?_) fun h=>?_;exact lf h;refine gT 67 h19<|gF 71 h11 ?_;exact lf h;refine gF 53 h19<|gF 67 h19 ?_;exact lf h;refine gF 30 h8<|gT 39 h7 ?_;rcases iS h with⟨h22,h⟩|⟨h22,h⟩
 refine gT 43 h22 ?_;obtain⟨h23,h⟩:=cS h;refine gQ h23 ?_;refine iB 50 h (fun h=>?_) fun h=>?_;exact lf h;rcases iS h with⟨h25,h⟩|⟨h25,h⟩
 refine gT 53 h25<|gF 57 h8<|gT 67 h25<|gT 71 h22 ?_;obtain⟨h26,h⟩:=cS h;refine gQ h26 ?_;refine iB 77 h (fun h=>?_) fun h=>?_;exact lf h;exact lf h;refine gF 53 h25<|gF 67 h25 ?_;exact lf h;refine gF 43 h22 ?_;rcases iS h with⟨h28,h⟩|⟨h28,h⟩
 refine gT 53 h28<|gF 57 h8<|gT 67 h28<|gF 71 h22 ?_;exact lf h;refine gF 53 h28<|gF 67 h28 ?_;exact lf h;refine gF 26 h7<|gF 39 h7 ?_;rcases iS h with⟨h29,h⟩|⟨h29,h⟩
 refine gT 53 h29 ?_;refine iB 57 h (fun h=>?_) fun h=>?_;obtain⟨h31,h⟩:=cS h;refine gQ h31 ?_;refine iB 64 h (fun h=>?_) fun h=>?_;exact lf h;refine gT 67 h29 ?_;refine iB 71 h (fun h=>?_) fun h=>?_;obtain⟨h34,h⟩:=cS h;refine gQ h34 ?_;refine iB 77 h (fun h=>?_) fun h=>?_;exact lf h;exact lf h;exact lf h;refine gT 67 h29 ?_;refine iB 71 h (fun h=>?_) fun h=>?_;obtain⟨h37,h⟩:=cS h;refine gQ h37 ?_;refine iB 77 h (fun h=>?_) fun h=>?_;exact lf h;exact lf h;exact lf h;refine gF 53 h29<|gF 67 h29 ?_;exact lf h
theorem aLt(h:Qn a9 aB=some aN):AO Tryz.prog 127 [dI a9,dI aB] [] (.tup [dI aN.1,dI aN.2.1,dI aN.2.2]) []:=by unfold Qn at h;apply g0 (o:=aN);refine iB 10 h (fun h=>?_) fun h=>?_;exact lf h;refine iB 12 h (fun h=>?_) fun h=>?_;obtain⟨r1,h3,h⟩:=bS h;refine gC 15 (aBc h3) ?_;refine iB 19 h (fun h=>?_) fun h=>?_;exact lf h;exact lf h;obtain⟨h5,h⟩:=cS h;refine gQ h5 ?_;obtain⟨h6,h⟩:=cS h;refine gQ h6 ?_;exact lf h
theorem aJ7(h:Zy a9 aB aO=some aL):AO Tryz.prog 113 [dI a9,dI aB,dI aO] [] (.tup [.d (X0.D aL.1),dI aL.2]) []:=by unfold Zy at h;apply g0 (o:=aL);refine iB 18 h (fun h=>?_) fun h=>?_;obtain⟨r1,h2,h⟩:=bS h;refine gC 22 (aLr h2) ?_;obtain⟨r2,h3,h⟩:=bS h;refine gC 27 (Vv h3) ?_;exact lf h;refine iB 31 h (fun h=>?_) fun h=>?_;obtain⟨r3,h5,h⟩:=bS h;refine gC 35 (aBc h5) ?_;obtain⟨r4,h6,h⟩:=bS h;refine gC 40 (Vv h6) ?_;exact lf h;refine iB 44 h (fun h=>?_) fun h=>?_;obtain⟨r5,h8,h⟩:=bS h;refine gC 48 (aLs h8) ?_;obtain⟨r6,h9,h⟩:=bS h;refine gC 53 (Vv h9) ?_;exact lf h;obtain⟨r7,h10,h⟩:=bS h;refine gC 59 (aLt h10) ?_;refine iB 64 h (fun h=>?_) fun h=>?_;exact lf h;refine iB 67 h (fun h=>?_) fun h=>?_;exact lf h;obtain⟨r8,h13,h⟩:=bS h;refine gC 73 (Vv h13) ?_;exact lf h
def S5(s0 s1:List UInt8)(s5:Int):St:=⟨sp 37 0 [sD 0 D.s s0,sD 1 D.s s1,sI 5 s5],[],[]⟩
def S6(s0 s1:List UInt8)(o:Unit⊕Bool):Ex×St:=match o with
 | .inl o=>(.exit 0,⟨sp 37 0 [sD 0 D.s s0,sD 1 D.s s1],[],[]⟩)
 | .inr o=>(.ret,⟨sp 37 0 [sD 4 D.b o],[],[]⟩)
theorem aAg(rd:Option Nat)(h:aAf aD aP a9=some aQ):Lq 96 rd 26 (S5 aD aP a9) ((S6 aD aP) aQ):=
 lL (fun s:Int=>S5 aD aP s) (S6 aD aP) a9 (fun a9 o h=>by
 unfold E4 at h
 refine gG 8 (.int (aD.length:Int)) (BO aD) ?_
 refine iB 10 h (fun h=>?_) fun h=>?_
 refine gG 13 (.int (aP.length:Int)) (BO aP) ?_
 refine iB 15 h (fun h=>?_) fun h=>?_
 obtain⟨x1,h3,h⟩:=xS h
 refine gG 20 (.int x1.toNat) (G9 h3) ?_
 obtain⟨x2,h4,h⟩:=xS h
 refine gG 23 (.int x2.toNat) (G9 h4) ?_
 refine iB 24 h (fun h=>?_) fun h=>?_
 obtain⟨x3,h6,h⟩:=xS h
 refine gG 27 (.int x3.toNat) (G9 h6) ?_
 obtain⟨x4,h7,h⟩:=xS h
 refine gG 30 (.int x4.toNat) (G9 h7) ?_
 exact lb h
 exact lb h
 exact lb h
 exact lb h) h
theorem aNt(h:Yq aD aP=some aE):AO Tryz.prog 96 [.d (D.s aD),.d (D.s aP)] [] (.d (D.b aE)) []:=by
 unfold Yq at h;apply g0 (o:=aE);obtain⟨o5,h8,h⟩:=bS h;refine gl (aAg none h8) ?_;replace h:=AM h;rcases h with⟨o6,rfl,h⟩|⟨o7,rfl,h⟩
 refine gG 33 (.int (aD.length:Int)) (BO aD)<|gG 35 (.int (aP.length:Int)) (BO aP) ?_;exact lf h;exact lf h
theorem aA9(h:Zl aJ aR=some aE):AO Tryz.prog 84 [.d (X0.D aJ),.d (X0.D aR)] [] (.d (D.b aE)) []:=by unfold Zl at h;apply g0 (o:=aE);refine iB 9 h (fun h=>?_) fun h=>?_;exact lf h;refine iB 17 h (fun h=>?_) fun h=>?_;exact lf h;refine iB 25 h (fun h=>?_) fun h=>?_;obtain⟨r1,h4,h⟩:=bS h;refine gC 30 (aNt h4) ?_;exact lf h;refine iB 34 h (fun h=>?_) fun h=>?_;exact lf h;exact lf h
theorem OY(h:Zn a9 aJ aR=some aL):AO Tryz.prog 101 [dI a9,.d (X0.D aJ),.d (X0.D aR)] [] (.tup [.d (X0.D aL.1),dI aL.2]) []:=by unfold Zn at h;apply g0 (o:=aL);refine iB 10 h (fun h=>?_) fun h=>?_;exact lf h;refine iB 13 h (fun h=>?_) fun h=>?_;exact lf h;refine iB 16 h (fun h=>?_) fun h=>?_;refine iB 19 h (fun h=>?_) fun h=>?_;exact lf h;obtain⟨r1,h5,h⟩:=bS h;refine gC 24 (JL h5) ?_;exact lf h;refine iB 28 h (fun h=>?_) fun h=>?_;refine iB 31 h (fun h=>?_) fun h=>?_;exact lf h;obtain⟨r2,h8,h⟩:=bS h;refine gC 35 (aJ7 h8) ?_;exact lf h;refine iB 42 h (fun h=>?_) fun h=>?_;exact lf h;refine iB 45 h (fun h=>?_) fun h=>?_;obtain⟨r3,h11,h⟩:=bS h;refine gC 49 (JL h11) ?_;exact lf h;refine iB 53 h (fun h=>?_) fun h=>?_;obtain⟨r4,h13,h⟩:=bS h;refine gC 57 (JL h13) ?_;exact lf h;refine iB 62 h (fun h=>?_) fun h=>?_;refine iB 64 h (fun h=>?_) fun h=>?_;refine iB 67 h (fun h=>?_) fun h=>?_;obtain⟨r5,h17,h⟩:=bS h;refine gC 71 (JL h17) ?_;exact lf h;obtain⟨r6,h18,h⟩:=bS h;refine gC 71 (JL h18) ?_;exact lf h;refine iB 75 h (fun h=>?_) fun h=>?_;refine iB 78 h (fun h=>?_) fun h=>?_;obtain⟨r7,h21,h⟩:=bS h;refine gC 82 (JL h21) ?_;exact lf h;obtain⟨r8,h22,h⟩:=bS h;refine gC 82 (JL h22) ?_;exact lf h;exact lf h;refine iB 87 h (fun h=>?_) fun h=>?_;obtain⟨r9,h24,h⟩:=bS h;refine gC 90 (aA9 h24) ?_;obtain⟨r10,h25,h⟩:=bS h;refine gC 91 (JL h25) ?_;exact lf h;refine iB 95 h (fun h=>?_) fun h=>?_;obtain⟨r11,h27,h⟩:=bS h;refine gC 98 (aA9 h27) ?_;obtain⟨r12,h28,h⟩:=bS h;refine gC 100 (JL h28) ?_;exact lf h;refine iB 106 h (fun h=>?_) fun h=>?_;refine iB 110 h (fun h=>?_) fun h=>?_;refine iB 113 h (fun h=>?_) fun h=>?_;obtain⟨r13,h32,h⟩:=bS h;refine gC 119 (aJ7 h32) ?_;exact lf h;refine iB 125 h (fun h=>?_) fun h=>?_;refine iB 128 h (fun h=>?_) fun h=>?_;refine gG 131 (.int (aJ.str.length:Int)) (BO aJ.str)<|gG 134 (.int (aR.str.length:Int)) (BO aR.str) ?_;refine iB 136 h (fun h=>?_) fun h=>?_;exact lf h;refine gW 142 (.str (aJ.str++aR.str)) ?_;obtain⟨h36,h⟩:=cS h;refine gQ (J0 h36) ?_;exact lf h;exact lf h;exact lf h;refine iB 125 h (fun h=>?_) fun h=>?_;refine iB 128 h (fun h=>?_) fun h=>?_;refine gG 131 (.int (aJ.str.length:Int)) (BO aJ.str)<|gG 134 (.int (aR.str.length:Int)) (BO aR.str) ?_;refine iB 136 h (fun h=>?_) fun h=>?_;exact lf h;refine gW 142 (.str (aJ.str++aR.str)) ?_;obtain⟨h40,h⟩:=cS h;refine gQ (J0 h40) ?_;exact lf h;exact lf h;exact lf h;refine iB 125 h (fun h=>?_) fun h=>?_;refine iB 128 h (fun h=>?_) fun h=>?_;refine gG 131 (.int (aJ.str.length:Int)) (BO aJ.str)<|gG 134 (.int (aR.str.length:Int)) (BO aR.str) ?_;refine iB 136 h (fun h=>?_) fun h=>?_;exact lf h;refine gW 142 (.str (aJ.str++aR.str)) ?_;obtain⟨h44,h⟩:=cS h;refine gQ (J0 h44) ?_;exact lf h;exact lf h;exact lf h
theorem aH2(h:Q4 a9 aB aO=some aS):AO Tryz.prog 89 [dI a9,dI aB,dI aO] [] (dI aS) []:=by unfold Q4 at h;apply g0 (o:=aS);refine iB 11 h (fun h=>?_) fun h=>?_;exact lf h;refine iB 15 h (fun h=>?_) fun h=>?_;exact lf h;obtain⟨r1,h3,h⟩:=bS h;refine gC 22 (OY h3) ?_;refine iB 26 h (fun h=>?_) fun h=>?_;exact lf h;refine iB 28 h (fun h=>?_) fun h=>?_;exact lf h;exact lf h
theorem aF0(self:AA->Int->Option (Int×Int×Int))(hs:∀(a0:AA) (a1:Int) (r:Int×Int×Int),self a0 a1=some r->AO Tryz.prog 75 [.d (AA.D a0),dI a1] [] (.tup [dI r.1,dI r.2.1,dI r.2.2]) [])(a0:AA)(a1:Int)(r:Int×Int×Int)(h:aFz self a0 a1=some r):AO Tryz.prog 75 [.d (AA.D a0),dI a1] [] (.tup [dI r.1,dI r.2.1,dI r.2.2]) []:=by unfold aFz at h;apply g0 (o:=r);refine iB 17 h (fun h=>?_) fun h=>?_;exact lf h;refine gN 21 Y7.D a0.nodes ?_;refine iB 23 h (fun h=>?_) fun h=>?_;exact lf h;refine xX 27 Y7.D h fun x1 h=>?_;refine iB 32 h (fun h=>?_) fun h=>?_;refine iB 36 h (fun h=>?_) fun h=>?_;exact lf h;refine iB 41 h (fun h=>?_) fun h=>?_;exact lf h;obtain⟨r2,h7,h⟩:=bS h;refine gC 44 (aA2 h7) ?_;refine iB 46 h (fun h=>?_) fun h=>?_;exact lf h;exact lf h;refine iB 54 h (fun h=>?_) fun h=>?_;exact lf h;refine iB 57 h (fun h=>?_) fun h=>?_;refine iB 61 h (fun h=>?_) fun h=>?_;exact lf h;refine gN 66 Xq.D a0.quants ?_;refine iB 69 h (fun h=>?_) fun h=>?_;exact lf h;refine iB 73 h (fun h=>?_) fun h=>?_;exact lf h;refine xX 78 Xq.D h fun x3 h=>?_;exact lf h;refine iB 84 h (fun h=>?_) fun h=>?_;refine iB 88 h (fun h=>?_) fun h=>?_;exact lf h;refine gN 93 Xt.D a0.frees ?_;refine iB 96 h (fun h=>?_) fun h=>?_;exact lf h;refine iB 100 h (fun h=>?_) fun h=>?_;exact lf h;refine xX 105 Xt.D h fun x4 h=>?_;exact lf h;refine iB 113 h (fun h=>?_) fun h=>?_;exact lf h;refine iB 117 h (fun h=>?_) fun h=>?_;exact lf h;obtain⟨r5,h22,h⟩:=bS h;refine gG 122 (.ret (.tup [dI r5.1,dI r5.2.1,dI r5.2.2])) (hs a0 (AB .sub .i64 a1 1) r5 h22) ?_;refine iB 128 h (fun h=>?_) fun h=>?_;refine iB 131 h (fun h=>?_) fun h=>?_;exact lf h;refine iB 138 h (fun h=>?_) fun h=>?_;exact lf h;refine iB 142 h (fun h=>?_) fun h=>?_;exact lf h;obtain⟨r6,h27,h⟩:=bS h;refine gC 147 (aH2 h27) ?_;exact lf h;refine iB 153 h (fun h=>?_) fun h=>?_;exact lf h;refine iB 160 h (fun h=>?_) fun h=>?_;exact lf h;refine iB 166 h (fun h=>?_) fun h=>?_;exact lf h;obtain⟨r7,h31,h⟩:=bS h;refine gG 171 (.ret (.tup [dI r7.1,dI r7.2.1,dI r7.2.2])) (hs a0 (AB .sub .i64 r5.2.2 1) r7 h31)<|gW 182 (.int (VA r5.2.1 r7.2.1)) ?_;obtain⟨r8,h32,h⟩:=bS h;refine gC 179 (aH2 h32)<|gQ (rfl:VA r5.2.1 r7.2.1=VA r5.2.1 r7.2.1) ?_;exact lf h
theorem TM:∀(n:Nat) (a0:AA) (a1:Int) (r:Int×Int×Int),aDg n a0 a1=some r->AO Tryz.prog 75 [.d (AA.D a0),dI a1] [] (.tup [dI r.1,dI r.2.1,dI r.2.2]) []
 |0,a0,a1,r,h=>by simp[aDg]at h
 |n+1,a0,a1,r,h=>aF0 _ (TM n) a0 a1 r h
theorem aNx(h:Yz a8 a9=some aN):AO Tryz.prog 75 [.d (AA.D a8),dI a9] [] (.tup [dI aN.1,dI aN.2.1,dI aN.2.2]) []:=TM 100000 a8 a9 aN h
theorem aH5(h:Q7 a8 a9 aB=some aI):AO Tryz.prog 51 [.d (AA.D a8),dI a9,dI aB] [] (.tup [dI aI.1,dI aI.2]) []:=by unfold Q7 at h;apply g0 (o:=aI);obtain⟨r1,h1,h⟩:=bS h;refine gC 14 (aNx h1) ?_;refine iB 20 h (fun h=>?_) fun h=>?_;exact lf h;refine iB 24 h (fun h=>?_) fun h=>?_;exact lf h;exact lf h
def TG(s1:Int)(w2:X8)(s5:Int):St:=⟨sp 30 0 [sI 1 s1,bx 2,sI 5 s5],[cL 2 X8.D w2],[]⟩
def TH(s1:Int)(w2:X8)(o:Unit⊕Unit):Ex×St:=match o with
 | .inl o=>(.exit 0,⟨sp 30 0 [],[],[]⟩)
 | .inr o=>(.ret,⟨sp 30 0 [sD 4 D.b true],[],[]⟩)
theorem aAl(rd:Option Nat)(h:aFw a9 aT aB=some aA):Lq 55 rd 26 (TG a9 aT aB) ((TH a9 aT) aA):=
 lL (fun s:Int=>TG a9 aT s) (TH a9 aT) aB (fun aB o h=>by
 unfold Gp at h
 refine gN 9 BQ.D aT.args ?_
 refine iB 10 h (fun h=>?_) fun h=>?_
 refine xX 16 BQ.D h fun x1 h=>?_
 refine iB 20 h (fun h=>?_) fun h=>?_
 refine xX 24 BQ.D h fun x2 h=>?_
 refine iB 29 h (fun h=>?_) fun h=>?_
 exact lb h
 exact lb h
 exact lb h
 exact lb h) h
theorem aJo(h:Yw aT a9=some aE):AO Tryz.prog 55 [.d (X8.D aT),dI a9] [] (.d (D.b aE)) []:=by
 unfold Yw at h;apply g0 (o:=aE);obtain⟨o3,h6,h⟩:=bS h;refine gl (aAl none h6) ?_;replace h:=AM h;rcases h with⟨o4,rfl,h⟩|⟨o5,rfl,h⟩
 exact lf h;exact lf h
def TZ(s3:Int)(w4:AA)(w5:X8)(s9:Int):St:=⟨sp 34 0 [sI 3 s3,bx 4,bx 5,sI 9 s9],[cL 4 AA.D w4,cL 5 X8.D w5],[]⟩
def Ta(s3:Int)(w4:AA)(w5:X8)(o:Unit⊕Unit):Ex×St:=match o with
 | .inl o=>(.exit 0,⟨sp 34 0 [],[],[]⟩)
 | .inr o=>(.ret,⟨sp 34 0 [sD 8 D.b false],[],[]⟩)
theorem aAu(rd:Option Nat)(h:aF5 a9 a8 aT aB=some aA):Lq 52 rd 26 (TZ a9 a8 aT aB) ((Ta a9 a8 aT) aA):=
 lL (fun s:Int=>TZ a9 a8 aT s) (Ta a9 a8 aT) aB (fun aB o h=>by
 unfold Gv at h
 refine iB 13 h (fun h=>?_) fun h=>?_
 refine xX 19 Y7.D h fun x1 h=>?_
 refine iB 23 h (fun h=>?_) fun h=>?_
 refine xX 28 Y7.D h fun x2 h=>?_
 obtain⟨r3,h5,h⟩:=bS h
 refine gC 31 (aJo h5) ?_
 refine iB 33 h (fun h=>?_) fun h=>?_
 exact lb h
 exact lb h
 exact lb h
 exact lb h) h
theorem aN8(h:Z6 a8 aT a9 aB=some aE):AO Tryz.prog 52 [.d (AA.D a8),.d (X8.D aT),dI a9,dI aB] [] (.d (D.b aE)) []:=by
 unfold Z6 at h;apply g0 (o:=aE);obtain⟨o4,h7,h⟩:=bS h;refine gl (aAu none h7) ?_;replace h:=AM h;rcases h with⟨o5,rfl,h⟩|⟨o6,rfl,h⟩
 exact lf h;exact lf h
theorem XE(rd:Option Nat)(h:Rj a9 aB aE a8 aU=some aV):Lq 33 rd 61 ⟨sp 153 0 [sI 2 a9,bx 3,bx 4,sI 8 aB,sD 56 D.b aE],[cL 3 AA.D a8,cL 4 Xe.D aU],[]⟩ (match (generalizing:=false) aV with
 | .inl aV=>(.normal,⟨sp 153 0 [sI 2 a9,bx 3,bx 4,sI 8 aV],[cL 3 AA.D a8,cL 4 Xe.D aU],[]⟩)
 | .inr aV=>(.ret,⟨sp 153 0 [sI 6 0,sD 7 D.b false],[],[]⟩)):=by
 unfold Rj at h
 apply g0 (o:=aV)
 cases aE
 replace h:=Cy h
 exact lp h
 replace h:=Cz h
 obtain⟨r1,h8,h⟩:=bS h
 refine gC 62 (aH5 h8) ?_
 refine iB 67 h (fun h=>?_) fun h=>?_
 exact lp h
 refine iB 70 h (fun h=>?_) fun h=>?_
 exact lp h
 exact lp h
def Rm(s2 s11:Int)(w3:AA)(w4:Xe)(w12:DN)(s15:Int):St:=⟨sp 153 0 [sI 2 s2,bx 3,bx 4,sI 11 s11,bx 12,sI 15 s15],[cL 3 AA.D w3,cL 4 Xe.D w4,cL 12 DN.D w12],[]⟩
def Rn(s2 s11:Int)(w3:AA)(w4:Xe)(w12:DN)(o:Unit⊕Unit):Ex×St:=match o with
 | .inl o=>(.exit 2,⟨sp 153 0 [sI 2 s2,bx 3,bx 4,sI 11 s11,bx 12],[cL 3 AA.D w3,cL 4 Xe.D w4,cL 12 DN.D w12],[]⟩)
 | .inr o=>(.ret,⟨sp 153 0 [sI 6 0,sD 7 D.b false],[],[]⟩)
theorem XI(rd:Option Nat)(h:aE7 a9 aB a8 aU aW aO=some aA):Lq 33 rd 256314 (Rm a9 aB a8 aU aW aO) ((Rn a9 aB a8 aU aW) aA):=
 lL (fun s:Int=>Rm a9 aB a8 aU aW s) (Rn a9 aB a8 aU aW) aO (fun aO o h=>by
 unfold GT at h
 refine iB 127 h (fun h=>?_) fun h=>?_
 refine xX 133 DN.D h fun x8 h=>?_
 refine iB 138 h (fun h=>?_) fun h=>?_
 exact lb h
 exact lb h
 exact lb h) h
def Rk(s2:Int)(w3:AA)(w4:Xe)(s8 s11:Int):St:=⟨sp 153 0 [sI 2 s2,bx 3,bx 4,sI 8 s8,sI 11 s11],[cL 3 AA.D w3,cL 4 Xe.D w4],[]⟩
def Rl(s2:Int)(w3:AA)(w4:Xe)(o:Int⊕Unit):Ex×St:=match o with
 | .inl o=>(.exit 0,⟨sp 153 0 [sI 2 s2,bx 3,bx 4,sI 8 o],[cL 3 AA.D w3,cL 4 Xe.D w4],[]⟩)
 | .inr o=>(.ret,⟨sp 153 0 [sI 6 0,sD 7 D.b false],[],[]⟩)
theorem XH(rd:Option Nat)(h:OQ a9 a8 aU aB aO=some aV):Lq 33 rd 250 (Rk a9 a8 aU aB aO) ((Rl a9 a8 aU) aV):=
 lL (fun s:Int×Int=>Rk a9 a8 aU s.1 s.2) (Rl a9 a8 aU) (aB,aO) (fun⟨aB,aO⟩ o h=>by
 unfold EI at h
 refine gN 77 DN.D aU.sets ?_
 refine iB 78 h (fun h=>?_) fun h=>?_
 refine xX 84 DN.D h fun x5 h=>?_
 obtain⟨r6,h14,h⟩:=bS h
 refine gC 91 (aH5 h14) ?_
 refine iB 97 h (fun h=>?_) fun h=>?_
 exact lb h
 refine gN 102 Xt.D a8.frees ?_
 refine iB 105 h (fun h=>?_) fun h=>?_
 exact lb h
 refine iB 109 h (fun h=>?_) fun h=>?_
 exact lb h
 refine iB 113 h (fun h=>?_) fun h=>?_
 exact lb h
 refine xX 119 Xt.D h fun x7 h=>?_
 refine iB 124 h (fun h=>?_) fun h=>?_
 exact lb h
 obtain⟨o9,h24,h⟩:=bS h
 refine gl (XI rd h24) ?_
 replace h:=AM h
 rcases h with⟨o10,rfl,h⟩|⟨o11,rfl,h⟩
 exact lb h
 exact lb h
 exact lb h) h
theorem aMu(h:Xo a8 aU a9=some aM):AO Tryz.prog 33 [.d (AA.D a8),.d (Xe.D aU),dI a9] [] (.tup [dI aM.1,.d (D.b aM.2)]) []:=by
 unfold Xo at h;apply g0 (o:=aM);refine iB 19 h (fun h=>?_) fun h=>?_;exact lf h;refine gN 24 Xd.D a8.states ?_;refine iB 27 h (fun h=>?_) fun h=>?_;exact lf h;refine iB 32 h (fun h=>?_) fun h=>?_;exact lf h;refine gN 37 Xd.D a8.states ?_;refine iB 40 h (fun h=>?_) fun h=>?_;exact lf h;refine iB 45 h (fun h=>?_) fun h=>?_;exact lf h;refine gN 50 X8.D a8.symbols ?_;refine iB 52 h (fun h=>?_) fun h=>?_;exact lf h;obtain⟨o2,h11,h⟩:=bS h;refine gl (XE none h11) ?_;replace h:=AM h;rcases h with⟨o3,rfl,h⟩|⟨o4,rfl,h⟩
 obtain⟨o12,h25,h⟩:=bS h;refine gl (XH none h25) ?_;replace h:=AM h;rcases h with⟨o13,rfl,h⟩|⟨o14,rfl,h⟩
 refine xX 148 X8.D h fun x15 h=>?_;obtain⟨r16,h27,h⟩:=bS h;refine gC 152 (aN8 h27) ?_;exact lf h;exact lf h;exact lf h
theorem aLg(h:Qd a8 aX a9=some aE):AO Tryz.prog 76 [.d (AA.D a8),.d (BQ.D aX),dI a9] [] (.d (D.b aE)) []:=by unfold Qd at h;apply g0 (o:=aE);refine iB 11 h (fun h=>?_) fun h=>?_;refine iB 15 h (fun h=>?_) fun h=>?_;obtain⟨r1,h3,h⟩:=bS h;refine gQ (aA2 h3) ?_;cases r1;replace h:=Cy h;refine gW 18 (.ret (.d (D.b false))) ?_;exact lf h;replace h:=Cz h;refine gW 18 (.ret (.d (D.b true))) ?_;exact lf h;exact lf h;refine iB 30 h (fun h=>?_) fun h=>?_;exact lf h;refine iB 33 h (fun h=>?_) fun h=>?_;refine iB 37 h (fun h=>?_) fun h=>?_;refine gN 42 Xq.D a8.quants ?_;refine iB 45 h (fun h=>?_) fun h=>?_;refine xX 50 Xq.D h fun x2 h=>?_;exact lf h;exact lf h;exact lf h;refine iB 58 h (fun h=>?_) fun h=>?_;refine iB 62 h (fun h=>?_) fun h=>?_;refine gN 67 Xt.D a8.frees ?_;refine iB 70 h (fun h=>?_) fun h=>?_;refine xX 75 Xt.D h fun x3 h=>?_;exact lf h;exact lf h;exact lf h;refine iB 85 h (fun h=>?_) fun h=>?_;exact lf h;exact lf h
def TR(w2:AA)(w3:X8)(s5:Int):St:=⟨sp 56 0 [bx 2,bx 3,sI 5 s5],[cL 2 AA.D w2,cL 3 X8.D w3],[]⟩
def TS(w2:AA)(w3:X8)(o:Unit⊕Unit):Ex×St:=match o with
 | .inl o=>(.exit 0,⟨sp 56 0 [],[],[]⟩)
 | .inr o=>(.ret,⟨sp 56 0 [sD 4 D.b false],[],[]⟩)
theorem aAq(rd:Option Nat)(h:aJt a8 aT a9=some aA):Lq 53 rd 58 (TR a8 aT a9) ((TS a8 aT) aA):=
 lL (fun s:Int=>TR a8 aT s) (TS a8 aT) a9 (fun a9 o h=>by
 unfold Gu at h
 refine gN 34 BQ.D aT.args ?_
 refine iB 35 h (fun h=>?_) fun h=>?_
 refine xX 42 BQ.D h fun x2 h=>?_
 refine xX 48 X7.D h fun x3 h=>?_
 refine xX 52 dZ h fun x4 h=>?_
 obtain⟨r5,h9,h⟩:=bS h
 refine gC 54 (aLg h9) ?_
 refine iB 55 h (fun h=>?_) fun h=>?_
 exact lb h
 exact lb h
 exact lb h) h
theorem aN1(h:Z2 a8 aT=some aE):AO Tryz.prog 53 [.d (AA.D a8),.d (X8.D aT)] [] (.d (D.b aE)) []:=by
 unfold Z2 at h;apply g0 (o:=aE);refine iB 9 h (fun h=>?_) fun h=>?_;exact lf h;refine gN 14 X7.D a8.decls ?_;refine iB 17 h (fun h=>?_) fun h=>?_;exact lf h;refine gN 20 BQ.D aT.args<|xX 25 X7.D h fun x1 h=>?_;refine gN 28 dZ x1.types ?_;refine iB 30 h (fun h=>?_) fun h=>?_;exact lf h;obtain⟨o6,h11,h⟩:=bS h;refine gl (aAq none h11) ?_;replace h:=AM h;rcases h with⟨o7,rfl,h⟩|⟨o8,rfl,h⟩
 exact lf h;exact lf h
def Tj(w2 w3:X8)(s5:Int):St:=⟨sp 38 0 [bx 2,bx 3,sI 5 s5],[cL 2 X8.D w2,cL 3 X8.D w3],[]⟩
def Tk(w2 w3:X8)(o:Unit⊕Unit):Ex×St:=match o with
 | .inl o=>(.exit 0,⟨sp 38 0 [],[],[]⟩)
 | .inr o=>(.ret,⟨sp 38 0 [sD 4 D.b false],[],[]⟩)
theorem aA0(rd:Option Nat)(h:aJu aT aY a9=some aA):Lq 54 rd 58 (Tj aT aY a9) ((Tk aT aY) aA):=
 lL (fun s:Int=>Tj aT aY s) (Tk aT aY) a9 (fun a9 o h=>by
 unfold G0 at h
 refine gN 23 BQ.D aT.args ?_
 refine iB 24 h (fun h=>?_) fun h=>?_
 refine xX 30 BQ.D h fun x1 h=>?_
 refine xX 35 BQ.D h fun x2 h=>?_
 refine iB 37 h (fun h=>?_) fun h=>?_
 exact lb h
 exact lb h
 exact lb h) h
theorem aOd(h:Zb aT aY=some aE):AO Tryz.prog 54 [.d (X8.D aT),.d (X8.D aY)] [] (.d (D.b aE)) []:=by
 unfold Zb at h;apply g0 (o:=aE);refine iB 11 h (fun h=>?_) fun h=>?_;exact lf h;refine gN 14 BQ.D aT.args<|gN 17 BQ.D aY.args ?_;refine iB 19 h (fun h=>?_) fun h=>?_;exact lf h;obtain⟨o3,h7,h⟩:=bS h;refine gl (aA0 none h7) ?_;replace h:=AM h;rcases h with⟨o4,rfl,h⟩|⟨o5,rfl,h⟩
 exact lf h;exact lf h
theorem WJ(rd:Option Nat)(h:Pv a9 aB aE a8 aZ b6=some b7):Lq 34 rd 15653 ⟨sp 118 0 [bx 1,rx 3,rx 4,sI 5 a9,sI 6 aB,sD 34 D.b aE],[cL 1 AA.D a8,(3,.buf true 4 1 (aZ.map D.b)),(4,.row 3 1 (b6.map dZ))],[]⟩ (.normal,⟨sp 118 0 [bx 1,rx 3,rx 4,sI 5 a9,sI 6 aB],[cL 1 AA.D a8,(3,.buf true 4 1 (aZ.map D.b)),(4,.row 3 1 (b7.map dZ))],[]⟩):=by unfold Pv at h;apply g0 (o:=b7);cases aE;replace h:=Cy h;exact lp h;replace h:=Cz h;refine gQ (AY dZ [aB])<|gG 38 (.sl ((b6++[aB]).map dZ)) (AY dZ [aB]) ?_;obtain⟨h17,h⟩:=cS h;refine gQ (Ab dZ h17)<|gQ (AZ dZ b6 [aB]) ?_;exact lP h [.live [1,3,4,5,6],.keep [1,3,38],.ren 38 4,.sort]
theorem WI(rd:Option Nat)(h:WH a9 a8 aZ b6=some b8):Lq 34 rd 978 ⟨sp 118 0 [bx 1,rx 3,rx 4,sI 5 a9],[cL 1 AA.D a8,(3,.buf true 4 1 (aZ.map D.b)),(4,.row 3 1 (b6.map dZ))],[]⟩ (.normal,⟨sp 118 0 [bx 1,rx 3,rx 4,sI 5 a9],[cL 1 AA.D a8,(3,.buf true 4 1 (b8.1.map D.b)),(4,.row 3 1 (b8.2.map dZ))],[]⟩):=by unfold WH at h;apply g0 (o:=b8);refine xX 27 Xe.D h fun x5 h=>?_;refine gW 10041 (.sl ((aZ.set x5.symbol.toNat true).map D.b)) ?_;obtain⟨h14,h⟩:=cS h;refine gQ h14.1<|gQ (DJ D.b h14.2) ?_;obtain⟨x6,h15,h⟩:=xS h;refine gG 33 (.el (D.b x6)) (Dh D.b h15) ?_;obtain⟨o7,h18,h⟩:=bS h;refine gl (WJ rd h18) ?_;obtain⟨h19,h⟩:=cS h;refine gQ h19.1<|gQ (DJ D.b h19.2) ?_;obtain⟨h20,h⟩:=cS h;refine gQ (Us D.b h20)<|gQ (Hq D.b aZ x5.symbol true) ?_;exact lp h
def Py(w1:AA)(s5:Int)(w3:List Bool)(w4:List Int):St:=⟨sp 118 0 [bx 1,rx 3,rx 4,sI 5 s5],[cL 1 AA.D w1,(3,.buf true 4 1 (w3.map D.b)),(4,.row 3 1 (w4.map dZ))],[]⟩
def Pz(w1:AA)(o:(List Int)):Ex×St:=(.exit 0,⟨sp 118 0 [bx 1,rx 4],[cL 1 AA.D w1,(4,.row 3 1 (o.map dZ))],[]⟩)
theorem WK(rd:Option Nat)(h:aIh a8 a9 aZ b6=some b7):Lq 34 rd 122 (Py a8 a9 aZ b6) ((Pz a8) b7):=
 lL (fun s:Int×List Bool×List Int=>Py a8 s.1 s.2.1 s.2.2) (Pz a8) (a9,aZ,b6) (fun⟨a9,aZ,b6⟩ o h=>by
 unfold F8 at h
 refine gN 20 Xe.D a8.trans ?_
 refine iB 21 h (fun h=>?_) fun h=>?_
 obtain⟨o8,h21,h⟩:=bS h
 refine gl (WI rd h21) ?_
 exact lb h
 exact lb h) h
def P0(w1:AA)(w4:List Int)(s7:Int):St:=⟨sp 118 0 [bx 1,rx 4,sI 7 s7],[cL 1 AA.D w1,(4,.row 3 1 (w4.map dZ))],[]⟩
def P1(w1:AA)(w4:List Int)(o:Unit⊕Unit):Ex×St:=match o with
 | .inl o=>(.exit 2,⟨sp 118 0 [bx 1],[cL 1 AA.D w1],[]⟩)
 | .inr o=>(.ret,⟨sp 118 0 [sD 2 D.b false],[],[]⟩)
theorem WL(rd:Option Nat)(h:aIi a8 b6 a9=some aA):Lq 34 rd 250 (P0 a8 b6 a9) ((P1 a8 b6) aA):=
 lL (fun s:Int=>P0 a8 b6 s) (P1 a8 b6) a9 (fun a9 o h=>by
 unfold F9 at h
 refine gN 44 dZ b6 ?_
 refine iB 45 h (fun h=>?_) fun h=>?_
 refine gW 54 (.int (a8.symbols.length:Int))<|gW 56 (.int (b6.length:Int))<|xX 50 dZ h fun x10 h=>?_
 refine gQ (FI X8.D a8.symbols)<|gQ (FI dZ b6) ?_
 refine iB 60 h (fun h=>?_) fun h=>?_
 exact lb h
 exact lb h
 exact lb h) h
def P4(s8:Int)(w1:AA)(s9:Int):St:=⟨sp 118 0 [bx 1,sI 8 s8,sI 9 s9],[cL 1 AA.D w1],[]⟩
def P5(s8:Int)(w1:AA)(o:Unit⊕Unit):Ex×St:=match o with
 | .inl o=>(.exit 6,⟨sp 118 0 [bx 1,sI 8 s8],[cL 1 AA.D w1],[]⟩)
 | .inr o=>(.ret,⟨sp 118 0 [sD 2 D.b false],[],[]⟩)
theorem WN(rd:Option Nat)(h:aEu a9 a8 aB=some aA):Lq 34 rd 64806 (P4 a9 a8 aB) ((P5 a9 a8) aA):=
 lL (fun s:Int=>P4 a9 a8 s) (P5 a9 a8) aB (fun aB o h=>by
 unfold GB at h
 refine iB 78 h (fun h=>?_) fun h=>?_
 refine xX 84 X8.D h fun x16 h=>?_
 refine xX 89 X8.D h fun x17 h=>?_
 obtain⟨r18,h34,h⟩:=bS h
 refine gQ (aOd h34) ?_
 cases r18
 replace h:=Cy h
 refine gW 91 (.ret (.d (D.b false))) ?_
 exact lb h
 replace h:=Cz h
 refine gW 91 (.ret (.d (D.b true))) ?_
 exact lb h
 exact lb h) h
def P2(w1:AA)(s8:Int):St:=⟨sp 118 0 [bx 1,sI 8 s8],[cL 1 AA.D w1],[]⟩
def P3(w1:AA)(o:Unit⊕Unit):Ex×St:=match o with
 | .inl o=>(.exit 4,⟨sp 118 0 [bx 1],[cL 1 AA.D w1],[]⟩)
 | .inr o=>(.ret,⟨sp 118 0 [sD 2 D.b false],[],[]⟩)
theorem WM(rd:Option Nat)(h:aIj a8 a9=some aA):Lq 34 rd 506 (P2 a8 a9) ((P3 a8) aA):=
 lL (fun s:Int=>P2 a8 s) (P3 a8) a9 (fun a9 o h=>by
 unfold GA at h
 refine gN 64 X8.D a8.symbols ?_
 refine iB 65 h (fun h=>?_) fun h=>?_
 refine xX 72 X8.D h fun x14 h=>?_
 obtain⟨r15,h29,h⟩:=bS h
 refine gC 74 (aN1 h29) ?_
 refine iB 75 h (fun h=>?_) fun h=>?_
 exact lb h
 obtain⟨o19,h36,h⟩:=bS h
 refine gl (WN rd h36) ?_
 replace h:=AM h
 rcases h with⟨o20,rfl,h⟩|⟨o21,rfl,h⟩
 exact lb h
 exact lb h
 exact lb h) h
def Mo(s10:Int)(w1:AA)(s11:Bool)(s12:Int):St:=⟨sp 118 0 [bx 1,sI 10 s10,sD 11 D.b s11,sI 12 s12],[cL 1 AA.D w1],[]⟩
def Mp(s10:Int)(w1:AA)(o:Bool):Ex×St:=(.exit 10,⟨sp 118 0 [bx 1,sI 10 s10,sD 11 D.b o],[cL 1 AA.D w1],[]⟩)
theorem Px(rd:Option Nat)(h:Pw a9 a8 aE aB=some b9):Lq 34 rd 260682 (Mo a9 a8 aE aB) ((Mp a9 a8) b9):=
 lL (fun s:Bool×Int=>Mo a9 a8 s.1 s.2) (Mp a9 a8) (aE,aB) (fun⟨aE,aB⟩ o h=>by
 unfold Dq at h
 refine gN 102 X8.D a8.symbols ?_
 refine iB 103 h (fun h=>?_) fun h=>?_
 refine iB 107 h (fun h=>?_) fun h=>?_
 exact lb h
 refine xX 111 X8.D h fun x25 h=>?_
 obtain⟨r26,h42,h⟩:=bS h
 refine gC 114 (aJo h42) ?_
 exact lb h
 exact lb h) h
def P6(w1:AA)(s10:Int):St:=⟨sp 118 0 [bx 1,sI 10 s10],[cL 1 AA.D w1],[]⟩
def P7(w1:AA)(o:Unit⊕Unit):Ex×St:=match o with
 | .inl o=>(.exit 8,⟨sp 118 0 [],[],[]⟩)
 | .inr o=>(.ret,⟨sp 118 0 [sD 2 D.b false],[],[]⟩)
theorem WO(rd:Option Nat)(h:aIk a8 a9=some aA):Lq 34 rd 1018 (P6 a8 a9) ((P7 a8) aA):=
 lL (fun s:Int=>P6 a8 s) (P7 a8) a9 (fun a9 o h=>by
 unfold GC at h
 refine gN 95 Xq.D a8.quants ?_
 refine iB 96 h (fun h=>?_) fun h=>?_
 obtain⟨o27,h43,h⟩:=bS h
 refine gl (Px rd h43) ?_
 refine iB 117 h (fun h=>?_) fun h=>?_
 exact lb h
 exact lb h
 exact lb h) h
theorem aMh(h:Xb a8=some aE):AO Tryz.prog 34 [.d (AA.D a8)] [] (.d (D.b aE)) []:=by
 unfold Xb at h;apply g0 (o:=aE);refine gN 15 X8.D a8.symbols<|gW 16 (.sl ((List.replicate (a8.symbols.length:Int).toNat false).map D.b)) ?_;obtain⟨h1,h⟩:=cS h;refine gQ h1.1<|gQ (Int.le_refl (a8.symbols.length:Int))<|gQ (Int.le_refl (a8.symbols.length:Int))<|gQ (aD4 D.b false h1.2)<|gQ (aD3 D.b (a8.symbols.length:Int) false) ?_;obtain⟨o9,h22,h⟩:=bS h;refine gL [.live [1,3,4,5],.keep [1,16],.ren 16 3,.nil 4 4 3 1,.sort] (WK none h22) ?_;obtain⟨o11,h26,h⟩:=bS h;refine gl (WL none h26) ?_;replace h:=AM h;rcases h with⟨o12,rfl,h⟩|⟨o13,rfl,h⟩
 obtain⟨o22,h37,h⟩:=bS h;refine gl (WM none h37) ?_;replace h:=AM h;rcases h with⟨o23,rfl,h⟩|⟨o24,rfl,h⟩
 obtain⟨o28,h45,h⟩:=bS h;refine gl (WO none h45) ?_;replace h:=AM h;rcases h with⟨o29,rfl,h⟩|⟨o30,rfl,h⟩
 exact lf h;exact lf h;exact lf h;exact lf h
def Sx(w1:AA)(s5 s6:Int):St:=⟨sp 101 0 [bx 1,sI 5 s5,sI 6 s6],[cL 1 AA.D w1],[]⟩
def Sy(w1:AA)(o:Int⊕Unit):Ex×St:=match o with
 | .inl o=>(.exit 0,⟨sp 101 0 [bx 1,sI 5 o],[cL 1 AA.D w1],[]⟩)
 | .inr o=>(.ret,⟨sp 101 0 [sD 2 D.b false],[],[]⟩)
theorem aAc(rd:Option Nat)(h:aJi a8 a9 aB=some aV):Lq 15 rd 250 (Sx a8 a9 aB) ((Sy a8) aV):=
 lL (fun s:Int×Int=>Sx a8 s.1 s.2) (Sy a8) (a9,aB) (fun⟨a9,aB⟩ o h=>by
 unfold Gj at h
 refine gN 74 Xe.D a8.trans ?_
 refine iB 75 h (fun h=>?_) fun h=>?_
 refine xX 83 Xe.D h fun x3 h=>?_
 obtain⟨r4,h15,h⟩:=bS h
 refine gC 86 (aMu h15) ?_
 refine iB 90 h (fun h=>?_) fun h=>?_
 exact lb h
 exact lb h
 exact lb h) h
theorem aNq(h:Yn a8=some aE):AO Tryz.prog 15 [.d (AA.D a8)] [] (.d (D.b aE)) []:=by
 unfold Yn at h;apply g0 (o:=aE);obtain⟨r1,h1,h⟩:=bS h;refine gC 12 (aMw h1) ?_;refine iB 17 h (fun h=>?_) fun h=>?_;exact lf h;refine gN 20 Xq.D a8.quants ?_;refine iB 23 h (fun h=>?_) fun h=>?_;exact lf h;refine gN 26 Xt.D a8.frees ?_;refine iB 29 h (fun h=>?_) fun h=>?_;exact lf h;refine gN 32 Xd.D a8.states ?_;refine iB 35 h (fun h=>?_) fun h=>?_;exact lf h;refine gN 38 X8.D a8.symbols ?_;refine iB 41 h (fun h=>?_) fun h=>?_;exact lf h;refine gN 44 Y7.D a8.nodes ?_;refine iB 47 h (fun h=>?_) fun h=>?_;exact lf h;refine gN 50 Xe.D a8.trans ?_;refine iB 53 h (fun h=>?_) fun h=>?_;exact lf h;refine iB 58 h (fun h=>?_) fun h=>?_;exact lf h;refine gN 63 Xd.D a8.states ?_;refine iB 66 h (fun h=>?_) fun h=>?_;exact lf h;obtain⟨r2,h11,h⟩:=bS h;refine gC 68 (aMm h11) ?_;refine iB 70 h (fun h=>?_) fun h=>?_;exact lf h;obtain⟨o5,h17,h⟩:=bS h;refine gl (aAc none h17) ?_;replace h:=AM h;rcases h with⟨o6,rfl,h⟩|⟨o7,rfl,h⟩
 refine gN 95 Y7.D a8.nodes ?_;refine iB 97 h (fun h=>?_) fun h=>?_;obtain⟨r8,h19,h⟩:=bS h;refine gC 99 (aMh h19) ?_;exact lf h;exact lf h;exact lf h
def TB(w1:AA)(s3:Int):St:=⟨sp 27 0 [bx 1,sI 3 s3],[cL 1 AA.D w1],[]⟩
def TC(w1:AA)(o:Unit⊕Unit):Ex×St:=match o with
 | .inl o=>(.exit 0,⟨sp 27 0 [],[],[]⟩)
 | .inr o=>(.ret,⟨sp 27 0 [sD 2 D.b false],[],[]⟩)
theorem aAj(rd:Option Nat)(h:aFu a8 a9=some aA):Lq 5 rd 58 (TB a8 a9) ((TC a8) aA):=
 lL (fun s:Int=>TB a8 s) (TC a8) a9 (fun a9 o h=>by
 unfold Gm at h
 refine gN 15 X7.D a8.decls ?_
 refine iB 16 h (fun h=>?_) fun h=>?_
 refine xX 22 X7.D h fun x3 h=>?_
 refine gN 25 dZ x3.types ?_
 refine iB 26 h (fun h=>?_) fun h=>?_
 exact lb h
 exact lb h
 exact lb h) h
theorem aJm(h:Yt a8=some aE):AO Tryz.prog 5 [.d (AA.D a8)] [] (.d (D.b aE)) []:=by
 unfold Yt at h;apply g0 (o:=aE);obtain⟨r1,h1,h⟩:=bS h;refine gC 5 (aMj h1) ?_;refine iB 7 h (fun h=>?_) fun h=>?_;exact lf h;obtain⟨r2,h3,h⟩:=bS h;refine gC 9 (aNq h3) ?_;refine iB 11 h (fun h=>?_) fun h=>?_;exact lf h;obtain⟨o4,h8,h⟩:=bS h;refine gl (aAj none h8) ?_;replace h:=AM h;rcases h with⟨o5,rfl,h⟩|⟨o6,rfl,h⟩
 exact lf h;exact lf h
theorem aLz(h:Qt aU=some aE):AO Tryz.prog 61 [.d (Xe.D aU)] [] (.d (D.b aE)) []:=by unfold Qt at h;apply g0 (o:=aE);exact lf h
def SJ(s0:List Xe)(s7 s8:Int):St:=⟨sp 19 0 [sD 0 (D.l Xe.D) s0,(1,.clo (.func 61) [] []),sI 7 s7,sI 8 s8],[],[]⟩
def SK(s0:List Xe)(s7:Int)(o:Unit⊕Int):Ex×St:=match o with
 | .inl o=>(.exit 0,⟨sp 19 0 [],[],[]⟩)
 | .inr o=>(.ret,⟨sp 19 0 [sI 4 o],[],[]⟩)
theorem YV(rd:Option Nat)(h:OU bA a9 aB=some aG):Lq 83 rd 26 (SJ bA a9 aB) ((SK bA a9) aG):=
 lL (fun s:Int=>SJ bA a9 s) (SK bA a9) aB (fun aB o h=>by
 unfold Ez at h
 refine iB 9 h (fun h=>?_) fun h=>?_
 refine xX 14 Xe.D h fun x1 h=>?_
 obtain⟨r2,h3,h⟩:=bS h
 refine gQ (aLz h3) ?_
 cases r2
 replace h:=Cy h
 refine gW 16 (.ret (.d (D.b false))) ?_
 exact lb h
 replace h:=Cz h
 refine gW 16 (.ret (.d (D.b true))) ?_
 exact lb h
 exact lb h) h
theorem aNb(h:Y4 bA=some a9):AO Tryz.prog 83 [.d ((D.l Xe.D) bA),.clo (.func 61) [] []] [] (dI a9) []:=by
 unfold Y4 at h;apply g0 (o:=a9);refine gN 7 Xe.D bA ?_;obtain⟨o3,h5,h⟩:=bS h;refine gl (YV none h5) ?_;replace h:=AM h;rcases h with⟨o4,rfl,h⟩|⟨o5,rfl,h⟩
 exact lf h;exact lf h
theorem aOo(h:Zr bA=some aE):AO Tryz.prog 60 [.d ((D.l Xe.D) bA),.clo (.func 61) [] []] [] (.d (D.b aE)) []:=by unfold Zr at h;apply g0 (o:=aE);obtain⟨r1,h1,h⟩:=bS h;refine gC 7 (aNb h1) ?_;exact lf h
theorem aOu(h:Zu a8=some aE):AO Tryz.prog 40 [.d (AA.D a8)] [] (.d (D.b aE)) []:=by unfold Zu at h;apply g0 (o:=aE);refine gN 5 Xt.D a8.frees ?_;refine iB 7 h (fun h=>?_) fun h=>?_;obtain⟨r1,h2,h⟩:=bS h;refine gC 10 (aOo h2) ?_;exact lf h;exact lf h
theorem aJz(h:Zo a8=some aE):AO Tryz.prog 21 [.d (AA.D a8)] [] (.d (D.b aE)) []:=by unfold Zo at h;apply g0 (o:=aE);obtain⟨r1,h1,h⟩:=bS h;refine gQ (aOu h1) ?_;cases r1;replace h:=Cy h;refine gW 4 (.ret (.d (D.b false))) ?_;exact lf h;replace h:=Cz h;refine gN 8 Xq.D a8.quants<|gW 4 (.ret (.d (D.b true))) ?_;refine iB 11 h (fun h=>?_) fun h=>?_;refine gN 14 Xd.D a8.states ?_;refine iB 17 h (fun h=>?_) fun h=>?_;refine gN 20 X8.D a8.symbols ?_;exact lf h;exact lf h;exact lf h
def SN(s0 s1:List Int)(s12 s13:Int):St:=⟨sp 26 0 [sD 0 (D.l dZ) s0,sD 1 (D.l dZ) s1,sI 12 s12,sI 13 s13],[],[]⟩
def SO(s0 s1:List Int)(s12:Int)(o:Unit⊕Unit):Ex×St:=match o with
 | .inl o=>(.exit 0,⟨sp 26 0 [],[],[]⟩)
 | .inr o=>(.ret,⟨sp 26 0 [sD 4 D.b false],[],[]⟩)
theorem YW(rd:Option Nat)(h:SM b6 bB a9 aB=some aA):Lq 43 rd 58 (SN b6 bB a9 aB) ((SO b6 bB a9) aA):=
 lL (fun s:Int=>SN b6 bB a9 s) (SO b6 bB a9) aB (fun aB o h=>by
 unfold E0 at h
 refine iB 14 h (fun h=>?_) fun h=>?_
 refine xX 18 dZ h fun x1 h=>?_
 refine xX 22 dZ h fun x2 h=>?_
 refine iB 24 h (fun h=>?_) fun h=>?_
 exact lb h
 exact lb h
 exact lb h) h
theorem aNd(h:Y5 b6 bB=some aE):AO Tryz.prog 43 [.d ((D.l dZ) b6),.d ((D.l dZ) bB)] [] (.d (D.b aE)) []:=by
 unfold Y5 at h;apply g0 (o:=aE);refine gN 7 dZ b6<|gN 9 dZ bB ?_;refine iB 10 h (fun h=>?_) fun h=>?_;exact lf h;refine gN 12 dZ b6 ?_;obtain⟨o3,h6,h⟩:=bS h;refine gl (YW none h6) ?_;replace h:=AM h;rcases h with⟨o4,rfl,h⟩|⟨o5,rfl,h⟩
 exact lf h;exact lf h
theorem aOq(h:Zs bC bD=some aE):AO Tryz.prog 42 [.d (X7.D bC),.d (X7.D bD)] [] (.d (D.b aE)) []:=by unfold Zs at h;apply g0 (o:=aE);refine iB 10 h (fun h=>?_) fun h=>?_;obtain⟨r1,h2,h⟩:=bS h;refine gC 15 (aNd h2) ?_;exact lf h;exact lf h
def Rw(s1 s15:List X7)(s16 s17:Int):St:=⟨sp 32 0 [sD 1 (D.l X7.D) s1,(2,.clo (.func 42) [] []),sD 15 (D.l X7.D) s15,sI 16 s16,sI 17 s17],[],[]⟩
def Rx(s1 s15:List X7)(s16:Int)(o:Unit⊕Unit):Ex×St:=match o with
 | .inl o=>(.exit 0,⟨sp 32 0 [],[],[]⟩)
 | .inr o=>(.ret,⟨sp 32 0 [sD 6 D.b false],[],[]⟩)
theorem XP(rd:Option Nat)(h:Rv aF bE a9 aB=some aA):Lq 41 rd 58 (Rw aF bE a9 aB) ((Rx aF bE a9) aA):=
 lL (fun s:Int=>Rw aF bE a9 s) (Rx aF bE a9) aB (fun aB o h=>by
 unfold EJ at h
 refine iB 18 h (fun h=>?_) fun h=>?_
 refine xX 20 X7.D h fun x1 h=>?_
 refine xX 24 X7.D h fun x2 h=>?_
 obtain⟨r3,h5,h⟩:=bS h
 refine gC 29 (aOq h5) ?_
 refine iB 30 h (fun h=>?_) fun h=>?_
 exact lb h
 exact lb h
 exact lb h) h
theorem aMz(h:Xu aF bE=some aE):AO Tryz.prog 41 [.d ((D.l X7.D) aF),.d ((D.l X7.D) bE),.clo (.func 42) [] []] [] (.d (D.b aE)) []:=by
 unfold Xu at h;apply g0 (o:=aE);refine gN 11 X7.D aF<|gN 13 X7.D bE ?_;refine iB 14 h (fun h=>?_) fun h=>?_;exact lf h;refine gN 16 X7.D aF ?_;obtain⟨o4,h7,h⟩:=bS h;refine gl (XP none h7) ?_;replace h:=AM h;rcases h with⟨o5,rfl,h⟩|⟨o6,rfl,h⟩
 exact lf h;exact lf h
theorem aOs(h:Zt aF bE=some aE):AO Tryz.prog 22 [.d ((D.l X7.D) aF),.d ((D.l X7.D) bE)] [] (.d (D.b aE)) []:=by unfold Zt at h;apply g0 (o:=aE);obtain⟨r1,h1,h⟩:=bS h;refine gC 7 (aMz h1) ?_;exact lf h
theorem aFv(h:Yu a8 bG=some aE):AO Tryz.prog 10 [.d (AA.D a8),.d (AA.D bG)] [] (.d (D.b aE)) []:=by unfold Yu at h;apply g0 (o:=aE);obtain⟨r1,h1,h⟩:=bS h;refine gQ (aJz h1) ?_;cases r1;replace h:=Cy h;refine gW 6 (.ret (.d (D.b false))) ?_;exact lf h;replace h:=Cz h;refine gW 6 (.ret (.d (D.b true))) ?_;obtain⟨r2,h3,h⟩:=bS h;refine gQ (aJz h3) ?_;cases r2;replace h:=Cy h;refine gW 9 (.ret (.d (D.b false))) ?_;exact lf h;replace h:=Cz h;refine gN 14 Xq.D a8.quants<|gN 17 Xq.D bG.quants<|gW 9 (.ret (.d (D.b true))) ?_;refine iB 21 h (fun h=>?_) fun h=>?_;obtain⟨r3,h6,h⟩:=bS h;refine gC 26 (aOs h6) ?_;exact lf h;exact lf h
theorem aMb(h:U5 bH=some bI):AO Tryz.prog 37 [.d (D.l X0.D bH)] [] (.d (D.l X0.D bI)) []:=
 aBt (ρ:=⟨fun _=>37,fun n=>if n=4 then 4 else if n=22 then 42 else 81,id⟩) (by_:=40) X0.D rfl (aDs mixed ⟨ "slices.Clone[[]proctor/api.Value,proctor/api.Value]",by decide,(Tryz.func37).trans (by kernel_rfl)⟩ Tryz.underlying4 Tryz.underlying42 (by kernel_rfl) (by kernel_rfl) (by kernel_rfl) (by kernel_rfl)) (by kernel_rfl) (by decide) bH bI h
theorem aLq(h:Qj a8 bJ=some bK):AO Tryz.prog 82 [.d (AA.D a8),.d (X3.D bJ)] [] (.clo (.func 93) [] [.eptr (D.cells (AA.D bK.1)),.eptr (D.cells (X3.D bK.2))]) []:=by unfold Qj at h;apply g0 (o:=bK);refine gW 2 .frz<|gW 3 .frz ?_;exact lf h
theorem aL0(h:Qu bC aD=some aE):AO Tryz.prog 115 [.d (X7.D bC),.eptr (D.cells (D.s aD))] [] (.d (D.b aE)) []:=by unfold Qu at h;apply g0 (o:=aE);exact lf h
def Tn(s0:List X7)(s1:List UInt8)(s7 s8:Int):St:=⟨sp 19 0 [sD 0 (D.l X7.D) s0,(1,.clo (.func 115) [] [.eptr (D.cells (D.s s1))]),sI 7 s7,sI 8 s8],[],[]⟩
def To(s0:List X7)(s1:List UInt8)(s7:Int)(o:Unit⊕Int):Ex×St:=match o with
 | .inl o=>(.exit 0,⟨sp 19 0 [],[],[]⟩)
 | .inr o=>(.ret,⟨sp 19 0 [sI 4 o],[],[]⟩)
theorem aA3(rd:Option Nat)(h:aGb aF aD a9 aB=some aG):Lq 114 rd 26 (Tn aF aD a9 aB) ((To aF aD a9) aG):=
 lL (fun s:Int=>Tn aF aD a9 s) (To aF aD a9) aB (fun aB o h=>by
 unfold JJ at h
 refine iB 9 h (fun h=>?_) fun h=>?_
 refine xX 14 X7.D h fun x1 h=>?_
 obtain⟨r2,h3,h⟩:=bS h
 refine gQ (aL0 h3) ?_
 cases r2
 replace h:=Cy h
 refine gW 16 (.ret (.d (D.b false))) ?_
 exact lb h
 replace h:=Cz h
 refine gW 16 (.ret (.d (D.b true))) ?_
 exact lb h
 exact lb h) h
theorem aOf(h:Ze aF aD=some a9):AO Tryz.prog 114 [.d ((D.l X7.D) aF),.clo (.func 115) [] [.eptr (D.cells (D.s aD))]] [] (dI a9) []:=by
 unfold Ze at h;apply g0 (o:=a9);refine gN 7 X7.D aF ?_;obtain⟨o3,h5,h⟩:=bS h;refine gl (aA3 none h5) ?_;replace h:=AM h;rcases h with⟨o4,rfl,h⟩|⟨o5,rfl,h⟩
 exact lf h;exact lf h
theorem aL1(h:Qv aF aD=some aM):AO Tryz.prog 104 [.d ((D.l X7.D) aF),.d (D.s aD)] [] (.tup [dI aM.1,.d (D.b aM.2)]) []:=by unfold Qv at h;apply g0 (o:=aM);refine gW 3 .frz ?_;obtain⟨r1,h1,h⟩:=bS h;refine gC 9 (aOf h1)<|gG 11 (.int (VA r1 0)) (rfl:VA r1 0=VA r1 0) ?_;exact lf h
theorem aL2(h:Qw a9=some aJ):AO Tryz.prog 116 [dI a9] [] (.d (X0.D aJ)) []:=by unfold Qw at h;apply g0 (o:=aJ);exact lf h
theorem aL3(h:Qx aD=some aJ):AO Tryz.prog 117 [.d (D.s aD)] [] (.d (X0.D aJ)) []:=by unfold Qx at h;apply g0 (o:=aJ);exact lf h
theorem aL4(h:Qy aE=some aJ):AO Tryz.prog 118 [.d (D.b aE)] [] (.d (X0.D aJ)) []:=by unfold Qy at h;apply g0 (o:=aJ);exact lf h
theorem aLi(h:Qe aJ=some aE):AO Tryz.prog 107 [.d (X0.D aJ)] [] (.d (D.b aE)) []:=by unfold Qe at h;apply g0 (o:=aE);refine iB 5 h (fun h=>?_) fun h=>?_;obtain⟨r1,h2,h⟩:=bS h;refine gC 10 (aL2 h2) ?_;exact lf h;refine iB 12 h (fun h=>?_) fun h=>?_;obtain⟨r2,h4,h⟩:=bS h;refine gC 17 (aL3 h4) ?_;refine iB 19 h (fun h=>?_) fun h=>?_;refine gG 22 (.int (aJ.str.length:Int)) (BO aJ.str) ?_;exact lf h;exact lf h;refine iB 25 h (fun h=>?_) fun h=>?_;obtain⟨r3,h7,h⟩:=bS h;refine gC 30 (aL4 h7) ?_;exact lf h;exact lf h
theorem aL5(h:Qz aJ a9=some aE):AO Tryz.prog 106 [.d (X0.D aJ),dI a9] [] (.d (D.b aE)) []:=by unfold Qz at h;apply g0 (o:=aE);refine iB 9 h (fun h=>?_) fun h=>?_;obtain⟨r1,h2,h⟩:=bS h;refine gC 11 (aLi h2) ?_;exact lf h;exact lf h
def Tl(s1:List Int)(s15:List X0)(s16 s17:Int):St:=⟨sp 32 0 [sD 1 (D.l dZ) s1,(2,.clo (.func 106) [] []),sD 15 (D.l X0.D) s15,sI 16 s16,sI 17 s17],[],[]⟩
def Tm(s1:List Int)(s15:List X0)(s16:Int)(o:Unit⊕Unit):Ex×St:=match o with
 | .inl o=>(.exit 0,⟨sp 32 0 [],[],[]⟩)
 | .inr o=>(.ret,⟨sp 32 0 [sD 6 D.b false],[],[]⟩)
theorem aA1(rd:Option Nat)(h:aF9 b6 bH a9 aB=some aA):Lq 105 rd 58 (Tl b6 bH a9 aB) ((Tm b6 bH a9) aA):=
 lL (fun s:Int=>Tl b6 bH a9 s) (Tm b6 bH a9) aB (fun aB o h=>by
 unfold JI at h
 refine iB 18 h (fun h=>?_) fun h=>?_
 refine xX 20 X0.D h fun x1 h=>?_
 refine xX 24 dZ h fun x2 h=>?_
 obtain⟨r3,h5,h⟩:=bS h
 refine gC 29 (aL5 h5) ?_
 refine iB 30 h (fun h=>?_) fun h=>?_
 exact lb h
 exact lb h
 exact lb h) h
theorem aOe(h:Zc bH b6=some aE):AO Tryz.prog 105 [.d ((D.l X0.D) bH),.d ((D.l dZ) b6),.clo (.func 106) [] []] [] (.d (D.b aE)) []:=by
 unfold Zc at h;apply g0 (o:=aE);refine gN 11 X0.D bH<|gN 13 dZ b6 ?_;refine iB 14 h (fun h=>?_) fun h=>?_;exact lf h;refine gN 16 X0.D bH ?_;obtain⟨o4,h7,h⟩:=bS h;refine gl (aA1 none h7) ?_;replace h:=AM h;rcases h with⟨o5,rfl,h⟩|⟨o6,rfl,h⟩
 exact lf h;exact lf h
theorem aLk(h:Qf aF bJ=some aE):AO Tryz.prog 94 [.d ((D.l X7.D) aF),.d (X3.D bJ)] [] (.d (D.b aE)) []:=by unfold Qf at h;apply g0 (o:=aE);obtain⟨r1,h1,h⟩:=bS h;refine gC 11 (aL1 h1) ?_;refine iB 15 h (fun h=>?_) fun h=>?_;exact lf h;refine xX 20 X7.D h fun x2 h=>?_;obtain⟨r3,h4,h⟩:=bS h;refine gC 23 (aOe h4) ?_;exact lf h
theorem aH9(h:Qg bL a9=some aB):AO Tryz.prog 129 [.d (X2.D bL),dI a9] [] (dI aB) []:=by unfold Qg at h;apply g0 (o:=aB);exact lf h
theorem ZG(rd:Option Nat)(h:ZF bM a9 aB aO aS bN aE=some bO):Lq 128 rd 1931 ⟨sp 49 0 [sD 0 (D.l X2.D) bM,sI 1 a9,(2,.clo (.func 129) [] []),sI 8 aB,sI 9 aO,sI 10 aS,sI 11 bN,sD 31 D.b aE],[],[]⟩ (.normal,⟨sp 49 0 [sD 0 (D.l X2.D) bM,sI 1 a9,(2,.clo (.func 129) [] []),sI 8 aB,sI 9 bO.1,sI 10 bO.2],[],[]⟩):=by unfold ZF at h;apply g0 (o:=bO);cases aE;replace h:=Cy h;exact lp h;replace h:=Cz h;exact lp h
theorem ZE(rd:Option Nat)(h:ZD bM a9 aB aO aS=some bO):Lq 128 rd 241 ⟨sp 49 0 [sD 0 (D.l X2.D) bM,sI 1 a9,(2,.clo (.func 129) [] []),sI 8 aB,sI 9 aO,sI 10 aS],[],[]⟩ (.normal,⟨sp 49 0 [sD 0 (D.l X2.D) bM,sI 1 a9,(2,.clo (.func 129) [] []),sI 8 aB,sI 9 bO.1,sI 10 bO.2],[],[]⟩):=by unfold ZD at h;apply g0 (o:=bO);refine gQ (of_decide_eq_true rfl:(0:Int)<=1)<|xX 27 X2.D h fun x1 h=>?_;obtain⟨r2,h3,h⟩:=bS h;refine gC 30 (aH9 h3) ?_;obtain⟨o3,h5,h⟩:=bS h;refine gl (ZG rd h5) ?_;exact lp h
def SY(s0:List X2)(s1 s8:Int)(s9 s10:Int):St:=⟨sp 49 0 [sD 0 (D.l X2.D) s0,sI 1 s1,(2,.clo (.func 129) [] []),sI 8 s8,sI 9 s9,sI 10 s10],[],[]⟩
def SZ(s0:List X2)(s1 s8 o:Int):Ex×St:=(.exit 0,⟨sp 49 0 [sD 0 (D.l X2.D) s0,sI 1 s1,(2,.clo (.func 129) [] []),sI 8 s8,sI 9 o],[],[]⟩)
theorem ZH(rd:Option Nat)(h:aFg bM a9 aB aO aS=some bN):Lq 128 rd 60 (SY bM a9 aB aO aS) ((SZ bM a9 aB) bN):=
 lL (fun s:Int×Int=>SY bM a9 aB s.1 s.2) (SZ bM a9 aB) (aO,aS) (fun⟨aO,aS⟩ o h=>by
 unfold Gb at h
 refine iB 17 h (fun h=>?_) fun h=>?_
 obtain⟨o4,h6,h⟩:=bS h
 refine gl (ZE rd h6) ?_
 exact lb h
 exact lb h) h
theorem aI0(h:Ya bM a9=some aM):AO Tryz.prog 128 [.d ((D.l X2.D) bM),dI a9,.clo (.func 129) [] []] [] (.tup [dI aM.1,.d (D.b aM.2)]) []:=by unfold Ya at h;apply g0 (o:=aM);refine gN 13 X2.D bM ?_;obtain⟨o5,h7,h⟩:=bS h;refine gl (ZH none h7) ?_;refine iB 39 h (fun h=>?_) fun h=>?_;refine xX 43 X2.D h fun x6 h=>?_;obtain⟨r7,h10,h⟩:=bS h;refine gC 46 (aH9 h10) ?_;exact lf h;exact lf h
theorem aMd(h:U7 a9 bM=some bP):AO Tryz.prog 130 [.nil,.d (D.i .i64 a9),.row 0] [(0,.row 117 5 (bM.map X2.D))] (.row 1) [rW 1 117 5 X2.D bP]:=
 aG1 (ρ:=⟨fun n=>if n=22 then 130 else if n=29 then 134 else 135,fun n=>if n=0 then 0 else if n=3 then 3 else if n=4 then 4 else if n=24 then 112 else 117,id⟩) (by_:=48) X2.D mixed rfl ⟨ "slices.Insert[[]proctor/api.Slot,proctor/api.Slot]",by decide,(Tryz.func130).trans (by kernel_rfl)⟩ Tryz.underlying3 Tryz.underlying4 Tryz.underlying112 (by kernel_rfl) (by decide) a9 bM bP h
theorem aPn(h:Ub bL=some bQ):AO Tryz.prog 119 [.box 0 0,.d (X2.D bL)] [(0,.cells ([.nil]))] (.d (D.b bQ.1)) [(0,.cells ([.row 1])),rW 1 117 5 X2.D bQ.2]:=by unfold Ub at h;refine XG.call (ks:=[0]) mixed fun us=>?_;apply g0 (o:=bQ);obtain⟨r1,h1,h⟩:=bS h;refine gC 14 (aI0 h1) ?_;refine iB 17 h (fun h=>?_) fun h=>?_;refine xX 23 X2.D h fun x2 h=>?_;exact lX h [.live [4],.keep [0,997],.nilc 0 0 1 117 5,.sort];refine gQ (AY X2.D [bL]) ?_;obtain⟨r3,h4,h⟩:=bS h;refine gG 35 (.cx true [(0,34)] [(1,35)] (.row 1) [rW 1 117 5 X2.D r3]) (aMd h4) ?_;exact lX h [.live [4],.keep [0,35,997],.ren 35 1,.sort]
theorem aL7(h:U0 a9 bM bP=some bR):AO Tryz.prog 130 [.row 0,.d (D.i .i64 a9),.row 1] [rW 0 117 5 X2.D bM,(1,.row 117 5 (bP.map X2.D))] (.row 2) [rW 2 117 5 X2.D bR]:=
 aG0 (ρ:=⟨fun n=>if n=22 then 130 else if n=29 then 134 else 135,fun n=>if n=0 then 0 else if n=3 then 3 else if n=4 then 4 else if n=24 then 112 else 117,id⟩) (by_:=48) X2.D mixed rfl ⟨ "slices.Insert[[]proctor/api.Slot,proctor/api.Slot]",by decide,(Tryz.func130).trans (by kernel_rfl)⟩ Tryz.underlying3 Tryz.underlying4 Tryz.underlying112 (by kernel_rfl) (by decide) (by decide)
  (fun args w=>run_callFunc_extern Tryz.func134 (by kernel_rfl) (by kernel_rfl) (by kernel_rfl) (e:=Go.Extern.SlicesOverlaps.overlaps #[112,112] #[4]) (by kernel_rfl) args w) a9 bM bP bR h
theorem OZ(h:Zq bL bM=some bQ):AO Tryz.prog 119 [.box 0 0,.d (X2.D bL)] [(0,.cells ([.row 1])),rW 1 117 5 X2.D bM] (.d (D.b bQ.1)) [(0,.cells ([.row 2])),rW 2 117 5 X2.D bQ.2]:=by unfold Zq at h;refine XG.call (ks:=[0]) mixed fun us=>?_;apply g0 (o:=bQ);obtain⟨r1,h1,h⟩:=bS h;refine gG 14 (.lend [1] (.tup [dI r1.1,.d (D.b r1.2)])) (aI0 h1) ?_;refine iB 17 h (fun h=>?_) fun h=>?_;obtain⟨h3,h⟩:=cS h;refine gQ h3.1<|gQ (DJ X2.D h3.2) ?_;obtain⟨x2,h4,h⟩:=xS h;refine gG 24 (.el (X2.D x2)) (Dh X2.D h4) ?_;exact lX h [.live [4],.keep [0,1,997],.ren 1 2,.sort];refine gQ (AY X2.D [bL]) ?_;obtain⟨r3,h5,h⟩:=bS h;refine gG 35 (.cx true [(0,1),(1,34)] [(2,35)] (.row 2) [rW 2 117 5 X2.D r3]) (aL7 h5) ?_;exact lX h [.live [4],.keep [0,35,997],.ren 35 2,.sort]
def TE(us:List Value)(s13:List BQ)(s14:Int)(w5:X3)(s15:Int)(w600 w601:List X2):St:=⟨sp 60 0 [(2,.box 0 0),(3,.box 1 0),bx 5,sD 13 (D.l BQ.D) s13,sI 14 s14,sI 15 s15],[(0,.cells ([.row 600])),(1,.cells ([.row 601])),cL 5 X3.D w5,rW 600 117 5 X2.D w600,rW 601 117 5 X2.D w601,(997,.vals [.box 0 0,.box 1 0] us)],[]⟩
def TF(us:List Value)(s13:List BQ)(s14:Int)(w5:X3)(o:(List X2×List X2)⊕(List X2×List X2)):Ex×St:=match o with
 | .inl o=>(.exit 0,⟨sp 60 0 [],[(0,.cells ([.row 600])),(1,.cells ([.row 601])),rW 600 117 5 X2.D o.1,rW 601 117 5 X2.D o.2,(997,.vals [.box 0 0,.box 1 0] us)],[]⟩)
 | .inr o=>(.ret,⟨sp 60 0 [sD 8 D.b false],[(0,.cells ([.row 600])),(1,.cells ([.row 601])),rW 600 117 5 X2.D o.1,rW 601 117 5 X2.D o.2,(997,.vals [.box 0 0,.box 1 0] us)],[]⟩)
theorem aAk(rd:Option Nat)(us:List Value)(h:TD bU a9 bJ aB bM bP=some bV):Lq 108 rd 26 (TE us bU a9 bJ aB bM bP) ((TF us bU a9 bJ) bV):=
 lL (fun s:Int×List X2×List X2=>TE us bU a9 bJ s.1 s.2.1 s.2.2) (TF us bU a9 bJ) (aB,bM,bP) (fun⟨aB,bM,bP⟩ o h=>by
 unfold Gn at h
 refine iB 16 h (fun h=>?_) fun h=>?_
 refine xX 18 BQ.D h fun x9 h=>?_
 refine xX 25 X0.D h fun x10 h=>?_
 refine iB 32 h (fun h=>?_) fun h=>?_
 refine iB 28 h (fun h=>?_) fun h=>?_
 exact lb h
 refine iB 43 h (fun h=>?_) fun h=>?_
 obtain⟨r11,h30,h⟩:=bS h
 refine gG 46 (.cx false [(0,0),(1,600)] [(2,46)] (.d (D.b r11.1)) [(0,.cells ([.row 2])),rW 2 117 5 X2.D r11.2]) (OZ h30) ?_
 refine iB 39 h (fun h=>?_) fun h=>?_
 exact lB h [.live [8],.keep [0,1,46,601,997],.ren 46 600,.sort]
 refine iB 53 h (fun h=>?_) fun h=>?_
 obtain⟨r12,h33,h⟩:=bS h
 refine gG 56 (.cx false [(0,1),(1,601)] [(2,56)] (.d (D.b r12.1)) [(0,.cells ([.row 2])),rW 2 117 5 X2.D r12.2]) (OZ h33) ?_
 refine iB 49 h (fun h=>?_) fun h=>?_
 exact lB h [.live [8],.keep [0,1,46,56,997],.ren 46 600,.ren 56 601,.sort]
 exact lB h [.live [2,3,5,13,14,15],.keep [0,1,5,46,56,997],.ren 46 600,.ren 56 601,.sort]
 exact lB h [.live [2,3,5,13,14,15],.keep [0,1,5,46,601,997],.ren 46 600,.sort]
 refine iB 53 h (fun h=>?_) fun h=>?_
 obtain⟨r13,h36,h⟩:=bS h
 refine gG 56 (.cx false [(0,1),(1,601)] [(2,56)] (.d (D.b r13.1)) [(0,.cells ([.row 2])),rW 2 117 5 X2.D r13.2]) (OZ h36) ?_
 refine iB 49 h (fun h=>?_) fun h=>?_
 exact lB h [.live [8],.keep [0,1,56,600,997],.ren 56 601,.sort]
 exact lB h [.live [2,3,5,13,14,15],.keep [0,1,5,56,600,997],.ren 56 601,.sort]
 exact lb h
 refine iB 43 h (fun h=>?_) fun h=>?_
 obtain⟨r14,h39,h⟩:=bS h
 refine gG 46 (.cx false [(0,0),(1,600)] [(2,46)] (.d (D.b r14.1)) [(0,.cells ([.row 2])),rW 2 117 5 X2.D r14.2]) (OZ h39) ?_
 refine iB 39 h (fun h=>?_) fun h=>?_
 exact lB h [.live [8],.keep [0,1,46,601,997],.ren 46 600,.sort]
 refine iB 53 h (fun h=>?_) fun h=>?_
 obtain⟨r15,h42,h⟩:=bS h
 refine gG 56 (.cx false [(0,1),(1,601)] [(2,56)] (.d (D.b r15.1)) [(0,.cells ([.row 2])),rW 2 117 5 X2.D r15.2]) (OZ h42) ?_
 refine iB 49 h (fun h=>?_) fun h=>?_
 exact lB h [.live [8],.keep [0,1,46,56,997],.ren 46 600,.ren 56 601,.sort]
 exact lB h [.live [2,3,5,13,14,15],.keep [0,1,5,46,56,997],.ren 46 600,.ren 56 601,.sort]
 exact lB h [.live [2,3,5,13,14,15],.keep [0,1,5,46,601,997],.ren 46 600,.sort]
 refine iB 53 h (fun h=>?_) fun h=>?_
 obtain⟨r16,h45,h⟩:=bS h
 refine gG 56 (.cx false [(0,1),(1,601)] [(2,56)] (.d (D.b r16.1)) [(0,.cells ([.row 2])),rW 2 117 5 X2.D r16.2]) (OZ h45) ?_
 refine iB 49 h (fun h=>?_) fun h=>?_
 exact lB h [.live [8],.keep [0,1,56,600,997],.ren 56 601,.sort]
 exact lB h [.live [2,3,5,13,14,15],.keep [0,1,5,56,600,997],.ren 56 601,.sort]
 exact lb h
 exact lb h) h
theorem aNv(h:Yv aT bJ=some bW):AO Tryz.prog 108 [.d (X8.D aT),.d (X3.D bJ),.box 0 0,.box 1 0] [(0,.cells ([.nil])),(1,.cells ([.nil]))] (.d (D.b bW.1)) [(0,.cells ([.row 2])),(1,.cells ([.row 3])),rW 2 117 5 X2.D bW.2.1,rW 3 117 5 X2.D bW.2.2]:=by
 unfold Yv at h;refine XG.call (ks:=[2,3]) mixed fun us=>?_;apply g0 (o:=bW);refine gN 14 BQ.D aT.args ?_;obtain⟨o17,h47,h⟩:=bS h;refine gL [.live [2,3,5,13,14,15],.keep [0,1,5,997],.nilc 0 0 600 117 5,.nilc 1 0 601 117 5,.sort] (aAk none us h47) ?_;replace h:=AM h;rcases h with⟨o18,rfl,h⟩|⟨o19,rfl,h⟩
 exact lX h [.live [8],.keep [0,1,600,601,997],.ren 600 2,.ren 601 3,.sort];exact lX h [.live [8],.keep [0,1,600,601,997],.ren 600 2,.ren 601 3,.sort]
theorem aLm(h:Qh a8 a9 bJ=some bX):AO Tryz.prog 95 [.d (AA.D a8),dI a9,.d (X3.D bJ)] [] (.tup [.d (AL.D bX.1),.d (D.b bX.2)]) []:=by unfold Qh at h;apply g0 (o:=bX);refine xX 14 X8.D h fun x1 h=>?_;refine xX 20 X7.D h fun x2 h=>?_;refine iB 25 h (fun h=>?_) fun h=>?_;exact lf h;obtain⟨r3,h4,h⟩:=bS h;refine gG 29 (.cx false [(0,9),(1,10)] [(2,29),(3,436)] (.d (D.b r3.1)) [(0,.cells ([.row 2])),(1,.cells ([.row 3])),rW 2 117 5 X2.D r3.2.1,rW 3 117 5 X2.D r3.2.2]) (aNv h4) ?_;refine iB 30 h (fun h=>?_) fun h=>?_;exact lf h;refine gW 34 (.fzn 29)<|gW 36 (.fzn 436) ?_;exact lf h
def ND(x:AL):List A:=[.d (AL.D x)]
def Sl{φ:Type}(l:Nat)(F:φ->Bx)(s1:AA)(s2:X3)(s14:Int)(f0:φ)(s15:Int):St:=⟨sp 33 0 [sD 0 .v (.func (.yield l) #[] #[]),eP 1 AA.D s1,eP 2 X3.D s2,sI 14 s14,sI 15 s15],[],(F f0)⟩
def Sm{φ:Type}(l:Nat)(F:φ->Bx)(s1:AA)(s2:X3)(s14:Int)(o:φ⊕φ):Ex×St:=match o with
 | .inl o=>(.exit 0,⟨sp 33 0 [],[],(F o)⟩)
 | .inr o=>(.ret,⟨sp 33 0 [],[],(F o)⟩)
theorem ZW(rd:Option Nat){φ:Type}(step:φ->AL->Option (φ×Bool))(l:Nat)(F:φ->Bx)(N:List Nat)(hF:∀f,FOk (F f) N)(hY:∀f x r,step f x=some r->Fw Tryz.prog l (ND x) (F f) (.d (D.b r.2)) (F r.1)){s1:AA}{s2:X3}{s14:Int}{f0:φ}{s15:Int}{t:φ⊕φ}(h:Sk step s1 s2 s14 f0 s15=some t):Lq 93 rd 14 (Sl l F s1 s2 s14 f0 s15) ((Sm l F s1 s2 s14) t):=
 lL (fun s:φ×Int=>Sl l F s1 s2 s14 s.1 s.2) (Sm l F s1 s2 s14) (f0,s15) (fun⟨f0,s15⟩ o h=>by
 unfold Gg at h
 refine iB 16 h (fun h=>?_) fun h=>?_
 obtain⟨r2,h4,h⟩:=bS h
 refine gC 22 (aLm h4) ?_
 refine iB 26 h (fun h=>?_) fun h=>?_
 replace h:=Hr h
 rcases h with⟨f3,h6,h⟩|⟨f4,h7,h⟩
 refine gG 29 (.own false (.d (D.b true)) [] (F f3)) (hY f0 r2.1 (f3,true) h6)<|gQ (Or.inr ⟨(hF _).nms.trans (hF _).nms.symm,(hF _).far⟩:F f3=F f0\/(AI (F f3)=AI (F f0)/\Far (F f3))) ?_
 exact lb h
 refine gG 29 (.own false (.d (D.b false)) [] (F f4)) (hY f0 r2.1 (f4,false) h7)<|gQ (Or.inr ⟨(hF _).nms.trans (hF _).nms.symm,(hF _).far⟩:F f4=F f0\/(AI (F f4)=AI (F f0)/\Far (F f4))) ?_
 exact lb h
 exact lb h
 exact lb h) h
theorem aNj{φ:Type}(step:φ->AL->Option (φ×Bool))(a1:AA)(a2:X3)(f0 f1:φ)(h:Yh step a1 a2 f0=some f1):AIt Tryz.prog 93 [.eptr (D.cells (AA.D a1)),.eptr (D.cells (X3.D a2))] ND step f0 f1:=by
 intro l F N hF hY;refine⟨.tup [],?_⟩;unfold Yh at h;apply g0 (o:=f1);obtain⟨r1,h1,h⟩:=bS h;refine gC 10 (aLk h1) ?_;refine iB 11 h (fun h=>?_) fun h=>?_;exact lI (hF _).far (fun _=>(hF _).cls) h [];refine gN 14 X8.D a1.symbols ?_;obtain⟨o5,h8,h⟩:=bS h;refine gl (ZW none step l F N hF hY h8) ?_;replace h:=AM h;rcases h with⟨o6,rfl,h⟩|⟨o7,rfl,h⟩
 exact lI (hF _).far (fun _=>(hF _).cls) h [];exact lI (hF _).far (fun _=>(hF _).cls) h []
def RT(uz:List Value)(s6_1:AA)(s6_2:X3)(s7:AL)(w600:List AL)(w998_1:AA)(w998_2:X3):St:=⟨sp 13 0 [bx 2,(6,.clo (.func 93) [] [.eptr (D.cells (AA.D s6_1)),.eptr (D.cells (X3.D s6_2))]),sD 7 AL.D s7],[(2,.cells ([.row 600])),(600,.row 137 3 (w600.map AL.D)),(998,.vals (sp 13 0 [bx 2,(6,.clo (.func 93) [] [.eptr (D.cells (AA.D w998_1)),.eptr (D.cells (X3.D w998_2))])]) uz)],[]⟩
def RU(uz:List Value)(s6_1:AA)(s6_2:X3)(s7:AL)(w600:List AL)(w998_1:AA)(w998_2:X3)(o:Unit):Ex×St:=(.normal,⟨sp 13 0 [bx 2,bx 5,(6,.clo (.func 93) [] [.eptr (D.cells (AA.D s6_1)),.eptr (D.cells (X3.D s6_2))])],[(2,.cells ([.row 600])),cL 5 AL.D s7,(600,.row 137 3 (w600.map AL.D)),(998,.vals (sp 13 0 [bx 2,(6,.clo (.func 93) [] [.eptr (D.cells (AA.D w998_1)),.eptr (D.cells (X3.D w998_2))])]) uz)],[]⟩)
theorem W0(rd:Option Nat)(uz:List Value)(h:Wz a8 bJ bY bZ bG c9=some cA):Lq 92 rd 52 (RT uz a8 bJ bY bZ bG c9) (RU uz a8 bJ bY bZ bG c9 cA):=by unfold Wz at h;apply g0 (o:=cA);exact lp h
def RV(uz:List Value)(s6_1:AA)(s6_2:X3)(w5:AL)(w600:List AL)(w998_1:AA)(w998_2:X3):St:=⟨sp 13 0 [bx 2,bx 5,(6,.clo (.func 93) [] [.eptr (D.cells (AA.D s6_1)),.eptr (D.cells (X3.D s6_2))])],[(2,.cells ([.row 600])),cL 5 AL.D w5,(600,.row 137 3 (w600.map AL.D)),(998,.vals (sp 13 0 [bx 2,(6,.clo (.func 93) [] [.eptr (D.cells (AA.D w998_1)),.eptr (D.cells (X3.D w998_2))])]) uz)],[]⟩
theorem W3(rd:Option Nat)(uz:List Value)(h:W2 a8 bJ bY bZ bG c9=some cA):Lq 92 rd 53 (RV uz a8 bJ bY bZ bG c9) (.normal,⟨sp 13 0 [],[(2,.cells ([.row 600])),(600,.row 137 3 ((bZ++[bY]).map AL.D)),(998,.vals (sp 13 0 [bx 2,(6,.clo (.func 93) [] [.eptr (D.cells (AA.D bG)),.eptr (D.cells (X3.D c9))])]) uz)],[]⟩):=by unfold W2 at h;apply g0 (o:=cA);refine gQ (AY AL.D [bY])<|gG 11 (.sl ((bZ++[bY]).map AL.D)) (AY AL.D [bY]) ?_;obtain⟨h3,h⟩:=cS h;refine gQ (Ab AL.D h3)<|gQ (AZ AL.D bZ [bY]) ?_;exact lP h [.live [],.keep [2,11,998],.ren 11 600,.sort]
def GR(s6_1:AA)(s6_2:X3):List A:=sp 13 0 [bx 2,(6,.clo (.func 93) [] [.eptr (D.cells (AA.D s6_1)),.eptr (D.cells (X3.D s6_2))])]
def EW(s6_1:AA)(s6_2:X3)(s:List AL):Bx:=[(2,.cells ([.row 600])),(600,.row 137 3 (s.map AL.D))]
def I2(s6_1:AA)(s6_2:X3)(t:Empty):Bx:=t.elim
def LS(t:Empty):Ex:=t.elim
def RW(s6_1:AA)(s6_2:X3)(o:(List AL)⊕(Empty)):Ex×St:=(rex LS o,⟨GR s6_1 s6_2,rbx (EW s6_1 s6_2) (I2 s6_1 s6_2) o,rbx (fun _=> []) (fun _=> []) o⟩)
theorem RX(s6_1:AA)(s6_2:X3)(s:List AL)(x:AL)(o:(List AL)⊕(Empty))(h:CZ s6_1 s6_2 s x=some o)(m:Nat)(uz:List Value):∃M E1,C6 Tryz.prog (some m) (Cg Tryz.prog 92) (0::[0,1,0,1]) ⟨FO (GR s6_1 s6_2) ((Array.toList #[7]).zip (ND x)),EW s6_1 s6_2 s++[(vn,.vals (GR s6_1 s6_2) uz)],(fun _=> []) s⟩ .normal M/\
 C6 Tryz.prog (some m) (Cg Tryz.prog 92) (1::[0,1,0,1]) M (rex LS o) ⟨E1,rbx (EW s6_1 s6_2) (I2 s6_1 s6_2) o++[(vn,.vals (GR s6_1 s6_2) uz)],rbx (fun _=> []) (fun _=> []) o⟩:=by
 unfold CZ at h
 obtain⟨o5,h5,h⟩:=bS h
 obtain⟨o6,h6,h⟩:=bS h
 obtain rfl:=si h
 exact⟨(RU uz s6_1 s6_2 x s s6_1 s6_2 o5).2,sp 13 0 [],Fd (w:=[.live [2,6,7],.keep [2,600,998]]) (s1:=RT uz s6_1 s6_2 x s s6_1 s6_2) (by kernel_rfl) (Dl (W0 (some m) uz h5) rfl (by kernel_rfl) rfl),Fd (w:=[.live [2,5,6],.keep [2,5,600,998]]) (s1:=RV uz s6_1 s6_2 x s s6_1 s6_2) (by kernel_rfl) (Dl (W3 (some m) uz h6) rfl (by kernel_rfl) (by kernel_rfl))⟩
theorem W5(s6_1:AA)(s6_2:X3)(s:List AL)(o:(List AL)⊕(Empty))(h:Yh (CP (CZ s6_1 s6_2)) s6_1 s6_2 (.inl s)=some o):C6 Tryz.prog none (Cg Tryz.prog 92) [0,1,0,1] ⟨GR s6_1 s6_2,EW s6_1 s6_2 s,(fun _=> []) s⟩ (RW s6_1 s6_2 o).1 (RW s6_1 s6_2 o).2:=
 N4 (p:=[0,1,0,1]) (g:=.tmp 6) (ps:= #[7]) (assign:=As (Cg Tryz.prog 92) (0::[0,1,0,1])) (body:=As (Cg Tryz.prog 92) (1::[0,1,0,1])) (by kernel_rfl) (EW s6_1 s6_2) (I2 s6_1 s6_2) (fun _=> []) (fun _=> []) LS ND (CZ s6_1 s6_2) (gf:=93) (cs:=[.eptr (D.cells (AA.D s6_1)),.eptr (D.cells (X3.D s6_2))]) (by kernel_rfl) (by kernel_rfl) (by kernel_rfl) (fun x=>⟨by kernel_rfl,by kernel_rfl⟩) (fun s us=>by kernel_rfl) (fun t us=>t.elim) (fun s=>rfl) (fun t=>t.elim) (by kernel_rfl) (fun t=>t.elim) (fun s=>FOk.nil) (fun t=>FOk.nil) (fun s x o h m us=>RX s6_1 s6_2 s x o h m us) (aNj (CP (CZ s6_1 s6_2)) s6_1 s6_2 (.inl s) o h)
theorem aMr(h:Xl a8 bJ=some bZ):AO Tryz.prog 92 [.nil,.clo (.func 93) [] [.eptr (D.cells (AA.D a8)),.eptr (D.cells (X3.D bJ))]] [] (.d ((D.l AL.D) bZ)) []:=by
 unfold Xl at h;apply g0 (o:=bZ);obtain⟨o7,h4,h⟩:=bS h;replace h:=AM h;rcases h with⟨o8,rfl,h⟩|⟨o9,rfl,h⟩
 refine gL [.live [2,6],.keep [2],.nilc 2 0 600 137 3,.frz 600,.sort] (W5 a8 bJ ([]:List AL) (Sum.inl o8) h4) ?_;exact lf h;cases h
theorem aL8(h:U1 a8 bJ=some bZ):AO Tryz.prog 81 [.clo (.func 93) [] [.eptr (D.cells (AA.D a8)),.eptr (D.cells (X3.D bJ))]] [] (.d ((D.l AL.D) bZ)) []:=by unfold U1 at h;apply g0 (o:=bZ);obtain⟨r1,h1,h⟩:=bS h;refine gG 4 (.cx true [] [] (.d ((D.l AL.D) r1)) []) (aMr h1) ?_;exact lf h
theorem aLo(h:Qi a8 bJ=some bZ):AO Tryz.prog 59 [.d (AA.D a8),.d (X3.D bJ)] [] (.d ((D.l AL.D) bZ)) []:=by unfold Qi at h;apply g0 (o:=bZ);obtain⟨r1,h1,h⟩:=bS h;refine gC 7 (aLq h1) ?_;obtain⟨r2,h2,h⟩:=bS h;refine gC 8 (aL8 h2) ?_;exact lf h
theorem aL9(h:U2 bM bP=some cB):AO Tryz.prog 91 [.d ((D.l X2.D) bM),.d ((D.l X2.D) bP)] [] (.clo (.func 102) [] [.eptr (D.cells ((D.l X2.D) cB.1)),.eptr (D.cells ((D.l X2.D) cB.2))]) []:=by unfold U2 at h;apply g0 (o:=cB);refine gW 2 .frz<|gW 3 .frz ?_;exact lf h
def TT(s1:Int)(s8:List X2)(s9:Int)(w4:X0)(s10:Int):St:=⟨sp 22 0 [sI 1 s1,bx 4,sD 8 (D.l X2.D) s8,sI 9 s9,sI 10 s10],[cL 4 X0.D w4],[]⟩
def TU(s1:Int)(s8:List X2)(s9:Int)(w4:X0)(o:Unit⊕X0):Ex×St:=match o with
 | .inl o=>(.exit 0,⟨sp 22 0 [bx 4],[cL 4 X0.D w4],[]⟩)
 | .inr o=>(.ret,⟨sp 22 0 [bx 4,sD 5 D.b true],[cL 4 X0.D o],[]⟩)
theorem aAr(rd:Option Nat)(h:aF2 a9 bM aB aJ aO=some cC):Lq 103 rd 26 (TT a9 bM aB aJ aO) ((TU a9 bM aB aJ) cC):=
 lL (fun s:Int=>TT a9 bM aB aJ s) (TU a9 bM aB aJ) aO (fun aO o h=>by
 unfold JF at h
 refine iB 11 h (fun h=>?_) fun h=>?_
 refine xX 12 X2.D h fun x1 h=>?_
 refine iB 17 h (fun h=>?_) fun h=>?_
 exact lb h
 exact lb h
 exact lb h) h
theorem aN3(h:Z3 bM a9=some cD):AO Tryz.prog 103 [.d ((D.l X2.D) bM),dI a9] [] (.tup [.d (X0.D cD.1),.d (D.b cD.2)]) []:=by
 unfold Z3 at h;apply g0 (o:=cD);refine gN 9 X2.D bM ?_;obtain⟨o2,h4,h⟩:=bS h;refine gl (aAr none h4) ?_;replace h:=AM h;rcases h with⟨o3,rfl,h⟩|⟨o4,rfl,h⟩
 exact lf h;exact lf h
def KE(x:(X2×X0)⊕X2):List A:=match x with
 | .inl x=> [.d (X2.D x.1),.eptr (D.cells (X0.D x.2))]
 | .inr x=> [.d (X2.D x),.d (.v (.pointer none))]
def aFc{φ:Type}(l:Nat)(F:φ->Bx)(f0:φ)(s2 s9:List X2)(s10 s11:Int):St:=⟨sp 29 0 [sD 0 .v (.func (.yield l) #[] #[]),eP 2 (D.l X2.D) s2,sD 9 (D.l X2.D) s9,sI 10 s10,sI 11 s11],[],(F f0)⟩
def aFd{φ:Type}(l:Nat)(F:φ->Bx)(f0:φ)(s2 s9:List X2)(s10 s11:Int)(o:φ⊕φ):Ex×St:=match o with
 | .inl o=>(.normal,⟨sp 29 0 [sD 0 .v (.func (.yield l) #[] #[]),eP 2 (D.l X2.D) s2,sD 9 (D.l X2.D) s9,sI 10 s10,sI 11 s11],[],(F o)⟩)
 | .inr o=>(.ret,⟨sp 29 0 [],[],(F o)⟩)
theorem YZ(rd:Option Nat){φ:Type}(step:φ->((X2×X0)⊕X2)->Option (φ×Bool))(l:Nat)(F:φ->Bx)(N:List Nat)(hF:∀f,FOk (F f) N)(hY:∀f x r,step f x=some r->Fw Tryz.prog l (KE x) (F f) (.d (D.b r.2)) (F r.1)){f0:φ}{s2 s9:List X2}{s10 s11:Int}{o:φ⊕φ}(h:YY step f0 s2 s9 s10 s11=some o):Lq 102 rd 102 (aFc l F f0 s2 s9 s10 s11) (aFd l F f0 s2 s9 s10 s11 o):=by
 unfold YY at h;apply g0 (o:=o);refine xX 13 X2.D h fun x1 h=>?_;obtain⟨r2,h3,h⟩:=bS h;refine gC 19 (aN3 h3) ?_;refine iB 22 h (fun h=>?_) fun h=>?_;refine gW 10007 .frz ?_;replace h:=Hr h;rcases h with⟨f3,h6,h⟩|⟨f4,h7,h⟩
 refine gG 26 (.own false (.d (D.b true)) [] (F f3)) (hY f0 (.inl (x1,r2.1)) (f3,true) h6)<|gQ (Or.inr ⟨(hF _).nms.trans (hF _).nms.symm,(hF _).far⟩:F f3=F f0\/(AI (F f3)=AI (F f0)/\Far (F f3))) ?_;exact lp h;refine gG 26 (.own false (.d (D.b false)) [] (F f4)) (hY f0 (.inl (x1,r2.1)) (f4,false) h7)<|gQ (Or.inr ⟨(hF _).nms.trans (hF _).nms.symm,(hF _).far⟩:F f4=F f0\/(AI (F f4)=AI (F f0)/\Far (F f4))) ?_;exact lp h;replace h:=Hr h;rcases h with⟨f5,h8,h⟩|⟨f6,h9,h⟩
 refine gG 26 (.own false (.d (D.b true)) [] (F f5)) (hY f0 (.inr x1) (f5,true) h8)<|gQ (Or.inr ⟨(hF _).nms.trans (hF _).nms.symm,(hF _).far⟩:F f5=F f0\/(AI (F f5)=AI (F f0)/\Far (F f5))) ?_;exact lp h;refine gG 26 (.own false (.d (D.b false)) [] (F f6)) (hY f0 (.inr x1) (f6,false) h9)<|gQ (Or.inr ⟨(hF _).nms.trans (hF _).nms.symm,(hF _).far⟩:F f6=F f0\/(AI (F f6)=AI (F f0)/\Far (F f6))) ?_;exact lp h
def SS{φ:Type}(l:Nat)(F:φ->Bx)(s2 s9:List X2)(s10:Int)(f0:φ)(s11:Int):St:=⟨sp 29 0 [sD 0 .v (.func (.yield l) #[] #[]),eP 2 (D.l X2.D) s2,sD 9 (D.l X2.D) s9,sI 10 s10,sI 11 s11],[],(F f0)⟩
def ST{φ:Type}(l:Nat)(F:φ->Bx)(s2 s9:List X2)(s10:Int)(o:φ⊕φ):Ex×St:=match o with
 | .inl o=>(.exit 0,⟨sp 29 0 [],[],(F o)⟩)
 | .inr o=>(.ret,⟨sp 29 0 [],[],(F o)⟩)
theorem ZA(rd:Option Nat){φ:Type}(step:φ->((X2×X0)⊕X2)->Option (φ×Bool))(l:Nat)(F:φ->Bx)(N:List Nat)(hF:∀f,FOk (F f) N)(hY:∀f x r,step f x=some r->Fw Tryz.prog l (KE x) (F f) (.d (D.b r.2)) (F r.1)){s2 s9:List X2}{s10:Int}{f0:φ}{s11:Int}{t:φ⊕φ}(h:aFe step s2 s9 s10 f0 s11=some t):Lq 102 rd 6 (SS l F s2 s9 s10 f0 s11) ((ST l F s2 s9 s10) t):=
 lL (fun s:φ×Int=>SS l F s2 s9 s10 s.1 s.2) (ST l F s2 s9 s10) (f0,s11) (fun⟨f0,s11⟩ o h=>by
 unfold Ga at h
 refine iB 12 h (fun h=>?_) fun h=>?_
 obtain⟨o7,h10,h⟩:=bS h
 refine gl (YZ rd step l F N hF hY h10) ?_
 replace h:=AM h
 rcases h with⟨o8,rfl,h⟩|⟨o9,rfl,h⟩
 exact lb h
 exact lb h
 exact lb h) h
theorem aNg{φ:Type}(step:φ->((X2×X0)⊕X2)->Option (φ×Bool))(a1 a2:List X2)(f0 f1:φ)(h:Y8 step a1 a2 f0=some f1):AIt Tryz.prog 102 [.eptr (D.cells ((D.l X2.D) a1)),.eptr (D.cells ((D.l X2.D) a2))] KE step f0 f1:=by
 intro l F N hF hY;refine⟨.tup [],?_⟩;unfold Y8 at h;apply g0 (o:=f1);refine gN 10 X2.D a1 ?_;obtain⟨o10,h11,h⟩:=bS h;refine gl (ZA none step l F N hF hY h11) ?_;replace h:=AM h;rcases h with⟨o11,rfl,h⟩|⟨o12,rfl,h⟩
 exact lI (hF _).far (fun _=>(hF _).cls) h [];exact lI (hF _).far (fun _=>(hF _).cls) h []
def LN(uz:List Value)(s9_1 s9_2:List X2)(s10:X2)(s11:X0)(w4:Bool)(w998_1 w998_2:List X2):St:=⟨sp 22 0 [bx 4,(9,.clo (.func 102) [] [.eptr (D.cells ((D.l X2.D) s9_1)),.eptr (D.cells ((D.l X2.D) s9_2))]),sD 10 X2.D s10,eP 11 X0.D s11],[(4,.cells ([.d (D.b w4)])),(998,.vals (sp 22 0 [bx 4,(9,.clo (.func 102) [] [.eptr (D.cells ((D.l X2.D) w998_1)),.eptr (D.cells ((D.l X2.D) w998_2))])]) uz)],[]⟩
def LO(uz:List Value)(s9_1 s9_2:List X2)(s10:X2)(s11:X0)(w4:Bool)(w998_1 w998_2:List X2)(o:Unit):Ex×St:=(.normal,⟨sp 22 0 [bx 4,bx 5,eP 6 X0.D s11,(9,.clo (.func 102) [] [.eptr (D.cells ((D.l X2.D) s9_1)),.eptr (D.cells ((D.l X2.D) s9_2))])],[(4,.cells ([.d (D.b w4)])),cL 5 X2.D s10,(998,.vals (sp 22 0 [bx 4,(9,.clo (.func 102) [] [.eptr (D.cells ((D.l X2.D) w998_1)),.eptr (D.cells ((D.l X2.D) w998_2))])]) uz)],[]⟩)
theorem Mq(rd:Option Nat)(uz:List Value)(h:WV bM bP bL aJ aE bR cE=some cA):Lq 80 rd 52 (LN uz bM bP bL aJ aE bR cE) (LO uz bM bP bL aJ aE bR cE cA):=by unfold WV at h;apply g0 (o:=cA);exact lp h
def QK(uz:List Value)(s9_1 s9_2:List X2)(s10:X2)(w4:Bool)(w998_1 w998_2:List X2):St:=⟨sp 22 0 [bx 4,(9,.clo (.func 102) [] [.eptr (D.cells ((D.l X2.D) s9_1)),.eptr (D.cells ((D.l X2.D) s9_2))]),sD 10 X2.D s10,sD 11 .v (.pointer none)],[(4,.cells ([.d (D.b w4)])),(998,.vals (sp 22 0 [bx 4,(9,.clo (.func 102) [] [.eptr (D.cells ((D.l X2.D) w998_1)),.eptr (D.cells ((D.l X2.D) w998_2))])]) uz)],[]⟩
def QL(uz:List Value)(s9_1 s9_2:List X2)(s10:X2)(w4:Bool)(w998_1 w998_2:List X2)(o:Unit):Ex×St:=(.normal,⟨sp 22 0 [bx 4,bx 5,sD 6 .v (.pointer none),(9,.clo (.func 102) [] [.eptr (D.cells ((D.l X2.D) s9_1)),.eptr (D.cells ((D.l X2.D) s9_2))])],[(4,.cells ([.d (D.b w4)])),cL 5 X2.D s10,(998,.vals (sp 22 0 [bx 4,(9,.clo (.func 102) [] [.eptr (D.cells ((D.l X2.D) w998_1)),.eptr (D.cells ((D.l X2.D) w998_2))])]) uz)],[]⟩)
theorem WX(rd:Option Nat)(uz:List Value)(h:WW bM bP bL aE bR cE=some cA):Lq 80 rd 52 (QK uz bM bP bL aE bR cE) (QL uz bM bP bL aE bR cE cA):=by unfold WW at h;apply g0 (o:=cA);exact lp h
def LP(uz:List Value)(s6:X0)(s9_1 s9_2:List X2)(w4:Bool)(w5:X2)(w998_1 w998_2:List X2):St:=⟨sp 22 0 [bx 4,bx 5,eP 6 X0.D s6,(9,.clo (.func 102) [] [.eptr (D.cells ((D.l X2.D) s9_1)),.eptr (D.cells ((D.l X2.D) s9_2))])],[(4,.cells ([.d (D.b w4)])),cL 5 X2.D w5,(998,.vals (sp 22 0 [bx 4,(9,.clo (.func 102) [] [.eptr (D.cells ((D.l X2.D) w998_1)),.eptr (D.cells ((D.l X2.D) w998_2))])]) uz)],[]⟩
theorem Mr(rd:Option Nat)(uz:List Value)(h:WY aJ bM bP aE bL bR cE=some aA):Lq 80 rd 53 (LP uz aJ bM bP aE bL bR cE) (match (generalizing:=false) aA with
 | .inl aA=>(.normal,⟨sp 22 0 [],[(4,.cells ([.d (D.b aE)])),(998,.vals (sp 22 0 [bx 4,(9,.clo (.func 102) [] [.eptr (D.cells ((D.l X2.D) bR)),.eptr (D.cells ((D.l X2.D) cE))])]) uz)],[]⟩)
 | .inr aA=>(.ret,⟨sp 22 0 [],[(4,.cells ([.d (D.b false)])),(998,.vals (sp 22 0 [bx 4,(9,.clo (.func 102) [] [.eptr (D.cells ((D.l X2.D) bR)),.eptr (D.cells ((D.l X2.D) cE))])]) uz)],[]⟩)):=by
 unfold WY at h
 apply g0 (o:=aA)
 refine iB 21 h (fun h=>?_) fun h=>?_
 exact lp h
 exact lp h
def QM(uz:List Value)(s9_1 s9_2:List X2)(w4:Bool)(w5:X2)(w998_1 w998_2:List X2):St:=⟨sp 22 0 [bx 4,bx 5,sD 6 .v (.pointer none),(9,.clo (.func 102) [] [.eptr (D.cells ((D.l X2.D) s9_1)),.eptr (D.cells ((D.l X2.D) s9_2))])],[(4,.cells ([.d (D.b w4)])),cL 5 X2.D w5,(998,.vals (sp 22 0 [bx 4,(9,.clo (.func 102) [] [.eptr (D.cells ((D.l X2.D) w998_1)),.eptr (D.cells ((D.l X2.D) w998_2))])]) uz)],[]⟩
theorem Wa(rd:Option Nat)(uz:List Value)(h:WZ bM bP aE bL bR cE=some cA):Lq 80 rd 53 (QM uz bM bP aE bL bR cE) (.ret,⟨sp 22 0 [],[(4,.cells ([.d (D.b false)])),(998,.vals (sp 22 0 [bx 4,(9,.clo (.func 102) [] [.eptr (D.cells ((D.l X2.D) bR)),.eptr (D.cells ((D.l X2.D) cE))])]) uz)],[]⟩):=by unfold WZ at h;apply g0 (o:=cA);exact lp h
def GJ(s9_1 s9_2:List X2):List A:=sp 22 0 [bx 4,(9,.clo (.func 102) [] [.eptr (D.cells ((D.l X2.D) s9_1)),.eptr (D.cells ((D.l X2.D) s9_2))])]
def EV(s9_1 s9_2:List X2)(s:Bool):Bx:=[(4,.cells ([.d (D.b s)]))]
def I0(s9_1 s9_2:List X2)(t:Bool):Bx:=[(4,.cells ([.d (D.b t)]))]
def LR(t:Bool):Ex:=.ret
def QN(s9_1 s9_2:List X2)(o:(Bool)⊕(Bool)):Ex×St:=(rex LR o,⟨GJ s9_1 s9_2,rbx (EV s9_1 s9_2) (I0 s9_1 s9_2) o,rbx (fun _=> []) (fun _=> []) o⟩)
theorem QO(s9_1 s9_2:List X2)(s:Bool)(x:(X2×X0)⊕X2)(o:(Bool)⊕(Bool))(h:CY s9_1 s9_2 s x=some o)(m:Nat)(uz:List Value):∃M E1,C6 Tryz.prog (some m) (Cg Tryz.prog 80) (0::[0,1,0,1]) ⟨FO (GJ s9_1 s9_2) ((Array.toList #[10,11]).zip (KE x)),EV s9_1 s9_2 s++[(vn,.vals (GJ s9_1 s9_2) uz)],(fun _=> []) s⟩ .normal M/\
 C6 Tryz.prog (some m) (Cg Tryz.prog 80) (1::[0,1,0,1]) M (rex LR o) ⟨E1,rbx (EV s9_1 s9_2) (I0 s9_1 s9_2) o++[(vn,.vals (GJ s9_1 s9_2) uz)],rbx (fun _=> []) (fun _=> []) o⟩:=by
 unfold CY at h
 replace h:=AM h
 rcases h with⟨z13,rfl,h⟩|⟨z14,rfl,h⟩
 ·
  obtain⟨o6,h5,h⟩:=bS h
  obtain⟨o7,h6,h⟩:=bS h
  replace h:=AM h
  rcases h with⟨o15,rfl,h⟩|⟨o16,rfl,h⟩
  ·
   obtain rfl:=si h
   exact⟨(LO uz s9_1 s9_2 z13.1 z13.2 s s9_1 s9_2 o6).2,sp 22 0 [],Fd (w:=[.live [4,9,10,11],.keep [4,998]]) (s1:=LN uz s9_1 s9_2 z13.1 z13.2 s s9_1 s9_2) (by kernel_rfl) (Dl (Mq (some m) uz h5) rfl (by kernel_rfl) rfl),Fd (w:=[.live [4,5,6,9],.keep [4,5,998]]) (s1:=LP uz z13.2 s9_1 s9_2 s z13.1 s9_1 s9_2) (by kernel_rfl) (Dl (Mr (some m) uz h6) rfl (by kernel_rfl) (by kernel_rfl))⟩
  ·
   obtain rfl:=si h
   exact⟨(LO uz s9_1 s9_2 z13.1 z13.2 s s9_1 s9_2 o6).2,sp 22 0 [],Fd (w:=[.live [4,9,10,11],.keep [4,998]]) (s1:=LN uz s9_1 s9_2 z13.1 z13.2 s s9_1 s9_2) (by kernel_rfl) (Dl (Mq (some m) uz h5) rfl (by kernel_rfl) rfl),Fd (w:=[.live [4,5,6,9],.keep [4,5,998]]) (s1:=LP uz z13.2 s9_1 s9_2 s z13.1 s9_1 s9_2) (by kernel_rfl) (Dl (Mr (some m) uz h6) rfl (by kernel_rfl) (by kernel_rfl))⟩
 ·
  obtain⟨o8,h7,h⟩:=bS h
  obtain⟨o9,h8,h⟩:=bS h
  obtain rfl:=si h
  exact⟨(QL uz s9_1 s9_2 z14 s s9_1 s9_2 o8).2,sp 22 0 [],Fd (w:=[.live [4,9,10,11],.keep [4,998]]) (s1:=QK uz s9_1 s9_2 z14 s s9_1 s9_2) (by kernel_rfl) (Dl (WX (some m) uz h7) rfl (by kernel_rfl) rfl),Fd (w:=[.live [4,5,6,9],.keep [4,5,998]]) (s1:=QM uz s9_1 s9_2 s z14 s9_1 s9_2) (by kernel_rfl) (Dl (Wa (some m) uz h8) rfl (by kernel_rfl) (by kernel_rfl))⟩
theorem Ms(s9_1 s9_2:List X2)(s:Bool)(o:(Bool)⊕(Bool))(h:Y8 (CP (CY s9_1 s9_2)) s9_1 s9_2 (.inl s)=some o):C6 Tryz.prog none (Cg Tryz.prog 80) [0,1,0,1] ⟨GJ s9_1 s9_2,EV s9_1 s9_2 s,(fun _=> []) s⟩ (QN s9_1 s9_2 o).1 (QN s9_1 s9_2 o).2:=
 N4 (p:=[0,1,0,1]) (g:=.tmp 9) (ps:= #[10,11]) (assign:=As (Cg Tryz.prog 80) (0::[0,1,0,1])) (body:=As (Cg Tryz.prog 80) (1::[0,1,0,1])) (by kernel_rfl) (EV s9_1 s9_2) (I0 s9_1 s9_2) (fun _=> []) (fun _=> []) LR KE (CY s9_1 s9_2) (gf:=102) (cs:=[.eptr (D.cells ((D.l X2.D) s9_1)),.eptr (D.cells ((D.l X2.D) s9_2))]) (by kernel_rfl) (by kernel_rfl) (by kernel_rfl) (fun x=>by rcases x with(_|_)<;>exact⟨by kernel_rfl,by kernel_rfl⟩) (fun s us=>by kernel_rfl) (fun t us=>by kernel_rfl) (fun s=>rfl) (fun t=>rfl) (by kernel_rfl) (fun t=>rfl) (fun s=>FOk.nil) (fun t=>FOk.nil) (fun s x o h m us=>QO s9_1 s9_2 s x o h m us) (aNg (CP (CY s9_1 s9_2)) s9_1 s9_2 (.inl s) o h)
theorem aMl(h:Xg bM bP=some aE):AO Tryz.prog 80 [.d ((D.l X2.D) bM),.d ((D.l X2.D) bP)] [] (.d (D.b aE)) []:=by
 unfold Xg at h;apply g0 (o:=aE);obtain⟨r1,h1,h⟩:=bS h;refine gC 9 (aL9 h1) ?_;obtain⟨o10,h4,h⟩:=bS h;replace h:=AM h;rcases h with⟨o11,rfl,h⟩|⟨o12,rfl,h⟩
 refine gL (lv [4,9] [4]) (Ms r1.1 r1.2 false (Sum.inl o11) h4) ?_;exact lf h;refine gL (lv [4,9] [4]) (Ms r1.1 r1.2 false (Sum.inr o12) h4) ?_;exact lf h
theorem aMa(h:U3 bY bM=some aE):AO Tryz.prog 79 [.d (AL.D bY),.eptr (D.cells ((D.l X2.D) bM))] [] (.d (D.b aE)) []:=by unfold U3 at h;apply g0 (o:=aE);obtain⟨r1,h1,h⟩:=bS h;refine gC 7 (aMl h1) ?_;exact lf h
theorem ZL(rd:Option Nat)(h:ZK bM bZ a9 aB aE cF cG bY=some cH):Lq 78 rd 3379 ⟨sp 28 0 [(1,.clo (.func 79) [] [.eptr (D.cells ((D.l X2.D) bM))]),rx 4,rx 5,bx 7,sD 8 (D.l AL.D) bZ,sI 9 a9,sI 10 aB,sD 16 D.b aE],[(4,.row 137 3 (cF.map AL.D)),(5,.row 137 3 (cG.map AL.D)),cL 7 AL.D bY],[]⟩ (.normal,⟨sp 28 0 [(1,.clo (.func 79) [] [.eptr (D.cells ((D.l X2.D) bM))]),rx 4,rx 5,sD 8 (D.l AL.D) bZ,sI 9 a9,sI 10 aB],[(4,.row 137 3 (cH.1.map AL.D)),(5,.row 137 3 (cH.2.map AL.D))],[]⟩):=by unfold ZK at h;apply g0 (o:=cH);cases aE;replace h:=Cy h;refine gQ (AY AL.D [bY])<|gG 24 (.sl ((cG++[bY]).map AL.D)) (AY AL.D [bY]) ?_;obtain⟨h14,h⟩:=cS h;refine gQ (Ab AL.D h14)<|gQ (AZ AL.D cG [bY]) ?_;exact lP h [.live [1,4,5,8,9,10],.keep [4,24],.ren 24 5,.sort];replace h:=Cz h;refine gQ (AY AL.D [bY])<|gG 20 (.sl ((cF++[bY]).map AL.D)) (AY AL.D [bY]) ?_;obtain⟨h13,h⟩:=cS h;refine gQ (Ab AL.D h13)<|gQ (AZ AL.D cF [bY]) ?_;exact lP h [.live [1,4,5,8,9,10],.keep [5,20],.ren 20 4,.sort]
theorem ZJ(rd:Option Nat)(h:ZI bM bZ a9 aB cF cG=some cH):Lq 78 rd 422 ⟨sp 28 0 [(1,.clo (.func 79) [] [.eptr (D.cells ((D.l X2.D) bM))]),rx 4,rx 5,sD 8 (D.l AL.D) bZ,sI 9 a9,sI 10 aB],[(4,.row 137 3 (cF.map AL.D)),(5,.row 137 3 (cG.map AL.D))],[]⟩ (.normal,⟨sp 28 0 [(1,.clo (.func 79) [] [.eptr (D.cells ((D.l X2.D) bM))]),rx 4,rx 5,sD 8 (D.l AL.D) bZ,sI 9 a9,sI 10 aB],[(4,.row 137 3 (cH.1.map AL.D)),(5,.row 137 3 (cH.2.map AL.D))],[]⟩):=by unfold ZI at h;apply g0 (o:=cH);refine xX 12 AL.D h fun x5 h=>?_;obtain⟨r6,h11,h⟩:=bS h;refine gC 16 (aMa h11) ?_;obtain⟨o7,h15,h⟩:=bS h;refine gl (ZL rd h15) ?_;exact lp h
def Sb(s1:List X2)(s8:List AL)(s9 s10:Int)(w4 w5:List AL):St:=⟨sp 28 0 [(1,.clo (.func 79) [] [.eptr (D.cells ((D.l X2.D) s1))]),rx 4,rx 5,sD 8 (D.l AL.D) s8,sI 9 s9,sI 10 s10],[(4,.row 137 3 (w4.map AL.D)),(5,.row 137 3 (w5.map AL.D))],[]⟩
def Sc(s1:List X2)(s8:List AL)(s9:Int)(o:(List AL×List AL)):Ex×St:=(.exit 0,⟨sp 28 0 [rx 4,rx 5],[(4,.row 137 3 (o.1.map AL.D)),(5,.row 137 3 (o.2.map AL.D))],[]⟩)
theorem ZM(rd:Option Nat)(h:aFj bM bZ a9 aB cF cG=some cH):Lq 78 rd 26 (Sb bM bZ a9 aB cF cG) ((Sc bM bZ a9) cH):=
 lL (fun s:Int×List AL×List AL=>Sb bM bZ a9 s.1 s.2.1 s.2.2) (Sc bM bZ a9) (aB,cF,cG) (fun⟨aB,cF,cG⟩ o h=>by
 unfold Gd at h
 refine iB 11 h (fun h=>?_) fun h=>?_
 obtain⟨o8,h16,h⟩:=bS h
 refine gl (ZJ rd h16) ?_
 exact lb h
 exact lb h) h
theorem aNi(h:Yc bZ bM=some cI):AO Tryz.prog 78 [.d ((D.l AL.D) bZ),.clo (.func 79) [] [.eptr (D.cells ((D.l X2.D) bM))]] [] (.tup [.d ((D.l AL.D) cI.1),.d ((D.l AL.D) cI.2)]) []:=by unfold Yc at h;apply g0 (o:=cI);refine gN 9 AL.D bZ ?_;obtain⟨o9,h17,h⟩:=bS h;refine gL [.live [1,4,5,8,9,10],.keep [],.nil 4 4 137 3,.nil 5 5 137 3,.sort] (ZM none h17) ?_;exact lf h
theorem aLe(h:Qb bZ bM=some cF):AO Tryz.prog 58 [.d ((D.l AL.D) bZ),.d ((D.l X2.D) bM)] [] (.d ((D.l AL.D) cF)) []:=by unfold Qb at h;apply g0 (o:=cF);refine gW 3 .frz ?_;obtain⟨r1,h1,h⟩:=bS h;refine gC 10 (aNi h1) ?_;exact lf h
def TI(s14:List AL)(s15 s7 s16:Int):St:=⟨sp 28 0 [sD 7 dU s7,sD 14 (D.l AL.D) s14,sI 15 s15,sI 16 s16],[],[]⟩
def TJ(s14:List AL)(s15 o:Int):Ex×St:=(.exit 0,⟨sp 28 0 [sD 7 dU o],[],[]⟩)
theorem aAm(rd:Option Nat)(h:aFx bZ a9 aB aO=some aS):Lq 38 rd 58 (TI bZ a9 aB aO) ((TJ bZ a9) aS):=
 lL (fun s:Int×Int=>TI bZ a9 s.1 s.2) (TJ bZ a9) (aB,aO) (fun⟨aB,aO⟩ o h=>by
 unfold Gq at h
 refine iB 17 h (fun h=>?_) fun h=>?_
 refine xX 18 AL.D h fun x3 h=>?_
 obtain⟨h5,h⟩:=cS h
 refine gQ h5 ?_
 exact lb h
 exact lb h) h
theorem aJp(h:Yx a8 bM bJ=some a9):AO Tryz.prog 38 [.d (AA.D a8),.d ((D.l X2.D) bM),.d (X3.D bJ)] [] (.d (dU a9)) []:=by unfold Yx at h;apply g0 (o:=a9);obtain⟨r1,h1,h⟩:=bS h;refine gC 12 (aLo h1) ?_;obtain⟨r2,h2,h⟩:=bS h;refine gC 14 (aLe h2)<|gN 15 AL.D r2 ?_;obtain⟨o4,h6,h⟩:=bS h;refine gl (aAm none h6) ?_;exact lf h
theorem aBb(rd:Option Nat)(us:List Value)(h:aBa aE bJ cJ cK cM=some cN):Lq 36 rd 31 ⟨sp 38 0 [(4,.box 0 0),(5,.box 1 0),bx 7,bx 8,sD 30 D.b aE],[(0,.cells ([.row 502])),(1,.cells ([.row 503])),cL 7 X3.D bJ,cL 8 X5.D cJ,(502,.map cK.clk (MP.dl X5.D X3.D cK)),rW 503 64 2 X5.D cM,(997,.vals [.box 0 0,.box 1 0] us)],[]⟩ (.normal,⟨sp 38 0 [],[(0,.cells ([.row 502])),(1,.cells ([.row 537])),(502,.map cN.1.clk (MP.dl X5.D X3.D cN.1)),rW 537 64 2 X5.D cN.2,(997,.vals [.box 0 0,.box 1 0] us)],[]⟩):=by unfold aBa at h;apply g0 (o:=cN);cases aE;replace h:=Cy h;exact lP h [.live [],.keep [0,1,502,503,997],.ren 503 537,.sort];replace h:=Cz h;refine gQ (MO B5 X3.D cK cJ bJ)<|gQ (AY X5.D [cJ])<|gG 37 (.rwl ((cM++[cJ]).map X5.D)) (AY X5.D [cJ])<|gW 10031 (.mp (Cs cK cJ bJ).clk (MP.dl X5.D X3.D (Cs cK cJ bJ))) ?_;obtain⟨h5,h⟩:=cS h;refine gQ (Ab X5.D h5)<|gQ (AZ X5.D cM [cJ]) ?_;exact lP h [.live [],.keep [0,1,37,502,997],.ren 37 537,.sort]
theorem aOv(h:Zv bH bC a8 bG cK cM=some cO):AO Tryz.prog 36 [.d ((D.l X0.D) bH),.eptr (D.cells (X7.D bC)),.eptr (D.cells (AA.D a8)),.eptr (D.cells (AA.D bG)),.box 0 0,.box 1 0] [(0,.cells ([.row 2])),(1,.cells ([.row 3])),(2,.map cK.clk (MP.dl X5.D X3.D cK)),rW 3 64 2 X5.D cM] (.tup []) [(0,.cells ([.row 4])),(1,.cells ([.row 5])),(4,.map cO.1.clk (MP.dl X5.D X3.D cO.1)),rW 5 64 2 X5.D cO.2]:=by unfold Zv at h;refine XG.call (ks:=[4,5]) mixed fun us=>?_;apply g0 (o:=cO);obtain⟨r1,h1,h⟩:=bS h;refine gC 14 (aMb h1) ?_;obtain⟨r2,h2,h⟩:=bS h;refine gC 18 (aJp h2) ?_;obtain⟨r3,h3,h⟩:=bS h;refine gC 21 (aJp h3)<|gG 26 (.mg (X3.D (BC (X3.mk ([]:List UInt8) ([]:List X0)) cK (X5.mk r2 r3)).1) (BC (X3.mk ([]:List UInt8) ([]:List X0)) cK (X5.mk r2 r3)).2) (HW B5 X3.D (X3.mk ([]:List UInt8) ([]:List X0)) cK (X5.mk r2 r3)) ?_;obtain⟨o4,h6,h⟩:=bS h;refine gL [.live [4,5,7,8,30],.keep [0,1,2,3,7,8,997],.ren 2 502,.ren 3 503,.sort] (aBb none us h6) ?_;exact lX h [.live [],.keep [0,1,502,537,997],.ren 502 4,.ren 537 5,.sort]
def Tb(s0:List X0)(s7:Int)(w3:X0)(s8:Int):St:=⟨sp 19 0 [sD 0 (D.l X0.D) s0,bx 3,sI 7 s7,sI 8 s8],[cL 3 X0.D w3],[]⟩
def Tc(s0:List X0)(s7:Int)(w3:X0)(o:Unit⊕Int):Ex×St:=match o with
 | .inl o=>(.exit 0,⟨sp 19 0 [],[],[]⟩)
 | .inr o=>(.ret,⟨sp 19 0 [sI 4 o],[],[]⟩)
theorem aAw(rd:Option Nat)(h:aAv bH a9 aJ aB=some aG):Lq 90 rd 26 (Tb bH a9 aJ aB) ((Tc bH a9 aJ) aG):=
 lL (fun s:Int=>Tb bH a9 aJ s) (Tc bH a9 aJ) aB (fun aB o h=>by
 unfold Gw at h
 refine iB 9 h (fun h=>?_) fun h=>?_
 refine xX 14 X0.D h fun x1 h=>?_
 refine iB 16 h (fun h=>?_) fun h=>?_
 exact lb h
 exact lb h
 exact lb h) h
theorem aN9(h:Z7 bH aJ=some a9):AO Tryz.prog 90 [.d ((D.l X0.D) bH),.d (X0.D aJ)] [] (dI a9) []:=by
 unfold Z7 at h;apply g0 (o:=a9);refine gN 7 X0.D bH ?_;obtain⟨o2,h4,h⟩:=bS h;refine gl (aAw none h4) ?_;replace h:=AM h;rcases h with⟨o3,rfl,h⟩|⟨o4,rfl,h⟩
 exact lf h;exact lf h
theorem aEo(h:Q8 bH aJ=some aE):AO Tryz.prog 77 [.d ((D.l X0.D) bH),.d (X0.D aJ)] [] (.d (D.b aE)) []:=by unfold Q8 at h;apply g0 (o:=aE);obtain⟨r1,h1,h⟩:=bS h;refine gC 7 (aN9 h1) ?_;exact lf h
theorem I3(rd:Option Nat)(us:List Value)(h:Hv a9 aB cP aO aS aE bH aT=some cQ):Lq 56 rd 3379 ⟨sp 53 0 [sI 1 a9,sI 2 aB,rx 3,bx 10,sD 12 (D.l X8.D) cP,sI 13 aO,sI 14 aS,sD 41 D.b aE],[rW 3 81 4 X0.D bH,cL 10 X8.D aT,(997,.vals [] us)],[]⟩ (.normal,⟨sp 53 0 [sI 1 a9,sI 2 aB,rx 3,sD 12 (D.l X8.D) cP,sI 13 aO,sI 14 aS],[rW 3 81 4 X0.D cQ,(997,.vals [] us)],[]⟩):=by unfold Hv at h;apply g0 (o:=cQ);cases aE;replace h:=Cy h;exact lp h;replace h:=Cz h;refine xX 46 BQ.D h fun x5 h=>?_;refine gQ (AY X0.D [x5.value])<|gG 50 (.rwl ((bH++[x5.value]).map X0.D)) (AY X0.D [x5.value]) ?_;obtain⟨h10,h⟩:=cS h;refine gQ (Ab X0.D h10)<|gQ (AZ X0.D bH [x5.value]) ?_;exact lP h [.live [1,2,3,12,13,14],.keep [50,997],.ren 50 3,.sort]
theorem XN(rd:Option Nat)(us:List Value)(h:OR a9 aB cP aO aS bH=some cQ):Lq 56 rd 422 ⟨sp 53 0 [sI 1 a9,sI 2 aB,rx 3,sD 12 (D.l X8.D) cP,sI 13 aO,sI 14 aS],[rW 3 81 4 X0.D bH,(997,.vals [] us)],[]⟩ (.normal,⟨sp 53 0 [sI 1 a9,sI 2 aB,rx 3,sD 12 (D.l X8.D) cP,sI 13 aO,sI 14 aS],[rW 3 81 4 X0.D cQ,(997,.vals [] us)],[]⟩):=by unfold OR at h;apply g0 (o:=cQ);refine xX 16 X8.D h fun x1 h=>?_;refine iB 22 h (fun h=>?_) fun h=>?_;refine xX 26 BQ.D h fun x2 h=>?_;refine iB 31 h (fun h=>?_) fun h=>?_;refine xX 36 BQ.D h fun x3 h=>?_;obtain⟨r4,h7,h⟩:=bS h;refine gG 39 (.lend [3] (.d (D.b r4))) (aEo h7) ?_;obtain⟨o6,h11,h⟩:=bS h;refine gl (I3 rd us h11) ?_;exact lp h;obtain⟨o7,h12,h⟩:=bS h;refine gl (I3 rd us h12) ?_;exact lp h;obtain⟨o8,h13,h⟩:=bS h;refine gl (I3 rd us h13) ?_;exact lp h
def Rt(us:List Value)(s1 s2:Int)(s12:List X8)(s13 s14:Int)(w3:List X0):St:=⟨sp 53 0 [sI 1 s1,sI 2 s2,rx 3,sD 12 (D.l X8.D) s12,sI 13 s13,sI 14 s14],[rW 3 81 4 X0.D w3,(997,.vals [] us)],[]⟩
def Ru(us:List Value)(s1 s2:Int)(s12:List X8)(s13:Int)(o:(List X0)):Ex×St:=(.exit 0,⟨sp 53 0 [rx 3],[rW 3 81 4 X0.D o,(997,.vals [] us)],[]⟩)
theorem XO(rd:Option Nat)(us:List Value)(h:Rs a9 aB cP aO aS bH=some cQ):Lq 56 rd 26 (Rt us a9 aB cP aO aS bH) ((Ru us a9 aB cP aO) cQ):=
 lL (fun s:Int×List X0=>Rt us a9 aB cP aO s.1 s.2) (Ru us a9 aB cP aO) (aS,bH) (fun⟨aS,bH⟩ o h=>by
 unfold Ev at h
 refine iB 15 h (fun h=>?_) fun h=>?_
 obtain⟨o9,h14,h⟩:=bS h
 refine gl (XN rd us h14) ?_
 exact lb h
 exact lb h) h
theorem aMx(h:Xs a8 a9 aB=some bH):AO Tryz.prog 56 [.d (AA.D a8),dI a9,dI aB,.nil] [] (.row 0) [rW 0 81 4 X0.D bH]:=by unfold Xs at h;refine XG.call (ks:=[]) mixed fun us=>?_;apply g0 (o:=bH);refine gN 13 X8.D a8.symbols ?_;obtain⟨o10,h15,h⟩:=bS h;refine gL [.live [1,2,3,12,13,14],.keep [997],.nilw 3 3 81 4,.sort] (XO none us h15) ?_;exact lX h [.live [8],.keep [3,997],.ren 3 0,.sort]
theorem JM(rd:Option Nat)(us:List Value)(h:Hv a9 aB cP aO aS aE bH aT=some cQ):Lq 56 rd 3379 ⟨sp 53 0 [sI 1 a9,sI 2 aB,rx 3,bx 10,sD 12 (D.l X8.D) cP,sI 13 aO,sI 14 aS,sD 41 D.b aE],[rW 3 81 4 X0.D bH,cL 10 X8.D aT,(997,.vals [] us)],[]⟩ (.normal,⟨sp 53 0 [sI 1 a9,sI 2 aB,rx 3,sD 12 (D.l X8.D) cP,sI 13 aO,sI 14 aS],[rW 3 81 4 X0.D cQ,(997,.vals [] us)],[]⟩):=by unfold Hv at h;apply g0 (o:=cQ);cases aE;replace h:=Cy h;exact lp h;replace h:=Cz h;refine xX 46 BQ.D h fun x5 h=>?_;refine gQ (AY X0.D [x5.value])<|gG 50 (.rwl ((bH++[x5.value]).map X0.D)) (AY X0.D [x5.value]) ?_;obtain⟨h10,h⟩:=cS h;refine gQ (Ab X0.D h10)<|gQ (AZ X0.D bH [x5.value]) ?_;exact lP h [.live [1,2,3,12,13,14],.keep [50,997],.ren 50 3,.sort]
theorem aA7(rd:Option Nat)(us:List Value)(h:OR a9 aB cP aO aS bH=some cQ):Lq 56 rd 422 ⟨sp 53 0 [sI 1 a9,sI 2 aB,rx 3,sD 12 (D.l X8.D) cP,sI 13 aO,sI 14 aS],[rW 3 81 4 X0.D bH,(997,.vals [] us)],[]⟩ (.normal,⟨sp 53 0 [sI 1 a9,sI 2 aB,rx 3,sD 12 (D.l X8.D) cP,sI 13 aO,sI 14 aS],[rW 3 81 4 X0.D cQ,(997,.vals [] us)],[]⟩):=by unfold OR at h;apply g0 (o:=cQ);refine xX 16 X8.D h fun x1 h=>?_;refine iB 22 h (fun h=>?_) fun h=>?_;refine xX 26 BQ.D h fun x2 h=>?_;refine iB 31 h (fun h=>?_) fun h=>?_;refine xX 36 BQ.D h fun x3 h=>?_;obtain⟨r4,h7,h⟩:=bS h;refine gG 39 (.lend [3] (.d (D.b r4))) (aEo h7) ?_;obtain⟨o6,h11,h⟩:=bS h;refine gl (JM rd us h11) ?_;exact lp h;obtain⟨o7,h12,h⟩:=bS h;refine gl (JM rd us h12) ?_;exact lp h;obtain⟨o8,h13,h⟩:=bS h;refine gl (JM rd us h13) ?_;exact lp h
def Tt(us:List Value)(s1 s2:Int)(s12:List X8)(s13 s14:Int)(w3:List X0):St:=⟨sp 53 0 [sI 1 s1,sI 2 s2,rx 3,sD 12 (D.l X8.D) s12,sI 13 s13,sI 14 s14],[rW 3 81 4 X0.D w3,(997,.vals [] us)],[]⟩
def Tu(us:List Value)(s1 s2:Int)(s12:List X8)(s13:Int)(o:(List X0)):Ex×St:=(.exit 0,⟨sp 53 0 [rx 3],[rW 3 81 4 X0.D o,(997,.vals [] us)],[]⟩)
theorem aA8(rd:Option Nat)(us:List Value)(h:Rs a9 aB cP aO aS bH=some cQ):Lq 56 rd 26 (Tt us a9 aB cP aO aS bH) ((Tu us a9 aB cP aO) cQ):=
 lL (fun s:Int×List X0=>Tt us a9 aB cP aO s.1 s.2) (Tu us a9 aB cP aO) (aS,bH) (fun⟨aS,bH⟩ o h=>by
 unfold Ev at h
 refine iB 15 h (fun h=>?_) fun h=>?_
 obtain⟨o9,h14,h⟩:=bS h
 refine gl (aA7 rd us h14) ?_
 exact lb h
 exact lb h) h
theorem aOi(h:Zj a8 a9 aB bH=some bI):AO Tryz.prog 56 [.d (AA.D a8),dI a9,dI aB,.row 0] [rW 0 81 4 X0.D bH] (.row 1) [rW 1 81 4 X0.D bI]:=by unfold Zj at h;refine XG.call (ks:=[]) mixed fun us=>?_;apply g0 (o:=bI);refine gN 13 X8.D a8.symbols ?_;obtain⟨o10,h15,h⟩:=bS h;refine gL [.live [1,2,3,12,13,14],.keep [0,997],.ren 0 3,.sort] (aA8 none us h15) ?_;exact lX h [.live [8],.keep [3,997],.ren 3 1,.sort]
theorem XS(rd:Option Nat)(h:XR a9 bH aE aJ aR=some cR):Lq 57 rd 965 ⟨sp 30 0 [sI 0 a9,sD 1 (D.l X0.D) bH,bx 4,bx 6,sD 20 D.b aE],[cL 4 X0.D aJ,cL 6 X0.D aR],[]⟩ (.normal,⟨sp 30 0 [sI 0 a9,sD 1 (D.l X0.D) bH,bx 4,bx 6],[cL 4 X0.D aJ,cL 6 X0.D cR],[]⟩):=by unfold XR at h;apply g0 (o:=cR);cases aE;replace h:=Cy h;refine gW 27 (.str (aR.str++([97]:List UInt8))) ?_;obtain⟨h6,h⟩:=cS h;refine gQ (J0 h6) ?_;exact lp h;replace h:=Cz h;exact lp h
theorem XQ(rd:Option Nat)(h:Ry a9 bH aJ aR=some cR):Lq 57 rd 241 ⟨sp 30 0 [sI 0 a9,sD 1 (D.l X0.D) bH,bx 4,bx 6],[cL 4 X0.D aJ,cL 6 X0.D aR],[]⟩ (.normal,⟨sp 30 0 [sI 0 a9,sD 1 (D.l X0.D) bH,bx 4,bx 6],[cL 4 X0.D aJ,cL 6 X0.D cR],[]⟩):=by unfold Ry at h;apply g0 (o:=cR);obtain⟨o2,h7,h⟩:=bS h;refine gl (XS rd h7) ?_;exact lp h
def Rz(s0:Int)(s1:List X0)(w4 w6:X0):St:=⟨sp 30 0 [sI 0 s0,sD 1 (D.l X0.D) s1,bx 4,bx 6],[cL 4 X0.D w4,cL 6 X0.D w6],[]⟩
def R0(s0:Int)(s1:List X0)(w4 o:X0):Ex×St:=(.exit 0,⟨sp 30 0 [bx 4,bx 6],[cL 4 X0.D w4,cL 6 X0.D o],[]⟩)
theorem M4(rd:Option Nat)(h:OS a9 bH aJ aR=some cR):Lq 57 rd 60 (Rz a9 bH aJ aR) ((R0 a9 bH aJ) cR):=
 lL (fun s:X0=>Rz a9 bH aJ s) (R0 a9 bH aJ) aR (fun aR o h=>by
 unfold GV at h
 obtain⟨r1,h3,h⟩:=bS h
 refine gQ (aEo h3) ?_
 cases r1
 replace h:=Cy h
 refine gW 18 (.ret (.d (D.b false))) ?_
 exact lb h
 replace h:=Cz h
 refine gW 18 (.ret (.d (D.b true))) ?_
 obtain⟨o3,h8,h⟩:=bS h
 refine gl (XQ rd h8) ?_
 exact lb h) h
theorem aM0(h:Xv a9 bH=some cD):AO Tryz.prog 57 [dI a9,.d ((D.l X0.D) bH)] [] (.tup [.d (X0.D cD.1),.d (D.b cD.2)]) []:=by unfold Xv at h;apply g0 (o:=cD);refine iB 9 h (fun h=>?_) fun h=>?_;refine iB 12 h (fun h=>?_) fun h=>?_;exact lf h;obtain⟨o4,h9,h⟩:=bS h;refine gl (M4 none h9) ?_;exact lf h;obtain⟨o5,h10,h⟩:=bS h;refine gl (M4 none h10) ?_;exact lf h
theorem aMc(h:U6 bH=some bI):AO Tryz.prog 37 [.d (D.l X0.D bH)] [] (.row 0) [rW 0 81 4 X0.D bI]:=
 Ou (ρ:=⟨fun _=>37,fun n=>if n=4 then 4 else if n=22 then 42 else 81,id⟩) (by_:=40) X0.D rfl rfl (aDs mixed ⟨ "slices.Clone[[]proctor/api.Value,proctor/api.Value]",by decide,(Tryz.func37).trans (by kernel_rfl)⟩ Tryz.underlying4 Tryz.underlying42 (by kernel_rfl) (by kernel_rfl) (by kernel_rfl) (by kernel_rfl)) (by kernel_rfl) (by decide) bH bI h
theorem W6(rd:Option Nat)(self:AA->AA->Int->(List X0)->X7->AA->AA->(MP X5 X3)->(List X5)->Option (MP X5 X3×List X5))(hs:∀(a0 a1:AA) (a2:Int) (a3:List X0) (a4_1:X7) (a4_2 a4_3:AA) (w2:MP X5 X3) (w3:List X5) (r:MP X5 X3×List X5),self a0 a1 a2 a3 a4_1 a4_2 a4_3 w2 w3=some r->AO Tryz.prog 35 [.d (AA.D a0),.d (AA.D a1),dI a2,.d ((D.l X0.D) a3),.clo (.func 36) [] [.eptr (D.cells (X7.D a4_1)),.eptr (D.cells (AA.D a4_2)),.eptr (D.cells (AA.D a4_3)),.box 0 0,.box 1 0]] [(0,.cells ([.row 2])),(1,.cells ([.row 3])),(2,.map w2.clk (MP.dl X5.D X3.D w2)),rW 3 64 2 X5.D w3] (.tup []) [(0,.cells ([.row 4])),(1,.cells ([.row 5])),(4,.map r.1.clk (MP.dl X5.D X3.D r.1)),rW 5 64 2 X5.D r.2])(us:List Value){s2:Int}{s3:List X0}{s4_1:X7}{s4_2 s4_3:AA}{s10:Int}{s51:Bool}{w5 w6:AA}{w12:List X0}{w502:MP X5 X3}{w503:List X5}{w997_1:X7}{w997_2 w997_3:AA}{o:(List X0)}(h:RY self s2 s3 s4_1 s4_2 s4_3 s10 s51 w5 w6 w12 w502 w503 w997_1 w997_2 w997_3=some o):Lq 35 rd 253 ⟨sp 83 0 [sI 2 s2,sD 3 (D.l X0.D) s3,(4,.clo (.func 36) [] [.eptr (D.cells (X7.D s4_1)),.eptr (D.cells (AA.D s4_2)),.eptr (D.cells (AA.D s4_3)),.box 0 0,.box 1 0]),bx 5,bx 6,sI 10 s10,rx 12,sD 51 D.b s51],[(0,.cells ([.row 502])),(1,.cells ([.row 503])),cL 5 AA.D w5,cL 6 AA.D w6,rW 12 81 4 X0.D w12,(502,.map w502.clk (MP.dl X5.D X3.D w502)),rW 503 64 2 X5.D w503,(997,.vals [.clo (.func 36) [] [.eptr (D.cells (X7.D w997_1)),.eptr (D.cells (AA.D w997_2)),.eptr (D.cells (AA.D w997_3)),.box 0 0,.box 1 0]] us)],[]⟩ (.normal,⟨sp 83 0 [sI 2 s2,sD 3 (D.l X0.D) s3,(4,.clo (.func 36) [] [.eptr (D.cells (X7.D s4_1)),.eptr (D.cells (AA.D s4_2)),.eptr (D.cells (AA.D s4_3)),.box 0 0,.box 1 0]),bx 5,bx 6,sI 10 s10,rx 12],[(0,.cells ([.row 502])),(1,.cells ([.row 503])),cL 5 AA.D w5,cL 6 AA.D w6,rW 12 81 4 X0.D o,(502,.map w502.clk (MP.dl X5.D X3.D w502)),rW 503 64 2 X5.D w503,(997,.vals [.clo (.func 36) [] [.eptr (D.cells (X7.D w997_1)),.eptr (D.cells (AA.D w997_2)),.eptr (D.cells (AA.D w997_3)),.box 0 0,.box 1 0]] us)],[]⟩):=by unfold RY at h;apply g0 (o:=o);cases s51;replace h:=Cy h;exact lp h;replace h:=Cz h;refine gG 54 .frz (AY X0.D ([X0.mk 3 0 ([]:List UInt8) false,X0.mk 3 0 ([]:List UInt8) true])) ?_;exact lP h [.live [2,3,4,5,6,10,12],.keep [0,1,5,6,54,502,503,997],.ren 54 12,.sort]
theorem W7(rd:Option Nat)(self:AA->AA->Int->(List X0)->X7->AA->AA->(MP X5 X3)->(List X5)->Option (MP X5 X3×List X5))(hs:∀(a0 a1:AA) (a2:Int) (a3:List X0) (a4_1:X7) (a4_2 a4_3:AA) (w2:MP X5 X3) (w3:List X5) (r:MP X5 X3×List X5),self a0 a1 a2 a3 a4_1 a4_2 a4_3 w2 w3=some r->AO Tryz.prog 35 [.d (AA.D a0),.d (AA.D a1),dI a2,.d ((D.l X0.D) a3),.clo (.func 36) [] [.eptr (D.cells (X7.D a4_1)),.eptr (D.cells (AA.D a4_2)),.eptr (D.cells (AA.D a4_3)),.box 0 0,.box 1 0]] [(0,.cells ([.row 2])),(1,.cells ([.row 3])),(2,.map w2.clk (MP.dl X5.D X3.D w2)),rW 3 64 2 X5.D w3] (.tup []) [(0,.cells ([.row 4])),(1,.cells ([.row 5])),(4,.map r.1.clk (MP.dl X5.D X3.D r.1)),rW 5 64 2 X5.D r.2])(us:List Value){s2:Int}{s3:List X0}{s4_1:X7}{s4_2 s4_3:AA}{s61:Bool}{w5 w6:AA}{w12:List X0}{w13:X0}{w502:MP X5 X3}{w503:List X5}{w997_1:X7}{w997_2 w997_3:AA}{o:(List X0)}(h:RZ self s2 s3 s4_1 s4_2 s4_3 s61 w5 w6 w12 w13 w502 w503 w997_1 w997_2 w997_3=some o):Lq 35 rd 1019 ⟨sp 83 0 [sI 2 s2,sD 3 (D.l X0.D) s3,(4,.clo (.func 36) [] [.eptr (D.cells (X7.D s4_1)),.eptr (D.cells (AA.D s4_2)),.eptr (D.cells (AA.D s4_3)),.box 0 0,.box 1 0]),bx 5,bx 6,rx 12,bx 13,sD 61 D.b s61],[(0,.cells ([.row 502])),(1,.cells ([.row 503])),cL 5 AA.D w5,cL 6 AA.D w6,rW 12 81 4 X0.D w12,cL 13 X0.D w13,(502,.map w502.clk (MP.dl X5.D X3.D w502)),rW 503 64 2 X5.D w503,(997,.vals [.clo (.func 36) [] [.eptr (D.cells (X7.D w997_1)),.eptr (D.cells (AA.D w997_2)),.eptr (D.cells (AA.D w997_3)),.box 0 0,.box 1 0]] us)],[]⟩ (.normal,⟨sp 83 0 [sI 2 s2,sD 3 (D.l X0.D) s3,(4,.clo (.func 36) [] [.eptr (D.cells (X7.D s4_1)),.eptr (D.cells (AA.D s4_2)),.eptr (D.cells (AA.D s4_3)),.box 0 0,.box 1 0]),bx 5,bx 6,rx 12],[(0,.cells ([.row 502])),(1,.cells ([.row 503])),cL 5 AA.D w5,cL 6 AA.D w6,rW 12 81 4 X0.D o,(502,.map w502.clk (MP.dl X5.D X3.D w502)),rW 503 64 2 X5.D w503,(997,.vals [.clo (.func 36) [] [.eptr (D.cells (X7.D w997_1)),.eptr (D.cells (AA.D w997_2)),.eptr (D.cells (AA.D w997_3)),.box 0 0,.box 1 0]] us)],[]⟩):=by unfold RZ at h;apply g0 (o:=o);cases s61;replace h:=Cy h;exact lp h;replace h:=Cz h;refine gQ (AY X0.D [w13])<|gG 65 (.rwl ((w12++[w13]).map X0.D)) (AY X0.D [w13]) ?_;obtain⟨h12,h⟩:=cS h;refine gQ (Ab X0.D h12)<|gQ (AZ X0.D w12 [w13]) ?_;exact lP h [.live [2,3,4,5,6,12],.keep [0,1,5,6,65,502,503,997],.ren 65 12,.sort]
def Ra(us:List Value)(s2:Int)(s3:List X0)(s4_1:X7)(s4_2 s4_3:AA)(s67:Int)(w5 w6:AA)(w66:List X0)(w997_1:X7)(w997_2 w997_3:AA)(s68:Int)(w502:MP X5 X3)(w503:List X5):St:=⟨sp 83 0 [sI 2 s2,sD 3 (D.l X0.D) s3,(4,.clo (.func 36) [] [.eptr (D.cells (X7.D s4_1)),.eptr (D.cells (AA.D s4_2)),.eptr (D.cells (AA.D s4_3)),.box 0 0,.box 1 0]),bx 5,bx 6,rx 66,sI 67 s67,sI 68 s68],[(0,.cells ([.row 502])),(1,.cells ([.row 503])),cL 5 AA.D w5,cL 6 AA.D w6,rW 66 81 4 X0.D w66,(502,.map w502.clk (MP.dl X5.D X3.D w502)),rW 503 64 2 X5.D w503,(997,.vals [.clo (.func 36) [] [.eptr (D.cells (X7.D w997_1)),.eptr (D.cells (AA.D w997_2)),.eptr (D.cells (AA.D w997_3)),.box 0 0,.box 1 0]] us)],[]⟩
def Rb(us:List Value)(s2:Int)(s3:List X0)(s4_1:X7)(s4_2 s4_3:AA)(s67:Int)(w5 w6:AA)(w66:List X0)(w997_1:X7)(w997_2 w997_3:AA)(o:(MP X5 X3×List X5)):Ex×St:=(.exit 0,⟨sp 83 0 [],[(0,.cells ([.row 502])),(1,.cells ([.row 503])),(502,.map o.1.clk (MP.dl X5.D X3.D o.1)),rW 503 64 2 X5.D o.2,(997,.vals [.clo (.func 36) [] [.eptr (D.cells (X7.D w997_1)),.eptr (D.cells (AA.D w997_2)),.eptr (D.cells (AA.D w997_3)),.box 0 0,.box 1 0]] us)],[]⟩)
theorem W9(rd:Option Nat)(self:AA->AA->Int->(List X0)->X7->AA->AA->(MP X5 X3)->(List X5)->Option (MP X5 X3×List X5))(hs:∀(a0 a1:AA) (a2:Int) (a3:List X0) (a4_1:X7) (a4_2 a4_3:AA) (w2:MP X5 X3) (w3:List X5) (r:MP X5 X3×List X5),self a0 a1 a2 a3 a4_1 a4_2 a4_3 w2 w3=some r->AO Tryz.prog 35 [.d (AA.D a0),.d (AA.D a1),dI a2,.d ((D.l X0.D) a3),.clo (.func 36) [] [.eptr (D.cells (X7.D a4_1)),.eptr (D.cells (AA.D a4_2)),.eptr (D.cells (AA.D a4_3)),.box 0 0,.box 1 0]] [(0,.cells ([.row 2])),(1,.cells ([.row 3])),(2,.map w2.clk (MP.dl X5.D X3.D w2)),rW 3 64 2 X5.D w3] (.tup []) [(0,.cells ([.row 4])),(1,.cells ([.row 5])),(4,.map r.1.clk (MP.dl X5.D X3.D r.1)),rW 5 64 2 X5.D r.2])(us:List Value){s2:Int}{s3:List X0}{s4_1:X7}{s4_2 s4_3:AA}{s67:Int}{w5 w6:AA}{w66:List X0}{w997_1:X7}{w997_2 w997_3:AA}{s68:Int}{w502:MP X5 X3}{w503:List X5}{t:(MP X5 X3×List X5)}(h:W8 self s2 s3 s4_1 s4_2 s4_3 s67 w5 w6 w66 w997_1 w997_2 w997_3 s68 w502 w503=some t):Lq 35 rd 1022 (Ra us s2 s3 s4_1 s4_2 s4_3 s67 w5 w6 w66 w997_1 w997_2 w997_3 s68 w502 w503) ((Rb us s2 s3 s4_1 s4_2 s4_3 s67 w5 w6 w66 w997_1 w997_2 w997_3) t):=
 lL (fun s:Int×MP X5 X3×List X5=>Ra us s2 s3 s4_1 s4_2 s4_3 s67 w5 w6 w66 w997_1 w997_2 w997_3 s.1 s.2.1 s.2.2) (Rb us s2 s3 s4_1 s4_2 s4_3 s67 w5 w6 w66 w997_1 w997_2 w997_3) (s68,w502,w503) (fun⟨s68,w502,w503⟩ o h=>by
 unfold GS at h
 refine iB 69 h (fun h=>?_) fun h=>?_
 obtain⟨h15,h⟩:=cS h
 refine gQ h15.1<|gQ (DJ X0.D h15.2) ?_
 obtain⟨x10,h16,h⟩:=xS h
 refine gG 71 (.el (X0.D x10)) (Dh X0.D h16) ?_
 obtain⟨r11,h17,h⟩:=bS h
 refine gG 76 (.cx true [] [(0,76)] (.row 0) [rW 0 81 4 X0.D r11]) (aMc h17)<|gQ (AY X0.D [x10])<|gG 79 (.rwz ((r11++[x10]).map X0.D)) (AY X0.D [x10]) ?_
 obtain⟨h18,h⟩:=cS h
 refine gQ (Ab X0.D h18)<|gQ (AZ X0.D r11 [x10]) ?_
 obtain⟨r12,h19,h⟩:=bS h
 refine gG 81 (.cx false [(0,0),(1,1),(2,502),(3,503)] [(4,81),(5,488)] (.tup []) [(0,.cells ([.row 4])),(1,.cells ([.row 5])),(4,.map r12.1.clk (MP.dl X5.D X3.D r12.1)),rW 5 64 2 X5.D r12.2]) (hs w5 w6 s2 (r11++[x10]) s4_1 s4_2 s4_3 w502 w503 r12 h19) ?_
 exact lB h [.live [2,3,4,5,6,66,67,68],.keep [0,1,5,6,66,81,488,997],.ren 81 502,.ren 488 503,.sort]
 exact lb h) h
theorem aE6(self:AA->AA->Int->(List X0)->X7->AA->AA->(MP X5 X3)->(List X5)->Option (MP X5 X3×List X5))(hs:∀(a0 a1:AA) (a2:Int) (a3:List X0) (a4_1:X7) (a4_2 a4_3:AA) (w2:MP X5 X3) (w3:List X5) (r:MP X5 X3×List X5),self a0 a1 a2 a3 a4_1 a4_2 a4_3 w2 w3=some r->AO Tryz.prog 35 [.d (AA.D a0),.d (AA.D a1),dI a2,.d ((D.l X0.D) a3),.clo (.func 36) [] [.eptr (D.cells (X7.D a4_1)),.eptr (D.cells (AA.D a4_2)),.eptr (D.cells (AA.D a4_3)),.box 0 0,.box 1 0]] [(0,.cells ([.row 2])),(1,.cells ([.row 3])),(2,.map w2.clk (MP.dl X5.D X3.D w2)),rW 3 64 2 X5.D w3] (.tup []) [(0,.cells ([.row 4])),(1,.cells ([.row 5])),(4,.map r.1.clk (MP.dl X5.D X3.D r.1)),rW 5 64 2 X5.D r.2])(a0 a1:AA)(a2:Int)(a3:List X0)(a4_1:X7)(a4_2 a4_3:AA)(w2:MP X5 X3)(w3:List X5)(r:MP X5 X3×List X5)(h:aIq self a0 a1 a2 a3 a4_1 a4_2 a4_3 w2 w3=some r):AO Tryz.prog 35 [.d (AA.D a0),.d (AA.D a1),dI a2,.d ((D.l X0.D) a3),.clo (.func 36) [] [.eptr (D.cells (X7.D a4_1)),.eptr (D.cells (AA.D a4_2)),.eptr (D.cells (AA.D a4_3)),.box 0 0,.box 1 0]] [(0,.cells ([.row 2])),(1,.cells ([.row 3])),(2,.map w2.clk (MP.dl X5.D X3.D w2)),rW 3 64 2 X5.D w3] (.tup []) [(0,.cells ([.row 4])),(1,.cells ([.row 5])),(4,.map r.1.clk (MP.dl X5.D X3.D r.1)),rW 5 64 2 X5.D r.2]:=by unfold aIq at h;refine XG.call (ks:=[4]) mixed fun us=>?_;apply g0 (o:=r);refine gN 18 X0.D a3<|xX 22 X7.D h fun x1 h=>?_;refine gN 25 dZ x1.types ?_;refine iB 26 h (fun h=>?_) fun h=>?_;obtain⟨r2,h3,h⟩:=bS h;refine gG 29 (.cx false [(0,0),(1,1),(2,2),(3,3)] [(4,29),(5,436)] (.tup []) [(0,.cells ([.row 4])),(1,.cells ([.row 5])),(4,.map r2.1.clk (MP.dl X5.D X3.D r2.1)),rW 5 64 2 X5.D r2.2]) (aOv h3) ?_;exact lX h [.live [],.keep [0,1,29,436,997],.ren 29 4,.ren 436 5,.sort];refine gW 37 (.int (a3.length:Int))<|gW 41 (.int (a3.length:Int))<|xX 33 X7.D h fun x3 h=>?_;refine gQ (FI X0.D a3)<|xX 38 dZ h fun x4 h=>?_;refine gQ (FI X0.D a3) ?_;obtain⟨r5,h6,h⟩:=bS h;refine gG 48 (.cx true [] [(0,48)] (.row 0) [rW 0 81 4 X0.D r5]) (aMx h6) ?_;obtain⟨r6,h7,h⟩:=bS h;refine gG 49 (.cx false [(0,48)] [(1,49)] (.row 1) [rW 1 81 4 X0.D r6]) (aOi h7) ?_;obtain⟨o7,h9,h⟩:=bS h;refine gL [.live [2,3,4,5,6,10,12,51],.keep [0,1,2,3,5,6,49,997],.ren 2 502,.ren 3 503,.ren 49 12,.sort] (W6 none self hs us h9) ?_;obtain⟨r8,h10,h⟩:=bS h;refine gG 58 (.lend [12] (.tup [.d (X0.D r8.1),.d (D.b r8.2)])) (aM0 h10) ?_;obtain⟨o9,h13,h⟩:=bS h;refine gl (W7 none self hs us h13)<|gN 67 X0.D o9 ?_;obtain⟨o13,h20,h⟩:=bS h;refine gL [.live [2,3,4,5,6,66,67,68],.keep [0,1,5,6,12,502,503,997],.ren 12 66,.sort] (W9 none self hs us h20) ?_;exact lX h [.live [],.keep [0,1,502,503,997],.ren 502 4,.ren 503 5,.sort]
theorem Rd:∀(n:Nat) (a0 a1:AA) (a2:Int) (a3:List X0) (a4_1:X7) (a4_2 a4_3:AA) (w2:MP X5 X3) (w3:List X5) (r:MP X5 X3×List X5),PG n a0 a1 a2 a3 a4_1 a4_2 a4_3 w2 w3=some r->AO Tryz.prog 35 [.d (AA.D a0),.d (AA.D a1),dI a2,.d ((D.l X0.D) a3),.clo (.func 36) [] [.eptr (D.cells (X7.D a4_1)),.eptr (D.cells (AA.D a4_2)),.eptr (D.cells (AA.D a4_3)),.box 0 0,.box 1 0]] [(0,.cells ([.row 2])),(1,.cells ([.row 3])),(2,.map w2.clk (MP.dl X5.D X3.D w2)),rW 3 64 2 X5.D w3] (.tup []) [(0,.cells ([.row 4])),(1,.cells ([.row 5])),(4,.map r.1.clk (MP.dl X5.D X3.D r.1)),rW 5 64 2 X5.D r.2]
 |0,a0,a1,a2,a3,a4_1,a4_2,a4_3,w2,w3,r,h=>by simp[PG]at h
 |n+1,a0,a1,a2,a3,a4_1,a4_2,a4_3,w2,w3,r,h=>aE6 _ (Rd n) a0 a1 a2 a3 a4_1 a4_2 a4_3 w2 w3 r h
theorem aMs(h:Xm a8 bG a9 bH bC cT cU cK cM=some cO):AO Tryz.prog 35 [.d (AA.D a8),.d (AA.D bG),dI a9,.d ((D.l X0.D) bH),.clo (.func 36) [] [.eptr (D.cells (X7.D bC)),.eptr (D.cells (AA.D cT)),.eptr (D.cells (AA.D cU)),.box 0 0,.box 1 0]] [(0,.cells ([.row 2])),(1,.cells ([.row 3])),(2,.map cK.clk (MP.dl X5.D X3.D cK)),rW 3 64 2 X5.D cM] (.tup []) [(0,.cells ([.row 4])),(1,.cells ([.row 5])),(4,.map cO.1.clk (MP.dl X5.D X3.D cO.1)),rW 5 64 2 X5.D cO.2]:=Rd 100000 a8 bG a9 bH bC cT cU cK cM cO h
def SQ(us:List Value)(s2 s3:AA)(s10:List X7)(s11 s12:Int)(w508:MP X5 X3)(w750:List X5):St:=⟨sp 25 0 [eP 2 AA.D s2,eP 3 AA.D s3,bx 4,bx 5,sD 10 (D.l X7.D) s10,sI 11 s11,sI 12 s12],[(4,.cells ([.row 750])),(5,.cells ([.row 508])),(508,.map w508.clk (MP.dl X5.D X3.D w508)),rW 750 64 2 X5.D w750,(997,.vals [] us)],[]⟩
def SR(us:List Value)(s2 s3:AA)(s10:List X7)(s11:Int)(o:(MP X5 X3×List X5)):Ex×St:=(.exit 0,⟨sp 25 0 [bx 4,bx 5],[(4,.cells ([.row 750])),(5,.cells ([.row 508])),(508,.map o.1.clk (MP.dl X5.D X3.D o.1)),rW 750 64 2 X5.D o.2,(997,.vals [] us)],[]⟩)
theorem YX(rd:Option Nat)(us:List Value)(h:SP a8 bG aF a9 aB cK cM=some cN):Lq 16 rd 58 (SQ us a8 bG aF a9 aB cK cM) ((SR us a8 bG aF a9) cN):=
 lL (fun s:Int×MP X5 X3×List X5=>SQ us a8 bG aF a9 s.1 s.2.1 s.2.2) (SR us a8 bG aF a9) (aB,cK,cM) (fun⟨aB,cK,cM⟩ o h=>by
 unfold E2 at h
 refine iB 13 h (fun h=>?_) fun h=>?_
 refine gW 10007 .frz<|xX 15 X7.D h fun x1 h=>?_
 obtain⟨r2,h3,h⟩:=bS h
 refine gG 21 (.cx false [(0,5),(1,4),(2,508),(3,750)] [(4,21),(5,428)] (.tup []) [(0,.cells ([.row 4])),(1,.cells ([.row 5])),(4,.map r2.1.clk (MP.dl X5.D X3.D r2.1)),rW 5 64 2 X5.D r2.2]) (aMs h3) ?_
 exact lB h [.live [2,3,4,5,10,11,12],.keep [4,5,21,428,997],.ren 21 508,.ren 428 750,.sort]
 exact lb h) h
theorem aNf(h:Y6 a8 bG=some cV):AO Tryz.prog 16 [.d (AA.D a8),.d (AA.D bG)] [] (.tup [.row 2,.row 3]) [(0,.cells ([.row 2])),(1,.cells ([.row 3])),rW 2 64 2 X5.D cV.1,(3,.map cV.2.clk (MP.dl X5.D X3.D cV.2))]:=by unfold Y6 at h;refine XG.call (ks:=[]) mixed fun us=>?_;apply g0 (o:=cV);refine gN 11 X7.D a8.decls<|gW 2 .frz<|gW 3 .frz ?_;obtain⟨o3,h4,h⟩:=bS h;refine gL [.live [2,3,4,5,10,11,12],.keep [4,5,8,997],.ren 8 508,.nilc 4 0 750 64 2,.sort] (YX none us h4) ?_;exact lX h [.live [4,5],.keep [4,5,508,750,997],.ren 4 0,.ren 5 1,.ren 508 3,.ren 750 2,.sort]
def R4(s1:Int)(s8:List Xd)(s9 s10:Int):St:=⟨sp 26 0 [sD 1 dW s1,sD 8 (D.l Xd.D) s8,sI 9 s9,sI 10 s10],[],[]⟩
def R5(s1:Int)(s8:List Xd)(s9:Int)(o:Unit⊕Unit):Ex×St:=match o with
 | .inl o=>(.exit 0,⟨sp 26 0 [],[],[]⟩)
 | .inr o=>(.ret,⟨sp 26 0 [sD 4 D.b true],[],[]⟩)
theorem YB(rd:Option Nat)(h:R3 a9 cW aB aO=some aA):Lq 17 rd 26 (R4 a9 cW aB aO) ((R5 a9 cW aB) aA):=
 lL (fun s:Int=>R4 a9 cW aB s) (R5 a9 cW aB) aO (fun aO o h=>by
 unfold Ew at h
 refine iB 11 h (fun h=>?_) fun h=>?_
 refine xX 13 Xd.D h fun x1 h=>?_
 refine iB 17 h (fun h=>?_) fun h=>?_
 obtain⟨h4,h⟩:=cS h
 refine gQ h4 ?_
 refine iB 24 h (fun h=>?_) fun h=>?_
 exact lb h
 exact lb h
 exact lb h
 exact lb h) h
theorem aIv(h:Xy a8 a9=some aE):AO Tryz.prog 17 [.d (AA.D a8),.d (dW a9)] [] (.d (D.b aE)) []:=by
 unfold Xy at h;apply g0 (o:=aE);refine gN 9 Xd.D a8.states ?_;obtain⟨o2,h6,h⟩:=bS h;refine gl (YB none h6) ?_;replace h:=AM h;rcases h with⟨o3,rfl,h⟩|⟨o4,rfl,h⟩
 exact lf h;exact lf h
def SF(us:List Value)(s2 s3:Int)(w0:List X3):St:=⟨sp 28 0 [rx 0,sI 2 s2,sI 3 s3],[rW 0 44 2 X3.D w0,(997,.vals [.row 0] us)],[]⟩
def SG(us:List Value)(o:(List X3)):Ex×St:=(.exit 0,⟨sp 28 0 [],[rW 0 44 2 X3.D o,(997,.vals [.row 0] us)],[]⟩)
theorem YP(rd:Option Nat)(us:List Value)(h:SE a9 aB cX=some cY):Lq 18 rd 6 (SF us a9 aB cX) ((SG us) cY):=
 lL (fun s:Int×Int×List X3=>SF us s.1 s.2.1 s.2.2) (SG us) (a9,aB,cX) (fun⟨a9,aB,cX⟩ o h=>by
 unfold Ey at h
 refine iB 9 h (fun h=>?_) fun h=>?_
 obtain⟨h2,h⟩:=cS h
 refine gQ h2.1<|gQ (DJ X3.D h2.2) ?_
 obtain⟨x1,h3,h⟩:=xS h
 refine gG 21 (.el (X3.D x1)) (Dh X3.D h3)<|gW 10026 (.sl ((cX.set a9.toNat x1).map X3.D)) ?_
 obtain⟨h4,h⟩:=cS h
 refine gQ h4.1<|gQ (DJ X3.D h4.2) ?_
 obtain⟨x2,h5,h⟩:=xS h
 refine gG 25 (.el (X3.D x2)) (Dh X3.D h5)<|gW 10027 (.sl (((cX.set a9.toNat x1).set aB.toNat x2).map X3.D)) ?_
 obtain⟨h6,h⟩:=cS h
 refine gQ h6.1<|gQ (DJ X3.D h6.2) ?_
 obtain⟨h7,h⟩:=cS h
 refine gQ (Us X3.D h7)<|gQ (Hq X3.D cX a9 x1) ?_
 obtain⟨h8,h⟩:=cS h
 refine gQ h8.1<|gQ (DJ X3.D h8.2) ?_
 obtain⟨h9,h⟩:=cS h
 refine gQ (Us X3.D h9)<|gQ (Hq X3.D (cX.set a9.toNat x1) aB x2) ?_
 exact lb h
 exact lb h) h
theorem aM8(h:Y2 cX=some cZ):AO Tryz.prog 18 [.row 0] [rW 0 44 2 X3.D cX] (.tup []) [rW 0 44 2 X3.D cZ]:=by unfold Y2 at h;refine XG.call (ks:=[0]) mixed fun us=>?_;apply g0 (o:=cZ);refine gN 5 X3.D cX ?_;obtain⟨o3,h10,h⟩:=bS h;refine gl (YP none us h10) ?_;exact lX h (lv [] [0,997])
theorem Mk(rd:Option Nat)(h:Pp a9 aB aO aS bN cW d4 d5 bA d6 d7 aE a8 d8 aU=some d9):Lq 39 rd 15310131 ⟨sp 69 0 [sD 1 dW a9,sD 2 dU aB,bx 3,sD 7 dW aO,sI 8 aS,bx 9,sD 10 dW bN,bx 12,sD 14 (D.l Xd.D) cW,sI 15 d4,sI 16 d5,sD 28 (D.l Xe.D) bA,sI 29 d6,sI 30 d7,sD 46 D.b aE],[cL 3 AA.D a8,cL 9 Xd.D d8,cL 12 Xe.D aU],[]⟩ (.normal,⟨sp 69 0 [sD 1 dW a9,sD 2 dU aB,bx 3,sD 7 dW aO,sI 8 aS,bx 9,sD 10 dW d9,sD 14 (D.l Xd.D) cW,sI 15 d4,sI 16 d5,sD 28 (D.l Xe.D) bA,sI 29 d6,sI 30 d7],[cL 3 AA.D a8,cL 9 Xd.D d8],[]⟩):=by unfold Pp at h;apply g0 (o:=d9);cases aE;replace h:=Cy h;exact lp h;replace h:=Cz h;obtain⟨h10,h⟩:=cS h;refine gQ h10 ?_;exact lp h
theorem WD(rd:Option Nat)(h:WC a9 aB aO aS bN cW d4 d5 bA d6 d7 a8 d8=some d9):Lq 39 rd 1913766 ⟨sp 69 0 [sD 1 dW a9,sD 2 dU aB,bx 3,sD 7 dW aO,sI 8 aS,bx 9,sD 10 dW bN,sD 14 (D.l Xd.D) cW,sI 15 d4,sI 16 d5,sD 28 (D.l Xe.D) bA,sI 29 d6,sI 30 d7],[cL 3 AA.D a8,cL 9 Xd.D d8],[]⟩ (.normal,⟨sp 69 0 [sD 1 dW a9,sD 2 dU aB,bx 3,sD 7 dW aO,sI 8 aS,bx 9,sD 10 dW d9,sD 14 (D.l Xd.D) cW,sI 15 d4,sI 16 d5,sD 28 (D.l Xe.D) bA,sI 29 d6,sI 30 d7],[cL 3 AA.D a8,cL 9 Xd.D d8],[]⟩):=by unfold WC at h;apply g0 (o:=d9);refine xX 32 Xe.D h fun x2 h=>?_;refine iB 38 h (fun h=>?_) fun h=>?_;obtain⟨h8,h⟩:=cS h;refine gQ h8 ?_;obtain⟨o3,h11,h⟩:=bS h;refine gl (Mk rd h11) ?_;exact lp h;obtain⟨o4,h12,h⟩:=bS h;refine gl (Mk rd h12) ?_;exact lp h
def Pt(s1 s2:Int)(s7 s8:Int)(s14:List Xd)(s15 s16:Int)(s28:List Xe)(s29:Int)(w3:AA)(w9:Xd)(s10 s30:Int):St:=⟨sp 69 0 [sD 1 dW s1,sD 2 dU s2,bx 3,sD 7 dW s7,sI 8 s8,bx 9,sD 10 dW s10,sD 14 (D.l Xd.D) s14,sI 15 s15,sI 16 s16,sD 28 (D.l Xe.D) s28,sI 29 s29,sI 30 s30],[cL 3 AA.D w3,cL 9 Xd.D w9],[]⟩
def Pu(s1 s2:Int)(s7 s8:Int)(s14:List Xd)(s15 s16:Int)(s28:List Xe)(s29:Int)(w3:AA)(w9:Xd)(o:Int):Ex×St:=(.exit 2,⟨sp 69 0 [sD 1 dW s1,sD 2 dU s2,bx 3,sD 7 dW s7,sI 8 s8,bx 9,sD 10 dW o,sD 14 (D.l Xd.D) s14,sI 15 s15,sI 16 s16],[cL 3 AA.D w3,cL 9 Xd.D w9],[]⟩)
theorem WF(rd:Option Nat)(h:OO a9 aB aO aS cW bN d4 bA d5 a8 d8 d6 d7=some d9):Lq 39 rd 119610 (Pt a9 aB aO aS cW bN d4 bA d5 a8 d8 d6 d7) ((Pu a9 aB aO aS cW bN d4 bA d5 a8 d8) d9):=
 lL (fun s:Int×Int=>Pt a9 aB aO aS cW bN d4 bA d5 a8 d8 s.1 s.2) (Pu a9 aB aO aS cW bN d4 bA d5 a8 d8) (d6,d7) (fun⟨d6,d7⟩ o h=>by
 unfold Eu at h
 refine iB 31 h (fun h=>?_) fun h=>?_
 obtain⟨o5,h13,h⟩:=bS h
 refine gl (WD rd h13) ?_
 exact lb h
 exact lb h) h
theorem Ml(rd:Option Nat)(h:Iz a9 aB aO aS bN cW d4 d5 aE a8=some d6):Lq 39 rd 119613 ⟨sp 69 0 [sD 1 dW a9,sD 2 dU aB,bx 3,sD 7 dW aO,sI 8 aS,sD 10 dW bN,sD 14 (D.l Xd.D) cW,sI 15 d4,sI 16 d5,sD 60 D.b aE],[cL 3 AA.D a8],[]⟩ (.normal,⟨sp 69 0 [sD 1 dW a9,sD 2 dU aB,bx 3,sD 7 dW aO,sD 10 dW d6,sD 14 (D.l Xd.D) cW,sI 15 d4,sI 16 d5],[cL 3 AA.D a8],[]⟩):=by unfold Iz at h;apply g0 (o:=d6);cases aE;replace h:=Cy h;exact lp h;replace h:=Cz h;obtain⟨h17,h⟩:=cS h;refine gQ h17 ?_;exact lp h
theorem WB(rd:Option Nat)(h:ON a9 aB aO cW aS bN a8=some d4):Lq 39 rd 934 ⟨sp 69 0 [sD 1 dW a9,sD 2 dU aB,bx 3,sD 7 dW aO,sD 14 (D.l Xd.D) cW,sI 15 aS,sI 16 bN],[cL 3 AA.D a8],[]⟩ (.normal,⟨sp 69 0 [sD 1 dW a9,sD 2 dU aB,bx 3,sD 7 dW d4,sD 14 (D.l Xd.D) cW,sI 15 aS,sI 16 bN],[cL 3 AA.D a8],[]⟩):=by unfold ON at h;apply g0 (o:=d4);refine xX 19 Xd.D h fun x1 h=>?_;obtain⟨h3,h⟩:=cS h;refine gQ h3 ?_;refine iB 26 h (fun h=>?_) fun h=>?_;exact lp h;refine gN 29 Xe.D a8.trans ?_;obtain⟨o6,h14,h⟩:=bS h;refine gl (WF rd h14) ?_;refine iB 56 h (fun h=>?_) fun h=>?_;obtain⟨o7,h18,h⟩:=bS h;refine gl (Ml rd h18) ?_;exact lp h;obtain⟨o8,h19,h⟩:=bS h;refine gl (Ml rd h19) ?_;exact lp h
def Pr(s1 s2:Int)(s14:List Xd)(s15:Int)(w3:AA)(s7 s16:Int):St:=⟨sp 69 0 [sD 1 dW s1,sD 2 dU s2,bx 3,sD 7 dW s7,sD 14 (D.l Xd.D) s14,sI 15 s15,sI 16 s16],[cL 3 AA.D w3],[]⟩
def Ps(s1 s2:Int)(s14:List Xd)(s15:Int)(w3:AA)(o:Int):Ex×St:=(.exit 0,⟨sp 69 0 [sD 7 dW o],[],[]⟩)
theorem WE(rd:Option Nat)(h:Pq a9 aB cW aO a8 aS bN=some d4):Lq 39 rd 58 (Pr a9 aB cW aO a8 aS bN) ((Ps a9 aB cW aO a8) d4):=
 lL (fun s:Int×Int=>Pr a9 aB cW aO a8 s.1 s.2) (Ps a9 aB cW aO a8) (aS,bN) (fun⟨aS,bN⟩ o h=>by
 unfold DY at h
 refine iB 17 h (fun h=>?_) fun h=>?_
 obtain⟨o9,h20,h⟩:=bS h
 refine gl (WB rd h20) ?_
 exact lb h
 exact lb h) h
theorem aIg(h:Xa a8 a9 aB=some aO):AO Tryz.prog 39 [.d (AA.D a8),.d (dW a9),.d (dU aB)] [] (.d (dW aO)) []:=by unfold Xa at h;apply g0 (o:=aO);refine gN 15 Xd.D a8.states ?_;obtain⟨o10,h21,h⟩:=bS h;refine gl (WE none h21) ?_;exact lf h
theorem XT(rd:Option Nat)(h:OT aE a8 bG dA cJ dB=some dC):Lq 19 rd 13 ⟨sp 30 0 [bx 4,bx 5,bx 6,bx 7,bx 8,sD 11 D.b aE],[cL 4 AA.D a8,cL 5 AA.D bG,cL 6 X6.D dA,cL 7 X5.D cJ,cL 8 X6.D dB],[]⟩ (.normal,⟨sp 30 0 [bx 5,bx 6,bx 7,bx 8],[cL 5 AA.D bG,cL 6 X6.D dC,cL 7 X5.D cJ,cL 8 X6.D dB],[]⟩):=by unfold OT at h;apply g0 (o:=dC);cases aE;replace h:=Cy h;exact lp h;replace h:=Cz h;obtain⟨r1,h2,h⟩:=bS h;refine gC 17 (aIg h2) ?_;exact lp h
theorem XU(rd:Option Nat)(h:LV aE a8 dA cJ dB=some dC):Lq 19 rd 29 ⟨sp 30 0 [bx 5,bx 6,bx 7,bx 8,sD 21 D.b aE],[cL 5 AA.D a8,cL 6 X6.D dA,cL 7 X5.D cJ,cL 8 X6.D dB],[]⟩ (.normal,⟨sp 30 0 [bx 6,bx 8],[cL 6 X6.D dC,cL 8 X6.D dB],[]⟩):=by unfold LV at h;apply g0 (o:=dC);cases aE;replace h:=Cy h;exact lp h;replace h:=Cz h;obtain⟨r3,h5,h⟩:=bS h;refine gC 27 (aIg h5) ?_;exact lp h
theorem aM2(h:Xw a8 bG dA cJ=some dB):AO Tryz.prog 19 [.d (AA.D a8),.d (AA.D bG),.d (X6.D dA),.d (X5.D cJ)] [] (.d (X6.D dB)) []:=by unfold Xw at h;apply g0 (o:=dB);obtain⟨o2,h3,h⟩:=bS h;refine gl (XT none h3) ?_;obtain⟨o4,h6,h⟩:=bS h;refine gl (XU none h6) ?_;exact lf h
def Pl(w7:MP X5 X3)(w8:X6)(w10:MP X6 Xc)(w12:X6)(w13:List X3):St:=⟨sp 111 0 [rx 7,bx 8,rx 10,bx 12,rx 13],[(7,.map w7.clk (MP.dl X5.D X3.D w7)),cL 8 X6.D w8,(10,.map w10.clk (MP.dl X6.D Xc.D w10)),cL 12 X6.D w12,rW 13 44 2 X3.D w13],[]⟩
def Pm(w7:MP X5 X3)(w8:X6)(w10:MP X6 Xc)(o:(List X3)):Ex×St:=(.exit 2,⟨sp 111 0 [rx 13],[rW 13 44 2 X3.D o],[]⟩)
theorem V8(rd:Option Nat)(h:KD cK dA dD dB cX=some cY):Lq 7 rd 1036884 (Pl cK dA dD dB cX) ((Pm cK dA dD) cY):=
 lL (fun s:X6×List X3=>Pl cK dA dD s.1 s.2) (Pm cK dA dD) (dB,cX) (fun⟨dB,cX⟩ o h=>by
 unfold F5 at h
 refine iB 65 h (fun h=>?_) fun h=>?_
 refine gG 74 (.mg (Xc.D (BC (Xc.mk (X6.mk 0 0) (X5.mk 0 0)) dD dB).1) (BC (Xc.mk (X6.mk 0 0) (X5.mk 0 0)) dD dB).2) (HW BE Xc.D (Xc.mk (X6.mk 0 0) (X5.mk 0 0)) dD dB)<|gG 76 (.mg (X3.D (BC (X3.mk ([]:List UInt8) ([]:List X0)) cK (((BC (Xc.mk (X6.mk 0 0) (X5.mk 0 0)) dD dB).1).by_)).1) (BC (X3.mk ([]:List UInt8) ([]:List X0)) cK (((BC (Xc.mk (X6.mk 0 0) (X5.mk 0 0)) dD dB).1).by_)).2) (HW B5 X3.D (X3.mk ([]:List UInt8) ([]:List X0)) cK (((BC (Xc.mk (X6.mk 0 0) (X5.mk 0 0)) dD dB).1).by_))<|gQ (AY X3.D ([(BC (X3.mk ([]:List UInt8) ([]:List X0)) cK (((BC (Xc.mk (X6.mk 0 0) (X5.mk 0 0)) dD dB).1).by_)).1]))<|gG 78 (.rwl ((cX++([(BC (X3.mk ([]:List UInt8) ([]:List X0)) cK (((BC (Xc.mk (X6.mk 0 0) (X5.mk 0 0)) dD dB).1).by_)).1])).map X3.D)) (AY X3.D ([(BC (X3.mk ([]:List UInt8) ([]:List X0)) cK (((BC (Xc.mk (X6.mk 0 0) (X5.mk 0 0)) dD dB).1).by_)).1]))<|gW 68 (.mg (Xc.D (BC (Xc.mk (X6.mk 0 0) (X5.mk 0 0)) dD dB).1) (BC (Xc.mk (X6.mk 0 0) (X5.mk 0 0)) dD dB).2) ?_
 obtain⟨h12,h⟩:=cS h
 refine gQ (Ab X3.D h12)<|gQ (AZ X3.D cX ([(BC (X3.mk ([]:List UInt8) ([]:List X0)) cK (((BC (Xc.mk (X6.mk 0 0) (X5.mk 0 0)) dD dB).1).by_)).1]))<|gQ (HW BE Xc.D (Xc.mk (X6.mk 0 0) (X5.mk 0 0)) dD dB) ?_
 exact lB h [.live [7,8,10,12,13],.keep [7,8,10,12,78],.ren 78 13,.sort]
 exact lb h) h
theorem V5(rd:Option Nat)(h:Ph a9 aB aO aE a8 bG cM cK dA dE dD dB cJ dC=some dF):Lq 7 rd 66362575 ⟨sp 111 0 [bx 2,bx 3,rx 6,rx 7,bx 8,rx 9,rx 10,sI 11 a9,bx 12,bx 15,bx 16,(82,.row 6),sI 83 aB,sI 84 aO,sD 100 D.b aE],[cL 2 AA.D a8,cL 3 AA.D bG,rW 6 64 2 X5.D cM,(7,.map cK.clk (MP.dl X5.D X3.D cK)),cL 8 X6.D dA,(9,.row 60 2 (dE.map X6.D)),(10,.map dD.clk (MP.dl X6.D Xc.D dD)),cL 12 X6.D dB,cL 15 X5.D cJ,cL 16 X6.D dC],[]⟩ (.normal,⟨sp 111 0 [bx 2,bx 3,rx 6,rx 7,bx 8,rx 9,rx 10,sI 11 a9,bx 12,(82,.row 6),sI 83 aB,sI 84 aO],[cL 2 AA.D a8,cL 3 AA.D bG,rW 6 64 2 X5.D cM,(7,.map cK.clk (MP.dl X5.D X3.D cK)),cL 8 X6.D dA,(9,.row 60 2 (dF.1.map X6.D)),(10,.map dF.2.clk (MP.dl X6.D Xc.D dF.2)),cL 12 X6.D dB],[]⟩):=by unfold Ph at h;apply g0 (o:=dF);cases aE;replace h:=Cy h;exact lp h;replace h:=Cz h;refine gQ (MO BE Xc.D dD dC (Xc.mk dB cJ))<|gQ (AY X6.D [dC])<|gG 109 (.sl ((dE++[dC]).map X6.D)) (AY X6.D [dC])<|gW 10101 (.mp (Cs dD dC (Xc.mk dB cJ)).clk (MP.dl X6.D Xc.D (Cs dD dC (Xc.mk dB cJ)))) ?_;obtain⟨h20,h⟩:=cS h;refine gQ (Ab X6.D h20)<|gQ (AZ X6.D dE [dC]) ?_;exact lP h [.live [2,3,6,7,8,9,10,11,12,82,83,84],.keep [2,3,6,7,8,10,12,109],.ren 109 9,.sort]
def aEt(s11 s83 s84:Int)(w2 w3:AA)(w6:List X5)(w7:MP X5 X3)(w8:X6)(w9:List X6)(w10:MP X6 Xc)(w12:X6):St:=⟨sp 111 0 [bx 2,bx 3,rx 6,rx 7,bx 8,rx 9,rx 10,sI 11 s11,bx 12,(82,.row 6),sI 83 s83,sI 84 s84],[cL 2 AA.D w2,cL 3 AA.D w3,rW 6 64 2 X5.D w6,(7,.map w7.clk (MP.dl X5.D X3.D w7)),cL 8 X6.D w8,(9,.row 60 2 (w9.map X6.D)),(10,.map w10.clk (MP.dl X6.D Xc.D w10)),cL 12 X6.D w12],[]⟩
end Go.Ac
