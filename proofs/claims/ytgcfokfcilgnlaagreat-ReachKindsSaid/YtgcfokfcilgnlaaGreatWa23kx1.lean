/- Own work, printed: the functions compute these. -/
import Derived.Test.YtgcfokfcilgnlaaGreatSh23k
import Derived.Test.YtgcfokfcilgnlaaGreatProg
set_option linter.unusedVariables false
set_option linter.unusedSimpArgs false
namespace Go.Ac
open Go.Proofs
variable {a7 : AB}
variable {a8 aA aN aR bC bD cD : Int}
variable {a9 : Unit ⊕ Unit}
variable {aB : List (List UInt8)}
variable {aC aO : List UInt8}
variable {aD b8 : Bool}
variable {aE : List Xn}
variable {aF : Unit ⊕ Int}
variable {aG : Unit ⊕ (Int × Int)}
variable {aH : Int × Int}
variable {aI aQ bQ : X0}
variable {aJ : (List (List UInt8)) ⊕ Unit}
variable {aK : X0 × Int}
variable {aL : Int × Bool}
variable {aM : Int × Int × Int}
variable {aP : Unit ⊕ Bool}
variable {aS aX : X4}
variable {aT : Xe}
variable {aU : Int ⊕ Unit}
variable {aV : E5}
variable {aW : CX}
variable {aY : List Bool}
variable {aZ cA : List Int}
variable {b6 : (List Int)}
variable {b7 : (List Bool × List Int)}
variable {b9 : List Xe}
variable {bA : List X2}
variable {bB : List X4}
variable {bE : Unit}
variable {bG bH bL : List X0}
variable {bI : (Int × Int)}
variable {bJ : (List X0)}
variable {bK : Bool × List X0}
variable {bM : List X0 × List X0}
variable {bN : List CX}
variable {bO bP : List (List X0)}
variable {bR : X0 × Bool}
variable {bU : List Xb}
variable {bV : Xb}
variable {bW : Xl}
variable {bX : Unit ⊕ X0}
variable {bY bZ : List (Int × Bool)}
variable {c9 : (List (Int × Bool))}
variable {cB : (Int × List Int) ⊕ (Unit ⊕ Unit)}
variable {cC : (List Int) ⊕ (List Int)}
variable {cE : (List Int × Int)}
variable {cF : (Int × Int × Int × Int)}
variable {cG : (Int × List Int) ⊕ Bool}
variable {cH : (List Int) ⊕ (Bool × List Int)}
variable {cI : Bool × List Int}
theorem mixed : Tryz.prog.follows .mixedOrders = true := by kernel_rfl
theorem lB {β : Type} {ws : List (Nat × W)} {lw : List Lw} {Q : List Prop} {o v : β} {rd : Option Nat} {root : Code} {q : List Nat} {s : St} {E : β → Ex} {S : β → St} (h : some v = some o) (l : List Ws) (he : (cj Q True ∧ (E v = E v ∧ S v = S v)) = Pa Tryz.prog rd root ws lw q l s (E v) (S v) := by kernel_rfl) : Gl ws lw Q (fun o => Arr Tryz.prog rd root q s (E o) (S o)) o := lB_ mixed h l he
theorem lP {β : Type} {ws : List (Nat × W)} {lw : List Lw} {Q : List Prop} {o v : β} {rd : Option Nat} {root : Code} {q : List Nat} {s : St} {E : β → Ex} {S : β → St} (h : some v = some o) (l : List Ws) (he : (cj Q True ∧ (E v = E v ∧ S v = S v)) = Pa Tryz.prog rd root ws lw q l s (E v) (S v) := by kernel_rfl) : Gl ws lw Q (fun o => E3 Tryz.prog rd root q s (E o) (S o)) o := lP_ mixed h l he
theorem lb {β : Type} {ws : List (Nat × W)} {lw : List Lw} {Q : List Prop} {o v : β} {rd : Option Nat} {root : Code} {q : List Nat} {s : St} {E : β → Ex} {S : β → St} (h : some v = some o) (he : (cj Q True ∧ (E v = E v ∧ S v = S v)) = Pa Tryz.prog rd root ws lw q (lvS (S v)) s (E v) (S v) := by kernel_rfl) : Gl ws lw Q (fun o => Arr Tryz.prog rd root q s (E o) (S o)) o := lB_ mixed h _ he
theorem lp {β : Type} {ws : List (Nat × W)} {lw : List Lw} {Q : List Prop} {o v : β} {rd : Option Nat} {root : Code} {q : List Nat} {s : St} {E : β → Ex} {S : β → St} (h : some v = some o) (he : (cj Q True ∧ (E v = E v ∧ S v = S v)) = Pa Tryz.prog rd root ws lw q (lvS (S v)) s (E v) (S v) := by kernel_rfl) : Gl ws lw Q (fun o => E3 Tryz.prog rd root q s (E o) (S o)) o := lP_ mixed h _ he
theorem lF {β : Type} {ws : List (Nat × W)} {lw : List Lw} {Q : List Prop} {o v : β} {f : FuncId} {args : List A} {R : β → A} (h : some v = some o) (l : List Ws) (he : (cj Q True ∧ (R v = R v ∧ true = true)) = VB Tryz.prog f ws lw l args (R v) := by kernel_rfl) : Gl ws lw Q (fun o => AJ Tryz.prog f args [] (R o) []) o := lF_ mixed h l he
theorem lf {β : Type} {ws : List (Nat × W)} {lw : List Lw} {Q : List Prop} {o v : β} {f : FuncId} {args : List A} {R : β → A} (h : some v = some o) (he : (cj Q True ∧ (R v = R v ∧ true = true)) = VB Tryz.prog f ws lw [] args (R v) := by kernel_rfl) : Gl ws lw Q (fun o => AJ Tryz.prog f args [] (R o) []) o := lF_ mixed h [] he
abbrev Lq (n : Nat) (rd : Option Nat) (p : Nat) (s : St) (x : Ex × St) : Prop := E3 Tryz.prog rd (D0 Tryz.prog n) (pth p) s x.1 x.2
theorem lI {β : Type} {ws : List (Nat × W)} {lw : List Lw} {Q : List Prop} {o v : β} {f : FuncId} {args : List A} {F0 : Bx} (hF : Far F0) {r : A} {F : β → Bx} (hc : ∀ f, ∀ p ∈ F f, ∀ m,p.2.has m = true → m ∈ AM (F f)) (h : some v = some o) (l : List Ws) (he : (cj Q True ∧ (r = r ∧ F v = F v ∧ true = true)) = aCn Tryz.prog f ws lw l args F0 r (F v) := by kernel_rfl) : Gl ws lw Q (fun o => J4 Tryz.prog f args F0 r (F o)) o := lI_ mixed hF hc h l he
theorem lX {β : Type} {ws : List (Nat × W)} {lw : List Lw} {Q : List Prop} {o v : β} {f : FuncId} {args : List A} {X : Bx} {ks : List Nat} {us : List Value} {R : β → A} {X1 : β → Bx} (h : some v = some o) (l : List Ws) (he : (cj Q True ∧ (R v = R v ∧ X1 v ++ [(vx,.vals (Hx args ks) us)] = X1 v ++ [(vx,.vals (Hx args ks) us)] ∧ true = true)) = aCo Tryz.prog f ws lw l args X ks us (R v) (X1 v) := by kernel_rfl) : Gl ws lw Q (fun o => XG Tryz.prog f args X ks us (R o) (X1 o)) o := lX_ h l he
def Qk (w1 : AB) (s3 : Int) : St := ⟨sp 166 0 [bx 1,sI 3 s3],[cL 1 AB.D w1],[]⟩
def Ql (w1 : AB) (o : Unit ⊕ Unit) : Ex × St := match o with
  | .inl o => (.exit 0,⟨sp 166 0 [bx 1],[cL 1 AB.D w1],[]⟩)
  | .inr o => (.ret,⟨sp 166 0 [sI 2 0],[],[]⟩)
theorem V9 (rd : Option Nat) (h : aDn a7 a8 = some a9) : Lq 43 rd 58 (Qk a7 a8) ((Ql a7) a9) :=
  lL (fun s : Int => Qk a7 s) (Ql a7) a8 (fun a8 o h => by
  unfold Gw at h
  refine gN 58 Xn.D a7.decls ?_
  refine iB 59 h (fun h => ?_) fun h => ?_
  refine xX 65 Xn.D h fun x1 h => ?_
  refine gN 68 dZ x1.types ?_
  refine iB 70 h (fun h => ?_) fun h => ?_
  exact lb h
  refine xX 74 Xn.D h fun x2 h => ?_
  refine gG 77 (.int (x2.name.length : Int)) (CL x2.name) ?_
  refine iB 79 h (fun h => ?_) fun h => ?_
  exact lb h
  exact lb h
  exact lb h) h
def Qo (s4 : Int) (w1 : AB) (s5 : Int) : St := ⟨sp 166 0 [bx 1,sI 4 s4,sI 5 s5],[cL 1 AB.D w1],[]⟩
def Qp (s4 : Int) (w1 : AB) (o : Unit ⊕ Unit) : Ex × St := match o with
  | .inl o => (.exit 4,⟨sp 166 0 [bx 1,sI 4 s4],[cL 1 AB.D w1],[]⟩)
  | .inr o => (.ret,⟨sp 166 0 [sI 2 0],[],[]⟩)
theorem WB (rd : Option Nat) (h : aDp a8 a7 aA = some a9) : Lq 43 rd 15654 (Qo a8 a7 aA) ((Qp a8 a7) a9) :=
  lL (fun s : Int => Qo a8 a7 s) (Qp a8 a7) aA (fun aA o h => by
  unfold Gy at h
  refine xX 99 X4.D h fun x7 h => ?_
  refine gN 102 CX.D x7.args ?_
  refine iB 103 h (fun h => ?_) fun h => ?_
  refine xX 109 X4.D h fun x8 h => ?_
  refine xX 113 CX.D h fun x9 h => ?_
  refine gG 117 (.int (x9.value.str.length : Int)) (CL x9.value.str) ?_
  refine iB 118 h (fun h => ?_) fun h => ?_
  exact lb h
  exact lb h
  exact lb h) h
def Qm (w1 : AB) (s4 : Int) : St := ⟨sp 166 0 [bx 1,sI 4 s4],[cL 1 AB.D w1],[]⟩
def Qn (w1 : AB) (o : Unit ⊕ Unit) : Ex × St := match o with
  | .inl o => (.exit 2,⟨sp 166 0 [bx 1],[cL 1 AB.D w1],[]⟩)
  | .inr o => (.ret,⟨sp 166 0 [sI 2 0],[],[]⟩)
theorem WA (rd : Option Nat) (h : aDo a7 a8 = some a9) : Lq 43 rd 122 (Qm a7 a8) ((Qn a7) a9) :=
  lL (fun s : Int => Qm a7 s) (Qn a7) a8 (fun a8 o h => by
  unfold Gx at h
  refine gN 83 X4.D a7.symbols ?_
  refine iB 84 h (fun h => ?_) fun h => ?_
  refine xX 90 X4.D h fun x6 h => ?_
  refine gN 93 CX.D x6.args ?_
  refine iB 94 h (fun h => ?_) fun h => ?_
  exact lb h
  obtain ⟨o10,h23,h⟩ := bS h
  refine gl (WB rd h23) ?_
  replace h := AK h
  rcases h with ⟨o11,rfl,h⟩ | ⟨o12,rfl,h⟩
  exact lb h
  exact lb h
  exact lb h) h
def Qq (w1 : AB) (s6 : Int) : St := ⟨sp 166 0 [bx 1,sI 6 s6],[cL 1 AB.D w1],[]⟩
def Qr (w1 : AB) (o : Unit ⊕ Unit) : Ex × St := match o with
  | .inl o => (.exit 6,⟨sp 166 0 [bx 1],[cL 1 AB.D w1],[]⟩)
  | .inr o => (.ret,⟨sp 166 0 [sI 2 0],[],[]⟩)
theorem WC (rd : Option Nat) (h : aDq a7 a8 = some a9) : Lq 43 rd 250 (Qq a7 a8) ((Qr a7) a9) :=
  lL (fun s : Int => Qq a7 s) (Qr a7) a8 (fun a8 o h => by
  unfold Gz at h
  refine gN 122 Y2.D a7.frees ?_
  refine iB 123 h (fun h => ?_) fun h => ?_
  refine xX 129 Y2.D h fun x16 h => ?_
  refine gG 133 (.int (x16.init_.str.length : Int)) (CL x16.init_.str) ?_
  refine iB 134 h (fun h => ?_) fun h => ?_
  exact lb h
  exact lb h
  exact lb h) h
def Qs (w1 : AB) (s7 : Int) : St := ⟨sp 166 0 [bx 1,sI 7 s7],[cL 1 AB.D w1],[]⟩
def Qt (w1 : AB) (o : Unit ⊕ Unit) : Ex × St := match o with
  | .inl o => (.exit 8,⟨sp 166 0 [bx 1],[cL 1 AB.D w1],[]⟩)
  | .inr o => (.ret,⟨sp 166 0 [sI 2 0],[],[]⟩)
theorem WD (rd : Option Nat) (h : aDr a7 a8 = some a9) : Lq 43 rd 506 (Qs a7 a8) ((Qt a7) a9) :=
  lL (fun s : Int => Qs a7 s) (Qt a7) a8 (fun a8 o h => by
  unfold G0 at h
  refine gN 138 Yb.D a7.nodes ?_
  refine iB 139 h (fun h => ?_) fun h => ?_
  refine xX 145 Yb.D h fun x20 h => ?_
  refine gG 149 (.int (x20.value.str.length : Int)) (CL x20.value.str) ?_
  refine iB 150 h (fun h => ?_) fun h => ?_
  exact lb h
  exact lb h
  exact lb h) h
def Qu (w1 : AB) (s8 : Int) : St := ⟨sp 166 0 [bx 1,sI 8 s8],[cL 1 AB.D w1],[]⟩
def Qv (w1 : AB) (o : Unit ⊕ Unit) : Ex × St := match o with
  | .inl o => (.exit 10,⟨sp 166 0 [],[],[]⟩)
  | .inr o => (.ret,⟨sp 166 0 [sI 2 0],[],[]⟩)
theorem WE (rd : Option Nat) (h : aDs a7 a8 = some a9) : Lq 43 rd 1018 (Qu a7 a8) ((Qv a7) a9) :=
  lL (fun s : Int => Qu a7 s) (Qv a7) a8 (fun a8 o h => by
  unfold G1 at h
  refine gN 154 Xe.D a7.trans ?_
  refine iB 155 h (fun h => ?_) fun h => ?_
  refine xX 161 Xe.D h fun x24 h => ?_
  refine gN 164 E5.D x24.sets ?_
  refine iB 165 h (fun h => ?_) fun h => ?_
  exact lb h
  exact lb h
  exact lb h) h
theorem aJw (h : Xc a7 = some a8) : AJ Tryz.prog 43 [.d (AB.D a7)] [] (dI a8) [] := by
  unfold Xc at h
  apply g0 (o := a8)
  refine gN 11 Xn.D a7.decls ?_
  refine iB 13 h (fun h => ?_) fun h => ?_
  exact lf h
  refine gN 16 Ya.D a7.quants ?_
  refine iB 19 h (fun h => ?_) fun h => ?_
  exact lf h
  refine gN 22 Y2.D a7.frees ?_
  refine iB 25 h (fun h => ?_) fun h => ?_
  exact lf h
  refine gN 28 X8.D a7.states ?_
  refine iB 31 h (fun h => ?_) fun h => ?_
  exact lf h
  refine gN 34 X4.D a7.symbols ?_
  refine iB 37 h (fun h => ?_) fun h => ?_
  exact lf h
  refine gN 40 Xe.D a7.trans ?_
  refine iB 43 h (fun h => ?_) fun h => ?_
  exact lf h
  refine gN 46 Yb.D a7.nodes ?_
  refine iB 49 h (fun h => ?_) fun h => ?_
  exact lf h
  refine gG 52 (.int (a7.name.length : Int)) (CL a7.name) ?_
  refine iB 54 h (fun h => ?_) fun h => ?_
  exact lf h
  obtain ⟨o3,h14,h⟩ := bS h
  refine gl (V9 none h14) ?_
  replace h := AK h
  rcases h with ⟨o4,rfl,h⟩ | ⟨o5,rfl,h⟩
  obtain ⟨o13,h24,h⟩ := bS h
  refine gl (WA none h24) ?_
  replace h := AK h
  rcases h with ⟨o14,rfl,h⟩ | ⟨o15,rfl,h⟩
  obtain ⟨o17,h28,h⟩ := bS h
  refine gl (WC none h28) ?_
  replace h := AK h
  rcases h with ⟨o18,rfl,h⟩ | ⟨o19,rfl,h⟩
  obtain ⟨o21,h32,h⟩ := bS h
  refine gl (WD none h32) ?_
  replace h := AK h
  rcases h with ⟨o22,rfl,h⟩ | ⟨o23,rfl,h⟩
  obtain ⟨o25,h36,h⟩ := bS h
  refine gl (WE none h36) ?_
  replace h := AK h
  rcases h with ⟨o26,rfl,h⟩ | ⟨o27,rfl,h⟩
  exact lf h
  exact lf h
  exact lf h
  exact lf h
  exact lf h
  exact lf h
theorem aJb (h : Q9 = some aB) : AJ Tryz.prog 140 [] [] (.d ((D.l D.s) aB)) [] := by
  unfold Q9 at h
  apply g0 (o := aB)
  refine gQ (CC D.s ([([97,99,99,101,112,116] : List UInt8),([97,108,115,111] : List UInt8),([97,110,100] : List UInt8),([98,111,111,108] : List UInt8),([100,111] : List UInt8),([101,118,101,110,116] : List UInt8),([101,120,105,115,116,115] : List UInt8),([102,97,108,115,101] : List UInt8),([102,111,114,97,108,108] : List UInt8),([102,114,101,101] : List UInt8),([105,102] : List UInt8),([105,110,116] : List UInt8),([110,101,120,116] : List UInt8),([110,111,116] : List UInt8),([111,110] : List UInt8),([111,114] : List UInt8),([113,101,97] : List UInt8),([115,107,105,112] : List UInt8),([115,116,97,114,116] : List UInt8),([115,116,114,105,110,103] : List UInt8),([116,111] : List UInt8),([116,114,117,101] : List UInt8)])) ?_
  exact lf h
def TI (s0 : List UInt8) (s3 : Int) : St := ⟨sp 55 0 [sD 0 D.s s0,sI 3 s3],[],[]⟩
def TJ (s0 : List UInt8) (o : Unit ⊕ Unit) : Ex × St := match o with
  | .inl o => (.exit 0,⟨sp 55 0 [],[],[]⟩)
  | .inr o => (.ret,⟨sp 55 0 [sD 2 D.b false],[],[]⟩)
theorem aAs (rd : Option Nat) (h : aEh aC a8 = some a9) : Lq 141 rd 58 (TI aC a8) ((TJ aC) a9) :=
  lL (fun s : Int => TI aC s) (TJ aC) a8 (fun a8 o h => by
  unfold HW at h
  refine gG 16 (.int (aC.length : Int)) (CL aC) ?_
  refine iB 17 h (fun h => ?_) fun h => ?_
  obtain ⟨x1,h4,h⟩ := xS h
  refine gG 22 (.int x1.toNat) (GA h4) ?_
  refine iB 25 h (fun h => ?_) fun h => ?_
  refine iB 29 h (fun h => ?_) fun h => ?_
  exact lb h
  refine iB 32 h (fun h => ?_) fun h => ?_
  refine iB 37 h (fun h => ?_) fun h => ?_
  exact lb h
  refine iB 43 h (fun h => ?_) fun h => ?_
  refine iB 46 h (fun h => ?_) fun h => ?_
  exact lb h
  refine iB 50 h (fun h => ?_) fun h => ?_
  exact lb h
  refine iB 54 h (fun h => ?_) fun h => ?_
  exact lb h
  exact lb h
  exact lb h
  refine iB 43 h (fun h => ?_) fun h => ?_
  refine iB 46 h (fun h => ?_) fun h => ?_
  exact lb h
  refine iB 50 h (fun h => ?_) fun h => ?_
  exact lb h
  refine iB 54 h (fun h => ?_) fun h => ?_
  exact lb h
  exact lb h
  exact lb h
  refine iB 32 h (fun h => ?_) fun h => ?_
  refine iB 37 h (fun h => ?_) fun h => ?_
  exact lb h
  refine iB 43 h (fun h => ?_) fun h => ?_
  refine iB 46 h (fun h => ?_) fun h => ?_
  exact lb h
  refine iB 50 h (fun h => ?_) fun h => ?_
  exact lb h
  refine iB 54 h (fun h => ?_) fun h => ?_
  exact lb h
  exact lb h
  exact lb h
  refine iB 43 h (fun h => ?_) fun h => ?_
  refine iB 46 h (fun h => ?_) fun h => ?_
  exact lb h
  refine iB 50 h (fun h => ?_) fun h => ?_
  exact lb h
  refine iB 54 h (fun h => ?_) fun h => ?_
  exact lb h
  exact lb h
  exact lb h
  exact lb h) h
theorem aLt (h : Yp aC = some aD) : AJ Tryz.prog 141 [.d (D.s aC)] [] (.d (D.b aD)) [] := by
  unfold Yp at h
  apply g0 (o := aD)
  refine gG 7 (.int (aC.length : Int)) (CL aC) ?_
  refine iB 9 h (fun h => ?_) fun h => ?_
  exact lf h
  refine gG 11 (.int (aC.length : Int)) (CL aC) ?_
  refine iB 13 h (fun h => ?_) fun h => ?_
  exact lf h
  obtain ⟨o2,h27,h⟩ := bS h
  refine gl (aAs none h27) ?_
  replace h := AK h
  rcases h with ⟨o3,rfl,h⟩ | ⟨o4,rfl,h⟩
  exact lf h
  exact lf h
def Su (s0 : List UInt8) (s3 : List (List UInt8)) (s4 : Int) : St := ⟨sp 24 0 [sD 0 D.s s0,sD 3 (D.l D.s) s3,sI 4 s4],[],[]⟩
def Sv (s0 : List UInt8) (s3 : List (List UInt8)) (o : Unit ⊕ Unit) : Ex × St := match o with
  | .inl o => (.exit 0,⟨sp 24 0 [sD 0 D.s s0],[],[]⟩)
  | .inr o => (.ret,⟨sp 24 0 [sD 2 D.b false],[],[]⟩)
theorem ZW (rd : Option Nat) (h : aEb aC aB a8 = some a9) : Lq 109 rd 58 (Su aC aB a8) ((Sv aC aB) a9) :=
  lL (fun s : Int => Su aC aB s) (Sv aC aB) a8 (fun a8 o h => by
  unfold HR at h
  refine gN 8 D.s aB ?_
  refine iB 9 h (fun h => ?_) fun h => ?_
  refine xX 14 D.s h fun x2 h => ?_
  refine iB 17 h (fun h => ?_) fun h => ?_
  exact lb h
  exact lb h
  exact lb h) h
theorem ZX (h : Yc aC = some aD) : AJ Tryz.prog 109 [.d (D.s aC)] [] (.d (D.b aD)) [] := by
  unfold Yc at h
  apply g0 (o := aD)
  obtain ⟨r1,h1,h⟩ := bS h
  refine gC 5 (aJb h1) ?_
  obtain ⟨o3,h5,h⟩ := bS h
  refine gl (ZW none h5) ?_
  replace h := AK h
  rcases h with ⟨o4,rfl,h⟩ | ⟨o5,rfl,h⟩
  obtain ⟨r6,h6,h⟩ := bS h
  refine gQ (aLt h6) ?_
  cases r6
  replace h := CO h
  refine gW 19 (.ret (.d (D.b false))) ?_
  exact lf h
  replace h := CP h
  refine gW 19 (.ret (.d (D.b true))) ?_
  exact lf h
  exact lf h
def TN (s0 : List Xn) (s1 : List UInt8) (s5 : Int) : St := ⟨sp 20 0 [sD 0 (D.l Xn.D) s0,sD 1 D.s s1,sI 5 s5],[],[]⟩
def TO (s0 : List Xn) (s1 : List UInt8) (o : Unit ⊕ Int) : Ex × St := match o with
  | .inl o => (.exit 0,⟨sp 20 0 [],[],[]⟩)
  | .inr o => (.ret,⟨sp 20 0 [sI 4 o],[],[]⟩)
theorem aAu (rd : Option Nat) (h : aEk aE aC a8 = some aF) : Lq 61 rd 26 (TN aE aC a8) ((TO aE aC) aF) :=
  lL (fun s : Int => TN aE aC s) (TO aE aC) a8 (fun a8 o h => by
  unfold JQ at h
  refine gN 8 Xn.D aE ?_
  refine iB 9 h (fun h => ?_) fun h => ?_
  refine xX 14 Xn.D h fun x1 h => ?_
  refine iB 18 h (fun h => ?_) fun h => ?_
  exact lb h
  exact lb h
  exact lb h) h
theorem aLy (h : Ys aE aC = some a8) : AJ Tryz.prog 61 [.d ((D.l Xn.D) aE),.d (D.s aC)] [] (dI a8) [] := by
  unfold Ys at h
  apply g0 (o := a8)
  obtain ⟨o2,h4,h⟩ := bS h
  refine gl (aAu none h4) ?_
  replace h := AK h
  rcases h with ⟨o3,rfl,h⟩ | ⟨o4,rfl,h⟩
  exact lf h
  exact lf h
def Sb (s0 : List Xn) (s4 s5 : Int) : St := ⟨sp 72 0 [sD 0 (D.l Xn.D) s0,sI 4 s4,sI 5 s5],[],[]⟩
def Sc (s0 : List Xn) (s4 : Int) (o : Unit ⊕ Unit) : Ex × St := match o with
  | .inl o => (.exit 2,⟨sp 72 0 [sD 0 (D.l Xn.D) s0,sI 4 s4],[],[]⟩)
  | .inr o => (.ret,⟨sp 72 0 [sI 2 8,sI 3 s4],[],[]⟩)
theorem ZG (rd : Option Nat) (h : aEa aE a8 aA = some a9) : Lq 77 rd 29854 (Sb aE a8 aA) ((Sc aE a8) a9) :=
  lL (fun s : Int => Sb aE a8 s) (Sc aE a8) aA (fun aA o h => by
  unfold HO at h
  refine xX 44 Xn.D h fun x6 h => ?_
  refine gN 47 dZ x6.types ?_
  refine iB 48 h (fun h => ?_) fun h => ?_
  refine xX 53 Xn.D h fun x7 h => ?_
  refine xX 57 dZ h fun x8 h => ?_
  refine iB 60 h (fun h => ?_) fun h => ?_
  exact lb h
  refine xX 63 Xn.D h fun x9 h => ?_
  refine xX 67 dZ h fun x10 h => ?_
  refine iB 70 h (fun h => ?_) fun h => ?_
  exact lb h
  exact lb h
  exact lb h) h
def SZ (s0 : List Xn) (s4 : Int) : St := ⟨sp 72 0 [sD 0 (D.l Xn.D) s0,sI 4 s4],[],[]⟩
def Sa (s0 : List Xn) (o : Unit ⊕ (Int × Int)) : Ex × St := match o with
  | .inl o => (.exit 0,⟨sp 72 0 [],[],[]⟩)
  | .inr o => (.ret,⟨sp 72 0 [sI 2 o.1,sI 3 o.2],[],[]⟩)
theorem ZF (rd : Option Nat) (h : aD9 aE a8 = some aG) : Lq 77 rd 58 (SZ aE a8) ((Sa aE) aG) :=
  lL (fun s : Int => SZ aE s) (Sa aE) a8 (fun a8 o h => by
  unfold HN at h
  refine gN 11 Xn.D aE ?_
  refine iB 12 h (fun h => ?_) fun h => ?_
  refine xX 17 Xn.D h fun x1 h => ?_
  obtain ⟨r2,h4,h⟩ := bS h
  refine gC 20 (ZX h4) ?_
  refine iB 21 h (fun h => ?_) fun h => ?_
  exact lb h
  refine xX 26 Xn.D h fun x3 h => ?_
  obtain ⟨r4,h7,h⟩ := bS h
  refine gC 29 (aLy h7) ?_
  refine iB 31 h (fun h => ?_) fun h => ?_
  exact lb h
  refine xX 35 Xn.D h fun x5 h => ?_
  refine gN 38 dZ x5.types ?_
  refine iB 39 h (fun h => ?_) fun h => ?_
  exact lb h
  obtain ⟨o11,h19,h⟩ := bS h
  refine gl (ZG rd h19) ?_
  replace h := AK h
  rcases h with ⟨o12,rfl,h⟩ | ⟨o13,rfl,h⟩
  exact lb h
  exact lb h
  exact lb h) h
theorem aK0 (h : Y1 aE = some aH) : AJ Tryz.prog 77 [.d ((D.l Xn.D) aE)] [] (.tup [dI aH.1,dI aH.2]) [] := by
  unfold Y1 at h
  apply g0 (o := aH)
  refine gN 7 Xn.D aE ?_
  refine iB 8 h (fun h => ?_) fun h => ?_
  exact lf h
  obtain ⟨o14,h20,h⟩ := bS h
  refine gl (ZF none h20) ?_
  replace h := AK h
  rcases h with ⟨o15,rfl,h⟩ | ⟨o16,rfl,h⟩
  exact lf h
  exact lf h
theorem aEo (h : Z3 aI = some aD) : AJ Tryz.prog 62 [.d (X0.D aI)] [] (.d (D.b aD)) [] := by
  unfold Z3 at h
  apply g0 (o := aD)
  refine iB 5 h (fun h => ?_) fun h => ?_
  refine iB 9 h (fun h => ?_) fun h => ?_
  exact lf h
  exact lf h
  refine iB 16 h (fun h => ?_) fun h => ?_
  refine iB 20 h (fun h => ?_) fun h => ?_
  refine iB 25 h (fun h => ?_) fun h => ?_
  refine gG 28 (.int (aI.str.length : Int)) (CL aI.str) ?_
  exact lf h
  exact lf h
  exact lf h
  refine iB 34 h (fun h => ?_) fun h => ?_
  refine iB 39 h (fun h => ?_) fun h => ?_
  exact lf h
  exact lf h
  exact lf h
def TP (s0 : List (List UInt8)) (s1 s5 : Int) : St := ⟨sp 20 0 [sD 0 (D.l D.s) s0,sI 1 s1,sI 5 s5],[],[]⟩
def TQ (s0 : List (List UInt8)) (s1 : Int) (o : Unit ⊕ Unit) : Ex × St := match o with
  | .inl o => (.exit 0,⟨sp 20 0 [],[],[]⟩)
  | .inr o => (.ret,⟨sp 20 0 [sD 4 D.b true],[],[]⟩)
theorem aAv (rd : Option Nat) (h : aG9 aB a8 aA = some a9) : Lq 110 rd 26 (TP aB a8 aA) ((TQ aB a8) a9) :=
  lL (fun s : Int => TP aB a8 s) (TQ aB a8) aA (fun aA o h => by
  unfold HY at h
  refine iB 8 h (fun h => ?_) fun h => ?_
  refine xX 13 D.s h fun x1 h => ?_
  refine xX 17 D.s h fun x2 h => ?_
  refine iB 19 h (fun h => ?_) fun h => ?_
  exact lb h
  exact lb h
  exact lb h) h
theorem aHa (h : Yt aB a8 = some aD) : AJ Tryz.prog 110 [.d ((D.l D.s) aB),dI a8] [] (.d (D.b aD)) [] := by
  unfold Yt at h
  apply g0 (o := aD)
  obtain ⟨o3,h5,h⟩ := bS h
  refine gl (aAv none h5) ?_
  replace h := AK h
  rcases h with ⟨o4,rfl,h⟩ | ⟨o5,rfl,h⟩
  exact lf h
  exact lf h
def Rh (w1 : AB) (s4 : Int) (w3 : List (List UInt8)) : St := ⟨sp 112 0 [bx 1,rx 3,sI 4 s4],[cL 1 AB.D w1,(3,.row 9 1 (w3.map D.s))],[]⟩
def Ri (w1 : AB) (o : (List (List UInt8)) ⊕ Unit) : Ex × St := match o with
  | .inl o => (.exit 0,⟨sp 112 0 [bx 1,rx 3],[cL 1 AB.D w1,(3,.row 9 1 (o.map D.s))],[]⟩)
  | .inr o => (.ret,⟨sp 112 0 [sD 2 D.b false],[],[]⟩)
theorem W4 (rd : Option Nat) (h : aGo a7 a8 aB = some aJ) : Lq 78 rd 58 (Rh a7 a8 aB) ((Ri a7) aJ) :=
  lL (fun s : Int × List (List UInt8) => Rh a7 s.1 s.2) (Ri a7) (a8,aB) (fun ⟨a8,aB⟩ o h => by
  unfold HB at h
  refine gN 12 Ya.D a7.quants ?_
  refine iB 13 h (fun h => ?_) fun h => ?_
  refine xX 20 Ya.D h fun x4 h => ?_
  refine gQ (CC D.s [x4.name]) <| gG 24 (.sl ((aB ++ [x4.name]).map D.s)) (CC D.s [x4.name]) ?_
  obtain ⟨h10,h⟩ := cS h
  refine gQ (Ca D.s h10) <| gQ (CY D.s aB [x4.name]) <| xX 28 Ya.D h fun x5 h => ?_
  refine iB 32 h (fun h => ?_) fun h => ?_
  exact lb h
  refine xX 36 Ya.D h fun x6 h => ?_
  refine iB 40 h (fun h => ?_) fun h => ?_
  exact lb h
  exact lB h [.live [1,3,4],.keep [1,24],.ren 24 3,.sort]
  exact lb h) h
def Rj (w1 : AB) (s5 : Int) (w3 : List (List UInt8)) : St := ⟨sp 112 0 [bx 1,rx 3,sI 5 s5],[cL 1 AB.D w1,(3,.row 9 1 (w3.map D.s))],[]⟩
def Rk (w1 : AB) (o : (List (List UInt8)) ⊕ Unit) : Ex × St := match o with
  | .inl o => (.exit 2,⟨sp 112 0 [bx 1,rx 3],[cL 1 AB.D w1,(3,.row 9 1 (o.map D.s))],[]⟩)
  | .inr o => (.ret,⟨sp 112 0 [sD 2 D.b false],[],[]⟩)
theorem W5 (rd : Option Nat) (h : aGp a7 a8 aB = some aJ) : Lq 78 rd 122 (Rj a7 a8 aB) ((Rk a7) aJ) :=
  lL (fun s : Int × List (List UInt8) => Rj a7 s.1 s.2) (Rk a7) (a8,aB) (fun ⟨a8,aB⟩ o h => by
  unfold HC at h
  refine gN 44 Y2.D a7.frees ?_
  refine iB 45 h (fun h => ?_) fun h => ?_
  refine xX 52 Y2.D h fun x10 h => ?_
  refine gQ (CC D.s [x10.name]) <| gG 56 (.sl ((aB ++ [x10.name]).map D.s)) (CC D.s [x10.name]) ?_
  obtain ⟨h18,h⟩ := cS h
  refine gQ (Ca D.s h18) <| gQ (CY D.s aB [x10.name]) <| xX 60 Y2.D h fun x11 h => ?_
  obtain ⟨r12,h20,h⟩ := bS h
  refine gC 63 (aEo h20) ?_
  refine iB 64 h (fun h => ?_) fun h => ?_
  exact lb h
  exact lB h [.live [1,3,5],.keep [1,56],.ren 56 3,.sort]
  exact lb h) h
def Rl (w1 : AB) (w3 : List (List UInt8)) (s6 : Int) : St := ⟨sp 112 0 [bx 1,rx 3,sI 6 s6],[cL 1 AB.D w1,(3,.row 9 1 (w3.map D.s))],[]⟩
def Rm (w1 : AB) (w3 : List (List UInt8)) (o : Unit ⊕ Unit) : Ex × St := match o with
  | .inl o => (.exit 4,⟨sp 112 0 [bx 1],[cL 1 AB.D w1],[]⟩)
  | .inr o => (.ret,⟨sp 112 0 [sD 2 D.b false],[],[]⟩)
theorem W6 (rd : Option Nat) (h : aGq a7 aB a8 = some a9) : Lq 78 rd 250 (Rl a7 aB a8) ((Rm a7 aB) a9) :=
  lL (fun s : Int => Rl a7 aB s) (Rm a7 aB) a8 (fun a8 o h => by
  unfold HD at h
  refine gN 67 D.s aB ?_
  refine iB 68 h (fun h => ?_) fun h => ?_
  refine xX 73 D.s h fun x16 h => ?_
  obtain ⟨r17,h25,h⟩ := bS h
  refine gC 75 (ZX h25) ?_
  refine iB 77 h (fun h => ?_) fun h => ?_
  exact lb h
  obtain ⟨r18,h27,h⟩ := bS h
  refine gQ (aHa h27) ?_
  cases r18
  replace h := CO h
  refine gW 80 (.ret (.d (D.b false))) ?_
  exact lb h
  replace h := CP h
  refine gW 80 (.ret (.d (D.b true))) ?_
  exact lb h
  exact lb h) h
def Rn (w1 : AB) (s8 : Int) (w7 : List (List UInt8)) : St := ⟨sp 112 0 [bx 1,rx 7,sI 8 s8],[cL 1 AB.D w1,(7,.row 9 1 (w7.map D.s))],[]⟩
def Ro (w1 : AB) (o : Unit ⊕ Unit) : Ex × St := match o with
  | .inl o => (.exit 6,⟨sp 112 0 [bx 1],[cL 1 AB.D w1],[]⟩)
  | .inr o => (.ret,⟨sp 112 0 [sD 2 D.b false],[],[]⟩)
theorem W7 (rd : Option Nat) (h : aGr a7 a8 aB = some a9) : Lq 78 rd 1018 (Rn a7 a8 aB) ((Ro a7) a9) :=
  lL (fun s : Int × List (List UInt8) => Rn a7 s.1 s.2) (Ro a7) (a8,aB) (fun ⟨a8,aB⟩ o h => by
  unfold HE at h
  refine gN 85 X8.D a7.states ?_
  refine iB 86 h (fun h => ?_) fun h => ?_
  refine xX 93 X8.D h fun x26 h => ?_
  refine gQ (CC D.s [x26.name]) <| gG 97 (.sl ((aB ++ [x26.name]).map D.s)) (CC D.s [x26.name]) ?_
  obtain ⟨h40,h⟩ := cS h
  refine gQ (Ca D.s h40) <| gQ (CY D.s aB [x26.name]) <| xX 100 D.s h fun x27 h => ?_
  obtain ⟨r28,h42,h⟩ := bS h
  refine gC 102 (ZX h42) ?_
  refine iB 104 h (fun h => ?_) fun h => ?_
  exact lb h
  obtain ⟨r29,h44,h⟩ := bS h
  refine gQ (aHa h44) ?_
  cases r29
  replace h := CO h
  refine gW 107 (.ret (.d (D.b false))) ?_
  exact lB h [.live [1,7,8],.keep [1,97],.ren 97 7,.sort]
  replace h := CP h
  refine gW 107 (.ret (.d (D.b true))) ?_
  exact lb h
  exact lb h) h
theorem aKc (h : Xk a7 = some aD) : AJ Tryz.prog 78 [.d (AB.D a7)] [] (.d (D.b aD)) [] := by
  unfold Xk at h
  apply g0 (o := aD)
  obtain ⟨o7,h15,h⟩ := bS h
  refine gL [.live [1,3,4],.keep [1],.nil 3 3 9 1,.sort] (W4 none h15) ?_
  replace h := AK h
  rcases h with ⟨o8,rfl,h⟩ | ⟨o9,rfl,h⟩
  obtain ⟨o13,h22,h⟩ := bS h
  refine gl (W5 none h22) ?_
  replace h := AK h
  rcases h with ⟨o14,rfl,h⟩ | ⟨o15,rfl,h⟩
  obtain ⟨o19,h29,h⟩ := bS h
  refine gl (W6 none h29) ?_
  replace h := AK h
  rcases h with ⟨o20,rfl,h⟩ | ⟨o21,rfl,h⟩
  obtain ⟨o30,h46,h⟩ := bS h
  refine gL [.live [1,7,8],.keep [1],.nil 7 7 9 1,.sort] (W7 none h46) ?_
  replace h := AK h
  rcases h with ⟨o31,rfl,h⟩ | ⟨o32,rfl,h⟩
  obtain ⟨r33,h47,h⟩ := bS h
  refine gC 111 (ZX h47) ?_
  exact lf h
  exact lf h
  exact lf h
  exact lf h
  exact lf h
theorem JR (h : Z0 aD = some aK) : AJ Tryz.prog 185 [.d (D.b aD)] [] (.tup [.d (X0.D aK.1),dI aK.2]) [] := by
  unfold Z0 at h
  apply g0 (o := aK)
  exact lf h
theorem aNd (h : Zy a8 aA = some aL) : AJ Tryz.prog 189 [dI a8,dI aA] [] (.tup [dI aL.1,.d (D.b aL.2)]) [] := by
  unfold Zy at h
  apply g0 (o := aL)
  refine iB 8 h (fun h => ?_) fun h => ?_
  refine iB 14 h (fun h => ?_) fun h => ?_
  exact lf h
  refine iB 17 h (fun h => ?_) fun h => ?_
  refine iB 23 h (fun h => ?_) fun h => ?_
  exact lf h
  exact lf h
  exact lf h
  refine iB 17 h (fun h => ?_) fun h => ?_
  refine iB 23 h (fun h => ?_) fun h => ?_
  exact lf h
  exact lf h
  exact lf h
theorem aA7 (h : Zl a8 aD = some aK) : AJ Tryz.prog 190 [dI a8,.d (D.b aD)] [] (.tup [.d (X0.D aK.1),dI aK.2]) [] := by
  unfold Zl at h
  apply g0 (o := aK)
  refine iB 7 h (fun h => ?_) fun h => ?_
  exact lf h
  exact lf h
theorem aA6 (h : Z9 a8 aA = some aL) : AJ Tryz.prog 191 [dI a8,dI aA] [] (.tup [dI aL.1,.d (D.b aL.2)]) [] := by
  unfold Z9 at h
  apply g0 (o := aL)
  refine iB 8 h (fun h => ?_) fun h => ?_
  refine iB 14 h (fun h => ?_) fun h => ?_
  exact lf h
  refine iB 17 h (fun h => ?_) fun h => ?_
  refine iB 23 h (fun h => ?_) fun h => ?_
  exact lf h
  exact lf h
  exact lf h
  refine iB 17 h (fun h => ?_) fun h => ?_
  refine iB 23 h (fun h => ?_) fun h => ?_
  exact lf h
  exact lf h
  exact lf h
theorem aNe (h : Zz a8 aA = some aL) : AJ Tryz.prog 192 [dI a8,dI aA] [] (.tup [dI aL.1,.d (D.b aL.2)]) [] := by
  unfold Zz at h
  apply g0 (o := aL)
  refine iB 8 h (fun h => ?_) fun h => ?_
  exact lf h
  refine iB 11 h (fun h => ?_) fun h => ?_
  exact lf h
  refine iB 13 h (fun h => ?_) fun h => ?_
  obtain ⟨r1,h4,h⟩ := bS h
  refine gC 15 (aA6 h4) ?_
  exact lf h
  refine iB 19 h (fun h => ?_) fun h => ?_
  obtain ⟨r2,h6,h⟩ := bS h
  refine gC 21 (aA6 h6) ?_
  exact lf h
  rcases iS h with ⟨h7,h⟩ | ⟨h7,h⟩
  refine gT 26 h7 ?_
  rcases iS h with ⟨h8,h⟩ | ⟨h8,h⟩
  refine gT 30 h8 ?_
  obtain ⟨h9,h⟩ := cS h
  refine gQ h9 ?_
  refine iB 36 h (fun h => ?_) fun h => ?_
  exact lf h
  refine gT 39 h7 ?_
  rcases iS h with ⟨h11,h⟩ | ⟨h11,h⟩
  refine gT 43 h11 ?_
  obtain ⟨h12,h⟩ := cS h
  refine gQ h12 ?_
  refine iB 50 h (fun h => ?_) fun h => ?_
  exact lf h
  rcases iS h with ⟨h14,h⟩ | ⟨h14,h⟩
  refine gT 53 h14 <| gT 57 h8 ?_
  obtain ⟨h15,h⟩ := cS h
  refine gQ h15 ?_
  refine iB 64 h (fun h => ?_) fun h => ?_
  exact lf h
  refine gT 67 h14 <| gT 71 h11 ?_
  obtain ⟨h17,h⟩ := cS h
  refine gQ h17 ?_
  refine iB 77 h (fun h => ?_) fun h => ?_
  exact lf h
  exact lf h
  refine gF 53 h14 <| gF 67 h14 ?_
  exact lf h
  refine gF 43 h11 ?_
  rcases iS h with ⟨h19,h⟩ | ⟨h19,h⟩
  refine gT 53 h19 <| gT 57 h8 ?_
  obtain ⟨h20,h⟩ := cS h
  refine gQ h20 ?_
  refine iB 64 h (fun h => ?_) fun h => ?_
  exact lf h
  refine gT 67 h19 <| gF 71 h11 ?_
  exact lf h
  refine gF 53 h19 <| gF 67 h19 ?_
  exact lf h
  refine gF 30 h8 <| gT 39 h7 ?_
  rcases iS h with ⟨h22,h⟩ | ⟨h22,h⟩
  refine gT 43 h22 ?_
  obtain ⟨h23,h⟩ := cS h
  refine gQ h23 ?_
  refine iB 50 h (fun h => ?_) fun h => ?_
  exact lf h
  rcases iS h with ⟨h25,h⟩ | ⟨h25,h⟩
  refine gT 53 h25 <| gF 57 h8 <| gT 67 h25 <| gT 71 h22 ?_
  obtain ⟨h26,h⟩ := cS h
  refine gQ h26 ?_
  refine iB 77 h (fun h => ?_) fun h => ?_
  exact lf h
  exact lf h
  refine gF 53 h25 <| gF 67 h25 ?_
  exact lf h
  refine gF 43 h22 ?_
  rcases iS h with ⟨h28,h⟩ | ⟨h28,h⟩
  refine gT 53 h28 <| gF 57 h8 <| gT 67 h28 <| gF 71 h22 ?_
  exact lf h
  refine gF 53 h28 <| gF 67 h28 ?_
  exact lf h
  refine gF 26 h7 <| gF 39 h7 ?_
  rcases iS h with ⟨h29,h⟩ | ⟨h29,h⟩
  refine gT 53 h29 ?_
  refine iB 57 h (fun h => ?_) fun h => ?_
  obtain ⟨h31,h⟩ := cS h
  refine gQ h31 ?_
  refine iB 64 h (fun h => ?_) fun h => ?_
  exact lf h
  refine gT 67 h29 ?_
  refine iB 71 h (fun h => ?_) fun h => ?_
  obtain ⟨h34,h⟩ := cS h
  refine gQ h34 ?_
  refine iB 77 h (fun h => ?_) fun h => ?_
  exact lf h
  exact lf h
  exact lf h
  refine gT 67 h29 ?_
  refine iB 71 h (fun h => ?_) fun h => ?_
  obtain ⟨h37,h⟩ := cS h
  refine gQ h37 ?_
  refine iB 77 h (fun h => ?_) fun h => ?_
  exact lf h
  exact lf h
  exact lf h
  refine gF 53 h29 <| gF 67 h29 ?_
  exact lf h
theorem aI6 (h : Q0 a8 aA = some aM) : AJ Tryz.prog 193 [dI a8,dI aA] [] (.tup [dI aM.1,dI aM.2.1,dI aM.2.2]) [] := by
  unfold Q0 at h
  apply g0 (o := aM)
  refine iB 10 h (fun h => ?_) fun h => ?_
  exact lf h
  refine iB 12 h (fun h => ?_) fun h => ?_
  obtain ⟨r1,h3,h⟩ := bS h
  refine gC 15 (aA6 h3) ?_
  refine iB 19 h (fun h => ?_) fun h => ?_
  exact lf h
  exact lf h
  obtain ⟨h5,h⟩ := cS h
  refine gQ h5 ?_
  obtain ⟨h6,h⟩ := cS h
  refine gQ h6 ?_
  exact lf h
theorem aHh (h : Za a8 aA aN = some aK) : AJ Tryz.prog 186 [dI a8,dI aA,dI aN] [] (.tup [.d (X0.D aK.1),dI aK.2]) [] := by
  unfold Za at h
  apply g0 (o := aK)
  refine iB 18 h (fun h => ?_) fun h => ?_
  obtain ⟨r1,h2,h⟩ := bS h
  refine gC 22 (aNd h2) ?_
  obtain ⟨r2,h3,h⟩ := bS h
  refine gC 27 (aA7 h3) ?_
  exact lf h
  refine iB 31 h (fun h => ?_) fun h => ?_
  obtain ⟨r3,h5,h⟩ := bS h
  refine gC 35 (aA6 h5) ?_
  obtain ⟨r4,h6,h⟩ := bS h
  refine gC 40 (aA7 h6) ?_
  exact lf h
  refine iB 44 h (fun h => ?_) fun h => ?_
  obtain ⟨r5,h8,h⟩ := bS h
  refine gC 48 (aNe h8) ?_
  obtain ⟨r6,h9,h⟩ := bS h
  refine gC 53 (aA7 h9) ?_
  exact lf h
  obtain ⟨r7,h10,h⟩ := bS h
  refine gC 59 (aI6 h10) ?_
  refine iB 64 h (fun h => ?_) fun h => ?_
  exact lf h
  refine iB 67 h (fun h => ?_) fun h => ?_
  exact lf h
  obtain ⟨r8,h13,h⟩ := bS h
  refine gC 73 (aA7 h13) ?_
  exact lf h
def S3 (s0 s1 : List UInt8) (s5 : Int) : St := ⟨sp 37 0 [sD 0 D.s s0,sD 1 D.s s1,sI 5 s5],[],[]⟩
def S4 (s0 s1 : List UInt8) (o : Unit ⊕ Bool) : Ex × St := match o with
  | .inl o => (.exit 0,⟨sp 37 0 [sD 0 D.s s0,sD 1 D.s s1],[],[]⟩)
  | .inr o => (.ret,⟨sp 37 0 [sD 4 D.b o],[],[]⟩)
theorem aAh (rd : Option Nat) (h : aAg aC aO a8 = some aP) : Lq 144 rd 26 (S3 aC aO a8) ((S4 aC aO) aP) :=
  lL (fun s : Int => S3 aC aO s) (S4 aC aO) a8 (fun a8 o h => by
  unfold F4 at h
  refine gG 8 (.int (aC.length : Int)) (CL aC) ?_
  refine iB 10 h (fun h => ?_) fun h => ?_
  refine gG 13 (.int (aO.length : Int)) (CL aO) ?_
  refine iB 15 h (fun h => ?_) fun h => ?_
  obtain ⟨x1,h3,h⟩ := xS h
  refine gG 20 (.int x1.toNat) (GA h3) ?_
  obtain ⟨x2,h4,h⟩ := xS h
  refine gG 23 (.int x2.toNat) (GA h4) ?_
  refine iB 24 h (fun h => ?_) fun h => ?_
  obtain ⟨x3,h6,h⟩ := xS h
  refine gG 27 (.int x3.toNat) (GA h6) ?_
  obtain ⟨x4,h7,h⟩ := xS h
  refine gG 30 (.int x4.toNat) (GA h7) ?_
  exact lb h
  exact lb h
  exact lb h
  exact lb h) h
theorem aLo (h : Yh aC aO = some aD) : AJ Tryz.prog 144 [.d (D.s aC),.d (D.s aO)] [] (.d (D.b aD)) [] := by
  unfold Yh at h
  apply g0 (o := aD)
  obtain ⟨o5,h8,h⟩ := bS h
  refine gl (aAh none h8) ?_
  replace h := AK h
  rcases h with ⟨o6,rfl,h⟩ | ⟨o7,rfl,h⟩
  refine gG 33 (.int (aC.length : Int)) (CL aC) <| gG 35 (.int (aO.length : Int)) (CL aO) ?_
  exact lf h
  exact lf h
theorem aEp (h : Z4 aI aQ = some aD) : AJ Tryz.prog 116 [.d (X0.D aI),.d (X0.D aQ)] [] (.d (D.b aD)) [] := by
  unfold Z4 at h
  apply g0 (o := aD)
  refine iB 9 h (fun h => ?_) fun h => ?_
  exact lf h
  refine iB 17 h (fun h => ?_) fun h => ?_
  exact lf h
  refine iB 25 h (fun h => ?_) fun h => ?_
  obtain ⟨r1,h4,h⟩ := bS h
  refine gC 30 (aLo h4) ?_
  exact lf h
  refine iB 34 h (fun h => ?_) fun h => ?_
  exact lf h
  exact lf h
theorem aNa (h : Zs a8 aI aQ = some aK) : AJ Tryz.prog 179 [dI a8,.d (X0.D aI),.d (X0.D aQ)] [] (.tup [.d (X0.D aK.1),dI aK.2]) [] := by
  unfold Zs at h
  apply g0 (o := aK)
  refine iB 10 h (fun h => ?_) fun h => ?_
  exact lf h
  refine iB 13 h (fun h => ?_) fun h => ?_
  exact lf h
  refine iB 16 h (fun h => ?_) fun h => ?_
  refine iB 19 h (fun h => ?_) fun h => ?_
  exact lf h
  obtain ⟨r1,h5,h⟩ := bS h
  refine gC 24 (JR h5) ?_
  exact lf h
  refine iB 28 h (fun h => ?_) fun h => ?_
  refine iB 31 h (fun h => ?_) fun h => ?_
  exact lf h
  obtain ⟨r2,h8,h⟩ := bS h
  refine gC 35 (aHh h8) ?_
  exact lf h
  refine iB 42 h (fun h => ?_) fun h => ?_
  exact lf h
  refine iB 45 h (fun h => ?_) fun h => ?_
  obtain ⟨r3,h11,h⟩ := bS h
  refine gC 49 (JR h11) ?_
  exact lf h
  refine iB 53 h (fun h => ?_) fun h => ?_
  obtain ⟨r4,h13,h⟩ := bS h
  refine gC 57 (JR h13) ?_
  exact lf h
  refine iB 62 h (fun h => ?_) fun h => ?_
  refine iB 64 h (fun h => ?_) fun h => ?_
  refine iB 67 h (fun h => ?_) fun h => ?_
  obtain ⟨r5,h17,h⟩ := bS h
  refine gC 71 (JR h17) ?_
  exact lf h
  obtain ⟨r6,h18,h⟩ := bS h
  refine gC 71 (JR h18) ?_
  exact lf h
  refine iB 75 h (fun h => ?_) fun h => ?_
  refine iB 78 h (fun h => ?_) fun h => ?_
  obtain ⟨r7,h21,h⟩ := bS h
  refine gC 82 (JR h21) ?_
  exact lf h
  obtain ⟨r8,h22,h⟩ := bS h
  refine gC 82 (JR h22) ?_
  exact lf h
  exact lf h
  refine iB 87 h (fun h => ?_) fun h => ?_
  obtain ⟨r9,h24,h⟩ := bS h
  refine gC 90 (aEp h24) ?_
  obtain ⟨r10,h25,h⟩ := bS h
  refine gC 91 (JR h25) ?_
  exact lf h
  refine iB 95 h (fun h => ?_) fun h => ?_
  obtain ⟨r11,h27,h⟩ := bS h
  refine gC 98 (aEp h27) ?_
  obtain ⟨r12,h28,h⟩ := bS h
  refine gC 100 (JR h28) ?_
  exact lf h
  refine iB 106 h (fun h => ?_) fun h => ?_
  refine iB 110 h (fun h => ?_) fun h => ?_
  refine iB 113 h (fun h => ?_) fun h => ?_
  obtain ⟨r13,h32,h⟩ := bS h
  refine gC 119 (aHh h32) ?_
  exact lf h
  refine iB 125 h (fun h => ?_) fun h => ?_
  refine iB 128 h (fun h => ?_) fun h => ?_
  refine gG 131 (.int (aI.str.length : Int)) (CL aI.str) <| gG 134 (.int (aQ.str.length : Int)) (CL aQ.str) ?_
  refine iB 136 h (fun h => ?_) fun h => ?_
  exact lf h
  refine gW 142 (.str (aI.str ++ aQ.str)) ?_
  obtain ⟨h36,h⟩ := cS h
  refine gQ (J1 h36) ?_
  exact lf h
  exact lf h
  exact lf h
  refine iB 125 h (fun h => ?_) fun h => ?_
  refine iB 128 h (fun h => ?_) fun h => ?_
  refine gG 131 (.int (aI.str.length : Int)) (CL aI.str) <| gG 134 (.int (aQ.str.length : Int)) (CL aQ.str) ?_
  refine iB 136 h (fun h => ?_) fun h => ?_
  exact lf h
  refine gW 142 (.str (aI.str ++ aQ.str)) ?_
  obtain ⟨h40,h⟩ := cS h
  refine gQ (J1 h40) ?_
  exact lf h
  exact lf h
  exact lf h
  refine iB 125 h (fun h => ?_) fun h => ?_
  refine iB 128 h (fun h => ?_) fun h => ?_
  refine gG 131 (.int (aI.str.length : Int)) (CL aI.str) <| gG 134 (.int (aQ.str.length : Int)) (CL aQ.str) ?_
  refine iB 136 h (fun h => ?_) fun h => ?_
  exact lf h
  refine gW 142 (.str (aI.str ++ aQ.str)) ?_
  obtain ⟨h44,h⟩ := cS h
  refine gQ (J1 h44) ?_
  exact lf h
  exact lf h
  exact lf h
theorem aHj (h : Zm a8 aA aN = some aR) : AJ Tryz.prog 165 [dI a8,dI aA,dI aN] [] (dI aR) [] := by
  unfold Zm at h
  apply g0 (o := aR)
  refine iB 11 h (fun h => ?_) fun h => ?_
  exact lf h
  refine iB 15 h (fun h => ?_) fun h => ?_
  exact lf h
  obtain ⟨r1,h3,h⟩ := bS h
  refine gC 22 (aNa h3) ?_
  refine iB 26 h (fun h => ?_) fun h => ?_
  exact lf h
  refine iB 28 h (fun h => ?_) fun h => ?_
  exact lf h
  exact lf h
theorem aEj (self : AB → Int → Option (Int × Int × Int)) (hs : ∀ (a0 : AB) (a1 : Int) (r : Int × Int × Int),self a0 a1 = some r → AJ Tryz.prog 142 [.d (AB.D a0),dI a1] [] (.tup [dI r.1,dI r.2.1,dI r.2.2]) []) (a0 : AB) (a1 : Int) (r : Int × Int × Int) (h : aEi self a0 a1 = some r) : AJ Tryz.prog 142 [.d (AB.D a0),dI a1] [] (.tup [dI r.1,dI r.2.1,dI r.2.2]) [] := by
  unfold aEi at h
  apply g0 (o := r)
  refine iB 17 h (fun h => ?_) fun h => ?_
  exact lf h
  refine gN 21 Yb.D a0.nodes ?_
  refine iB 23 h (fun h => ?_) fun h => ?_
  exact lf h
  refine xX 27 Yb.D h fun x1 h => ?_
  refine iB 32 h (fun h => ?_) fun h => ?_
  refine iB 36 h (fun h => ?_) fun h => ?_
  exact lf h
  refine iB 41 h (fun h => ?_) fun h => ?_
  exact lf h
  obtain ⟨r2,h7,h⟩ := bS h
  refine gC 44 (aEo h7) ?_
  refine iB 46 h (fun h => ?_) fun h => ?_
  exact lf h
  exact lf h
  refine iB 54 h (fun h => ?_) fun h => ?_
  exact lf h
  refine iB 57 h (fun h => ?_) fun h => ?_
  refine iB 61 h (fun h => ?_) fun h => ?_
  exact lf h
  refine gN 66 Ya.D a0.quants ?_
  refine iB 69 h (fun h => ?_) fun h => ?_
  exact lf h
  refine iB 73 h (fun h => ?_) fun h => ?_
  exact lf h
  refine xX 78 Ya.D h fun x3 h => ?_
  exact lf h
  refine iB 84 h (fun h => ?_) fun h => ?_
  refine iB 88 h (fun h => ?_) fun h => ?_
  exact lf h
  refine gN 93 Y2.D a0.frees ?_
  refine iB 96 h (fun h => ?_) fun h => ?_
  exact lf h
  refine iB 100 h (fun h => ?_) fun h => ?_
  exact lf h
  refine xX 105 Y2.D h fun x4 h => ?_
  exact lf h
  refine iB 113 h (fun h => ?_) fun h => ?_
  exact lf h
  refine iB 117 h (fun h => ?_) fun h => ?_
  exact lf h
  obtain ⟨r5,h22,h⟩ := bS h
  refine gG 122 (.ret (.tup [dI r5.1,dI r5.2.1,dI r5.2.2])) (hs a0 (AA .sub .i64 a1 1) r5 h22) ?_
  refine iB 128 h (fun h => ?_) fun h => ?_
  refine iB 131 h (fun h => ?_) fun h => ?_
  exact lf h
  refine iB 138 h (fun h => ?_) fun h => ?_
  exact lf h
  refine iB 142 h (fun h => ?_) fun h => ?_
  exact lf h
  obtain ⟨r6,h27,h⟩ := bS h
  refine gC 147 (aHj h27) ?_
  exact lf h
  refine iB 153 h (fun h => ?_) fun h => ?_
  exact lf h
  refine iB 160 h (fun h => ?_) fun h => ?_
  exact lf h
  refine iB 166 h (fun h => ?_) fun h => ?_
  exact lf h
  obtain ⟨r7,h31,h⟩ := bS h
  refine gG 171 (.ret (.tup [dI r7.1,dI r7.2.1,dI r7.2.2])) (hs a0 (AA .sub .i64 r5.2.2 1) r7 h31) <| gW 182 (.int (aIx r5.2.1 r7.2.1)) ?_
  obtain ⟨r8,h32,h⟩ := bS h
  refine gC 179 (aHj h32) <| gQ (rfl : aIx r5.2.1 r7.2.1 = aIx r5.2.1 r7.2.1) ?_
  exact lf h
theorem TK : ∀ (n : Nat) (a0 : AB) (a1 : Int) (r : Int × Int × Int),aCq n a0 a1 = some r → AJ Tryz.prog 142 [.d (AB.D a0),dI a1] [] (.tup [dI r.1,dI r.2.1,dI r.2.2]) []
  | 0,a0,a1,r,h => by simp [aCq] at h
  | n + 1,a0,a1,r,h => aEj _ (TK n) a0 a1 r h
theorem aLu (h : Yq a7 a8 = some aM) : AJ Tryz.prog 142 [.d (AB.D a7),dI a8] [] (.tup [dI aM.1,dI aM.2.1,dI aM.2.2]) [] := TK 100000 a7 a8 aM h
theorem aHl (h : Zp a7 a8 aA = some aH) : AJ Tryz.prog 111 [.d (AB.D a7),dI a8,dI aA] [] (.tup [dI aH.1,dI aH.2]) [] := by
  unfold Zp at h
  apply g0 (o := aH)
  obtain ⟨r1,h1,h⟩ := bS h
  refine gC 14 (aLu h1) ?_
  refine iB 20 h (fun h => ?_) fun h => ?_
  exact lf h
  refine iB 24 h (fun h => ?_) fun h => ?_
  exact lf h
  exact lf h
def TE (s1 : Int) (w2 : X4) (s5 : Int) : St := ⟨sp 30 0 [sI 1 s1,bx 2,sI 5 s5],[cL 2 X4.D w2],[]⟩
def TF (s1 : Int) (w2 : X4) (o : Unit ⊕ Unit) : Ex × St := match o with
  | .inl o => (.exit 0,⟨sp 30 0 [],[],[]⟩)
  | .inr o => (.ret,⟨sp 30 0 [sD 4 D.b true],[],[]⟩)
theorem aAo (rd : Option Nat) (h : aEf a8 aS aA = some a9) : Lq 115 rd 26 (TE a8 aS aA) ((TF a8 aS) a9) :=
  lL (fun s : Int => TE a8 aS s) (TF a8 aS) aA (fun aA o h => by
  unfold HU at h
  refine gN 9 CX.D aS.args ?_
  refine iB 10 h (fun h => ?_) fun h => ?_
  refine xX 16 CX.D h fun x1 h => ?_
  refine iB 20 h (fun h => ?_) fun h => ?_
  refine xX 24 CX.D h fun x2 h => ?_
  refine iB 29 h (fun h => ?_) fun h => ?_
  exact lb h
  exact lb h
  exact lb h
  exact lb h) h
theorem aG5 (h : Ym aS a8 = some aD) : AJ Tryz.prog 115 [.d (X4.D aS),dI a8] [] (.d (D.b aD)) [] := by
  unfold Ym at h
  apply g0 (o := aD)
  obtain ⟨o3,h6,h⟩ := bS h
  refine gl (aAo none h6) ?_
  replace h := AK h
  rcases h with ⟨o4,rfl,h⟩ | ⟨o5,rfl,h⟩
  exact lf h
  exact lf h
def TT (s3 : Int) (w4 : AB) (w5 : X4) (s9 : Int) : St := ⟨sp 34 0 [sI 3 s3,bx 4,bx 5,sI 9 s9],[cL 4 AB.D w4,cL 5 X4.D w5],[]⟩
def TU (s3 : Int) (w4 : AB) (w5 : X4) (o : Unit ⊕ Unit) : Ex × St := match o with
  | .inl o => (.exit 0,⟨sp 34 0 [],[],[]⟩)
  | .inr o => (.ret,⟨sp 34 0 [sD 8 D.b false],[],[]⟩)
theorem aAx (rd : Option Nat) (h : aEl a8 a7 aS aA = some a9) : Lq 112 rd 26 (TT a8 a7 aS aA) ((TU a8 a7 aS) a9) :=
  lL (fun s : Int => TT a8 a7 aS s) (TU a8 a7 aS) aA (fun aA o h => by
  unfold Ha at h
  refine iB 13 h (fun h => ?_) fun h => ?_
  refine xX 19 Yb.D h fun x1 h => ?_
  refine iB 23 h (fun h => ?_) fun h => ?_
  refine xX 28 Yb.D h fun x2 h => ?_
  obtain ⟨r3,h5,h⟩ := bS h
  refine gC 31 (aG5 h5) ?_
  refine iB 33 h (fun h => ?_) fun h => ?_
  exact lb h
  exact lb h
  exact lb h
  exact lb h) h
theorem aL1 (h : Yv a7 aS a8 aA = some aD) : AJ Tryz.prog 112 [.d (AB.D a7),.d (X4.D aS),dI a8,dI aA] [] (.d (D.b aD)) [] := by
  unfold Yv at h
  apply g0 (o := aD)
  obtain ⟨o4,h7,h⟩ := bS h
  refine gl (aAx none h7) ?_
  replace h := AK h
  rcases h with ⟨o5,rfl,h⟩ | ⟨o6,rfl,h⟩
  exact lf h
  exact lf h
theorem YS (rd : Option Nat) (h : SQ a8 aA aD a7 aT = some aU) : Lq 79 rd 61 ⟨sp 153 0 [sI 2 a8,bx 3,bx 4,sI 8 aA,sD 56 D.b aD],[cL 3 AB.D a7,cL 4 Xe.D aT],[]⟩ (match (generalizing := false) aU with
  | .inl aU => (.normal,⟨sp 153 0 [sI 2 a8,bx 3,bx 4,sI 8 aU],[cL 3 AB.D a7,cL 4 Xe.D aT],[]⟩)
  | .inr aU => (.ret,⟨sp 153 0 [sI 6 0,sD 7 D.b false],[],[]⟩)) := by
  unfold SQ at h
  apply g0 (o := aU)
  cases aD
  replace h := CO h
  exact lp h
  replace h := CP h
  obtain ⟨r1,h8,h⟩ := bS h
  refine gC 62 (aHl h8) ?_
  refine iB 67 h (fun h => ?_) fun h => ?_
  exact lp h
  refine iB 70 h (fun h => ?_) fun h => ?_
  exact lp h
  exact lp h
def ST (s2 s11 : Int) (w3 : AB) (w4 : Xe) (w12 : E5) (s15 : Int) : St := ⟨sp 153 0 [sI 2 s2,bx 3,bx 4,sI 11 s11,bx 12,sI 15 s15],[cL 3 AB.D w3,cL 4 Xe.D w4,cL 12 E5.D w12],[]⟩
def SU (s2 s11 : Int) (w3 : AB) (w4 : Xe) (w12 : E5) (o : Unit ⊕ Unit) : Ex × St := match o with
  | .inl o => (.exit 2,⟨sp 153 0 [sI 2 s2,bx 3,bx 4,sI 11 s11,bx 12],[cL 3 AB.D w3,cL 4 Xe.D w4,cL 12 E5.D w12],[]⟩)
  | .inr o => (.ret,⟨sp 153 0 [sI 6 0,sD 7 D.b false],[],[]⟩)
theorem YU (rd : Option Nat) (h : aD4 a8 aA a7 aT aV aN = some a9) : Lq 79 rd 256314 (ST a8 aA a7 aT aV aN) ((SU a8 aA a7 aT aV) a9) :=
  lL (fun s : Int => ST a8 aA a7 aT aV s) (SU a8 aA a7 aT aV) aN (fun aN o h => by
  unfold HM at h
  refine iB 127 h (fun h => ?_) fun h => ?_
  refine xX 133 E5.D h fun x8 h => ?_
  refine iB 138 h (fun h => ?_) fun h => ?_
  exact lb h
  exact lb h
  exact lb h) h
def SR (s2 : Int) (w3 : AB) (w4 : Xe) (s8 s11 : Int) : St := ⟨sp 153 0 [sI 2 s2,bx 3,bx 4,sI 8 s8,sI 11 s11],[cL 3 AB.D w3,cL 4 Xe.D w4],[]⟩
def SS (s2 : Int) (w3 : AB) (w4 : Xe) (o : Int ⊕ Unit) : Ex × St := match o with
  | .inl o => (.exit 0,⟨sp 153 0 [sI 2 s2,bx 3,bx 4,sI 8 o],[cL 3 AB.D w3,cL 4 Xe.D w4],[]⟩)
  | .inr o => (.ret,⟨sp 153 0 [sI 6 0,sD 7 D.b false],[],[]⟩)
theorem YT (rd : Option Nat) (h : aD3 a8 a7 aT aA aN = some aU) : Lq 79 rd 250 (SR a8 a7 aT aA aN) ((SS a8 a7 aT) aU) :=
  lL (fun s : Int × Int => SR a8 a7 aT s.1 s.2) (SS a8 a7 aT) (aA,aN) (fun ⟨aA,aN⟩ o h => by
  unfold HL at h
  refine gN 77 E5.D aT.sets ?_
  refine iB 78 h (fun h => ?_) fun h => ?_
  refine xX 84 E5.D h fun x5 h => ?_
  obtain ⟨r6,h14,h⟩ := bS h
  refine gC 91 (aHl h14) ?_
  refine iB 97 h (fun h => ?_) fun h => ?_
  exact lb h
  refine gN 102 Y2.D a7.frees ?_
  refine iB 105 h (fun h => ?_) fun h => ?_
  exact lb h
  refine iB 109 h (fun h => ?_) fun h => ?_
  exact lb h
  refine iB 113 h (fun h => ?_) fun h => ?_
  exact lb h
  refine xX 119 Y2.D h fun x7 h => ?_
  refine iB 124 h (fun h => ?_) fun h => ?_
  exact lb h
  obtain ⟨o9,h24,h⟩ := bS h
  refine gl (YU rd h24) ?_
  replace h := AK h
  rcases h with ⟨o10,rfl,h⟩ | ⟨o11,rfl,h⟩
  exact lb h
  exact lb h
  exact lb h) h
theorem aKv (h : Xy a7 aT a8 = some aL) : AJ Tryz.prog 79 [.d (AB.D a7),.d (Xe.D aT),dI a8] [] (.tup [dI aL.1,.d (D.b aL.2)]) [] := by
  unfold Xy at h
  apply g0 (o := aL)
  refine iB 19 h (fun h => ?_) fun h => ?_
  exact lf h
  refine gN 24 X8.D a7.states ?_
  refine iB 27 h (fun h => ?_) fun h => ?_
  exact lf h
  refine iB 32 h (fun h => ?_) fun h => ?_
  exact lf h
  refine gN 37 X8.D a7.states ?_
  refine iB 40 h (fun h => ?_) fun h => ?_
  exact lf h
  refine iB 45 h (fun h => ?_) fun h => ?_
  exact lf h
  refine gN 50 X4.D a7.symbols ?_
  refine iB 52 h (fun h => ?_) fun h => ?_
  exact lf h
  obtain ⟨o2,h11,h⟩ := bS h
  refine gl (YS none h11) ?_
  replace h := AK h
  rcases h with ⟨o3,rfl,h⟩ | ⟨o4,rfl,h⟩
  obtain ⟨o12,h25,h⟩ := bS h
  refine gl (YT none h25) ?_
  replace h := AK h
  rcases h with ⟨o13,rfl,h⟩ | ⟨o14,rfl,h⟩
  refine xX 148 X4.D h fun x15 h => ?_
  obtain ⟨r16,h27,h⟩ := bS h
  refine gC 152 (aL1 h27) ?_
  exact lf h
  exact lf h
  exact lf h
theorem aNc (h : Zt a7 aW a8 = some aD) : AJ Tryz.prog 143 [.d (AB.D a7),.d (CX.D aW),dI a8] [] (.d (D.b aD)) [] := by
  unfold Zt at h
  apply g0 (o := aD)
  refine iB 11 h (fun h => ?_) fun h => ?_
  refine iB 15 h (fun h => ?_) fun h => ?_
  obtain ⟨r1,h3,h⟩ := bS h
  refine gQ (aEo h3) ?_
  cases r1
  replace h := CO h
  refine gW 18 (.ret (.d (D.b false))) ?_
  exact lf h
  replace h := CP h
  refine gW 18 (.ret (.d (D.b true))) ?_
  exact lf h
  exact lf h
  refine iB 30 h (fun h => ?_) fun h => ?_
  exact lf h
  refine iB 33 h (fun h => ?_) fun h => ?_
  refine iB 37 h (fun h => ?_) fun h => ?_
  refine gN 42 Ya.D a7.quants ?_
  refine iB 45 h (fun h => ?_) fun h => ?_
  refine xX 50 Ya.D h fun x2 h => ?_
  exact lf h
  exact lf h
  exact lf h
  refine iB 58 h (fun h => ?_) fun h => ?_
  refine iB 62 h (fun h => ?_) fun h => ?_
  refine gN 67 Y2.D a7.frees ?_
  refine iB 70 h (fun h => ?_) fun h => ?_
  refine xX 75 Y2.D h fun x3 h => ?_
  exact lf h
  exact lf h
  exact lf h
  refine iB 85 h (fun h => ?_) fun h => ?_
  exact lf h
  exact lf h
def TR (w2 : AB) (w3 : X4) (s5 : Int) : St := ⟨sp 56 0 [bx 2,bx 3,sI 5 s5],[cL 2 AB.D w2,cL 3 X4.D w3],[]⟩
def TS (w2 : AB) (w3 : X4) (o : Unit ⊕ Unit) : Ex × St := match o with
  | .inl o => (.exit 0,⟨sp 56 0 [],[],[]⟩)
  | .inr o => (.ret,⟨sp 56 0 [sD 4 D.b false],[],[]⟩)
theorem aAw (rd : Option Nat) (h : aHb a7 aS a8 = some a9) : Lq 113 rd 58 (TR a7 aS a8) ((TS a7 aS) a9) :=
  lL (fun s : Int => TR a7 aS s) (TS a7 aS) a8 (fun a8 o h => by
  unfold HZ at h
  refine gN 34 CX.D aS.args ?_
  refine iB 35 h (fun h => ?_) fun h => ?_
  refine xX 42 CX.D h fun x2 h => ?_
  refine xX 48 Xn.D h fun x3 h => ?_
  refine xX 52 dZ h fun x4 h => ?_
  obtain ⟨r5,h9,h⟩ := bS h
  refine gC 54 (aNc h9) ?_
  refine iB 55 h (fun h => ?_) fun h => ?_
  exact lb h
  exact lb h
  exact lb h) h
theorem aL0 (h : Yu a7 aS = some aD) : AJ Tryz.prog 113 [.d (AB.D a7),.d (X4.D aS)] [] (.d (D.b aD)) [] := by
  unfold Yu at h
  apply g0 (o := aD)
  refine iB 9 h (fun h => ?_) fun h => ?_
  exact lf h
  refine gN 14 Xn.D a7.decls ?_
  refine iB 17 h (fun h => ?_) fun h => ?_
  exact lf h
  refine gN 20 CX.D aS.args <| xX 25 Xn.D h fun x1 h => ?_
  refine gN 28 dZ x1.types ?_
  refine iB 30 h (fun h => ?_) fun h => ?_
  exact lf h
  obtain ⟨o6,h11,h⟩ := bS h
  refine gl (aAw none h11) ?_
  replace h := AK h
  rcases h with ⟨o7,rfl,h⟩ | ⟨o8,rfl,h⟩
  exact lf h
  exact lf h
def TZ (w2 w3 : X4) (s5 : Int) : St := ⟨sp 38 0 [bx 2,bx 3,sI 5 s5],[cL 2 X4.D w2,cL 3 X4.D w3],[]⟩
def Ta (w2 w3 : X4) (o : Unit ⊕ Unit) : Ex × St := match o with
  | .inl o => (.exit 0,⟨sp 38 0 [],[],[]⟩)
  | .inr o => (.ret,⟨sp 38 0 [sD 4 D.b false],[],[]⟩)
theorem aA0 (rd : Option Nat) (h : aHc aS aX a8 = some a9) : Lq 114 rd 58 (TZ aS aX a8) ((Ta aS aX) a9) :=
  lL (fun s : Int => TZ aS aX s) (Ta aS aX) a8 (fun a8 o h => by
  unfold Hd at h
  refine gN 23 CX.D aS.args ?_
  refine iB 24 h (fun h => ?_) fun h => ?_
  refine xX 30 CX.D h fun x1 h => ?_
  refine xX 35 CX.D h fun x2 h => ?_
  refine iB 37 h (fun h => ?_) fun h => ?_
  exact lb h
  exact lb h
  exact lb h) h
theorem aL4 (h : Yy aS aX = some aD) : AJ Tryz.prog 114 [.d (X4.D aS),.d (X4.D aX)] [] (.d (D.b aD)) [] := by
  unfold Yy at h
  apply g0 (o := aD)
  refine iB 11 h (fun h => ?_) fun h => ?_
  exact lf h
  refine gN 14 CX.D aS.args <| gN 17 CX.D aX.args ?_
  refine iB 19 h (fun h => ?_) fun h => ?_
  exact lf h
  obtain ⟨o3,h7,h⟩ := bS h
  refine gl (aA0 none h7) ?_
  replace h := AK h
  rcases h with ⟨o4,rfl,h⟩ | ⟨o5,rfl,h⟩
  exact lf h
  exact lf h
theorem Vm (rd : Option Nat) (h : QH a8 aA aD a7 aY aZ = some b6) : Lq 80 rd 15653 ⟨sp 118 0 [bx 1,rx 3,rx 4,sI 5 a8,sI 6 aA,sD 34 D.b aD],[cL 1 AB.D a7,(3,.buf true 4 1 (aY.map D.b)),(4,.row 3 1 (aZ.map dZ))],[]⟩ (.normal,⟨sp 118 0 [bx 1,rx 3,rx 4,sI 5 a8,sI 6 aA],[cL 1 AB.D a7,(3,.buf true 4 1 (aY.map D.b)),(4,.row 3 1 (b6.map dZ))],[]⟩) := by
  unfold QH at h
  apply g0 (o := b6)
  cases aD
  replace h := CO h
  exact lp h
  replace h := CP h
  refine gQ (CC dZ [aA]) <| gG 38 (.sl ((aZ ++ [aA]).map dZ)) (CC dZ [aA]) ?_
  obtain ⟨h17,h⟩ := cS h
  refine gQ (Ca dZ h17) <| gQ (CY dZ aZ [aA]) ?_
  exact lP h [.live [1,3,4,5,6],.keep [1,3,38],.ren 38 4,.sort]
theorem Vl (rd : Option Nat) (h : Vk a8 a7 aY aZ = some b7) : Lq 80 rd 978 ⟨sp 118 0 [bx 1,rx 3,rx 4,sI 5 a8],[cL 1 AB.D a7,(3,.buf true 4 1 (aY.map D.b)),(4,.row 3 1 (aZ.map dZ))],[]⟩ (.normal,⟨sp 118 0 [bx 1,rx 3,rx 4,sI 5 a8],[cL 1 AB.D a7,(3,.buf true 4 1 (b7.1.map D.b)),(4,.row 3 1 (b7.2.map dZ))],[]⟩) := by
  unfold Vk at h
  apply g0 (o := b7)
  refine xX 27 Xe.D h fun x5 h => ?_
  refine gW 10041 (.sl ((aY.set x5.symbol.toNat true).map D.b)) ?_
  obtain ⟨h14,h⟩ := cS h
  refine gQ h14.1 <| gQ (AD D.b h14.2) ?_
  obtain ⟨x6,h15,h⟩ := xS h
  refine gG 33 (.el (D.b x6)) (AF D.b h15) ?_
  obtain ⟨o7,h18,h⟩ := bS h
  refine gl (Vm rd h18) ?_
  obtain ⟨h19,h⟩ := cS h
  refine gQ h19.1 <| gQ (AD D.b h19.2) ?_
  obtain ⟨h20,h⟩ := cS h
  refine gQ (Ax D.b h20) <| gQ (AQ D.b aY x5.symbol true) ?_
  exact lp h
def QK (w1 : AB) (s5 : Int) (w3 : List Bool) (w4 : List Int) : St := ⟨sp 118 0 [bx 1,rx 3,rx 4,sI 5 s5],[cL 1 AB.D w1,(3,.buf true 4 1 (w3.map D.b)),(4,.row 3 1 (w4.map dZ))],[]⟩
def QL (w1 : AB) (o : (List Int)) : Ex × St := (.exit 0,⟨sp 118 0 [bx 1,rx 4],[cL 1 AB.D w1,(4,.row 3 1 (o.map dZ))],[]⟩)
theorem Vn (rd : Option Nat) (h : aGj a7 a8 aY aZ = some b6) : Lq 80 rd 122 (QK a7 a8 aY aZ) ((QL a7) b6) :=
  lL (fun s : Int × List Bool × List Int => QK a7 s.1 s.2.1 s.2.2) (QL a7) (a8,aY,aZ) (fun ⟨a8,aY,aZ⟩ o h => by
  unfold Gn at h
  refine gN 20 Xe.D a7.trans ?_
  refine iB 21 h (fun h => ?_) fun h => ?_
  obtain ⟨o8,h21,h⟩ := bS h
  refine gl (Vl rd h21) ?_
  exact lb h
  exact lb h) h
def QM (w1 : AB) (w4 : List Int) (s7 : Int) : St := ⟨sp 118 0 [bx 1,rx 4,sI 7 s7],[cL 1 AB.D w1,(4,.row 3 1 (w4.map dZ))],[]⟩
def QN (w1 : AB) (w4 : List Int) (o : Unit ⊕ Unit) : Ex × St := match o with
  | .inl o => (.exit 2,⟨sp 118 0 [bx 1],[cL 1 AB.D w1],[]⟩)
  | .inr o => (.ret,⟨sp 118 0 [sD 2 D.b false],[],[]⟩)
theorem Vo (rd : Option Nat) (h : aGk a7 aZ a8 = some a9) : Lq 80 rd 250 (QM a7 aZ a8) ((QN a7 aZ) a9) :=
  lL (fun s : Int => QM a7 aZ s) (QN a7 aZ) a8 (fun a8 o h => by
  unfold Gp at h
  refine gN 44 dZ aZ ?_
  refine iB 45 h (fun h => ?_) fun h => ?_
  refine gW 54 (.int (a7.symbols.length : Int)) <| gW 56 (.int (aZ.length : Int)) <| xX 50 dZ h fun x10 h => ?_
  refine gQ (FA X4.D a7.symbols) <| gQ (FA dZ aZ) ?_
  refine iB 60 h (fun h => ?_) fun h => ?_
  exact lb h
  exact lb h
  exact lb h) h
def QQ (s8 : Int) (w1 : AB) (s9 : Int) : St := ⟨sp 118 0 [bx 1,sI 8 s8,sI 9 s9],[cL 1 AB.D w1],[]⟩
def QR (s8 : Int) (w1 : AB) (o : Unit ⊕ Unit) : Ex × St := match o with
  | .inl o => (.exit 6,⟨sp 118 0 [bx 1,sI 8 s8],[cL 1 AB.D w1],[]⟩)
  | .inr o => (.ret,⟨sp 118 0 [sD 2 D.b false],[],[]⟩)
theorem Vq (rd : Option Nat) (h : aDk a8 a7 aA = some a9) : Lq 80 rd 64806 (QQ a8 a7 aA) ((QR a8 a7) a9) :=
  lL (fun s : Int => QQ a8 a7 s) (QR a8 a7) aA (fun aA o h => by
  unfold Gr at h
  refine iB 78 h (fun h => ?_) fun h => ?_
  refine xX 84 X4.D h fun x16 h => ?_
  refine xX 89 X4.D h fun x17 h => ?_
  obtain ⟨r18,h34,h⟩ := bS h
  refine gQ (aL4 h34) ?_
  cases r18
  replace h := CO h
  refine gW 91 (.ret (.d (D.b false))) ?_
  exact lb h
  replace h := CP h
  refine gW 91 (.ret (.d (D.b true))) ?_
  exact lb h
  exact lb h) h
def QO (w1 : AB) (s8 : Int) : St := ⟨sp 118 0 [bx 1,sI 8 s8],[cL 1 AB.D w1],[]⟩
def QP (w1 : AB) (o : Unit ⊕ Unit) : Ex × St := match o with
  | .inl o => (.exit 4,⟨sp 118 0 [bx 1],[cL 1 AB.D w1],[]⟩)
  | .inr o => (.ret,⟨sp 118 0 [sD 2 D.b false],[],[]⟩)
theorem Vp (rd : Option Nat) (h : aGl a7 a8 = some a9) : Lq 80 rd 506 (QO a7 a8) ((QP a7) a9) :=
  lL (fun s : Int => QO a7 s) (QP a7) a8 (fun a8 o h => by
  unfold Gq at h
  refine gN 64 X4.D a7.symbols ?_
  refine iB 65 h (fun h => ?_) fun h => ?_
  refine xX 72 X4.D h fun x14 h => ?_
  obtain ⟨r15,h29,h⟩ := bS h
  refine gC 74 (aL0 h29) ?_
  refine iB 75 h (fun h => ?_) fun h => ?_
  exact lb h
  obtain ⟨o19,h36,h⟩ := bS h
  refine gl (Vq rd h36) ?_
  replace h := AK h
  rcases h with ⟨o20,rfl,h⟩ | ⟨o21,rfl,h⟩
  exact lb h
  exact lb h
  exact lb h) h
def M4 (s10 : Int) (w1 : AB) (s11 : Bool) (s12 : Int) : St := ⟨sp 118 0 [bx 1,sI 10 s10,sD 11 D.b s11,sI 12 s12],[cL 1 AB.D w1],[]⟩
def M5 (s10 : Int) (w1 : AB) (o : Bool) : Ex × St := (.exit 10,⟨sp 118 0 [bx 1,sI 10 s10,sD 11 D.b o],[cL 1 AB.D w1],[]⟩)
theorem QJ (rd : Option Nat) (h : QI a8 a7 aD aA = some b8) : Lq 80 rd 260682 (M4 a8 a7 aD aA) ((M5 a8 a7) b8) :=
  lL (fun s : Bool × Int => M4 a8 a7 s.1 s.2) (M5 a8 a7) (aD,aA) (fun ⟨aD,aA⟩ o h => by
  unfold Eb at h
  refine gN 102 X4.D a7.symbols ?_
  refine iB 103 h (fun h => ?_) fun h => ?_
  refine iB 107 h (fun h => ?_) fun h => ?_
  exact lb h
  refine xX 111 X4.D h fun x25 h => ?_
  obtain ⟨r26,h42,h⟩ := bS h
  refine gC 114 (aG5 h42) ?_
  exact lb h
  exact lb h) h
def QS (w1 : AB) (s10 : Int) : St := ⟨sp 118 0 [bx 1,sI 10 s10],[cL 1 AB.D w1],[]⟩
def QT (w1 : AB) (o : Unit ⊕ Unit) : Ex × St := match o with
  | .inl o => (.exit 8,⟨sp 118 0 [],[],[]⟩)
  | .inr o => (.ret,⟨sp 118 0 [sD 2 D.b false],[],[]⟩)
theorem Vr (rd : Option Nat) (h : aGm a7 a8 = some a9) : Lq 80 rd 1018 (QS a7 a8) ((QT a7) a9) :=
  lL (fun s : Int => QS a7 s) (QT a7) a8 (fun a8 o h => by
  unfold Gs at h
  refine gN 95 Ya.D a7.quants ?_
  refine iB 96 h (fun h => ?_) fun h => ?_
  obtain ⟨o27,h43,h⟩ := bS h
  refine gl (QJ rd h43) ?_
  refine iB 117 h (fun h => ?_) fun h => ?_
  exact lb h
  exact lb h
  exact lb h) h
theorem aJq (h : X7 a7 = some aD) : AJ Tryz.prog 80 [.d (AB.D a7)] [] (.d (D.b aD)) [] := by
  unfold X7 at h
  apply g0 (o := aD)
  refine gN 15 X4.D a7.symbols <| gW 16 (.sl ((List.replicate (a7.symbols.length : Int).toNat false).map D.b)) ?_
  obtain ⟨h1,h⟩ := cS h
  refine gQ h1.1 <| gQ (Int.le_refl (a7.symbols.length : Int)) <| gQ (Int.le_refl (a7.symbols.length : Int)) <| gQ (aC6 D.b false h1.2) <| gQ (aC5 D.b (a7.symbols.length : Int) false) ?_
  obtain ⟨o9,h22,h⟩ := bS h
  refine gL [.live [1,3,4,5],.keep [1,16],.ren 16 3,.nil 4 4 3 1,.sort] (Vn none h22) ?_
  obtain ⟨o11,h26,h⟩ := bS h
  refine gl (Vo none h26) ?_
  replace h := AK h
  rcases h with ⟨o12,rfl,h⟩ | ⟨o13,rfl,h⟩
  obtain ⟨o22,h37,h⟩ := bS h
  refine gl (Vp none h37) ?_
  replace h := AK h
  rcases h with ⟨o23,rfl,h⟩ | ⟨o24,rfl,h⟩
  obtain ⟨o28,h45,h⟩ := bS h
  refine gl (Vr none h45) ?_
  replace h := AK h
  rcases h with ⟨o29,rfl,h⟩ | ⟨o30,rfl,h⟩
  exact lf h
  exact lf h
  exact lf h
  exact lf h
def TL (w1 : AB) (s5 s6 : Int) : St := ⟨sp 101 0 [bx 1,sI 5 s5,sI 6 s6],[cL 1 AB.D w1],[]⟩
def TM (w1 : AB) (o : Int ⊕ Unit) : Ex × St := match o with
  | .inl o => (.exit 0,⟨sp 101 0 [bx 1,sI 5 o],[cL 1 AB.D w1],[]⟩)
  | .inr o => (.ret,⟨sp 101 0 [sD 2 D.b false],[],[]⟩)
theorem aAt (rd : Option Nat) (h : aG8 a7 a8 aA = some aU) : Lq 44 rd 250 (TL a7 a8 aA) ((TM a7) aU) :=
  lL (fun s : Int × Int => TL a7 s.1 s.2) (TM a7) (a8,aA) (fun ⟨a8,aA⟩ o h => by
  unfold HX at h
  refine gN 74 Xe.D a7.trans ?_
  refine iB 75 h (fun h => ?_) fun h => ?_
  refine xX 83 Xe.D h fun x3 h => ?_
  obtain ⟨r4,h15,h⟩ := bS h
  refine gC 86 (aKv h15) ?_
  refine iB 90 h (fun h => ?_) fun h => ?_
  exact lb h
  exact lb h
  exact lb h) h
theorem aLw (h : Yr a7 = some aD) : AJ Tryz.prog 44 [.d (AB.D a7)] [] (.d (D.b aD)) [] := by
  unfold Yr at h
  apply g0 (o := aD)
  obtain ⟨r1,h1,h⟩ := bS h
  refine gC 12 (aK0 h1) ?_
  refine iB 17 h (fun h => ?_) fun h => ?_
  exact lf h
  refine gN 20 Ya.D a7.quants ?_
  refine iB 23 h (fun h => ?_) fun h => ?_
  exact lf h
  refine gN 26 Y2.D a7.frees ?_
  refine iB 29 h (fun h => ?_) fun h => ?_
  exact lf h
  refine gN 32 X8.D a7.states ?_
  refine iB 35 h (fun h => ?_) fun h => ?_
  exact lf h
  refine gN 38 X4.D a7.symbols ?_
  refine iB 41 h (fun h => ?_) fun h => ?_
  exact lf h
  refine gN 44 Yb.D a7.nodes ?_
  refine iB 47 h (fun h => ?_) fun h => ?_
  exact lf h
  refine gN 50 Xe.D a7.trans ?_
  refine iB 53 h (fun h => ?_) fun h => ?_
  exact lf h
  refine iB 58 h (fun h => ?_) fun h => ?_
  exact lf h
  refine gN 63 X8.D a7.states ?_
  refine iB 66 h (fun h => ?_) fun h => ?_
  exact lf h
  obtain ⟨r2,h11,h⟩ := bS h
  refine gC 68 (aKc h11) ?_
  refine iB 70 h (fun h => ?_) fun h => ?_
  exact lf h
  obtain ⟨o5,h17,h⟩ := bS h
  refine gl (aAt none h17) ?_
  replace h := AK h
  rcases h with ⟨o6,rfl,h⟩ | ⟨o7,rfl,h⟩
  refine gN 95 Yb.D a7.nodes ?_
  refine iB 97 h (fun h => ?_) fun h => ?_
  obtain ⟨r8,h19,h⟩ := bS h
  refine gC 99 (aJq h19) ?_
  exact lf h
  exact lf h
  exact lf h
def TV (w1 : AB) (s3 : Int) : St := ⟨sp 27 0 [bx 1,sI 3 s3],[cL 1 AB.D w1],[]⟩
def TW (w1 : AB) (o : Unit ⊕ Unit) : Ex × St := match o with
  | .inl o => (.exit 0,⟨sp 27 0 [],[],[]⟩)
  | .inr o => (.ret,⟨sp 27 0 [sD 2 D.b false],[],[]⟩)
theorem aAy (rd : Option Nat) (h : aEm a7 a8 = some a9) : Lq 14 rd 58 (TV a7 a8) ((TW a7) a9) :=
  lL (fun s : Int => TV a7 s) (TW a7) a8 (fun a8 o h => by
  unfold Hb at h
  refine gN 15 Xn.D a7.decls ?_
  refine iB 16 h (fun h => ?_) fun h => ?_
  refine xX 22 Xn.D h fun x3 h => ?_
  refine gN 25 dZ x3.types ?_
  refine iB 26 h (fun h => ?_) fun h => ?_
  exact lb h
  exact lb h
  exact lb h) h
theorem aL2 (h : Yw a7 = some aD) : AJ Tryz.prog 14 [.d (AB.D a7)] [] (.d (D.b aD)) [] := by
  unfold Yw at h
  apply g0 (o := aD)
  obtain ⟨r1,h1,h⟩ := bS h
  refine gC 5 (aJw h1) ?_
  refine iB 7 h (fun h => ?_) fun h => ?_
  exact lf h
  obtain ⟨r2,h3,h⟩ := bS h
  refine gC 9 (aLw h3) ?_
  refine iB 11 h (fun h => ?_) fun h => ?_
  exact lf h
  obtain ⟨o4,h8,h⟩ := bS h
  refine gl (aAy none h8) ?_
  replace h := AK h
  rcases h with ⟨o5,rfl,h⟩ | ⟨o6,rfl,h⟩
  exact lf h
  exact lf h
def Si (s0 : List Int) (s1 s7 s8 : Int) : St := ⟨sp 19 0 [sD 0 (D.l dZ) s0,sI 1 s1,sI 7 s7,sI 8 s8],[],[]⟩
def Sj (s0 : List Int) (s1 s7 : Int) (o : Unit ⊕ Int) : Ex × St := match o with
  | .inl o => (.exit 0,⟨sp 19 0 [],[],[]⟩)
  | .inr o => (.ret,⟨sp 19 0 [sI 4 o],[],[]⟩)
theorem ZO (rd : Option Nat) (h : Sh aZ a8 aA aN = some aF) : Lq 117 rd 26 (Si aZ a8 aA aN) ((Sj aZ a8 aA) aF) :=
  lL (fun s : Int => Si aZ a8 aA s) (Sj aZ a8 aA) aN (fun aN o h => by
  unfold F1 at h
  refine iB 9 h (fun h => ?_) fun h => ?_
  refine xX 14 dZ h fun x1 h => ?_
  refine iB 16 h (fun h => ?_) fun h => ?_
  exact lb h
  exact lb h
  exact lb h) h
theorem aK9 (h : Y5 aZ a8 = some aA) : AJ Tryz.prog 117 [.d ((D.l dZ) aZ),dI a8] [] (dI aA) [] := by
  unfold Y5 at h
  apply g0 (o := aA)
  refine gN 7 dZ aZ ?_
  obtain ⟨o2,h4,h⟩ := bS h
  refine gl (ZO none h4) ?_
  replace h := AK h
  rcases h with ⟨o3,rfl,h⟩ | ⟨o4,rfl,h⟩
  exact lf h
  exact lf h
theorem aMe (h : Z6 aZ a8 = some aD) : AJ Tryz.prog 83 [.d ((D.l dZ) aZ),dI a8] [] (.d (D.b aD)) [] := by
  unfold Z6 at h
  apply g0 (o := aD)
  obtain ⟨r1,h1,h⟩ := bS h
  refine gC 7 (aK9 h1) ?_
  exact lf h
theorem M7 (rd : Option Nat) (h : LR a8 b9 aA aN aD a7 aZ aT = some b6) : Lq 47 rd 477491 ⟨sp 45 0 [bx 2,rx 5,sI 6 a8,bx 8,sD 18 (D.l Xe.D) b9,sI 19 aA,sI 20 aN,sD 37 D.b aD],[cL 2 AB.D a7,(5,.row 3 1 (aZ.map dZ)),cL 8 Xe.D aT],[]⟩ (.normal,⟨sp 45 0 [bx 2,rx 5,sI 6 a8,sD 18 (D.l Xe.D) b9,sI 19 aA,sI 20 aN],[cL 2 AB.D a7,(5,.row 3 1 (b6.map dZ))],[]⟩) := by
  unfold LR at h
  apply g0 (o := b6)
  cases aD
  replace h := CO h
  exact lp h
  replace h := CP h
  refine gQ (CC dZ [aT.to]) <| gG 42 (.sl ((aZ ++ [aT.to]).map dZ)) (CC dZ [aT.to]) ?_
  obtain ⟨h8,h⟩ := cS h
  refine gQ (Ca dZ h8) <| gQ (CY dZ aZ [aT.to]) ?_
  exact lP h [.live [2,5,6,18,19,20],.keep [2,42],.ren 42 5,.sort]
theorem WG (rd : Option Nat) (h : OO a8 b9 aA aN a7 aZ = some b6) : Lq 47 rd 59686 ⟨sp 45 0 [bx 2,rx 5,sI 6 a8,sD 18 (D.l Xe.D) b9,sI 19 aA,sI 20 aN],[cL 2 AB.D a7,(5,.row 3 1 (aZ.map dZ))],[]⟩ (.normal,⟨sp 45 0 [bx 2,rx 5,sI 6 a8,sD 18 (D.l Xe.D) b9,sI 19 aA,sI 20 aN],[cL 2 AB.D a7,(5,.row 3 1 (b6.map dZ))],[]⟩) := by
  unfold OO at h
  apply g0 (o := b6)
  refine xX 22 Xe.D h fun x1 h => ?_
  refine xX 28 dZ h fun x2 h => ?_
  refine iB 31 h (fun h => ?_) fun h => ?_
  obtain ⟨r3,h6,h⟩ := bS h
  refine gC 35 (aMe h6) ?_
  obtain ⟨o4,h9,h⟩ := bS h
  refine gl (M7 rd h9) ?_
  exact lp h
  obtain ⟨o5,h10,h⟩ := bS h
  refine gl (M7 rd h10) ?_
  exact lp h
def RC (s6 : Int) (s18 : List Xe) (s19 : Int) (w2 : AB) (s20 : Int) (w5 : List Int) : St := ⟨sp 45 0 [bx 2,rx 5,sI 6 s6,sD 18 (D.l Xe.D) s18,sI 19 s19,sI 20 s20],[cL 2 AB.D w2,(5,.row 3 1 (w5.map dZ))],[]⟩
def RE (s6 : Int) (s18 : List Xe) (s19 : Int) (w2 : AB) (o : (List Int)) : Ex × St := (.exit 2,⟨sp 45 0 [bx 2,rx 5,sI 6 s6],[cL 2 AB.D w2,(5,.row 3 1 (o.map dZ))],[]⟩)
theorem WL (rd : Option Nat) (h : Qz a8 b9 aA a7 aN aZ = some b6) : Lq 47 rd 3730 (RC a8 b9 aA a7 aN aZ) ((RE a8 b9 aA a7) b6) :=
  lL (fun s : Int × List Int => RC a8 b9 aA a7 s.1 s.2) (RE a8 b9 aA a7) (aN,aZ) (fun ⟨aN,aZ⟩ o h => by
  unfold E8 at h
  refine iB 21 h (fun h => ?_) fun h => ?_
  obtain ⟨o6,h11,h⟩ := bS h
  refine gl (WG rd h11) ?_
  exact lb h
  exact lb h) h
def Qx (w2 : AB) (s6 : Int) (w5 : List Int) : St := ⟨sp 45 0 [bx 2,rx 5,sI 6 s6],[cL 2 AB.D w2,(5,.row 3 1 (w5.map dZ))],[]⟩
def Qy (w2 : AB) (o : (List Int)) : Ex × St := (.exit 0,⟨sp 45 0 [rx 5],[(5,.row 3 1 (o.map dZ))],[]⟩)
theorem WJ (rd : Option Nat) (h : Qw a7 a8 aZ = some b6) : Lq 47 rd 58 (Qx a7 a8 aZ) ((Qy a7) b6) :=
  lL (fun s : Int × List Int => Qx a7 s.1 s.2) (Qy a7) (a8,aZ) (fun ⟨a8,aZ⟩ o h => by
  unfold E7 at h
  refine gN 13 dZ aZ ?_
  refine iB 14 h (fun h => ?_) fun h => ?_
  refine gN 19 Xe.D a7.trans ?_
  obtain ⟨o7,h12,h⟩ := bS h
  refine gl (WL rd h12) ?_
  exact lb h
  exact lb h) h
theorem aJz (h : Xd a7 a8 = some aZ) : AJ Tryz.prog 47 [.d (AB.D a7),dI a8] [] (.d ((D.l dZ) aZ)) [] := by
  unfold Xd at h
  apply g0 (o := aZ)
  refine gQ (CC dZ [a8]) ?_
  obtain ⟨o8,h13,h⟩ := bS h
  refine gL [.live [2,5,6],.keep [2,10],.ren 10 5,.sort] (WJ none h13) ?_
  exact lf h
theorem aI7 (h : Q3 a8 a7 = some aD) : AJ Tryz.prog 49 [dI a8,.eptr (D.cells (AB.D a7))] [] (.d (D.b aD)) [] := by
  unfold Q3 at h
  apply g0 (o := aD)
  refine xX 7 X8.D h fun x1 h => ?_
  refine iB 11 h (fun h => ?_) fun h => ?_
  exact lf h
  refine xX 15 X8.D h fun x2 h => ?_
  exact lf h
def Sl (s0 : List Int) (s1 : AB) (s7 s8 : Int) : St := ⟨sp 19 0 [sD 0 (D.l dZ) s0,(1,.clo (.func 49) [] [.eptr (D.cells (AB.D s1))]),sI 7 s7,sI 8 s8],[],[]⟩
def Sm (s0 : List Int) (s1 : AB) (s7 : Int) (o : Unit ⊕ Int) : Ex × St := match o with
  | .inl o => (.exit 0,⟨sp 19 0 [],[],[]⟩)
  | .inr o => (.ret,⟨sp 19 0 [sI 4 o],[],[]⟩)
theorem ZQ (rd : Option Nat) (h : Sk aZ a7 a8 aA = some aF) : Lq 84 rd 26 (Sl aZ a7 a8 aA) ((Sm aZ a7 a8) aF) :=
  lL (fun s : Int => Sl aZ a7 a8 s) (Sm aZ a7 a8) aA (fun aA o h => by
  unfold F2 at h
  refine iB 9 h (fun h => ?_) fun h => ?_
  refine xX 14 dZ h fun x1 h => ?_
  obtain ⟨r2,h3,h⟩ := bS h
  refine gQ (aI7 h3) ?_
  cases r2
  replace h := CO h
  refine gW 16 (.ret (.d (D.b false))) ?_
  exact lb h
  replace h := CP h
  refine gW 16 (.ret (.d (D.b true))) ?_
  exact lb h
  exact lb h) h
theorem aLc (h : Y7 aZ a7 = some a8) : AJ Tryz.prog 84 [.d ((D.l dZ) aZ),.clo (.func 49) [] [.eptr (D.cells (AB.D a7))]] [] (dI a8) [] := by
  unfold Y7 at h
  apply g0 (o := a8)
  refine gN 7 dZ aZ ?_
  obtain ⟨o3,h5,h⟩ := bS h
  refine gl (ZQ none h5) ?_
  replace h := AK h
  rcases h with ⟨o4,rfl,h⟩ | ⟨o5,rfl,h⟩
  exact lf h
  exact lf h
theorem aMh (h : Z7 aZ a7 = some aD) : AJ Tryz.prog 48 [.d ((D.l dZ) aZ),.clo (.func 49) [] [.eptr (D.cells (AB.D a7))]] [] (.d (D.b aD)) [] := by
  unfold Z7 at h
  apply g0 (o := aD)
  obtain ⟨r1,h1,h⟩ := bS h
  refine gC 7 (aLc h1) ?_
  exact lf h
theorem aI8 (h : Q4 a8 a7 = some aD) : AJ Tryz.prog 50 [dI a8,.eptr (D.cells (AB.D a7))] [] (.d (D.b aD)) [] := by
  unfold Q4 at h
  apply g0 (o := aD)
  refine xX 7 X8.D h fun x1 h => ?_
  exact lf h
def Sp (s0 : List Int) (s1 : AB) (s7 s8 : Int) : St := ⟨sp 19 0 [sD 0 (D.l dZ) s0,(1,.clo (.func 50) [] [.eptr (D.cells (AB.D s1))]),sI 7 s7,sI 8 s8],[],[]⟩
def Sq (s0 : List Int) (s1 : AB) (s7 : Int) (o : Unit ⊕ Int) : Ex × St := match o with
  | .inl o => (.exit 0,⟨sp 19 0 [],[],[]⟩)
  | .inr o => (.ret,⟨sp 19 0 [sI 4 o],[],[]⟩)
theorem ZS (rd : Option Nat) (h : Sn aZ a7 a8 aA = some aF) : Lq 84 rd 26 (Sp aZ a7 a8 aA) ((Sq aZ a7 a8) aF) :=
  lL (fun s : Int => Sp aZ a7 a8 s) (Sq aZ a7 a8) aA (fun aA o h => by
  unfold F3 at h
  refine iB 9 h (fun h => ?_) fun h => ?_
  refine xX 14 dZ h fun x1 h => ?_
  obtain ⟨r2,h3,h⟩ := bS h
  refine gQ (aI8 h3) ?_
  cases r2
  replace h := CO h
  refine gW 16 (.ret (.d (D.b false))) ?_
  exact lb h
  replace h := CP h
  refine gW 16 (.ret (.d (D.b true))) ?_
  exact lb h
  exact lb h) h
theorem aLf (h : Y8 aZ a7 = some a8) : AJ Tryz.prog 84 [.d ((D.l dZ) aZ),.clo (.func 50) [] [.eptr (D.cells (AB.D a7))]] [] (dI a8) [] := by
  unfold Y8 at h
  apply g0 (o := a8)
  refine gN 7 dZ aZ ?_
  obtain ⟨o3,h5,h⟩ := bS h
  refine gl (ZS none h5) ?_
  replace h := AK h
  rcases h with ⟨o4,rfl,h⟩ | ⟨o5,rfl,h⟩
  exact lf h
  exact lf h
theorem aMk (h : Z8 aZ a7 = some aD) : AJ Tryz.prog 48 [.d ((D.l dZ) aZ),.clo (.func 50) [] [.eptr (D.cells (AB.D a7))]] [] (.d (D.b aD)) [] := by
  unfold Z8 at h
  apply g0 (o := aD)
  obtain ⟨r1,h1,h⟩ := bS h
  refine gC 7 (aLf h1) ?_
  exact lf h
theorem S0 (h : Yf a7 a8 = some aA) : AJ Tryz.prog 18 [.d (AB.D a7),dI a8] [] (dI aA) [] := by
  unfold Yf at h
  apply g0 (o := aA)
  refine gW 2 .frz ?_
  refine iB 8 h (fun h => ?_) fun h => ?_
  exact lf h
  refine gN 12 X8.D a7.states ?_
  refine iB 14 h (fun h => ?_) fun h => ?_
  exact lf h
  obtain ⟨r1,h3,h⟩ := bS h
  refine gC 17 (aJz h3) ?_
  obtain ⟨r2,h4,h⟩ := bS h
  refine gC 21 (aMh h4) ?_
  refine iB 18 h (fun h => ?_) fun h => ?_
  exact lf h
  obtain ⟨r3,h6,h⟩ := bS h
  refine gC 26 (aMk h6) ?_
  refine iB 23 h (fun h => ?_) fun h => ?_
  exact lf h
  exact lf h
theorem Wl (rd : Option Nat) (h : Wj a8 bA aA aN aD a7 = some aR) : Lq 19 rd 119607 ⟨sp 24 0 [bx 2,sI 5 a8,sD 8 (D.l X2.D) bA,sI 9 aA,sI 10 aN,sD 20 D.b aD],[cL 2 AB.D a7],[]⟩ (.normal,⟨sp 24 0 [bx 2,sI 5 aR,sD 8 (D.l X2.D) bA,sI 9 aA,sI 10 aN],[cL 2 AB.D a7],[]⟩) := by
  unfold Wj at h
  apply g0 (o := aR)
  cases aD
  replace h := CO h
  exact lp h
  replace h := CP h
  exact lp h
theorem Wi (rd : Option Nat) (h : RQ a8 bA aA aN aR aD a7 = some aU) : Lq 19 rd 29901 ⟨sp 24 0 [bx 2,sI 5 a8,sD 8 (D.l X2.D) bA,sI 9 aA,sI 10 aN,sI 17 aR,sD 18 D.b aD],[cL 2 AB.D a7],[]⟩ (match (generalizing := false) aU with
  | .inl aU => (.normal,⟨sp 24 0 [bx 2,sI 5 aU,sD 8 (D.l X2.D) bA,sI 9 aA,sI 10 aN],[cL 2 AB.D a7],[]⟩)
  | .inr aU => (.ret,⟨sp 24 0 [sI 4 1],[],[]⟩)) := by
  unfold RQ at h
  apply g0 (o := aU)
  cases aD
  replace h := CO h
  obtain ⟨o3,h6,h⟩ := bS h
  refine gl (Wl rd h6) ?_
  exact lp h
  replace h := CP h
  exact lp h
theorem Wh (rd : Option Nat) (h : OU a8 bA aA aN aR a7 = some aU) : Lq 19 rd 7475 ⟨sp 24 0 [bx 2,sI 5 a8,sD 8 (D.l X2.D) bA,sI 9 aA,sI 10 aN,sI 17 aR],[cL 2 AB.D a7],[]⟩ (match (generalizing := false) aU with
  | .inl aU => (.normal,⟨sp 24 0 [bx 2,sI 5 aU,sD 8 (D.l X2.D) bA,sI 9 aA,sI 10 aN],[cL 2 AB.D a7],[]⟩)
  | .inr aU => (.ret,⟨sp 24 0 [sI 4 1],[],[]⟩)) := by
  unfold OU at h
  apply g0 (o := aU)
  obtain ⟨o4,h7,h⟩ := bS h
  refine gl (Wi rd h7) ?_
  replace h := AK h
  rcases h with ⟨o5,rfl,h⟩ | ⟨o6,rfl,h⟩
  exact lp h
  exact lp h
theorem Wg (rd : Option Nat) (h : Lb a8 bA aA aN a7 = some aU) : Lq 19 rd 934 ⟨sp 24 0 [bx 2,sI 5 a8,sD 8 (D.l X2.D) bA,sI 9 aA,sI 10 aN],[cL 2 AB.D a7],[]⟩ (match (generalizing := false) aU with
  | .inl aU => (.normal,⟨sp 24 0 [bx 2,sI 5 aU,sD 8 (D.l X2.D) bA,sI 9 aA,sI 10 aN],[cL 2 AB.D a7],[]⟩)
  | .inr aU => (.ret,⟨sp 24 0 [sI 4 1],[],[]⟩)) := by
  unfold Lb at h
  apply g0 (o := aU)
  refine xX 12 X2.D h fun x1 h => ?_
  obtain ⟨r2,h3,h⟩ := bS h
  refine gC 17 (S0 h3) ?_
  obtain ⟨o7,h8,h⟩ := bS h
  refine gl (Wh rd h8) ?_
  replace h := AK h
  rcases h with ⟨o8,rfl,h⟩ | ⟨o9,rfl,h⟩
  exact lp h
  exact lp h
def RS (s8 : List X2) (s9 : Int) (w2 : AB) (s5 s10 : Int) : St := ⟨sp 24 0 [bx 2,sI 5 s5,sD 8 (D.l X2.D) s8,sI 9 s9,sI 10 s10],[cL 2 AB.D w2],[]⟩
def RT (s8 : List X2) (s9 : Int) (w2 : AB) (o : Int ⊕ Unit) : Ex × St := match o with
  | .inl o => (.exit 0,⟨sp 24 0 [sI 5 o],[],[]⟩)
  | .inr o => (.ret,⟨sp 24 0 [sI 4 1],[],[]⟩)
theorem Wn (rd : Option Nat) (h : RR bA a8 a7 aA aN = some aU) : Lq 19 rd 58 (RS bA a8 a7 aA aN) ((RT bA a8 a7) aU) :=
  lL (fun s : Int × Int => RS bA a8 a7 s.1 s.2) (RT bA a8 a7) (aA,aN) (fun ⟨aA,aN⟩ o h => by
  unfold EP at h
  refine iB 11 h (fun h => ?_) fun h => ?_
  obtain ⟨o10,h9,h⟩ := bS h
  refine gl (Wg rd h9) ?_
  replace h := AK h
  rcases h with ⟨o11,rfl,h⟩ | ⟨o12,rfl,h⟩
  exact lb h
  exact lb h
  exact lb h) h
theorem aDv (h : Xh a7 bA = some a8) : AJ Tryz.prog 19 [.d (AB.D a7),.d ((D.l X2.D) bA)] [] (dI a8) [] := by
  unfold Xh at h
  apply g0 (o := a8)
  refine gN 9 X2.D bA ?_
  obtain ⟨o13,h10,h⟩ := bS h
  refine gl (Wn none h10) ?_
  replace h := AK h
  rcases h with ⟨o14,rfl,h⟩ | ⟨o15,rfl,h⟩
  exact lf h
  exact lf h
theorem ZB (rd : Option Nat) (h : aD8 a8 aA aN bB aR bC aD = some bD) : Lq 91 rd 7475 ⟨sp 27 0 [sI 1 a8,sD 5 dU aA,sI 6 aN,sD 9 (D.l X4.D) bB,sI 10 aR,sI 11 bC,sD 19 D.b aD],[],[]⟩ (.normal,⟨sp 27 0 [sI 1 a8,sD 5 dU bD,sD 9 (D.l X4.D) bB,sI 10 aR,sI 11 bC],[],[]⟩) := by
  unfold aD8 at h
  apply g0 (o := bD)
  cases aD
  replace h := CO h
  exact lp h
  replace h := CP h
  obtain ⟨h4,h⟩ := cS h
  refine gQ h4 ?_
  exact lp h
theorem ZA (rd : Option Nat) (h : aD7 a8 aA bB aN aR = some bC) : Lq 91 rd 934 ⟨sp 27 0 [sI 1 a8,sD 5 dU aA,sD 9 (D.l X4.D) bB,sI 10 aN,sI 11 aR],[],[]⟩ (.normal,⟨sp 27 0 [sI 1 a8,sD 5 dU bC,sD 9 (D.l X4.D) bB,sI 10 aN,sI 11 aR],[],[]⟩) := by
  unfold aD7 at h
  apply g0 (o := bC)
  refine xX 14 X4.D h fun x1 h => ?_
  obtain ⟨o2,h5,h⟩ := bS h
  refine gl (ZB rd h5) ?_
  exact lp h
def SX (s1 : Int) (s9 : List X4) (s10 s5 s11 : Int) : St := ⟨sp 27 0 [sI 1 s1,sD 5 dU s5,sD 9 (D.l X4.D) s9,sI 10 s10,sI 11 s11],[],[]⟩
def SY (s1 : Int) (s9 : List X4) (s10 o : Int) : Ex × St := (.exit 0,⟨sp 27 0 [sD 5 dU o],[],[]⟩)
theorem ZE (rd : Option Nat) (h : ZC a8 bB aA aN aR = some bC) : Lq 91 rd 58 (SX a8 bB aA aN aR) ((SY a8 bB aA) bC) :=
  lL (fun s : Int × Int => SX a8 bB aA s.1 s.2) (SY a8 bB aA) (aN,aR) (fun ⟨aN,aR⟩ o h => by
  unfold L1 at h
  refine iB 12 h (fun h => ?_) fun h => ?_
  obtain ⟨o3,h6,h⟩ := bS h
  refine gl (ZA rd h6) ?_
  exact lb h
  exact lb h) h
theorem aKy (h : Y0 a7 a8 = some aA) : AJ Tryz.prog 91 [.d (AB.D a7),dI a8] [] (.d (dU aA)) [] := by
  unfold Y0 at h
  apply g0 (o := aA)
  refine gN 10 X4.D a7.symbols ?_
  obtain ⟨o4,h7,h⟩ := bS h
  refine gl (ZE none h7) ?_
  exact lf h
theorem aJc (h : Qa = some bE) : AJ Tryz.prog 167 [.clo (.func 168) [] []] [] (.box 0 0) [(0,.cells ([.nil,.clo (.func 168) [] []]))] := by
  unfold Qa at h
  refine XG.call (ks := []) mixed fun us => ?_
  apply g0 (o := bE)
  exact lX h [.live [2],.keep [5,997],.ren 5 0,.sort]
theorem aHn (h : Zu aD = some aI) : AJ Tryz.prog 170 [.d (D.b aD)] [] (.d (X0.D aI)) [] := by
  unfold Zu at h
  apply g0 (o := aI)
  exact lf h
theorem aGh (h : Q5 aI aQ = some aD) : AJ Tryz.prog 168 [.d (X0.D aI),.d (X0.D aQ)] [] (.d (D.b aD)) [] := by
  unfold Q5 at h
  apply g0 (o := aD)
  refine iB 5 h (fun h => ?_) fun h => ?_
  exact lf h
  refine iB 16 h (fun h => ?_) fun h => ?_
  exact lf h
  refine iB 25 h (fun h => ?_) fun h => ?_
  exact lf h
  refine iB 37 h (fun h => ?_) fun h => ?_
  exact lf h
  exact lf h
theorem aHo (h : Zv aI aQ bG = some a8) : AJ Tryz.prog 181 [.d (X0.D aI),.d (X0.D aQ),.eptr [.ptr ((D.cells ((D.l X0.D) bG)) ++ [.v (.func (.func 168) #[] #[])])]] [] (dI a8) [] := by
  unfold Zv at h
  apply g0 (o := a8)
  obtain ⟨r1,h1,h⟩ := bS h
  refine gQ (aGh h1) ?_
  cases r1
  replace h := CO h
  refine gW 13 (.ret (.d (D.b false))) ?_
  obtain ⟨r2,h3,h⟩ := bS h
  refine gQ (aGh h3) ?_
  cases r2
  replace h := CO h
  refine gW 21 (.ret (.d (D.b false))) ?_
  exact lf h
  replace h := CP h
  refine gW 21 (.ret (.d (D.b true))) ?_
  exact lf h
  replace h := CP h
  refine gW 13 (.ret (.d (D.b true))) ?_
  exact lf h
theorem YW (rd : Option Nat) (h : aD6 bG bH a8 aA aN aR aD aI = some bI) : Lq 180 rd 1931 ⟨sp 49 0 [sD 0 (D.l X0.D) bG,(2,.clo (.func 181) [] [.eptr [.ptr ((D.cells ((D.l X0.D) bH)) ++ [.v (.func (.func 168) #[] #[])])]]),bx 4,sI 8 a8,sI 9 aA,sI 10 aN,sI 11 aR,sD 31 D.b aD],[cL 4 X0.D aI],[]⟩ (.normal,⟨sp 49 0 [sD 0 (D.l X0.D) bG,(2,.clo (.func 181) [] [.eptr [.ptr ((D.cells ((D.l X0.D) bH)) ++ [.v (.func (.func 168) #[] #[])])]]),bx 4,sI 8 a8,sI 9 bI.1,sI 10 bI.2],[cL 4 X0.D aI],[]⟩) := by
  unfold aD6 at h
  apply g0 (o := bI)
  cases aD
  replace h := CO h
  exact lp h
  replace h := CP h
  exact lp h
theorem YV (rd : Option Nat) (h : aD5 bG bH a8 aA aN aI = some bI) : Lq 180 rd 241 ⟨sp 49 0 [sD 0 (D.l X0.D) bG,(2,.clo (.func 181) [] [.eptr [.ptr ((D.cells ((D.l X0.D) bH)) ++ [.v (.func (.func 168) #[] #[])])]]),bx 4,sI 8 a8,sI 9 aA,sI 10 aN],[cL 4 X0.D aI],[]⟩ (.normal,⟨sp 49 0 [sD 0 (D.l X0.D) bG,(2,.clo (.func 181) [] [.eptr [.ptr ((D.cells ((D.l X0.D) bH)) ++ [.v (.func (.func 168) #[] #[])])]]),bx 4,sI 8 a8,sI 9 bI.1,sI 10 bI.2],[cL 4 X0.D aI],[]⟩) := by
  unfold aD5 at h
  apply g0 (o := bI)
  refine gQ (of_decide_eq_true rfl : (0 : Int) ≤ 1) <| xX 27 X0.D h fun x1 h => ?_
  obtain ⟨r2,h3,h⟩ := bS h
  refine gC 30 (aHo h3) ?_
  obtain ⟨o3,h5,h⟩ := bS h
  refine gl (YW rd h5) ?_
  exact lp h
def SV (s0 s2 : List X0) (s8 : Int) (w4 : X0) (s9 s10 : Int) : St := ⟨sp 49 0 [sD 0 (D.l X0.D) s0,(2,.clo (.func 181) [] [.eptr [.ptr ((D.cells ((D.l X0.D) s2)) ++ [.v (.func (.func 168) #[] #[])])]]),bx 4,sI 8 s8,sI 9 s9,sI 10 s10],[cL 4 X0.D w4],[]⟩
def SW (s0 s2 : List X0) (s8 : Int) (w4 : X0) (o : Int) : Ex × St := (.exit 0,⟨sp 49 0 [sD 0 (D.l X0.D) s0,(2,.clo (.func 181) [] [.eptr [.ptr ((D.cells ((D.l X0.D) s2)) ++ [.v (.func (.func 168) #[] #[])])]]),bx 4,sI 8 s8,sI 9 o],[cL 4 X0.D w4],[]⟩)
theorem YZ (rd : Option Nat) (h : YX bG bH a8 aI aA aN = some aR) : Lq 180 rd 60 (SV bG bH a8 aI aA aN) ((SW bG bH a8 aI) aR) :=
  lL (fun s : Int × Int => SV bG bH a8 aI s.1 s.2) (SW bG bH a8 aI) (aA,aN) (fun ⟨aA,aN⟩ o h => by
  unfold Ly at h
  refine iB 17 h (fun h => ?_) fun h => ?_
  obtain ⟨o4,h6,h⟩ := bS h
  refine gl (YV rd h6) ?_
  exact lb h
  exact lb h) h
theorem aGy (h : Xz bG aI bH = some aL) : AJ Tryz.prog 180 [.d ((D.l X0.D) bG),.d (X0.D aI),.clo (.func 181) [] [.eptr [.ptr ((D.cells ((D.l X0.D) bH)) ++ [.v (.func (.func 168) #[] #[])])]]] [] (.tup [dI aL.1,.d (D.b aL.2)]) [] := by
  unfold Xz at h
  apply g0 (o := aL)
  refine gN 13 X0.D bG ?_
  obtain ⟨o5,h7,h⟩ := bS h
  refine gl (YZ none h7) ?_
  refine iB 39 h (fun h => ?_) fun h => ?_
  refine xX 43 X0.D h fun x6 h => ?_
  obtain ⟨r7,h10,h⟩ := bS h
  refine gC 46 (aHo h10) ?_
  exact lf h
  exact lf h
theorem aJg (h : Qe a8 bG = some bH) : AJ Tryz.prog 182 [.nil,.d (D.i .i64 a8),.row 0] [(0,.row 62 4 (bG.map X0.D))] (.row 1) [rW 1 62 4 X0.D bH] :=
  aFn (ρ := ⟨fun n => if n = 22 then 182 else if n = 29 then 187 else 188,fun n => if n = 0 then 0 else if n = 3 then 3 else if n = 4 then 4 else if n = 24 then 44 else 62,id⟩) (by_ := 40) X0.D mixed rfl ⟨ "slices.Insert[[]proctor/api.Value,proctor/api.Value]", by decide,(Tryz.func182).trans (by kernel_rfl)⟩ Tryz.underlying3 Tryz.underlying4 Tryz.underlying44 (by kernel_rfl) (by decide) a8 bG bH h
theorem aA5 (rd : Option Nat) (us : List Value) (h : aA4 a8 aD b8 aI = some bJ) : Lq 169 rd 61 ⟨sp 34 0 [bx 2,bx 3,sI 5 a8,sD 6 D.b aD,sD 20 D.b b8],[(0,.cells ([.nil,.clo (.func 168) [] []])),(2,.cells ([.box 0 0])),cL 3 X0.D aI,(997,.vals [.box 0 0] us)],[]⟩ (.normal,⟨sp 34 0 [sD 6 D.b aD],[(0,.cells ([.row 529,.clo (.func 168) [] []])),rW 529 62 4 X0.D bJ,(997,.vals [.box 0 0] us)],[]⟩) := by
  unfold aA4 at h
  apply g0 (o := bJ)
  cases b8
  replace h := CO h
  exact lP h [.live [6],.keep [0,997],.nilc 0 0 529 62 4,.sort]
  replace h := CP h
  refine gQ (CC X0.D [aI]) ?_
  obtain ⟨r2,h3,h⟩ := bS h
  refine gG 29 (.cx true [(0,28)] [(1,29)] (.row 1) [rW 1 62 4 X0.D r2]) (aJg h3) ?_
  exact lP h [.live [6],.keep [0,29,997],.ren 29 529,.sort]
theorem aL9 (h : Z2 aI = some bK) : AJ Tryz.prog 169 [.box 0 0,.d (X0.D aI)] [(0,.cells ([.nil,.clo (.func 168) [] []]))] (.d (D.b bK.1)) [(0,.cells ([.row 1,.clo (.func 168) [] []])),rW 1 62 4 X0.D bK.2] := by
  unfold Z2 at h
  refine XG.call (ks := [0]) mixed fun us => ?_
  apply g0 (o := bK)
  obtain ⟨r1,h1,h⟩ := bS h
  refine gG 16 (.lend [0,2] (.tup [dI r1.1,.d (D.b r1.2)])) (aGy h1) ?_
  obtain ⟨o3,h4,h⟩ := bS h
  refine gl (aA5 none us h4) ?_
  exact lX h [.live [4],.keep [0,529,997],.ren 529 1,.sort]
theorem aJh (h : Qf a8 bG bH = some bL) : AJ Tryz.prog 182 [.row 0,.d (D.i .i64 a8),.row 1] [rW 0 62 4 X0.D bG,(1,.row 62 4 (bH.map X0.D))] (.row 2) [rW 2 62 4 X0.D bL] :=
  aFm (ρ := ⟨fun n => if n = 22 then 182 else if n = 29 then 187 else 188,fun n => if n = 0 then 0 else if n = 3 then 3 else if n = 4 then 4 else if n = 24 then 44 else 62,id⟩) (by_ := 40) X0.D mixed rfl ⟨ "slices.Insert[[]proctor/api.Value,proctor/api.Value]", by decide,(Tryz.func182).trans (by kernel_rfl)⟩ Tryz.underlying3 Tryz.underlying4 Tryz.underlying44 (by kernel_rfl) (by decide) (by decide)
    (fun args w => run_callFunc_extern Tryz.func187 (by kernel_rfl) (by kernel_rfl) (by kernel_rfl) (e := Go.Extern.SlicesOverlaps.overlaps #[44,44] #[4]) (by kernel_rfl) args w) a8 bG bH bL h
theorem aA2 (rd : Option Nat) (us : List Value) (h : aA1 a8 aD b8 aI bG = some bJ) : Lq 169 rd 61 ⟨sp 34 0 [bx 2,bx 3,sI 5 a8,sD 6 D.b aD,sD 20 D.b b8],[(0,.cells ([.row 501,.clo (.func 168) [] []])),(2,.cells ([.box 0 0])),cL 3 X0.D aI,rW 501 62 4 X0.D bG,(997,.vals [.box 0 0] us)],[]⟩ (.normal,⟨sp 34 0 [sD 6 D.b aD],[(0,.cells ([.row 529,.clo (.func 168) [] []])),rW 529 62 4 X0.D bJ,(997,.vals [.box 0 0] us)],[]⟩) := by
  unfold aA1 at h
  apply g0 (o := bJ)
  cases b8
  replace h := CO h
  exact lP h [.live [6],.keep [0,501,997],.ren 501 529,.sort]
  replace h := CP h
  refine gQ (CC X0.D [aI]) ?_
  obtain ⟨r2,h3,h⟩ := bS h
  refine gG 29 (.cx true [(0,501),(1,28)] [(2,29)] (.row 2) [rW 2 62 4 X0.D r2]) (aJh h3) ?_
  exact lP h [.live [6],.keep [0,29,997],.ren 29 529,.sort]
theorem aHe (h : Yz aI bG = some bK) : AJ Tryz.prog 169 [.box 0 0,.d (X0.D aI)] [(0,.cells ([.row 1,.clo (.func 168) [] []])),rW 1 62 4 X0.D bG] (.d (D.b bK.1)) [(0,.cells ([.row 2,.clo (.func 168) [] []])),rW 2 62 4 X0.D bK.2] := by
  unfold Yz at h
  refine XG.call (ks := [0]) mixed fun us => ?_
  apply g0 (o := bK)
  obtain ⟨r1,h1,h⟩ := bS h
  refine gG 16 (.lend [0,1,2] (.tup [dI r1.1,.d (D.b r1.2)])) (aGy h1) ?_
  obtain ⟨o3,h4,h⟩ := bS h
  refine gL [.live [2,3,5,6,20],.keep [0,1,2,3,997],.ren 1 501,.sort] (aA2 none us h4) ?_
  exact lX h [.live [4],.keep [0,529,997],.ren 529 2,.sort]
theorem aJi (h : Qg bG = some bH) : AJ Tryz.prog 183 [.row 0] [rW 0 62 4 X0.D bG] (.row 1) [rW 0 62 4 X0.D bG,rW 1 62 4 X0.D bH] :=
  UA (ρ := ⟨fun _ => 183,fun n => if n = 4 then 4 else if n = 22 then 44 else 62,id⟩) (by_ := 40) X0.D rfl rfl (aHw mixed ⟨ "slices.Clone[[]proctor/api.Value,proctor/api.Value]", by decide,(Tryz.func183).trans (by kernel_rfl)⟩ Tryz.underlying4 Tryz.underlying44 (by kernel_rfl) (by kernel_rfl) (by kernel_rfl) (by kernel_rfl)) (by kernel_rfl) (by decide) bG bH h
theorem aJd (h : Qb bG = some bM) : AJ Tryz.prog 171 [.box 0 0] [(0,.cells ([.row 1,.clo (.func 168) [] []])),rW 1 62 4 X0.D bG] (.row 2) [(0,.cells ([.row 3,.clo (.func 168) [] []])),rW 2 62 4 X0.D bM.1,rW 3 62 4 X0.D bM.2] := by
  unfold Qb at h
  refine XG.call (ks := [0]) mixed fun us => ?_
  apply g0 (o := bM)
  obtain ⟨r1,h1,h⟩ := bS h
  refine gG 9 (.cx true [(0,1)] [(1,9)] (.row 1) [rW 0 62 4 X0.D bG,rW 1 62 4 X0.D r1]) (aJi h1) ?_
  exact lX h [.live [2],.keep [0,1,9,997],.ren 1 3,.ren 9 2,.sort]
theorem Vz (rd : Option Nat) (us : List Value) (h : QX a8 aD a7 = some bJ) : Lq 150 rd 29 ⟨sp 51 0 [sI 1 a8,bx 2,bx 5,sD 12 D.b aD],[cL 2 AB.D a7,(5,.cells ([.nil,.clo (.func 168) [] []])),(997,.vals [] us)],[]⟩ (.normal,⟨sp 51 0 [sI 1 a8,bx 2,bx 5],[cL 2 AB.D a7,(5,.cells ([.row 518,.clo (.func 168) [] []])),rW 518 62 4 X0.D bJ,(997,.vals [] us)],[]⟩) := by
  unfold QX at h
  apply g0 (o := bJ)
  cases aD
  replace h := CO h
  exact lP h [.live [1,2,5],.keep [2,5,997],.nilc 5 0 518 62 4,.sort]
  replace h := CP h
  obtain ⟨r2,h3,h⟩ := bS h
  refine gC 14 (aHn h3) ?_
  obtain ⟨r3,h4,h⟩ := bS h
  refine gG 15 (.cx false [(0,5)] [(1,15)] (.d (D.b r3.1)) [(0,.cells ([.row 1,.clo (.func 168) [] []])),rW 1 62 4 X0.D r3.2]) (aL9 h4) ?_
  obtain ⟨r4,h5,h⟩ := bS h
  refine gC 17 (aHn h5) ?_
  obtain ⟨r5,h6,h⟩ := bS h
  refine gG 18 (.cx false [(0,5),(1,15)] [(2,18)] (.d (D.b r5.1)) [(0,.cells ([.row 2,.clo (.func 168) [] []])),rW 2 62 4 X0.D r5.2]) (aHe h6) ?_
  exact lP h [.live [1,2,5],.keep [2,5,18,997],.ren 18 518,.sort]
theorem M6 (rd : Option Nat) (us : List Value) (h : OL a8 bB aA aN bN aR bC aD aW bG = some bJ) : Lq 150 rd 4010803 ⟨sp 51 0 [sI 1 a8,bx 5,bx 9,sD 20 (D.l X4.D) bB,sI 21 aA,sI 22 aN,sD 27 (D.l CX.D) bN,sI 28 aR,sI 29 bC,sD 42 D.b aD],[(5,.cells ([.row 518,.clo (.func 168) [] []])),cL 9 CX.D aW,rW 518 62 4 X0.D bG,(997,.vals [] us)],[]⟩ (.normal,⟨sp 51 0 [sI 1 a8,bx 5,sD 20 (D.l X4.D) bB,sI 21 aA,sI 22 aN,sD 27 (D.l CX.D) bN,sI 28 aR,sI 29 bC],[(5,.cells ([.row 546,.clo (.func 168) [] []])),rW 546 62 4 X0.D bJ,(997,.vals [] us)],[]⟩) := by
  unfold OL at h
  apply g0 (o := bJ)
  cases aD
  replace h := CO h
  exact lP h [.live [1,5,20,21,22,27,28,29],.keep [5,518,997],.ren 518 546,.sort]
  replace h := CP h
  obtain ⟨r9,h14,h⟩ := bS h
  refine gG 46 (.cx false [(0,5),(1,518)] [(2,46)] (.d (D.b r9.1)) [(0,.cells ([.row 2,.clo (.func 168) [] []])),rW 2 62 4 X0.D r9.2]) (aHe h14) ?_
  exact lP h [.live [1,5,20,21,22,27,28,29],.keep [5,46,997],.ren 46 546,.sort]
theorem V1 (rd : Option Nat) (us : List Value) (h : QY a8 bB aA aN bN aR bC bG = some bJ) : Lq 150 rd 501350 ⟨sp 51 0 [sI 1 a8,bx 5,sD 20 (D.l X4.D) bB,sI 21 aA,sI 22 aN,sD 27 (D.l CX.D) bN,sI 28 aR,sI 29 bC],[(5,.cells ([.row 518,.clo (.func 168) [] []])),rW 518 62 4 X0.D bG,(997,.vals [] us)],[]⟩ (.normal,⟨sp 51 0 [sI 1 a8,bx 5,sD 20 (D.l X4.D) bB,sI 21 aA,sI 22 aN,sD 27 (D.l CX.D) bN,sI 28 aR,sI 29 bC],[(5,.cells ([.row 546,.clo (.func 168) [] []])),rW 546 62 4 X0.D bJ,(997,.vals [] us)],[]⟩) := by
  unfold QY at h
  apply g0 (o := bJ)
  refine xX 31 CX.D h fun x8 h => ?_
  refine iB 36 h (fun h => ?_) fun h => ?_
  obtain ⟨o10,h15,h⟩ := bS h
  refine gl (M6 rd us h15) ?_
  exact lp h
  obtain ⟨o11,h16,h⟩ := bS h
  refine gl (M6 rd us h16) ?_
  exact lp h
def Qi (us : List Value) (s1 : Int) (s20 : List X4) (s21 s22 : Int) (s27 : List CX) (s28 s29 : Int) (w518 : List X0) : St := ⟨sp 51 0 [sI 1 s1,bx 5,sD 20 (D.l X4.D) s20,sI 21 s21,sI 22 s22,sD 27 (D.l CX.D) s27,sI 28 s28,sI 29 s29],[(5,.cells ([.row 518,.clo (.func 168) [] []])),rW 518 62 4 X0.D w518,(997,.vals [] us)],[]⟩
def Qj (us : List Value) (s1 : Int) (s20 : List X4) (s21 s22 : Int) (s27 : List CX) (s28 : Int) (o : (List X0)) : Ex × St := (.exit 2,⟨sp 51 0 [sI 1 s1,bx 5,sD 20 (D.l X4.D) s20,sI 21 s21,sI 22 s22],[(5,.cells ([.row 518,.clo (.func 168) [] []])),rW 518 62 4 X0.D o,(997,.vals [] us)],[]⟩)
theorem V8 (rd : Option Nat) (us : List Value) (h : V6 a8 bB aA aN bN aR bC bG = some bJ) : Lq 150 rd 31334 (Qi us a8 bB aA aN bN aR bC bG) ((Qj us a8 bB aA aN bN aR) bJ) :=
  lL (fun s : Int × List X0 => Qi us a8 bB aA aN bN aR s.1 s.2) (Qj us a8 bB aA aN bN aR) (bC,bG) (fun ⟨bC,bG⟩ o h => by
  unfold JC at h
  refine iB 30 h (fun h => ?_) fun h => ?_
  obtain ⟨o12,h17,h⟩ := bS h
  refine gl (V1 rd us h17) ?_
  exact lB h [.live [1,5,20,21,22,27,28,29],.keep [5,546,997],.ren 546 518,.sort]
  exact lb h) h
def QZ (us : List Value) (s1 : Int) (s20 : List X4) (s21 s22 : Int) (w518 : List X0) : St := ⟨sp 51 0 [sI 1 s1,bx 5,sD 20 (D.l X4.D) s20,sI 21 s21,sI 22 s22],[(5,.cells ([.row 518,.clo (.func 168) [] []])),rW 518 62 4 X0.D w518,(997,.vals [] us)],[]⟩
def Qh (us : List Value) (s1 : Int) (s20 : List X4) (s21 : Int) (o : (List X0)) : Ex × St := (.exit 0,⟨sp 51 0 [bx 5],[(5,.cells ([.row 518,.clo (.func 168) [] []])),rW 518 62 4 X0.D o,(997,.vals [] us)],[]⟩)
theorem V5 (rd : Option Nat) (us : List Value) (h : V3 a8 bB aA aN bG = some bJ) : Lq 150 rd 122 (QZ us a8 bB aA aN bG) ((Qh us a8 bB aA) bJ) :=
  lL (fun s : Int × List X0 => QZ us a8 bB aA s.1 s.2) (Qh us a8 bB aA) (aN,bG) (fun ⟨aN,bG⟩ o h => by
  unfold JB at h
  refine iB 23 h (fun h => ?_) fun h => ?_
  refine xX 24 X4.D h fun x7 h => ?_
  refine gN 28 CX.D x7.args ?_
  obtain ⟨o13,h18,h⟩ := bS h
  refine gl (V8 rd us h18) ?_
  exact lb h
  exact lb h) h
theorem aJu (h : Xa a7 a8 = some bG) : AJ Tryz.prog 150 [.d (AB.D a7),dI a8] [] (.row 0) [rW 0 62 4 X0.D bG] := by
  unfold Xa at h
  refine XG.call (ks := []) mixed fun us => ?_
  apply g0 (o := bG)
  refine gW 10 (.cx false [] [(0,417)] (.box 0 0) [(0,.cells ([.nil,.clo (.func 168) [] []]))]) <| gW 21 (.int (a7.symbols.length : Int)) ?_
  obtain ⟨r1,h1,h⟩ := bS h
  refine gQ (aJc h1) ?_
  obtain ⟨o6,h7,h⟩ := bS h
  refine gL [.live [1,2,5,12],.keep [2,417,997],.ren 417 5,.sort] (Vz none us h7) <| gQ (FA X4.D a7.symbols) ?_
  obtain ⟨o14,h19,h⟩ := bS h
  refine gl (V5 none us h19) ?_
  obtain ⟨r15,h20,h⟩ := bS h
  refine gG 50 (.cx false [(0,5),(1,518)] [(2,50),(3,457)] (.row 2) [(0,.cells ([.row 3,.clo (.func 168) [] []])),rW 2 62 4 X0.D r15.1,rW 3 62 4 X0.D r15.2]) (aJd h20) ?_
  exact lX h [.live [4],.keep [50,997],.ren 50 0,.sort]
def Sw (s0 : List X0) (s7 : Int) (w3 : X0) (s8 : Int) : St := ⟨sp 19 0 [sD 0 (D.l X0.D) s0,bx 3,sI 7 s7,sI 8 s8],[cL 3 X0.D w3],[]⟩
def Sx (s0 : List X0) (s7 : Int) (w3 : X0) (o : Unit ⊕ Int) : Ex × St := match o with
  | .inl o => (.exit 0,⟨sp 19 0 [],[],[]⟩)
  | .inr o => (.ret,⟨sp 19 0 [sI 4 o],[],[]⟩)
theorem aAa (rd : Option Nat) (h : ZY bG a8 aI aA = some aF) : Lq 172 rd 26 (Sw bG a8 aI aA) ((Sx bG a8 aI) aF) :=
  lL (fun s : Int => Sw bG a8 aI s) (Sx bG a8 aI) aA (fun aA o h => by
  unfold MA at h
  refine iB 9 h (fun h => ?_) fun h => ?_
  refine xX 14 X0.D h fun x1 h => ?_
  refine iB 16 h (fun h => ?_) fun h => ?_
  exact lb h
  exact lb h
  exact lb h) h
theorem aLi (h : Yd bG aI = some a8) : AJ Tryz.prog 172 [.d ((D.l X0.D) bG),.d (X0.D aI)] [] (dI a8) [] := by
  unfold Yd at h
  apply g0 (o := a8)
  refine gN 7 X0.D bG ?_
  obtain ⟨o2,h4,h⟩ := bS h
  refine gl (aAa none h4) ?_
  replace h := AK h
  rcases h with ⟨o3,rfl,h⟩ | ⟨o4,rfl,h⟩
  exact lf h
  exact lf h
theorem aHg (h : Z5 bG aI = some aD) : AJ Tryz.prog 151 [.d ((D.l X0.D) bG),.d (X0.D aI)] [] (.d (D.b aD)) [] := by
  unfold Z5 at h
  apply g0 (o := aD)
  obtain ⟨r1,h1,h⟩ := bS h
  refine gC 7 (aLi h1) ?_
  exact lf h
theorem aJf (h : Qd a8 = some bG) : AJ Tryz.prog 173 [.nil,.d (D.i .i64 a8)] [] (.row 0) [rW 0 62 4 X0.D bG] :=
  aBq (ρ := ⟨fun _ => 173,fun a8 => if a8 = 0 then 0 else if a8 = 3 then 3 else if a8 = 4 then 4 else if a8 = 9 then 9 else if a8 = 20 then 20 else if a8 = 22 then 44 else 62,id⟩) (by_ := 40) X0.D rfl rfl (aNl mixed ⟨ "slices.Grow[[]proctor/api.Value,proctor/api.Value]", by decide,(Tryz.func173).trans (by kernel_rfl)⟩ Tryz.underlying0 Tryz.underlying3 Tryz.underlying4 Tryz.underlying9 Tryz.underlying20 Tryz.underlying44 (by kernel_rfl) (by kernel_rfl) (by kernel_rfl) (by kernel_rfl) (by kernel_rfl) (by kernel_rfl) (by kernel_rfl) (by kernel_rfl) (by kernel_rfl) (by kernel_rfl) (by kernel_rfl) (by kernel_rfl)) (by kernel_rfl) (by decide) a8 bG h
theorem XH (rd : Option Nat) (h : aDy bO a8 bP aA aN aD = some bE) : Lq 153 rd 14951 ⟨sp 36 0 [sD 0 (D.l (D.l X0.D)) bO,sI 3 a8,sD 9 (D.l (D.l X0.D)) bP,sI 10 aA,sI 11 aN,sD 20 D.b aD],[],[]⟩ (.normal,⟨sp 36 0 [sD 0 (D.l (D.l X0.D)) bO,sI 3 a8,sD 9 (D.l (D.l X0.D)) bP,sI 10 aA,sI 11 aN],[],[]⟩) := by
  unfold aDy at h
  apply g0 (o := bE)
  cases aD
  replace h := CO h
  exact lp h
  replace h := CP h
  cases h
theorem XF (rd : Option Nat) (h : aDx bO a8 bP aA aN = some aR) : Lq 153 rd 934 ⟨sp 36 0 [sD 0 (D.l (D.l X0.D)) bO,sI 3 a8,sD 9 (D.l (D.l X0.D)) bP,sI 10 aA,sI 11 aN],[],[]⟩ (.normal,⟨sp 36 0 [sD 0 (D.l (D.l X0.D)) bO,sI 3 aR,sD 9 (D.l (D.l X0.D)) bP,sI 10 aA,sI 11 aN],[],[]⟩) := by
  unfold aDx at h
  apply g0 (o := aR)
  refine xX 13 (D.l X0.D) h fun x1 h => ?_
  refine gN 17 X0.D x1 ?_
  obtain ⟨o2,h4,h⟩ := bS h
  refine gl (XH rd h4) ?_
  exact lp h
def Rs (s0 s9 : List (List X0)) (s10 s3 s11 : Int) : St := ⟨sp 36 0 [sD 0 (D.l (D.l X0.D)) s0,sI 3 s3,sD 9 (D.l (D.l X0.D)) s9,sI 10 s10,sI 11 s11],[],[]⟩
def Rt (s0 s9 : List (List X0)) (s10 o : Int) : Ex × St := (.exit 0,⟨sp 36 0 [sD 0 (D.l (D.l X0.D)) s0,sI 3 o],[],[]⟩)
theorem XK (rd : Option Nat) (h : XI bO bP a8 aA aN = some aR) : Lq 153 rd 58 (Rs bO bP a8 aA aN) ((Rt bO bP a8) aR) :=
  lL (fun s : Int × Int => Rs bO bP a8 s.1 s.2) (Rt bO bP a8) (aA,aN) (fun ⟨aA,aN⟩ o h => by
  unfold Ll at h
  refine iB 12 h (fun h => ?_) fun h => ?_
  obtain ⟨o3,h5,h⟩ := bS h
  refine gl (XF rd h5) ?_
  exact lb h
  exact lb h) h
def Ru (s25 : List (List X0)) (s26 s27 : Int) (w6 : List X0) : St := ⟨sp 36 0 [rx 6,sD 25 (D.l (D.l X0.D)) s25,sI 26 s26,sI 27 s27],[rW 6 62 4 X0.D w6],[]⟩
def Rv (s25 : List (List X0)) (s26 : Int) (o : (List X0)) : Ex × St := (.exit 2,⟨sp 36 0 [rx 6],[rW 6 62 4 X0.D o],[]⟩)
theorem XN (rd : Option Nat) (h : XL bO a8 aA bG = some bJ) : Lq 153 rd 250 (Ru bO a8 aA bG) ((Rv bO a8) bJ) :=
  lL (fun s : Int × List X0 => Ru bO a8 s.1 s.2) (Rv bO a8) (aA,bG) (fun ⟨aA,bG⟩ o h => by
  unfold Ln at h
  refine iB 28 h (fun h => ?_) fun h => ?_
  refine xX 29 (D.l X0.D) h fun x6 h => ?_
  refine gG 33 (.rwl ((bG ++ x6).map X0.D)) (CC X0.D x6) ?_
  obtain ⟨h10,h⟩ := cS h
  refine gQ (Ca X0.D h10) <| gQ (CY X0.D bG x6) ?_
  exact lB h [.live [6,25,26,27],.keep [33],.ren 33 6,.sort]
  exact lb h) h
theorem aKi (h : Xo bO = some bG) : AJ Tryz.prog 153 [.d ((D.l (D.l X0.D)) bO)] [] (.d ((D.l X0.D) bG)) [] := by
  unfold Xo at h
  apply g0 (o := bG)
  refine gN 10 (D.l X0.D) bO <| gW 26 (.int (bO.length : Int)) ?_
  obtain ⟨o4,h6,h⟩ := bS h
  refine gl (XK none h6) ?_
  obtain ⟨r5,h7,h⟩ := bS h
  refine gG 24 (.cx true [] [(0,24)] (.row 0) [rW 0 62 4 X0.D r5]) (aJf h7) <| gQ (FA (D.l X0.D) bO) ?_
  obtain ⟨o7,h11,h⟩ := bS h
  refine gL [.live [6,25,26,27],.keep [24],.ren 24 6,.sort] (XN none h11) ?_
  exact lF h [.frz 6]
theorem YI (rd : Option Nat) (h : aD0 a8 bG aD aI aQ = some bQ) : Lq 152 rd 965 ⟨sp 30 0 [sI 0 a8,sD 1 (D.l X0.D) bG,bx 4,bx 6,sD 20 D.b aD],[cL 4 X0.D aI,cL 6 X0.D aQ],[]⟩ (.normal,⟨sp 30 0 [sI 0 a8,sD 1 (D.l X0.D) bG,bx 4,bx 6],[cL 4 X0.D aI,cL 6 X0.D bQ],[]⟩) := by
  unfold aD0 at h
  apply g0 (o := bQ)
  cases aD
  replace h := CO h
  refine gW 27 (.str (aQ.str ++ ([97] : List UInt8))) ?_
  obtain ⟨h6,h⟩ := cS h
  refine gQ (J1 h6) ?_
  exact lp h
  replace h := CP h
  exact lp h
theorem YH (rd : Option Nat) (h : YG a8 bG aI aQ = some bQ) : Lq 152 rd 241 ⟨sp 30 0 [sI 0 a8,sD 1 (D.l X0.D) bG,bx 4,bx 6],[cL 4 X0.D aI,cL 6 X0.D aQ],[]⟩ (.normal,⟨sp 30 0 [sI 0 a8,sD 1 (D.l X0.D) bG,bx 4,bx 6],[cL 4 X0.D aI,cL 6 X0.D bQ],[]⟩) := by
  unfold YG at h
  apply g0 (o := bQ)
  obtain ⟨o2,h7,h⟩ := bS h
  refine gl (YI rd h7) ?_
  exact lp h
def SG (s0 : Int) (s1 : List X0) (w4 w6 : X0) : St := ⟨sp 30 0 [sI 0 s0,sD 1 (D.l X0.D) s1,bx 4,bx 6],[cL 4 X0.D w4,cL 6 X0.D w6],[]⟩
def SH (s0 : Int) (s1 : List X0) (w4 o : X0) : Ex × St := (.exit 0,⟨sp 30 0 [bx 4,bx 6],[cL 4 X0.D w4,cL 6 X0.D o],[]⟩)
theorem NN (rd : Option Nat) (h : SF a8 bG aI aQ = some bQ) : Lq 152 rd 60 (SG a8 bG aI aQ) ((SH a8 bG aI) bQ) :=
  lL (fun s : X0 => SG a8 bG aI s) (SH a8 bG aI) aQ (fun aQ o h => by
  unfold JN at h
  obtain ⟨r1,h3,h⟩ := bS h
  refine gQ (aHg h3) ?_
  cases r1
  replace h := CO h
  refine gW 18 (.ret (.d (D.b false))) ?_
  exact lb h
  replace h := CP h
  refine gW 18 (.ret (.d (D.b true))) ?_
  obtain ⟨o3,h8,h⟩ := bS h
  refine gl (YH rd h8) ?_
  exact lb h) h
theorem aKs (h : Xv a8 bG = some bR) : AJ Tryz.prog 152 [dI a8,.d ((D.l X0.D) bG)] [] (.tup [.d (X0.D bR.1),.d (D.b bR.2)]) [] := by
  unfold Xv at h
  apply g0 (o := bR)
  refine iB 9 h (fun h => ?_) fun h => ?_
  refine iB 12 h (fun h => ?_) fun h => ?_
  exact lf h
  obtain ⟨o4,h9,h⟩ := bS h
  refine gl (NN none h9) ?_
  exact lf h
  obtain ⟨o5,h10,h⟩ := bS h
  refine gl (NN none h10) ?_
  exact lf h
theorem NC (rd : Option Nat) (h : Oc bG a8 bU aA aN aD bH bV = some bJ) : Lq 130 rd 15667 ⟨sp 67 0 [sD 1 (D.l X0.D) bG,sI 5 a8,rx 6,bx 8,sD 28 (D.l Xb.D) bU,sI 29 aA,sI 30 aN,sD 45 D.b aD],[rW 6 62 4 X0.D bH,cL 8 Xb.D bV],[]⟩ (.normal,⟨sp 67 0 [sD 1 (D.l X0.D) bG,sI 5 a8,rx 6,sD 28 (D.l Xb.D) bU,sI 29 aA,sI 30 aN],[rW 6 62 4 X0.D bJ],[]⟩) := by
  unfold Oc at h
  apply g0 (o := bJ)
  cases aD
  replace h := CO h
  exact lp h
  replace h := CP h
  refine gQ (CC X0.D [bV.value]) <| gG 50 (.rwl ((bH ++ [bV.value]).map X0.D)) (CC X0.D [bV.value]) ?_
  obtain ⟨h9,h⟩ := cS h
  refine gQ (Ca X0.D h9) <| gQ (CY X0.D bH [bV.value]) ?_
  exact lP h [.live [1,5,6,28,29,30],.keep [50],.ren 50 6,.sort]
theorem W9 (rd : Option Nat) (h : Rp bG a8 bU aA aN bH = some bJ) : Lq 130 rd 1958 ⟨sp 67 0 [sD 1 (D.l X0.D) bG,sI 5 a8,rx 6,sD 28 (D.l Xb.D) bU,sI 29 aA,sI 30 aN],[rW 6 62 4 X0.D bH],[]⟩ (.normal,⟨sp 67 0 [sD 1 (D.l X0.D) bG,sI 5 a8,rx 6,sD 28 (D.l Xb.D) bU,sI 29 aA,sI 30 aN],[rW 6 62 4 X0.D bJ],[]⟩) := by
  unfold Rp at h
  apply g0 (o := bJ)
  refine xX 32 Xb.D h fun x4 h => ?_
  refine iB 39 h (fun h => ?_) fun h => ?_
  obtain ⟨r5,h7,h⟩ := bS h
  refine gG 43 (.lend [6] (.d (D.b r5))) (aHg h7) ?_
  obtain ⟨o6,h10,h⟩ := bS h
  refine gl (NC rd h10) ?_
  exact lp h
  obtain ⟨o7,h11,h⟩ := bS h
  refine gl (NC rd h11) ?_
  exact lp h
def Rq (s1 : List X0) (s5 : Int) (s28 : List Xb) (s29 s30 : Int) (w6 : List X0) : St := ⟨sp 67 0 [sD 1 (D.l X0.D) s1,sI 5 s5,rx 6,sD 28 (D.l Xb.D) s28,sI 29 s29,sI 30 s30],[rW 6 62 4 X0.D w6],[]⟩
def Rr (s1 : List X0) (s5 : Int) (s28 : List Xb) (s29 : Int) (o : (List X0)) : Ex × St := (.exit 0,⟨sp 67 0 [sD 1 (D.l X0.D) s1,sI 5 s5,rx 6],[rW 6 62 4 X0.D o],[]⟩)
theorem XE (rd : Option Nat) (h : XC bG a8 bU aA aN bH = some bJ) : Lq 130 rd 122 (Rq bG a8 bU aA aN bH) ((Rr bG a8 bU aA) bJ) :=
  lL (fun s : Int × List X0 => Rq bG a8 bU aA s.1 s.2) (Rr bG a8 bU aA) (aN,bH) (fun ⟨aN,bH⟩ o h => by
  unfold JI at h
  refine iB 31 h (fun h => ?_) fun h => ?_
  obtain ⟨o8,h12,h⟩ := bS h
  refine gl (W9 rd h12) ?_
  exact lb h
  exact lb h) h
theorem XB (rd : Option Nat) (h : XA aD bG aI = some bJ) : Lq 130 rd 251 ⟨sp 67 0 [rx 6,bx 9,sD 61 D.b aD],[(6,.row 62 4 (bG.map X0.D)),cL 9 X0.D aI],[]⟩ (.normal,⟨sp 67 0 [rx 6],[(6,.row 62 4 (bJ.map X0.D))],[]⟩) := by
  unfold XA at h
  apply g0 (o := bJ)
  cases aD
  replace h := CO h
  exact lp h
  replace h := CP h
  refine gQ (CC X0.D [aI]) <| gG 65 (.sl ((bG ++ [aI]).map X0.D)) (CC X0.D [aI]) ?_
  obtain ⟨h17,h⟩ := cS h
  refine gQ (Ca X0.D h17) <| gQ (CY X0.D bG [aI]) ?_
  exact lP h [.live [6],.keep [65],.ren 65 6,.sort]
theorem aKf (h : Xm bW bG = some bH) : AJ Tryz.prog 130 [.d (Xl.D bW),.d ((D.l X0.D) bG)] [] (.d ((D.l X0.D) bH)) [] := by
  unfold Xm at h
  apply g0 (o := bH)
  refine gW 29 (.int (bW.b.length : Int)) <| gW 54 (.fzn 6) <| xX 16 Xn.D h fun x1 h => ?_
  refine xX 21 dZ h fun x2 h => ?_
  obtain ⟨r3,h3,h⟩ := bS h
  refine gG 26 (.cx false [] [(0,26)] (.row 0) [rW 0 62 4 X0.D r3]) (aJu h3) <| gQ (FA Xb.D bW.b) ?_
  obtain ⟨o9,h13,h⟩ := bS h
  refine gL [.live [1,5,6,28,29,30],.keep [26],.ren 26 6,.sort] (XE none h13) <| gQ (CC (D.l X0.D) [o9,bG]) ?_
  obtain ⟨r10,h14,h⟩ := bS h
  refine gC 57 (aKi h14) ?_
  obtain ⟨r11,h15,h⟩ := bS h
  refine gC 58 (aKs h15) ?_
  obtain ⟨o12,h18,h⟩ := bS h
  refine gl (XB none h18) ?_
  exact lf h
def Sy (s1 : Int) (s8 : List Xb) (s9 : Int) (w4 : X0) (s10 : Int) : St := ⟨sp 22 0 [sI 1 s1,bx 4,sD 8 (D.l Xb.D) s8,sI 9 s9,sI 10 s10],[cL 4 X0.D w4],[]⟩
def Sz (s1 : Int) (s8 : List Xb) (s9 : Int) (w4 : X0) (o : Unit ⊕ X0) : Ex × St := match o with
  | .inl o => (.exit 0,⟨sp 22 0 [bx 4],[cL 4 X0.D w4],[]⟩)
  | .inr o => (.ret,⟨sp 22 0 [bx 4,sD 5 D.b true],[cL 4 X0.D o],[]⟩)
theorem aAd (rd : Option Nat) (h : aAb a8 bU aA aI aN = some bX) : Lq 174 rd 26 (Sy a8 bU aA aI aN) ((Sz a8 bU aA aI) bX) :=
  lL (fun s : Int => Sy a8 bU aA aI s) (Sz a8 bU aA aI) aN (fun aN o h => by
  unfold MC at h
  refine iB 11 h (fun h => ?_) fun h => ?_
  refine xX 12 Xb.D h fun x1 h => ?_
  refine iB 17 h (fun h => ?_) fun h => ?_
  exact lb h
  exact lb h
  exact lb h) h
theorem aLl (h : Ye bU a8 = some bR) : AJ Tryz.prog 174 [.d ((D.l Xb.D) bU),dI a8] [] (.tup [.d (X0.D bR.1),.d (D.b bR.2)]) [] := by
  unfold Ye at h
  apply g0 (o := bR)
  refine gN 9 Xb.D bU ?_
  obtain ⟨o2,h4,h⟩ := bS h
  refine gl (aAd none h4) ?_
  replace h := AK h
  rcases h with ⟨o3,rfl,h⟩ | ⟨o4,rfl,h⟩
  exact lf h
  exact lf h
theorem aMn (h : Zb bW aW aI = some aD) : AJ Tryz.prog 154 [.d (Xl.D bW),.d (CX.D aW),.d (X0.D aI)] [] (.d (D.b aD)) [] := by
  unfold Zb at h
  apply g0 (o := aD)
  refine iB 11 h (fun h => ?_) fun h => ?_
  exact lf h
  refine iB 17 h (fun h => ?_) fun h => ?_
  obtain ⟨r1,h3,h⟩ := bS h
  refine gC 24 (aLl h3) ?_
  refine iB 28 h (fun h => ?_) fun h => ?_
  exact lf h
  exact lf h
  exact lf h
theorem NG (rd : Option Nat) (h : Of a8 aA bB aN aR aD bW aI = some bC) : Lq 131 rd 15667 ⟨sp 42 0 [bx 2,bx 3,(5,.clo (.func 154) [] []),sD 6 dU a8,sI 7 aA,sD 11 (D.l X4.D) bB,sI 12 aN,sI 13 aR,sD 34 D.b aD],[cL 2 Xl.D bW,cL 3 X0.D aI],[]⟩ (.normal,⟨sp 42 0 [bx 2,bx 3,(5,.clo (.func 154) [] []),sD 6 dU bC,sD 11 (D.l X4.D) bB,sI 12 aN,sI 13 aR],[cL 2 Xl.D bW,cL 3 X0.D aI],[]⟩) := by
  unfold Of at h
  apply g0 (o := bC)
  cases aD
  replace h := CO h
  exact lp h
  replace h := CP h
  obtain ⟨h7,h⟩ := cS h
  refine gQ h7 ?_
  exact lp h
theorem XR (rd : Option Nat) (h : R1 a8 bB aA aN bW aI = some aR) : Lq 131 rd 1958 ⟨sp 42 0 [bx 2,bx 3,(5,.clo (.func 154) [] []),sD 6 dU a8,sD 11 (D.l X4.D) bB,sI 12 aA,sI 13 aN],[cL 2 Xl.D bW,cL 3 X0.D aI],[]⟩ (.normal,⟨sp 42 0 [bx 2,bx 3,(5,.clo (.func 154) [] []),sD 6 dU aR,sD 11 (D.l X4.D) bB,sI 12 aA,sI 13 aN],[cL 2 Xl.D bW,cL 3 X0.D aI],[]⟩) := by
  unfold R1 at h
  apply g0 (o := aR)
  refine xX 16 X4.D h fun x1 h => ?_
  refine iB 23 h (fun h => ?_) fun h => ?_
  refine xX 30 CX.D h fun x2 h => ?_
  obtain ⟨r3,h5,h⟩ := bS h
  refine gC 33 (aMn h5) ?_
  obtain ⟨o4,h8,h⟩ := bS h
  refine gl (NG rd h8) ?_
  exact lp h
  obtain ⟨o5,h9,h⟩ := bS h
  refine gl (NG rd h9) ?_
  exact lp h
def R2 (s11 : List X4) (s12 : Int) (w2 : Xl) (w3 : X0) (s6 s13 : Int) : St := ⟨sp 42 0 [bx 2,bx 3,(5,.clo (.func 154) [] []),sD 6 dU s6,sD 11 (D.l X4.D) s11,sI 12 s12,sI 13 s13],[cL 2 Xl.D w2,cL 3 X0.D w3],[]⟩
def R3 (s11 : List X4) (s12 : Int) (w2 : Xl) (w3 : X0) (o : Int) : Ex × St := (.exit 0,⟨sp 42 0 [sD 6 dU o],[],[]⟩)
theorem XU (rd : Option Nat) (h : XS bB a8 bW aI aA aN = some aR) : Lq 131 rd 122 (R2 bB a8 bW aI aA aN) ((R3 bB a8 bW aI) aR) :=
  lL (fun s : Int × Int => R2 bB a8 bW aI s.1 s.2) (R3 bB a8 bW aI) (aA,aN) (fun ⟨aA,aN⟩ o h => by
  unfold JJ at h
  refine iB 14 h (fun h => ?_) fun h => ?_
  obtain ⟨o6,h10,h⟩ := bS h
  refine gl (XR rd h10) ?_
  exact lb h
  exact lb h) h
theorem aKn (h : Xq bW aI = some a8) : AJ Tryz.prog 131 [.d (Xl.D bW),.d (X0.D aI)] [] (.d (dU a8)) [] := by
  unfold Xq at h
  apply g0 (o := a8)
  refine gN 12 X4.D bW.q.symbols ?_
  obtain ⟨o7,h11,h⟩ := bS h
  refine gl (XU none h11) ?_
  exact lf h
def Fr (clk : Nat) (es : List (Nat × Int × Bool)) (us : List Value) (s8 : Int) (s12 : List X0) (s13 s14 : Int) (w0 : List (Int × Bool)) (w3 : Xl) (w5 : List (Int × Bool)) (sn : List Nat) : St := ⟨sp 33 0 [rx 0,bx 3,rx 5,sD 8 dU s8,sD 12 (D.l X0.D) s12,sI 13 s13,sI 14 s14,bx 22],[(0,.map clk (dl dU D.b es)),cL 3 Xl.D w3,(5,.mapS (ms dU D.b w5)),(22,.mit 0 clk sn),(997,.vals [] us)],[]⟩
def Fs (clk : Nat) (es : List (Nat × Int × Bool)) (us : List Value) (s8 : Int) (s12 : List X0) (s13 s14 : Int) (w0 : List (Int × Bool)) (w3 : Xl) (o : (List (Int × Bool))) : Ex × St := (.exit 2,⟨sp 33 0 [rx 0,bx 3,rx 5,sD 12 (D.l X0.D) s12,sI 13 s13,sI 14 s14],[(0,.map clk (dl dU D.b es)),cL 3 Xl.D w3,(5,.mapS (ms dU D.b o)),(997,.vals [] us)],[]⟩)
def aDu (clk : Nat) (es : List (Nat × Int × Bool)) (us : List Value) (s8 : Int) (s12 : List X0) (s13 s14 : Int) (w0 : List (Int × Bool)) (w3 : Xl) (w5 : List (Int × Bool)) : St := ⟨sp 33 0 [rx 0,bx 3,rx 5,sD 12 (D.l X0.D) s12,sI 13 s13,sI 14 s14],[(0,.map clk (dl dU D.b es)),cL 3 Xl.D w3,(5,.mapS (ms dU D.b w5)),(997,.vals [] us)],[]⟩
set_option maxRecDepth 100000 in
theorem RP (rd : Option Nat) (us : List Value) (clk : Nat) (es : List (Nat × Int × Bool)) (s8 : Int) (s12 : List X0) (s13 s14 : Int) (w0 : List (Int × Bool)) (w3 : Xl) (k : Int) (v : Bool) (w5 : List (Int × Bool)) (sn : List Nat) (st : Nat) (hm : (st,k,v) ∈ es) (o : (List (Int × Bool))) (h : G6 s8 s12 s13 s14 w0 w3 k v w5 = some o) : K2 Tryz.prog rd (D0 Tryz.prog 92) [0,1,1,1,0,0,1,1,0,0,1,0,1,1] ((⟨(Fr clk es us s8 s12 s13 s14 w0 w3 w5 sn).E,Bi (Fr clk es us s8 s12 s13 s14 w0 w3 w5 sn).B 22 (.mit 0 clk (sn ++ [st])),[]⟩ : St).put (some 23) (.tup [bo true,.d (dU k),.d (D.b v)])) fun zx zs => zx = .normal ∧ Wk zs ((fun s : (List (Int × Bool)) => Fr clk es us s8 s12 s13 s14 w0 w3 s (sn ++ [st])) o) := by
  unfold G6 at h
  obtain rfl := si h
  exact Et mixed [(25,.en (dU k) (D.b v)),(10027,.ms (ms dU D.b (Pc (AA .and .u64 k s8) true w5)))] [] [.live [0,3,5,8,12,13,14,22],.keep [0,3,5,22,997]] (ai (Ml (fk := dU) (fv := D.b) (clk := clk) (sn := sn) hm) (ai (Mr (aC2 Tryz.underlying56) D.b w5 (AA .and .u64 k s8) true) (ti))) (by kernel_rfl)
set_option maxRecDepth 100000 in
theorem RO (rd : Option Nat) (us : List Value) (clk : Nat) (es : List (Nat × Int × Bool)) (s8 : Int) (s12 : List X0) (s13 s14 : Int) (w0 : List (Int × Bool)) (w3 : Xl) (w5 : List (Int × Bool)) (sn : List Nat) : K2 Tryz.prog rd (D0 Tryz.prog 92) [0,1,1,1,0,0,1,1,0,0,1,0,1,1] ((Fr clk es us s8 s12 s13 s14 w0 w3 w5 sn).put (some 23) (.tup [bo false])) fun zx zs => zx = (Fs clk es us s8 s12 s13 s14 w0 w3 (JF s8 s12 s13 s14 w0 w3 w5)).1 ∧ Wk zs (Fs clk es us s8 s12 s13 s14 w0 w3 (JF s8 s12 s13 s14 w0 w3 w5)).2 := by
  refine K2.wk (e := .exit 2) (s1 := aDu clk es us s8 s12 s13 s14 w0 w3 w5) (Et mixed [] [] [.live [0,3,5,12,13,14],.keep [0,3,5,997]] (ti) (by kernel_rfl)) ?_
  exact (Wk.canS 5 (by kernel_rfl) rfl)
set_option maxRecDepth 100000 in
theorem Wd (rd : Option Nat) (us : List Value) (clk : Nat) (es : List (Nat × Int × Bool)) (s8 : Int) (s12 : List X0) (s13 s14 : Int) (w0 : List (Int × Bool)) (w3 : Xl) (w5 : List (Int × Bool)) (hp : (es.map (·.2)).Perm w0) (o : (List (Int × Bool))) (h : Wb s8 s12 s13 s14 w0 w3 w5 = some o) : E3 Tryz.prog rd (D0 Tryz.prog 92) [0,1,1,1,0,0,1,1,0,0,1,0,1,1] (Fr clk es us s8 s12 s13 s14 w0 w3 w5 []) ((Fs clk es us s8 s12 s13 s14 w0 w3) o).1 ((Fs clk es us s8 s12 s13 s14 w0 w3) o).2 :=
  Mi (fk := dU) (fv := D.b) (step := (fun (x : Int × Bool) (s : (List (Int × Bool))) => G6 s8 s12 s13 s14 w0 w3 x.1 x.2 s)) (s0 := w5) 22 23 22 0 clk es (fun (sn : List Nat) (s : (List (Int × Bool))) => Fr clk es us s8 s12 s13 s14 w0 w3 s sn) (Fs clk es us s8 s12 s13 s14 w0 w3) (by kernel_rfl) (No (by rfl)) (fun _ _ => by kernel_rfl) (fun _ _ => by kernel_rfl) (fun _ _ => by kernel_rfl) hp
    (fun sn s k v st a hm h => RP rd us clk es s8 s12 s13 s14 w0 w3 k v s sn st hm a h) (fun sn s hc => hc ▸ RO rd us clk es s8 s12 s13 s14 w0 w3 s sn) h
theorem WX (rd : Option Nat) (us : List Value) (h : RK a8 bG aA aN bY bW bZ = some c9) : Lq 92 rd 7475 ⟨sp 33 0 [rx 0,bx 3,rx 5,sD 8 dU a8,sD 12 (D.l X0.D) bG,sI 13 aA,sI 14 aN],[(0,.mapS (ms dU D.b bY)),cL 3 Xl.D bW,(5,.mapS (ms dU D.b bZ)),(997,.vals [] us)],[]⟩ (.normal,⟨sp 33 0 [rx 0,bx 3,rx 5,sD 12 (D.l X0.D) bG,sI 13 aA,sI 14 aN],[(0,.mapS (ms dU D.b bY)),cL 3 Xl.D bW,(5,.mapS (ms dU D.b c9)),(997,.vals [] us)],[]⟩) := by
  unfold RK at h
  obtain ⟨o4,h5,h⟩ := bS h
  obtain rfl := si h
  exact Arr.lp (Arr.exact (fk := dU) (fv := D.b) (S := bY) 0 (by kernel_rfl) fun clk es hp => Arr.setm (fk := dU) (fv := D.b) (S := bY) (clk := clk) (es := es) 0 hp (by kernel_rfl) (by kernel_rfl) (FW mixed [] [⟨[0,1,1,1,0,0,1,1,0,0,1,0,1,1],[.live [0,3,5,8,12,13,14,22],.keep [0,3,5,22,997]],.exit 2,(Fs clk es us a8 bG aA aN bY bW o4).2⟩] [.live [0,3,5,12,13,14],.keep [0,3,5,997]] (ai (Wd rd us clk es a8 bG aA aN bY bW bZ hp o4 h5) (ti)) (by kernel_rfl)))
def RL (us : List Value) (s12 : List X0) (s13 : Int) (w0 : List (Int × Bool)) (w3 : Xl) (s14 : Int) (w5 : List (Int × Bool)) : St := ⟨sp 33 0 [rx 0,bx 3,rx 5,sD 12 (D.l X0.D) s12,sI 13 s13,sI 14 s14],[(0,.mapS (ms dU D.b w0)),cL 3 Xl.D w3,(5,.mapS (ms dU D.b w5)),(997,.vals [] us)],[]⟩
def RN (us : List Value) (s12 : List X0) (s13 : Int) (w0 : List (Int × Bool)) (w3 : Xl) (o : (List (Int × Bool))) : Ex × St := (.exit 0,⟨sp 33 0 [rx 5],[(5,.mapS (ms dU D.b o)),(997,.vals [] us)],[]⟩)
theorem Wa (rd : Option Nat) (us : List Value) (h : WY bG a8 bY bW aA bZ = some c9) : Lq 92 rd 58 (RL us bG a8 bY bW aA bZ) ((RN us bG a8 bY bW) c9) :=
  lL (fun s : Int × (List (Int × Bool)) => RL us bG a8 bY bW s.1 s.2) (RN us bG a8 bY bW) (aA,bZ) (fun ⟨aA,bZ⟩ o h => by
  unfold JE at h
  refine iB 15 h (fun h => ?_) fun h => ?_
  refine xX 16 X0.D h fun x2 h => ?_
  obtain ⟨r3,h4,h⟩ := bS h
  refine gC 20 (aKn h4) ?_
  obtain ⟨o5,h6,h⟩ := bS h
  refine gl (WX rd us h6) ?_
  exact lb h
  exact lb h) h
theorem aJ5 (h : Xg bW bY = some c9) : AJ Tryz.prog 92 [.row 0,.d (Xl.D bW)] [(0,.mapS (ms dU D.b bY))] (.row 1) [(1,.mapS (ms dU D.b c9))] := by
  unfold Xg at h
  refine XG.call (ks := []) mixed fun us => ?_
  apply g0 (o := c9)
  refine gW 10 .frz ?_
  obtain ⟨r1,h1,h⟩ := bS h
  refine gC 12 (aKf h1) <| gN 13 X0.D r1 ?_
  obtain ⟨o6,h7,h⟩ := bS h
  refine gL [.live [0,3,5,12,13,14],.keep [0,3,10,997],.ren 10 5,.sort] (Wa none us h7) ?_
  exact lX h [.live [4],.keep [5,997],.ren 5 1,.sort]
theorem aAk (rd : Option Nat) (h : S9 a8 aA aD = some bI) : Lq 107 rd 13 ⟨sp 25 0 [sD 0 dU a8,sI 2 aA,sD 4 D.b aD],[],[]⟩ (.normal,⟨sp 25 0 [sD 0 dU bI.1,sI 2 bI.2],[],[]⟩) := by
  unfold S9 at h
  apply g0 (o := bI)
  cases aD
  replace h := CO h
  exact lp h
  replace h := CP h
  refine gQ (of_decide_eq_true rfl : (0 : Int) ≤ 32) ?_
  exact lp h
theorem aAl (rd : Option Nat) (h : TA a8 aA aD = some bI) : Lq 107 rd 29 ⟨sp 25 0 [sD 0 dU a8,sI 2 aA,sD 8 D.b aD],[],[]⟩ (.normal,⟨sp 25 0 [sD 0 dU bI.1,sI 2 bI.2],[],[]⟩) := by
  unfold TA at h
  apply g0 (o := bI)
  cases aD
  replace h := CO h
  exact lp h
  replace h := CP h
  refine gQ (of_decide_eq_true rfl : (0 : Int) ≤ 16) ?_
  exact lp h
theorem aAm (rd : Option Nat) (h : TB a8 aA aD = some bI) : Lq 107 rd 61 ⟨sp 25 0 [sD 0 dU a8,sI 2 aA,sD 14 D.b aD],[],[]⟩ (.normal,⟨sp 25 0 [sD 0 dU bI.1,sI 2 bI.2],[],[]⟩) := by
  unfold TB at h
  apply g0 (o := bI)
  cases aD
  replace h := CO h
  exact lp h
  replace h := CP h
  refine gQ (of_decide_eq_true rfl : (0 : Int) ≤ 8) ?_
  exact lp h
theorem aLr (h : Yk a8 = some aA) : AJ Tryz.prog 107 [.d (dU a8)] [] (dI aA) [] := by
  unfold Yk at h
  apply g0 (o := aA)
  obtain ⟨o1,h2,h⟩ := bS h
  refine gl (aAk none h2) ?_
  obtain ⟨o2,h4,h⟩ := bS h
  refine gl (aAl none h4) ?_
  obtain ⟨o3,h6,h⟩ := bS h
  refine gl (aAm none h6) <| gG 21 (.int (u8w o3.1).toNat) (aDc o3.1) ?_
  obtain ⟨x4,h7,h⟩ := xS h
  refine gG 22 (.int x4.toNat) (GA h7) <| gG 23 (.int x4.toNat) (Mu x4) ?_
  exact lf h
theorem aEs (h : Zq a8 = some aA) : AJ Tryz.prog 73 [.d (dU a8)] [] (dI aA) [] := by
  unfold Zq at h
  apply g0 (o := aA)
  obtain ⟨r1,h1,h⟩ := bS h
  refine gC 7 (aLr h1) ?_
  exact lf h
theorem aHm (h : Zr a8 = some aD) : AJ Tryz.prog 178 [.d (dU a8)] [] (.d (D.b aD)) [] := by
  unfold Zr at h
  apply g0 (o := aD)
  exact lf h
theorem ER (h : Y6 a8 aA = some aD) : AJ Tryz.prog 161 [.d (dU a8),.d (dU aA)] [] (.d (D.b aD)) [] := by
  unfold Y6 at h
  apply g0 (o := aD)
  obtain ⟨r1,h1,h⟩ := bS h
  refine gQ (aHm h1) ?_
  cases r1
  replace h := CO h
  refine gW 6 (.ret (.d (D.b false))) ?_
  exact lf h
  replace h := CP h
  refine gW 6 (.ret (.d (D.b true))) ?_
  obtain ⟨r2,h3,h⟩ := bS h
  refine gC 9 (aHm h3) ?_
  refine iB 12 h (fun h => ?_) fun h => ?_
  exact lf h
  exact lf h
def SD (us : List Value) (s1 s2 : Int) (s6 s7 : Int) (w0 : List Int) : St := ⟨sp 49 0 [rx 0,sI 1 s1,sI 2 s2,sI 6 s6,sI 7 s7],[rW 0 56 1 dU w0,(997,.vals [.row 0] us)],[]⟩
def SE (us : List Value) (s1 s2 s6 : Int) (o : (List Int)) : Ex × St := (.exit 2,⟨sp 49 0 [rx 0,sI 1 s1,sI 2 s2,sI 6 s6],[rW 0 56 1 dU o,(997,.vals [.row 0] us)],[]⟩)
theorem YF (rd : Option Nat) (us : List Value) (h : Om a8 aA aN aR aZ = some b6) : Lq 155 rd 402 (SD us a8 aA aN aR aZ) ((SE us a8 aA aN) b6) :=
  lL (fun s : Int × List Int => SD us a8 aA aN s.1 s.2) (SE us a8 aA aN) (aR,aZ) (fun ⟨aR,aZ⟩ o h => by
  unfold EQ at h
  refine iB 19 h (fun h => ?_) fun h => ?_
  obtain ⟨h3,h⟩ := cS h
  refine gQ h3.1 <| gQ (AD dU h3.2) ?_
  obtain ⟨x1,h4,h⟩ := xS h
  refine gG 23 (.el (dU x1)) (AF dU h4) ?_
  obtain ⟨h5,h⟩ := cS h
  refine gQ h5.1 <| gQ (AD dU h5.2) ?_
  obtain ⟨x2,h6,h⟩ := xS h
  refine gG 28 (.el (dU x2)) (AF dU h6) ?_
  obtain ⟨r3,h7,h⟩ := bS h
  refine gQ (ER h7) ?_
  cases r3
  replace h := CO h
  refine gW 29 (.ret (.d (D.b false))) ?_
  exact lb h
  replace h := CP h
  refine gW 29 (.ret (.d (D.b true))) ?_
  obtain ⟨h9,h⟩ := cS h
  refine gQ h9.1 <| gQ (AD dU h9.2) ?_
  obtain ⟨x4,h10,h⟩ := xS h
  refine gG 42 (.el (dU x4)) (AF dU h10) <| gW 10047 (.sl ((aZ.set aR.toNat x4).map dU)) ?_
  obtain ⟨h11,h⟩ := cS h
  refine gQ h11.1 <| gQ (AD dU h11.2) ?_
  obtain ⟨x5,h12,h⟩ := xS h
  refine gG 46 (.el (dU x5)) (AF dU h12) <| gW 10048 (.sl (((aZ.set aR.toNat x4).set (AA .sub .i64 aR 1).toNat x5).map dU)) ?_
  obtain ⟨h13,h⟩ := cS h
  refine gQ h13.1 <| gQ (AD dU h13.2) ?_
  obtain ⟨h14,h⟩ := cS h
  refine gQ (Ax dU h14) <| gQ (AQ dU aZ aR x4) ?_
  obtain ⟨h15,h⟩ := cS h
  refine gQ h15.1 <| gQ (AD dU h15.2) ?_
  obtain ⟨h16,h⟩ := cS h
  refine gQ (Ax dU h16) <| gQ (AQ dU (aZ.set aR.toNat x4) (AA .sub .i64 aR 1) x5) ?_
  exact lb h
  exact lb h) h
def SB (us : List Value) (s1 s2 s6 : Int) (w0 : List Int) : St := ⟨sp 49 0 [rx 0,sI 1 s1,sI 2 s2,sI 6 s6],[rW 0 56 1 dU w0,(997,.vals [.row 0] us)],[]⟩
def SC (us : List Value) (s1 s2 : Int) (o : (List Int)) : Ex × St := (.exit 0,⟨sp 49 0 [],[rW 0 56 1 dU o,(997,.vals [.row 0] us)],[]⟩)
theorem YE (rd : Option Nat) (us : List Value) (h : Ol a8 aA aN aZ = some b6) : Lq 155 rd 6 (SB us a8 aA aN aZ) ((SC us a8 aA) b6) :=
  lL (fun s : Int × List Int => SB us a8 aA s.1 s.2) (SC us a8 aA) (aN,aZ) (fun ⟨aN,aZ⟩ o h => by
  unfold Fx at h
  refine iB 12 h (fun h => ?_) fun h => ?_
  obtain ⟨o6,h17,h⟩ := bS h
  refine gl (YF rd us h17) ?_
  exact lb h
  exact lb h) h
theorem aKp (h : Xu a8 aA aZ = some cA) : AJ Tryz.prog 155 [.row 0,dI a8,dI aA] [rW 0 56 1 dU aZ] (.tup []) [rW 0 56 1 dU cA] := by
  unfold Xu at h
  refine XG.call (ks := [0]) mixed fun us => ?_
  apply g0 (o := cA)
  obtain ⟨o7,h18,h⟩ := bS h
  refine gl (YE none us h18) ?_
  exact lX h (lv [] [0,997])
theorem NH (rd : Option Nat) (us : List Value) (h : JK a8 aA aN aR aD aZ = some bC) : Lq 175 rd 397 ⟨sp 76 0 [rx 0,sI 2 a8,sI 3 aA,sI 8 aN,sI 9 aR,sD 36 D.b aD],[rW 0 56 1 dU aZ,(997,.vals [.row 0] us)],[]⟩ (.normal,⟨sp 76 0 [rx 0,sI 2 a8,sI 3 aA,sI 8 aN,sI 9 bC],[rW 0 56 1 dU aZ,(997,.vals [.row 0] us)],[]⟩) := by
  unfold JK at h
  apply g0 (o := bC)
  cases aD
  replace h := CO h
  exact lp h
  replace h := CP h
  exact lp h
theorem XV (rd : Option Nat) (us : List Value) (h : IO a8 aA aN aZ = some cB) : Lq 175 rd 12 ⟨sp 76 0 [rx 0,sI 2 a8,sI 3 aA,sI 8 aN],[rW 0 56 1 dU aZ,(997,.vals [.row 0] us)],[]⟩ (match (generalizing := false) cB with
  | .inl cB => (.normal,⟨sp 76 0 [rx 0,sI 2 a8,sI 3 aA,sI 8 cB.1],[rW 0 56 1 dU cB.2,(997,.vals [.row 0] us)],[]⟩)
  | .inr cB => match (generalizing := false) cB with
  | .inl cB => (.exit 0,⟨sp 76 0 [],[rW 0 56 1 dU aZ,(997,.vals [.row 0] us)],[]⟩)
  | .inr cB => (.ret,⟨sp 76 0 [],[rW 0 56 1 dU aZ,(997,.vals [.row 0] us)],[]⟩)) := by
  unfold IO at h
  apply g0 (o := cB)
  refine iB 16 h (fun h => ?_) fun h => ?_
  exact lp h
  refine iB 21 h (fun h => ?_) fun h => ?_
  obtain ⟨h3,h⟩ := cS h
  refine gQ h3.1 <| gQ (AD dU h3.2) ?_
  obtain ⟨x1,h4,h⟩ := xS h
  refine gG 27 (.el (dU x1)) (AF dU h4) ?_
  obtain ⟨h5,h⟩ := cS h
  refine gQ h5.1 <| gQ (AD dU h5.2) ?_
  obtain ⟨x2,h6,h⟩ := xS h
  refine gG 34 (.el (dU x2)) (AF dU h6) ?_
  obtain ⟨r3,h7,h⟩ := bS h
  refine gC 35 (ER h7) ?_
  obtain ⟨o4,h9,h⟩ := bS h
  refine gl (NH rd us h9) ?_
  obtain ⟨h10,h⟩ := cS h
  refine gQ h10.1 <| gQ (AD dU h10.2) ?_
  obtain ⟨x5,h11,h⟩ := xS h
  refine gG 44 (.el (dU x5)) (AF dU h11) ?_
  obtain ⟨h12,h⟩ := cS h
  refine gQ h12.1 <| gQ (AD dU h12.2) ?_
  obtain ⟨x6,h13,h⟩ := xS h
  refine gG 50 (.el (dU x6)) (AF dU h13) ?_
  obtain ⟨r7,h14,h⟩ := bS h
  refine gC 51 (ER h14) ?_
  refine iB 52 h (fun h => ?_) fun h => ?_
  exact lp h
  obtain ⟨h16,h⟩ := cS h
  refine gQ h16.1 <| gQ (AD dU h16.2) ?_
  obtain ⟨x8,h17,h⟩ := xS h
  refine gG 66 (.el (dU x8)) (AF dU h17) <| gW 10073 (.sl ((aZ.set (AA .add .i64 aA aN).toNat x8).map dU)) ?_
  obtain ⟨h18,h⟩ := cS h
  refine gQ h18.1 <| gQ (AD dU h18.2) ?_
  obtain ⟨x9,h19,h⟩ := xS h
  refine gG 72 (.el (dU x9)) (AF dU h19) <| gW 10074 (.sl (((aZ.set (AA .add .i64 aA aN).toNat x8).set (AA .add .i64 aA o4).toNat x9).map dU)) ?_
  obtain ⟨h20,h⟩ := cS h
  refine gQ h20.1 <| gQ (AD dU h20.2) ?_
  obtain ⟨h21,h⟩ := cS h
  refine gQ (Ax dU h21) <| gQ (AQ dU aZ (AA .add .i64 aA aN) x8) ?_
  obtain ⟨h22,h⟩ := cS h
  refine gQ h22.1 <| gQ (AD dU h22.2) ?_
  obtain ⟨h23,h⟩ := cS h
  refine gQ (Ax dU h23) <| gQ (AQ dU (aZ.set (AA .add .i64 aA aN).toNat x8) (AA .add .i64 aA o4) x9) ?_
  exact lp h
  obtain ⟨o10,h24,h⟩ := bS h
  refine gl (NH rd us h24) ?_
  obtain ⟨h25,h⟩ := cS h
  refine gQ h25.1 <| gQ (AD dU h25.2) ?_
  obtain ⟨x11,h26,h⟩ := xS h
  refine gG 44 (.el (dU x11)) (AF dU h26) ?_
  obtain ⟨h27,h⟩ := cS h
  refine gQ h27.1 <| gQ (AD dU h27.2) ?_
  obtain ⟨x12,h28,h⟩ := xS h
  refine gG 50 (.el (dU x12)) (AF dU h28) ?_
  obtain ⟨r13,h29,h⟩ := bS h
  refine gC 51 (ER h29) ?_
  refine iB 52 h (fun h => ?_) fun h => ?_
  exact lp h
  obtain ⟨h31,h⟩ := cS h
  refine gQ h31.1 <| gQ (AD dU h31.2) ?_
  obtain ⟨x14,h32,h⟩ := xS h
  refine gG 66 (.el (dU x14)) (AF dU h32) <| gW 10073 (.sl ((aZ.set (AA .add .i64 aA aN).toNat x14).map dU)) ?_
  obtain ⟨h33,h⟩ := cS h
  refine gQ h33.1 <| gQ (AD dU h33.2) ?_
  obtain ⟨x15,h34,h⟩ := xS h
  refine gG 72 (.el (dU x15)) (AF dU h34) <| gW 10074 (.sl (((aZ.set (AA .add .i64 aA aN).toNat x14).set (AA .add .i64 aA o10).toNat x15).map dU)) ?_
  obtain ⟨h35,h⟩ := cS h
  refine gQ h35.1 <| gQ (AD dU h35.2) ?_
  obtain ⟨h36,h⟩ := cS h
  refine gQ (Ax dU h36) <| gQ (AQ dU aZ (AA .add .i64 aA aN) x14) ?_
  obtain ⟨h37,h⟩ := cS h
  refine gQ h37.1 <| gQ (AD dU h37.2) ?_
  obtain ⟨h38,h⟩ := cS h
  refine gQ (Ax dU h38) <| gQ (AQ dU (aZ.set (AA .add .i64 aA aN).toNat x14) (AA .add .i64 aA o10) x15) ?_
  exact lp h
def R4 (us : List Value) (s2 s3 s8 : Int) (w0 : List Int) : St := ⟨sp 76 0 [rx 0,sI 2 s2,sI 3 s3,sI 8 s8],[rW 0 56 1 dU w0,(997,.vals [.row 0] us)],[]⟩
def R5 (us : List Value) (s2 s3 : Int) (o : (List Int) ⊕ (List Int)) : Ex × St := match o with
  | .inl o => (.exit 0,⟨sp 76 0 [],[rW 0 56 1 dU o,(997,.vals [.row 0] us)],[]⟩)
  | .inr o => (.ret,⟨sp 76 0 [],[rW 0 56 1 dU o,(997,.vals [.row 0] us)],[]⟩)
theorem XW (rd : Option Nat) (us : List Value) (h : Oh a8 aA aN aZ = some cC) : Lq 175 rd 6 (R4 us a8 aA aN aZ) ((R5 us a8 aA) cC) :=
  lL (fun s : Int × List Int => R4 us a8 aA s.1 s.2) (R5 us a8 aA) (aN,aZ) (fun ⟨aN,aZ⟩ o h => by
  unfold D8 at h
  obtain ⟨o16,h39,h⟩ := bS h
  refine gl (XV rd us h39) ?_
  replace h := AK h
  rcases h with ⟨o17,rfl,h⟩ | ⟨o18,rfl,h⟩
  exact lb h
  replace h := AK h
  rcases h with ⟨o19,rfl,h⟩ | ⟨o20,rfl,h⟩
  exact lb h
  exact lb h) h
theorem aGu (h : Xr a8 aA aN aZ = some cA) : AJ Tryz.prog 175 [.row 0,dI a8,dI aA,dI aN] [rW 0 56 1 dU aZ] (.tup []) [rW 0 56 1 dU cA] := by
  unfold Xr at h
  refine XG.call (ks := [0]) mixed fun us => ?_
  apply g0 (o := cA)
  obtain ⟨o21,h40,h⟩ := bS h
  refine gl (XW none us h40) ?_
  replace h := AK h
  rcases h with ⟨o22,rfl,h⟩ | ⟨o23,rfl,h⟩
  exact lX h (lv [] [0,997])
  exact lX h (lv [] [0,997])
def SI (us : List Value) (s6 s7 : Int) (s8 s9 : Int) (w0 : List Int) : St := ⟨sp 56 0 [rx 0,sI 6 s6,sI 7 s7,sI 8 s8,sI 9 s9],[rW 0 56 1 dU w0,(997,.vals [.row 0] us)],[]⟩
def SJ (us : List Value) (s6 s7 s8 : Int) (o : (List Int)) : Ex × St := (.exit 0,⟨sp 56 0 [rx 0,sI 6 s6,sI 7 s7,sI 8 s8],[rW 0 56 1 dU o,(997,.vals [.row 0] us)],[]⟩)
theorem YK (rd : Option Nat) (us : List Value) (h : Oo a8 aA aN aR aZ = some b6) : Lq 156 rd 122 (SI us a8 aA aN aR aZ) ((SJ us a8 aA aN) b6) :=
  lL (fun s : Int × List Int => SI us a8 aA aN s.1 s.2) (SJ us a8 aA aN) (aR,aZ) (fun ⟨aR,aZ⟩ o h => by
  unfold Fy at h
  refine iB 19 h (fun h => ?_) fun h => ?_
  obtain ⟨r1,h2,h⟩ := bS h
  refine gG 26 (.cx false [(0,0)] [] (.tup []) [rW 0 56 1 dU r1]) (aGu h2) ?_
  exact lb h
  exact lb h) h
def SK (us : List Value) (s6 s7 s10 : Int) (w0 : List Int) : St := ⟨sp 56 0 [rx 0,sI 6 s6,sI 7 s7,sI 10 s10],[rW 0 56 1 dU w0,(997,.vals [.row 0] us)],[]⟩
def SL (us : List Value) (s6 s7 : Int) (o : (List Int)) : Ex × St := (.exit 2,⟨sp 56 0 [],[rW 0 56 1 dU o,(997,.vals [.row 0] us)],[]⟩)
theorem YL (rd : Option Nat) (us : List Value) (h : Oq a8 aA aN aZ = some b6) : Lq 156 rd 126 (SK us a8 aA aN aZ) ((SL us a8 aA) b6) :=
  lL (fun s : Int × List Int => SK us a8 aA s.1 s.2) (SL us a8 aA) (aN,aZ) (fun ⟨aN,aZ⟩ o h => by
  unfold Fz at h
  refine iB 30 h (fun h => ?_) fun h => ?_
  obtain ⟨h5,h⟩ := cS h
  refine gQ h5.1 <| gQ (AD dU h5.2) ?_
  obtain ⟨x3,h6,h⟩ := xS h
  refine gG 44 (.el (dU x3)) (AF dU h6) <| gW 10049 (.sl ((aZ.set a8.toNat x3).map dU)) ?_
  obtain ⟨h7,h⟩ := cS h
  refine gQ h7.1 <| gQ (AD dU h7.2) ?_
  obtain ⟨x4,h8,h⟩ := xS h
  refine gG 48 (.el (dU x4)) (AF dU h8) <| gW 10050 (.sl (((aZ.set a8.toNat x3).set (AA .add .i64 a8 aN).toNat x4).map dU)) ?_
  obtain ⟨h9,h⟩ := cS h
  refine gQ h9.1 <| gQ (AD dU h9.2) ?_
  obtain ⟨h10,h⟩ := cS h
  refine gQ (Ax dU h10) <| gQ (AQ dU aZ a8 x3) ?_
  obtain ⟨h11,h⟩ := cS h
  refine gQ h11.1 <| gQ (AD dU h11.2) ?_
  obtain ⟨h12,h⟩ := cS h
  refine gQ (Ax dU h12) <| gQ (AQ dU (aZ.set a8.toNat x3) (AA .add .i64 a8 aN) x4) ?_
  obtain ⟨r5,h13,h⟩ := bS h
  refine gG 55 (.cx false [(0,0)] [] (.tup []) [rW 0 56 1 dU r5]) (aGu h13) ?_
  exact lb h
  exact lb h) h
theorem aKt (h : Xw a8 aA aZ = some cA) : AJ Tryz.prog 156 [.row 0,dI a8,dI aA] [rW 0 56 1 dU aZ] (.tup []) [rW 0 56 1 dU cA] := by
  unfold Xw at h
  refine XG.call (ks := [0]) mixed fun us => ?_
  apply g0 (o := cA)
  refine gQ (of_decide_eq_true rfl : (2 : Int) ≠ 0) ?_
  obtain ⟨o2,h3,h⟩ := bS h
  refine gl (YK none us h3) ?_
  obtain ⟨o6,h14,h⟩ := bS h
  refine gl (YL none us h14) ?_
  exact lX h (lv [] [0,997])
theorem aHp (h : Zw a8 = some aA) : AJ Tryz.prog 135 [dI a8] [] (.d (dU aA)) [] := by
  unfold Zw at h
  apply g0 (o := aA)
  obtain ⟨r1,h1,h⟩ := bS h
  refine gC 5 (aEs h1) ?_
  obtain ⟨h2,h⟩ := cS h
  refine gQ h2 ?_
  exact lf h
theorem aHq (h : Zx a8 = some aH) : AJ Tryz.prog 136 [.box 0 0] [(0,.cells ([.d (dU a8)]))] (.d (dU aH.1)) [(0,.cells ([.d (dU aH.2)]))] := by
  unfold Zx at h
  refine XG.call (ks := [0]) mixed fun us => ?_
  apply g0 (o := aH)
  refine gQ (of_decide_eq_true rfl : (0 : Int) ≤ 13) <| gQ (of_decide_eq_true rfl : (0 : Int) ≤ 7) <| gQ (of_decide_eq_true rfl : (0 : Int) ≤ 17) ?_
  exact lX h (lv [2] [0,997])
theorem YC (rd : Option Nat) (us : List Value) (h : Lv a8 aA aN aR bC aD aZ bD = some cD) : Lq 157 rd 30501 ⟨sp 65 0 [rx 0,sI 1 a8,sI 6 aA,bx 7,sD 8 dU aN,sI 9 aR,sI 10 bC,sD 43 D.b aD],[rW 0 56 1 dU aZ,(7,.cells ([.d (dU bD)])),(997,.vals [.row 0] us)],[]⟩ (.normal,⟨sp 65 0 [rx 0,sI 1 a8,sI 6 aA,bx 7,sD 8 dU aN,sI 9 aR,sI 10 cD],[rW 0 56 1 dU aZ,(7,.cells ([.d (dU bD)])),(997,.vals [.row 0] us)],[]⟩) := by
  unfold Lv at h
  apply g0 (o := cD)
  cases aD
  replace h := CO h
  exact lp h
  replace h := CP h
  exact lp h
theorem YB (rd : Option Nat) (us : List Value) (h : Oj a8 aA aN aR aZ bC = some cE) : Lq 157 rd 1906 ⟨sp 65 0 [rx 0,sI 1 a8,sI 6 aA,bx 7,sD 8 dU aN,sI 9 aR],[rW 0 56 1 dU aZ,(7,.cells ([.d (dU bC)])),(997,.vals [.row 0] us)],[]⟩ (.normal,⟨sp 65 0 [rx 0,sI 1 a8,sI 6 aA,bx 7,sD 8 dU aN,sI 9 aR],[rW 0 56 1 dU cE.1,(7,.cells ([.d (dU cE.2)])),(997,.vals [.row 0] us)],[]⟩) := by
  unfold Oj at h
  apply g0 (o := cE)
  obtain ⟨r2,h4,h⟩ := bS h
  refine gG 36 (.cx false [(0,7)] [] (.d (dU r2.1)) [(0,.cells ([.d (dU r2.2)]))]) (aHq h4) ?_
  obtain ⟨o3,h6,h⟩ := bS h
  refine gl (YC rd us h6) ?_
  obtain ⟨h7,h⟩ := cS h
  refine gQ h7.1 <| gQ (AD dU h7.2) ?_
  obtain ⟨x4,h8,h⟩ := xS h
  refine gG 58 (.el (dU x4)) (AF dU h8) <| gW 10063 (.sl ((aZ.set aR.toNat x4).map dU)) ?_
  obtain ⟨h9,h⟩ := cS h
  refine gQ h9.1 <| gQ (AD dU h9.2) ?_
  obtain ⟨x5,h10,h⟩ := xS h
  refine gG 62 (.el (dU x5)) (AF dU h10) <| gW 10064 (.sl (((aZ.set aR.toNat x4).set (AA .add .i64 a8 o3).toNat x5).map dU)) ?_
  obtain ⟨h11,h⟩ := cS h
  refine gQ h11.1 <| gQ (AD dU h11.2) ?_
  obtain ⟨h12,h⟩ := cS h
  refine gQ (Ax dU h12) <| gQ (AQ dU aZ aR x4) ?_
  obtain ⟨h13,h⟩ := cS h
  refine gQ h13.1 <| gQ (AD dU h13.2) ?_
  obtain ⟨h14,h⟩ := cS h
  refine gQ (Ax dU h14) <| gQ (AQ dU (aZ.set aR.toNat x4) (AA .add .i64 a8 o3) x5) ?_
  exact lp h
def R9 (us : List Value) (s1 s6 : Int) (s8 s9 : Int) (w0 : List Int) (w7 : Int) : St := ⟨sp 65 0 [rx 0,sI 1 s1,sI 6 s6,bx 7,sD 8 dU s8,sI 9 s9],[rW 0 56 1 dU w0,(7,.cells ([.d (dU w7)])),(997,.vals [.row 0] us)],[]⟩
def SA (us : List Value) (s1 s6 s8 : Int) (o : (List Int)) : Ex × St := (.exit 0,⟨sp 65 0 [],[rW 0 56 1 dU o,(997,.vals [.row 0] us)],[]⟩)
theorem YD (rd : Option Nat) (us : List Value) (h : Ok a8 aA aN aR aZ bC = some b6) : Lq 157 rd 238 (R9 us a8 aA aN aR aZ bC) ((SA us a8 aA aN) b6) :=
  lL (fun s : Int × List Int × Int => R9 us a8 aA aN s.1 s.2.1 s.2.2) (SA us a8 aA aN) (aR,aZ,bC) (fun ⟨aR,aZ,bC⟩ o h => by
  unfold Fw at h
  refine gQ (of_decide_eq_true rfl : (4 : Int) ≠ 0) ?_
  refine iB 33 h (fun h => ?_) fun h => ?_
  obtain ⟨o6,h15,h⟩ := bS h
  refine gl (YB rd us h15) ?_
  exact lb h
  exact lb h) h
theorem YA (rd : Option Nat) (us : List Value) (h : Oi a8 aA aD aZ = some b6) : Lq 157 rd 7 ⟨sp 65 0 [rx 0,sI 1 a8,sI 6 aA,sD 15 D.b aD],[rW 0 56 1 dU aZ,(997,.vals [.row 0] us)],[]⟩ (.normal,⟨sp 65 0 [],[rW 0 56 1 dU b6,(997,.vals [.row 0] us)],[]⟩) := by
  unfold Oi at h
  apply g0 (o := b6)
  cases aD
  replace h := CO h
  exact lp h
  replace h := CP h
  obtain ⟨r1,h2,h⟩ := bS h
  refine gC 19 (aHp h2) <| gQ (of_decide_eq_true rfl : (4 : Int) ≠ 0) ?_
  obtain ⟨o7,h16,h⟩ := bS h
  refine gl (YD rd us h16) ?_
  exact lp h
theorem aKo (h : Xt a8 aA aZ = some cA) : AJ Tryz.prog 157 [.row 0,dI a8,dI aA] [rW 0 56 1 dU aZ] (.tup []) [rW 0 56 1 dU cA] := by
  unfold Xt at h
  refine XG.call (ks := [0]) mixed fun us => ?_
  apply g0 (o := cA)
  obtain ⟨o8,h17,h⟩ := bS h
  refine gl (YA none us h17) ?_
  exact lX h (lv [] [0,997])
theorem aEq (h : Zc aZ a8 aA aN = some aM) : AJ Tryz.prog 184 [.d ((D.l dU) aZ),dI a8,dI aA,.box 0 0] [(0,.cells ([dI aN]))] (.tup [dI aM.1,dI aM.2.1]) [(0,.cells ([dI aM.2.2]))] := by
  unfold Zc at h
  refine XG.call (ks := [3]) mixed fun us => ?_
  apply g0 (o := aM)
  refine xX 12 dU h fun x1 h => ?_
  refine xX 16 dU h fun x2 h => ?_
  obtain ⟨r3,h3,h⟩ := bS h
  refine gQ (ER h3) ?_
  cases r3
  replace h := CO h
  refine gW 18 (.ret (.d (D.b false))) ?_
  exact lX h (lv [8,9] [0,997])
  replace h := CP h
  refine gW 18 (.ret (.d (D.b true))) ?_
  exact lX h (lv [8,9] [0,997])
theorem aHk (h : Zo aZ a8 aA aN aR = some aH) : AJ Tryz.prog 177 [.d ((D.l dU) aZ),dI a8,dI aA,dI aN,.box 0 0] [(0,.cells ([dI aR]))] (dI aH.1) [(0,.cells ([dI aH.2]))] := by
  unfold Zo at h
  refine XG.call (ks := [4]) mixed fun us => ?_
  apply g0 (o := aH)
  obtain ⟨r1,h1,h⟩ := bS h
  refine gG 16 (.cx false [(0,0)] [] (.tup [dI r1.1,dI r1.2.1]) [(0,.cells ([dI r1.2.2]))]) (aEq h1) ?_
  obtain ⟨r2,h2,h⟩ := bS h
  refine gG 24 (.cx false [(0,0)] [] (.tup [dI r2.1,dI r2.2.1]) [(0,.cells ([dI r2.2.2]))]) (aEq h2) ?_
  obtain ⟨r3,h3,h⟩ := bS h
  refine gG 32 (.cx false [(0,0)] [] (.tup [dI r3.1,dI r3.2.1]) [(0,.cells ([dI r3.2.2]))]) (aEq h3) ?_
  exact lX h (lv [10] [0,997])
theorem aEr (h : Zd aZ a8 aA = some aH) : AJ Tryz.prog 176 [.d ((D.l dU) aZ),dI a8,.box 0 0] [(0,.cells ([dI aA]))] (dI aH.1) [(0,.cells ([dI aH.2]))] := by
  unfold Zd at h
  refine XG.call (ks := [2]) mixed fun us => ?_
  apply g0 (o := aH)
  obtain ⟨r1,h1,h⟩ := bS h
  refine gG 14 (.cx false [(0,0)] [] (dI r1.1) [(0,.cells ([dI r1.2]))]) (aHk h1) ?_
  exact lX h (lv [6] [0,997])
theorem aAq (rd : Option Nat) (h : MD aZ a8 aA aN aD aR = some cF) : Lq 158 rd 4073 ⟨sp 57 0 [sD 0 (D.l dU) aZ,bx 9,sI 10 a8,sI 11 aA,sI 12 aN,sD 34 D.b aD],[(9,.cells ([dI aR]))],[]⟩ (.normal,⟨sp 57 0 [sD 0 (D.l dU) aZ,bx 9,sI 10 cF.1,sI 11 cF.2.1,sI 12 cF.2.2.1],[(9,.cells ([dI cF.2.2.2]))],[]⟩) := by
  unfold MD at h
  apply g0 (o := cF)
  cases aD
  replace h := CO h
  exact lp h
  replace h := CP h
  obtain ⟨r1,h3,h⟩ := bS h
  refine gG 37 (.cx false [(0,9)] [] (dI r1.1) [(0,.cells ([dI r1.2]))]) (aEr h3) ?_
  obtain ⟨r2,h4,h⟩ := bS h
  refine gG 40 (.cx false [(0,9)] [] (dI r2.1) [(0,.cells ([dI r2.2]))]) (aEr h4) ?_
  obtain ⟨r3,h5,h⟩ := bS h
  refine gG 43 (.cx false [(0,9)] [] (dI r3.1) [(0,.cells ([dI r3.2]))]) (aEr h5) ?_
  exact lp h
theorem aAp (rd : Option Nat) (h : Ox aZ a8 aA aN aR aD bC = some bI) : Lq 158 rd 509 ⟨sp 57 0 [sD 0 (D.l dU) aZ,sI 8 a8,bx 9,sI 10 aA,sI 11 aN,sI 12 aR,sD 32 D.b aD],[(9,.cells ([dI bC]))],[]⟩ (.normal,⟨sp 57 0 [bx 9,sI 11 bI.1],[(9,.cells ([dI bI.2]))],[]⟩) := by
  unfold Ox at h
  apply g0 (o := bI)
  cases aD
  replace h := CO h
  exact lp h
  replace h := CP h
  obtain ⟨o4,h6,h⟩ := bS h
  refine gl (aAq rd h6) ?_
  obtain ⟨r5,h7,h⟩ := bS h
  refine gG 48 (.cx false [(0,9)] [] (dI r5.1) [(0,.cells ([dI r5.2]))]) (aHk h7) ?_
  exact lp h
theorem aLs (h : Yn aZ a8 aA = some aH) : AJ Tryz.prog 158 [.d ((D.l dU) aZ),dI a8,dI aA] [] (.tup [dI aH.1,dI aH.2]) [] := by
  unfold Yn at h
  apply g0 (o := aH)
  refine gQ (of_decide_eq_true rfl : (4 : Int) ≠ 0) <| gQ (of_decide_eq_true rfl : (4 : Int) ≠ 0) <| gQ (of_decide_eq_true rfl : (4 : Int) ≠ 0) ?_
  obtain ⟨o6,h8,h⟩ := bS h
  refine gl (aAp none h8) ?_
  refine iB 51 h (fun h => ?_) fun h => ?_
  exact lf h
  refine iB 54 h (fun h => ?_) fun h => ?_
  exact lf h
  exact lf h
def S1 (us : List Value) (s6 s7 : Int) (w0 : List Int) : St := ⟨sp 32 0 [rx 0,sI 6 s6,sI 7 s7],[rW 0 56 1 dU w0,(997,.vals [.row 0] us)],[]⟩
def S2 (us : List Value) (o : (List Int)) : Ex × St := (.exit 0,⟨sp 32 0 [],[rW 0 56 1 dU o,(997,.vals [.row 0] us)],[]⟩)
theorem aAf (rd : Option Nat) (us : List Value) (h : Ov a8 aA aZ = some b6) : Lq 159 rd 14 (S1 us a8 aA aZ) ((S2 us) b6) :=
  lL (fun s : Int × Int × List Int => S1 us s.1 s.2.1 s.2.2) (S2 us) (a8,aA,aZ) (fun ⟨a8,aA,aZ⟩ o h => by
  unfold HS at h
  refine iB 13 h (fun h => ?_) fun h => ?_
  obtain ⟨h2,h⟩ := cS h
  refine gQ h2.1 <| gQ (AD dU h2.2) ?_
  obtain ⟨x1,h3,h⟩ := xS h
  refine gG 21 (.el (dU x1)) (AF dU h3) <| gW 10026 (.sl ((aZ.set a8.toNat x1).map dU)) ?_
  obtain ⟨h4,h⟩ := cS h
  refine gQ h4.1 <| gQ (AD dU h4.2) ?_
  obtain ⟨x2,h5,h⟩ := xS h
  refine gG 25 (.el (dU x2)) (AF dU h5) <| gW 10027 (.sl (((aZ.set a8.toNat x1).set aA.toNat x2).map dU)) ?_
  obtain ⟨h6,h⟩ := cS h
  refine gQ h6.1 <| gQ (AD dU h6.2) ?_
  obtain ⟨h7,h⟩ := cS h
  refine gQ (Ax dU h7) <| gQ (AQ dU aZ a8 x1) ?_
  obtain ⟨h8,h⟩ := cS h
  refine gQ h8.1 <| gQ (AD dU h8.2) ?_
  obtain ⟨h9,h⟩ := cS h
  refine gQ (Ax dU h9) <| gQ (AQ dU (aZ.set a8.toNat x1) aA x2) ?_
  exact lb h
  exact lb h) h
theorem aLm (h : Yg a8 aA aZ = some cA) : AJ Tryz.prog 159 [.row 0,dI a8,dI aA] [rW 0 56 1 dU aZ] (.tup []) [rW 0 56 1 dU cA] := by
  unfold Yg at h
  refine XG.call (ks := [0]) mixed fun us => ?_
  apply g0 (o := cA)
  obtain ⟨o3,h10,h⟩ := bS h
  refine gl (aAf none us h10) ?_
  exact lX h (lv [] [0,997])
def P1 (us : List Value) (s1 s2 s8 : Int) (w0 : List Int) (s7 : Int) : St := ⟨sp 133 0 [rx 0,sI 1 s1,sI 2 s2,sI 7 s7,sI 8 s8],[rW 0 56 1 dU w0,(997,.vals [.row 0] us)],[]⟩
def P2 (us : List Value) (s1 s2 s8 : Int) (w0 : List Int) (o : Int) : Ex × St := (.exit 2,⟨sp 133 0 [rx 0,sI 1 s1,sI 2 s2,sI 7 o,sI 8 s8],[rW 0 56 1 dU w0,(997,.vals [.row 0] us)],[]⟩)
theorem VZ (rd : Option Nat) (us : List Value) (h : OF a8 aA aN aZ aR = some bC) : Lq 160 rd 3728 (P1 us a8 aA aN aZ aR) ((P2 us a8 aA aN aZ) bC) :=
  lL (fun s : Int => P1 us a8 aA aN aZ s) (P2 us a8 aA aN aZ) aR (fun aR o h => by
  unfold Fl at h
  refine iB 20 h (fun h => ?_) fun h => ?_
  obtain ⟨h3,h⟩ := cS h
  refine gQ h3.1 <| gQ (AD dU h3.2) ?_
  obtain ⟨x1,h4,h⟩ := xS h
  refine gG 24 (.el (dU x1)) (AF dU h4) ?_
  obtain ⟨h5,h⟩ := cS h
  refine gQ h5.1 <| gQ (AD dU h5.2) ?_
  obtain ⟨x2,h6,h⟩ := xS h
  refine gG 29 (.el (dU x2)) (AF dU h6) ?_
  obtain ⟨r3,h7,h⟩ := bS h
  refine gC 30 (ER h7) ?_
  refine iB 32 h (fun h => ?_) fun h => ?_
  exact lb h
  exact lb h
  exact lb h) h
def P3 (us : List Value) (s1 s2 : Int) (s7 s8 s9 : Int) (w0 : List Int) : St := ⟨sp 133 0 [rx 0,sI 1 s1,sI 2 s2,sI 7 s7,sI 8 s8,sI 9 s9],[rW 0 56 1 dU w0,(997,.vals [.row 0] us)],[]⟩
def P4 (us : List Value) (s1 s2 : Int) (s7 s8 : Int) (o : (List Int)) : Ex × St := (.exit 4,⟨sp 133 0 [rx 0,sI 1 s1,sI 2 s2,sI 7 s7,sI 8 s8],[rW 0 56 1 dU o,(997,.vals [.row 0] us)],[]⟩)
theorem Va (rd : Option Nat) (us : List Value) (h : OG a8 aA aN aR bC aZ = some b6) : Lq 160 rd 477674 (P3 us a8 aA aN aR bC aZ) ((P4 us a8 aA aN aR) b6) :=
  lL (fun s : Int × List Int => P3 us a8 aA aN aR s.1 s.2) (P4 us a8 aA aN aR) (bC,aZ) (fun ⟨bC,aZ⟩ o h => by
  unfold Fm at h
  refine iB 65 h (fun h => ?_) fun h => ?_
  obtain ⟨h22,h⟩ := cS h
  refine gQ h22.1 <| gQ (AD dU h22.2) ?_
  obtain ⟨x7,h23,h⟩ := xS h
  refine gG 71 (.el (dU x7)) (AF dU h23) ?_
  obtain ⟨h24,h⟩ := cS h
  refine gQ h24.1 <| gQ (AD dU h24.2) ?_
  obtain ⟨x8,h25,h⟩ := xS h
  refine gG 76 (.el (dU x8)) (AF dU h25) ?_
  obtain ⟨r9,h26,h⟩ := bS h
  refine gC 77 (ER h26) ?_
  refine iB 78 h (fun h => ?_) fun h => ?_
  exact lb h
  obtain ⟨h28,h⟩ := cS h
  refine gQ h28.1 <| gQ (AD dU h28.2) ?_
  obtain ⟨x10,h29,h⟩ := xS h
  refine gG 88 (.el (dU x10)) (AF dU h29) <| gW 10093 (.sl ((aZ.set bC.toNat x10).map dU)) ?_
  obtain ⟨h30,h⟩ := cS h
  refine gQ h30.1 <| gQ (AD dU h30.2) ?_
  obtain ⟨x11,h31,h⟩ := xS h
  refine gG 92 (.el (dU x11)) (AF dU h31) <| gW 10094 (.sl (((aZ.set bC.toNat x10).set (AA .sub .i64 bC 1).toNat x11).map dU)) ?_
  obtain ⟨h32,h⟩ := cS h
  refine gQ h32.1 <| gQ (AD dU h32.2) ?_
  obtain ⟨h33,h⟩ := cS h
  refine gQ (Ax dU h33) <| gQ (AQ dU aZ bC x10) ?_
  obtain ⟨h34,h⟩ := cS h
  refine gQ h34.1 <| gQ (AD dU h34.2) ?_
  obtain ⟨h35,h⟩ := cS h
  refine gQ (Ax dU h35) <| gQ (AQ dU (aZ.set bC.toNat x10) (AA .sub .i64 bC 1) x11) ?_
  exact lb h
  exact lb h) h
theorem VW (rd : Option Nat) (us : List Value) (h : LC a8 aA aN aR aD aZ = some b6) : Lq 160 rd 59709 ⟨sp 133 0 [rx 0,sI 1 a8,sI 2 aA,sI 7 aN,sI 8 aR,sD 61 D.b aD],[rW 0 56 1 dU aZ,(997,.vals [.row 0] us)],[]⟩ (.normal,⟨sp 133 0 [rx 0,sI 1 a8,sI 2 aA,sI 7 aN,sI 8 aR],[rW 0 56 1 dU b6,(997,.vals [.row 0] us)],[]⟩) := by
  unfold LC at h
  apply g0 (o := b6)
  cases aD
  replace h := CO h
  exact lp h
  replace h := CP h
  obtain ⟨o12,h36,h⟩ := bS h
  refine gl (Va rd us h36) ?_
  exact lp h
def P5 (us : List Value) (s1 s2 : Int) (s7 s8 s10 : Int) (w0 : List Int) : St := ⟨sp 133 0 [rx 0,sI 1 s1,sI 2 s2,sI 7 s7,sI 8 s8,sI 10 s10],[rW 0 56 1 dU w0,(997,.vals [.row 0] us)],[]⟩
def P6 (us : List Value) (s1 s2 : Int) (s7 s8 : Int) (o : (List Int)) : Ex × St := (.exit 6,⟨sp 133 0 [rx 0,sI 1 s1,sI 2 s2,sI 7 s7,sI 8 s8],[rW 0 56 1 dU o,(997,.vals [.row 0] us)],[]⟩)
theorem Vb (rd : Option Nat) (us : List Value) (h : OH a8 aA aN aR bC aZ = some b6) : Lq 160 rd 477690 (P5 us a8 aA aN aR bC aZ) ((P6 us a8 aA aN aR) b6) :=
  lL (fun s : Int × List Int => P5 us a8 aA aN aR s.1 s.2) (P6 us a8 aA aN aR) (bC,aZ) (fun ⟨bC,aZ⟩ o h => by
  unfold Fo at h
  refine iB 103 h (fun h => ?_) fun h => ?_
  obtain ⟨h40,h⟩ := cS h
  refine gQ h40.1 <| gQ (AD dU h40.2) ?_
  obtain ⟨x14,h41,h⟩ := xS h
  refine gG 109 (.el (dU x14)) (AF dU h41) ?_
  obtain ⟨h42,h⟩ := cS h
  refine gQ h42.1 <| gQ (AD dU h42.2) ?_
  obtain ⟨x15,h43,h⟩ := xS h
  refine gG 114 (.el (dU x15)) (AF dU h43) ?_
  obtain ⟨r16,h44,h⟩ := bS h
  refine gC 115 (ER h44) ?_
  refine iB 116 h (fun h => ?_) fun h => ?_
  exact lb h
  obtain ⟨h46,h⟩ := cS h
  refine gQ h46.1 <| gQ (AD dU h46.2) ?_
  obtain ⟨x17,h47,h⟩ := xS h
  refine gG 126 (.el (dU x17)) (AF dU h47) <| gW 10131 (.sl ((aZ.set bC.toNat x17).map dU)) ?_
  obtain ⟨h48,h⟩ := cS h
  refine gQ h48.1 <| gQ (AD dU h48.2) ?_
  obtain ⟨x18,h49,h⟩ := xS h
  refine gG 130 (.el (dU x18)) (AF dU h49) <| gW 10132 (.sl (((aZ.set bC.toNat x17).set (AA .sub .i64 bC 1).toNat x18).map dU)) ?_
  obtain ⟨h50,h⟩ := cS h
  refine gQ h50.1 <| gQ (AD dU h50.2) ?_
  obtain ⟨h51,h⟩ := cS h
  refine gQ (Ax dU h51) <| gQ (AQ dU aZ bC x17) ?_
  obtain ⟨h52,h⟩ := cS h
  refine gQ h52.1 <| gQ (AD dU h52.2) ?_
  obtain ⟨h53,h⟩ := cS h
  refine gQ (Ax dU h53) <| gQ (AQ dU (aZ.set bC.toNat x17) (AA .sub .i64 bC 1) x18) ?_
  exact lb h
  exact lb h) h
theorem VX (rd : Option Nat) (us : List Value) (h : LD a8 aA aN aR aD aZ = some b6) : Lq 160 rd 59711 ⟨sp 133 0 [rx 0,sI 1 a8,sI 2 aA,sI 7 aN,sI 8 aR,sD 98 D.b aD],[rW 0 56 1 dU aZ,(997,.vals [.row 0] us)],[]⟩ (.normal,⟨sp 133 0 [rx 0,sI 1 a8,sI 2 aA,sI 7 aN,sI 8 aR],[rW 0 56 1 dU b6,(997,.vals [.row 0] us)],[]⟩) := by
  unfold LD at h
  apply g0 (o := b6)
  cases aD
  replace h := CO h
  exact lp h
  replace h := CP h
  obtain ⟨o19,h54,h⟩ := bS h
  refine gl (Vb rd us h54) ?_
  exact lp h
theorem VV (rd : Option Nat) (us : List Value) (h : OE a8 aA aN aR aZ = some cG) : Lq 160 rd 466 ⟨sp 133 0 [rx 0,sI 1 a8,sI 2 aA,sI 7 aN,sI 8 aR],[rW 0 56 1 dU aZ,(997,.vals [.row 0] us)],[]⟩ (match (generalizing := false) cG with
  | .inl cG => (.normal,⟨sp 133 0 [rx 0,sI 1 a8,sI 2 aA,sI 7 cG.1,sI 8 aR],[rW 0 56 1 dU cG.2,(997,.vals [.row 0] us)],[]⟩)
  | .inr cG => (.ret,⟨sp 133 0 [sD 6 D.b cG],[rW 0 56 1 dU aZ,(997,.vals [.row 0] us)],[]⟩)) := by
  unfold OE at h
  apply g0 (o := cG)
  obtain ⟨o4,h9,h⟩ := bS h
  refine gl (VZ rd us h9) ?_
  refine iB 37 h (fun h => ?_) fun h => ?_
  exact lp h
  refine iB 41 h (fun h => ?_) fun h => ?_
  exact lp h
  obtain ⟨h12,h⟩ := cS h
  refine gQ h12.1 <| gQ (AD dU h12.2) ?_
  obtain ⟨x5,h13,h⟩ := xS h
  refine gG 51 (.el (dU x5)) (AF dU h13) <| gW 10056 (.sl ((aZ.set o4.toNat x5).map dU)) ?_
  obtain ⟨h14,h⟩ := cS h
  refine gQ h14.1 <| gQ (AD dU h14.2) ?_
  obtain ⟨x6,h15,h⟩ := xS h
  refine gG 55 (.el (dU x6)) (AF dU h15) <| gW 10057 (.sl (((aZ.set o4.toNat x5).set (AA .sub .i64 o4 1).toNat x6).map dU)) ?_
  obtain ⟨h16,h⟩ := cS h
  refine gQ h16.1 <| gQ (AD dU h16.2) ?_
  obtain ⟨h17,h⟩ := cS h
  refine gQ (Ax dU h17) <| gQ (AQ dU aZ o4 x5) ?_
  obtain ⟨h18,h⟩ := cS h
  refine gQ h18.1 <| gQ (AD dU h18.2) ?_
  obtain ⟨h19,h⟩ := cS h
  refine gQ (Ax dU h19) <| gQ (AQ dU (aZ.set o4.toNat x5) (AA .sub .i64 o4 1) x6) ?_
  obtain ⟨o13,h37,h⟩ := bS h
  refine gl (VW rd us h37) ?_
  obtain ⟨o20,h55,h⟩ := bS h
  refine gl (VX rd us h55) ?_
  exact lp h
def Pz (us : List Value) (s1 s2 : Int) (s7 s8 : Int) (w0 : List Int) : St := ⟨sp 133 0 [rx 0,sI 1 s1,sI 2 s2,sI 7 s7,sI 8 s8],[rW 0 56 1 dU w0,(997,.vals [.row 0] us)],[]⟩
def P0 (us : List Value) (s1 s2 : Int) (o : (List Int) ⊕ (Bool × List Int)) : Ex × St := match o with
  | .inl o => (.exit 0,⟨sp 133 0 [],[rW 0 56 1 dU o,(997,.vals [.row 0] us)],[]⟩)
  | .inr o => (.ret,⟨sp 133 0 [sD 6 D.b o.1],[rW 0 56 1 dU o.2,(997,.vals [.row 0] us)],[]⟩)
theorem VY (rd : Option Nat) (us : List Value) (h : LE a8 aA aN aR aZ = some cH) : Lq 160 rd 58 (Pz us a8 aA aN aR aZ) ((P0 us a8 aA) cH) :=
  lL (fun s : Int × Int × List Int => Pz us a8 aA s.1 s.2.1 s.2.2) (P0 us a8 aA) (aN,aR,aZ) (fun ⟨aN,aR,aZ⟩ o h => by
  unfold Fk at h
  refine iB 14 h (fun h => ?_) fun h => ?_
  obtain ⟨o21,h56,h⟩ := bS h
  refine gl (VV rd us h56) ?_
  replace h := AK h
  rcases h with ⟨o22,rfl,h⟩ | ⟨o23,rfl,h⟩
  exact lb h
  exact lb h
  exact lb h) h
theorem aJo (h : X5 a8 aA aZ = some cI) : AJ Tryz.prog 160 [.row 0,dI a8,dI aA] [rW 0 56 1 dU aZ] (.d (D.b cI.1)) [rW 0 56 1 dU cI.2] := by
  unfold X5 at h
  refine XG.call (ks := [0]) mixed fun us => ?_
  apply g0 (o := cI)
  obtain ⟨o24,h57,h⟩ := bS h
  refine gl (VY none us h57) ?_
  replace h := AK h
  rcases h with ⟨o25,rfl,h⟩ | ⟨o26,rfl,h⟩
  exact lX h (lv [6] [0,997])
  exact lX h (lv [6] [0,997])
end Go.Ac
