/- Own work, printed: the functions compute these. -/
import Derived.Test.YtbmojpadjglncaaGreatSh22zn
import Derived.Test.YtbmojpadjglncaaGreatProg
set_option linter.unusedVariables false
set_option linter.unusedSimpArgs false
set_option linter.unusedVariables false
set_option linter.unusedSimpArgs false
namespace Go.Ac
open Go.Proofs
theorem mixed : Tryz.prog.follows .mixedOrders = true := by kernel_rfl
theorem lB {β : Type} {ws : List (Nat × W)} {lw : List Lw} {Q : List Prop} {o v : β} {rd : Option Nat} {root : Code} {q : List Nat} {s : St} {E : β → Ex} {S : β → St} (h : some v = some o) (l : List Ws) (he : (cj Q True ∧ (E v = E v ∧ S v = S v)) = RunB Tryz.prog rd root ws lw q l s (E v) (S v) := by kernel_rfl) : Gl ws lw Q (fun o => Arr Tryz.prog rd root q s (E o) (S o)) o := lB_ mixed h l he
theorem lP {β : Type} {ws : List (Nat × W)} {lw : List Lw} {Q : List Prop} {o v : β} {rd : Option Nat} {root : Code} {q : List Nat} {s : St} {E : β → Ex} {S : β → St} (h : some v = some o) (l : List Ws) (he : (cj Q True ∧ (E v = E v ∧ S v = S v)) = RunB Tryz.prog rd root ws lw q l s (E v) (S v) := by kernel_rfl) : Gl ws lw Q (fun o => LpOf Tryz.prog rd root q s (E o) (S o)) o := lP_ mixed h l he
theorem lF {β : Type} {ws : List (Nat × W)} {lw : List Lw} {Q : List Prop} {o v : β} {f : FuncId} {args : List A} {R : β → A} (h : some v = some o) (l : List Ws) (he : (cj Q True ∧ (R v = R v ∧ true = true)) = RunF Tryz.prog f ws lw l args (R v) := by kernel_rfl) : Gl ws lw Q (fun o => ACall Tryz.prog f args [] (R o) []) o := lF_ mixed h l he
theorem lI {β : Type} {ws : List (Nat × W)} {lw : List Lw} {Q : List Prop} {o v : β} {f : FuncId} {args : List A} {F0 : Bx} (hF : Far F0) {r : A} {F : β → Bx} (hc : ∀ f, ∀ p ∈ F f, ∀ m, p.2.has m = true → m ∈ names (F f)) (h : some v = some o) (l : List Ws) (he : (cj Q True ∧ (r = r ∧ F v = F v ∧ true = true)) = RunI Tryz.prog f ws lw l args F0 r (F v) := by kernel_rfl) : Gl ws lw Q (fun o => ACallW Tryz.prog f args F0 r (F o)) o := lI_ mixed hF hc h l he
theorem lX {β : Type} {ws : List (Nat × W)} {lw : List Lw} {Q : List Prop} {o v : β} {f : FuncId} {args : List A} {X : Bx} {ks : List Nat} {us : List Value} {R : β → A} {X1 : β → Bx} (h : some v = some o) (l : List Ws) (he : (cj Q True ∧ (R v = R v ∧ X1 v ++ [(vx, .vals (kept args ks) us)] = X1 v ++ [(vx, .vals (kept args ks) us)] ∧ true = true)) = RunX Tryz.prog f ws lw l args X ks us (R v) (X1 v) := by kernel_rfl) : Gl ws lw Q (fun o => XG Tryz.prog f args X ks us (R o) (X1 o)) o := lX_ h l he
def ref13_Few_l1_I (w1 : TQea) (s3 : Int) : St := ⟨sp 166 0 [(1, .box 1 0), (3, dI s3)], [(1, .cells ((cellsA (TQea.D w1))))], []⟩
def ref13_Few_l1_O (w1 : TQea) (o : Unit ⊕ Unit) : Ex × St := match o with
  | .inl o => (.exit 0, ⟨sp 166 0 [(1, .box 1 0)], [(1, .cells ((cellsA (TQea.D w1))))], []⟩)
  | .inr o => (.ret, ⟨sp 166 0 [(2, dI 0)], [], []⟩)
theorem ref13_Few_l1_ok (rd : Option Nat) {w1 : TQea} {s3 : Int} {t : Unit ⊕ Unit} (h : ref13_Few_l1 w1 s3 = some t) : LpOfR Tryz.prog rd (fbody Tryz.prog 19) [0, 1, 0, 1, 1] (ref13_Few_l1_I w1 s3) ((ref13_Few_l1_O w1) t) :=
  loopE_lpR (fun s : Int => ref13_Few_l1_I w1 s) (ref13_Few_l1_O w1) (by kernel_rfl) (fun t => isN_ne (by rcases t with (_ | _) <;> rfl)) (fun s3 o h => by
  replace h : ref13_Few_l1_s w1 s3 = some o := h
  unfold ref13_Few_l1_s at h
  apply g0 (o := o)
  refine gN 58 TDecl.D w1.decls ?_
  refine iB 59 h (fun h => ?_) fun h => ?_
  refine xX 65 TDecl.D h fun x1 h => ?_
  refine gN 68 (D.i .i64) x1.types ?_
  refine iB 70 h (fun h => ?_) fun h => ?_
  exact lB h (lv [2] [])
  refine xX 74 TDecl.D h fun x2 h => ?_
  refine gG 77 (.int (x2.name.length : Int)) (len_str x2.name) ?_
  refine iB 79 h (fun h => ?_) fun h => ?_
  exact lB h (lv [2] [])
  exact lB h (lv [1,3] [1])
  exact lB h (lv [1] [1])) (s := s3) (t := t) h
def ref13_Few_l3_I (s4 : Int) (w1 : TQea) (s5 : Int) : St := ⟨sp 166 0 [(1, .box 1 0), (4, dI s4), (5, dI s5)], [(1, .cells ((cellsA (TQea.D w1))))], []⟩
def ref13_Few_l3_O (s4 : Int) (w1 : TQea) (o : Unit ⊕ Unit) : Ex × St := match o with
  | .inl o => (.exit 4, ⟨sp 166 0 [(1, .box 1 0), (4, dI s4)], [(1, .cells ((cellsA (TQea.D w1))))], []⟩)
  | .inr o => (.ret, ⟨sp 166 0 [(2, dI 0)], [], []⟩)
theorem ref13_Few_l3_ok (rd : Option Nat) {s4 : Int} {w1 : TQea} {s5 : Int} {t : Unit ⊕ Unit} (h : ref13_Few_l3 s4 w1 s5 = some t) : LpOfR Tryz.prog rd (fbody Tryz.prog 19) [0, 1, 1, 0, 0, 1, 0, 0, 1, 0, 1, 1, 1] (ref13_Few_l3_I s4 w1 s5) ((ref13_Few_l3_O s4 w1) t) :=
  loopE_lpR (fun s : Int => ref13_Few_l3_I s4 w1 s) (ref13_Few_l3_O s4 w1) (by kernel_rfl) (fun t => isN_ne (by rcases t with (_ | _) <;> rfl)) (fun s5 o h => by
  replace h : ref13_Few_l3_s s4 w1 s5 = some o := h
  unfold ref13_Few_l3_s at h
  apply g0 (o := o)
  refine xX 99 TSymbol.D h fun x7 h => ?_
  refine gN 102 TArg.D x7.args ?_
  refine iB 103 h (fun h => ?_) fun h => ?_
  refine xX 109 TSymbol.D h fun x8 h => ?_
  refine xX 113 TArg.D h fun x9 h => ?_
  refine gG 117 (.int (x9.value.str.length : Int)) (len_str x9.value.str) ?_
  refine iB 118 h (fun h => ?_) fun h => ?_
  exact lB h (lv [2] [])
  exact lB h (lv [1,4,5] [1])
  exact lB h (lv [1,4] [1])) (s := s5) (t := t) h
def ref13_Few_l2_I (w1 : TQea) (s4 : Int) : St := ⟨sp 166 0 [(1, .box 1 0), (4, dI s4)], [(1, .cells ((cellsA (TQea.D w1))))], []⟩
def ref13_Few_l2_O (w1 : TQea) (o : Unit ⊕ Unit) : Ex × St := match o with
  | .inl o => (.exit 2, ⟨sp 166 0 [(1, .box 1 0)], [(1, .cells ((cellsA (TQea.D w1))))], []⟩)
  | .inr o => (.ret, ⟨sp 166 0 [(2, dI 0)], [], []⟩)
theorem ref13_Few_l2_ok (rd : Option Nat) {w1 : TQea} {s4 : Int} {t : Unit ⊕ Unit} (h : ref13_Few_l2 w1 s4 = some t) : LpOfR Tryz.prog rd (fbody Tryz.prog 19) [0, 1, 0, 1, 1, 1] (ref13_Few_l2_I w1 s4) ((ref13_Few_l2_O w1) t) :=
  loopE_lpR (fun s : Int => ref13_Few_l2_I w1 s) (ref13_Few_l2_O w1) (by kernel_rfl) (fun t => isN_ne (by rcases t with (_ | _) <;> rfl)) (fun s4 o h => by
  replace h : ref13_Few_l2_s w1 s4 = some o := h
  unfold ref13_Few_l2_s at h
  apply g0 (o := o)
  refine gN 83 TSymbol.D w1.symbols ?_
  refine iB 84 h (fun h => ?_) fun h => ?_
  refine xX 90 TSymbol.D h fun x6 h => ?_
  refine gN 93 TArg.D x6.args ?_
  refine iB 94 h (fun h => ?_) fun h => ?_
  exact lB h (lv [2] [])
  obtain ⟨o10, h23, h⟩ := bS h
  refine gL (lv [1,4,5] [1]) (ref13_Few_l3_ok rd h23) ?_
  rcases sumE_some h with ⟨o11, rfl, h⟩ | ⟨o12, rfl, h⟩
  exact lB h (lv [1,4] [1])
  exact lB h (lv [2] [])
  exact lB h (lv [1] [1])) (s := s4) (t := t) h
def ref13_Few_l4_I (w1 : TQea) (s6 : Int) : St := ⟨sp 166 0 [(1, .box 1 0), (6, dI s6)], [(1, .cells ((cellsA (TQea.D w1))))], []⟩
def ref13_Few_l4_O (w1 : TQea) (o : Unit ⊕ Unit) : Ex × St := match o with
  | .inl o => (.exit 6, ⟨sp 166 0 [(1, .box 1 0)], [(1, .cells ((cellsA (TQea.D w1))))], []⟩)
  | .inr o => (.ret, ⟨sp 166 0 [(2, dI 0)], [], []⟩)
theorem ref13_Few_l4_ok (rd : Option Nat) {w1 : TQea} {s6 : Int} {t : Unit ⊕ Unit} (h : ref13_Few_l4 w1 s6 = some t) : LpOfR Tryz.prog rd (fbody Tryz.prog 19) [0, 1, 0, 1, 1, 1, 1] (ref13_Few_l4_I w1 s6) ((ref13_Few_l4_O w1) t) :=
  loopE_lpR (fun s : Int => ref13_Few_l4_I w1 s) (ref13_Few_l4_O w1) (by kernel_rfl) (fun t => isN_ne (by rcases t with (_ | _) <;> rfl)) (fun s6 o h => by
  replace h : ref13_Few_l4_s w1 s6 = some o := h
  unfold ref13_Few_l4_s at h
  apply g0 (o := o)
  refine gN 122 TFree.D w1.frees ?_
  refine iB 123 h (fun h => ?_) fun h => ?_
  refine xX 129 TFree.D h fun x16 h => ?_
  refine gG 133 (.int (x16.init_.str.length : Int)) (len_str x16.init_.str) ?_
  refine iB 134 h (fun h => ?_) fun h => ?_
  exact lB h (lv [2] [])
  exact lB h (lv [1,6] [1])
  exact lB h (lv [1] [1])) (s := s6) (t := t) h
def ref13_Few_l5_I (w1 : TQea) (s7 : Int) : St := ⟨sp 166 0 [(1, .box 1 0), (7, dI s7)], [(1, .cells ((cellsA (TQea.D w1))))], []⟩
def ref13_Few_l5_O (w1 : TQea) (o : Unit ⊕ Unit) : Ex × St := match o with
  | .inl o => (.exit 8, ⟨sp 166 0 [(1, .box 1 0)], [(1, .cells ((cellsA (TQea.D w1))))], []⟩)
  | .inr o => (.ret, ⟨sp 166 0 [(2, dI 0)], [], []⟩)
theorem ref13_Few_l5_ok (rd : Option Nat) {w1 : TQea} {s7 : Int} {t : Unit ⊕ Unit} (h : ref13_Few_l5 w1 s7 = some t) : LpOfR Tryz.prog rd (fbody Tryz.prog 19) [0, 1, 0, 1, 1, 1, 1, 1] (ref13_Few_l5_I w1 s7) ((ref13_Few_l5_O w1) t) :=
  loopE_lpR (fun s : Int => ref13_Few_l5_I w1 s) (ref13_Few_l5_O w1) (by kernel_rfl) (fun t => isN_ne (by rcases t with (_ | _) <;> rfl)) (fun s7 o h => by
  replace h : ref13_Few_l5_s w1 s7 = some o := h
  unfold ref13_Few_l5_s at h
  apply g0 (o := o)
  refine gN 138 TNode.D w1.nodes ?_
  refine iB 139 h (fun h => ?_) fun h => ?_
  refine xX 145 TNode.D h fun x20 h => ?_
  refine gG 149 (.int (x20.value.str.length : Int)) (len_str x20.value.str) ?_
  refine iB 150 h (fun h => ?_) fun h => ?_
  exact lB h (lv [2] [])
  exact lB h (lv [1,7] [1])
  exact lB h (lv [1] [1])) (s := s7) (t := t) h
def ref13_Few_l6_I (w1 : TQea) (s8 : Int) : St := ⟨sp 166 0 [(1, .box 1 0), (8, dI s8)], [(1, .cells ((cellsA (TQea.D w1))))], []⟩
def ref13_Few_l6_O (w1 : TQea) (o : Unit ⊕ Unit) : Ex × St := match o with
  | .inl o => (.exit 10, ⟨sp 166 0 [], [], []⟩)
  | .inr o => (.ret, ⟨sp 166 0 [(2, dI 0)], [], []⟩)
theorem ref13_Few_l6_ok (rd : Option Nat) {w1 : TQea} {s8 : Int} {t : Unit ⊕ Unit} (h : ref13_Few_l6 w1 s8 = some t) : LpOfR Tryz.prog rd (fbody Tryz.prog 19) [0, 1, 0, 1, 1, 1, 1, 1, 1] (ref13_Few_l6_I w1 s8) ((ref13_Few_l6_O w1) t) :=
  loopE_lpR (fun s : Int => ref13_Few_l6_I w1 s) (ref13_Few_l6_O w1) (by kernel_rfl) (fun t => isN_ne (by rcases t with (_ | _) <;> rfl)) (fun s8 o h => by
  replace h : ref13_Few_l6_s w1 s8 = some o := h
  unfold ref13_Few_l6_s at h
  apply g0 (o := o)
  refine gN 154 TTrans.D w1.trans ?_
  refine iB 155 h (fun h => ?_) fun h => ?_
  refine xX 161 TTrans.D h fun x24 h => ?_
  refine gN 164 TSet.D x24.sets ?_
  refine iB 165 h (fun h => ?_) fun h => ?_
  exact lB h (lv [2] [])
  exact lB h (lv [1,8] [1])
  exact lB h (lv [] [])) (s := s8) (t := t) h
theorem ref13_Few_ok {a0 : TQea} {r : Int} (h : ref13_Few a0 = some r) : ACall Tryz.prog 19 [.d (TQea.D a0)] [] (dI r) [] := by
  unfold ref13_Few at h
  apply g0 (o := r)
  refine gN 11 TDecl.D a0.decls ?_
  refine iB 13 h (fun h => ?_) fun h => ?_
  exact lF h []
  refine gN 16 TQuant.D a0.quants ?_
  refine iB 19 h (fun h => ?_) fun h => ?_
  exact lF h []
  refine gN 22 TFree.D a0.frees ?_
  refine iB 25 h (fun h => ?_) fun h => ?_
  exact lF h []
  refine gN 28 TState.D a0.states ?_
  refine iB 31 h (fun h => ?_) fun h => ?_
  exact lF h []
  refine gN 34 TSymbol.D a0.symbols ?_
  refine iB 37 h (fun h => ?_) fun h => ?_
  exact lF h []
  refine gN 40 TTrans.D a0.trans ?_
  refine iB 43 h (fun h => ?_) fun h => ?_
  exact lF h []
  refine gN 46 TNode.D a0.nodes ?_
  refine iB 49 h (fun h => ?_) fun h => ?_
  exact lF h []
  refine gG 52 (.int (a0.name.length : Int)) (len_str a0.name) ?_
  refine iB 54 h (fun h => ?_) fun h => ?_
  exact lF h []
  obtain ⟨o3, h14, h⟩ := bS h
  refine gL (lv [1,3] [1]) (ref13_Few_l1_ok none h14) ?_
  rcases sumE_some h with ⟨o4, rfl, h⟩ | ⟨o5, rfl, h⟩
  obtain ⟨o13, h24, h⟩ := bS h
  refine gL (lv [1,4] [1]) (ref13_Few_l2_ok none h24) ?_
  rcases sumE_some h with ⟨o14, rfl, h⟩ | ⟨o15, rfl, h⟩
  obtain ⟨o17, h28, h⟩ := bS h
  refine gL (lv [1,6] [1]) (ref13_Few_l4_ok none h28) ?_
  rcases sumE_some h with ⟨o18, rfl, h⟩ | ⟨o19, rfl, h⟩
  obtain ⟨o21, h32, h⟩ := bS h
  refine gL (lv [1,7] [1]) (ref13_Few_l5_ok none h32) ?_
  rcases sumE_some h with ⟨o22, rfl, h⟩ | ⟨o23, rfl, h⟩
  obtain ⟨o25, h36, h⟩ := bS h
  refine gL (lv [1,8] [1]) (ref13_Few_l6_ok none h36) ?_
  rcases sumE_some h with ⟨o26, rfl, h⟩ | ⟨o27, rfl, h⟩
  exact lF h []
  exact lF h []
  exact lF h []
  exact lF h []
  exact lF h []
  exact lF h []
theorem ref07_Words_ok {r : List (List UInt8)} (h : ref07_Words = some r) : ACall Tryz.prog 101 [] [] (.d ((D.l D.s) r)) [] := by
  unfold ref07_Words at h
  apply g0 (o := r)
  refine gQ (nc_ok D.s ([([97,99,99,101,112,116] : List UInt8), ([97,108,115,111] : List UInt8), ([97,110,100] : List UInt8), ([98,111,111,108] : List UInt8), ([100,111] : List UInt8), ([101,118,101,110,116] : List UInt8), ([101,120,105,115,116,115] : List UInt8), ([102,97,108,115,101] : List UInt8), ([102,111,114,97,108,108] : List UInt8), ([102,114,101,101] : List UInt8), ([105,102] : List UInt8), ([105,110,116] : List UInt8), ([110,101,120,116] : List UInt8), ([110,111,116] : List UInt8), ([111,110] : List UInt8), ([111,114] : List UInt8), ([113,101,97] : List UInt8), ([115,107,105,112] : List UInt8), ([115,116,97,114,116] : List UInt8), ([115,116,114,105,110,103] : List UInt8), ([116,111] : List UInt8), ([116,114,117,101] : List UInt8)])) ?_
  exact lF h []
def ref07_Spelt_l1_I (s0 : List UInt8) (s3 : Int) : St := ⟨sp 55 0 [(0, .d (D.s s0)), (3, dI s3)], [], []⟩
def ref07_Spelt_l1_O (s0 : List UInt8) (o : Unit ⊕ Unit) : Ex × St := match o with
  | .inl o => (.exit 0, ⟨sp 55 0 [], [], []⟩)
  | .inr o => (.ret, ⟨sp 55 0 [(2, .d (D.b false))], [], []⟩)
theorem ref07_Spelt_l1_ok (rd : Option Nat) {s0 : List UInt8} {s3 : Int} {t : Unit ⊕ Unit} (h : ref07_Spelt_l1 s0 s3 = some t) : LpOfR Tryz.prog rd (fbody Tryz.prog 102) [0, 1, 0, 1, 1] (ref07_Spelt_l1_I s0 s3) ((ref07_Spelt_l1_O s0) t) :=
  loopE_lpR (fun s : Int => ref07_Spelt_l1_I s0 s) (ref07_Spelt_l1_O s0) (by kernel_rfl) (fun t => isN_ne (by rcases t with (_ | _) <;> rfl)) (fun s3 o h => by
  replace h : ref07_Spelt_l1_s s0 s3 = some o := h
  unfold ref07_Spelt_l1_s at h
  apply g0 (o := o)
  refine gG 16 (.int (s0.length : Int)) (len_str s0) ?_
  refine iB 17 h (fun h => ?_) fun h => ?_
  obtain ⟨x1, h4, h⟩ := xS h
  refine gG 22 (.int x1.toNat) (byte_ok h4) ?_
  refine iB 25 h (fun h => ?_) fun h => ?_
  refine iB 29 h (fun h => ?_) fun h => ?_
  exact lB h (lv [0,3] [])
  refine iB 32 h (fun h => ?_) fun h => ?_
  refine iB 37 h (fun h => ?_) fun h => ?_
  exact lB h (lv [0,3] [])
  refine iB 43 h (fun h => ?_) fun h => ?_
  refine iB 46 h (fun h => ?_) fun h => ?_
  exact lB h (lv [2] [])
  refine iB 50 h (fun h => ?_) fun h => ?_
  exact lB h (lv [2] [])
  refine iB 54 h (fun h => ?_) fun h => ?_
  exact lB h (lv [2] [])
  exact lB h (lv [0,3] [])
  exact lB h (lv [0,3] [])
  refine iB 43 h (fun h => ?_) fun h => ?_
  refine iB 46 h (fun h => ?_) fun h => ?_
  exact lB h (lv [2] [])
  refine iB 50 h (fun h => ?_) fun h => ?_
  exact lB h (lv [2] [])
  refine iB 54 h (fun h => ?_) fun h => ?_
  exact lB h (lv [2] [])
  exact lB h (lv [0,3] [])
  exact lB h (lv [0,3] [])
  refine iB 32 h (fun h => ?_) fun h => ?_
  refine iB 37 h (fun h => ?_) fun h => ?_
  exact lB h (lv [0,3] [])
  refine iB 43 h (fun h => ?_) fun h => ?_
  refine iB 46 h (fun h => ?_) fun h => ?_
  exact lB h (lv [2] [])
  refine iB 50 h (fun h => ?_) fun h => ?_
  exact lB h (lv [2] [])
  refine iB 54 h (fun h => ?_) fun h => ?_
  exact lB h (lv [2] [])
  exact lB h (lv [0,3] [])
  exact lB h (lv [0,3] [])
  refine iB 43 h (fun h => ?_) fun h => ?_
  refine iB 46 h (fun h => ?_) fun h => ?_
  exact lB h (lv [2] [])
  refine iB 50 h (fun h => ?_) fun h => ?_
  exact lB h (lv [2] [])
  refine iB 54 h (fun h => ?_) fun h => ?_
  exact lB h (lv [2] [])
  exact lB h (lv [0,3] [])
  exact lB h (lv [0,3] [])
  exact lB h (lv [] [])) (s := s3) (t := t) h
theorem ref07_Spelt_ok {a0 : List UInt8} {r : Bool} (h : ref07_Spelt a0 = some r) : ACall Tryz.prog 102 [.d (D.s a0)] [] (.d (D.b r)) [] := by
  unfold ref07_Spelt at h
  apply g0 (o := r)
  refine gG 7 (.int (a0.length : Int)) (len_str a0) ?_
  refine iB 9 h (fun h => ?_) fun h => ?_
  exact lF h []
  refine gG 11 (.int (a0.length : Int)) (len_str a0) ?_
  refine iB 13 h (fun h => ?_) fun h => ?_
  exact lF h []
  obtain ⟨o2, h27, h⟩ := bS h
  refine gL (lv [0,3] []) (ref07_Spelt_l1_ok none h27) ?_
  rcases sumE_some h with ⟨o3, rfl, h⟩ | ⟨o4, rfl, h⟩
  exact lF h []
  exact lF h []
def ref07_Name_l1_I (s0 : List UInt8) (s3 : List (List UInt8)) (s4 : Int) : St := ⟨sp 24 0 [(0, .d (D.s s0)), (3, .d ((D.l D.s) s3)), (4, dI s4)], [], []⟩
def ref07_Name_l1_O (s0 : List UInt8) (s3 : List (List UInt8)) (o : Unit ⊕ Unit) : Ex × St := match o with
  | .inl o => (.exit 0, ⟨sp 24 0 [(0, .d (D.s s0))], [], []⟩)
  | .inr o => (.ret, ⟨sp 24 0 [(2, .d (D.b false))], [], []⟩)
theorem ref07_Name_l1_ok (rd : Option Nat) {s0 : List UInt8} {s3 : List (List UInt8)} {s4 : Int} {t : Unit ⊕ Unit} (h : ref07_Name_l1 s0 s3 s4 = some t) : LpOfR Tryz.prog rd (fbody Tryz.prog 62) [0, 1, 0, 1, 1] (ref07_Name_l1_I s0 s3 s4) ((ref07_Name_l1_O s0 s3) t) :=
  loopE_lpR (fun s : Int => ref07_Name_l1_I s0 s3 s) (ref07_Name_l1_O s0 s3) (by kernel_rfl) (fun t => isN_ne (by rcases t with (_ | _) <;> rfl)) (fun s4 o h => by
  replace h : ref07_Name_l1_s s0 s3 s4 = some o := h
  unfold ref07_Name_l1_s at h
  apply g0 (o := o)
  refine gN 8 D.s s3 ?_
  refine iB 9 h (fun h => ?_) fun h => ?_
  refine xX 14 D.s h fun x2 h => ?_
  refine iB 17 h (fun h => ?_) fun h => ?_
  exact lB h (lv [2] [])
  exact lB h (lv [0,3,4] [])
  exact lB h (lv [0] [])) (s := s4) (t := t) h
theorem ref07_Name_ok {a0 : List UInt8} {r : Bool} (h : ref07_Name a0 = some r) : ACall Tryz.prog 62 [.d (D.s a0)] [] (.d (D.b r)) [] := by
  unfold ref07_Name at h
  apply g0 (o := r)
  obtain ⟨r1, h1, h⟩ := bS h
  refine gC 5 (ref07_Words_ok h1) ?_
  obtain ⟨o3, h5, h⟩ := bS h
  refine gL (lv [0,3,4] []) (ref07_Name_l1_ok none h5) ?_
  rcases sumE_some h with ⟨o4, rfl, h⟩ | ⟨o5, rfl, h⟩
  obtain ⟨r6, h6, h⟩ := bS h
  refine gQ (ref07_Spelt_ok h6) ?_
  cases r6
  replace h := iteF h
  refine gW 19 (.ret (.d (D.b false))) ?_
  exact lF h []
  replace h := iteT h
  refine gW 19 (.ret (.d (D.b true))) ?_
  exact lF h []
  exact lF h []
def ref07_Find_l1_I (s0 : List TDecl) (s1 : List UInt8) (s5 : Int) : St := ⟨sp 20 0 [(0, .d ((D.l TDecl.D) s0)), (1, .d (D.s s1)), (5, dI s5)], [], []⟩
def ref07_Find_l1_O (s0 : List TDecl) (s1 : List UInt8) (o : Unit ⊕ Int) : Ex × St := match o with
  | .inl o => (.exit 0, ⟨sp 20 0 [], [], []⟩)
  | .inr o => (.ret, ⟨sp 20 0 [(4, dI o)], [], []⟩)
theorem ref07_Find_l1_ok (rd : Option Nat) {s0 : List TDecl} {s1 : List UInt8} {s5 : Int} {t : Unit ⊕ Int} (h : ref07_Find_l1 s0 s1 s5 = some t) : LpOfR Tryz.prog rd (fbody Tryz.prog 23) [0, 1, 0, 1] (ref07_Find_l1_I s0 s1 s5) ((ref07_Find_l1_O s0 s1) t) :=
  loopE_lpR (fun s : Int => ref07_Find_l1_I s0 s1 s) (ref07_Find_l1_O s0 s1) (by kernel_rfl) (fun t => isN_ne (by rcases t with (_ | _) <;> rfl)) (fun s5 o h => by
  replace h : ref07_Find_l1_s s0 s1 s5 = some o := h
  unfold ref07_Find_l1_s at h
  apply g0 (o := o)
  refine gN 8 TDecl.D s0 ?_
  refine iB 9 h (fun h => ?_) fun h => ?_
  refine xX 14 TDecl.D h fun x1 h => ?_
  refine iB 18 h (fun h => ?_) fun h => ?_
  exact lB h (lv [4] [])
  exact lB h (lv [0,1,5] [])
  exact lB h (lv [] [])) (s := s5) (t := t) h
theorem ref07_Find_ok {a0 : List TDecl} {a1 : List UInt8} {r : Int} (h : ref07_Find a0 a1 = some r) : ACall Tryz.prog 23 [.d ((D.l TDecl.D) a0), .d (D.s a1)] [] (dI r) [] := by
  unfold ref07_Find at h
  apply g0 (o := r)
  obtain ⟨o2, h4, h⟩ := bS h
  refine gL (lv [0,1,5] []) (ref07_Find_l1_ok none h4) ?_
  rcases sumE_some h with ⟨o3, rfl, h⟩ | ⟨o4, rfl, h⟩
  exact lF h []
  exact lF h []
def ref07_Check_l2_I (s0 : List TDecl) (s4 : Int) (s5 : Int) : St := ⟨sp 72 0 [(0, .d ((D.l TDecl.D) s0)), (4, dI s4), (5, dI s5)], [], []⟩
def ref07_Check_l2_O (s0 : List TDecl) (s4 : Int) (o : Unit ⊕ Unit) : Ex × St := match o with
  | .inl o => (.exit 2, ⟨sp 72 0 [(0, .d ((D.l TDecl.D) s0)), (4, dI s4)], [], []⟩)
  | .inr o => (.ret, ⟨sp 72 0 [(2, dI 8), (3, dI s4)], [], []⟩)
theorem ref07_Check_l2_ok (rd : Option Nat) {s0 : List TDecl} {s4 : Int} {s5 : Int} {t : Unit ⊕ Unit} (h : ref07_Check_l2 s0 s4 s5 = some t) : LpOfR Tryz.prog rd (fbody Tryz.prog 39) [0, 1, 1, 1, 1, 0, 0, 1, 0, 0, 1, 0, 1, 1] (ref07_Check_l2_I s0 s4 s5) ((ref07_Check_l2_O s0 s4) t) :=
  loopE_lpR (fun s : Int => ref07_Check_l2_I s0 s4 s) (ref07_Check_l2_O s0 s4) (by kernel_rfl) (fun t => isN_ne (by rcases t with (_ | _) <;> rfl)) (fun s5 o h => by
  replace h : ref07_Check_l2_s s0 s4 s5 = some o := h
  unfold ref07_Check_l2_s at h
  apply g0 (o := o)
  refine xX 44 TDecl.D h fun x6 h => ?_
  refine gN 47 (D.i .i64) x6.types ?_
  refine iB 48 h (fun h => ?_) fun h => ?_
  refine xX 53 TDecl.D h fun x7 h => ?_
  refine xX 57 (D.i .i64) h fun x8 h => ?_
  refine iB 60 h (fun h => ?_) fun h => ?_
  exact lB h (lv [2,3] [])
  refine xX 63 TDecl.D h fun x9 h => ?_
  refine xX 67 (D.i .i64) h fun x10 h => ?_
  refine iB 70 h (fun h => ?_) fun h => ?_
  exact lB h (lv [2,3] [])
  exact lB h (lv [0,4,5] [])
  exact lB h (lv [0,4] [])) (s := s5) (t := t) h
def ref07_Check_l1_I (s0 : List TDecl) (s4 : Int) : St := ⟨sp 72 0 [(0, .d ((D.l TDecl.D) s0)), (4, dI s4)], [], []⟩
def ref07_Check_l1_O (s0 : List TDecl) (o : Unit ⊕ (Int × Int)) : Ex × St := match o with
  | .inl o => (.exit 0, ⟨sp 72 0 [], [], []⟩)
  | .inr o => (.ret, ⟨sp 72 0 [(2, dI o.1), (3, dI o.2)], [], []⟩)
theorem ref07_Check_l1_ok (rd : Option Nat) {s0 : List TDecl} {s4 : Int} {t : Unit ⊕ (Int × Int)} (h : ref07_Check_l1 s0 s4 = some t) : LpOfR Tryz.prog rd (fbody Tryz.prog 39) [0, 1, 0, 1, 1] (ref07_Check_l1_I s0 s4) ((ref07_Check_l1_O s0) t) :=
  loopE_lpR (fun s : Int => ref07_Check_l1_I s0 s) (ref07_Check_l1_O s0) (by kernel_rfl) (fun t => isN_ne (by rcases t with (_ | _) <;> rfl)) (fun s4 o h => by
  replace h : ref07_Check_l1_s s0 s4 = some o := h
  unfold ref07_Check_l1_s at h
  apply g0 (o := o)
  refine gN 11 TDecl.D s0 ?_
  refine iB 12 h (fun h => ?_) fun h => ?_
  refine xX 17 TDecl.D h fun x1 h => ?_
  obtain ⟨r2, h4, h⟩ := bS h
  refine gC 20 (ref07_Name_ok h4) ?_
  refine iB 21 h (fun h => ?_) fun h => ?_
  exact lB h (lv [2,3] [])
  refine xX 26 TDecl.D h fun x3 h => ?_
  obtain ⟨r4, h7, h⟩ := bS h
  refine gC 29 (ref07_Find_ok h7) ?_
  refine iB 31 h (fun h => ?_) fun h => ?_
  exact lB h (lv [2,3] [])
  refine xX 35 TDecl.D h fun x5 h => ?_
  refine gN 38 (D.i .i64) x5.types ?_
  refine iB 39 h (fun h => ?_) fun h => ?_
  exact lB h (lv [2,3] [])
  obtain ⟨o11, h19, h⟩ := bS h
  refine gL (lv [0,4,5] []) (ref07_Check_l2_ok rd h19) ?_
  rcases sumE_some h with ⟨o12, rfl, h⟩ | ⟨o13, rfl, h⟩
  exact lB h (lv [0,4] [])
  exact lB h (lv [2,3] [])
  exact lB h (lv [] [])) (s := s4) (t := t) h
theorem ref07_Check_ok {a0 : List TDecl} {r : Int × Int} (h : ref07_Check a0 = some r) : ACall Tryz.prog 39 [.d ((D.l TDecl.D) a0)] [] (.tup [dI r.1, dI r.2]) [] := by
  unfold ref07_Check at h
  apply g0 (o := r)
  refine gN 7 TDecl.D a0 ?_
  refine iB 8 h (fun h => ?_) fun h => ?_
  exact lF h []
  obtain ⟨o14, h20, h⟩ := bS h
  refine gL (lv [0,4] []) (ref07_Check_l1_ok none h20) ?_
  rcases sumE_some h with ⟨o15, rfl, h⟩ | ⟨o16, rfl, h⟩
  exact lF h []
  exact lF h []
theorem ref03_Right_ok {a0 : TValue} {r : Bool} (h : ref03_Right a0 = some r) : ACall Tryz.prog 24 [.d (TValue.D a0)] [] (.d (D.b r)) [] := by
  unfold ref03_Right at h
  apply g0 (o := r)
  refine iB 5 h (fun h => ?_) fun h => ?_
  refine iB 9 h (fun h => ?_) fun h => ?_
  exact lF h []
  exact lF h []
  refine iB 16 h (fun h => ?_) fun h => ?_
  refine iB 20 h (fun h => ?_) fun h => ?_
  refine iB 25 h (fun h => ?_) fun h => ?_
  refine gG 28 (.int (a0.str.length : Int)) (len_str a0.str) ?_
  exact lF h []
  exact lF h []
  exact lF h []
  refine iB 34 h (fun h => ?_) fun h => ?_
  refine iB 39 h (fun h => ?_) fun h => ?_
  exact lF h []
  exact lF h []
  exact lF h []
def ref13_twice_l1_I (s0 : List (List UInt8)) (s1 : Int) (s5 : Int) : St := ⟨sp 20 0 [(0, .d ((D.l D.s) s0)), (1, dI s1), (5, dI s5)], [], []⟩
def ref13_twice_l1_O (s0 : List (List UInt8)) (s1 : Int) (o : Unit ⊕ Unit) : Ex × St := match o with
  | .inl o => (.exit 0, ⟨sp 20 0 [], [], []⟩)
  | .inr o => (.ret, ⟨sp 20 0 [(4, .d (D.b true))], [], []⟩)
theorem ref13_twice_l1_ok (rd : Option Nat) {s0 : List (List UInt8)} {s1 : Int} {s5 : Int} {t : Unit ⊕ Unit} (h : ref13_twice_l1 s0 s1 s5 = some t) : LpOfR Tryz.prog rd (fbody Tryz.prog 63) [0, 1, 0, 1] (ref13_twice_l1_I s0 s1 s5) ((ref13_twice_l1_O s0 s1) t) :=
  loopE_lpR (fun s : Int => ref13_twice_l1_I s0 s1 s) (ref13_twice_l1_O s0 s1) (by kernel_rfl) (fun t => isN_ne (by rcases t with (_ | _) <;> rfl)) (fun s5 o h => by
  replace h : ref13_twice_l1_s s0 s1 s5 = some o := h
  unfold ref13_twice_l1_s at h
  apply g0 (o := o)
  refine iB 8 h (fun h => ?_) fun h => ?_
  refine xX 13 D.s h fun x1 h => ?_
  refine xX 17 D.s h fun x2 h => ?_
  refine iB 19 h (fun h => ?_) fun h => ?_
  exact lB h (lv [4] [])
  exact lB h (lv [0,1,5] [])
  exact lB h (lv [] [])) (s := s5) (t := t) h
theorem ref13_twice_ok {a0 : List (List UInt8)} {a1 : Int} {r : Bool} (h : ref13_twice a0 a1 = some r) : ACall Tryz.prog 63 [.d ((D.l D.s) a0), dI a1] [] (.d (D.b r)) [] := by
  unfold ref13_twice at h
  apply g0 (o := r)
  obtain ⟨o3, h5, h⟩ := bS h
  refine gL (lv [0,1,5] []) (ref13_twice_l1_ok none h5) ?_
  rcases sumE_some h with ⟨o4, rfl, h⟩ | ⟨o5, rfl, h⟩
  exact lF h []
  exact lF h []
def ref13_names_l1_I (w1 : TQea) (s4 : Int) (w3 : List (List UInt8)) : St := ⟨sp 112 0 [(1, .box 1 0), (3, .row 3), (4, dI s4)], [(1, .cells ((cellsA (TQea.D w1)))), (3, .row 9 1 (w3.map D.s))], []⟩
def ref13_names_l1_O (w1 : TQea) (o : (List (List UInt8)) ⊕ Unit) : Ex × St := match o with
  | .inl o => (.exit 0, ⟨sp 112 0 [(1, .box 1 0), (3, .row 3)], [(1, .cells ((cellsA (TQea.D w1)))), (3, .row 9 1 (o.map D.s))], []⟩)
  | .inr o => (.ret, ⟨sp 112 0 [(2, .d (D.b false))], [], []⟩)
theorem ref13_names_l1_ok (rd : Option Nat) {w1 : TQea} {s4 : Int} {w3 : List (List UInt8)} {t : (List (List UInt8)) ⊕ Unit} (h : ref13_names_l1 w1 s4 w3 = some t) : LpOfR Tryz.prog rd (fbody Tryz.prog 40) [0, 1, 0, 1, 1] (ref13_names_l1_I w1 s4 w3) ((ref13_names_l1_O w1) t) :=
  loopE_lpR (fun s : Int × List (List UInt8) => ref13_names_l1_I w1 s.1 s.2) (ref13_names_l1_O w1) (by kernel_rfl) (fun t => isN_ne (by rcases t with (_ | _) <;> rfl)) (fun ⟨s4, w3⟩ o h => by
  replace h : ref13_names_l1_s w1 s4 w3 = some o := h
  unfold ref13_names_l1_s at h
  apply g0 (o := o)
  refine gN 12 TQuant.D w1.quants ?_
  refine iB 13 h (fun h => ?_) fun h => ?_
  refine xX 20 TQuant.D h fun x4 h => ?_
  refine gQ (nc_ok D.s [x4.name]) <| gG 24 (.sl ((w3 ++ [x4.name]).map D.s)) (nc_ok D.s [x4.name]) ?_
  obtain ⟨h10, h⟩ := cS h
  refine gQ (fit_map D.s h10) <| gQ (app_map D.s w3 [x4.name]) <| xX 28 TQuant.D h fun x5 h => ?_
  refine iB 32 h (fun h => ?_) fun h => ?_
  exact lB h (lv [2] [])
  refine xX 36 TQuant.D h fun x6 h => ?_
  refine iB 40 h (fun h => ?_) fun h => ?_
  exact lB h (lv [2] [])
  exact lB h [.live [1,3,4], .keep [1,24], .ren 24 3, .sort]
  exact lB h (lv [1,3] [1,3])) (s := (s4, w3)) (t := t) h
def ref13_names_l2_I (w1 : TQea) (s5 : Int) (w3 : List (List UInt8)) : St := ⟨sp 112 0 [(1, .box 1 0), (3, .row 3), (5, dI s5)], [(1, .cells ((cellsA (TQea.D w1)))), (3, .row 9 1 (w3.map D.s))], []⟩
def ref13_names_l2_O (w1 : TQea) (o : (List (List UInt8)) ⊕ Unit) : Ex × St := match o with
  | .inl o => (.exit 2, ⟨sp 112 0 [(1, .box 1 0), (3, .row 3)], [(1, .cells ((cellsA (TQea.D w1)))), (3, .row 9 1 (o.map D.s))], []⟩)
  | .inr o => (.ret, ⟨sp 112 0 [(2, .d (D.b false))], [], []⟩)
theorem ref13_names_l2_ok (rd : Option Nat) {w1 : TQea} {s5 : Int} {w3 : List (List UInt8)} {t : (List (List UInt8)) ⊕ Unit} (h : ref13_names_l2 w1 s5 w3 = some t) : LpOfR Tryz.prog rd (fbody Tryz.prog 40) [0, 1, 0, 1, 1, 1] (ref13_names_l2_I w1 s5 w3) ((ref13_names_l2_O w1) t) :=
  loopE_lpR (fun s : Int × List (List UInt8) => ref13_names_l2_I w1 s.1 s.2) (ref13_names_l2_O w1) (by kernel_rfl) (fun t => isN_ne (by rcases t with (_ | _) <;> rfl)) (fun ⟨s5, w3⟩ o h => by
  replace h : ref13_names_l2_s w1 s5 w3 = some o := h
  unfold ref13_names_l2_s at h
  apply g0 (o := o)
  refine gN 44 TFree.D w1.frees ?_
  refine iB 45 h (fun h => ?_) fun h => ?_
  refine xX 52 TFree.D h fun x10 h => ?_
  refine gQ (nc_ok D.s [x10.name]) <| gG 56 (.sl ((w3 ++ [x10.name]).map D.s)) (nc_ok D.s [x10.name]) ?_
  obtain ⟨h18, h⟩ := cS h
  refine gQ (fit_map D.s h18) <| gQ (app_map D.s w3 [x10.name]) <| xX 60 TFree.D h fun x11 h => ?_
  obtain ⟨r12, h20, h⟩ := bS h
  refine gC 63 (ref03_Right_ok h20) ?_
  refine iB 64 h (fun h => ?_) fun h => ?_
  exact lB h (lv [2] [])
  exact lB h [.live [1,3,5], .keep [1,56], .ren 56 3, .sort]
  exact lB h (lv [1,3] [1,3])) (s := (s5, w3)) (t := t) h
def ref13_names_l3_I (w1 : TQea) (w3 : List (List UInt8)) (s6 : Int) : St := ⟨sp 112 0 [(1, .box 1 0), (3, .row 3), (6, dI s6)], [(1, .cells ((cellsA (TQea.D w1)))), (3, .row 9 1 (w3.map D.s))], []⟩
def ref13_names_l3_O (w1 : TQea) (w3 : List (List UInt8)) (o : Unit ⊕ Unit) : Ex × St := match o with
  | .inl o => (.exit 4, ⟨sp 112 0 [(1, .box 1 0)], [(1, .cells ((cellsA (TQea.D w1))))], []⟩)
  | .inr o => (.ret, ⟨sp 112 0 [(2, .d (D.b false))], [], []⟩)
theorem ref13_names_l3_ok (rd : Option Nat) {w1 : TQea} {w3 : List (List UInt8)} {s6 : Int} {t : Unit ⊕ Unit} (h : ref13_names_l3 w1 w3 s6 = some t) : LpOfR Tryz.prog rd (fbody Tryz.prog 40) [0, 1, 0, 1, 1, 1, 1] (ref13_names_l3_I w1 w3 s6) ((ref13_names_l3_O w1 w3) t) :=
  loopE_lpR (fun s : Int => ref13_names_l3_I w1 w3 s) (ref13_names_l3_O w1 w3) (by kernel_rfl) (fun t => isN_ne (by rcases t with (_ | _) <;> rfl)) (fun s6 o h => by
  replace h : ref13_names_l3_s w1 w3 s6 = some o := h
  unfold ref13_names_l3_s at h
  apply g0 (o := o)
  refine gN 67 D.s w3 ?_
  refine iB 68 h (fun h => ?_) fun h => ?_
  refine xX 73 D.s h fun x16 h => ?_
  obtain ⟨r17, h25, h⟩ := bS h
  refine gC 75 (ref07_Name_ok h25) ?_
  refine iB 77 h (fun h => ?_) fun h => ?_
  exact lB h (lv [2] [])
  obtain ⟨r18, h27, h⟩ := bS h
  refine gQ (ref13_twice_ok h27) ?_
  cases r18
  replace h := iteF h
  refine gW 80 (.ret (.d (D.b false))) ?_
  exact lB h (lv [1,3,6] [1,3])
  replace h := iteT h
  refine gW 80 (.ret (.d (D.b true))) ?_
  exact lB h (lv [2] [])
  exact lB h (lv [1] [1])) (s := s6) (t := t) h
def ref13_names_l4_I (w1 : TQea) (s8 : Int) (w7 : List (List UInt8)) : St := ⟨sp 112 0 [(1, .box 1 0), (7, .row 7), (8, dI s8)], [(1, .cells ((cellsA (TQea.D w1)))), (7, .row 9 1 (w7.map D.s))], []⟩
def ref13_names_l4_O (w1 : TQea) (o : Unit ⊕ Unit) : Ex × St := match o with
  | .inl o => (.exit 6, ⟨sp 112 0 [(1, .box 1 0)], [(1, .cells ((cellsA (TQea.D w1))))], []⟩)
  | .inr o => (.ret, ⟨sp 112 0 [(2, .d (D.b false))], [], []⟩)
theorem ref13_names_l4_ok (rd : Option Nat) {w1 : TQea} {s8 : Int} {w7 : List (List UInt8)} {t : Unit ⊕ Unit} (h : ref13_names_l4 w1 s8 w7 = some t) : LpOfR Tryz.prog rd (fbody Tryz.prog 40) [0, 1, 0, 1, 1, 1, 1, 1, 1] (ref13_names_l4_I w1 s8 w7) ((ref13_names_l4_O w1) t) :=
  loopE_lpR (fun s : Int × List (List UInt8) => ref13_names_l4_I w1 s.1 s.2) (ref13_names_l4_O w1) (by kernel_rfl) (fun t => isN_ne (by rcases t with (_ | _) <;> rfl)) (fun ⟨s8, w7⟩ o h => by
  replace h : ref13_names_l4_s w1 s8 w7 = some o := h
  unfold ref13_names_l4_s at h
  apply g0 (o := o)
  refine gN 85 TState.D w1.states ?_
  refine iB 86 h (fun h => ?_) fun h => ?_
  refine xX 93 TState.D h fun x26 h => ?_
  refine gQ (nc_ok D.s [x26.name]) <| gG 97 (.sl ((w7 ++ [x26.name]).map D.s)) (nc_ok D.s [x26.name]) ?_
  obtain ⟨h40, h⟩ := cS h
  refine gQ (fit_map D.s h40) <| gQ (app_map D.s w7 [x26.name]) <| xX 100 D.s h fun x27 h => ?_
  obtain ⟨r28, h42, h⟩ := bS h
  refine gC 102 (ref07_Name_ok h42) ?_
  refine iB 104 h (fun h => ?_) fun h => ?_
  exact lB h (lv [2] [])
  obtain ⟨r29, h44, h⟩ := bS h
  refine gQ (ref13_twice_ok h44) ?_
  cases r29
  replace h := iteF h
  refine gW 107 (.ret (.d (D.b false))) ?_
  exact lB h [.live [1,7,8], .keep [1,97], .ren 97 7, .sort]
  replace h := iteT h
  refine gW 107 (.ret (.d (D.b true))) ?_
  exact lB h (lv [2] [])
  exact lB h (lv [1] [1])) (s := (s8, w7)) (t := t) h
theorem ref13_names_ok {a0 : TQea} {r : Bool} (h : ref13_names a0 = some r) : ACall Tryz.prog 40 [.d (TQea.D a0)] [] (.d (D.b r)) [] := by
  unfold ref13_names at h
  apply g0 (o := r)
  obtain ⟨o7, h15, h⟩ := bS h
  refine gL [.live [1,3,4], .keep [1], .nil 3 3 9 1, .sort] (ref13_names_l1_ok none h15) ?_
  rcases sumE_some h with ⟨o8, rfl, h⟩ | ⟨o9, rfl, h⟩
  obtain ⟨o13, h22, h⟩ := bS h
  refine gL (lv [1,3,5] [1,3]) (ref13_names_l2_ok none h22) ?_
  rcases sumE_some h with ⟨o14, rfl, h⟩ | ⟨o15, rfl, h⟩
  obtain ⟨o19, h29, h⟩ := bS h
  refine gL (lv [1,3,6] [1,3]) (ref13_names_l3_ok none h29) ?_
  rcases sumE_some h with ⟨o20, rfl, h⟩ | ⟨o21, rfl, h⟩
  obtain ⟨o30, h46, h⟩ := bS h
  refine gL [.live [1,7,8], .keep [1], .nil 7 7 9 1, .sort] (ref13_names_l4_ok none h46) ?_
  rcases sumE_some h with ⟨o31, rfl, h⟩ | ⟨o32, rfl, h⟩
  obtain ⟨r33, h47, h⟩ := bS h
  refine gC 111 (ref07_Name_ok h47) ?_
  exact lF h []
  exact lF h []
  exact lF h []
  exact lF h []
  exact lF h []
theorem ref03_truth_ok {a0 : Bool} {r : TValue × Int} (h : ref03_truth a0 = some r) : ACall Tryz.prog 141 [.d (D.b a0)] [] (.tup [.d (TValue.D r.1), dI r.2]) [] := by
  unfold ref03_truth at h
  apply g0 (o := r)
  exact lF h []
theorem ref01_Add_ok {a0 : Int} {a1 : Int} {r : Int × Bool} (h : ref01_Add a0 a1 = some r) : ACall Tryz.prog 148 [dI a0, dI a1] [] (.tup [dI r.1, .d (D.b r.2)]) [] := by
  unfold ref01_Add at h
  apply g0 (o := r)
  refine iB 8 h (fun h => ?_) fun h => ?_
  refine iB 14 h (fun h => ?_) fun h => ?_
  exact lF h []
  refine iB 17 h (fun h => ?_) fun h => ?_
  refine iB 23 h (fun h => ?_) fun h => ?_
  exact lF h []
  exact lF h []
  exact lF h []
  refine iB 17 h (fun h => ?_) fun h => ?_
  refine iB 23 h (fun h => ?_) fun h => ?_
  exact lF h []
  exact lF h []
  exact lF h []
theorem ref03_number_ok {a0 : Int} {a1 : Bool} {r : TValue × Int} (h : ref03_number a0 a1 = some r) : ACall Tryz.prog 149 [dI a0, .d (D.b a1)] [] (.tup [.d (TValue.D r.1), dI r.2]) [] := by
  unfold ref03_number at h
  apply g0 (o := r)
  refine iB 7 h (fun h => ?_) fun h => ?_
  exact lF h []
  exact lF h []
theorem ref01_Sub_ok {a0 : Int} {a1 : Int} {r : Int × Bool} (h : ref01_Sub a0 a1 = some r) : ACall Tryz.prog 150 [dI a0, dI a1] [] (.tup [dI r.1, .d (D.b r.2)]) [] := by
  unfold ref01_Sub at h
  apply g0 (o := r)
  refine iB 8 h (fun h => ?_) fun h => ?_
  refine iB 14 h (fun h => ?_) fun h => ?_
  exact lF h []
  refine iB 17 h (fun h => ?_) fun h => ?_
  refine iB 23 h (fun h => ?_) fun h => ?_
  exact lF h []
  exact lF h []
  exact lF h []
  refine iB 17 h (fun h => ?_) fun h => ?_
  refine iB 23 h (fun h => ?_) fun h => ?_
  exact lF h []
  exact lF h []
  exact lF h []
theorem ref01_Mul_ok {a0 : Int} {a1 : Int} {r : Int × Bool} (h : ref01_Mul a0 a1 = some r) : ACall Tryz.prog 151 [dI a0, dI a1] [] (.tup [dI r.1, .d (D.b r.2)]) [] := by
  unfold ref01_Mul at h
  apply g0 (o := r)
  refine iB 8 h (fun h => ?_) fun h => ?_
  exact lF h []
  refine iB 11 h (fun h => ?_) fun h => ?_
  exact lF h []
  refine iB 13 h (fun h => ?_) fun h => ?_
  obtain ⟨r1, h4, h⟩ := bS h
  refine gC 15 (ref01_Sub_ok h4) ?_
  exact lF h []
  refine iB 19 h (fun h => ?_) fun h => ?_
  obtain ⟨r2, h6, h⟩ := bS h
  refine gC 21 (ref01_Sub_ok h6) ?_
  exact lF h []
  rcases iS h with ⟨h7, h⟩ | ⟨h7, h⟩
  refine gT 26 h7 ?_
  rcases iS h with ⟨h8, h⟩ | ⟨h8, h⟩
  refine gT 30 h8 ?_
  obtain ⟨h9, h⟩ := cS h
  refine gQ h9 ?_
  refine iB 36 h (fun h => ?_) fun h => ?_
  exact lF h []
  refine gT 39 h7 ?_
  rcases iS h with ⟨h11, h⟩ | ⟨h11, h⟩
  refine gT 43 h11 ?_
  obtain ⟨h12, h⟩ := cS h
  refine gQ h12 ?_
  refine iB 50 h (fun h => ?_) fun h => ?_
  exact lF h []
  rcases iS h with ⟨h14, h⟩ | ⟨h14, h⟩
  refine gT 53 h14 <| gT 57 h8 ?_
  obtain ⟨h15, h⟩ := cS h
  refine gQ h15 ?_
  refine iB 64 h (fun h => ?_) fun h => ?_
  exact lF h []
  refine gT 67 h14 <| gT 71 h11 ?_
  obtain ⟨h17, h⟩ := cS h
  refine gQ h17 ?_
  refine iB 77 h (fun h => ?_) fun h => ?_
  exact lF h []
  exact lF h []
  refine gF 53 h14 <| gF 67 h14 ?_
  exact lF h []
  refine gF 43 h11 ?_
  rcases iS h with ⟨h19, h⟩ | ⟨h19, h⟩
  refine gT 53 h19 <| gT 57 h8 ?_
  obtain ⟨h20, h⟩ := cS h
  refine gQ h20 ?_
  refine iB 64 h (fun h => ?_) fun h => ?_
  exact lF h []
  refine gT 67 h19 <| gF 71 h11 ?_
  exact lF h []
  refine gF 53 h19 <| gF 67 h19 ?_
  exact lF h []
  refine gF 30 h8 <| gT 39 h7 ?_
  rcases iS h with ⟨h22, h⟩ | ⟨h22, h⟩
  refine gT 43 h22 ?_
  obtain ⟨h23, h⟩ := cS h
  refine gQ h23 ?_
  refine iB 50 h (fun h => ?_) fun h => ?_
  exact lF h []
  rcases iS h with ⟨h25, h⟩ | ⟨h25, h⟩
  refine gT 53 h25 <| gF 57 h8 <| gT 67 h25 <| gT 71 h22 ?_
  obtain ⟨h26, h⟩ := cS h
  refine gQ h26 ?_
  refine iB 77 h (fun h => ?_) fun h => ?_
  exact lF h []
  exact lF h []
  refine gF 53 h25 <| gF 67 h25 ?_
  exact lF h []
  refine gF 43 h22 ?_
  rcases iS h with ⟨h28, h⟩ | ⟨h28, h⟩
  refine gT 53 h28 <| gF 57 h8 <| gT 67 h28 <| gF 71 h22 ?_
  exact lF h []
  refine gF 53 h28 <| gF 67 h28 ?_
  exact lF h []
  refine gF 26 h7 <| gF 39 h7 ?_
  rcases iS h with ⟨h29, h⟩ | ⟨h29, h⟩
  refine gT 53 h29 ?_
  refine iB 57 h (fun h => ?_) fun h => ?_
  obtain ⟨h31, h⟩ := cS h
  refine gQ h31 ?_
  refine iB 64 h (fun h => ?_) fun h => ?_
  exact lF h []
  refine gT 67 h29 ?_
  refine iB 71 h (fun h => ?_) fun h => ?_
  obtain ⟨h34, h⟩ := cS h
  refine gQ h34 ?_
  refine iB 77 h (fun h => ?_) fun h => ?_
  exact lF h []
  exact lF h []
  exact lF h []
  refine gT 67 h29 ?_
  refine iB 71 h (fun h => ?_) fun h => ?_
  obtain ⟨h37, h⟩ := cS h
  refine gQ h37 ?_
  refine iB 77 h (fun h => ?_) fun h => ?_
  exact lF h []
  exact lF h []
  exact lF h []
  refine gF 53 h29 <| gF 67 h29 ?_
  exact lF h []
theorem ref01_Div_ok {a0 : Int} {a1 : Int} {r : Int × Int × Int} (h : ref01_Div a0 a1 = some r) : ACall Tryz.prog 152 [dI a0, dI a1] [] (.tup [dI r.1, dI r.2.1, dI r.2.2]) [] := by
  unfold ref01_Div at h
  apply g0 (o := r)
  refine iB 10 h (fun h => ?_) fun h => ?_
  exact lF h []
  refine iB 12 h (fun h => ?_) fun h => ?_
  obtain ⟨r1, h3, h⟩ := bS h
  refine gC 15 (ref01_Sub_ok h3) ?_
  refine iB 19 h (fun h => ?_) fun h => ?_
  exact lF h []
  exact lF h []
  obtain ⟨h5, h⟩ := cS h
  refine gQ h5 ?_
  obtain ⟨h6, h⟩ := cS h
  refine gQ h6 ?_
  exact lF h []
theorem ref03_arith_ok {a0 : Int} {a1 : Int} {a2 : Int} {r : TValue × Int} (h : ref03_arith a0 a1 a2 = some r) : ACall Tryz.prog 142 [dI a0, dI a1, dI a2] [] (.tup [.d (TValue.D r.1), dI r.2]) [] := by
  unfold ref03_arith at h
  apply g0 (o := r)
  refine iB 18 h (fun h => ?_) fun h => ?_
  obtain ⟨r1, h2, h⟩ := bS h
  refine gC 22 (ref01_Add_ok h2) ?_
  obtain ⟨r2, h3, h⟩ := bS h
  refine gC 27 (ref03_number_ok h3) ?_
  exact lF h []
  refine iB 31 h (fun h => ?_) fun h => ?_
  obtain ⟨r3, h5, h⟩ := bS h
  refine gC 35 (ref01_Sub_ok h5) ?_
  obtain ⟨r4, h6, h⟩ := bS h
  refine gC 40 (ref03_number_ok h6) ?_
  exact lF h []
  refine iB 44 h (fun h => ?_) fun h => ?_
  obtain ⟨r5, h8, h⟩ := bS h
  refine gC 48 (ref01_Mul_ok h8) ?_
  obtain ⟨r6, h9, h⟩ := bS h
  refine gC 53 (ref03_number_ok h9) ?_
  exact lF h []
  obtain ⟨r7, h10, h⟩ := bS h
  refine gC 59 (ref01_Div_ok h10) ?_
  refine iB 64 h (fun h => ?_) fun h => ?_
  exact lF h []
  refine iB 67 h (fun h => ?_) fun h => ?_
  exact lF h []
  obtain ⟨r8, h13, h⟩ := bS h
  refine gC 73 (ref03_number_ok h13) ?_
  exact lF h []
def ref03_Below_l1_I (s0 : List UInt8) (s1 : List UInt8) (s5 : Int) : St := ⟨sp 37 0 [(0, .d (D.s s0)), (1, .d (D.s s1)), (5, dI s5)], [], []⟩
def ref03_Below_l1_O (s0 : List UInt8) (s1 : List UInt8) (o : Unit ⊕ Bool) : Ex × St := match o with
  | .inl o => (.exit 0, ⟨sp 37 0 [(0, .d (D.s s0)), (1, .d (D.s s1))], [], []⟩)
  | .inr o => (.ret, ⟨sp 37 0 [(4, .d (D.b o))], [], []⟩)
theorem ref03_Below_l1_ok (rd : Option Nat) {s0 : List UInt8} {s1 : List UInt8} {s5 : Int} {t : Unit ⊕ Bool} (h : ref03_Below_l1 s0 s1 s5 = some t) : LpOfR Tryz.prog rd (fbody Tryz.prog 107) [0, 1, 0, 1] (ref03_Below_l1_I s0 s1 s5) ((ref03_Below_l1_O s0 s1) t) :=
  loopE_lpR (fun s : Int => ref03_Below_l1_I s0 s1 s) (ref03_Below_l1_O s0 s1) (by kernel_rfl) (fun t => isN_ne (by rcases t with (_ | _) <;> rfl)) (fun s5 o h => by
  replace h : ref03_Below_l1_s s0 s1 s5 = some o := h
  unfold ref03_Below_l1_s at h
  apply g0 (o := o)
  refine gG 8 (.int (s0.length : Int)) (len_str s0) ?_
  refine iB 10 h (fun h => ?_) fun h => ?_
  refine gG 13 (.int (s1.length : Int)) (len_str s1) ?_
  refine iB 15 h (fun h => ?_) fun h => ?_
  obtain ⟨x1, h3, h⟩ := xS h
  refine gG 20 (.int x1.toNat) (byte_ok h3) ?_
  obtain ⟨x2, h4, h⟩ := xS h
  refine gG 23 (.int x2.toNat) (byte_ok h4) ?_
  refine iB 24 h (fun h => ?_) fun h => ?_
  obtain ⟨x3, h6, h⟩ := xS h
  refine gG 27 (.int x3.toNat) (byte_ok h6) ?_
  obtain ⟨x4, h7, h⟩ := xS h
  refine gG 30 (.int x4.toNat) (byte_ok h7) ?_
  exact lB h (lv [4] [])
  exact lB h (lv [0,1,5] [])
  exact lB h (lv [0,1] [])
  exact lB h (lv [0,1] [])) (s := s5) (t := t) h
theorem ref03_Below_ok {a0 : List UInt8} {a1 : List UInt8} {r : Bool} (h : ref03_Below a0 a1 = some r) : ACall Tryz.prog 107 [.d (D.s a0), .d (D.s a1)] [] (.d (D.b r)) [] := by
  unfold ref03_Below at h
  apply g0 (o := r)
  obtain ⟨o5, h8, h⟩ := bS h
  refine gL (lv [0,1,5] []) (ref03_Below_l1_ok none h8) ?_
  rcases sumE_some h with ⟨o6, rfl, h⟩ | ⟨o7, rfl, h⟩
  refine gG 33 (.int (a0.length : Int)) (len_str a0) <| gG 35 (.int (a1.length : Int)) (len_str a1) ?_
  exact lF h []
  exact lF h []
theorem ref03_Less_ok {a0 : TValue} {a1 : TValue} {r : Bool} (h : ref03_Less a0 a1 = some r) : ACall Tryz.prog 74 [.d (TValue.D a0), .d (TValue.D a1)] [] (.d (D.b r)) [] := by
  unfold ref03_Less at h
  apply g0 (o := r)
  refine iB 9 h (fun h => ?_) fun h => ?_
  exact lF h []
  refine iB 17 h (fun h => ?_) fun h => ?_
  exact lF h []
  refine iB 25 h (fun h => ?_) fun h => ?_
  obtain ⟨r1, h4, h⟩ := bS h
  refine gC 30 (ref03_Below_ok h4) ?_
  exact lF h []
  refine iB 34 h (fun h => ?_) fun h => ?_
  exact lF h []
  exact lF h []
theorem ref03_Op_ok {a0 : Int} {a1 : TValue} {a2 : TValue} {r : TValue × Int} (h : ref03_Op a0 a1 a2 = some r) : ACall Tryz.prog 130 [dI a0, .d (TValue.D a1), .d (TValue.D a2)] [] (.tup [.d (TValue.D r.1), dI r.2]) [] := by
  unfold ref03_Op at h
  apply g0 (o := r)
  refine iB 10 h (fun h => ?_) fun h => ?_
  exact lF h []
  refine iB 13 h (fun h => ?_) fun h => ?_
  exact lF h []
  refine iB 16 h (fun h => ?_) fun h => ?_
  refine iB 19 h (fun h => ?_) fun h => ?_
  exact lF h []
  obtain ⟨r1, h5, h⟩ := bS h
  refine gC 24 (ref03_truth_ok h5) ?_
  exact lF h []
  refine iB 28 h (fun h => ?_) fun h => ?_
  refine iB 31 h (fun h => ?_) fun h => ?_
  exact lF h []
  obtain ⟨r2, h8, h⟩ := bS h
  refine gC 35 (ref03_arith_ok h8) ?_
  exact lF h []
  refine iB 42 h (fun h => ?_) fun h => ?_
  exact lF h []
  refine iB 45 h (fun h => ?_) fun h => ?_
  obtain ⟨r3, h11, h⟩ := bS h
  refine gC 49 (ref03_truth_ok h11) ?_
  exact lF h []
  refine iB 53 h (fun h => ?_) fun h => ?_
  obtain ⟨r4, h13, h⟩ := bS h
  refine gC 57 (ref03_truth_ok h13) ?_
  exact lF h []
  refine iB 62 h (fun h => ?_) fun h => ?_
  refine iB 64 h (fun h => ?_) fun h => ?_
  refine iB 67 h (fun h => ?_) fun h => ?_
  obtain ⟨r5, h17, h⟩ := bS h
  refine gC 71 (ref03_truth_ok h17) ?_
  exact lF h []
  obtain ⟨r6, h18, h⟩ := bS h
  refine gC 71 (ref03_truth_ok h18) ?_
  exact lF h []
  refine iB 75 h (fun h => ?_) fun h => ?_
  refine iB 78 h (fun h => ?_) fun h => ?_
  obtain ⟨r7, h21, h⟩ := bS h
  refine gC 82 (ref03_truth_ok h21) ?_
  exact lF h []
  obtain ⟨r8, h22, h⟩ := bS h
  refine gC 82 (ref03_truth_ok h22) ?_
  exact lF h []
  exact lF h []
  refine iB 87 h (fun h => ?_) fun h => ?_
  obtain ⟨r9, h24, h⟩ := bS h
  refine gC 90 (ref03_Less_ok h24) ?_
  obtain ⟨r10, h25, h⟩ := bS h
  refine gC 91 (ref03_truth_ok h25) ?_
  exact lF h []
  refine iB 95 h (fun h => ?_) fun h => ?_
  obtain ⟨r11, h27, h⟩ := bS h
  refine gC 98 (ref03_Less_ok h27) ?_
  obtain ⟨r12, h28, h⟩ := bS h
  refine gC 100 (ref03_truth_ok h28) ?_
  exact lF h []
  refine iB 106 h (fun h => ?_) fun h => ?_
  refine iB 110 h (fun h => ?_) fun h => ?_
  refine iB 113 h (fun h => ?_) fun h => ?_
  obtain ⟨r13, h32, h⟩ := bS h
  refine gC 119 (ref03_arith_ok h32) ?_
  exact lF h []
  refine iB 125 h (fun h => ?_) fun h => ?_
  refine iB 128 h (fun h => ?_) fun h => ?_
  refine gG 131 (.int (a1.str.length : Int)) (len_str a1.str) <| gG 134 (.int (a2.str.length : Int)) (len_str a2.str) ?_
  refine iB 136 h (fun h => ?_) fun h => ?_
  exact lF h []
  refine gW 142 (.str (a1.str ++ a2.str)) ?_
  obtain ⟨h36, h⟩ := cS h
  refine gQ (sapp_ok h36) ?_
  exact lF h []
  exact lF h []
  exact lF h []
  refine iB 125 h (fun h => ?_) fun h => ?_
  refine iB 128 h (fun h => ?_) fun h => ?_
  refine gG 131 (.int (a1.str.length : Int)) (len_str a1.str) <| gG 134 (.int (a2.str.length : Int)) (len_str a2.str) ?_
  refine iB 136 h (fun h => ?_) fun h => ?_
  exact lF h []
  refine gW 142 (.str (a1.str ++ a2.str)) ?_
  obtain ⟨h40, h⟩ := cS h
  refine gQ (sapp_ok h40) ?_
  exact lF h []
  exact lF h []
  exact lF h []
  refine iB 125 h (fun h => ?_) fun h => ?_
  refine iB 128 h (fun h => ?_) fun h => ?_
  refine gG 131 (.int (a1.str.length : Int)) (len_str a1.str) <| gG 134 (.int (a2.str.length : Int)) (len_str a2.str) ?_
  refine iB 136 h (fun h => ?_) fun h => ?_
  exact lF h []
  refine gW 142 (.str (a1.str ++ a2.str)) ?_
  obtain ⟨h44, h⟩ := cS h
  refine gQ (sapp_ok h44) ?_
  exact lF h []
  exact lF h []
  exact lF h []
theorem ref13_Type_ok {a0 : Int} {a1 : Int} {a2 : Int} {r : Int} (h : ref13_Type a0 a1 a2 = some r) : ACall Tryz.prog 129 [dI a0, dI a1, dI a2] [] (dI r) [] := by
  unfold ref13_Type at h
  apply g0 (o := r)
  refine iB 11 h (fun h => ?_) fun h => ?_
  exact lF h []
  refine iB 15 h (fun h => ?_) fun h => ?_
  exact lF h []
  obtain ⟨r1, h3, h⟩ := bS h
  refine gC 22 (ref03_Op_ok h3) ?_
  refine iB 26 h (fun h => ?_) fun h => ?_
  exact lF h []
  refine iB 28 h (fun h => ?_) fun h => ?_
  exact lF h []
  exact lF h []
theorem ref13_below_F_ok (self : TQea → Int → Option (Int × Int × Int)) (hs : ∀ (a0 : TQea) (a1 : Int) (r : Int × Int × Int), self a0 a1 = some r → ACall Tryz.prog 103 [.d (TQea.D a0), dI a1] [] (.tup [dI r.1, dI r.2.1, dI r.2.2]) []) (a0 : TQea) (a1 : Int) (r : Int × Int × Int) (h : ref13_below_F self a0 a1 = some r) : ACall Tryz.prog 103 [.d (TQea.D a0), dI a1] [] (.tup [dI r.1, dI r.2.1, dI r.2.2]) [] := by
  unfold ref13_below_F at h
  apply g0 (o := r)
  refine iB 17 h (fun h => ?_) fun h => ?_
  exact lF h []
  refine gN 21 TNode.D a0.nodes ?_
  refine iB 23 h (fun h => ?_) fun h => ?_
  exact lF h []
  refine xX 27 TNode.D h fun x1 h => ?_
  refine iB 32 h (fun h => ?_) fun h => ?_
  refine iB 36 h (fun h => ?_) fun h => ?_
  exact lF h []
  refine iB 41 h (fun h => ?_) fun h => ?_
  exact lF h []
  obtain ⟨r2, h7, h⟩ := bS h
  refine gC 44 (ref03_Right_ok h7) ?_
  refine iB 46 h (fun h => ?_) fun h => ?_
  exact lF h []
  exact lF h []
  refine iB 54 h (fun h => ?_) fun h => ?_
  exact lF h []
  refine iB 57 h (fun h => ?_) fun h => ?_
  refine iB 61 h (fun h => ?_) fun h => ?_
  exact lF h []
  refine gN 66 TQuant.D a0.quants ?_
  refine iB 69 h (fun h => ?_) fun h => ?_
  exact lF h []
  refine iB 73 h (fun h => ?_) fun h => ?_
  exact lF h []
  refine xX 78 TQuant.D h fun x3 h => ?_
  exact lF h []
  refine iB 84 h (fun h => ?_) fun h => ?_
  refine iB 88 h (fun h => ?_) fun h => ?_
  exact lF h []
  refine gN 93 TFree.D a0.frees ?_
  refine iB 96 h (fun h => ?_) fun h => ?_
  exact lF h []
  refine iB 100 h (fun h => ?_) fun h => ?_
  exact lF h []
  refine xX 105 TFree.D h fun x4 h => ?_
  exact lF h []
  refine iB 113 h (fun h => ?_) fun h => ?_
  exact lF h []
  refine iB 117 h (fun h => ?_) fun h => ?_
  exact lF h []
  obtain ⟨r5, h22, h⟩ := bS h
  refine gG 122 (.ret (.tup [dI r5.1, dI r5.2.1, dI r5.2.2])) (hs a0 (intVal .sub .i64 a1 1) r5 h22) ?_
  refine iB 128 h (fun h => ?_) fun h => ?_
  refine iB 131 h (fun h => ?_) fun h => ?_
  exact lF h []
  refine iB 138 h (fun h => ?_) fun h => ?_
  exact lF h []
  refine iB 142 h (fun h => ?_) fun h => ?_
  exact lF h []
  obtain ⟨r6, h27, h⟩ := bS h
  refine gC 147 (ref13_Type_ok h27) ?_
  exact lF h []
  refine iB 153 h (fun h => ?_) fun h => ?_
  exact lF h []
  refine iB 160 h (fun h => ?_) fun h => ?_
  exact lF h []
  refine iB 166 h (fun h => ?_) fun h => ?_
  exact lF h []
  obtain ⟨r7, h31, h⟩ := bS h
  refine gG 171 (.ret (.tup [dI r7.1, dI r7.2.1, dI r7.2.2])) (hs a0 (intVal .sub .i64 r5.2.2 1) r7 h31) <| gW 182 (.int (maxE r5.2.1 r7.2.1)) ?_
  obtain ⟨r8, h32, h⟩ := bS h
  refine gC 179 (ref13_Type_ok h32) <| gQ (rfl : maxE r5.2.1 r7.2.1 = maxE r5.2.1 r7.2.1) ?_
  exact lF h []
theorem ref13_below_n_ok : ∀ (n : Nat) (a0 : TQea) (a1 : Int) (r : Int × Int × Int), ref13_below_n n a0 a1 = some r → ACall Tryz.prog 103 [.d (TQea.D a0), dI a1] [] (.tup [dI r.1, dI r.2.1, dI r.2.2]) []
  | 0, a0, a1, r, h => by simp [ref13_below_n] at h
  | n + 1, a0, a1, r, h => ref13_below_F_ok _ (ref13_below_n_ok n) a0 a1 r h
theorem ref13_below_ok {a0 : TQea} {a1 : Int} {r : Int × Int × Int} (h : ref13_below a0 a1 = some r) : ACall Tryz.prog 103 [.d (TQea.D a0), dI a1] [] (.tup [dI r.1, dI r.2.1, dI r.2.2]) [] := ref13_below_n_ok 100000 a0 a1 r h
theorem ref13_Kind_ok {a0 : TQea} {a1 : Int} {a2 : Int} {r : Int × Int} (h : ref13_Kind a0 a1 a2 = some r) : ACall Tryz.prog 64 [.d (TQea.D a0), dI a1, dI a2] [] (.tup [dI r.1, dI r.2]) [] := by
  unfold ref13_Kind at h
  apply g0 (o := r)
  obtain ⟨r1, h1, h⟩ := bS h
  refine gC 14 (ref13_below_ok h1) ?_
  refine iB 20 h (fun h => ?_) fun h => ?_
  exact lF h []
  refine iB 24 h (fun h => ?_) fun h => ?_
  exact lF h []
  exact lF h []
def ref13_Names_l1_I (s1 : Int) (w2 : TSymbol) (s5 : Int) : St := ⟨sp 30 0 [(1, dI s1), (2, .box 2 0), (5, dI s5)], [(2, .cells ((cellsA (TSymbol.D w2))))], []⟩
def ref13_Names_l1_O (s1 : Int) (w2 : TSymbol) (o : Unit ⊕ Unit) : Ex × St := match o with
  | .inl o => (.exit 0, ⟨sp 30 0 [], [], []⟩)
  | .inr o => (.ret, ⟨sp 30 0 [(4, .d (D.b true))], [], []⟩)
theorem ref13_Names_l1_ok (rd : Option Nat) {s1 : Int} {w2 : TSymbol} {s5 : Int} {t : Unit ⊕ Unit} (h : ref13_Names_l1 s1 w2 s5 = some t) : LpOfR Tryz.prog rd (fbody Tryz.prog 68) [0, 1, 0, 1] (ref13_Names_l1_I s1 w2 s5) ((ref13_Names_l1_O s1 w2) t) :=
  loopE_lpR (fun s : Int => ref13_Names_l1_I s1 w2 s) (ref13_Names_l1_O s1 w2) (by kernel_rfl) (fun t => isN_ne (by rcases t with (_ | _) <;> rfl)) (fun s5 o h => by
  replace h : ref13_Names_l1_s s1 w2 s5 = some o := h
  unfold ref13_Names_l1_s at h
  apply g0 (o := o)
  refine gN 9 TArg.D w2.args ?_
  refine iB 10 h (fun h => ?_) fun h => ?_
  refine xX 16 TArg.D h fun x1 h => ?_
  refine iB 20 h (fun h => ?_) fun h => ?_
  refine xX 24 TArg.D h fun x2 h => ?_
  refine iB 29 h (fun h => ?_) fun h => ?_
  exact lB h (lv [4] [])
  exact lB h (lv [1,2,5] [2])
  exact lB h (lv [1,2,5] [2])
  exact lB h (lv [] [])) (s := s5) (t := t) h
theorem ref13_Names_ok {a0 : TSymbol} {a1 : Int} {r : Bool} (h : ref13_Names a0 a1 = some r) : ACall Tryz.prog 68 [.d (TSymbol.D a0), dI a1] [] (.d (D.b r)) [] := by
  unfold ref13_Names at h
  apply g0 (o := r)
  obtain ⟨o3, h6, h⟩ := bS h
  refine gL (lv [1,2,5] [2]) (ref13_Names_l1_ok none h6) ?_
  rcases sumE_some h with ⟨o4, rfl, h⟩ | ⟨o5, rfl, h⟩
  exact lF h []
  exact lF h []
def ref13_bound_l1_I (s3 : Int) (w4 : TQea) (w5 : TSymbol) (s9 : Int) : St := ⟨sp 34 0 [(3, dI s3), (4, .box 4 0), (5, .box 5 0), (9, dI s9)], [(4, .cells ((cellsA (TQea.D w4)))), (5, .cells ((cellsA (TSymbol.D w5))))], []⟩
def ref13_bound_l1_O (s3 : Int) (w4 : TQea) (w5 : TSymbol) (o : Unit ⊕ Unit) : Ex × St := match o with
  | .inl o => (.exit 0, ⟨sp 34 0 [], [], []⟩)
  | .inr o => (.ret, ⟨sp 34 0 [(8, .d (D.b false))], [], []⟩)
theorem ref13_bound_l1_ok (rd : Option Nat) {s3 : Int} {w4 : TQea} {w5 : TSymbol} {s9 : Int} {t : Unit ⊕ Unit} (h : ref13_bound_l1 s3 w4 w5 s9 = some t) : LpOfR Tryz.prog rd (fbody Tryz.prog 65) [0, 1, 0, 1] (ref13_bound_l1_I s3 w4 w5 s9) ((ref13_bound_l1_O s3 w4 w5) t) :=
  loopE_lpR (fun s : Int => ref13_bound_l1_I s3 w4 w5 s) (ref13_bound_l1_O s3 w4 w5) (by kernel_rfl) (fun t => isN_ne (by rcases t with (_ | _) <;> rfl)) (fun s9 o h => by
  replace h : ref13_bound_l1_s s3 w4 w5 s9 = some o := h
  unfold ref13_bound_l1_s at h
  apply g0 (o := o)
  refine iB 13 h (fun h => ?_) fun h => ?_
  refine xX 19 TNode.D h fun x1 h => ?_
  refine iB 23 h (fun h => ?_) fun h => ?_
  refine xX 28 TNode.D h fun x2 h => ?_
  obtain ⟨r3, h5, h⟩ := bS h
  refine gC 31 (ref13_Names_ok h5) ?_
  refine iB 33 h (fun h => ?_) fun h => ?_
  exact lB h (lv [8] [])
  exact lB h (lv [3,4,5,9] [4,5])
  exact lB h (lv [3,4,5,9] [4,5])
  exact lB h (lv [] [])) (s := s9) (t := t) h
theorem ref13_bound_ok {a0 : TQea} {a1 : TSymbol} {a2 : Int} {a3 : Int} {r : Bool} (h : ref13_bound a0 a1 a2 a3 = some r) : ACall Tryz.prog 65 [.d (TQea.D a0), .d (TSymbol.D a1), dI a2, dI a3] [] (.d (D.b r)) [] := by
  unfold ref13_bound at h
  apply g0 (o := r)
  obtain ⟨o4, h7, h⟩ := bS h
  refine gL (lv [3,4,5,9] [4,5]) (ref13_bound_l1_ok none h7) ?_
  rcases sumE_some h with ⟨o5, rfl, h⟩ | ⟨o6, rfl, h⟩
  exact lF h []
  exact lF h []
def ref13_trans_b1_I (s2 : Int) (s8 : Int) (s56 : Bool) (w3 : TQea) (w4 : TTrans) : St := ⟨sp 153 0 [(2, dI s2), (3, .box 3 0), (4, .box 4 0), (8, dI s8), (56, .d (D.b s56))], [(3, .cells ((cellsA (TQea.D w3)))), (4, .cells ((cellsA (TTrans.D w4))))], []⟩
def ref13_trans_b1_O (s2 : Int) (s8 : Int) (s56 : Bool) (w3 : TQea) (w4 : TTrans) (o : Int ⊕ Unit) : Ex × St := match o with
  | .inl o => (.normal, ⟨sp 153 0 [(2, dI s2), (3, .box 3 0), (4, .box 4 0), (8, dI o)], [(3, .cells ((cellsA (TQea.D w3)))), (4, .cells ((cellsA (TTrans.D w4))))], []⟩)
  | .inr o => (.ret, ⟨sp 153 0 [(6, dI 0), (7, .d (D.b false))], [], []⟩)
theorem ref13_trans_b1_ok (rd : Option Nat) {s2 : Int} {s8 : Int} {s56 : Bool} {w3 : TQea} {w4 : TTrans} {o : Int ⊕ Unit} (h : ref13_trans_b1 s2 s8 s56 w3 w4 = some o) : LpOfR Tryz.prog rd (fbody Tryz.prog 41) [1, 0, 1, 1, 1] (ref13_trans_b1_I s2 s8 s56 w3 w4) (ref13_trans_b1_O s2 s8 s56 w3 w4 o) := by
  unfold ref13_trans_b1 at h
  apply g0 (o := o)
  cases s56
  replace h := iteF h
  exact lP h (lv [2,3,4,8] [3,4])
  replace h := iteT h
  obtain ⟨r1, h8, h⟩ := bS h
  refine gC 62 (ref13_Kind_ok h8) ?_
  refine iB 67 h (fun h => ?_) fun h => ?_
  exact lP h (lv [6,7] [])
  refine iB 70 h (fun h => ?_) fun h => ?_
  exact lP h (lv [6,7] [])
  exact lP h (lv [2,3,4,8] [3,4])
def ref13_trans_l3_I (s2 : Int) (s11 : Int) (w3 : TQea) (w4 : TTrans) (w12 : TSet) (s15 : Int) : St := ⟨sp 153 0 [(2, dI s2), (3, .box 3 0), (4, .box 4 0), (11, dI s11), (12, .box 12 0), (15, dI s15)], [(3, .cells ((cellsA (TQea.D w3)))), (4, .cells ((cellsA (TTrans.D w4)))), (12, .cells ((cellsA (TSet.D w12))))], []⟩
def ref13_trans_l3_O (s2 : Int) (s11 : Int) (w3 : TQea) (w4 : TTrans) (w12 : TSet) (o : Unit ⊕ Unit) : Ex × St := match o with
  | .inl o => (.exit 2, ⟨sp 153 0 [(2, dI s2), (3, .box 3 0), (4, .box 4 0), (11, dI s11), (12, .box 12 0)], [(3, .cells ((cellsA (TQea.D w3)))), (4, .cells ((cellsA (TTrans.D w4)))), (12, .cells ((cellsA (TSet.D w12))))], []⟩)
  | .inr o => (.ret, ⟨sp 153 0 [(6, dI 0), (7, .d (D.b false))], [], []⟩)
theorem ref13_trans_l3_ok (rd : Option Nat) {s2 : Int} {s11 : Int} {w3 : TQea} {w4 : TTrans} {w12 : TSet} {s15 : Int} {t : Unit ⊕ Unit} (h : ref13_trans_l3 s2 s11 w3 w4 w12 s15 = some t) : LpOfR Tryz.prog rd (fbody Tryz.prog 41) [0, 1, 0, 1, 1, 1, 0, 0, 1, 0, 0, 1, 0, 1, 1, 1, 1] (ref13_trans_l3_I s2 s11 w3 w4 w12 s15) ((ref13_trans_l3_O s2 s11 w3 w4 w12) t) :=
  loopE_lpR (fun s : Int => ref13_trans_l3_I s2 s11 w3 w4 w12 s) (ref13_trans_l3_O s2 s11 w3 w4 w12) (by kernel_rfl) (fun t => isN_ne (by rcases t with (_ | _) <;> rfl)) (fun s15 o h => by
  replace h : ref13_trans_l3_s s2 s11 w3 w4 w12 s15 = some o := h
  unfold ref13_trans_l3_s at h
  apply g0 (o := o)
  refine iB 127 h (fun h => ?_) fun h => ?_
  refine xX 133 TSet.D h fun x8 h => ?_
  refine iB 138 h (fun h => ?_) fun h => ?_
  exact lB h (lv [6,7] [])
  exact lB h (lv [2,3,4,11,12,15] [3,4,12])
  exact lB h (lv [2,3,4,11,12] [3,4,12])) (s := s15) (t := t) h
def ref13_trans_l2_I (s2 : Int) (w3 : TQea) (w4 : TTrans) (s8 : Int) (s11 : Int) : St := ⟨sp 153 0 [(2, dI s2), (3, .box 3 0), (4, .box 4 0), (8, dI s8), (11, dI s11)], [(3, .cells ((cellsA (TQea.D w3)))), (4, .cells ((cellsA (TTrans.D w4))))], []⟩
def ref13_trans_l2_O (s2 : Int) (w3 : TQea) (w4 : TTrans) (o : Int ⊕ Unit) : Ex × St := match o with
  | .inl o => (.exit 0, ⟨sp 153 0 [(2, dI s2), (3, .box 3 0), (4, .box 4 0), (8, dI o)], [(3, .cells ((cellsA (TQea.D w3)))), (4, .cells ((cellsA (TTrans.D w4))))], []⟩)
  | .inr o => (.ret, ⟨sp 153 0 [(6, dI 0), (7, .d (D.b false))], [], []⟩)
theorem ref13_trans_l2_ok (rd : Option Nat) {s2 : Int} {w3 : TQea} {w4 : TTrans} {s8 : Int} {s11 : Int} {t : Int ⊕ Unit} (h : ref13_trans_l2 s2 w3 w4 s8 s11 = some t) : LpOfR Tryz.prog rd (fbody Tryz.prog 41) [0, 1, 0, 1, 1, 1, 1] (ref13_trans_l2_I s2 w3 w4 s8 s11) ((ref13_trans_l2_O s2 w3 w4) t) :=
  loopE_lpR (fun s : Int × Int => ref13_trans_l2_I s2 w3 w4 s.1 s.2) (ref13_trans_l2_O s2 w3 w4) (by kernel_rfl) (fun t => isN_ne (by rcases t with (_ | _) <;> rfl)) (fun ⟨s8, s11⟩ o h => by
  replace h : ref13_trans_l2_s s2 w3 w4 s8 s11 = some o := h
  unfold ref13_trans_l2_s at h
  apply g0 (o := o)
  refine gN 77 TSet.D w4.sets ?_
  refine iB 78 h (fun h => ?_) fun h => ?_
  refine xX 84 TSet.D h fun x5 h => ?_
  obtain ⟨r6, h14, h⟩ := bS h
  refine gC 91 (ref13_Kind_ok h14) ?_
  refine iB 97 h (fun h => ?_) fun h => ?_
  exact lB h (lv [6,7] [])
  refine gN 102 TFree.D w3.frees ?_
  refine iB 105 h (fun h => ?_) fun h => ?_
  exact lB h (lv [6,7] [])
  refine iB 109 h (fun h => ?_) fun h => ?_
  exact lB h (lv [6,7] [])
  refine iB 113 h (fun h => ?_) fun h => ?_
  exact lB h (lv [6,7] [])
  refine xX 119 TFree.D h fun x7 h => ?_
  refine iB 124 h (fun h => ?_) fun h => ?_
  exact lB h (lv [6,7] [])
  obtain ⟨o9, h24, h⟩ := bS h
  refine gL (lv [2,3,4,11,12,15] [3,4,12]) (ref13_trans_l3_ok rd h24) ?_
  rcases sumE_some h with ⟨o10, rfl, h⟩ | ⟨o11, rfl, h⟩
  exact lB h (lv [2,3,4,8,11] [3,4])
  exact lB h (lv [6,7] [])
  exact lB h (lv [2,3,4,8] [3,4])) (s := (s8, s11)) (t := t) h
theorem ref13_trans_ok {a0 : TQea} {a1 : TTrans} {a2 : Int} {r : Int × Bool} (h : ref13_trans a0 a1 a2 = some r) : ACall Tryz.prog 41 [.d (TQea.D a0), .d (TTrans.D a1), dI a2] [] (.tup [dI r.1, .d (D.b r.2)]) [] := by
  unfold ref13_trans at h
  apply g0 (o := r)
  refine iB 19 h (fun h => ?_) fun h => ?_
  exact lF h []
  refine gN 24 TState.D a0.states ?_
  refine iB 27 h (fun h => ?_) fun h => ?_
  exact lF h []
  refine iB 32 h (fun h => ?_) fun h => ?_
  exact lF h []
  refine gN 37 TState.D a0.states ?_
  refine iB 40 h (fun h => ?_) fun h => ?_
  exact lF h []
  refine iB 45 h (fun h => ?_) fun h => ?_
  exact lF h []
  refine gN 50 TSymbol.D a0.symbols ?_
  refine iB 52 h (fun h => ?_) fun h => ?_
  exact lF h []
  obtain ⟨o2, h11, h⟩ := bS h
  refine gL (lv [2,3,4,8,56] [3,4]) (ref13_trans_b1_ok none h11) ?_
  rcases sumE_some h with ⟨o3, rfl, h⟩ | ⟨o4, rfl, h⟩
  obtain ⟨o12, h25, h⟩ := bS h
  refine gL (lv [2,3,4,8,11] [3,4]) (ref13_trans_l2_ok none h25) ?_
  rcases sumE_some h with ⟨o13, rfl, h⟩ | ⟨o14, rfl, h⟩
  refine xX 148 TSymbol.D h fun x15 h => ?_
  obtain ⟨r16, h27, h⟩ := bS h
  refine gC 152 (ref13_bound_ok h27) ?_
  exact lF h []
  exact lF h []
  exact lF h []
theorem ref13_arg_ok {a0 : TQea} {a1 : TArg} {a2 : Int} {r : Bool} (h : ref13_arg a0 a1 a2 = some r) : ACall Tryz.prog 104 [.d (TQea.D a0), .d (TArg.D a1), dI a2] [] (.d (D.b r)) [] := by
  unfold ref13_arg at h
  apply g0 (o := r)
  refine iB 11 h (fun h => ?_) fun h => ?_
  refine iB 15 h (fun h => ?_) fun h => ?_
  obtain ⟨r1, h3, h⟩ := bS h
  refine gQ (ref03_Right_ok h3) ?_
  cases r1
  replace h := iteF h
  refine gW 18 (.ret (.d (D.b false))) ?_
  exact lF h []
  replace h := iteT h
  refine gW 18 (.ret (.d (D.b true))) ?_
  exact lF h []
  exact lF h []
  refine iB 30 h (fun h => ?_) fun h => ?_
  exact lF h []
  refine iB 33 h (fun h => ?_) fun h => ?_
  refine iB 37 h (fun h => ?_) fun h => ?_
  refine gN 42 TQuant.D a0.quants ?_
  refine iB 45 h (fun h => ?_) fun h => ?_
  refine xX 50 TQuant.D h fun x2 h => ?_
  exact lF h []
  exact lF h []
  exact lF h []
  refine iB 58 h (fun h => ?_) fun h => ?_
  refine iB 62 h (fun h => ?_) fun h => ?_
  refine gN 67 TFree.D a0.frees ?_
  refine iB 70 h (fun h => ?_) fun h => ?_
  refine xX 75 TFree.D h fun x3 h => ?_
  exact lF h []
  exact lF h []
  exact lF h []
  refine iB 85 h (fun h => ?_) fun h => ?_
  exact lF h []
  exact lF h []
def ref13_symbol_l1_I (w2 : TQea) (w3 : TSymbol) (s5 : Int) : St := ⟨sp 56 0 [(2, .box 2 0), (3, .box 3 0), (5, dI s5)], [(2, .cells ((cellsA (TQea.D w2)))), (3, .cells ((cellsA (TSymbol.D w3))))], []⟩
def ref13_symbol_l1_O (w2 : TQea) (w3 : TSymbol) (o : Unit ⊕ Unit) : Ex × St := match o with
  | .inl o => (.exit 0, ⟨sp 56 0 [], [], []⟩)
  | .inr o => (.ret, ⟨sp 56 0 [(4, .d (D.b false))], [], []⟩)
theorem ref13_symbol_l1_ok (rd : Option Nat) {w2 : TQea} {w3 : TSymbol} {s5 : Int} {t : Unit ⊕ Unit} (h : ref13_symbol_l1 w2 w3 s5 = some t) : LpOfR Tryz.prog rd (fbody Tryz.prog 66) [0, 1, 0, 1, 1] (ref13_symbol_l1_I w2 w3 s5) ((ref13_symbol_l1_O w2 w3) t) :=
  loopE_lpR (fun s : Int => ref13_symbol_l1_I w2 w3 s) (ref13_symbol_l1_O w2 w3) (by kernel_rfl) (fun t => isN_ne (by rcases t with (_ | _) <;> rfl)) (fun s5 o h => by
  replace h : ref13_symbol_l1_s w2 w3 s5 = some o := h
  unfold ref13_symbol_l1_s at h
  apply g0 (o := o)
  refine gN 34 TArg.D w3.args ?_
  refine iB 35 h (fun h => ?_) fun h => ?_
  refine xX 42 TArg.D h fun x2 h => ?_
  refine xX 48 TDecl.D h fun x3 h => ?_
  refine xX 52 (D.i .i64) h fun x4 h => ?_
  obtain ⟨r5, h9, h⟩ := bS h
  refine gC 54 (ref13_arg_ok h9) ?_
  refine iB 55 h (fun h => ?_) fun h => ?_
  exact lB h (lv [4] [])
  exact lB h (lv [2,3,5] [2,3])
  exact lB h (lv [] [])) (s := s5) (t := t) h
theorem ref13_symbol_ok {a0 : TQea} {a1 : TSymbol} {r : Bool} (h : ref13_symbol a0 a1 = some r) : ACall Tryz.prog 66 [.d (TQea.D a0), .d (TSymbol.D a1)] [] (.d (D.b r)) [] := by
  unfold ref13_symbol at h
  apply g0 (o := r)
  refine iB 9 h (fun h => ?_) fun h => ?_
  exact lF h []
  refine gN 14 TDecl.D a0.decls ?_
  refine iB 17 h (fun h => ?_) fun h => ?_
  exact lF h []
  refine gN 20 TArg.D a1.args <| xX 25 TDecl.D h fun x1 h => ?_
  refine gN 28 (D.i .i64) x1.types ?_
  refine iB 30 h (fun h => ?_) fun h => ?_
  exact lF h []
  obtain ⟨o6, h11, h⟩ := bS h
  refine gL (lv [2,3,5] [2,3]) (ref13_symbol_l1_ok none h11) ?_
  rcases sumE_some h with ⟨o7, rfl, h⟩ | ⟨o8, rfl, h⟩
  exact lF h []
  exact lF h []
def ref13_SameSymbol_l1_I (w2 : TSymbol) (w3 : TSymbol) (s5 : Int) : St := ⟨sp 38 0 [(2, .box 2 0), (3, .box 3 0), (5, dI s5)], [(2, .cells ((cellsA (TSymbol.D w2)))), (3, .cells ((cellsA (TSymbol.D w3))))], []⟩
def ref13_SameSymbol_l1_O (w2 : TSymbol) (w3 : TSymbol) (o : Unit ⊕ Unit) : Ex × St := match o with
  | .inl o => (.exit 0, ⟨sp 38 0 [], [], []⟩)
  | .inr o => (.ret, ⟨sp 38 0 [(4, .d (D.b false))], [], []⟩)
theorem ref13_SameSymbol_l1_ok (rd : Option Nat) {w2 : TSymbol} {w3 : TSymbol} {s5 : Int} {t : Unit ⊕ Unit} (h : ref13_SameSymbol_l1 w2 w3 s5 = some t) : LpOfR Tryz.prog rd (fbody Tryz.prog 67) [0, 1, 0, 1, 1] (ref13_SameSymbol_l1_I w2 w3 s5) ((ref13_SameSymbol_l1_O w2 w3) t) :=
  loopE_lpR (fun s : Int => ref13_SameSymbol_l1_I w2 w3 s) (ref13_SameSymbol_l1_O w2 w3) (by kernel_rfl) (fun t => isN_ne (by rcases t with (_ | _) <;> rfl)) (fun s5 o h => by
  replace h : ref13_SameSymbol_l1_s w2 w3 s5 = some o := h
  unfold ref13_SameSymbol_l1_s at h
  apply g0 (o := o)
  refine gN 23 TArg.D w2.args ?_
  refine iB 24 h (fun h => ?_) fun h => ?_
  refine xX 30 TArg.D h fun x1 h => ?_
  refine xX 35 TArg.D h fun x2 h => ?_
  refine iB 37 h (fun h => ?_) fun h => ?_
  exact lB h (lv [4] [])
  exact lB h (lv [2,3,5] [2,3])
  exact lB h (lv [] [])) (s := s5) (t := t) h
theorem ref13_SameSymbol_ok {a0 : TSymbol} {a1 : TSymbol} {r : Bool} (h : ref13_SameSymbol a0 a1 = some r) : ACall Tryz.prog 67 [.d (TSymbol.D a0), .d (TSymbol.D a1)] [] (.d (D.b r)) [] := by
  unfold ref13_SameSymbol at h
  apply g0 (o := r)
  refine iB 11 h (fun h => ?_) fun h => ?_
  exact lF h []
  refine gN 14 TArg.D a0.args <| gN 17 TArg.D a1.args ?_
  refine iB 19 h (fun h => ?_) fun h => ?_
  exact lF h []
  obtain ⟨o3, h7, h⟩ := bS h
  refine gL (lv [2,3,5] [2,3]) (ref13_SameSymbol_l1_ok none h7) ?_
  rcases sumE_some h with ⟨o4, rfl, h⟩ | ⟨o5, rfl, h⟩
  exact lF h []
  exact lF h []
def ref13_symbols_b5_I (s5 : Int) (s6 : Int) (s34 : Bool) (w1 : TQea) (w3 : List Bool) (w4 : List Int) : St := ⟨sp 118 0 [(1, .box 1 0), (3, .row 3), (4, .row 4), (5, dI s5), (6, dI s6), (34, .d (D.b s34))], [(1, .cells ((cellsA (TQea.D w1)))), (3, .buf true 4 1 (w3.map D.b)), (4, .row 3 1 (w4.map (D.i .i64)))], []⟩
def ref13_symbols_b5_O (s5 : Int) (s6 : Int) (s34 : Bool) (w1 : TQea) (w3 : List Bool) (w4 : List Int) (o : (List Int)) : Ex × St := (.normal, ⟨sp 118 0 [(1, .box 1 0), (3, .row 3), (4, .row 4), (5, dI s5), (6, dI s6)], [(1, .cells ((cellsA (TQea.D w1)))), (3, .buf true 4 1 (w3.map D.b)), (4, .row 3 1 (o.map (D.i .i64)))], []⟩)
theorem ref13_symbols_b5_ok (rd : Option Nat) {s5 : Int} {s6 : Int} {s34 : Bool} {w1 : TQea} {w3 : List Bool} {w4 : List Int} {o : (List Int)} (h : ref13_symbols_b5 s5 s6 s34 w1 w3 w4 = some o) : LpOfR Tryz.prog rd (fbody Tryz.prog 42) [1, 0, 1, 0, 0, 1, 0, 0, 1, 0, 1, 1, 1] (ref13_symbols_b5_I s5 s6 s34 w1 w3 w4) (ref13_symbols_b5_O s5 s6 s34 w1 w3 w4 o) := by
  unfold ref13_symbols_b5 at h
  apply g0 (o := o)
  cases s34
  replace h := iteF h
  exact lP h (lv [1,3,4,5,6] [1,3,4])
  replace h := iteT h
  refine gQ (nc_ok (D.i .i64) [s6]) <| gG 38 (.sl ((w4 ++ [s6]).map (D.i .i64))) (nc_ok (D.i .i64) [s6]) ?_
  obtain ⟨h17, h⟩ := cS h
  refine gQ (fit_map (D.i .i64) h17) <| gQ (app_map (D.i .i64) w4 [s6]) ?_
  exact lP h [.live [1,3,4,5,6], .keep [1,3,38], .ren 38 4, .sort]
def ref13_symbols_b4_I (s5 : Int) (w1 : TQea) (w3 : List Bool) (w4 : List Int) : St := ⟨sp 118 0 [(1, .box 1 0), (3, .row 3), (4, .row 4), (5, dI s5)], [(1, .cells ((cellsA (TQea.D w1)))), (3, .buf true 4 1 (w3.map D.b)), (4, .row 3 1 (w4.map (D.i .i64)))], []⟩
def ref13_symbols_b4_O (s5 : Int) (w1 : TQea) (w3 : List Bool) (w4 : List Int) (o : (List Bool × List Int)) : Ex × St := (.normal, ⟨sp 118 0 [(1, .box 1 0), (3, .row 3), (4, .row 4), (5, dI s5)], [(1, .cells ((cellsA (TQea.D w1)))), (3, .buf true 4 1 (o.1.map D.b)), (4, .row 3 1 (o.2.map (D.i .i64)))], []⟩)
theorem ref13_symbols_b4_ok (rd : Option Nat) {s5 : Int} {w1 : TQea} {w3 : List Bool} {w4 : List Int} {o : (List Bool × List Int)} (h : ref13_symbols_b4 s5 w1 w3 w4 = some o) : LpOfR Tryz.prog rd (fbody Tryz.prog 42) [0, 1, 0, 0, 1, 0, 1, 1, 1] (ref13_symbols_b4_I s5 w1 w3 w4) (ref13_symbols_b4_O s5 w1 w3 w4 o) := by
  unfold ref13_symbols_b4 at h
  apply g0 (o := o)
  refine xX 27 TTrans.D h fun x5 h => ?_
  refine gW 10041 (.sl ((w3.set x5.symbol.toNat true).map D.b)) ?_
  obtain ⟨h14, h⟩ := cS h
  refine gQ h14.1 <| gQ (le_map D.b h14.2) ?_
  obtain ⟨x6, h15, h⟩ := xS h
  refine gG 33 (.el (D.b x6)) (elem_ep D.b h15) ?_
  obtain ⟨o7, h18, h⟩ := bS h
  refine gL (lv [1,3,4,5,6,34] [1,3,4]) (ref13_symbols_b5_ok rd h18) ?_
  obtain ⟨h19, h⟩ := cS h
  refine gQ h19.1 <| gQ (le_map D.b h19.2) ?_
  obtain ⟨h20, h⟩ := cS h
  refine gQ (le_ep D.b h20) <| gQ (upd_map D.b w3 x5.symbol true) ?_
  exact lP h (lv [1,3,4,5] [1,3,4])
def ref13_symbols_l1_I (w1 : TQea) (s5 : Int) (w3 : List Bool) (w4 : List Int) : St := ⟨sp 118 0 [(1, .box 1 0), (3, .row 3), (4, .row 4), (5, dI s5)], [(1, .cells ((cellsA (TQea.D w1)))), (3, .buf true 4 1 (w3.map D.b)), (4, .row 3 1 (w4.map (D.i .i64)))], []⟩
def ref13_symbols_l1_O (w1 : TQea) (o : (List Int)) : Ex × St := (.exit 0, ⟨sp 118 0 [(1, .box 1 0), (4, .row 4)], [(1, .cells ((cellsA (TQea.D w1)))), (4, .row 3 1 (o.map (D.i .i64)))], []⟩)
theorem ref13_symbols_l1_ok (rd : Option Nat) {w1 : TQea} {s5 : Int} {w3 : List Bool} {w4 : List Int} {t : (List Int)} (h : ref13_symbols_l1 w1 s5 w3 w4 = some t) : LpOfR Tryz.prog rd (fbody Tryz.prog 42) [0, 1, 0, 1, 1, 1] (ref13_symbols_l1_I w1 s5 w3 w4) ((ref13_symbols_l1_O w1) t) :=
  loopE_lpR (fun s : Int × List Bool × List Int => ref13_symbols_l1_I w1 s.1 s.2.1 s.2.2) (ref13_symbols_l1_O w1) (by kernel_rfl) (fun t => isN_ne (by rfl)) (fun ⟨s5, w3, w4⟩ o h => by
  replace h : ref13_symbols_l1_s w1 s5 w3 w4 = some o := h
  unfold ref13_symbols_l1_s at h
  apply g0 (o := o)
  refine gN 20 TTrans.D w1.trans ?_
  refine iB 21 h (fun h => ?_) fun h => ?_
  obtain ⟨o8, h21, h⟩ := bS h
  refine gL (lv [1,3,4,5] [1,3,4]) (ref13_symbols_b4_ok rd h21) ?_
  exact lB h (lv [1,3,4,5] [1,3,4])
  exact lB h (lv [1,4] [1,4])) (s := (s5, w3, w4)) (t := t) h
def ref13_symbols_l6_I (w1 : TQea) (w4 : List Int) (s7 : Int) : St := ⟨sp 118 0 [(1, .box 1 0), (4, .row 4), (7, dI s7)], [(1, .cells ((cellsA (TQea.D w1)))), (4, .row 3 1 (w4.map (D.i .i64)))], []⟩
def ref13_symbols_l6_O (w1 : TQea) (w4 : List Int) (o : Unit ⊕ Unit) : Ex × St := match o with
  | .inl o => (.exit 2, ⟨sp 118 0 [(1, .box 1 0)], [(1, .cells ((cellsA (TQea.D w1))))], []⟩)
  | .inr o => (.ret, ⟨sp 118 0 [(2, .d (D.b false))], [], []⟩)
theorem ref13_symbols_l6_ok (rd : Option Nat) {w1 : TQea} {w4 : List Int} {s7 : Int} {t : Unit ⊕ Unit} (h : ref13_symbols_l6 w1 w4 s7 = some t) : LpOfR Tryz.prog rd (fbody Tryz.prog 42) [0, 1, 0, 1, 1, 1, 1] (ref13_symbols_l6_I w1 w4 s7) ((ref13_symbols_l6_O w1 w4) t) :=
  loopE_lpR (fun s : Int => ref13_symbols_l6_I w1 w4 s) (ref13_symbols_l6_O w1 w4) (by kernel_rfl) (fun t => isN_ne (by rcases t with (_ | _) <;> rfl)) (fun s7 o h => by
  replace h : ref13_symbols_l6_s w1 w4 s7 = some o := h
  unfold ref13_symbols_l6_s at h
  apply g0 (o := o)
  refine gN 44 (D.i .i64) w4 ?_
  refine iB 45 h (fun h => ?_) fun h => ?_
  refine gW 54 (.int (w1.symbols.length : Int)) <| gW 56 (.int (w4.length : Int)) <| xX 50 (D.i .i64) h fun x10 h => ?_
  refine gQ (len_map TSymbol.D w1.symbols) <| gQ (len_map (D.i .i64) w4) ?_
  refine iB 60 h (fun h => ?_) fun h => ?_
  exact lB h (lv [2] [])
  exact lB h (lv [1,4,7] [1,4])
  exact lB h (lv [1] [1])) (s := s7) (t := t) h
def ref13_symbols_l8_I (s8 : Int) (w1 : TQea) (s9 : Int) : St := ⟨sp 118 0 [(1, .box 1 0), (8, dI s8), (9, dI s9)], [(1, .cells ((cellsA (TQea.D w1))))], []⟩
def ref13_symbols_l8_O (s8 : Int) (w1 : TQea) (o : Unit ⊕ Unit) : Ex × St := match o with
  | .inl o => (.exit 6, ⟨sp 118 0 [(1, .box 1 0), (8, dI s8)], [(1, .cells ((cellsA (TQea.D w1))))], []⟩)
  | .inr o => (.ret, ⟨sp 118 0 [(2, .d (D.b false))], [], []⟩)
theorem ref13_symbols_l8_ok (rd : Option Nat) {s8 : Int} {w1 : TQea} {s9 : Int} {t : Unit ⊕ Unit} (h : ref13_symbols_l8 s8 w1 s9 = some t) : LpOfR Tryz.prog rd (fbody Tryz.prog 42) [0, 1, 1, 0, 0, 1, 0, 0, 1, 0, 1, 1, 1, 1, 1] (ref13_symbols_l8_I s8 w1 s9) ((ref13_symbols_l8_O s8 w1) t) :=
  loopE_lpR (fun s : Int => ref13_symbols_l8_I s8 w1 s) (ref13_symbols_l8_O s8 w1) (by kernel_rfl) (fun t => isN_ne (by rcases t with (_ | _) <;> rfl)) (fun s9 o h => by
  replace h : ref13_symbols_l8_s s8 w1 s9 = some o := h
  unfold ref13_symbols_l8_s at h
  apply g0 (o := o)
  refine iB 78 h (fun h => ?_) fun h => ?_
  refine xX 84 TSymbol.D h fun x16 h => ?_
  refine xX 89 TSymbol.D h fun x17 h => ?_
  obtain ⟨r18, h34, h⟩ := bS h
  refine gQ (ref13_SameSymbol_ok h34) ?_
  cases r18
  replace h := iteF h
  refine gW 91 (.ret (.d (D.b false))) ?_
  exact lB h (lv [1,8,9] [1])
  replace h := iteT h
  refine gW 91 (.ret (.d (D.b true))) ?_
  exact lB h (lv [2] [])
  exact lB h (lv [1,8] [1])) (s := s9) (t := t) h
def ref13_symbols_l7_I (w1 : TQea) (s8 : Int) : St := ⟨sp 118 0 [(1, .box 1 0), (8, dI s8)], [(1, .cells ((cellsA (TQea.D w1))))], []⟩
def ref13_symbols_l7_O (w1 : TQea) (o : Unit ⊕ Unit) : Ex × St := match o with
  | .inl o => (.exit 4, ⟨sp 118 0 [(1, .box 1 0)], [(1, .cells ((cellsA (TQea.D w1))))], []⟩)
  | .inr o => (.ret, ⟨sp 118 0 [(2, .d (D.b false))], [], []⟩)
theorem ref13_symbols_l7_ok (rd : Option Nat) {w1 : TQea} {s8 : Int} {t : Unit ⊕ Unit} (h : ref13_symbols_l7 w1 s8 = some t) : LpOfR Tryz.prog rd (fbody Tryz.prog 42) [0, 1, 0, 1, 1, 1, 1, 1] (ref13_symbols_l7_I w1 s8) ((ref13_symbols_l7_O w1) t) :=
  loopE_lpR (fun s : Int => ref13_symbols_l7_I w1 s) (ref13_symbols_l7_O w1) (by kernel_rfl) (fun t => isN_ne (by rcases t with (_ | _) <;> rfl)) (fun s8 o h => by
  replace h : ref13_symbols_l7_s w1 s8 = some o := h
  unfold ref13_symbols_l7_s at h
  apply g0 (o := o)
  refine gN 64 TSymbol.D w1.symbols ?_
  refine iB 65 h (fun h => ?_) fun h => ?_
  refine xX 72 TSymbol.D h fun x14 h => ?_
  obtain ⟨r15, h29, h⟩ := bS h
  refine gC 74 (ref13_symbol_ok h29) ?_
  refine iB 75 h (fun h => ?_) fun h => ?_
  exact lB h (lv [2] [])
  obtain ⟨o19, h36, h⟩ := bS h
  refine gL (lv [1,8,9] [1]) (ref13_symbols_l8_ok rd h36) ?_
  rcases sumE_some h with ⟨o20, rfl, h⟩ | ⟨o21, rfl, h⟩
  exact lB h (lv [1,8] [1])
  exact lB h (lv [2] [])
  exact lB h (lv [1] [1])) (s := s8) (t := t) h
def ref13_symbols_l10_I (s10 : Int) (w1 : TQea) (s11 : Bool) (s12 : Int) : St := ⟨sp 118 0 [(1, .box 1 0), (10, dI s10), (11, .d (D.b s11)), (12, dI s12)], [(1, .cells ((cellsA (TQea.D w1))))], []⟩
def ref13_symbols_l10_O (s10 : Int) (w1 : TQea) (o : Bool) : Ex × St := (.exit 10, ⟨sp 118 0 [(1, .box 1 0), (10, dI s10), (11, .d (D.b o))], [(1, .cells ((cellsA (TQea.D w1))))], []⟩)
theorem ref13_symbols_l10_ok (rd : Option Nat) {s10 : Int} {w1 : TQea} {s11 : Bool} {s12 : Int} {t : Bool} (h : ref13_symbols_l10 s10 w1 s11 s12 = some t) : LpOfR Tryz.prog rd (fbody Tryz.prog 42) [0, 1, 0, 1, 0, 0, 1, 0, 0, 1, 0, 1, 1, 1, 1, 1, 1] (ref13_symbols_l10_I s10 w1 s11 s12) ((ref13_symbols_l10_O s10 w1) t) :=
  loopE_lpR (fun s : Bool × Int => ref13_symbols_l10_I s10 w1 s.1 s.2) (ref13_symbols_l10_O s10 w1) (by kernel_rfl) (fun t => isN_ne (by rfl)) (fun ⟨s11, s12⟩ o h => by
  replace h : ref13_symbols_l10_s s10 w1 s11 s12 = some o := h
  unfold ref13_symbols_l10_s at h
  apply g0 (o := o)
  refine gN 102 TSymbol.D w1.symbols ?_
  refine iB 103 h (fun h => ?_) fun h => ?_
  refine iB 107 h (fun h => ?_) fun h => ?_
  exact lB h (lv [1,10,11,12] [1])
  refine xX 111 TSymbol.D h fun x25 h => ?_
  obtain ⟨r26, h42, h⟩ := bS h
  refine gC 114 (ref13_Names_ok h42) ?_
  exact lB h (lv [1,10,11,12] [1])
  exact lB h (lv [1,10,11] [1])) (s := (s11, s12)) (t := t) h
def ref13_symbols_l9_I (w1 : TQea) (s10 : Int) : St := ⟨sp 118 0 [(1, .box 1 0), (10, dI s10)], [(1, .cells ((cellsA (TQea.D w1))))], []⟩
def ref13_symbols_l9_O (w1 : TQea) (o : Unit ⊕ Unit) : Ex × St := match o with
  | .inl o => (.exit 8, ⟨sp 118 0 [], [], []⟩)
  | .inr o => (.ret, ⟨sp 118 0 [(2, .d (D.b false))], [], []⟩)
theorem ref13_symbols_l9_ok (rd : Option Nat) {w1 : TQea} {s10 : Int} {t : Unit ⊕ Unit} (h : ref13_symbols_l9 w1 s10 = some t) : LpOfR Tryz.prog rd (fbody Tryz.prog 42) [0, 1, 0, 1, 1, 1, 1, 1, 1] (ref13_symbols_l9_I w1 s10) ((ref13_symbols_l9_O w1) t) :=
  loopE_lpR (fun s : Int => ref13_symbols_l9_I w1 s) (ref13_symbols_l9_O w1) (by kernel_rfl) (fun t => isN_ne (by rcases t with (_ | _) <;> rfl)) (fun s10 o h => by
  replace h : ref13_symbols_l9_s w1 s10 = some o := h
  unfold ref13_symbols_l9_s at h
  apply g0 (o := o)
  refine gN 95 TQuant.D w1.quants ?_
  refine iB 96 h (fun h => ?_) fun h => ?_
  obtain ⟨o27, h43, h⟩ := bS h
  refine gL (lv [1,10,11,12] [1]) (ref13_symbols_l10_ok rd h43) ?_
  refine iB 117 h (fun h => ?_) fun h => ?_
  exact lB h (lv [2] [])
  exact lB h (lv [1,10] [1])
  exact lB h (lv [] [])) (s := s10) (t := t) h
theorem ref13_symbols_ok {a0 : TQea} {r : Bool} (h : ref13_symbols a0 = some r) : ACall Tryz.prog 42 [.d (TQea.D a0)] [] (.d (D.b r)) [] := by
  unfold ref13_symbols at h
  apply g0 (o := r)
  refine gN 15 TSymbol.D a0.symbols <| gW 16 (.sl ((List.replicate (a0.symbols.length : Int).toNat false).map D.b)) ?_
  obtain ⟨h1, h⟩ := cS h
  refine gQ h1.1 <| gQ (Int.le_refl (a0.symbols.length : Int)) <| gQ (Int.le_refl (a0.symbols.length : Int)) <| gQ (mk_fit D.b false h1.2) <| gQ (mk_app D.b (a0.symbols.length : Int) false) ?_
  obtain ⟨o9, h22, h⟩ := bS h
  refine gL [.live [1,3,4,5], .keep [1,16], .ren 16 3, .nil 4 4 3 1, .sort] (ref13_symbols_l1_ok none h22) ?_
  obtain ⟨o11, h26, h⟩ := bS h
  refine gL (lv [1,4,7] [1,4]) (ref13_symbols_l6_ok none h26) ?_
  rcases sumE_some h with ⟨o12, rfl, h⟩ | ⟨o13, rfl, h⟩
  obtain ⟨o22, h37, h⟩ := bS h
  refine gL (lv [1,8] [1]) (ref13_symbols_l7_ok none h37) ?_
  rcases sumE_some h with ⟨o23, rfl, h⟩ | ⟨o24, rfl, h⟩
  obtain ⟨o28, h45, h⟩ := bS h
  refine gL (lv [1,10] [1]) (ref13_symbols_l9_ok none h45) ?_
  rcases sumE_some h with ⟨o29, rfl, h⟩ | ⟨o30, rfl, h⟩
  exact lF h []
  exact lF h []
  exact lF h []
  exact lF h []
def ref13_Right_l1_I (w1 : TQea) (s5 : Int) (s6 : Int) : St := ⟨sp 101 0 [(1, .box 1 0), (5, dI s5), (6, dI s6)], [(1, .cells ((cellsA (TQea.D w1))))], []⟩
def ref13_Right_l1_O (w1 : TQea) (o : Int ⊕ Unit) : Ex × St := match o with
  | .inl o => (.exit 0, ⟨sp 101 0 [(1, .box 1 0), (5, dI o)], [(1, .cells ((cellsA (TQea.D w1))))], []⟩)
  | .inr o => (.ret, ⟨sp 101 0 [(2, .d (D.b false))], [], []⟩)
theorem ref13_Right_l1_ok (rd : Option Nat) {w1 : TQea} {s5 : Int} {s6 : Int} {t : Int ⊕ Unit} (h : ref13_Right_l1 w1 s5 s6 = some t) : LpOfR Tryz.prog rd (fbody Tryz.prog 20) [0, 1, 0, 1, 1, 1, 1] (ref13_Right_l1_I w1 s5 s6) ((ref13_Right_l1_O w1) t) :=
  loopE_lpR (fun s : Int × Int => ref13_Right_l1_I w1 s.1 s.2) (ref13_Right_l1_O w1) (by kernel_rfl) (fun t => isN_ne (by rcases t with (_ | _) <;> rfl)) (fun ⟨s5, s6⟩ o h => by
  replace h : ref13_Right_l1_s w1 s5 s6 = some o := h
  unfold ref13_Right_l1_s at h
  apply g0 (o := o)
  refine gN 74 TTrans.D w1.trans ?_
  refine iB 75 h (fun h => ?_) fun h => ?_
  refine xX 83 TTrans.D h fun x3 h => ?_
  obtain ⟨r4, h15, h⟩ := bS h
  refine gC 86 (ref13_trans_ok h15) ?_
  refine iB 90 h (fun h => ?_) fun h => ?_
  exact lB h (lv [2] [])
  exact lB h (lv [1,5,6] [1])
  exact lB h (lv [1,5] [1])) (s := (s5, s6)) (t := t) h
theorem ref13_Right_ok {a0 : TQea} {r : Bool} (h : ref13_Right a0 = some r) : ACall Tryz.prog 20 [.d (TQea.D a0)] [] (.d (D.b r)) [] := by
  unfold ref13_Right at h
  apply g0 (o := r)
  obtain ⟨r1, h1, h⟩ := bS h
  refine gC 12 (ref07_Check_ok h1) ?_
  refine iB 17 h (fun h => ?_) fun h => ?_
  exact lF h []
  refine gN 20 TQuant.D a0.quants ?_
  refine iB 23 h (fun h => ?_) fun h => ?_
  exact lF h []
  refine gN 26 TFree.D a0.frees ?_
  refine iB 29 h (fun h => ?_) fun h => ?_
  exact lF h []
  refine gN 32 TState.D a0.states ?_
  refine iB 35 h (fun h => ?_) fun h => ?_
  exact lF h []
  refine gN 38 TSymbol.D a0.symbols ?_
  refine iB 41 h (fun h => ?_) fun h => ?_
  exact lF h []
  refine gN 44 TNode.D a0.nodes ?_
  refine iB 47 h (fun h => ?_) fun h => ?_
  exact lF h []
  refine gN 50 TTrans.D a0.trans ?_
  refine iB 53 h (fun h => ?_) fun h => ?_
  exact lF h []
  refine iB 58 h (fun h => ?_) fun h => ?_
  exact lF h []
  refine gN 63 TState.D a0.states ?_
  refine iB 66 h (fun h => ?_) fun h => ?_
  exact lF h []
  obtain ⟨r2, h11, h⟩ := bS h
  refine gC 68 (ref13_names_ok h11) ?_
  refine iB 70 h (fun h => ?_) fun h => ?_
  exact lF h []
  obtain ⟨o5, h17, h⟩ := bS h
  refine gL (lv [1,5,6] [1]) (ref13_Right_l1_ok none h17) ?_
  rcases sumE_some h with ⟨o6, rfl, h⟩ | ⟨o7, rfl, h⟩
  refine gN 95 TNode.D a0.nodes ?_
  refine iB 97 h (fun h => ?_) fun h => ?_
  obtain ⟨r8, h19, h⟩ := bS h
  refine gC 99 (ref13_symbols_ok h19) ?_
  exact lF h []
  exact lF h []
  exact lF h []
def ref22_Small_l1_I (w1 : TQea) (s3 : Int) : St := ⟨sp 40 0 [(1, .box 1 0), (3, dI s3)], [(1, .cells ((cellsA (TQea.D w1))))], []⟩
def ref22_Small_l1_O (w1 : TQea) (o : Unit ⊕ Unit) : Ex × St := match o with
  | .inl o => (.exit 0, ⟨sp 40 0 [], [], []⟩)
  | .inr o => (.ret, ⟨sp 40 0 [(2, .d (D.b false))], [], []⟩)
theorem ref22_Small_l1_ok (rd : Option Nat) {w1 : TQea} {s3 : Int} {t : Unit ⊕ Unit} (h : ref22_Small_l1 w1 s3 = some t) : LpOfR Tryz.prog rd (fbody Tryz.prog 21) [0, 1, 0, 1, 1] (ref22_Small_l1_I w1 s3) ((ref22_Small_l1_O w1) t) :=
  loopE_lpR (fun s : Int => ref22_Small_l1_I w1 s) (ref22_Small_l1_O w1) (by kernel_rfl) (fun t => isN_ne (by rcases t with (_ | _) <;> rfl)) (fun s3 o h => by
  replace h : ref22_Small_l1_s w1 s3 = some o := h
  unfold ref22_Small_l1_s at h
  apply g0 (o := o)
  refine gN 29 TTrans.D w1.trans ?_
  refine iB 30 h (fun h => ?_) fun h => ?_
  refine xX 36 TTrans.D h fun x1 h => ?_
  refine iB 39 h (fun h => ?_) fun h => ?_
  exact lB h (lv [2] [])
  exact lB h (lv [1,3] [1])
  exact lB h (lv [] [])) (s := s3) (t := t) h
theorem ref22_Small_ok {a0 : TQea} {r : Bool} (h : ref22_Small a0 = some r) : ACall Tryz.prog 21 [.d (TQea.D a0)] [] (.d (D.b r)) [] := by
  unfold ref22_Small at h
  apply g0 (o := r)
  refine gN 6 TFree.D a0.frees ?_
  refine iB 8 h (fun h => ?_) fun h => ?_
  exact lF h []
  refine gN 11 TQuant.D a0.quants ?_
  refine iB 14 h (fun h => ?_) fun h => ?_
  exact lF h []
  refine gN 17 TState.D a0.states ?_
  refine iB 20 h (fun h => ?_) fun h => ?_
  exact lF h []
  refine gN 23 TSymbol.D a0.symbols ?_
  refine iB 25 h (fun h => ?_) fun h => ?_
  exact lF h []
  obtain ⟨o2, h8, h⟩ := bS h
  refine gL (lv [1,3] [1]) (ref22_Small_l1_ok none h8) ?_
  rcases sumE_some h with ⟨o3, rfl, h⟩ | ⟨o4, rfl, h⟩
  exact lF h []
  exact lF h []
def ref05_Right_l1_I (s0 : List TSlot) (s3 : Int) : St := ⟨sp 51 0 [(0, .d ((D.l TSlot.D) s0)), (3, dI s3)], [], []⟩
def ref05_Right_l1_O (s0 : List TSlot) (o : Unit ⊕ Unit) : Ex × St := match o with
  | .inl o => (.exit 0, ⟨sp 51 0 [], [], []⟩)
  | .inr o => (.ret, ⟨sp 51 0 [(2, .d (D.b false))], [], []⟩)
theorem ref05_Right_l1_ok (rd : Option Nat) {s0 : List TSlot} {s3 : Int} {t : Unit ⊕ Unit} (h : ref05_Right_l1 s0 s3 = some t) : LpOfR Tryz.prog rd (fbody Tryz.prog 43) [0, 1, 0, 1] (ref05_Right_l1_I s0 s3) ((ref05_Right_l1_O s0) t) :=
  loopE_lpR (fun s : Int => ref05_Right_l1_I s0 s) (ref05_Right_l1_O s0) (by kernel_rfl) (fun t => isN_ne (by rcases t with (_ | _) <;> rfl)) (fun s3 o h => by
  replace h : ref05_Right_l1_s s0 s3 = some o := h
  unfold ref05_Right_l1_s at h
  apply g0 (o := o)
  refine gN 6 TSlot.D s0 ?_
  refine iB 7 h (fun h => ?_) fun h => ?_
  refine xX 12 TSlot.D h fun x1 h => ?_
  refine iB 16 h (fun h => ?_) fun h => ?_
  exact lB h (lv [2] [])
  refine xX 19 TSlot.D h fun x2 h => ?_
  refine iB 24 h (fun h => ?_) fun h => ?_
  exact lB h (lv [2] [])
  refine xX 27 TSlot.D h fun x3 h => ?_
  obtain ⟨r4, h7, h⟩ := bS h
  refine gC 30 (ref03_Right_ok h7) ?_
  refine iB 33 h (fun h => ?_) fun h => ?_
  exact lB h (lv [2] [])
  refine iB 36 h (fun h => ?_) fun h => ?_
  refine xX 39 TSlot.D h fun x5 h => ?_
  refine xX 45 TSlot.D h fun x6 h => ?_
  refine iB 50 h (fun h => ?_) fun h => ?_
  exact lB h (lv [2] [])
  exact lB h (lv [0,3] [])
  exact lB h (lv [0,3] [])
  exact lB h (lv [] [])) (s := s3) (t := t) h
theorem ref05_Right_ok {a0 : List TSlot} {r : Bool} (h : ref05_Right a0 = some r) : ACall Tryz.prog 43 [.d ((D.l TSlot.D) a0)] [] (.d (D.b r)) [] := by
  unfold ref05_Right at h
  apply g0 (o := r)
  obtain ⟨o7, h13, h⟩ := bS h
  refine gL (lv [0,3] []) (ref05_Right_l1_ok none h13) ?_
  rcases sumE_some h with ⟨o8, rfl, h⟩ | ⟨o9, rfl, h⟩
  exact lF h []
  exact lF h []
theorem ref22_Fits_ok {a0 : TQea} {a1 : List TSlot} {r : Bool} (h : ref22_Fits a0 a1 = some r) : ACall Tryz.prog 22 [.d (TQea.D a0), .d ((D.l TSlot.D) a1)] [] (.d (D.b r)) [] := by
  unfold ref22_Fits at h
  apply g0 (o := r)
  refine gN 6 TSlot.D a1 ?_
  refine iB 7 h (fun h => ?_) fun h => ?_
  exact lF h []
  refine gN 9 TSlot.D a1 ?_
  refine iB 11 h (fun h => ?_) fun h => ?_
  refine gN 14 TQuant.D a0.quants ?_
  refine iB 17 h (fun h => ?_) fun h => ?_
  refine xX 19 TSlot.D h fun x1 h => ?_
  refine iB 24 h (fun h => ?_) fun h => ?_
  refine xX 26 TSlot.D h fun x2 h => ?_
  refine xX 32 TQuant.D h fun x3 h => ?_
  refine iB 37 h (fun h => ?_) fun h => ?_
  obtain ⟨r4, h9, h⟩ := bS h
  refine gC 39 (ref05_Right_ok h9) ?_
  exact lF h []
  exact lF h []
  exact lF h []
  exact lF h []
  exact lF h []
def law22_small_l1_I (s1 : List TSlot) (w2 : TQea) (s5 : Int) : St := ⟨sp 60 0 [(1, .d ((D.l TSlot.D) s1)), (2, .box 2 0), (5, dI s5)], [(2, .cells ((cellsA (TQea.D w2))))], []⟩
def law22_small_l1_O (s1 : List TSlot) (w2 : TQea) (o : Unit ⊕ Unit) : Ex × St := match o with
  | .inl o => (.exit 0, ⟨sp 60 0 [(1, .d ((D.l TSlot.D) s1))], [], []⟩)
  | .inr o => (.ret, ⟨sp 60 0 [(4, .d (D.b false))], [], []⟩)
theorem law22_small_l1_ok (rd : Option Nat) {s1 : List TSlot} {w2 : TQea} {s5 : Int} {t : Unit ⊕ Unit} (h : law22_small_l1 s1 w2 s5 = some t) : LpOfR Tryz.prog rd (fbody Tryz.prog 5) [0, 1, 0, 1, 1] (law22_small_l1_I s1 w2 s5) ((law22_small_l1_O s1 w2) t) :=
  loopE_lpR (fun s : Int => law22_small_l1_I s1 w2 s) (law22_small_l1_O s1 w2) (by kernel_rfl) (fun t => isN_ne (by rcases t with (_ | _) <;> rfl)) (fun s5 o h => by
  replace h : law22_small_l1_s s1 w2 s5 = some o := h
  unfold law22_small_l1_s at h
  apply g0 (o := o)
  refine gN 36 TDecl.D w2.decls ?_
  refine iB 37 h (fun h => ?_) fun h => ?_
  refine xX 43 TDecl.D h fun x5 h => ?_
  refine gN 46 (D.i .i64) x5.types ?_
  refine iB 47 h (fun h => ?_) fun h => ?_
  exact lB h (lv [4] [])
  exact lB h (lv [1,2,5] [2])
  exact lB h (lv [1] [])) (s := s5) (t := t) h
theorem law22_small_ok {a0 : TQea} {a1 : List TSlot} {r : Bool} (h : law22_small a0 a1 = some r) : ACall Tryz.prog 5 [.d (TQea.D a0), .d ((D.l TSlot.D) a1)] [] (.d (D.b r)) [] := by
  unfold law22_small at h
  apply g0 (o := r)
  obtain ⟨r1, h1, h⟩ := bS h
  refine gC 7 (ref13_Few_ok h1) ?_
  refine iB 9 h (fun h => ?_) fun h => ?_
  exact lF h []
  obtain ⟨r2, h3, h⟩ := bS h
  refine gC 11 (ref13_Right_ok h3) ?_
  refine iB 14 h (fun h => ?_) fun h => ?_
  exact lF h []
  obtain ⟨r3, h5, h⟩ := bS h
  refine gC 16 (ref22_Small_ok h5) ?_
  refine iB 19 h (fun h => ?_) fun h => ?_
  exact lF h []
  obtain ⟨r4, h7, h⟩ := bS h
  refine gC 22 (ref22_Fits_ok h7) ?_
  refine iB 25 h (fun h => ?_) fun h => ?_
  exact lF h []
  refine gN 27 TSlot.D a1 <| gN 30 TQuant.D a0.quants ?_
  refine iB 32 h (fun h => ?_) fun h => ?_
  exact lF h []
  obtain ⟨o6, h13, h⟩ := bS h
  refine gL (lv [1,2,5] [2]) (law22_small_l1_ok none h13) ?_
  rcases sumE_some h with ⟨o7, rfl, h⟩ | ⟨o8, rfl, h⟩
  refine gN 49 TSlot.D a1 ?_
  refine iB 51 h (fun h => ?_) fun h => ?_
  exact lF h []
  refine xX 53 TSlot.D h fun x9 h => ?_
  refine gG 57 (.int (x9.value.str.length : Int)) (len_str x9.value.str) ?_
  exact lF h []
  exact lF h []
theorem law22_number_ok {a0 : Int} {r : TValue} (h : law22_number a0 = some r) : ACall Tryz.prog 25 [dI a0] [] (.d (TValue.D r)) [] := by
  unfold law22_number at h
  apply g0 (o := r)
  exact lF h []
def joint_own_b3_I (s1 : Int) (s5 : Int) (s6 : Int) (s9 : List TSymbol) (s10 : Int) (s11 : Int) (s19 : Bool) : St := ⟨sp 27 0 [(1, dI s1), (5, .d ((D.i .u64) s5)), (6, dI s6), (9, .d ((D.l TSymbol.D) s9)), (10, dI s10), (11, dI s11), (19, .d (D.b s19))], [], []⟩
def joint_own_b3_O (s1 : Int) (s5 : Int) (s6 : Int) (s9 : List TSymbol) (s10 : Int) (s11 : Int) (s19 : Bool) (o : Int) : Ex × St := (.normal, ⟨sp 27 0 [(1, dI s1), (5, .d ((D.i .u64) o)), (9, .d ((D.l TSymbol.D) s9)), (10, dI s10), (11, dI s11)], [], []⟩)
theorem joint_own_b3_ok (rd : Option Nat) {s1 : Int} {s5 : Int} {s6 : Int} {s9 : List TSymbol} {s10 : Int} {s11 : Int} {s19 : Bool} {o : Int} (h : joint_own_b3 s1 s5 s6 s9 s10 s11 s19 = some o) : LpOfR Tryz.prog rd (fbody Tryz.prog 34) [1, 1, 0, 0, 1, 1, 0, 0, 1, 0, 1, 1] (joint_own_b3_I s1 s5 s6 s9 s10 s11 s19) (joint_own_b3_O s1 s5 s6 s9 s10 s11 s19 o) := by
  unfold joint_own_b3 at h
  apply g0 (o := o)
  cases s19
  replace h := iteF h
  exact lP h (lv [1,5,9,10,11] [])
  replace h := iteT h
  obtain ⟨h4, h⟩ := cS h
  refine gQ h4 ?_
  exact lP h (lv [1,5,9,10,11] [])
def joint_own_b2_I (s1 : Int) (s5 : Int) (s9 : List TSymbol) (s10 : Int) (s11 : Int) : St := ⟨sp 27 0 [(1, dI s1), (5, .d ((D.i .u64) s5)), (9, .d ((D.l TSymbol.D) s9)), (10, dI s10), (11, dI s11)], [], []⟩
def joint_own_b2_O (s1 : Int) (s5 : Int) (s9 : List TSymbol) (s10 : Int) (s11 : Int) (o : Int) : Ex × St := (.normal, ⟨sp 27 0 [(1, dI s1), (5, .d ((D.i .u64) o)), (9, .d ((D.l TSymbol.D) s9)), (10, dI s10), (11, dI s11)], [], []⟩)
theorem joint_own_b2_ok (rd : Option Nat) {s1 : Int} {s5 : Int} {s9 : List TSymbol} {s10 : Int} {s11 : Int} {o : Int} (h : joint_own_b2 s1 s5 s9 s10 s11 = some o) : LpOfR Tryz.prog rd (fbody Tryz.prog 34) [0, 1, 1, 0, 0, 1, 0, 1, 1] (joint_own_b2_I s1 s5 s9 s10 s11) (joint_own_b2_O s1 s5 s9 s10 s11 o) := by
  unfold joint_own_b2 at h
  apply g0 (o := o)
  refine xX 14 TSymbol.D h fun x1 h => ?_
  obtain ⟨o2, h5, h⟩ := bS h
  refine gL (lv [1,5,6,9,10,11,19] []) (joint_own_b3_ok rd h5) ?_
  exact lP h (lv [1,5,9,10,11] [])
def joint_own_l1_I (s1 : Int) (s9 : List TSymbol) (s10 : Int) (s5 : Int) (s11 : Int) : St := ⟨sp 27 0 [(1, dI s1), (5, .d ((D.i .u64) s5)), (9, .d ((D.l TSymbol.D) s9)), (10, dI s10), (11, dI s11)], [], []⟩
def joint_own_l1_O (s1 : Int) (s9 : List TSymbol) (s10 : Int) (o : Int) : Ex × St := (.exit 0, ⟨sp 27 0 [(5, .d ((D.i .u64) o))], [], []⟩)
theorem joint_own_l1_ok (rd : Option Nat) {s1 : Int} {s9 : List TSymbol} {s10 : Int} {s5 : Int} {s11 : Int} {t : Int} (h : joint_own_l1 s1 s9 s10 s5 s11 = some t) : LpOfR Tryz.prog rd (fbody Tryz.prog 34) [0, 1, 0, 1, 1] (joint_own_l1_I s1 s9 s10 s5 s11) ((joint_own_l1_O s1 s9 s10) t) :=
  loopE_lpR (fun s : Int × Int => joint_own_l1_I s1 s9 s10 s.1 s.2) (joint_own_l1_O s1 s9 s10) (by kernel_rfl) (fun t => isN_ne (by rfl)) (fun ⟨s5, s11⟩ o h => by
  replace h : joint_own_l1_s s1 s9 s10 s5 s11 = some o := h
  unfold joint_own_l1_s at h
  apply g0 (o := o)
  refine iB 12 h (fun h => ?_) fun h => ?_
  obtain ⟨o3, h6, h⟩ := bS h
  refine gL (lv [1,5,9,10,11] []) (joint_own_b2_ok rd h6) ?_
  exact lB h (lv [1,5,9,10,11] [])
  exact lB h (lv [5] [])) (s := (s5, s11)) (t := t) h
theorem joint_own_ok {a0 : TQea} {a1 : Int} {r : Int} (h : joint_own a0 a1 = some r) : ACall Tryz.prog 34 [.d (TQea.D a0), dI a1] [] (.d ((D.i .u64) r)) [] := by
  unfold joint_own at h
  apply g0 (o := r)
  refine gN 10 TSymbol.D a0.symbols ?_
  obtain ⟨o4, h7, h⟩ := bS h
  refine gL (lv [1,5,9,10,11] []) (joint_own_l1_ok none h7) ?_
  exact lF h []
theorem domain_NewSet_Value_v2_ok {r : Unit} (h : domain_NewSet_Value_v2 = some r) : ACall Tryz.prog 109 [.clo (.func 110) [] []] [] (.box 0 0) [(0, .cells ([.nil, .clo (.func 110) [] []]))] := by
  unfold domain_NewSet_Value_v2 at h
  refine XG.call (ks := []) mixed fun us => ?_
  apply g0 (o := r)
  exact lX h [.live [2], .keep [5,997], .ren 5 0, .sort]
theorem value_Bool_ok {a0 : Bool} {r : TValue} (h : value_Bool a0 = some r) : ACall Tryz.prog 112 [.d (D.b a0)] [] (.d (TValue.D r)) [] := by
  unfold value_Bool at h
  apply g0 (o := r)
  exact lF h []
theorem value_Less_ok {a0 : TValue} {a1 : TValue} {r : Bool} (h : value_Less a0 a1 = some r) : ACall Tryz.prog 110 [.d (TValue.D a0), .d (TValue.D a1)] [] (.d (D.b r)) [] := by
  unfold value_Less at h
  apply g0 (o := r)
  refine iB 5 h (fun h => ?_) fun h => ?_
  exact lF h []
  refine iB 16 h (fun h => ?_) fun h => ?_
  exact lF h []
  refine iB 25 h (fun h => ?_) fun h => ?_
  exact lF h []
  refine iB 37 h (fun h => ?_) fun h => ?_
  exact lF h []
  exact lF h []
theorem domain_Set_Value_Put_1_ok {a0 : TValue} {a1 : TValue} {a2 : List TValue} {r : Int} (h : domain_Set_Value_Put_1 a0 a1 a2 = some r) : ACall Tryz.prog 132 [.d (TValue.D a0), .d (TValue.D a1), .eptr [.ptr ((D.cells ((D.l TValue.D) a2)) ++ [.v (.func (.func 110) #[] #[])])]] [] (dI r) [] := by
  unfold domain_Set_Value_Put_1 at h
  apply g0 (o := r)
  obtain ⟨r1, h1, h⟩ := bS h
  refine gQ (value_Less_ok h1) ?_
  cases r1
  replace h := iteF h
  refine gW 13 (.ret (.d (D.b false))) ?_
  obtain ⟨r2, h3, h⟩ := bS h
  refine gQ (value_Less_ok h3) ?_
  cases r2
  replace h := iteF h
  refine gW 21 (.ret (.d (D.b false))) ?_
  exact lF h []
  replace h := iteT h
  refine gW 21 (.ret (.d (D.b true))) ?_
  exact lF h []
  replace h := iteT h
  refine gW 13 (.ret (.d (D.b true))) ?_
  exact lF h []
def slices_BinarySearchFunc_Value_Value_Value_b3_I (s0 : List TValue) (s2 : List TValue) (s8 : Int) (s9 : Int) (s10 : Int) (s11 : Int) (s31 : Bool) (w4 : TValue) : St := ⟨sp 49 0 [(0, .d ((D.l TValue.D) s0)), (2, .clo (.func 132) [] [.eptr [.ptr ((D.cells ((D.l TValue.D) s2)) ++ [.v (.func (.func 110) #[] #[])])]]), (4, .box 4 0), (8, dI s8), (9, dI s9), (10, dI s10), (11, dI s11), (31, .d (D.b s31))], [(4, .cells ((cellsA (TValue.D w4))))], []⟩
def slices_BinarySearchFunc_Value_Value_Value_b3_O (s0 : List TValue) (s2 : List TValue) (s8 : Int) (s9 : Int) (s10 : Int) (s11 : Int) (s31 : Bool) (w4 : TValue) (o : (Int × Int)) : Ex × St := (.normal, ⟨sp 49 0 [(0, .d ((D.l TValue.D) s0)), (2, .clo (.func 132) [] [.eptr [.ptr ((D.cells ((D.l TValue.D) s2)) ++ [.v (.func (.func 110) #[] #[])])]]), (4, .box 4 0), (8, dI s8), (9, dI o.1), (10, dI o.2)], [(4, .cells ((cellsA (TValue.D w4))))], []⟩)
theorem slices_BinarySearchFunc_Value_Value_Value_b3_ok (rd : Option Nat) {s0 : List TValue} {s2 : List TValue} {s8 : Int} {s9 : Int} {s10 : Int} {s11 : Int} {s31 : Bool} {w4 : TValue} {o : (Int × Int)} (h : slices_BinarySearchFunc_Value_Value_Value_b3 s0 s2 s8 s9 s10 s11 s31 w4 = some o) : LpOfR Tryz.prog rd (fbody Tryz.prog 131) [1, 1, 0, 1, 0, 0, 0, 1, 1, 1] (slices_BinarySearchFunc_Value_Value_Value_b3_I s0 s2 s8 s9 s10 s11 s31 w4) (slices_BinarySearchFunc_Value_Value_Value_b3_O s0 s2 s8 s9 s10 s11 s31 w4 o) := by
  unfold slices_BinarySearchFunc_Value_Value_Value_b3 at h
  apply g0 (o := o)
  cases s31
  replace h := iteF h
  exact lP h (lv [0,2,4,8,9,10] [4])
  replace h := iteT h
  exact lP h (lv [0,2,4,8,9,10] [4])
def slices_BinarySearchFunc_Value_Value_Value_b2_I (s0 : List TValue) (s2 : List TValue) (s8 : Int) (s9 : Int) (s10 : Int) (w4 : TValue) : St := ⟨sp 49 0 [(0, .d ((D.l TValue.D) s0)), (2, .clo (.func 132) [] [.eptr [.ptr ((D.cells ((D.l TValue.D) s2)) ++ [.v (.func (.func 110) #[] #[])])]]), (4, .box 4 0), (8, dI s8), (9, dI s9), (10, dI s10)], [(4, .cells ((cellsA (TValue.D w4))))], []⟩
def slices_BinarySearchFunc_Value_Value_Value_b2_O (s0 : List TValue) (s2 : List TValue) (s8 : Int) (s9 : Int) (s10 : Int) (w4 : TValue) (o : (Int × Int)) : Ex × St := (.normal, ⟨sp 49 0 [(0, .d ((D.l TValue.D) s0)), (2, .clo (.func 132) [] [.eptr [.ptr ((D.cells ((D.l TValue.D) s2)) ++ [.v (.func (.func 110) #[] #[])])]]), (4, .box 4 0), (8, dI s8), (9, dI o.1), (10, dI o.2)], [(4, .cells ((cellsA (TValue.D w4))))], []⟩)
theorem slices_BinarySearchFunc_Value_Value_Value_b2_ok (rd : Option Nat) {s0 : List TValue} {s2 : List TValue} {s8 : Int} {s9 : Int} {s10 : Int} {w4 : TValue} {o : (Int × Int)} (h : slices_BinarySearchFunc_Value_Value_Value_b2 s0 s2 s8 s9 s10 w4 = some o) : LpOfR Tryz.prog rd (fbody Tryz.prog 131) [1, 0, 0, 0, 1, 1, 1] (slices_BinarySearchFunc_Value_Value_Value_b2_I s0 s2 s8 s9 s10 w4) (slices_BinarySearchFunc_Value_Value_Value_b2_O s0 s2 s8 s9 s10 w4 o) := by
  unfold slices_BinarySearchFunc_Value_Value_Value_b2 at h
  apply g0 (o := o)
  refine gQ (of_decide_eq_true rfl : (0 : Int) ≤ 1) <| xX 27 TValue.D h fun x1 h => ?_
  obtain ⟨r2, h3, h⟩ := bS h
  refine gC 30 (domain_Set_Value_Put_1_ok h3) ?_
  obtain ⟨o3, h5, h⟩ := bS h
  refine gL (lv [0,2,4,8,9,10,11,31] [4]) (slices_BinarySearchFunc_Value_Value_Value_b3_ok rd h5) ?_
  exact lP h (lv [0,2,4,8,9,10] [4])
def slices_BinarySearchFunc_Value_Value_Value_l1_I (s0 : List TValue) (s2 : List TValue) (s8 : Int) (w4 : TValue) (s9 : Int) (s10 : Int) : St := ⟨sp 49 0 [(0, .d ((D.l TValue.D) s0)), (2, .clo (.func 132) [] [.eptr [.ptr ((D.cells ((D.l TValue.D) s2)) ++ [.v (.func (.func 110) #[] #[])])]]), (4, .box 4 0), (8, dI s8), (9, dI s9), (10, dI s10)], [(4, .cells ((cellsA (TValue.D w4))))], []⟩
def slices_BinarySearchFunc_Value_Value_Value_l1_O (s0 : List TValue) (s2 : List TValue) (s8 : Int) (w4 : TValue) (o : Int) : Ex × St := (.exit 0, ⟨sp 49 0 [(0, .d ((D.l TValue.D) s0)), (2, .clo (.func 132) [] [.eptr [.ptr ((D.cells ((D.l TValue.D) s2)) ++ [.v (.func (.func 110) #[] #[])])]]), (4, .box 4 0), (8, dI s8), (9, dI o)], [(4, .cells ((cellsA (TValue.D w4))))], []⟩)
theorem slices_BinarySearchFunc_Value_Value_Value_l1_ok (rd : Option Nat) {s0 : List TValue} {s2 : List TValue} {s8 : Int} {w4 : TValue} {s9 : Int} {s10 : Int} {t : Int} (h : slices_BinarySearchFunc_Value_Value_Value_l1 s0 s2 s8 w4 s9 s10 = some t) : LpOfR Tryz.prog rd (fbody Tryz.prog 131) [0, 0, 1, 1, 1] (slices_BinarySearchFunc_Value_Value_Value_l1_I s0 s2 s8 w4 s9 s10) ((slices_BinarySearchFunc_Value_Value_Value_l1_O s0 s2 s8 w4) t) :=
  loopE_lpR (fun s : Int × Int => slices_BinarySearchFunc_Value_Value_Value_l1_I s0 s2 s8 w4 s.1 s.2) (slices_BinarySearchFunc_Value_Value_Value_l1_O s0 s2 s8 w4) (by kernel_rfl) (fun t => isN_ne (by rfl)) (fun ⟨s9, s10⟩ o h => by
  replace h : slices_BinarySearchFunc_Value_Value_Value_l1_s s0 s2 s8 w4 s9 s10 = some o := h
  unfold slices_BinarySearchFunc_Value_Value_Value_l1_s at h
  apply g0 (o := o)
  refine iB 17 h (fun h => ?_) fun h => ?_
  obtain ⟨o4, h6, h⟩ := bS h
  refine gL (lv [0,2,4,8,9,10] [4]) (slices_BinarySearchFunc_Value_Value_Value_b2_ok rd h6) ?_
  exact lB h (lv [0,2,4,8,9,10] [4])
  exact lB h (lv [0,2,4,8,9] [4])) (s := (s9, s10)) (t := t) h
theorem slices_BinarySearchFunc_Value_Value_Value_ok {a0 : List TValue} {a1 : TValue} {a2 : List TValue} {r : Int × Bool} (h : slices_BinarySearchFunc_Value_Value_Value a0 a1 a2 = some r) : ACall Tryz.prog 131 [.d ((D.l TValue.D) a0), .d (TValue.D a1), .clo (.func 132) [] [.eptr [.ptr ((D.cells ((D.l TValue.D) a2)) ++ [.v (.func (.func 110) #[] #[])])]]] [] (.tup [dI r.1, .d (D.b r.2)]) [] := by
  unfold slices_BinarySearchFunc_Value_Value_Value at h
  apply g0 (o := r)
  refine gN 13 TValue.D a0 ?_
  obtain ⟨o5, h7, h⟩ := bS h
  refine gL (lv [0,2,4,8,9,10] [4]) (slices_BinarySearchFunc_Value_Value_Value_l1_ok none h7) ?_
  refine iB 39 h (fun h => ?_) fun h => ?_
  refine xX 43 TValue.D h fun x6 h => ?_
  obtain ⟨r7, h10, h⟩ := bS h
  refine gC 46 (domain_Set_Value_Put_1_ok h10) ?_
  exact lF h []
  exact lF h []
theorem slices_Insert_Value_Value_ok {i : Int} {ys r : List TValue} (h : slices_Insert_Value_Value i ys = some r) : ACall Tryz.prog 133 [.nil, .d (D.i .i64 i), .row 0] [(0, .row 54 4 (ys.map TValue.D))] (.row 1) [(1, .rw 54 4 (r.map TValue.D))] :=
  insN_ok (ρ := ⟨fun n => if n = 22 then 133 else if n = 29 then 143 else 144, fun n => if n = 0 then 0 else if n = 3 then 3 else if n = 4 then 4 else if n = 24 then 34 else 54, id⟩) (by_ := 40) TValue.D mixed rfl ⟨ "slices.Insert[[]proctor/api.Value,proctor/api.Value]", by decide, (Tryz.func133).trans (by kernel_rfl)⟩ Tryz.underlying3 Tryz.underlying4 Tryz.underlying34 (by kernel_rfl) (by decide) i ys r h
def domain_Set_Value_Put_v2_b1_I (us : List Value) (s5 : Int) (s6 : Bool) (s20 : Bool) (w3 : TValue) : St := ⟨sp 34 0 [(2, .box 2 0), (3, .box 3 0), (5, dI s5), (6, .d (D.b s6)), (20, .d (D.b s20))], [(0, .cells ([.nil, .clo (.func 110) [] []])), (2, .cells ([.box 0 0])), (3, .cells ((cellsA (TValue.D w3)))), (997, .vals [.box 0 0] us)], []⟩
def domain_Set_Value_Put_v2_b1_O (us : List Value) (s5 : Int) (s6 : Bool) (s20 : Bool) (w3 : TValue) (o : (List TValue)) : Ex × St := (.normal, ⟨sp 34 0 [(6, .d (D.b s6))], [(0, .cells ([.row 529, .clo (.func 110) [] []])), (529, .rw 54 4 (o.map TValue.D)), (997, .vals [.box 0 0] us)], []⟩)
theorem domain_Set_Value_Put_v2_b1_ok (rd : Option Nat) (us : List Value) {s5 : Int} {s6 : Bool} {s20 : Bool} {w3 : TValue} {o : (List TValue)} (h : domain_Set_Value_Put_v2_b1 s5 s6 s20 w3 = some o) : LpOfR Tryz.prog rd (fbody Tryz.prog 111) [1, 0, 1, 1, 1] (domain_Set_Value_Put_v2_b1_I us s5 s6 s20 w3) (domain_Set_Value_Put_v2_b1_O us s5 s6 s20 w3 o) := by
  unfold domain_Set_Value_Put_v2_b1 at h
  apply g0 (o := o)
  cases s20
  replace h := iteF h
  exact lP h [.live [6], .keep [0,997], .nilc 0 0 529 54 4, .sort]
  replace h := iteT h
  refine gQ (nc_ok TValue.D [w3]) ?_
  obtain ⟨r2, h3, h⟩ := bS h
  refine gG 29 (.cx true [(0,28)] [(1,29)] (.row 1) [(1, .rw 54 4 (r2.map TValue.D))]) (slices_Insert_Value_Value_ok h3) ?_
  exact lP h [.live [6], .keep [0,29,997], .ren 29 529, .sort]
theorem domain_Set_Value_Put_v2_ok {a1 : TValue} {r : Bool × List TValue} (h : domain_Set_Value_Put_v2 a1 = some r) : ACall Tryz.prog 111 [.box 0 0, .d (TValue.D a1)] [(0, .cells ([.nil, .clo (.func 110) [] []]))] (.d (D.b r.1)) [(0, .cells ([.row 1, .clo (.func 110) [] []])), (1, .rw 54 4 (r.2.map TValue.D))] := by
  unfold domain_Set_Value_Put_v2 at h
  refine XG.call (ks := [0]) mixed fun us => ?_
  apply g0 (o := r)
  obtain ⟨r1, h1, h⟩ := bS h
  refine gG 16 (.lend [0,2] (.tup [dI r1.1, .d (D.b r1.2)])) (slices_BinarySearchFunc_Value_Value_Value_ok h1) ?_
  obtain ⟨o3, h4, h⟩ := bS h
  refine gL (lv [2,3,5,6,20] [0,2,3,997]) (domain_Set_Value_Put_v2_b1_ok none us h4) ?_
  exact lX h [.live [4], .keep [0,529,997], .ren 529 1, .sort]
theorem slices_Insert_Value_Value_v2_ok {i : Int} {xs ys r : List TValue} (h : slices_Insert_Value_Value_v2 i xs ys = some r) : ACall Tryz.prog 133 [.row 0, .d (D.i .i64 i), .row 1] [(0, .rw 54 4 (xs.map TValue.D)), (1, .row 54 4 (ys.map TValue.D))] (.row 2) [(2, .rw 54 4 (r.map TValue.D))] :=
  insE_ok (ρ := ⟨fun n => if n = 22 then 133 else if n = 29 then 143 else 144, fun n => if n = 0 then 0 else if n = 3 then 3 else if n = 4 then 4 else if n = 24 then 34 else 54, id⟩) (by_ := 40) TValue.D mixed rfl ⟨ "slices.Insert[[]proctor/api.Value,proctor/api.Value]", by decide, (Tryz.func133).trans (by kernel_rfl)⟩ Tryz.underlying3 Tryz.underlying4 Tryz.underlying34 (by kernel_rfl) (by decide) (by decide)
    (fun args w => run_callFunc_extern Tryz.func143 (by kernel_rfl) (by kernel_rfl) (by kernel_rfl) (e := Go.Extern.SlicesOverlaps.overlaps #[34, 34] #[4]) (by kernel_rfl) args w) i xs ys r h
def domain_Set_Value_Put_v3_b1_I (us : List Value) (s5 : Int) (s6 : Bool) (s20 : Bool) (w3 : TValue) (w501 : List TValue) : St := ⟨sp 34 0 [(2, .box 2 0), (3, .box 3 0), (5, dI s5), (6, .d (D.b s6)), (20, .d (D.b s20))], [(0, .cells ([.row 501, .clo (.func 110) [] []])), (2, .cells ([.box 0 0])), (3, .cells ((cellsA (TValue.D w3)))), (501, .rw 54 4 (w501.map TValue.D)), (997, .vals [.box 0 0] us)], []⟩
def domain_Set_Value_Put_v3_b1_O (us : List Value) (s5 : Int) (s6 : Bool) (s20 : Bool) (w3 : TValue) (w501 : List TValue) (o : (List TValue)) : Ex × St := (.normal, ⟨sp 34 0 [(6, .d (D.b s6))], [(0, .cells ([.row 529, .clo (.func 110) [] []])), (529, .rw 54 4 (o.map TValue.D)), (997, .vals [.box 0 0] us)], []⟩)
theorem domain_Set_Value_Put_v3_b1_ok (rd : Option Nat) (us : List Value) {s5 : Int} {s6 : Bool} {s20 : Bool} {w3 : TValue} {w501 : List TValue} {o : (List TValue)} (h : domain_Set_Value_Put_v3_b1 s5 s6 s20 w3 w501 = some o) : LpOfR Tryz.prog rd (fbody Tryz.prog 111) [1, 0, 1, 1, 1] (domain_Set_Value_Put_v3_b1_I us s5 s6 s20 w3 w501) (domain_Set_Value_Put_v3_b1_O us s5 s6 s20 w3 w501 o) := by
  unfold domain_Set_Value_Put_v3_b1 at h
  apply g0 (o := o)
  cases s20
  replace h := iteF h
  exact lP h [.live [6], .keep [0,501,997], .ren 501 529, .sort]
  replace h := iteT h
  refine gQ (nc_ok TValue.D [w3]) ?_
  obtain ⟨r2, h3, h⟩ := bS h
  refine gG 29 (.cx true [(0,501), (1,28)] [(2,29)] (.row 2) [(2, .rw 54 4 (r2.map TValue.D))]) (slices_Insert_Value_Value_v2_ok h3) ?_
  exact lP h [.live [6], .keep [0,29,997], .ren 29 529, .sort]
theorem domain_Set_Value_Put_v3_ok {a1 : TValue} {w1 : List TValue} {r : Bool × List TValue} (h : domain_Set_Value_Put_v3 a1 w1 = some r) : ACall Tryz.prog 111 [.box 0 0, .d (TValue.D a1)] [(0, .cells ([.row 1, .clo (.func 110) [] []])), (1, .rw 54 4 (w1.map TValue.D))] (.d (D.b r.1)) [(0, .cells ([.row 2, .clo (.func 110) [] []])), (2, .rw 54 4 (r.2.map TValue.D))] := by
  unfold domain_Set_Value_Put_v3 at h
  refine XG.call (ks := [0]) mixed fun us => ?_
  apply g0 (o := r)
  obtain ⟨r1, h1, h⟩ := bS h
  refine gG 16 (.lend [0,1,2] (.tup [dI r1.1, .d (D.b r1.2)])) (slices_BinarySearchFunc_Value_Value_Value_ok h1) ?_
  obtain ⟨o3, h4, h⟩ := bS h
  refine gL [.live [2,3,5,6,20], .keep [0,1,2,3,997], .ren 1 501, .sort] (domain_Set_Value_Put_v3_b1_ok none us h4) ?_
  exact lX h [.live [4], .keep [0,529,997], .ren 529 2, .sort]
theorem slices_Clone_Value_Value_ok {l r : List TValue} (h : slices_Clone_Value_Value l = some r) : ACall Tryz.prog 134 [.row 0] [(0, .rw 54 4 (l.map TValue.D))] (.row 1) [(0, .rw 54 4 (l.map TValue.D)), (1, .rw 54 4 (r.map TValue.D))] :=
  cloneE_ko (ρ := ⟨fun _ => 134, fun n => if n = 4 then 4 else if n = 22 then 34 else 54, id⟩) (by_ := 40) TValue.D rfl rfl (cloneL mixed ⟨ "slices.Clone[[]proctor/api.Value,proctor/api.Value]", by decide, (Tryz.func134).trans (by kernel_rfl)⟩ Tryz.underlying4 Tryz.underlying34 (by kernel_rfl) (by kernel_rfl) (by kernel_rfl) (by kernel_rfl)) (by kernel_rfl) (by decide) l r h
theorem domain_Set_Value_All_ok {w1 : List TValue} {r : List TValue × List TValue} (h : domain_Set_Value_All w1 = some r) : ACall Tryz.prog 113 [.box 0 0] [(0, .cells ([.row 1, .clo (.func 110) [] []])), (1, .rw 54 4 (w1.map TValue.D))] (.row 2) [(0, .cells ([.row 3, .clo (.func 110) [] []])), (2, .rw 54 4 (r.1.map TValue.D)), (3, .rw 54 4 (r.2.map TValue.D))] := by
  unfold domain_Set_Value_All at h
  refine XG.call (ks := [0]) mixed fun us => ?_
  apply g0 (o := r)
  obtain ⟨r1, h1, h⟩ := bS h
  refine gG 9 (.cx true [(0,1)] [(1,9)] (.row 1) [(0, .rw 54 4 (w1.map TValue.D)), (1, .rw 54 4 (r1.map TValue.D))]) (slices_Clone_Value_Value_ok h1) ?_
  exact lX h [.live [2], .keep [0,1,9,997], .ren 1 3, .ren 9 2, .sort]
def joint_Consts_b1_I (us : List Value) (s1 : Int) (s12 : Bool) (w2 : TQea) : St := ⟨sp 51 0 [(1, dI s1), (2, .box 2 0), (5, .box 5 0), (12, .d (D.b s12))], [(2, .cells ((cellsA (TQea.D w2)))), (5, .cells ([.nil, .clo (.func 110) [] []])), (997, .vals [] us)], []⟩
def joint_Consts_b1_O (us : List Value) (s1 : Int) (s12 : Bool) (w2 : TQea) (o : (List TValue)) : Ex × St := (.normal, ⟨sp 51 0 [(1, dI s1), (2, .box 2 0), (5, .box 5 0)], [(2, .cells ((cellsA (TQea.D w2)))), (5, .cells ([.row 518, .clo (.func 110) [] []])), (518, .rw 54 4 (o.map TValue.D)), (997, .vals [] us)], []⟩)
theorem joint_Consts_b1_ok (rd : Option Nat) (us : List Value) {s1 : Int} {s12 : Bool} {w2 : TQea} {o : (List TValue)} (h : joint_Consts_b1 s1 s12 w2 = some o) : LpOfR Tryz.prog rd (fbody Tryz.prog 80) [1, 0, 1, 1] (joint_Consts_b1_I us s1 s12 w2) (joint_Consts_b1_O us s1 s12 w2 o) := by
  unfold joint_Consts_b1 at h
  apply g0 (o := o)
  cases s12
  replace h := iteF h
  exact lP h [.live [1,2,5], .keep [2,5,997], .nilc 5 0 518 54 4, .sort]
  replace h := iteT h
  obtain ⟨r2, h3, h⟩ := bS h
  refine gC 14 (value_Bool_ok h3) ?_
  obtain ⟨r3, h4, h⟩ := bS h
  refine gG 15 (.cx false [(0,5)] [(1,15)] (.d (D.b r3.1)) [(0, .cells ([.row 1, .clo (.func 110) [] []])), (1, .rw 54 4 (r3.2.map TValue.D))]) (domain_Set_Value_Put_v2_ok h4) ?_
  obtain ⟨r4, h5, h⟩ := bS h
  refine gC 17 (value_Bool_ok h5) ?_
  obtain ⟨r5, h6, h⟩ := bS h
  refine gG 18 (.cx false [(0,5), (1,15)] [(2,18)] (.d (D.b r5.1)) [(0, .cells ([.row 2, .clo (.func 110) [] []])), (2, .rw 54 4 (r5.2.map TValue.D))]) (domain_Set_Value_Put_v3_ok h6) ?_
  exact lP h [.live [1,2,5], .keep [2,5,18,997], .ren 18 518, .sort]
def joint_Consts_b5_I (us : List Value) (s1 : Int) (s20 : List TSymbol) (s21 : Int) (s22 : Int) (s27 : List TArg) (s28 : Int) (s29 : Int) (s42 : Bool) (w9 : TArg) (w518 : List TValue) : St := ⟨sp 51 0 [(1, dI s1), (5, .box 5 0), (9, .box 9 0), (20, .d ((D.l TSymbol.D) s20)), (21, dI s21), (22, dI s22), (27, .d ((D.l TArg.D) s27)), (28, dI s28), (29, dI s29), (42, .d (D.b s42))], [(5, .cells ([.row 518, .clo (.func 110) [] []])), (9, .cells ((cellsA (TArg.D w9)))), (518, .rw 54 4 (w518.map TValue.D)), (997, .vals [] us)], []⟩
def joint_Consts_b5_O (us : List Value) (s1 : Int) (s20 : List TSymbol) (s21 : Int) (s22 : Int) (s27 : List TArg) (s28 : Int) (s29 : Int) (s42 : Bool) (w9 : TArg) (w518 : List TValue) (o : (List TValue)) : Ex × St := (.normal, ⟨sp 51 0 [(1, dI s1), (5, .box 5 0), (20, .d ((D.l TSymbol.D) s20)), (21, dI s21), (22, dI s22), (27, .d ((D.l TArg.D) s27)), (28, dI s28), (29, dI s29)], [(5, .cells ([.row 546, .clo (.func 110) [] []])), (546, .rw 54 4 (o.map TValue.D)), (997, .vals [] us)], []⟩)
theorem joint_Consts_b5_ok (rd : Option Nat) (us : List Value) {s1 : Int} {s20 : List TSymbol} {s21 : Int} {s22 : Int} {s27 : List TArg} {s28 : Int} {s29 : Int} {s42 : Bool} {w9 : TArg} {w518 : List TValue} {o : (List TValue)} (h : joint_Consts_b5 s1 s20 s21 s22 s27 s28 s29 s42 w9 w518 = some o) : LpOfR Tryz.prog rd (fbody Tryz.prog 80) [1, 1, 0, 0, 1, 1, 0, 0, 1, 1, 0, 0, 1, 1, 0, 0, 1, 0, 1, 1, 1] (joint_Consts_b5_I us s1 s20 s21 s22 s27 s28 s29 s42 w9 w518) (joint_Consts_b5_O us s1 s20 s21 s22 s27 s28 s29 s42 w9 w518 o) := by
  unfold joint_Consts_b5 at h
  apply g0 (o := o)
  cases s42
  replace h := iteF h
  exact lP h [.live [1,5,20,21,22,27,28,29], .keep [5,518,997], .ren 518 546, .sort]
  replace h := iteT h
  obtain ⟨r9, h14, h⟩ := bS h
  refine gG 46 (.cx false [(0,5), (1,518)] [(2,46)] (.d (D.b r9.1)) [(0, .cells ([.row 2, .clo (.func 110) [] []])), (2, .rw 54 4 (r9.2.map TValue.D))]) (domain_Set_Value_Put_v3_ok h14) ?_
  exact lP h [.live [1,5,20,21,22,27,28,29], .keep [5,46,997], .ren 46 546, .sort]
def joint_Consts_b4_I (us : List Value) (s1 : Int) (s20 : List TSymbol) (s21 : Int) (s22 : Int) (s27 : List TArg) (s28 : Int) (s29 : Int) (w518 : List TValue) : St := ⟨sp 51 0 [(1, dI s1), (5, .box 5 0), (20, .d ((D.l TSymbol.D) s20)), (21, dI s21), (22, dI s22), (27, .d ((D.l TArg.D) s27)), (28, dI s28), (29, dI s29)], [(5, .cells ([.row 518, .clo (.func 110) [] []])), (518, .rw 54 4 (w518.map TValue.D)), (997, .vals [] us)], []⟩
def joint_Consts_b4_O (us : List Value) (s1 : Int) (s20 : List TSymbol) (s21 : Int) (s22 : Int) (s27 : List TArg) (s28 : Int) (s29 : Int) (w518 : List TValue) (o : (List TValue)) : Ex × St := (.normal, ⟨sp 51 0 [(1, dI s1), (5, .box 5 0), (20, .d ((D.l TSymbol.D) s20)), (21, dI s21), (22, dI s22), (27, .d ((D.l TArg.D) s27)), (28, dI s28), (29, dI s29)], [(5, .cells ([.row 546, .clo (.func 110) [] []])), (546, .rw 54 4 (o.map TValue.D)), (997, .vals [] us)], []⟩)
theorem joint_Consts_b4_ok (rd : Option Nat) (us : List Value) {s1 : Int} {s20 : List TSymbol} {s21 : Int} {s22 : Int} {s27 : List TArg} {s28 : Int} {s29 : Int} {w518 : List TValue} {o : (List TValue)} (h : joint_Consts_b4 s1 s20 s21 s22 s27 s28 s29 w518 = some o) : LpOfR Tryz.prog rd (fbody Tryz.prog 80) [0, 1, 1, 0, 0, 1, 1, 0, 0, 1, 1, 0, 0, 1, 0, 1, 1, 1] (joint_Consts_b4_I us s1 s20 s21 s22 s27 s28 s29 w518) (joint_Consts_b4_O us s1 s20 s21 s22 s27 s28 s29 w518 o) := by
  unfold joint_Consts_b4 at h
  apply g0 (o := o)
  refine xX 31 TArg.D h fun x8 h => ?_
  refine iB 36 h (fun h => ?_) fun h => ?_
  obtain ⟨o10, h15, h⟩ := bS h
  refine gL (lv [1,5,9,20,21,22,27,28,29,42] [5,9,518,997]) (joint_Consts_b5_ok rd us h15) ?_
  exact lP h (lv [1,5,20,21,22,27,28,29] [5,546,997])
  obtain ⟨o11, h16, h⟩ := bS h
  refine gL (lv [1,5,9,20,21,22,27,28,29,42] [5,9,518,997]) (joint_Consts_b5_ok rd us h16) ?_
  exact lP h (lv [1,5,20,21,22,27,28,29] [5,546,997])
def joint_Consts_l3_I (us : List Value) (s1 : Int) (s20 : List TSymbol) (s21 : Int) (s22 : Int) (s27 : List TArg) (s28 : Int) (s29 : Int) (w518 : List TValue) : St := ⟨sp 51 0 [(1, dI s1), (5, .box 5 0), (20, .d ((D.l TSymbol.D) s20)), (21, dI s21), (22, dI s22), (27, .d ((D.l TArg.D) s27)), (28, dI s28), (29, dI s29)], [(5, .cells ([.row 518, .clo (.func 110) [] []])), (518, .rw 54 4 (w518.map TValue.D)), (997, .vals [] us)], []⟩
def joint_Consts_l3_O (us : List Value) (s1 : Int) (s20 : List TSymbol) (s21 : Int) (s22 : Int) (s27 : List TArg) (s28 : Int) (o : (List TValue)) : Ex × St := (.exit 2, ⟨sp 51 0 [(1, dI s1), (5, .box 5 0), (20, .d ((D.l TSymbol.D) s20)), (21, dI s21), (22, dI s22)], [(5, .cells ([.row 518, .clo (.func 110) [] []])), (518, .rw 54 4 (o.map TValue.D)), (997, .vals [] us)], []⟩)
theorem joint_Consts_l3_ok (rd : Option Nat) (us : List Value) {s1 : Int} {s20 : List TSymbol} {s21 : Int} {s22 : Int} {s27 : List TArg} {s28 : Int} {s29 : Int} {w518 : List TValue} {t : (List TValue)} (h : joint_Consts_l3 s1 s20 s21 s22 s27 s28 s29 w518 = some t) : LpOfR Tryz.prog rd (fbody Tryz.prog 80) [0, 1, 1, 0, 0, 1, 1, 0, 0, 1, 0, 1, 1, 1] (joint_Consts_l3_I us s1 s20 s21 s22 s27 s28 s29 w518) ((joint_Consts_l3_O us s1 s20 s21 s22 s27 s28) t) :=
  loopE_lpR (fun s : Int × List TValue => joint_Consts_l3_I us s1 s20 s21 s22 s27 s28 s.1 s.2) (joint_Consts_l3_O us s1 s20 s21 s22 s27 s28) (by kernel_rfl) (fun t => isN_ne (by rfl)) (fun ⟨s29, w518⟩ o h => by
  replace h : joint_Consts_l3_s s1 s20 s21 s22 s27 s28 s29 w518 = some o := h
  unfold joint_Consts_l3_s at h
  apply g0 (o := o)
  refine iB 30 h (fun h => ?_) fun h => ?_
  obtain ⟨o12, h17, h⟩ := bS h
  refine gL (lv [1,5,20,21,22,27,28,29] [5,518,997]) (joint_Consts_b4_ok rd us h17) ?_
  exact lB h [.live [1,5,20,21,22,27,28,29], .keep [5,546,997], .ren 546 518, .sort]
  exact lB h (lv [1,5,20,21,22] [5,518,997])) (s := (s29, w518)) (t := t) h
def joint_Consts_l2_I (us : List Value) (s1 : Int) (s20 : List TSymbol) (s21 : Int) (s22 : Int) (w518 : List TValue) : St := ⟨sp 51 0 [(1, dI s1), (5, .box 5 0), (20, .d ((D.l TSymbol.D) s20)), (21, dI s21), (22, dI s22)], [(5, .cells ([.row 518, .clo (.func 110) [] []])), (518, .rw 54 4 (w518.map TValue.D)), (997, .vals [] us)], []⟩
def joint_Consts_l2_O (us : List Value) (s1 : Int) (s20 : List TSymbol) (s21 : Int) (o : (List TValue)) : Ex × St := (.exit 0, ⟨sp 51 0 [(5, .box 5 0)], [(5, .cells ([.row 518, .clo (.func 110) [] []])), (518, .rw 54 4 (o.map TValue.D)), (997, .vals [] us)], []⟩)
theorem joint_Consts_l2_ok (rd : Option Nat) (us : List Value) {s1 : Int} {s20 : List TSymbol} {s21 : Int} {s22 : Int} {w518 : List TValue} {t : (List TValue)} (h : joint_Consts_l2 s1 s20 s21 s22 w518 = some t) : LpOfR Tryz.prog rd (fbody Tryz.prog 80) [0, 1, 0, 1, 1, 1] (joint_Consts_l2_I us s1 s20 s21 s22 w518) ((joint_Consts_l2_O us s1 s20 s21) t) :=
  loopE_lpR (fun s : Int × List TValue => joint_Consts_l2_I us s1 s20 s21 s.1 s.2) (joint_Consts_l2_O us s1 s20 s21) (by kernel_rfl) (fun t => isN_ne (by rfl)) (fun ⟨s22, w518⟩ o h => by
  replace h : joint_Consts_l2_s s1 s20 s21 s22 w518 = some o := h
  unfold joint_Consts_l2_s at h
  apply g0 (o := o)
  refine iB 23 h (fun h => ?_) fun h => ?_
  refine xX 24 TSymbol.D h fun x7 h => ?_
  refine gN 28 TArg.D x7.args ?_
  obtain ⟨o13, h18, h⟩ := bS h
  refine gL (lv [1,5,20,21,22,27,28,29] [5,518,997]) (joint_Consts_l3_ok rd us h18) ?_
  exact lB h (lv [1,5,20,21,22] [5,518,997])
  exact lB h (lv [5] [5,518,997])) (s := (s22, w518)) (t := t) h
theorem joint_Consts_ok {a0 : TQea} {a1 : Int} {r : List TValue} (h : joint_Consts a0 a1 = some r) : ACall Tryz.prog 80 [.d (TQea.D a0), dI a1] [] (.row 0) [(0, .rw 54 4 (r.map TValue.D))] := by
  unfold joint_Consts at h
  refine XG.call (ks := []) mixed fun us => ?_
  apply g0 (o := r)
  refine gW 10 (.cx false [] [(0,417)] (.box 0 0) [(0, .cells ([.nil, .clo (.func 110) [] []]))]) <| gW 21 (.int (a0.symbols.length : Int)) ?_
  obtain ⟨r1, h1, h⟩ := bS h
  refine gQ (domain_NewSet_Value_v2_ok h1) ?_
  obtain ⟨o6, h7, h⟩ := bS h
  refine gL [.live [1,2,5,12], .keep [2,417,997], .ren 417 5, .sort] (joint_Consts_b1_ok none us h7) <| gQ (len_map TSymbol.D a0.symbols) ?_
  obtain ⟨o14, h19, h⟩ := bS h
  refine gL (lv [1,5,20,21,22] [5,518,997]) (joint_Consts_l2_ok none us h19) ?_
  obtain ⟨r15, h20, h⟩ := bS h
  refine gG 50 (.cx false [(0,5), (1,518)] [(2,50), (3,457)] (.row 2) [(0, .cells ([.row 3, .clo (.func 110) [] []])), (2, .rw 54 4 (r15.1.map TValue.D)), (3, .rw 54 4 (r15.2.map TValue.D))]) (domain_Set_Value_All_ok h20) ?_
  exact lX h [.live [4], .keep [50,997], .ren 50 0, .sort]
def slices_Index_Value_Value_l1_I (s0 : List TValue) (s7 : Int) (w3 : TValue) (s8 : Int) : St := ⟨sp 19 0 [(0, .d ((D.l TValue.D) s0)), (3, .box 3 0), (7, dI s7), (8, dI s8)], [(3, .cells ((cellsA (TValue.D w3))))], []⟩
def slices_Index_Value_Value_l1_O (s0 : List TValue) (s7 : Int) (w3 : TValue) (o : Unit ⊕ Int) : Ex × St := match o with
  | .inl o => (.exit 0, ⟨sp 19 0 [], [], []⟩)
  | .inr o => (.ret, ⟨sp 19 0 [(4, dI o)], [], []⟩)
theorem slices_Index_Value_Value_l1_ok (rd : Option Nat) {s0 : List TValue} {s7 : Int} {w3 : TValue} {s8 : Int} {t : Unit ⊕ Int} (h : slices_Index_Value_Value_l1 s0 s7 w3 s8 = some t) : LpOfR Tryz.prog rd (fbody Tryz.prog 114) [0, 1, 0, 1] (slices_Index_Value_Value_l1_I s0 s7 w3 s8) ((slices_Index_Value_Value_l1_O s0 s7 w3) t) :=
  loopE_lpR (fun s : Int => slices_Index_Value_Value_l1_I s0 s7 w3 s) (slices_Index_Value_Value_l1_O s0 s7 w3) (by kernel_rfl) (fun t => isN_ne (by rcases t with (_ | _) <;> rfl)) (fun s8 o h => by
  replace h : slices_Index_Value_Value_l1_s s0 s7 w3 s8 = some o := h
  unfold slices_Index_Value_Value_l1_s at h
  apply g0 (o := o)
  refine iB 9 h (fun h => ?_) fun h => ?_
  refine xX 14 TValue.D h fun x1 h => ?_
  refine iB 16 h (fun h => ?_) fun h => ?_
  exact lB h (lv [4] [])
  exact lB h (lv [0,3,7,8] [3])
  exact lB h (lv [] [])) (s := s8) (t := t) h
theorem slices_Index_Value_Value_ok {a0 : List TValue} {a1 : TValue} {r : Int} (h : slices_Index_Value_Value a0 a1 = some r) : ACall Tryz.prog 114 [.d ((D.l TValue.D) a0), .d (TValue.D a1)] [] (dI r) [] := by
  unfold slices_Index_Value_Value at h
  apply g0 (o := r)
  refine gN 7 TValue.D a0 ?_
  obtain ⟨o2, h4, h⟩ := bS h
  refine gL (lv [0,3,7,8] [3]) (slices_Index_Value_Value_l1_ok none h4) ?_
  rcases sumE_some h with ⟨o3, rfl, h⟩ | ⟨o4, rfl, h⟩
  exact lF h []
  exact lF h []
theorem slices_Contains_Value_Value_ok {a0 : List TValue} {a1 : TValue} {r : Bool} (h : slices_Contains_Value_Value a0 a1 = some r) : ACall Tryz.prog 81 [.d ((D.l TValue.D) a0), .d (TValue.D a1)] [] (.d (D.b r)) [] := by
  unfold slices_Contains_Value_Value at h
  apply g0 (o := r)
  obtain ⟨r1, h1, h⟩ := bS h
  refine gC 7 (slices_Index_Value_Value_ok h1) ?_
  exact lF h []
theorem slices_Grow_Value_Value_ok {n : Int} {r : List TValue} (h : slices_Grow_Value_Value n = some r) : ACall Tryz.prog 115 [.nil, .d (D.i .i64 n)] [] (.row 0) [(0, .rw 54 4 (r.map TValue.D))] :=
  growE_ok (ρ := ⟨fun _ => 115, fun n => if n = 0 then 0 else if n = 3 then 3 else if n = 4 then 4 else if n = 9 then 9 else if n = 20 then 20 else if n = 22 then 34 else 54, id⟩) (by_ := 40) TValue.D rfl rfl (growL mixed ⟨ "slices.Grow[[]proctor/api.Value,proctor/api.Value]", by decide, (Tryz.func115).trans (by kernel_rfl)⟩ Tryz.underlying0 Tryz.underlying3 Tryz.underlying4 Tryz.underlying9 Tryz.underlying20 Tryz.underlying34 (by kernel_rfl) (by kernel_rfl) (by kernel_rfl) (by kernel_rfl) (by kernel_rfl) (by kernel_rfl) (by kernel_rfl) (by kernel_rfl) (by kernel_rfl) (by kernel_rfl) (by kernel_rfl) (by kernel_rfl)) (by kernel_rfl) (by decide) n r h
def slices_Concat_Value_Value_b3_I (s0 : List (List TValue)) (s3 : Int) (s9 : List (List TValue)) (s10 : Int) (s11 : Int) (s20 : Bool) : St := ⟨sp 36 0 [(0, .d ((D.l (D.l TValue.D)) s0)), (3, dI s3), (9, .d ((D.l (D.l TValue.D)) s9)), (10, dI s10), (11, dI s11), (20, .d (D.b s20))], [], []⟩
def slices_Concat_Value_Value_b3_O (s0 : List (List TValue)) (s3 : Int) (s9 : List (List TValue)) (s10 : Int) (s11 : Int) (s20 : Bool) (o : Unit) : Ex × St := (.normal, ⟨sp 36 0 [(0, .d ((D.l (D.l TValue.D)) s0)), (3, dI s3), (9, .d ((D.l (D.l TValue.D)) s9)), (10, dI s10), (11, dI s11)], [], []⟩)
theorem slices_Concat_Value_Value_b3_ok (rd : Option Nat) {s0 : List (List TValue)} {s3 : Int} {s9 : List (List TValue)} {s10 : Int} {s11 : Int} {s20 : Bool} {o : Unit} (h : slices_Concat_Value_Value_b3 s0 s3 s9 s10 s11 s20 = some o) : LpOfR Tryz.prog rd (fbody Tryz.prog 83) [1, 1, 1, 0, 0, 1, 1, 0, 0, 1, 0, 1, 1] (slices_Concat_Value_Value_b3_I s0 s3 s9 s10 s11 s20) (slices_Concat_Value_Value_b3_O s0 s3 s9 s10 s11 s20 o) := by
  unfold slices_Concat_Value_Value_b3 at h
  apply g0 (o := o)
  cases s20
  replace h := iteF h
  exact lP h (lv [0,3,9,10,11] [])
  replace h := iteT h
  cases h
def slices_Concat_Value_Value_b2_I (s0 : List (List TValue)) (s3 : Int) (s9 : List (List TValue)) (s10 : Int) (s11 : Int) : St := ⟨sp 36 0 [(0, .d ((D.l (D.l TValue.D)) s0)), (3, dI s3), (9, .d ((D.l (D.l TValue.D)) s9)), (10, dI s10), (11, dI s11)], [], []⟩
def slices_Concat_Value_Value_b2_O (s0 : List (List TValue)) (s3 : Int) (s9 : List (List TValue)) (s10 : Int) (s11 : Int) (o : Int) : Ex × St := (.normal, ⟨sp 36 0 [(0, .d ((D.l (D.l TValue.D)) s0)), (3, dI o), (9, .d ((D.l (D.l TValue.D)) s9)), (10, dI s10), (11, dI s11)], [], []⟩)
theorem slices_Concat_Value_Value_b2_ok (rd : Option Nat) {s0 : List (List TValue)} {s3 : Int} {s9 : List (List TValue)} {s10 : Int} {s11 : Int} {o : Int} (h : slices_Concat_Value_Value_b2 s0 s3 s9 s10 s11 = some o) : LpOfR Tryz.prog rd (fbody Tryz.prog 83) [0, 1, 1, 0, 0, 1, 0, 1, 1] (slices_Concat_Value_Value_b2_I s0 s3 s9 s10 s11) (slices_Concat_Value_Value_b2_O s0 s3 s9 s10 s11 o) := by
  unfold slices_Concat_Value_Value_b2 at h
  apply g0 (o := o)
  refine xX 13 (D.l TValue.D) h fun x1 h => ?_
  refine gN 17 TValue.D x1 ?_
  obtain ⟨o2, h4, h⟩ := bS h
  refine gL (lv [0,3,9,10,11,20] []) (slices_Concat_Value_Value_b3_ok rd h4) ?_
  exact lP h (lv [0,3,9,10,11] [])
def slices_Concat_Value_Value_l1_I (s0 : List (List TValue)) (s9 : List (List TValue)) (s10 : Int) (s3 : Int) (s11 : Int) : St := ⟨sp 36 0 [(0, .d ((D.l (D.l TValue.D)) s0)), (3, dI s3), (9, .d ((D.l (D.l TValue.D)) s9)), (10, dI s10), (11, dI s11)], [], []⟩
def slices_Concat_Value_Value_l1_O (s0 : List (List TValue)) (s9 : List (List TValue)) (s10 : Int) (o : Int) : Ex × St := (.exit 0, ⟨sp 36 0 [(0, .d ((D.l (D.l TValue.D)) s0)), (3, dI o)], [], []⟩)
theorem slices_Concat_Value_Value_l1_ok (rd : Option Nat) {s0 : List (List TValue)} {s9 : List (List TValue)} {s10 : Int} {s3 : Int} {s11 : Int} {t : Int} (h : slices_Concat_Value_Value_l1 s0 s9 s10 s3 s11 = some t) : LpOfR Tryz.prog rd (fbody Tryz.prog 83) [0, 1, 0, 1, 1] (slices_Concat_Value_Value_l1_I s0 s9 s10 s3 s11) ((slices_Concat_Value_Value_l1_O s0 s9 s10) t) :=
  loopE_lpR (fun s : Int × Int => slices_Concat_Value_Value_l1_I s0 s9 s10 s.1 s.2) (slices_Concat_Value_Value_l1_O s0 s9 s10) (by kernel_rfl) (fun t => isN_ne (by rfl)) (fun ⟨s3, s11⟩ o h => by
  replace h : slices_Concat_Value_Value_l1_s s0 s9 s10 s3 s11 = some o := h
  unfold slices_Concat_Value_Value_l1_s at h
  apply g0 (o := o)
  refine iB 12 h (fun h => ?_) fun h => ?_
  obtain ⟨o3, h5, h⟩ := bS h
  refine gL (lv [0,3,9,10,11] []) (slices_Concat_Value_Value_b2_ok rd h5) ?_
  exact lB h (lv [0,3,9,10,11] [])
  exact lB h (lv [0,3] [])) (s := (s3, s11)) (t := t) h
def slices_Concat_Value_Value_l4_I (s25 : List (List TValue)) (s26 : Int) (s27 : Int) (w6 : List TValue) : St := ⟨sp 36 0 [(6, .row 6), (25, .d ((D.l (D.l TValue.D)) s25)), (26, dI s26), (27, dI s27)], [(6, .rw 54 4 (w6.map TValue.D))], []⟩
def slices_Concat_Value_Value_l4_O (s25 : List (List TValue)) (s26 : Int) (o : (List TValue)) : Ex × St := (.exit 2, ⟨sp 36 0 [(6, .row 6)], [(6, .rw 54 4 (o.map TValue.D))], []⟩)
theorem slices_Concat_Value_Value_l4_ok (rd : Option Nat) {s25 : List (List TValue)} {s26 : Int} {s27 : Int} {w6 : List TValue} {t : (List TValue)} (h : slices_Concat_Value_Value_l4 s25 s26 s27 w6 = some t) : LpOfR Tryz.prog rd (fbody Tryz.prog 83) [0, 1, 0, 1, 1, 1, 1] (slices_Concat_Value_Value_l4_I s25 s26 s27 w6) ((slices_Concat_Value_Value_l4_O s25 s26) t) :=
  loopE_lpR (fun s : Int × List TValue => slices_Concat_Value_Value_l4_I s25 s26 s.1 s.2) (slices_Concat_Value_Value_l4_O s25 s26) (by kernel_rfl) (fun t => isN_ne (by rfl)) (fun ⟨s27, w6⟩ o h => by
  replace h : slices_Concat_Value_Value_l4_s s25 s26 s27 w6 = some o := h
  unfold slices_Concat_Value_Value_l4_s at h
  apply g0 (o := o)
  refine iB 28 h (fun h => ?_) fun h => ?_
  refine xX 29 (D.l TValue.D) h fun x6 h => ?_
  refine gG 33 (.rwl ((w6 ++ x6).map TValue.D)) (nc_ok TValue.D x6) ?_
  obtain ⟨h10, h⟩ := cS h
  refine gQ (fit_map TValue.D h10) <| gQ (app_map TValue.D w6 x6) ?_
  exact lB h [.live [6,25,26,27], .keep [33], .ren 33 6, .sort]
  exact lB h (lv [6] [6])) (s := (s27, w6)) (t := t) h
theorem slices_Concat_Value_Value_ok {a0 : List (List TValue)} {r : List TValue} (h : slices_Concat_Value_Value a0 = some r) : ACall Tryz.prog 83 [.d ((D.l (D.l TValue.D)) a0)] [] (.d ((D.l TValue.D) r)) [] := by
  unfold slices_Concat_Value_Value at h
  apply g0 (o := r)
  refine gN 10 (D.l TValue.D) a0 <| gW 26 (.int (a0.length : Int)) ?_
  obtain ⟨o4, h6, h⟩ := bS h
  refine gL (lv [0,3,9,10,11] []) (slices_Concat_Value_Value_l1_ok none h6) ?_
  obtain ⟨r5, h7, h⟩ := bS h
  refine gG 24 (.cx true [] [(0,24)] (.row 0) [(0, .rw 54 4 (r5.map TValue.D))]) (slices_Grow_Value_Value_ok h7) <| gQ (len_map (D.l TValue.D) a0) ?_
  obtain ⟨o7, h11, h⟩ := bS h
  refine gL [.live [6,25,26,27], .keep [24], .ren 24 6, .sort] (slices_Concat_Value_Value_l4_ok none h11) ?_
  exact lF h [.frz 6]
def joint_New_b3_I (s0 : Int) (s1 : List TValue) (s20 : Bool) (w4 : TValue) (w6 : TValue) : St := ⟨sp 30 0 [(0, dI s0), (1, .d ((D.l TValue.D) s1)), (4, .box 4 0), (6, .box 6 0), (20, .d (D.b s20))], [(4, .cells ((cellsA (TValue.D w4)))), (6, .cells ((cellsA (TValue.D w6))))], []⟩
def joint_New_b3_O (s0 : Int) (s1 : List TValue) (s20 : Bool) (w4 : TValue) (w6 : TValue) (o : TValue) : Ex × St := (.normal, ⟨sp 30 0 [(0, dI s0), (1, .d ((D.l TValue.D) s1)), (4, .box 4 0), (6, .box 6 0)], [(4, .cells ((cellsA (TValue.D w4)))), (6, .cells ((cellsA (TValue.D o))))], []⟩)
theorem joint_New_b3_ok (rd : Option Nat) {s0 : Int} {s1 : List TValue} {s20 : Bool} {w4 : TValue} {w6 : TValue} {o : TValue} (h : joint_New_b3 s0 s1 s20 w4 w6 = some o) : LpOfR Tryz.prog rd (fbody Tryz.prog 82) [1, 0, 1, 0, 0, 0, 1, 1, 1] (joint_New_b3_I s0 s1 s20 w4 w6) (joint_New_b3_O s0 s1 s20 w4 w6 o) := by
  unfold joint_New_b3 at h
  apply g0 (o := o)
  cases s20
  replace h := iteF h
  refine gW 27 (.str (w6.str ++ ([97] : List UInt8))) ?_
  obtain ⟨h6, h⟩ := cS h
  refine gQ (sapp_ok h6) ?_
  exact lP h (lv [0,1,4,6] [4,6])
  replace h := iteT h
  exact lP h (lv [0,1,4,6] [4,6])
def joint_New_b2_I (s0 : Int) (s1 : List TValue) (w4 : TValue) (w6 : TValue) : St := ⟨sp 30 0 [(0, dI s0), (1, .d ((D.l TValue.D) s1)), (4, .box 4 0), (6, .box 6 0)], [(4, .cells ((cellsA (TValue.D w4)))), (6, .cells ((cellsA (TValue.D w6))))], []⟩
def joint_New_b2_O (s0 : Int) (s1 : List TValue) (w4 : TValue) (w6 : TValue) (o : TValue) : Ex × St := (.normal, ⟨sp 30 0 [(0, dI s0), (1, .d ((D.l TValue.D) s1)), (4, .box 4 0), (6, .box 6 0)], [(4, .cells ((cellsA (TValue.D w4)))), (6, .cells ((cellsA (TValue.D o))))], []⟩)
theorem joint_New_b2_ok (rd : Option Nat) {s0 : Int} {s1 : List TValue} {w4 : TValue} {w6 : TValue} {o : TValue} (h : joint_New_b2 s0 s1 w4 w6 = some o) : LpOfR Tryz.prog rd (fbody Tryz.prog 82) [1, 0, 0, 0, 1, 1, 1] (joint_New_b2_I s0 s1 w4 w6) (joint_New_b2_O s0 s1 w4 w6 o) := by
  unfold joint_New_b2 at h
  apply g0 (o := o)
  obtain ⟨o2, h7, h⟩ := bS h
  refine gL (lv [0,1,4,6,20] [4,6]) (joint_New_b3_ok rd h7) ?_
  exact lP h (lv [0,1,4,6] [4,6])
def joint_New_l1_I (s0 : Int) (s1 : List TValue) (w4 : TValue) (w6 : TValue) : St := ⟨sp 30 0 [(0, dI s0), (1, .d ((D.l TValue.D) s1)), (4, .box 4 0), (6, .box 6 0)], [(4, .cells ((cellsA (TValue.D w4)))), (6, .cells ((cellsA (TValue.D w6))))], []⟩
def joint_New_l1_O (s0 : Int) (s1 : List TValue) (w4 : TValue) (o : TValue) : Ex × St := (.exit 0, ⟨sp 30 0 [(4, .box 4 0), (6, .box 6 0)], [(4, .cells ((cellsA (TValue.D w4)))), (6, .cells ((cellsA (TValue.D o))))], []⟩)
theorem joint_New_l1_ok (rd : Option Nat) {s0 : Int} {s1 : List TValue} {w4 : TValue} {w6 : TValue} {t : TValue} (h : joint_New_l1 s0 s1 w4 w6 = some t) : LpOfR Tryz.prog rd (fbody Tryz.prog 82) [0, 0, 1, 1, 1] (joint_New_l1_I s0 s1 w4 w6) ((joint_New_l1_O s0 s1 w4) t) :=
  loopE_lpR (fun s : TValue => joint_New_l1_I s0 s1 w4 s) (joint_New_l1_O s0 s1 w4) (by kernel_rfl) (fun t => isN_ne (by rfl)) (fun w6 o h => by
  replace h : joint_New_l1_s s0 s1 w4 w6 = some o := h
  unfold joint_New_l1_s at h
  apply g0 (o := o)
  obtain ⟨r1, h3, h⟩ := bS h
  refine gQ (slices_Contains_Value_Value_ok h3) ?_
  cases r1
  replace h := iteF h
  refine gW 18 (.ret (.d (D.b false))) ?_
  exact lB h (lv [4,6] [4,6])
  replace h := iteT h
  refine gW 18 (.ret (.d (D.b true))) ?_
  obtain ⟨o3, h8, h⟩ := bS h
  refine gL (lv [0,1,4,6] [4,6]) (joint_New_b2_ok rd h8) ?_
  exact lB h (lv [0,1,4,6] [4,6])) (s := w6) (t := t) h
theorem joint_New_ok {a0 : Int} {a1 : List TValue} {r : TValue × Bool} (h : joint_New a0 a1 = some r) : ACall Tryz.prog 82 [dI a0, .d ((D.l TValue.D) a1)] [] (.tup [.d (TValue.D r.1), .d (D.b r.2)]) [] := by
  unfold joint_New at h
  apply g0 (o := r)
  refine iB 9 h (fun h => ?_) fun h => ?_
  refine iB 12 h (fun h => ?_) fun h => ?_
  exact lF h []
  obtain ⟨o4, h9, h⟩ := bS h
  refine gL (lv [0,1,4,6] [4,6]) (joint_New_l1_ok none h9) ?_
  exact lF h []
  obtain ⟨o5, h10, h⟩ := bS h
  refine gL (lv [0,1,4,6] [4,6]) (joint_New_l1_ok none h10) ?_
  exact lF h []
def joint_place_values_b3_I (s1 : List TValue) (s5 : Int) (s28 : List TSlot) (s29 : Int) (s30 : Int) (s45 : Bool) (w6 : List TValue) (w8 : TSlot) : St := ⟨sp 67 0 [(1, .d ((D.l TValue.D) s1)), (5, dI s5), (6, .row 6), (8, .box 8 0), (28, .d ((D.l TSlot.D) s28)), (29, dI s29), (30, dI s30), (45, .d (D.b s45))], [(6, .rw 54 4 (w6.map TValue.D)), (8, .cells ((cellsA (TSlot.D w8))))], []⟩
def joint_place_values_b3_O (s1 : List TValue) (s5 : Int) (s28 : List TSlot) (s29 : Int) (s30 : Int) (s45 : Bool) (w6 : List TValue) (w8 : TSlot) (o : (List TValue)) : Ex × St := (.normal, ⟨sp 67 0 [(1, .d ((D.l TValue.D) s1)), (5, dI s5), (6, .row 6), (28, .d ((D.l TSlot.D) s28)), (29, dI s29), (30, dI s30)], [(6, .rw 54 4 (o.map TValue.D))], []⟩)
theorem joint_place_values_b3_ok (rd : Option Nat) {s1 : List TValue} {s5 : Int} {s28 : List TSlot} {s29 : Int} {s30 : Int} {s45 : Bool} {w6 : List TValue} {w8 : TSlot} {o : (List TValue)} (h : joint_place_values_b3 s1 s5 s28 s29 s30 s45 w6 w8 = some o) : LpOfR Tryz.prog rd (fbody Tryz.prog 53) [1, 1, 0, 0, 1, 1, 0, 0, 1, 0, 1, 1, 1] (joint_place_values_b3_I s1 s5 s28 s29 s30 s45 w6 w8) (joint_place_values_b3_O s1 s5 s28 s29 s30 s45 w6 w8 o) := by
  unfold joint_place_values_b3 at h
  apply g0 (o := o)
  cases s45
  replace h := iteF h
  exact lP h (lv [1,5,6,28,29,30] [6])
  replace h := iteT h
  refine gQ (nc_ok TValue.D [w8.value]) <| gG 50 (.rwl ((w6 ++ [w8.value]).map TValue.D)) (nc_ok TValue.D [w8.value]) ?_
  obtain ⟨h9, h⟩ := cS h
  refine gQ (fit_map TValue.D h9) <| gQ (app_map TValue.D w6 [w8.value]) ?_
  exact lP h [.live [1,5,6,28,29,30], .keep [50], .ren 50 6, .sort]
def joint_place_values_b2_I (s1 : List TValue) (s5 : Int) (s28 : List TSlot) (s29 : Int) (s30 : Int) (w6 : List TValue) : St := ⟨sp 67 0 [(1, .d ((D.l TValue.D) s1)), (5, dI s5), (6, .row 6), (28, .d ((D.l TSlot.D) s28)), (29, dI s29), (30, dI s30)], [(6, .rw 54 4 (w6.map TValue.D))], []⟩
def joint_place_values_b2_O (s1 : List TValue) (s5 : Int) (s28 : List TSlot) (s29 : Int) (s30 : Int) (w6 : List TValue) (o : (List TValue)) : Ex × St := (.normal, ⟨sp 67 0 [(1, .d ((D.l TValue.D) s1)), (5, dI s5), (6, .row 6), (28, .d ((D.l TSlot.D) s28)), (29, dI s29), (30, dI s30)], [(6, .rw 54 4 (o.map TValue.D))], []⟩)
theorem joint_place_values_b2_ok (rd : Option Nat) {s1 : List TValue} {s5 : Int} {s28 : List TSlot} {s29 : Int} {s30 : Int} {w6 : List TValue} {o : (List TValue)} (h : joint_place_values_b2 s1 s5 s28 s29 s30 w6 = some o) : LpOfR Tryz.prog rd (fbody Tryz.prog 53) [0, 1, 1, 0, 0, 1, 0, 1, 1, 1] (joint_place_values_b2_I s1 s5 s28 s29 s30 w6) (joint_place_values_b2_O s1 s5 s28 s29 s30 w6 o) := by
  unfold joint_place_values_b2 at h
  apply g0 (o := o)
  refine xX 32 TSlot.D h fun x4 h => ?_
  refine iB 39 h (fun h => ?_) fun h => ?_
  obtain ⟨r5, h7, h⟩ := bS h
  refine gG 43 (.lend [6] (.d (D.b r5))) (slices_Contains_Value_Value_ok h7) ?_
  obtain ⟨o6, h10, h⟩ := bS h
  refine gL (lv [1,5,6,8,28,29,30,45] [6,8]) (joint_place_values_b3_ok rd h10) ?_
  exact lP h (lv [1,5,6,28,29,30] [6])
  obtain ⟨o7, h11, h⟩ := bS h
  refine gL (lv [1,5,6,8,28,29,30,45] [6,8]) (joint_place_values_b3_ok rd h11) ?_
  exact lP h (lv [1,5,6,28,29,30] [6])
def joint_place_values_l1_I (s1 : List TValue) (s5 : Int) (s28 : List TSlot) (s29 : Int) (s30 : Int) (w6 : List TValue) : St := ⟨sp 67 0 [(1, .d ((D.l TValue.D) s1)), (5, dI s5), (6, .row 6), (28, .d ((D.l TSlot.D) s28)), (29, dI s29), (30, dI s30)], [(6, .rw 54 4 (w6.map TValue.D))], []⟩
def joint_place_values_l1_O (s1 : List TValue) (s5 : Int) (s28 : List TSlot) (s29 : Int) (o : (List TValue)) : Ex × St := (.exit 0, ⟨sp 67 0 [(1, .d ((D.l TValue.D) s1)), (5, dI s5), (6, .row 6)], [(6, .rw 54 4 (o.map TValue.D))], []⟩)
theorem joint_place_values_l1_ok (rd : Option Nat) {s1 : List TValue} {s5 : Int} {s28 : List TSlot} {s29 : Int} {s30 : Int} {w6 : List TValue} {t : (List TValue)} (h : joint_place_values_l1 s1 s5 s28 s29 s30 w6 = some t) : LpOfR Tryz.prog rd (fbody Tryz.prog 53) [0, 1, 0, 1, 1, 1] (joint_place_values_l1_I s1 s5 s28 s29 s30 w6) ((joint_place_values_l1_O s1 s5 s28 s29) t) :=
  loopE_lpR (fun s : Int × List TValue => joint_place_values_l1_I s1 s5 s28 s29 s.1 s.2) (joint_place_values_l1_O s1 s5 s28 s29) (by kernel_rfl) (fun t => isN_ne (by rfl)) (fun ⟨s30, w6⟩ o h => by
  replace h : joint_place_values_l1_s s1 s5 s28 s29 s30 w6 = some o := h
  unfold joint_place_values_l1_s at h
  apply g0 (o := o)
  refine iB 31 h (fun h => ?_) fun h => ?_
  obtain ⟨o8, h12, h⟩ := bS h
  refine gL (lv [1,5,6,28,29,30] [6]) (joint_place_values_b2_ok rd h12) ?_
  exact lB h (lv [1,5,6,28,29,30] [6])
  exact lB h (lv [1,5,6] [6])) (s := (s30, w6)) (t := t) h
def joint_place_values_b4_I (s61 : Bool) (w6 : List TValue) (w9 : TValue) : St := ⟨sp 67 0 [(6, .row 6), (9, .box 9 0), (61, .d (D.b s61))], [(6, .row 54 4 (w6.map TValue.D)), (9, .cells ((cellsA (TValue.D w9))))], []⟩
def joint_place_values_b4_O (s61 : Bool) (w6 : List TValue) (w9 : TValue) (o : (List TValue)) : Ex × St := (.normal, ⟨sp 67 0 [(6, .row 6)], [(6, .row 54 4 (o.map TValue.D))], []⟩)
theorem joint_place_values_b4_ok (rd : Option Nat) {s61 : Bool} {w6 : List TValue} {w9 : TValue} {o : (List TValue)} (h : joint_place_values_b4 s61 w6 w9 = some o) : LpOfR Tryz.prog rd (fbody Tryz.prog 53) [1, 1, 0, 1, 1, 1, 1] (joint_place_values_b4_I s61 w6 w9) (joint_place_values_b4_O s61 w6 w9 o) := by
  unfold joint_place_values_b4 at h
  apply g0 (o := o)
  cases s61
  replace h := iteF h
  exact lP h (lv [6] [6])
  replace h := iteT h
  refine gQ (nc_ok TValue.D [w9]) <| gG 65 (.sl ((w6 ++ [w9]).map TValue.D)) (nc_ok TValue.D [w9]) ?_
  obtain ⟨h17, h⟩ := cS h
  refine gQ (fit_map TValue.D h17) <| gQ (app_map TValue.D w6 [w9]) ?_
  exact lP h [.live [6], .keep [65], .ren 65 6, .sort]
theorem joint_place_values_ok {a0 : Tjoint_place} {a1 : List TValue} {r : List TValue} (h : joint_place_values a0 a1 = some r) : ACall Tryz.prog 53 [.d (Tjoint_place.D a0), .d ((D.l TValue.D) a1)] [] (.d ((D.l TValue.D) r)) [] := by
  unfold joint_place_values at h
  apply g0 (o := r)
  refine gW 29 (.int (a0.b.length : Int)) <| gW 54 (.fzn 6) <| xX 16 TDecl.D h fun x1 h => ?_
  refine xX 21 (D.i .i64) h fun x2 h => ?_
  obtain ⟨r3, h3, h⟩ := bS h
  refine gG 26 (.cx false [] [(0,26)] (.row 0) [(0, .rw 54 4 (r3.map TValue.D))]) (joint_Consts_ok h3) <| gQ (len_map TSlot.D a0.b) ?_
  obtain ⟨o9, h13, h⟩ := bS h
  refine gL [.live [1,5,6,28,29,30], .keep [26], .ren 26 6, .sort] (joint_place_values_l1_ok none h13) <| gQ (nc_ok (D.l TValue.D) [o9, a1]) ?_
  obtain ⟨r10, h14, h⟩ := bS h
  refine gC 57 (slices_Concat_Value_Value_ok h14) ?_
  obtain ⟨r11, h15, h⟩ := bS h
  refine gC 58 (joint_New_ok h15) ?_
  obtain ⟨o12, h18, h⟩ := bS h
  refine gL (lv [6,9,61] [6,9]) (joint_place_values_b4_ok none h18) ?_
  exact lF h []
def binding_Get_l1_I (s1 : Int) (s8 : List TSlot) (s9 : Int) (w4 : TValue) (s10 : Int) : St := ⟨sp 22 0 [(1, dI s1), (4, .box 4 0), (8, .d ((D.l TSlot.D) s8)), (9, dI s9), (10, dI s10)], [(4, .cells ((cellsA (TValue.D w4))))], []⟩
def binding_Get_l1_O (s1 : Int) (s8 : List TSlot) (s9 : Int) (w4 : TValue) (o : Unit ⊕ TValue) : Ex × St := match o with
  | .inl o => (.exit 0, ⟨sp 22 0 [(4, .box 4 0)], [(4, .cells ((cellsA (TValue.D w4))))], []⟩)
  | .inr o => (.ret, ⟨sp 22 0 [(4, .box 4 0), (5, .d (D.b true))], [(4, .cells ((cellsA (TValue.D o))))], []⟩)
theorem binding_Get_l1_ok (rd : Option Nat) {s1 : Int} {s8 : List TSlot} {s9 : Int} {w4 : TValue} {s10 : Int} {t : Unit ⊕ TValue} (h : binding_Get_l1 s1 s8 s9 w4 s10 = some t) : LpOfR Tryz.prog rd (fbody Tryz.prog 116) [0, 1, 0, 1] (binding_Get_l1_I s1 s8 s9 w4 s10) ((binding_Get_l1_O s1 s8 s9 w4) t) :=
  loopE_lpR (fun s : Int => binding_Get_l1_I s1 s8 s9 w4 s) (binding_Get_l1_O s1 s8 s9 w4) (by kernel_rfl) (fun t => isN_ne (by rcases t with (_ | _) <;> rfl)) (fun s10 o h => by
  replace h : binding_Get_l1_s s1 s8 s9 w4 s10 = some o := h
  unfold binding_Get_l1_s at h
  apply g0 (o := o)
  refine iB 11 h (fun h => ?_) fun h => ?_
  refine xX 12 TSlot.D h fun x1 h => ?_
  refine iB 17 h (fun h => ?_) fun h => ?_
  exact lB h (lv [4,5] [4])
  exact lB h (lv [1,4,8,9,10] [4])
  exact lB h (lv [4] [4])) (s := s10) (t := t) h
theorem binding_Get_ok {a0 : List TSlot} {a1 : Int} {r : TValue × Bool} (h : binding_Get a0 a1 = some r) : ACall Tryz.prog 116 [.d ((D.l TSlot.D) a0), dI a1] [] (.tup [.d (TValue.D r.1), .d (D.b r.2)]) [] := by
  unfold binding_Get at h
  apply g0 (o := r)
  refine gN 9 TSlot.D a0 ?_
  obtain ⟨o2, h4, h⟩ := bS h
  refine gL (lv [1,4,8,9,10] [4]) (binding_Get_l1_ok none h4) ?_
  rcases sumE_some h with ⟨o3, rfl, h⟩ | ⟨o4, rfl, h⟩
  exact lF h []
  exact lF h []
theorem joint_place_fits_ok {a0 : Tjoint_place} {a1 : TArg} {a2 : TValue} {r : Bool} (h : joint_place_fits a0 a1 a2 = some r) : ACall Tryz.prog 84 [.d (Tjoint_place.D a0), .d (TArg.D a1), .d (TValue.D a2)] [] (.d (D.b r)) [] := by
  unfold joint_place_fits at h
  apply g0 (o := r)
  refine iB 11 h (fun h => ?_) fun h => ?_
  exact lF h []
  refine iB 17 h (fun h => ?_) fun h => ?_
  obtain ⟨r1, h3, h⟩ := bS h
  refine gC 24 (binding_Get_ok h3) ?_
  refine iB 28 h (fun h => ?_) fun h => ?_
  exact lF h []
  exact lF h []
  exact lF h []
def joint_place_with_b3_I (s6 : Int) (s7 : Int) (s11 : List TSymbol) (s12 : Int) (s13 : Int) (s34 : Bool) (w2 : Tjoint_place) (w3 : TValue) : St := ⟨sp 42 0 [(2, .box 2 0), (3, .box 3 0), (5, .clo (.func 84) [] []), (6, .d ((D.i .u64) s6)), (7, dI s7), (11, .d ((D.l TSymbol.D) s11)), (12, dI s12), (13, dI s13), (34, .d (D.b s34))], [(2, .cells ((cellsA (Tjoint_place.D w2)))), (3, .cells ((cellsA (TValue.D w3))))], []⟩
def joint_place_with_b3_O (s6 : Int) (s7 : Int) (s11 : List TSymbol) (s12 : Int) (s13 : Int) (s34 : Bool) (w2 : Tjoint_place) (w3 : TValue) (o : Int) : Ex × St := (.normal, ⟨sp 42 0 [(2, .box 2 0), (3, .box 3 0), (5, .clo (.func 84) [] []), (6, .d ((D.i .u64) o)), (11, .d ((D.l TSymbol.D) s11)), (12, dI s12), (13, dI s13)], [(2, .cells ((cellsA (Tjoint_place.D w2)))), (3, .cells ((cellsA (TValue.D w3))))], []⟩)
theorem joint_place_with_b3_ok (rd : Option Nat) {s6 : Int} {s7 : Int} {s11 : List TSymbol} {s12 : Int} {s13 : Int} {s34 : Bool} {w2 : Tjoint_place} {w3 : TValue} {o : Int} (h : joint_place_with_b3 s6 s7 s11 s12 s13 s34 w2 w3 = some o) : LpOfR Tryz.prog rd (fbody Tryz.prog 54) [1, 1, 0, 0, 1, 1, 0, 0, 1, 0, 1, 1, 1] (joint_place_with_b3_I s6 s7 s11 s12 s13 s34 w2 w3) (joint_place_with_b3_O s6 s7 s11 s12 s13 s34 w2 w3 o) := by
  unfold joint_place_with_b3 at h
  apply g0 (o := o)
  cases s34
  replace h := iteF h
  exact lP h (lv [2,3,5,6,11,12,13] [2,3])
  replace h := iteT h
  obtain ⟨h7, h⟩ := cS h
  refine gQ h7 ?_
  exact lP h (lv [2,3,5,6,11,12,13] [2,3])
def joint_place_with_b2_I (s6 : Int) (s11 : List TSymbol) (s12 : Int) (s13 : Int) (w2 : Tjoint_place) (w3 : TValue) : St := ⟨sp 42 0 [(2, .box 2 0), (3, .box 3 0), (5, .clo (.func 84) [] []), (6, .d ((D.i .u64) s6)), (11, .d ((D.l TSymbol.D) s11)), (12, dI s12), (13, dI s13)], [(2, .cells ((cellsA (Tjoint_place.D w2)))), (3, .cells ((cellsA (TValue.D w3))))], []⟩
def joint_place_with_b2_O (s6 : Int) (s11 : List TSymbol) (s12 : Int) (s13 : Int) (w2 : Tjoint_place) (w3 : TValue) (o : Int) : Ex × St := (.normal, ⟨sp 42 0 [(2, .box 2 0), (3, .box 3 0), (5, .clo (.func 84) [] []), (6, .d ((D.i .u64) o)), (11, .d ((D.l TSymbol.D) s11)), (12, dI s12), (13, dI s13)], [(2, .cells ((cellsA (Tjoint_place.D w2)))), (3, .cells ((cellsA (TValue.D w3))))], []⟩)
theorem joint_place_with_b2_ok (rd : Option Nat) {s6 : Int} {s11 : List TSymbol} {s12 : Int} {s13 : Int} {w2 : Tjoint_place} {w3 : TValue} {o : Int} (h : joint_place_with_b2 s6 s11 s12 s13 w2 w3 = some o) : LpOfR Tryz.prog rd (fbody Tryz.prog 54) [0, 1, 1, 0, 0, 1, 0, 1, 1, 1] (joint_place_with_b2_I s6 s11 s12 s13 w2 w3) (joint_place_with_b2_O s6 s11 s12 s13 w2 w3 o) := by
  unfold joint_place_with_b2 at h
  apply g0 (o := o)
  refine xX 16 TSymbol.D h fun x1 h => ?_
  refine iB 23 h (fun h => ?_) fun h => ?_
  refine xX 30 TArg.D h fun x2 h => ?_
  obtain ⟨r3, h5, h⟩ := bS h
  refine gC 33 (joint_place_fits_ok h5) ?_
  obtain ⟨o4, h8, h⟩ := bS h
  refine gL (lv [2,3,5,6,7,11,12,13,34] [2,3]) (joint_place_with_b3_ok rd h8) ?_
  exact lP h (lv [2,3,5,6,11,12,13] [2,3])
  obtain ⟨o5, h9, h⟩ := bS h
  refine gL (lv [2,3,5,6,7,11,12,13,34] [2,3]) (joint_place_with_b3_ok rd h9) ?_
  exact lP h (lv [2,3,5,6,11,12,13] [2,3])
def joint_place_with_l1_I (s11 : List TSymbol) (s12 : Int) (w2 : Tjoint_place) (w3 : TValue) (s6 : Int) (s13 : Int) : St := ⟨sp 42 0 [(2, .box 2 0), (3, .box 3 0), (5, .clo (.func 84) [] []), (6, .d ((D.i .u64) s6)), (11, .d ((D.l TSymbol.D) s11)), (12, dI s12), (13, dI s13)], [(2, .cells ((cellsA (Tjoint_place.D w2)))), (3, .cells ((cellsA (TValue.D w3))))], []⟩
def joint_place_with_l1_O (s11 : List TSymbol) (s12 : Int) (w2 : Tjoint_place) (w3 : TValue) (o : Int) : Ex × St := (.exit 0, ⟨sp 42 0 [(6, .d ((D.i .u64) o))], [], []⟩)
theorem joint_place_with_l1_ok (rd : Option Nat) {s11 : List TSymbol} {s12 : Int} {w2 : Tjoint_place} {w3 : TValue} {s6 : Int} {s13 : Int} {t : Int} (h : joint_place_with_l1 s11 s12 w2 w3 s6 s13 = some t) : LpOfR Tryz.prog rd (fbody Tryz.prog 54) [0, 1, 0, 1, 1, 1] (joint_place_with_l1_I s11 s12 w2 w3 s6 s13) ((joint_place_with_l1_O s11 s12 w2 w3) t) :=
  loopE_lpR (fun s : Int × Int => joint_place_with_l1_I s11 s12 w2 w3 s.1 s.2) (joint_place_with_l1_O s11 s12 w2 w3) (by kernel_rfl) (fun t => isN_ne (by rfl)) (fun ⟨s6, s13⟩ o h => by
  replace h : joint_place_with_l1_s s11 s12 w2 w3 s6 s13 = some o := h
  unfold joint_place_with_l1_s at h
  apply g0 (o := o)
  refine iB 14 h (fun h => ?_) fun h => ?_
  obtain ⟨o6, h10, h⟩ := bS h
  refine gL (lv [2,3,5,6,11,12,13] [2,3]) (joint_place_with_b2_ok rd h10) ?_
  exact lB h (lv [2,3,5,6,11,12,13] [2,3])
  exact lB h (lv [6] [])) (s := (s6, s13)) (t := t) h
theorem joint_place_with_ok {a0 : Tjoint_place} {a1 : TValue} {r : Int} (h : joint_place_with a0 a1 = some r) : ACall Tryz.prog 54 [.d (Tjoint_place.D a0), .d (TValue.D a1)] [] (.d ((D.i .u64) r)) [] := by
  unfold joint_place_with at h
  apply g0 (o := r)
  refine gN 12 TSymbol.D a0.q.symbols ?_
  obtain ⟨o7, h11, h⟩ := bS h
  refine gL (lv [2,3,5,6,11,12,13] [2,3]) (joint_place_with_l1_ok none h11) ?_
  exact lF h []
def joint_narrow_m3_I (clk : Nat) (es : List (Nat × Int × Bool)) (us : List Value) (s8 : Int) (s12 : List TValue) (s13 : Int) (s14 : Int) (w0 : List (Int × Bool)) (w3 : Tjoint_place) (w5 : List (Int × Bool)) (sn : List Nat) : St := ⟨sp 33 0 [(0, .row 0), (3, .box 3 0), (5, .row 5), (8, .d ((D.i .u64) s8)), (12, .d ((D.l TValue.D) s12)), (13, dI s13), (14, dI s14), (22, .box 22 0)], [(0, .map clk (dl (D.i .u64) D.b es)), (3, .cells ((cellsA (Tjoint_place.D w3)))), (5, .mapS (ms (D.i .u64) D.b w5)), (22, .mit 0 clk sn), (997, .vals [] us)], []⟩
def joint_narrow_m3_O (clk : Nat) (es : List (Nat × Int × Bool)) (us : List Value) (s8 : Int) (s12 : List TValue) (s13 : Int) (s14 : Int) (w0 : List (Int × Bool)) (w3 : Tjoint_place) (o : (List (Int × Bool))) : Ex × St := (.exit 2, ⟨sp 33 0 [(0, .row 0), (3, .box 3 0), (5, .row 5), (12, .d ((D.l TValue.D) s12)), (13, dI s13), (14, dI s14)], [(0, .map clk (dl (D.i .u64) D.b es)), (3, .cells ((cellsA (Tjoint_place.D w3)))), (5, .mapS (ms (D.i .u64) D.b o)), (997, .vals [] us)], []⟩)
def joint_narrow_m3_Q (clk : Nat) (es : List (Nat × Int × Bool)) (us : List Value) (s8 : Int) (s12 : List TValue) (s13 : Int) (s14 : Int) (w0 : List (Int × Bool)) (w3 : Tjoint_place) (w5 : List (Int × Bool)) : St := ⟨sp 33 0 [(0, .row 0), (3, .box 3 0), (5, .row 5), (12, .d ((D.l TValue.D) s12)), (13, dI s13), (14, dI s14)], [(0, .map clk (dl (D.i .u64) D.b es)), (3, .cells ((cellsA (Tjoint_place.D w3)))), (5, .mapS (ms (D.i .u64) D.b w5)), (997, .vals [] us)], []⟩
set_option maxRecDepth 100000 in
theorem joint_narrow_m3_rnd (rd : Option Nat) (us : List Value) (clk : Nat) (es : List (Nat × Int × Bool)) (s8 : Int) (s12 : List TValue) (s13 : Int) (s14 : Int) (w0 : List (Int × Bool)) (w3 : Tjoint_place) (k : Int) (v : Bool) (w5 : List (Int × Bool)) (sn : List Nat) (st : Nat) (hm : (st, k, v) ∈ es) (o : (List (Int × Bool))) (h : joint_narrow_m3_s s8 s12 s13 s14 w0 w3 k v w5 = some o) : ACNa Tryz.prog rd (fbody Tryz.prog 35) [0, 1, 1, 1, 0, 0, 1, 1, 0, 0, 1, 0, 1, 1] ((⟨(joint_narrow_m3_I clk es us s8 s12 s13 s14 w0 w3 w5 sn).E, updB (joint_narrow_m3_I clk es us s8 s12 s13 s14 w0 w3 w5 sn).B 22 (.mit 0 clk (sn ++ [st])), []⟩ : St).put (some 23) (.tup [bo true, .d ((D.i .u64) k), .d (D.b v)])) fun zx zs => zx = .normal ∧ Wk zs ((fun s : (List (Int × Bool)) => joint_narrow_m3_I clk es us s8 s12 s13 s14 w0 w3 s (sn ++ [st])) o) := by
  unfold joint_narrow_m3_s at h
  obtain rfl := si h
  exact runN_acn mixed [(25, .en ((D.i .u64) k) (D.b v)), (10027, .ms (ms (D.i .u64) D.b (putS (intVal .and .u64 k s8) true w5)))] [] [.live [0, 3, 5, 8, 12, 13, 14, 22], .keep [0, 3, 5, 22, 997]] (ai (menr_ok (fk := (D.i .u64)) (fv := D.b) (clk := clk) (sn := sn) hm) (ai (putS_ok (keyI Tryz.underlying33) D.b w5 (intVal .and .u64 k s8) true) (ti))) (by kernel_rfl)
set_option maxRecDepth 100000 in
theorem joint_narrow_m3_end (rd : Option Nat) (us : List Value) (clk : Nat) (es : List (Nat × Int × Bool)) (s8 : Int) (s12 : List TValue) (s13 : Int) (s14 : Int) (w0 : List (Int × Bool)) (w3 : Tjoint_place) (w5 : List (Int × Bool)) (sn : List Nat) : ACNa Tryz.prog rd (fbody Tryz.prog 35) [0, 1, 1, 1, 0, 0, 1, 1, 0, 0, 1, 0, 1, 1] ((joint_narrow_m3_I clk es us s8 s12 s13 s14 w0 w3 w5 sn).put (some 23) (.tup [bo false])) fun zx zs => zx = (joint_narrow_m3_O clk es us s8 s12 s13 s14 w0 w3 (joint_narrow_m3_c s8 s12 s13 s14 w0 w3 w5)).1 ∧ Wk zs (joint_narrow_m3_O clk es us s8 s12 s13 s14 w0 w3 (joint_narrow_m3_c s8 s12 s13 s14 w0 w3 w5)).2 := by
  refine ACNa.wk (e := .exit 2) (s1 := joint_narrow_m3_Q clk es us s8 s12 s13 s14 w0 w3 w5) (runN_acn mixed [] [] [.live [0, 3, 5, 12, 13, 14], .keep [0, 3, 5, 997]] (ti) (by kernel_rfl)) ?_
  exact (Wk.canS 5 (by kernel_rfl) rfl)
set_option maxRecDepth 100000 in
theorem joint_narrow_m3_ok (rd : Option Nat) (us : List Value) (clk : Nat) (es : List (Nat × Int × Bool)) (s8 : Int) (s12 : List TValue) (s13 : Int) (s14 : Int) (w0 : List (Int × Bool)) (w3 : Tjoint_place) (w5 : List (Int × Bool)) (hp : (es.map (·.2)).Perm w0) (o : (List (Int × Bool))) (h : joint_narrow_m3 s8 s12 s13 s14 w0 w3 w5 = some o) : LpOf Tryz.prog rd (fbody Tryz.prog 35) [0, 1, 1, 1, 0, 0, 1, 1, 0, 0, 1, 0, 1, 1] (joint_narrow_m3_I clk es us s8 s12 s13 s14 w0 w3 w5 []) ((joint_narrow_m3_O clk es us s8 s12 s13 s14 w0 w3) o).1 ((joint_narrow_m3_O clk es us s8 s12 s13 s14 w0 w3) o).2 :=
  mapLoop (fk := (D.i .u64)) (fv := D.b) (step := (fun (x : Int × Bool) (s : (List (Int × Bool))) => joint_narrow_m3_s s8 s12 s13 s14 w0 w3 x.1 x.2 s)) (s0 := w5) 22 23 22 0 clk es (fun (sn : List Nat) (s : (List (Int × Bool))) => joint_narrow_m3_I clk es us s8 s12 s13 s14 w0 w3 s sn) (joint_narrow_m3_O clk es us s8 s12 s13 s14 w0 w3) (by kernel_rfl) (isN_ne (by rfl)) (fun _ _ => by kernel_rfl) (fun _ _ => by kernel_rfl) (fun _ _ => by kernel_rfl) hp
    (fun sn s k v st a hm h => joint_narrow_m3_rnd rd us clk es s8 s12 s13 s14 w0 w3 k v s sn st hm a h) (fun sn s hc => hc ▸ joint_narrow_m3_end rd us clk es s8 s12 s13 s14 w0 w3 s sn) h
def joint_narrow_b2_I (us : List Value) (s8 : Int) (s12 : List TValue) (s13 : Int) (s14 : Int) (w0 : List (Int × Bool)) (w3 : Tjoint_place) (w5 : List (Int × Bool)) : St := ⟨sp 33 0 [(0, .row 0), (3, .box 3 0), (5, .row 5), (8, .d ((D.i .u64) s8)), (12, .d ((D.l TValue.D) s12)), (13, dI s13), (14, dI s14)], [(0, .mapS (ms (D.i .u64) D.b w0)), (3, .cells ((cellsA (Tjoint_place.D w3)))), (5, .mapS (ms (D.i .u64) D.b w5)), (997, .vals [] us)], []⟩
def joint_narrow_b2_O (us : List Value) (s8 : Int) (s12 : List TValue) (s13 : Int) (s14 : Int) (w0 : List (Int × Bool)) (w3 : Tjoint_place) (w5 : List (Int × Bool)) (o : (List (Int × Bool))) : Ex × St := (.normal, ⟨sp 33 0 [(0, .row 0), (3, .box 3 0), (5, .row 5), (12, .d ((D.l TValue.D) s12)), (13, dI s13), (14, dI s14)], [(0, .mapS (ms (D.i .u64) D.b w0)), (3, .cells ((cellsA (Tjoint_place.D w3)))), (5, .mapS (ms (D.i .u64) D.b o)), (997, .vals [] us)], []⟩)
theorem joint_narrow_b2_ok (rd : Option Nat) (us : List Value) {s8 : Int} {s12 : List TValue} {s13 : Int} {s14 : Int} {w0 : List (Int × Bool)} {w3 : Tjoint_place} {w5 : List (Int × Bool)} {o : (List (Int × Bool))} (h : joint_narrow_b2 s8 s12 s13 s14 w0 w3 w5 = some o) : LpOfR Tryz.prog rd (fbody Tryz.prog 35) [1, 1, 0, 0, 1, 1, 0, 0, 1, 0, 1, 1] (joint_narrow_b2_I us s8 s12 s13 s14 w0 w3 w5) (joint_narrow_b2_O us s8 s12 s13 s14 w0 w3 w5 o) := by
  unfold joint_narrow_b2 at h
  obtain ⟨o4, h5, h⟩ := bS h
  obtain rfl := si h
  exact Arr.lp (Arr.exact (fk := (D.i .u64)) (fv := D.b) (S := w0) 0 (by kernel_rfl) fun clk es hp => Arr.setm (fk := (D.i .u64)) (fv := D.b) (S := w0) (clk := clk) (es := es) 0 hp (by kernel_rfl) (by kernel_rfl) (runB_arr mixed [] [⟨[0, 1, 1, 1, 0, 0, 1, 1, 0, 0, 1, 0, 1, 1], [.live [0, 3, 5, 8, 12, 13, 14, 22], .keep [0, 3, 5, 22, 997]], .exit 2, (joint_narrow_m3_O clk es us s8 s12 s13 s14 w0 w3 o4).2⟩] [.live [0, 3, 5, 12, 13, 14], .keep [0, 3, 5, 997]] (ai (joint_narrow_m3_ok rd us clk es s8 s12 s13 s14 w0 w3 w5 hp o4 h5) (ti)) (by kernel_rfl)))
def joint_narrow_l1_I (us : List Value) (s12 : List TValue) (s13 : Int) (w0 : List (Int × Bool)) (w3 : Tjoint_place) (s14 : Int) (w5 : List (Int × Bool)) : St := ⟨sp 33 0 [(0, .row 0), (3, .box 3 0), (5, .row 5), (12, .d ((D.l TValue.D) s12)), (13, dI s13), (14, dI s14)], [(0, .mapS (ms (D.i .u64) D.b w0)), (3, .cells ((cellsA (Tjoint_place.D w3)))), (5, .mapS (ms (D.i .u64) D.b w5)), (997, .vals [] us)], []⟩
def joint_narrow_l1_O (us : List Value) (s12 : List TValue) (s13 : Int) (w0 : List (Int × Bool)) (w3 : Tjoint_place) (o : (List (Int × Bool))) : Ex × St := (.exit 0, ⟨sp 33 0 [(5, .row 5)], [(5, .mapS (ms (D.i .u64) D.b o)), (997, .vals [] us)], []⟩)
theorem joint_narrow_l1_ok (rd : Option Nat) (us : List Value) {s12 : List TValue} {s13 : Int} {w0 : List (Int × Bool)} {w3 : Tjoint_place} {s14 : Int} {w5 : List (Int × Bool)} {t : (List (Int × Bool))} (h : joint_narrow_l1 s12 s13 w0 w3 s14 w5 = some t) : LpOfR Tryz.prog rd (fbody Tryz.prog 35) [0, 1, 0, 1, 1] (joint_narrow_l1_I us s12 s13 w0 w3 s14 w5) ((joint_narrow_l1_O us s12 s13 w0 w3) t) :=
  loopE_lpR (fun s : Int × (List (Int × Bool)) => joint_narrow_l1_I us s12 s13 w0 w3 s.1 s.2) (joint_narrow_l1_O us s12 s13 w0 w3) (by kernel_rfl) (fun t => isN_ne (by rfl)) (fun ⟨s14, w5⟩ o h => by
  replace h : joint_narrow_l1_s s12 s13 w0 w3 s14 w5 = some o := h
  unfold joint_narrow_l1_s at h
  apply g0 (o := o)
  refine iB 15 h (fun h => ?_) fun h => ?_
  refine xX 16 TValue.D h fun x2 h => ?_
  obtain ⟨r3, h4, h⟩ := bS h
  refine gC 20 (joint_place_with_ok h4) ?_
  obtain ⟨o5, h6, h⟩ := bS h
  refine gL (lv [0,3,5,8,12,13,14] [0,3,5,997]) (joint_narrow_b2_ok rd us h6) ?_
  exact lB h (lv [0,3,5,12,13,14] [0,3,5,997])
  exact lB h (lv [5] [5,997])) (s := (s14, w5)) (t := t) h
theorem joint_narrow_ok {a1 : Tjoint_place} {w0 : List (Int × Bool)} {r : (List (Int × Bool))} (h : joint_narrow a1 w0 = some r) : ACall Tryz.prog 35 [.row 0, .d (Tjoint_place.D a1)] [(0, .mapS (ms (D.i .u64) D.b w0))] (.row 1) [(1, .mapS (ms (D.i .u64) D.b r))] := by
  unfold joint_narrow at h
  refine XG.call (ks := []) mixed fun us => ?_
  apply g0 (o := r)
  refine gW 10 .frz ?_
  obtain ⟨r1, h1, h⟩ := bS h
  refine gC 12 (joint_place_values_ok h1) <| gN 13 TValue.D r1 ?_
  obtain ⟨o6, h7, h⟩ := bS h
  refine gL [.live [0,3,5,12,13,14], .keep [0,3,10,997], .ren 10 5, .sort] (joint_narrow_l1_ok none us h7) ?_
  exact lX h [.live [4], .keep [5,997], .ren 5 1, .sort]
def math_bits_Len64_b1_I (s0 : Int) (s2 : Int) (s4 : Bool) : St := ⟨sp 25 0 [(0, .d ((D.i .u64) s0)), (2, dI s2), (4, .d (D.b s4))], [], []⟩
def math_bits_Len64_b1_O (s0 : Int) (s2 : Int) (s4 : Bool) (o : (Int × Int)) : Ex × St := (.normal, ⟨sp 25 0 [(0, .d ((D.i .u64) o.1)), (2, dI o.2)], [], []⟩)
theorem math_bits_Len64_b1_ok (rd : Option Nat) {s0 : Int} {s2 : Int} {s4 : Bool} {o : (Int × Int)} (h : math_bits_Len64_b1 s0 s2 s4 = some o) : LpOfR Tryz.prog rd (fbody Tryz.prog 95) [1, 0, 1] (math_bits_Len64_b1_I s0 s2 s4) (math_bits_Len64_b1_O s0 s2 s4 o) := by
  unfold math_bits_Len64_b1 at h
  apply g0 (o := o)
  cases s4
  replace h := iteF h
  exact lP h (lv [0,2] [])
  replace h := iteT h
  refine gQ (of_decide_eq_true rfl : (0 : Int) ≤ 32) ?_
  exact lP h (lv [0,2] [])
def math_bits_Len64_b2_I (s0 : Int) (s2 : Int) (s8 : Bool) : St := ⟨sp 25 0 [(0, .d ((D.i .u64) s0)), (2, dI s2), (8, .d (D.b s8))], [], []⟩
def math_bits_Len64_b2_O (s0 : Int) (s2 : Int) (s8 : Bool) (o : (Int × Int)) : Ex × St := (.normal, ⟨sp 25 0 [(0, .d ((D.i .u64) o.1)), (2, dI o.2)], [], []⟩)
theorem math_bits_Len64_b2_ok (rd : Option Nat) {s0 : Int} {s2 : Int} {s8 : Bool} {o : (Int × Int)} (h : math_bits_Len64_b2 s0 s2 s8 = some o) : LpOfR Tryz.prog rd (fbody Tryz.prog 95) [1, 0, 1, 1] (math_bits_Len64_b2_I s0 s2 s8) (math_bits_Len64_b2_O s0 s2 s8 o) := by
  unfold math_bits_Len64_b2 at h
  apply g0 (o := o)
  cases s8
  replace h := iteF h
  exact lP h (lv [0,2] [])
  replace h := iteT h
  refine gQ (of_decide_eq_true rfl : (0 : Int) ≤ 16) ?_
  exact lP h (lv [0,2] [])
def math_bits_Len64_b3_I (s0 : Int) (s2 : Int) (s14 : Bool) : St := ⟨sp 25 0 [(0, .d ((D.i .u64) s0)), (2, dI s2), (14, .d (D.b s14))], [], []⟩
def math_bits_Len64_b3_O (s0 : Int) (s2 : Int) (s14 : Bool) (o : (Int × Int)) : Ex × St := (.normal, ⟨sp 25 0 [(0, .d ((D.i .u64) o.1)), (2, dI o.2)], [], []⟩)
theorem math_bits_Len64_b3_ok (rd : Option Nat) {s0 : Int} {s2 : Int} {s14 : Bool} {o : (Int × Int)} (h : math_bits_Len64_b3 s0 s2 s14 = some o) : LpOfR Tryz.prog rd (fbody Tryz.prog 95) [1, 0, 1, 1, 1] (math_bits_Len64_b3_I s0 s2 s14) (math_bits_Len64_b3_O s0 s2 s14 o) := by
  unfold math_bits_Len64_b3 at h
  apply g0 (o := o)
  cases s14
  replace h := iteF h
  exact lP h (lv [0,2] [])
  replace h := iteT h
  refine gQ (of_decide_eq_true rfl : (0 : Int) ≤ 8) ?_
  exact lP h (lv [0,2] [])
theorem math_bits_Len64_ok {a0 : Int} {r : Int} (h : math_bits_Len64 a0 = some r) : ACall Tryz.prog 95 [.d ((D.i .u64) a0)] [] (dI r) [] := by
  unfold math_bits_Len64 at h
  apply g0 (o := r)
  obtain ⟨o1, h2, h⟩ := bS h
  refine gL (lv [0,2,4] []) (math_bits_Len64_b1_ok none h2) ?_
  obtain ⟨o2, h4, h⟩ := bS h
  refine gL (lv [0,2,8] []) (math_bits_Len64_b2_ok none h4) ?_
  obtain ⟨o3, h6, h⟩ := bS h
  refine gL (lv [0,2,14] []) (math_bits_Len64_b3_ok none h6) <| gG 21 (.int (u8w o3.1).toNat) (u8w_ok o3.1) ?_
  obtain ⟨x4, h7, h⟩ := xS h
  refine gG 22 (.int x4.toNat) (byte_ok h7) <| gG 23 (.int x4.toNat) (wrap_u8_i64 x4) ?_
  exact lF h []
theorem math_bits_Len_ok {a0 : Int} {r : Int} (h : math_bits_Len a0 = some r) : ACall Tryz.prog 56 [.d ((D.i .u64) a0)] [] (dI r) [] := by
  unfold math_bits_Len at h
  apply g0 (o := r)
  obtain ⟨r1, h1, h⟩ := bS h
  refine gC 7 (math_bits_Len64_ok h1) ?_
  exact lF h []
theorem cmp_isNaN_uint64_ok {a0 : Int} {r : Bool} (h : cmp_isNaN_uint64 a0 = some r) : ACall Tryz.prog 122 [.d ((D.i .u64) a0)] [] (.d (D.b r)) [] := by
  unfold cmp_isNaN_uint64 at h
  apply g0 (o := r)
  exact lF h []
theorem cmp_Less_uint64_ok {a0 : Int} {a1 : Int} {r : Bool} (h : cmp_Less_uint64 a0 a1 = some r) : ACall Tryz.prog 91 [.d ((D.i .u64) a0), .d ((D.i .u64) a1)] [] (.d (D.b r)) [] := by
  unfold cmp_Less_uint64 at h
  apply g0 (o := r)
  obtain ⟨r1, h1, h⟩ := bS h
  refine gQ (cmp_isNaN_uint64_ok h1) ?_
  cases r1
  replace h := iteF h
  refine gW 6 (.ret (.d (D.b false))) ?_
  exact lF h []
  replace h := iteT h
  refine gW 6 (.ret (.d (D.b true))) ?_
  obtain ⟨r2, h3, h⟩ := bS h
  refine gC 9 (cmp_isNaN_uint64_ok h3) ?_
  refine iB 12 h (fun h => ?_) fun h => ?_
  exact lF h []
  exact lF h []
def slices_insertionSortOrdered_uint64_l2_I (us : List Value) (s1 : Int) (s2 : Int) (s6 : Int) (s7 : Int) (w0 : List Int) : St := ⟨sp 49 0 [(0, .row 0), (1, dI s1), (2, dI s2), (6, dI s6), (7, dI s7)], [(0, .rw 33 1 (w0.map (D.i .u64))), (997, .vals [.row 0] us)], []⟩
def slices_insertionSortOrdered_uint64_l2_O (us : List Value) (s1 : Int) (s2 : Int) (s6 : Int) (o : (List Int)) : Ex × St := (.exit 2, ⟨sp 49 0 [(0, .row 0), (1, dI s1), (2, dI s2), (6, dI s6)], [(0, .rw 33 1 (o.map (D.i .u64))), (997, .vals [.row 0] us)], []⟩)
theorem slices_insertionSortOrdered_uint64_l2_ok (rd : Option Nat) (us : List Value) {s1 : Int} {s2 : Int} {s6 : Int} {s7 : Int} {w0 : List Int} {t : (List Int)} (h : slices_insertionSortOrdered_uint64_l2 s1 s2 s6 s7 w0 = some t) : LpOfR Tryz.prog rd (fbody Tryz.prog 85) [0, 1, 0, 0, 1, 0, 0, 1] (slices_insertionSortOrdered_uint64_l2_I us s1 s2 s6 s7 w0) ((slices_insertionSortOrdered_uint64_l2_O us s1 s2 s6) t) :=
  loopE_lpR (fun s : Int × List Int => slices_insertionSortOrdered_uint64_l2_I us s1 s2 s6 s.1 s.2) (slices_insertionSortOrdered_uint64_l2_O us s1 s2 s6) (by kernel_rfl) (fun t => isN_ne (by rfl)) (fun ⟨s7, w0⟩ o h => by
  replace h : slices_insertionSortOrdered_uint64_l2_s s1 s2 s6 s7 w0 = some o := h
  unfold slices_insertionSortOrdered_uint64_l2_s at h
  apply g0 (o := o)
  refine iB 19 h (fun h => ?_) fun h => ?_
  obtain ⟨h3, h⟩ := cS h
  refine gQ h3.1 <| gQ (le_map (D.i .u64) h3.2) ?_
  obtain ⟨x1, h4, h⟩ := xS h
  refine gG 23 (.el ((D.i .u64) x1)) (elem_ep (D.i .u64) h4) ?_
  obtain ⟨h5, h⟩ := cS h
  refine gQ h5.1 <| gQ (le_map (D.i .u64) h5.2) ?_
  obtain ⟨x2, h6, h⟩ := xS h
  refine gG 28 (.el ((D.i .u64) x2)) (elem_ep (D.i .u64) h6) ?_
  obtain ⟨r3, h7, h⟩ := bS h
  refine gQ (cmp_Less_uint64_ok h7) ?_
  cases r3
  replace h := iteF h
  refine gW 29 (.ret (.d (D.b false))) ?_
  exact lB h (lv [0,1,2,6] [0,997])
  replace h := iteT h
  refine gW 29 (.ret (.d (D.b true))) ?_
  obtain ⟨h9, h⟩ := cS h
  refine gQ h9.1 <| gQ (le_map (D.i .u64) h9.2) ?_
  obtain ⟨x4, h10, h⟩ := xS h
  refine gG 42 (.el ((D.i .u64) x4)) (elem_ep (D.i .u64) h10) <| gW 10047 (.sl ((w0.set s7.toNat x4).map (D.i .u64))) ?_
  obtain ⟨h11, h⟩ := cS h
  refine gQ h11.1 <| gQ (le_map (D.i .u64) h11.2) ?_
  obtain ⟨x5, h12, h⟩ := xS h
  refine gG 46 (.el ((D.i .u64) x5)) (elem_ep (D.i .u64) h12) <| gW 10048 (.sl (((w0.set s7.toNat x4).set (intVal .sub .i64 s7 1).toNat x5).map (D.i .u64))) ?_
  obtain ⟨h13, h⟩ := cS h
  refine gQ h13.1 <| gQ (le_map (D.i .u64) h13.2) ?_
  obtain ⟨h14, h⟩ := cS h
  refine gQ (le_ep (D.i .u64) h14) <| gQ (upd_map (D.i .u64) w0 s7 x4) ?_
  obtain ⟨h15, h⟩ := cS h
  refine gQ h15.1 <| gQ (le_map (D.i .u64) h15.2) ?_
  obtain ⟨h16, h⟩ := cS h
  refine gQ (le_ep (D.i .u64) h16) <| gQ (upd_map (D.i .u64) (w0.set s7.toNat x4) (intVal .sub .i64 s7 1) x5) ?_
  exact lB h (lv [0,1,2,6,7] [0,997])
  exact lB h (lv [0,1,2,6] [0,997])) (s := (s7, w0)) (t := t) h
def slices_insertionSortOrdered_uint64_l1_I (us : List Value) (s1 : Int) (s2 : Int) (s6 : Int) (w0 : List Int) : St := ⟨sp 49 0 [(0, .row 0), (1, dI s1), (2, dI s2), (6, dI s6)], [(0, .rw 33 1 (w0.map (D.i .u64))), (997, .vals [.row 0] us)], []⟩
def slices_insertionSortOrdered_uint64_l1_O (us : List Value) (s1 : Int) (s2 : Int) (o : (List Int)) : Ex × St := (.exit 0, ⟨sp 49 0 [], [(0, .rw 33 1 (o.map (D.i .u64))), (997, .vals [.row 0] us)], []⟩)
theorem slices_insertionSortOrdered_uint64_l1_ok (rd : Option Nat) (us : List Value) {s1 : Int} {s2 : Int} {s6 : Int} {w0 : List Int} {t : (List Int)} (h : slices_insertionSortOrdered_uint64_l1 s1 s2 s6 w0 = some t) : LpOfR Tryz.prog rd (fbody Tryz.prog 85) [0, 1] (slices_insertionSortOrdered_uint64_l1_I us s1 s2 s6 w0) ((slices_insertionSortOrdered_uint64_l1_O us s1 s2) t) :=
  loopE_lpR (fun s : Int × List Int => slices_insertionSortOrdered_uint64_l1_I us s1 s2 s.1 s.2) (slices_insertionSortOrdered_uint64_l1_O us s1 s2) (by kernel_rfl) (fun t => isN_ne (by rfl)) (fun ⟨s6, w0⟩ o h => by
  replace h : slices_insertionSortOrdered_uint64_l1_s s1 s2 s6 w0 = some o := h
  unfold slices_insertionSortOrdered_uint64_l1_s at h
  apply g0 (o := o)
  refine iB 12 h (fun h => ?_) fun h => ?_
  obtain ⟨o6, h17, h⟩ := bS h
  refine gL (lv [0,1,2,6,7] [0,997]) (slices_insertionSortOrdered_uint64_l2_ok rd us h17) ?_
  exact lB h (lv [0,1,2,6] [0,997])
  exact lB h (lv [] [0,997])) (s := (s6, w0)) (t := t) h
theorem slices_insertionSortOrdered_uint64_ok {a1 : Int} {a2 : Int} {w0 : List Int} {r : List Int} (h : slices_insertionSortOrdered_uint64 a1 a2 w0 = some r) : ACall Tryz.prog 85 [.row 0, dI a1, dI a2] [(0, .rw 33 1 (w0.map (D.i .u64)))] (.tup []) [(0, .rw 33 1 (r.map (D.i .u64)))] := by
  unfold slices_insertionSortOrdered_uint64 at h
  refine XG.call (ks := [0]) mixed fun us => ?_
  apply g0 (o := r)
  obtain ⟨o7, h18, h⟩ := bS h
  refine gL (lv [0,1,2,6] [0,997]) (slices_insertionSortOrdered_uint64_l1_ok none us h18) ?_
  exact lX h (lv [] [0,997])
def slices_pdqsortOrdered_uint64_b3_I (us : List Value) (s1 : Int) (s2 : Int) (s3 : Int) (s8 : Bool) (s9 : Bool) (s10 : Int) (s35 : Bool) (w0 : List Int) : St := ⟨sp 134 0 [(0, .row 0), (1, dI s1), (2, dI s2), (3, dI s3), (8, .d (D.b s8)), (9, .d (D.b s9)), (10, dI s10), (35, .d (D.b s35))], [(0, .rw 33 1 (w0.map (D.i .u64))), (997, .vals [.row 0] us)], []⟩
def slices_pdqsortOrdered_uint64_b3_O (us : List Value) (s1 : Int) (s2 : Int) (s3 : Int) (s8 : Bool) (s9 : Bool) (s10 : Int) (s35 : Bool) (w0 : List Int) (o : Unit) : Ex × St := (.normal, ⟨sp 134 0 [(0, .row 0), (1, dI s1), (2, dI s2), (3, dI s3), (8, .d (D.b s8)), (9, .d (D.b s9)), (10, dI s10)], [(0, .rw 33 1 (w0.map (D.i .u64))), (997, .vals [.row 0] us)], []⟩)
theorem slices_pdqsortOrdered_uint64_b3_ok (rd : Option Nat) (us : List Value) {s1 : Int} {s2 : Int} {s3 : Int} {s8 : Bool} {s9 : Bool} {s10 : Int} {s35 : Bool} {w0 : List Int} {o : Unit} (h : slices_pdqsortOrdered_uint64_b3 s1 s2 s3 s8 s9 s10 s35 w0 = some o) : LpOfR Tryz.prog rd (fbody Tryz.prog 55) [1, 0, 1, 1, 1, 0, 0, 0, 1, 1] (slices_pdqsortOrdered_uint64_b3_I us s1 s2 s3 s8 s9 s10 s35 w0) (slices_pdqsortOrdered_uint64_b3_O us s1 s2 s3 s8 s9 s10 s35 w0 o) := by
  unfold slices_pdqsortOrdered_uint64_b3 at h
  apply g0 (o := o)
  cases s35
  replace h := iteF h
  exact lP h (lv [0,1,2,3,8,9,10] [0,997])
  replace h := iteT h
  cases h
def slices_pdqsortOrdered_uint64_b2_I (us : List Value) (s1 : Int) (s2 : Int) (s3 : Int) (s8 : Bool) (s9 : Bool) (w0 : List Int) : St := ⟨sp 134 0 [(0, .row 0), (1, dI s1), (2, dI s2), (3, dI s3), (8, .d (D.b s8)), (9, .d (D.b s9))], [(0, .rw 33 1 (w0.map (D.i .u64))), (997, .vals [.row 0] us)], []⟩
def slices_pdqsortOrdered_uint64_b2_O (us : List Value) (s1 : Int) (s2 : Int) (s3 : Int) (s8 : Bool) (s9 : Bool) (w0 : List Int) (o : (List Int)) : Ex × St := (.ret, ⟨sp 134 0 [], [(0, .rw 33 1 (o.map (D.i .u64))), (997, .vals [.row 0] us)], []⟩)
theorem slices_pdqsortOrdered_uint64_b2_ok (rd : Option Nat) (us : List Value) {s1 : Int} {s2 : Int} {s3 : Int} {s8 : Bool} {s9 : Bool} {w0 : List Int} {o : (List Int)} (h : slices_pdqsortOrdered_uint64_b2 s1 s2 s3 s8 s9 w0 = some o) : LpOfR Tryz.prog rd (fbody Tryz.prog 55) [0, 0, 1, 1] (slices_pdqsortOrdered_uint64_b2_I us s1 s2 s3 s8 s9 w0) (slices_pdqsortOrdered_uint64_b2_O us s1 s2 s3 s8 s9 w0 o) := by
  unfold slices_pdqsortOrdered_uint64_b2 at h
  apply g0 (o := o)
  refine gW 23 (.bit true) ?_
  rcases iS h with ⟨h1, h⟩ | ⟨h1, h⟩
  refine gQ h1 ?_
  obtain ⟨r1, h2, h⟩ := bS h
  refine gG 27 (.cx false [(0,0)] [] (.tup []) [(0, .rw 33 1 (r1.map (D.i .u64)))]) (slices_insertionSortOrdered_uint64_ok h2) ?_
  exact lP h (lv [] [0,997])
  rcases iS h with ⟨h3, h⟩ | ⟨h3, h⟩
  cases h
  obtain ⟨o2, h5, h⟩ := bS h
  cases h
def slices_pdqsortOrdered_uint64_l1_I (us : List Value) (s1 : Int) (s2 : Int) (s3 : Int) (s8 : Bool) (s9 : Bool) (w0 : List Int) : St := ⟨sp 134 0 [(0, .row 0), (1, dI s1), (2, dI s2), (3, dI s3), (8, .d (D.b s8)), (9, .d (D.b s9))], [(0, .rw 33 1 (w0.map (D.i .u64))), (997, .vals [.row 0] us)], []⟩
def slices_pdqsortOrdered_uint64_l1_O (us : List Value) (s1 : Int) (s2 : Int) (s3 : Int) (s8 : Bool) (s9 : Bool) (w0 : List Int) (o : (List Int)) : Ex × St := (.ret, ⟨sp 134 0 [], [(0, .rw 33 1 (o.map (D.i .u64))), (997, .vals [.row 0] us)], []⟩)
theorem slices_pdqsortOrdered_uint64_l1_ok (rd : Option Nat) (us : List Value) {s1 : Int} {s2 : Int} {s3 : Int} {s8 : Bool} {s9 : Bool} {w0 : List Int} {t : (List Int)} (h : slices_pdqsortOrdered_uint64_l1 s1 s2 s3 s8 s9 w0 = some t) : LpOfR Tryz.prog rd (fbody Tryz.prog 55) [0, 1, 1] (slices_pdqsortOrdered_uint64_l1_I us s1 s2 s3 s8 s9 w0) ((slices_pdqsortOrdered_uint64_l1_O us s1 s2 s3 s8 s9 w0) t) :=
  loopE_lpR (fun s : Unit => slices_pdqsortOrdered_uint64_l1_I us s1 s2 s3 s8 s9 w0) (slices_pdqsortOrdered_uint64_l1_O us s1 s2 s3 s8 s9 w0) (by kernel_rfl) (fun t => isN_ne (by rfl)) (fun _ o h => by
  replace h : slices_pdqsortOrdered_uint64_l1_s s1 s2 s3 s8 s9 w0 = some o := h
  unfold slices_pdqsortOrdered_uint64_l1_s at h
  apply g0 (o := o)
  obtain ⟨o3, h6, h⟩ := bS h
  refine gL (lv [0,1,2,3,8,9] [0,997]) (slices_pdqsortOrdered_uint64_b2_ok rd us h6) ?_
  exact lB h (lv [] [0,997])) (s := ()) (t := t) h
theorem slices_pdqsortOrdered_uint64_ok {a1 : Int} {a2 : Int} {a3 : Int} {w0 : List Int} {r : List Int} (h : slices_pdqsortOrdered_uint64 a1 a2 a3 w0 = some r) : ACall Tryz.prog 55 [.row 0, dI a1, dI a2, dI a3] [(0, .rw 33 1 (w0.map (D.i .u64)))] (.tup []) [(0, .rw 33 1 (r.map (D.i .u64)))] := by
  unfold slices_pdqsortOrdered_uint64 at h
  refine XG.call (ks := [0]) mixed fun us => ?_
  apply g0 (o := r)
  obtain ⟨o4, h7, h⟩ := bS h
  refine gL (lv [0,1,2,3,8,9] [0,997]) (slices_pdqsortOrdered_uint64_l1_ok none us h7) ?_
  exact lX h (lv [] [0,997])
theorem slices_Sort_uint64_uint64_ok {w0 : List Int} {r : List Int} (h : slices_Sort_uint64_uint64 w0 = some r) : ACall Tryz.prog 36 [.row 0] [(0, .rw 33 1 (w0.map (D.i .u64)))] (.tup []) [(0, .rw 33 1 (r.map (D.i .u64)))] := by
  unfold slices_Sort_uint64_uint64 at h
  refine XG.call (ks := [0]) mixed fun us => ?_
  apply g0 (o := r)
  refine gN 4 (D.i .u64) w0 ?_
  obtain ⟨r1, h1, h⟩ := bS h
  refine gC 9 (math_bits_Len_ok h1) ?_
  obtain ⟨r2, h2, h⟩ := bS h
  refine gG 10 (.cx false [(0,0)] [] (.tup []) [(0, .rw 33 1 (r2.map (D.i .u64)))]) (slices_pdqsortOrdered_uint64_ok h2) ?_
  exact lX h (lv [] [0,997])
theorem slices_Sort_uint64_uint64_v2_ok {xs r : List Int} (h : slices_Sort_uint64_uint64_v2 xs = some r) : ACall Tryz.prog 36 [.row 0] [(0, .bag 33 1 (xs.map (D.i .u64)))] (.tup []) [(0, .rw 33 1 (r.map (D.i .u64)))] :=
  ACall.bagE (R := fun _ => .tup []) (X' := fun r => [(0, .rw 33 1 (r.map (D.i .u64)))]) (fun _ _ h => slices_Sort_uint64_uint64_ok h) r h
def joint_Sets_l2_I (s1 : List TSlot) (s6 : Int) (s15 : Int) (s16 : Int) (s30 : Int) (w2 : TQea) (w5 : List (Int × Bool)) (s31 : Int) (w7 : List (Int × Bool)) : St := ⟨sp 65 0 [(1, .d ((D.l TSlot.D) s1)), (2, .box 2 0), (5, .row 5), (6, dI s6), (7, .row 7), (15, dI s15), (16, dI s16), (30, dI s30), (31, dI s31)], [(2, .cells ((cellsA (TQea.D w2)))), (5, .mapS (ms (D.i .u64) D.b w5)), (7, .mapS (ms (D.i .u64) D.b w7))], []⟩
def joint_Sets_l2_O (s1 : List TSlot) (s6 : Int) (s15 : Int) (s16 : Int) (s30 : Int) (w2 : TQea) (w5 : List (Int × Bool)) (o : (List (Int × Bool))) : Ex × St := (.exit 2, ⟨sp 65 0 [(1, .d ((D.l TSlot.D) s1)), (2, .box 2 0), (5, .row 5), (7, .row 7), (15, dI s15), (16, dI s16)], [(2, .cells ((cellsA (TQea.D w2)))), (5, .mapS (ms (D.i .u64) D.b w5)), (7, .mapS (ms (D.i .u64) D.b o))], []⟩)
theorem joint_Sets_l2_ok (rd : Option Nat) {s1 : List TSlot} {s6 : Int} {s15 : Int} {s16 : Int} {s30 : Int} {w2 : TQea} {w5 : List (Int × Bool)} {s31 : Int} {w7 : List (Int × Bool)} {t : (List (Int × Bool))} (h : joint_Sets_l2 s1 s6 s15 s16 s30 w2 w5 s31 w7 = some t) : LpOfR Tryz.prog rd (fbody Tryz.prog 16) [0, 1, 0, 1, 1, 0, 0, 1, 1, 0, 0, 1, 0, 1, 1] (joint_Sets_l2_I s1 s6 s15 s16 s30 w2 w5 s31 w7) ((joint_Sets_l2_O s1 s6 s15 s16 s30 w2 w5) t) :=
  loopE_lpR (fun s : Int × (List (Int × Bool)) => joint_Sets_l2_I s1 s6 s15 s16 s30 w2 w5 s.1 s.2) (joint_Sets_l2_O s1 s6 s15 s16 s30 w2 w5) (by kernel_rfl) (fun t => isN_ne (by rfl)) (fun ⟨s31, w7⟩ o h => by
  replace h : joint_Sets_l2_s s1 s6 s15 s16 s30 w2 w5 s31 w7 = some o := h
  unfold joint_Sets_l2_s at h
  apply g0 (o := o)
  refine iB 32 h (fun h => ?_) fun h => ?_
  obtain ⟨r3, h5, h⟩ := bS h
  refine gG 40 (.cx false [(0,7)] [(1,40)] (.row 1) [(1, .mapS (ms (D.i .u64) D.b r3))]) (joint_narrow_ok h5) ?_
  exact lB h [.live [1,2,5,6,7,15,16,30,31], .keep [2,5,40], .ren 40 7, .sort]
  exact lB h (lv [1,2,5,7,15,16] [2,5,7])) (s := (s31, w7)) (t := t) h
def joint_Sets_m4_I (clk : Nat) (es : List (Nat × Int × Bool)) (s1 : List TSlot) (s15 : Int) (s16 : Int) (w2 : TQea) (w7 : List (Int × Bool)) (w5 : List (Int × Bool)) (sn : List Nat) : St := ⟨sp 65 0 [(1, .d ((D.l TSlot.D) s1)), (2, .box 2 0), (5, .row 5), (15, dI s15), (16, dI s16), (43, .box 43 0)], [(2, .cells ((cellsA (TQea.D w2)))), (5, .mapS (ms (D.i .u64) D.b w5)), (7, .map clk (dl (D.i .u64) D.b es)), (43, .mit 7 clk sn)], []⟩
def joint_Sets_m4_O (clk : Nat) (es : List (Nat × Int × Bool)) (s1 : List TSlot) (s15 : Int) (s16 : Int) (w2 : TQea) (w7 : List (Int × Bool)) (o : (List (Int × Bool))) : Ex × St := (.exit 4, ⟨sp 65 0 [(1, .d ((D.l TSlot.D) s1)), (2, .box 2 0), (5, .row 5), (15, dI s15), (16, dI s16)], [(2, .cells ((cellsA (TQea.D w2)))), (5, .mapS (ms (D.i .u64) D.b o))], []⟩)
def joint_Sets_m4_Q (clk : Nat) (es : List (Nat × Int × Bool)) (s1 : List TSlot) (s15 : Int) (s16 : Int) (w2 : TQea) (w7 : List (Int × Bool)) (w5 : List (Int × Bool)) : St := ⟨sp 65 0 [(1, .d ((D.l TSlot.D) s1)), (2, .box 2 0), (5, .row 5), (15, dI s15), (16, dI s16)], [(2, .cells ((cellsA (TQea.D w2)))), (5, .mapS (ms (D.i .u64) D.b w5))], []⟩
set_option maxRecDepth 100000 in
theorem joint_Sets_m4_rnd (rd : Option Nat) (clk : Nat) (es : List (Nat × Int × Bool)) (s1 : List TSlot) (s15 : Int) (s16 : Int) (w2 : TQea) (w7 : List (Int × Bool)) (k : Int) (v : Bool) (w5 : List (Int × Bool)) (sn : List Nat) (st : Nat) (hm : (st, k, v) ∈ es) (o : (List (Int × Bool))) (h : joint_Sets_m4_s s1 s15 s16 w2 w7 k v w5 = some o) : ACNa Tryz.prog rd (fbody Tryz.prog 16) [0, 1, 1, 1, 1, 0, 0, 1, 1, 0, 0, 1, 0, 1, 1] ((⟨(joint_Sets_m4_I clk es s1 s15 s16 w2 w7 w5 sn).E, updB (joint_Sets_m4_I clk es s1 s15 s16 w2 w7 w5 sn).B 43 (.mit 7 clk (sn ++ [st])), []⟩ : St).put (some 44) (.tup [bo true, .d ((D.i .u64) k), .d (D.b v)])) fun zx zs => zx = .normal ∧ Wk zs ((fun s : (List (Int × Bool)) => joint_Sets_m4_I clk es s1 s15 s16 w2 w7 s (sn ++ [st])) o) := by
  unfold joint_Sets_m4_s at h
  obtain rfl := si h
  exact runN_acn mixed [(46, .en ((D.i .u64) k) (D.b v)), (10048, .ms (ms (D.i .u64) D.b (putS k true w5)))] [] [.live [1, 2, 5, 15, 16, 43], .keep [2, 5, 7, 43]] (ai (menr_ok (fk := (D.i .u64)) (fv := D.b) (clk := clk) (sn := sn) hm) (ai (putS_ok (keyI Tryz.underlying33) D.b w5 k true) (ti))) (by kernel_rfl)
set_option maxRecDepth 100000 in
theorem joint_Sets_m4_end (rd : Option Nat) (clk : Nat) (es : List (Nat × Int × Bool)) (s1 : List TSlot) (s15 : Int) (s16 : Int) (w2 : TQea) (w7 : List (Int × Bool)) (w5 : List (Int × Bool)) (sn : List Nat) : ACNa Tryz.prog rd (fbody Tryz.prog 16) [0, 1, 1, 1, 1, 0, 0, 1, 1, 0, 0, 1, 0, 1, 1] ((joint_Sets_m4_I clk es s1 s15 s16 w2 w7 w5 sn).put (some 44) (.tup [bo false])) fun zx zs => zx = (joint_Sets_m4_O clk es s1 s15 s16 w2 w7 (joint_Sets_m4_c s1 s15 s16 w2 w7 w5)).1 ∧ Wk zs (joint_Sets_m4_O clk es s1 s15 s16 w2 w7 (joint_Sets_m4_c s1 s15 s16 w2 w7 w5)).2 := by
  refine ACNa.wk (e := .exit 4) (s1 := joint_Sets_m4_Q clk es s1 s15 s16 w2 w7 w5) (runN_acn mixed [] [] [.live [1, 2, 5, 15, 16], .keep [2, 5]] (ti) (by kernel_rfl)) ?_
  exact (Wk.canS 5 (by kernel_rfl) rfl)
set_option maxRecDepth 100000 in
theorem joint_Sets_m4_ok (rd : Option Nat) (clk : Nat) (es : List (Nat × Int × Bool)) (s1 : List TSlot) (s15 : Int) (s16 : Int) (w2 : TQea) (w7 : List (Int × Bool)) (w5 : List (Int × Bool)) (hp : (es.map (·.2)).Perm w7) (o : (List (Int × Bool))) (h : joint_Sets_m4 s1 s15 s16 w2 w7 w5 = some o) : LpOf Tryz.prog rd (fbody Tryz.prog 16) [0, 1, 1, 1, 1, 0, 0, 1, 1, 0, 0, 1, 0, 1, 1] (joint_Sets_m4_I clk es s1 s15 s16 w2 w7 w5 []) ((joint_Sets_m4_O clk es s1 s15 s16 w2 w7) o).1 ((joint_Sets_m4_O clk es s1 s15 s16 w2 w7) o).2 :=
  mapLoop (fk := (D.i .u64)) (fv := D.b) (step := (fun (x : Int × Bool) (s : (List (Int × Bool))) => joint_Sets_m4_s s1 s15 s16 w2 w7 x.1 x.2 s)) (s0 := w5) 43 44 43 7 clk es (fun (sn : List Nat) (s : (List (Int × Bool))) => joint_Sets_m4_I clk es s1 s15 s16 w2 w7 s sn) (joint_Sets_m4_O clk es s1 s15 s16 w2 w7) (by kernel_rfl) (isN_ne (by rfl)) (fun _ _ => by kernel_rfl) (fun _ _ => by kernel_rfl) (fun _ _ => by kernel_rfl) hp
    (fun sn s k v st a hm h => joint_Sets_m4_rnd rd clk es s1 s15 s16 w2 w7 k v s sn st hm a h) (fun sn s hc => hc ▸ joint_Sets_m4_end rd clk es s1 s15 s16 w2 w7 s sn) h
def joint_Sets_b3_I (s1 : List TSlot) (s15 : Int) (s16 : Int) (w2 : TQea) (w5 : List (Int × Bool)) (w7 : List (Int × Bool)) : St := ⟨sp 65 0 [(1, .d ((D.l TSlot.D) s1)), (2, .box 2 0), (5, .row 5), (7, .row 7), (15, dI s15), (16, dI s16)], [(2, .cells ((cellsA (TQea.D w2)))), (5, .mapS (ms (D.i .u64) D.b w5)), (7, .mapS (ms (D.i .u64) D.b w7))], []⟩
def joint_Sets_b3_O (s1 : List TSlot) (s15 : Int) (s16 : Int) (w2 : TQea) (w5 : List (Int × Bool)) (w7 : List (Int × Bool)) (o : (List (Int × Bool))) : Ex × St := (.normal, ⟨sp 65 0 [(1, .d ((D.l TSlot.D) s1)), (2, .box 2 0), (5, .row 5), (15, dI s15), (16, dI s16)], [(2, .cells ((cellsA (TQea.D w2)))), (5, .mapS (ms (D.i .u64) D.b o))], []⟩)
theorem joint_Sets_b3_ok (rd : Option Nat) {s1 : List TSlot} {s15 : Int} {s16 : Int} {w2 : TQea} {w5 : List (Int × Bool)} {w7 : List (Int × Bool)} {o : (List (Int × Bool))} (h : joint_Sets_b3 s1 s15 s16 w2 w5 w7 = some o) : LpOfR Tryz.prog rd (fbody Tryz.prog 16) [1, 1, 1, 0, 0, 1, 1, 0, 0, 1, 0, 1, 1] (joint_Sets_b3_I s1 s15 s16 w2 w5 w7) (joint_Sets_b3_O s1 s15 s16 w2 w5 w7 o) := by
  unfold joint_Sets_b3 at h
  obtain ⟨o5, h7, h⟩ := bS h
  obtain rfl := si h
  exact Arr.lp (Arr.exact (fk := (D.i .u64)) (fv := D.b) (S := w7) 7 (by kernel_rfl) fun clk es hp => runB_arr mixed [] [⟨[0, 1, 1, 1, 1, 0, 0, 1, 1, 0, 0, 1, 0, 1, 1], [.live [1, 2, 5, 15, 16, 43], .keep [2, 5, 7, 43]], .exit 4, (joint_Sets_m4_O clk es s1 s15 s16 w2 w7 o5).2⟩] [.live [1, 2, 5, 15, 16], .keep [2, 5]] (ai (joint_Sets_m4_ok rd clk es s1 s15 s16 w2 w7 w5 hp o5 h7) (ti)) (by kernel_rfl))
def joint_Sets_l1_I (s1 : List TSlot) (s15 : Int) (w2 : TQea) (s16 : Int) (w5 : List (Int × Bool)) : St := ⟨sp 65 0 [(1, .d ((D.l TSlot.D) s1)), (2, .box 2 0), (5, .row 5), (15, dI s15), (16, dI s16)], [(2, .cells ((cellsA (TQea.D w2)))), (5, .mapS (ms (D.i .u64) D.b w5))], []⟩
def joint_Sets_l1_O (s1 : List TSlot) (s15 : Int) (w2 : TQea) (o : (List (Int × Bool))) : Ex × St := (.exit 0, ⟨sp 65 0 [(5, .row 5)], [(5, .mapS (ms (D.i .u64) D.b o))], []⟩)
theorem joint_Sets_l1_ok (rd : Option Nat) {s1 : List TSlot} {s15 : Int} {w2 : TQea} {s16 : Int} {w5 : List (Int × Bool)} {t : (List (Int × Bool))} (h : joint_Sets_l1 s1 s15 w2 s16 w5 = some t) : LpOfR Tryz.prog rd (fbody Tryz.prog 16) [0, 1, 0, 1, 1] (joint_Sets_l1_I s1 s15 w2 s16 w5) ((joint_Sets_l1_O s1 s15 w2) t) :=
  loopE_lpR (fun s : Int × (List (Int × Bool)) => joint_Sets_l1_I s1 s15 w2 s.1 s.2) (joint_Sets_l1_O s1 s15 w2) (by kernel_rfl) (fun t => isN_ne (by rfl)) (fun ⟨s16, w5⟩ o h => by
  replace h : joint_Sets_l1_s s1 s15 w2 s16 w5 = some o := h
  unfold joint_Sets_l1_s at h
  apply g0 (o := o)
  refine iB 17 h (fun h => ?_) fun h => ?_
  refine gW 19 .frz ?_
  obtain ⟨r1, h2, h⟩ := bS h
  refine gC 22 (joint_own_ok h2) <| gQ (putS_ok (keyI Tryz.underlying33) D.b ([] : List (Int × Bool)) r1 true) <| gW 10019 (.ms (ms (D.i .u64) D.b (putS r1 true ([] : List (Int × Bool))))) <| xX 27 TDecl.D h fun x2 h => ?_
  refine gN 30 (D.i .i64) x2.types ?_
  obtain ⟨o4, h6, h⟩ := bS h
  refine gL [.live [1,2,5,6,7,15,16,30,31], .keep [2,5,19], .ren 19 7, .sort] (joint_Sets_l2_ok rd h6) ?_
  obtain ⟨o6, h8, h⟩ := bS h
  refine gL (lv [1,2,5,7,15,16] [2,5,7]) (joint_Sets_b3_ok rd h8) ?_
  exact lB h (lv [1,2,5,15,16] [2,5])
  exact lB h (lv [5] [5])) (s := (s16, w5)) (t := t) h
def joint_Sets_m6_I (clk : Nat) (es : List (Nat × Int × Bool)) (w5 : List (Int × Bool)) (w10 : List Int) (sn : List Nat) : St := ⟨sp 65 0 [(10, .row 10), (53, .box 53 0)], [(5, .map clk (dl (D.i .u64) D.b es)), (10, .rw 33 1 (w10.map (D.i .u64))), (53, .mit 5 clk sn)], []⟩
def joint_Sets_m6_O (clk : Nat) (es : List (Nat × Int × Bool)) (w5 : List (Int × Bool)) (o : List Int) : Ex × St := (.exit 6, ⟨sp 65 0 [(10, .row 10)], [(10, .bag 33 1 (o.map (D.i .u64)))], []⟩)
def joint_Sets_m6_Q (clk : Nat) (es : List (Nat × Int × Bool)) (w5 : List (Int × Bool)) (w10 : List Int) : St := ⟨sp 65 0 [(10, .row 10)], [(10, .rw 33 1 (w10.map (D.i .u64)))], []⟩
set_option maxRecDepth 100000 in
theorem joint_Sets_m6_rnd (rd : Option Nat) (clk : Nat) (es : List (Nat × Int × Bool)) (w5 : List (Int × Bool)) (k : Int) (v : Bool) (w10 : List Int) (sn : List Nat) (st : Nat) (hm : (st, k, v) ∈ es) (o : List Int) (h : joint_Sets_m6_s w5 k v w10 = some o) : ACNa Tryz.prog rd (fbody Tryz.prog 16) [0, 1, 0, 1, 1, 1, 1, 1] ((⟨(joint_Sets_m6_I clk es w5 w10 sn).E, updB (joint_Sets_m6_I clk es w5 w10 sn).B 53 (.mit 5 clk (sn ++ [st])), []⟩ : St).put (some 54) (.tup [bo true, .d ((D.i .u64) k), .d (D.b v)])) fun zx zs => zx = .normal ∧ Wk zs ((fun s : List Int => joint_Sets_m6_I clk es w5 s (sn ++ [st])) o) := by
  unfold joint_Sets_m6_s at h
  obtain ⟨h10, h⟩ := cS h
  obtain rfl := si h
  exact runN_acn mixed [(56, .en ((D.i .u64) k) (D.b v)), (61, .rwl ((w10 ++ [k]).map (D.i .u64)))] [] [.live [10, 53], .keep [5, 53, 61], .ren 61 10, .sort] (ai (menr_ok (fk := (D.i .u64)) (fv := D.b) (clk := clk) (sn := sn) hm) (ai (nc_ok (D.i .u64) [k]) (ai (nc_ok (D.i .u64) [k]) (ai (fit_map (D.i .u64) h10) (ai (app_map (D.i .u64) w10 [k]) (ti)))))) (by kernel_rfl)
set_option maxRecDepth 100000 in
theorem joint_Sets_m6_end (rd : Option Nat) (clk : Nat) (es : List (Nat × Int × Bool)) (w5 : List (Int × Bool)) (w10 : List Int) (sn : List Nat) : ACNa Tryz.prog rd (fbody Tryz.prog 16) [0, 1, 0, 1, 1, 1, 1, 1] ((joint_Sets_m6_I clk es w5 w10 sn).put (some 54) (.tup [bo false])) fun zx zs => zx = (joint_Sets_m6_O clk es w5 (joint_Sets_m6_c w5 w10)).1 ∧ Wk zs (joint_Sets_m6_O clk es w5 (joint_Sets_m6_c w5 w10)).2 := by
  refine ACNa.wk (e := .exit 6) (s1 := joint_Sets_m6_Q clk es w5 w10) (runN_acn mixed [] [] [.live [10], .keep [10]] (ti) (by kernel_rfl)) ?_
  exact (Wk.canB 10 (rowC_perm _).symm (by kernel_rfl) rfl)
set_option maxRecDepth 100000 in
theorem joint_Sets_m6_ok (rd : Option Nat) (clk : Nat) (es : List (Nat × Int × Bool)) (w5 : List (Int × Bool)) (w10 : List Int) (hp : (es.map (·.2)).Perm w5) (o : List Int) (h : joint_Sets_m6 w5 w10 = some o) : LpOf Tryz.prog rd (fbody Tryz.prog 16) [0, 1, 0, 1, 1, 1, 1, 1] (joint_Sets_m6_I clk es w5 w10 []) ((joint_Sets_m6_O clk es w5) o).1 ((joint_Sets_m6_O clk es w5) o).2 :=
  mapLoop (fk := (D.i .u64)) (fv := D.b) (step := (fun (x : Int × Bool) (s : List Int) => joint_Sets_m6_s w5 x.1 x.2 s)) (s0 := w10) 53 54 53 5 clk es (fun (sn : List Nat) (s : List Int) => joint_Sets_m6_I clk es w5 s sn) (joint_Sets_m6_O clk es w5) (by kernel_rfl) (isN_ne (by rfl)) (fun _ _ => by kernel_rfl) (fun _ _ => by kernel_rfl) (fun _ _ => by kernel_rfl) hp
    (fun sn s k v st a hm h => joint_Sets_m6_rnd rd clk es w5 k v s sn st hm a h) (fun sn s hc => hc ▸ joint_Sets_m6_end rd clk es w5 s sn) h
def joint_Sets_b5_I (w5 : List (Int × Bool)) : St := ⟨sp 65 0 [(5, .row 5), (10, .nil)], [(5, .mapS (ms (D.i .u64) D.b w5))], []⟩
def joint_Sets_b5_O (w5 : List (Int × Bool)) (o : (List Int)) : Ex × St := (.normal, ⟨sp 65 0 [(10, .row 10)], [(10, .bag 33 1 (o.map (D.i .u64)))], []⟩)
theorem joint_Sets_b5_ok (rd : Option Nat) {w5 : List (Int × Bool)} {o : (List Int)} (h : joint_Sets_b5 w5 = some o) : LpOfR Tryz.prog rd (fbody Tryz.prog 16) [0, 1, 1, 1, 1, 1] (joint_Sets_b5_I w5) (joint_Sets_b5_O w5 o) := by
  unfold joint_Sets_b5 at h
  obtain ⟨o8, h11, h⟩ := bS h
  obtain rfl := si h
  exact Arr.lp (Arr.exact (fk := (D.i .u64)) (fv := D.b) (S := w5) 5 (by kernel_rfl) fun clk es hp => runB_arr mixed [] [⟨[0, 1, 0, 1, 1, 1, 1, 1], [.live [10, 53], .keep [5, 53], .nilw 10 10 33 1, .sort], .exit 6, (joint_Sets_m6_O clk es w5 o8).2⟩] [.live [10], .keep [10]] (ai (joint_Sets_m6_ok rd clk es w5 ([] : List Int) hp o8 h11) (ti)) (by kernel_rfl))
theorem joint_Sets_ok {a0 : TQea} {a1 : List TSlot} {r : List Int} (h : joint_Sets a0 a1 = some r) : ACall Tryz.prog 16 [.d (TQea.D a0), .d ((D.l TSlot.D) a1)] [] (.d ((D.l (D.i .u64)) r)) [] := by
  unfold joint_Sets at h
  apply g0 (o := r)
  refine gN 15 TDecl.D a0.decls <| gW 12 .frz ?_
  obtain ⟨o7, h9, h⟩ := bS h
  refine gL [.live [1,2,5,15,16], .keep [2,12], .ren 12 5, .sort] (joint_Sets_l1_ok none h9) <| gQ (delS_ok (keyI Tryz.underlying33) D.b o7 0) <| gW 10051 (.ms (ms (D.i .u64) D.b (delS 0 o7))) ?_
  obtain ⟨o9, h12, h⟩ := bS h
  refine gL (lv [5,10] [5]) (joint_Sets_b5_ok none h12) ?_
  obtain ⟨r10, h13, h⟩ := bS h
  refine gG 63 (.cx true [(0,10)] [] (.tup []) [(0, .rw 33 1 (r10.map (D.i .u64)))]) (slices_Sort_uint64_uint64_v2_ok h13) ?_
  exact lF h [.frz 10]
theorem core_Plain_1_ok {a0 : TTrans} {r : Bool} (h : core_Plain_1 a0 = some r) : ACall Tryz.prog 70 [.d (TTrans.D a0)] [] (.d (D.b r)) [] := by
  unfold core_Plain_1 at h
  apply g0 (o := r)
  exact lF h []
def slices_IndexFunc_Trans_Trans_l1_I (s0 : List TTrans) (s7 : Int) (s8 : Int) : St := ⟨sp 19 0 [(0, .d ((D.l TTrans.D) s0)), (1, .clo (.func 70) [] []), (7, dI s7), (8, dI s8)], [], []⟩
def slices_IndexFunc_Trans_Trans_l1_O (s0 : List TTrans) (s7 : Int) (o : Unit ⊕ Int) : Ex × St := match o with
  | .inl o => (.exit 0, ⟨sp 19 0 [], [], []⟩)
  | .inr o => (.ret, ⟨sp 19 0 [(4, dI o)], [], []⟩)
theorem slices_IndexFunc_Trans_Trans_l1_ok (rd : Option Nat) {s0 : List TTrans} {s7 : Int} {s8 : Int} {t : Unit ⊕ Int} (h : slices_IndexFunc_Trans_Trans_l1 s0 s7 s8 = some t) : LpOfR Tryz.prog rd (fbody Tryz.prog 105) [0, 1, 0, 1] (slices_IndexFunc_Trans_Trans_l1_I s0 s7 s8) ((slices_IndexFunc_Trans_Trans_l1_O s0 s7) t) :=
  loopE_lpR (fun s : Int => slices_IndexFunc_Trans_Trans_l1_I s0 s7 s) (slices_IndexFunc_Trans_Trans_l1_O s0 s7) (by kernel_rfl) (fun t => isN_ne (by rcases t with (_ | _) <;> rfl)) (fun s8 o h => by
  replace h : slices_IndexFunc_Trans_Trans_l1_s s0 s7 s8 = some o := h
  unfold slices_IndexFunc_Trans_Trans_l1_s at h
  apply g0 (o := o)
  refine iB 9 h (fun h => ?_) fun h => ?_
  refine xX 14 TTrans.D h fun x1 h => ?_
  obtain ⟨r2, h3, h⟩ := bS h
  refine gQ (core_Plain_1_ok h3) ?_
  cases r2
  replace h := iteF h
  refine gW 16 (.ret (.d (D.b false))) ?_
  exact lB h (lv [0,1,7,8] [])
  replace h := iteT h
  refine gW 16 (.ret (.d (D.b true))) ?_
  exact lB h (lv [4] [])
  exact lB h (lv [] [])) (s := s8) (t := t) h
theorem slices_IndexFunc_Trans_Trans_ok {a0 : List TTrans} {r : Int} (h : slices_IndexFunc_Trans_Trans a0 = some r) : ACall Tryz.prog 105 [.d ((D.l TTrans.D) a0), .clo (.func 70) [] []] [] (dI r) [] := by
  unfold slices_IndexFunc_Trans_Trans at h
  apply g0 (o := r)
  refine gN 7 TTrans.D a0 ?_
  obtain ⟨o3, h5, h⟩ := bS h
  refine gL (lv [0,1,7,8] []) (slices_IndexFunc_Trans_Trans_l1_ok none h5) ?_
  rcases sumE_some h with ⟨o4, rfl, h⟩ | ⟨o5, rfl, h⟩
  exact lF h []
  exact lF h []
theorem slices_ContainsFunc_Trans_Trans_ok {a0 : List TTrans} {r : Bool} (h : slices_ContainsFunc_Trans_Trans a0 = some r) : ACall Tryz.prog 69 [.d ((D.l TTrans.D) a0), .clo (.func 70) [] []] [] (.d (D.b r)) [] := by
  unfold slices_ContainsFunc_Trans_Trans at h
  apply g0 (o := r)
  obtain ⟨r1, h1, h⟩ := bS h
  refine gC 7 (slices_IndexFunc_Trans_Trans_ok h1) ?_
  exact lF h []
theorem core_Plain_ok {a0 : TQea} {r : Bool} (h : core_Plain a0 = some r) : ACall Tryz.prog 44 [.d (TQea.D a0)] [] (.d (D.b r)) [] := by
  unfold core_Plain at h
  apply g0 (o := r)
  refine gN 5 TFree.D a0.frees ?_
  refine iB 7 h (fun h => ?_) fun h => ?_
  obtain ⟨r1, h2, h⟩ := bS h
  refine gC 10 (slices_ContainsFunc_Trans_Trans_ok h2) ?_
  exact lF h []
  exact lF h []
theorem joint_Small_ok {a0 : TQea} {r : Bool} (h : joint_Small a0 = some r) : ACall Tryz.prog 26 [.d (TQea.D a0)] [] (.d (D.b r)) [] := by
  unfold joint_Small at h
  apply g0 (o := r)
  obtain ⟨r1, h1, h⟩ := bS h
  refine gQ (core_Plain_ok h1) ?_
  cases r1
  replace h := iteF h
  refine gW 4 (.ret (.d (D.b false))) ?_
  exact lF h []
  replace h := iteT h
  refine gN 8 TQuant.D a0.quants <| gW 4 (.ret (.d (D.b true))) ?_
  refine iB 11 h (fun h => ?_) fun h => ?_
  refine gN 14 TState.D a0.states ?_
  refine iB 17 h (fun h => ?_) fun h => ?_
  refine gN 20 TSymbol.D a0.symbols ?_
  exact lF h []
  exact lF h []
  exact lF h []
theorem law22_awake_ok {r : Bool} (h : law22_awake = some r) : ACall Tryz.prog 7 [] [] (.d (D.b r)) [] := by
  unfold law22_awake at h
  apply g0 (o := r)
  refine gQ (nc_ok (D.i .i64) [1]) <| gQ (nc_ok TDecl.D ([TDecl.mk ([97] : List UInt8) [1]])) <| gQ (nc_ok TQuant.D ([TQuant.mk false ([120] : List UInt8) 1])) <| gQ (nc_ok TState.D ([TState.mk ([115] : List UInt8) false false])) <| gQ (nc_ok TArg.D ([TArg.mk 2 0 (TValue.mk 0 0 ([] : List UInt8) false)])) ?_
  obtain ⟨r1, h1, h⟩ := bS h
  refine gC 14 (law22_number_ok h1) <| gQ (nc_ok TArg.D [TArg.mk 1 0 r1]) <| gQ (nc_ok TSymbol.D ([TSymbol.mk 0 ([TArg.mk 2 0 (TValue.mk 0 0 ([] : List UInt8) false)]), TSymbol.mk 0 [TArg.mk 1 0 r1]])) ?_
  obtain ⟨r2, h2, h⟩ := bS h
  refine gC 21 (law22_number_ok h2) <| gQ (nc_ok TSlot.D [TSlot.mk 0 r2]) ?_
  obtain ⟨r3, h3, h⟩ := bS h
  refine gC 24 (joint_Sets_ok h3) ?_
  obtain ⟨r4, h4, h⟩ := bS h
  refine gC 26 (law22_number_ok h4) <| gQ (nc_ok TSlot.D [TSlot.mk 0 r4]) ?_
  obtain ⟨r5, h5, h⟩ := bS h
  refine gC 29 (joint_Sets_ok h5) ?_
  obtain ⟨r6, h6, h⟩ := bS h
  refine gQ (joint_Small_ok h6) ?_
  cases r6
  replace h := iteF h
  refine gW 31 (.ret (.d (D.b false))) ?_
  exact lF h []
  replace h := iteT h
  refine gN 34 (D.i .u64) r3 <| gW 31 (.ret (.d (D.b true))) ?_
  refine iB 37 h (fun h => ?_) fun h => ?_
  refine xX 39 (D.i .u64) h fun x7 h => ?_
  refine iB 43 h (fun h => ?_) fun h => ?_
  refine gN 45 (D.i .u64) r5 ?_
  refine iB 48 h (fun h => ?_) fun h => ?_
  refine xX 50 (D.i .u64) h fun x8 h => ?_
  refine iB 54 h (fun h => ?_) fun h => ?_
  refine xX 56 (D.i .u64) h fun x9 h => ?_
  exact lF h []
  exact lF h []
  exact lF h []
  exact lF h []
  exact lF h []
def ref08_Right_l1_I (s0 : List TDecl) (s5 : Int) (w3 : TEvent) (s6 : Int) : St := ⟨sp 56 0 [(0, .d ((D.l TDecl.D) s0)), (3, .box 3 0), (5, dI s5), (6, dI s6)], [(3, .cells ((cellsA (TEvent.D w3))))], []⟩
def ref08_Right_l1_O (s0 : List TDecl) (s5 : Int) (w3 : TEvent) (o : Unit ⊕ Unit) : Ex × St := match o with
  | .inl o => (.exit 0, ⟨sp 56 0 [], [], []⟩)
  | .inr o => (.ret, ⟨sp 56 0 [(4, .d (D.b false))], [], []⟩)
theorem ref08_Right_l1_ok (rd : Option Nat) {s0 : List TDecl} {s5 : Int} {w3 : TEvent} {s6 : Int} {t : Unit ⊕ Unit} (h : ref08_Right_l1 s0 s5 w3 s6 = some t) : LpOfR Tryz.prog rd (fbody Tryz.prog 6) [0, 1, 0, 1, 1, 1] (ref08_Right_l1_I s0 s5 w3 s6) ((ref08_Right_l1_O s0 s5 w3) t) :=
  loopE_lpR (fun s : Int => ref08_Right_l1_I s0 s5 w3 s) (ref08_Right_l1_O s0 s5 w3) (by kernel_rfl) (fun t => isN_ne (by rcases t with (_ | _) <;> rfl)) (fun s6 o h => by
  replace h : ref08_Right_l1_s s0 s5 w3 s6 = some o := h
  unfold ref08_Right_l1_s at h
  apply g0 (o := o)
  refine gN 28 TValue.D w3.args ?_
  refine iB 29 h (fun h => ?_) fun h => ?_
  refine xX 35 TValue.D h fun x3 h => ?_
  refine xX 40 TDecl.D h fun x4 h => ?_
  refine xX 44 (D.i .i64) h fun x5 h => ?_
  refine iB 47 h (fun h => ?_) fun h => ?_
  exact lB h (lv [4] [])
  refine xX 51 TValue.D h fun x6 h => ?_
  obtain ⟨r7, h11, h⟩ := bS h
  refine gC 53 (ref03_Right_ok h11) ?_
  refine iB 55 h (fun h => ?_) fun h => ?_
  exact lB h (lv [4] [])
  exact lB h (lv [0,3,5,6] [3])
  exact lB h (lv [] [])) (s := s6) (t := t) h
theorem ref08_Right_ok {a0 : List TDecl} {a1 : TEvent} {r : Bool} (h : ref08_Right a0 a1 = some r) : ACall Tryz.prog 6 [.d ((D.l TDecl.D) a0), .d (TEvent.D a1)] [] (.d (D.b r)) [] := by
  unfold ref08_Right at h
  apply g0 (o := r)
  obtain ⟨r1, h1, h⟩ := bS h
  refine gC 10 (ref07_Find_ok h1) ?_
  refine iB 13 h (fun h => ?_) fun h => ?_
  exact lF h []
  refine gW 22 (.int (a1.args.length : Int)) <| xX 16 TDecl.D h fun x2 h => ?_
  refine gN 19 (D.i .i64) x2.types <| gQ (len_map TValue.D a1.args) ?_
  refine iB 24 h (fun h => ?_) fun h => ?_
  exact lF h []
  obtain ⟨o8, h13, h⟩ := bS h
  refine gL (lv [0,3,5,6] [3]) (ref08_Right_l1_ok none h13) ?_
  rcases sumE_some h with ⟨o9, rfl, h⟩ | ⟨o10, rfl, h⟩
  exact lF h []
  exact lF h []
def joint_Next_b5_I (s1 : Int) (s2 : Int) (s7 : Int) (s8 : Int) (s10 : Int) (s14 : List TState) (s15 : Int) (s16 : Int) (s28 : List TTrans) (s29 : Int) (s30 : Int) (s46 : Bool) (w3 : TQea) (w9 : TState) (w12 : TTrans) : St := ⟨sp 69 0 [(1, .d ((D.i .u32) s1)), (2, .d ((D.i .u64) s2)), (3, .box 3 0), (7, .d ((D.i .u32) s7)), (8, dI s8), (9, .box 9 0), (10, .d ((D.i .u32) s10)), (12, .box 12 0), (14, .d ((D.l TState.D) s14)), (15, dI s15), (16, dI s16), (28, .d ((D.l TTrans.D) s28)), (29, dI s29), (30, dI s30), (46, .d (D.b s46))], [(3, .cells ((cellsA (TQea.D w3)))), (9, .cells ((cellsA (TState.D w9)))), (12, .cells ((cellsA (TTrans.D w12))))], []⟩
def joint_Next_b5_O (s1 : Int) (s2 : Int) (s7 : Int) (s8 : Int) (s10 : Int) (s14 : List TState) (s15 : Int) (s16 : Int) (s28 : List TTrans) (s29 : Int) (s30 : Int) (s46 : Bool) (w3 : TQea) (w9 : TState) (w12 : TTrans) (o : Int) : Ex × St := (.normal, ⟨sp 69 0 [(1, .d ((D.i .u32) s1)), (2, .d ((D.i .u64) s2)), (3, .box 3 0), (7, .d ((D.i .u32) s7)), (8, dI s8), (9, .box 9 0), (10, .d ((D.i .u32) o)), (14, .d ((D.l TState.D) s14)), (15, dI s15), (16, dI s16), (28, .d ((D.l TTrans.D) s28)), (29, dI s29), (30, dI s30)], [(3, .cells ((cellsA (TQea.D w3)))), (9, .cells ((cellsA (TState.D w9))))], []⟩)
theorem joint_Next_b5_ok (rd : Option Nat) {s1 : Int} {s2 : Int} {s7 : Int} {s8 : Int} {s10 : Int} {s14 : List TState} {s15 : Int} {s16 : Int} {s28 : List TTrans} {s29 : Int} {s30 : Int} {s46 : Bool} {w3 : TQea} {w9 : TState} {w12 : TTrans} {o : Int} (h : joint_Next_b5 s1 s2 s7 s8 s10 s14 s15 s16 s28 s29 s30 s46 w3 w9 w12 = some o) : LpOfR Tryz.prog rd (fbody Tryz.prog 8) [1, 1, 0, 0, 1, 1, 0, 0, 1, 0, 1, 1, 1, 0, 0, 1, 1, 0, 0, 1, 0, 1, 1] (joint_Next_b5_I s1 s2 s7 s8 s10 s14 s15 s16 s28 s29 s30 s46 w3 w9 w12) (joint_Next_b5_O s1 s2 s7 s8 s10 s14 s15 s16 s28 s29 s30 s46 w3 w9 w12 o) := by
  unfold joint_Next_b5 at h
  apply g0 (o := o)
  cases s46
  replace h := iteF h
  exact lP h (lv [1,2,3,7,8,9,10,14,15,16,28,29,30] [3,9])
  replace h := iteT h
  obtain ⟨h10, h⟩ := cS h
  refine gQ h10 ?_
  exact lP h (lv [1,2,3,7,8,9,10,14,15,16,28,29,30] [3,9])
def joint_Next_b4_I (s1 : Int) (s2 : Int) (s7 : Int) (s8 : Int) (s10 : Int) (s14 : List TState) (s15 : Int) (s16 : Int) (s28 : List TTrans) (s29 : Int) (s30 : Int) (w3 : TQea) (w9 : TState) : St := ⟨sp 69 0 [(1, .d ((D.i .u32) s1)), (2, .d ((D.i .u64) s2)), (3, .box 3 0), (7, .d ((D.i .u32) s7)), (8, dI s8), (9, .box 9 0), (10, .d ((D.i .u32) s10)), (14, .d ((D.l TState.D) s14)), (15, dI s15), (16, dI s16), (28, .d ((D.l TTrans.D) s28)), (29, dI s29), (30, dI s30)], [(3, .cells ((cellsA (TQea.D w3)))), (9, .cells ((cellsA (TState.D w9))))], []⟩
def joint_Next_b4_O (s1 : Int) (s2 : Int) (s7 : Int) (s8 : Int) (s10 : Int) (s14 : List TState) (s15 : Int) (s16 : Int) (s28 : List TTrans) (s29 : Int) (s30 : Int) (w3 : TQea) (w9 : TState) (o : Int) : Ex × St := (.normal, ⟨sp 69 0 [(1, .d ((D.i .u32) s1)), (2, .d ((D.i .u64) s2)), (3, .box 3 0), (7, .d ((D.i .u32) s7)), (8, dI s8), (9, .box 9 0), (10, .d ((D.i .u32) o)), (14, .d ((D.l TState.D) s14)), (15, dI s15), (16, dI s16), (28, .d ((D.l TTrans.D) s28)), (29, dI s29), (30, dI s30)], [(3, .cells ((cellsA (TQea.D w3)))), (9, .cells ((cellsA (TState.D w9))))], []⟩)
theorem joint_Next_b4_ok (rd : Option Nat) {s1 : Int} {s2 : Int} {s7 : Int} {s8 : Int} {s10 : Int} {s14 : List TState} {s15 : Int} {s16 : Int} {s28 : List TTrans} {s29 : Int} {s30 : Int} {w3 : TQea} {w9 : TState} {o : Int} (h : joint_Next_b4 s1 s2 s7 s8 s10 s14 s15 s16 s28 s29 s30 w3 w9 = some o) : LpOfR Tryz.prog rd (fbody Tryz.prog 8) [0, 1, 1, 0, 0, 1, 0, 1, 1, 1, 0, 0, 1, 1, 0, 0, 1, 0, 1, 1] (joint_Next_b4_I s1 s2 s7 s8 s10 s14 s15 s16 s28 s29 s30 w3 w9) (joint_Next_b4_O s1 s2 s7 s8 s10 s14 s15 s16 s28 s29 s30 w3 w9 o) := by
  unfold joint_Next_b4 at h
  apply g0 (o := o)
  refine xX 32 TTrans.D h fun x2 h => ?_
  refine iB 38 h (fun h => ?_) fun h => ?_
  obtain ⟨h8, h⟩ := cS h
  refine gQ h8 ?_
  obtain ⟨o3, h11, h⟩ := bS h
  refine gL (lv [1,2,3,7,8,9,10,12,14,15,16,28,29,30,46] [3,9,12]) (joint_Next_b5_ok rd h11) ?_
  exact lP h (lv [1,2,3,7,8,9,10,14,15,16,28,29,30] [3,9])
  obtain ⟨o4, h12, h⟩ := bS h
  refine gL (lv [1,2,3,7,8,9,10,12,14,15,16,28,29,30,46] [3,9,12]) (joint_Next_b5_ok rd h12) ?_
  exact lP h (lv [1,2,3,7,8,9,10,14,15,16,28,29,30] [3,9])
def joint_Next_l3_I (s1 : Int) (s2 : Int) (s7 : Int) (s8 : Int) (s14 : List TState) (s15 : Int) (s16 : Int) (s28 : List TTrans) (s29 : Int) (w3 : TQea) (w9 : TState) (s10 : Int) (s30 : Int) : St := ⟨sp 69 0 [(1, .d ((D.i .u32) s1)), (2, .d ((D.i .u64) s2)), (3, .box 3 0), (7, .d ((D.i .u32) s7)), (8, dI s8), (9, .box 9 0), (10, .d ((D.i .u32) s10)), (14, .d ((D.l TState.D) s14)), (15, dI s15), (16, dI s16), (28, .d ((D.l TTrans.D) s28)), (29, dI s29), (30, dI s30)], [(3, .cells ((cellsA (TQea.D w3)))), (9, .cells ((cellsA (TState.D w9))))], []⟩
def joint_Next_l3_O (s1 : Int) (s2 : Int) (s7 : Int) (s8 : Int) (s14 : List TState) (s15 : Int) (s16 : Int) (s28 : List TTrans) (s29 : Int) (w3 : TQea) (w9 : TState) (o : Int) : Ex × St := (.exit 2, ⟨sp 69 0 [(1, .d ((D.i .u32) s1)), (2, .d ((D.i .u64) s2)), (3, .box 3 0), (7, .d ((D.i .u32) s7)), (8, dI s8), (9, .box 9 0), (10, .d ((D.i .u32) o)), (14, .d ((D.l TState.D) s14)), (15, dI s15), (16, dI s16)], [(3, .cells ((cellsA (TQea.D w3)))), (9, .cells ((cellsA (TState.D w9))))], []⟩)
theorem joint_Next_l3_ok (rd : Option Nat) {s1 : Int} {s2 : Int} {s7 : Int} {s8 : Int} {s14 : List TState} {s15 : Int} {s16 : Int} {s28 : List TTrans} {s29 : Int} {w3 : TQea} {w9 : TState} {s10 : Int} {s30 : Int} {t : Int} (h : joint_Next_l3 s1 s2 s7 s8 s14 s15 s16 s28 s29 w3 w9 s10 s30 = some t) : LpOfR Tryz.prog rd (fbody Tryz.prog 8) [0, 1, 0, 1, 1, 1, 0, 0, 1, 1, 0, 0, 1, 0, 1, 1] (joint_Next_l3_I s1 s2 s7 s8 s14 s15 s16 s28 s29 w3 w9 s10 s30) ((joint_Next_l3_O s1 s2 s7 s8 s14 s15 s16 s28 s29 w3 w9) t) :=
  loopE_lpR (fun s : Int × Int => joint_Next_l3_I s1 s2 s7 s8 s14 s15 s16 s28 s29 w3 w9 s.1 s.2) (joint_Next_l3_O s1 s2 s7 s8 s14 s15 s16 s28 s29 w3 w9) (by kernel_rfl) (fun t => isN_ne (by rfl)) (fun ⟨s10, s30⟩ o h => by
  replace h : joint_Next_l3_s s1 s2 s7 s8 s14 s15 s16 s28 s29 w3 w9 s10 s30 = some o := h
  unfold joint_Next_l3_s at h
  apply g0 (o := o)
  refine iB 31 h (fun h => ?_) fun h => ?_
  obtain ⟨o5, h13, h⟩ := bS h
  refine gL (lv [1,2,3,7,8,9,10,14,15,16,28,29,30] [3,9]) (joint_Next_b4_ok rd h13) ?_
  exact lB h (lv [1,2,3,7,8,9,10,14,15,16,28,29,30] [3,9])
  exact lB h (lv [1,2,3,7,8,9,10,14,15,16] [3,9])) (s := (s10, s30)) (t := t) h
def joint_Next_b6_I (s1 : Int) (s2 : Int) (s7 : Int) (s8 : Int) (s10 : Int) (s14 : List TState) (s15 : Int) (s16 : Int) (s60 : Bool) (w3 : TQea) : St := ⟨sp 69 0 [(1, .d ((D.i .u32) s1)), (2, .d ((D.i .u64) s2)), (3, .box 3 0), (7, .d ((D.i .u32) s7)), (8, dI s8), (10, .d ((D.i .u32) s10)), (14, .d ((D.l TState.D) s14)), (15, dI s15), (16, dI s16), (60, .d (D.b s60))], [(3, .cells ((cellsA (TQea.D w3))))], []⟩
def joint_Next_b6_O (s1 : Int) (s2 : Int) (s7 : Int) (s8 : Int) (s10 : Int) (s14 : List TState) (s15 : Int) (s16 : Int) (s60 : Bool) (w3 : TQea) (o : Int) : Ex × St := (.normal, ⟨sp 69 0 [(1, .d ((D.i .u32) s1)), (2, .d ((D.i .u64) s2)), (3, .box 3 0), (7, .d ((D.i .u32) s7)), (10, .d ((D.i .u32) o)), (14, .d ((D.l TState.D) s14)), (15, dI s15), (16, dI s16)], [(3, .cells ((cellsA (TQea.D w3))))], []⟩)
theorem joint_Next_b6_ok (rd : Option Nat) {s1 : Int} {s2 : Int} {s7 : Int} {s8 : Int} {s10 : Int} {s14 : List TState} {s15 : Int} {s16 : Int} {s60 : Bool} {w3 : TQea} {o : Int} (h : joint_Next_b6 s1 s2 s7 s8 s10 s14 s15 s16 s60 w3 = some o) : LpOfR Tryz.prog rd (fbody Tryz.prog 8) [1, 0, 1, 1, 1, 1, 0, 0, 1, 1, 0, 0, 1, 0, 1, 1] (joint_Next_b6_I s1 s2 s7 s8 s10 s14 s15 s16 s60 w3) (joint_Next_b6_O s1 s2 s7 s8 s10 s14 s15 s16 s60 w3 o) := by
  unfold joint_Next_b6 at h
  apply g0 (o := o)
  cases s60
  replace h := iteF h
  exact lP h (lv [1,2,3,7,10,14,15,16] [3])
  replace h := iteT h
  obtain ⟨h17, h⟩ := cS h
  refine gQ h17 ?_
  exact lP h (lv [1,2,3,7,10,14,15,16] [3])
def joint_Next_b2_I (s1 : Int) (s2 : Int) (s7 : Int) (s14 : List TState) (s15 : Int) (s16 : Int) (w3 : TQea) : St := ⟨sp 69 0 [(1, .d ((D.i .u32) s1)), (2, .d ((D.i .u64) s2)), (3, .box 3 0), (7, .d ((D.i .u32) s7)), (14, .d ((D.l TState.D) s14)), (15, dI s15), (16, dI s16)], [(3, .cells ((cellsA (TQea.D w3))))], []⟩
def joint_Next_b2_O (s1 : Int) (s2 : Int) (s7 : Int) (s14 : List TState) (s15 : Int) (s16 : Int) (w3 : TQea) (o : Int) : Ex × St := (.normal, ⟨sp 69 0 [(1, .d ((D.i .u32) s1)), (2, .d ((D.i .u64) s2)), (3, .box 3 0), (7, .d ((D.i .u32) o)), (14, .d ((D.l TState.D) s14)), (15, dI s15), (16, dI s16)], [(3, .cells ((cellsA (TQea.D w3))))], []⟩)
theorem joint_Next_b2_ok (rd : Option Nat) {s1 : Int} {s2 : Int} {s7 : Int} {s14 : List TState} {s15 : Int} {s16 : Int} {w3 : TQea} {o : Int} (h : joint_Next_b2 s1 s2 s7 s14 s15 s16 w3 = some o) : LpOfR Tryz.prog rd (fbody Tryz.prog 8) [0, 1, 1, 0, 0, 1, 0, 1, 1] (joint_Next_b2_I s1 s2 s7 s14 s15 s16 w3) (joint_Next_b2_O s1 s2 s7 s14 s15 s16 w3 o) := by
  unfold joint_Next_b2 at h
  apply g0 (o := o)
  refine xX 19 TState.D h fun x1 h => ?_
  obtain ⟨h3, h⟩ := cS h
  refine gQ h3 ?_
  refine iB 26 h (fun h => ?_) fun h => ?_
  exact lP h (lv [1,2,3,7,14,15,16] [3])
  refine gN 29 TTrans.D w3.trans ?_
  obtain ⟨o6, h14, h⟩ := bS h
  refine gL (lv [1,2,3,7,8,9,10,14,15,16,28,29,30] [3,9]) (joint_Next_l3_ok rd h14) ?_
  refine iB 56 h (fun h => ?_) fun h => ?_
  obtain ⟨o7, h18, h⟩ := bS h
  refine gL (lv [1,2,3,7,8,10,14,15,16,60] [3]) (joint_Next_b6_ok rd h18) ?_
  exact lP h (lv [1,2,3,7,14,15,16] [3])
  obtain ⟨o8, h19, h⟩ := bS h
  refine gL (lv [1,2,3,7,8,10,14,15,16,60] [3]) (joint_Next_b6_ok rd h19) ?_
  exact lP h (lv [1,2,3,7,14,15,16] [3])
def joint_Next_l1_I (s1 : Int) (s2 : Int) (s14 : List TState) (s15 : Int) (w3 : TQea) (s7 : Int) (s16 : Int) : St := ⟨sp 69 0 [(1, .d ((D.i .u32) s1)), (2, .d ((D.i .u64) s2)), (3, .box 3 0), (7, .d ((D.i .u32) s7)), (14, .d ((D.l TState.D) s14)), (15, dI s15), (16, dI s16)], [(3, .cells ((cellsA (TQea.D w3))))], []⟩
def joint_Next_l1_O (s1 : Int) (s2 : Int) (s14 : List TState) (s15 : Int) (w3 : TQea) (o : Int) : Ex × St := (.exit 0, ⟨sp 69 0 [(7, .d ((D.i .u32) o))], [], []⟩)
theorem joint_Next_l1_ok (rd : Option Nat) {s1 : Int} {s2 : Int} {s14 : List TState} {s15 : Int} {w3 : TQea} {s7 : Int} {s16 : Int} {t : Int} (h : joint_Next_l1 s1 s2 s14 s15 w3 s7 s16 = some t) : LpOfR Tryz.prog rd (fbody Tryz.prog 8) [0, 1, 0, 1, 1] (joint_Next_l1_I s1 s2 s14 s15 w3 s7 s16) ((joint_Next_l1_O s1 s2 s14 s15 w3) t) :=
  loopE_lpR (fun s : Int × Int => joint_Next_l1_I s1 s2 s14 s15 w3 s.1 s.2) (joint_Next_l1_O s1 s2 s14 s15 w3) (by kernel_rfl) (fun t => isN_ne (by rfl)) (fun ⟨s7, s16⟩ o h => by
  replace h : joint_Next_l1_s s1 s2 s14 s15 w3 s7 s16 = some o := h
  unfold joint_Next_l1_s at h
  apply g0 (o := o)
  refine iB 17 h (fun h => ?_) fun h => ?_
  obtain ⟨o9, h20, h⟩ := bS h
  refine gL (lv [1,2,3,7,14,15,16] [3]) (joint_Next_b2_ok rd h20) ?_
  exact lB h (lv [1,2,3,7,14,15,16] [3])
  exact lB h (lv [7] [])) (s := (s7, s16)) (t := t) h
theorem joint_Next_ok {a0 : TQea} {a1 : Int} {a2 : Int} {r : Int} (h : joint_Next a0 a1 a2 = some r) : ACall Tryz.prog 8 [.d (TQea.D a0), .d ((D.i .u32) a1), .d ((D.i .u64) a2)] [] (.d ((D.i .u32) r)) [] := by
  unfold joint_Next at h
  apply g0 (o := r)
  refine gN 15 TState.D a0.states ?_
  obtain ⟨o10, h21, h⟩ := bS h
  refine gL (lv [1,2,3,7,14,15,16] [3]) (joint_Next_l1_ok none h21) ?_
  exact lF h []
def ref22_Next_b5_I (s1 : Int) (s2 : Int) (s7 : Int) (s8 : Int) (s9 : Int) (s10 : Int) (s49 : Bool) (w3 : TQea) (w11 : TTrans) : St := ⟨sp 74 0 [(1, .d ((D.i .u32) s1)), (2, .d ((D.i .u64) s2)), (3, .box 3 0), (7, .d ((D.i .u32) s7)), (8, dI s8), (9, .d ((D.i .u32) s9)), (10, dI s10), (11, .box 11 0), (49, .d (D.b s49))], [(3, .cells ((cellsA (TQea.D w3)))), (11, .cells ((cellsA (TTrans.D w11))))], []⟩
def ref22_Next_b5_O (s1 : Int) (s2 : Int) (s7 : Int) (s8 : Int) (s9 : Int) (s10 : Int) (s49 : Bool) (w3 : TQea) (w11 : TTrans) (o : Int) : Ex × St := (.normal, ⟨sp 74 0 [(1, .d ((D.i .u32) s1)), (2, .d ((D.i .u64) s2)), (3, .box 3 0), (7, .d ((D.i .u32) s7)), (8, dI s8), (9, .d ((D.i .u32) o)), (10, dI s10)], [(3, .cells ((cellsA (TQea.D w3))))], []⟩)
end Go.Ac
