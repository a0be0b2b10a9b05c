/- Own work: how calls of the model run over plain data. -/
import Derived.Test.YtbmojpadjglncaaGreatAc22
set_option linter.unusedVariables false
set_option linter.unusedSimpArgs false
namespace Go.Ac
def cj : List Prop → Prop → Prop
  | [], k => k
  | q :: Q, k => cj Q (q ∧ k)
theorem cj_iff : ∀ (Q : List Prop) (k : Prop), cj Q k ↔ cj Q True ∧ k
  | [], k => by simp [cj]
  | q :: Q, k => by
    simp only [cj]
    rw [cj_iff Q (q ∧ k), cj_iff Q (q ∧ True)]
    exact ⟨fun h => ⟨⟨h.1, h.2.1, trivial⟩, h.2.2⟩, fun h => ⟨h.1.1, h.1.2.1, h.2⟩⟩
def insQ : Nat → Prop → List Prop → List Prop
  | 0, q, Q => q :: Q
  | _ + 1, q, [] => [q]
  | n + 1, q, p :: Q => p :: insQ n q Q
theorem cj_cons {q : Prop} {Q : List Prop} (h : q) (k : cj Q True) : cj (q :: Q) True := (cj_iff Q (q ∧ True)).2 ⟨k, h, trivial⟩
theorem cj_ins {q : Prop} (h : q) : ∀ (n : Nat) (Q : List Prop), cj Q True → cj (insQ n q Q) True
  | 0, Q, k => cj_cons h k
  | n + 1, [], k => cj_cons h k
  | n + 1, p :: Q, k => by
    have k := (cj_iff Q (p ∧ True)).1 k
    exact cj_cons k.2.1 (cj_ins h n Q k.1)
section
variable {β γ δ : Type} {ws : List (Nat × W)} {lw : List Lw} {Q : List Prop} {G : β → Prop} {o : β}
def Gl (ws : List (Nat × W)) (lw : List Lw) (Q : List Prop) (G : β → Prop) (o : β) : Prop := cj Q True → G o
theorem g0 (h : Gl [] [] [] G o) : G o := h trivial
theorem gW (n : Nat) (w : W) (c : Gl ((n, w) :: ws) lw Q G o) : Gl ws lw Q G o := c
theorem gV (x : Lw) (c : Gl ws (x :: lw) Q G o) : Gl ws lw Q G o := c
theorem gQ {q : Prop} (h : q) (c : Gl ws lw (q :: Q) G o) : Gl ws lw Q G o := fun k => c (cj_cons h k)
theorem gK (n : Nat) {q : Prop} (h : q) (c : Gl ws lw (insQ n q Q) G o) : Gl ws lw Q G o := fun k => c (cj_ins h n Q k)
theorem gG (n : Nat) (w : W) {q : Prop} (h : q) (c : Gl ((n, w) :: ws) lw (q :: Q) G o) : Gl ws lw Q G o := gQ h c
theorem gT (n : Nat) {q : Prop} (h : q) (c : Gl ((n, .bit true) :: ws) lw (q :: Q) G o) : Gl ws lw Q G o := gQ h c
theorem gF (n : Nat) {q : Prop} (h : q) (c : Gl ((n, .bit false) :: ws) lw (q :: Q) G o) : Gl ws lw Q G o := gQ h c
theorem gTk (k n : Nat) {q : Prop} (h : q) (c : Gl ((n, .bit true) :: ws) lw (insQ k q Q) G o) : Gl ws lw Q G o := gK k h c
theorem gFk (k n : Nat) {q : Prop} (h : q) (c : Gl ((n, .bit false) :: ws) lw (insQ k q Q) G o) : Gl ws lw Q G o := gK k h c
theorem gX (n : Nat) (f : γ → D) {xs : List γ} {i : Int} {x : γ} (h : 0 ≤ i ∧ xs[i.toNat]? = some x) (c : Gl ((n, .el (f x)) :: ws) lw ((0 ≤ i ∧ (xs.map f)[i.toNat]? = some (f x)) :: Q) G o) : Gl ws lw Q G o := gQ (elem_map f h) c
theorem gN (n : Nat) (f : γ → D) (xs : List γ) (c : Gl ((n, .int (xs.length : Int)) :: ws) lw ((((xs.map f).length : Int) = (xs.length : Int)) :: Q) G o) : Gl ws lw Q G o := gQ (len_map f xs) c
theorem gC (n : Nat) {P : Program} {f : FuncId} {args : List A} {r : A} (h : ACall P f args [] r []) (c : Gl ((n, .ret r) :: ws) lw (ACall P f args [] r [] :: Q) G o) : Gl ws lw Q G o := gQ h c
theorem gL (wk : List Ws) {P : Program} {rd : Option Nat} {root : Code} {p : List Nat} {s : St} {e : Ex} {s' : St} (h : LpOf P rd root p s e s') (c : Gl ws (⟨p, wk, e, s'⟩ :: lw) (LpOf P rd root p s e s' :: Q) G o) : Gl ws lw Q G o := gQ h c
theorem gLk (k : Nat) (wk : List Ws) {P : Program} {rd : Option Nat} {root : Code} {p : List Nat} {s : St} {e : Ex} {s' : St} (h : LpOf P rd root p s e s') (c : Gl ws (⟨p, wk, e, s'⟩ :: lw) (insQ k (LpOf P rd root p s e s') Q) G o) : Gl ws lw Q G o := gK k h c
theorem iB (n : Nat) {b : Bool} {x y : Option δ} {r : δ} (h : iteE b x y = some r) (A1 : x = some r → Gl ((n, .bit true) :: ws) lw ((b = true) :: Q) G o) (A2 : y = some r → Gl ((n, .bit false) :: ws) lw ((b = false) :: Q) G o) : Gl ws lw Q G o := by
  rcases iS h with ⟨h1, h2⟩ | ⟨h1, h2⟩
  · exact gQ h1 (A1 h2)
  · exact gQ h1 (A2 h2)
theorem xX (n : Nat) (f : γ → D) {xs : List γ} {i : Int} {k : γ → Option δ} {r : δ} (h : idxE xs i k = some r) (c : ∀ x, k x = some r → Gl ((n, .el (f x)) :: ws) lw ((0 ≤ i ∧ (xs.map f)[i.toNat]? = some (f x)) :: Q) G o) : Gl ws lw Q G o := by
  obtain ⟨x, h1, h2⟩ := xS h
  exact gQ (elem_map f h1) (c x h2)
end
abbrev lv (a b : List Nat) : List Ws := [.live a, .keep b]
section
variable {β : Type} {ws : List (Nat × W)} {lw : List Lw} {Q : List Prop} {o v : β} {P : Program} {rd : Option Nat} {root : Code} {q : List Nat} {s : St} {f : FuncId} {args : List A}
theorem lB_ (hm : P.follows .mixedOrders = true) (h : some v = some o) (l : List Ws) {E : β → Ex} {S : β → St}
    (he : (cj Q True ∧ (E v = E v ∧ S v = S v)) = RunB P rd root ws lw q l s (E v) (S v)) : Gl ws lw Q (fun o => Arr P rd root q s (E o) (S o)) o := by
  cases si h
  exact fun k => runB_arr hm ws lw l k he
theorem lP_ (hm : P.follows .mixedOrders = true) (h : some v = some o) (l : List Ws) {E : β → Ex} {S : β → St}
    (he : (cj Q True ∧ (E v = E v ∧ S v = S v)) = RunB P rd root ws lw q l s (E v) (S v)) : Gl ws lw Q (fun o => LpOf P rd root q s (E o) (S o)) o := by
  cases si h
  exact fun k => (runB_arr hm ws lw l k he).lp
theorem lF_ (hm : P.follows .mixedOrders = true) (h : some v = some o) (l : List Ws) {R : β → A}
    (he : (cj Q True ∧ (R v = R v ∧ true = true)) = RunF P f ws lw l args (R v)) : Gl ws lw Q (fun o => ACall P f args [] (R o) []) o := by
  cases si h
  exact fun k => runF_call hm ws lw l k he
theorem lI_ (hm : P.follows .mixedOrders = true) {F0 : Bx} (hF : Far F0) {r : A} {F : β → Bx} (hc : ∀ f, ∀ p ∈ F f, ∀ m, p.2.has m = true → m ∈ names (F f)) (h : some v = some o) (l : List Ws)
    (he : (cj Q True ∧ (r = r ∧ F v = F v ∧ true = true)) = RunI P f ws lw l args F0 r (F v)) : Gl ws lw Q (fun o => ACallW P f args F0 r (F o)) o := by
  cases si h
  exact fun k => runI_call hm ws lw l hF (hc _) k he
def XG (P : Program) (f : FuncId) (args : List A) (X : Bx) (ks : List Nat) (us : List Value) (r : A) (X' : Bx) : Prop := ∃ ws lw wk, RunX P f ws lw wk args X ks us r X'
theorem XG.call {X : Bx} {ks : List Nat} {r : A} {X' : Bx} (hm : P.follows .mixedOrders = true) (h : ∀ us, XG P f args X ks us r X') : ACall P f args X r X' := by
  refine RunX.call (ws := fun us => (h us).choose) (lw := fun us => (h us).choose_spec.choose) (wk := fun us => (h us).choose_spec.choose_spec.choose) hm fun us => (h us).choose_spec.choose_spec.choose_spec
theorem lX_ {X : Bx} {ks : List Nat} {us : List Value} (h : some v = some o) (l : List Ws) {R : β → A} {X' : β → Bx}
    (he : (cj Q True ∧ (R v = R v ∧ X' v ++ [(vx, .vals (kept args ks) us)] = X' v ++ [(vx, .vals (kept args ks) us)] ∧ true = true)) = RunX P f ws lw l args X ks us (R v) (X' v)) : Gl ws lw Q (fun o => XG P f args X ks us (R o) (X' o)) o := by
  cases si h
  exact fun k => ⟨ws, lw, l, he.mp ⟨k, rfl, rfl, rfl⟩⟩
end
end Go.Ac
