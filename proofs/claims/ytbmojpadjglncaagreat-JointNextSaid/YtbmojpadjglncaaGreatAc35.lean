/- Own work: how calls of the model run over plain data. -/
import Derived.Test.YtbmojpadjglncaaGreatAc34
set_option linter.unusedVariables false
set_option linter.unusedSimpArgs false
namespace Go.Ac
def Le {α : Type} (a b : Option α) : Prop := ∀ r, a = some r → b = some r
section
variable {α β γ σ τ : Type}
theorem Le.refl (a : Option α) : Le a a := fun _ h => h
theorem bndE_le {a b : Option α} {k k' : α → Option β} (h : Le a b) (hk : ∀ x, Le (k x) (k' x)) : Le (bndE a k) (bndE b k') := fun r e => by
  cases a with
  | none => cases e
  | some x => rw [h x rfl]; exact hk x r e
theorem letE_le {x : α} {k k' : α → Option β} (hk : ∀ x, Le (k x) (k' x)) : Le (letE x k) (letE x k') := hk x
theorem iteE_le {c : Bool} {a b a' b' : Option β} (h1 : Le a a') (h2 : Le b b') : Le (iteE c a b) (iteE c a' b') := by
  cases c
  · exact h2
  · exact h1
theorem chkE_le {p : Prop} [Decidable p] {k k' : Option β} (h : Le k k') : Le (chkE p k) (chkE p k') := fun r e => by
  unfold chkE at e ⊢
  split at e
  · rename_i hp; rw [if_pos hp]; exact h r e
  · cases e
theorem idxE_le {xs : List α} {i : Int} {k k' : α → Option β} (h : ∀ x, Le (k x) (k' x)) : Le (idxE xs i k) (idxE xs i k') := fun r e => by
  unfold idxE at e ⊢
  split at e
  · rename_i hp
    rw [if_pos hp]
    split at e
    · rename_i hx; exact h _ r e
    · cases e
  · cases e
theorem sumE_le {o : α ⊕ β} {f f' : α → Option γ} {g g' : β → Option γ} (h1 : ∀ x, Le (f x) (f' x)) (h2 : ∀ x, Le (g x) (g' x)) : Le (sumE o f g) (sumE o f' g') := by
  cases o with
  | inl x => exact h1 x
  | inr x => exact h2 x
theorem itE_le {step step' : σ → Option (σ ⊕ τ)} (h : ∀ s, Le (step s) (step' s)) : ∀ (n : Nat) (s : σ), Le (itE step n s) (itE step' n s)
  | 0, s => Le.refl _
  | n + 1, s => fun r e => by
    simp only [itE] at e ⊢
    split at e
    · cases e
    · rename_i s' hs; rw [h s _ hs]; exact itE_le h n s' r e
    · rename_i t hs; rw [h s _ hs]; exact e
theorem loop_le {step step' : σ → Option (σ ⊕ τ)} (h : ∀ s, Le (step s) (step' s)) (n : Nat) (s : σ) : Le (itE step n s) (loopE step' s) := fun r e => loopE_iff.2 ⟨n, itE_le h n s r e⟩
theorem foldE_le {step step' : α → σ → Option σ} (h : ∀ x s, Le (step x s) (step' x s)) : ∀ (l : List α) (s : σ), Le (foldE step s l) (foldE step' s l)
  | [], s => Le.refl _
  | x :: l, s => bndE_le (h x s) fun s' => foldE_le h l s'
def everyAt (x : α) : List α → List (List α)
  | [] => [[x]]
  | y :: l => (x :: y :: l) :: (everyAt x l).map (y :: ·)
def ordersL : List α → List (List α)
  | [] => [[]]
  | x :: l => ((ordersL l).map (everyAt x)).flatten
theorem everyAt_mem (x : α) : ∀ (a b : List α), a ++ x :: b ∈ everyAt x (a ++ b)
  | [], [] => by simp [everyAt]
  | [], y :: b => by simp [everyAt]
  | y :: a, b => by
    simp only [List.cons_append, everyAt, List.mem_cons, List.mem_map]
    exact .inr ⟨_, everyAt_mem x a b, rfl⟩
theorem ordersL_mem : ∀ {xs p : List α}, p.Perm xs → p ∈ ordersL xs
  | [], p, h => by rw [h.eq_nil]; simp [ordersL]
  | x :: xs, p, h => by
    obtain ⟨a, b, rfl⟩ := List.append_of_mem (h.mem_iff.2 (List.mem_cons_self (a := x) (l := xs)))
    have hp : (a ++ b).Perm xs := (List.perm_middle.symm.trans h).cons_inv
    simp only [ordersL, List.mem_flatten, List.mem_map]
    exact ⟨_, ⟨_, ordersL_mem hp, rfl⟩, everyAt_mem x a b⟩
def exactC [DecidableEq τ] (c : σ → τ) (xs : List α) (step : α → σ → Option σ) (s : σ) : Option τ :=
  bndE (foldE step s xs) fun s1 => if ((ordersL xs).all fun p => match foldE step s p with
    | some s2 => decide (c s2 = c s1)
    | none => false) = true then some (c s1) else none
theorem exact_le [DecidableEq τ] {c : σ → τ} {xs : List α} {step step' : α → σ → Option σ} {s : σ} (h : ∀ x s, Le (step x s) (step' x s)) : Le (exactC c xs step s) (exactE c xs step' s) := fun r e => by
  unfold exactC at e
  cases h1 : foldE step s xs with
  | none => rw [h1] at e; cases e
  | some s1 =>
    rw [h1, bndE_s] at e
    split at e
    · rename_i ha
      simp only [Option.some.injEq] at e
      subst e
      refine exactE_of fun p hp => ?_
      have := List.all_eq_true.1 ha p (ordersL_mem hp)
      split at this
      · rename_i s2 h2
        exact ⟨s2, foldE_le h p s _ h2, of_decide_eq_true this⟩
      · cases this
    · cases e
def bagC [DecidableEq τ] (f : List α → Option τ) (xs : List α) : Option τ :=
  bndE (f xs) fun r => if ((ordersL xs).all fun p => decide (f p = some r)) = true then some r else none
theorem bag_le [DecidableEq τ] {f f' : List α → Option τ} {xs : List α} (h : ∀ xs, Le (f xs) (f' xs)) : Le (bagC f xs) (bagE f' xs) := fun r e => by
  unfold bagC at e
  cases h1 : f xs with
  | none => rw [h1] at e; cases e
  | some r1 =>
    rw [h1, bndE_s] at e
    split at e
    · rename_i ha
      simp only [Option.some.injEq] at e
      subst e
      refine bagE_of fun p hp => ?_
      have := List.all_eq_true.1 ha p (ordersL_mem hp)
      exact h p _ (of_decide_eq_true this)
    · cases e
end
end Go.Ac
