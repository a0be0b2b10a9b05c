/- Own work: the plain law. -/
import Derived.Test.YtbmojpadjglncaaGreatAc22
set_option linter.unusedVariables false
set_option linter.unusedSimpArgs false
namespace Go.Ac
section
variable {α β σ τ : Type}
def runL (body : Nat → β → α → β ⊕ τ) (fin : β → τ) : Nat → List α → β → τ
  | _, [], w => fin w
  | i, x :: xs, w => match body i w x with
    | .inl w' => runL body fin (i + 1) xs w'
    | .inr t => t
theorem loop_list {step : σ → Option (σ ⊕ τ)} (l : List α) (mk : Nat → β → σ) (body : Nat → β → α → β ⊕ τ) (fin : β → τ) (I : Nat → β → Prop)
    (h1 : ∀ i x w, l[i]? = some x → I i w → step (mk i w) = some (match body i w x with | .inl w' => .inl (mk (i + 1) w') | .inr t => .inr t) ∧ ∀ w', body i w x = .inl w' → I (i + 1) w')
    (h2 : ∀ w, I l.length w → step (mk l.length w) = some (.inr (fin w))) : ∀ (n i : Nat) (w : β), l.length - i < n → i ≤ l.length → I i w → loopE step (mk i w) = some (runL body fin i (l.drop i) w) := by
  intro n
  induction n with
  | zero => intro i w h; omega
  | succ n ih =>
    intro i w hn hi hI
    rw [loopE_eq]
    by_cases he : i = l.length
    · subst he
      rw [h2 w hI, nextE_r, List.drop_length]
      rfl
    · obtain ⟨x, hx, hd⟩ := get_lt (l := l) (i := i) (by omega)
      obtain ⟨a1, a2⟩ := h1 i x w hx hI
      rw [a1, hd, runL]
      cases hb : body i w x with
      | inl w' => simp only [nextE_l]; exact ih (i + 1) w' (by omega) (by omega) (a2 w' hb)
      | inr t => simp only [nextE_r]
theorem loop_all {step : Int → Option (Int ⊕ τ)} (l : List α) (p : α → Bool) (t f : τ)
    (h1 : ∀ (i : Nat) x, l[i]? = some x → step i = some (if p x = true then .inl ((i + 1 : Nat) : Int) else .inr f)) (h2 : step l.length = some (.inr t)) (i : Nat) (hi : i ≤ l.length) :
    loopE step i = some (if (l.drop i).all p = true then t else f) := by
  rw [loop_list l (fun i (_ : Unit) => (i : Int)) (fun _ _ x => if p x = true then .inl () else .inr f) (fun _ => t) (fun _ _ => True) (fun i x w hx _ => ⟨by rw [h1 i x hx]; cases p x <;> rfl, fun _ _ => trivial⟩) (fun _ _ => h2) (l.length - i + 1) i () (by omega) hi trivial]
  congr 1
  generalize l.drop i = l'
  clear h1 h2 hi
  revert i
  induction l' with
  | nil => intro i; rfl
  | cons x xs ih =>
    intro i
    rw [runL, List.all_cons]
    cases hp : p x with
    | true => simp only [if_true, Bool.true_and]; exact ih (i + 1)
    | false => simp
theorem loop_all0 {step : Int → Option (Int ⊕ τ)} (l : List α) (p : α → Bool) (t f : τ)
    (h1 : ∀ (i : Nat) x, l[i]? = some x → step i = some (if p x = true then .inl ((i + 1 : Nat) : Int) else .inr f)) (h2 : step l.length = some (.inr t)) :
    loopE step 0 = some (if l.all p = true then t else f) := by
  have h := loop_all l p t f h1 h2 0 (by omega)
  rw [List.drop_zero] at h
  exact h
def findB (g : Nat → α → Option τ) : Nat → Unit → α → Unit ⊕ τ := fun i _ x => match g i x with
  | none => .inl ()
  | some t => .inr t
theorem loop_find {step : Int → Option (Int ⊕ τ)} (l : List α) (g : Nat → α → Option τ) (t : τ)
    (h1 : ∀ (i : Nat) x, l[i]? = some x → step i = some (match g i x with | none => .inl ((i + 1 : Nat) : Int) | some t => .inr t)) (h2 : step l.length = some (.inr t)) :
    loopE step 0 = some (runL (findB g) (fun _ => t) 0 l ()) :=
  loop_list l (fun i (_ : Unit) => (i : Int)) (findB g) (fun _ => t) (fun _ _ => True)
    (fun i x w hx _ => ⟨by rw [h1 i x hx]; unfold findB; cases g i x <;> rfl, fun _ _ => trivial⟩) (fun _ _ => h2) (l.length + 1) 0 () (by omega) (by omega) trivial
theorem runL_findSome (g : α → Option τ) (t : τ) : ∀ (l : List α) (i : Nat), runL (findB fun _ => g) (fun _ => t) i l () = (l.findSome? g).getD t
  | [], i => rfl
  | x :: xs, i => by
    rw [runL, List.findSome?_cons]
    cases hg : g x with
    | none =>
      have e : findB (fun _ => g) i () x = .inl () := by simp [findB, hg]
      rw [e]; exact runL_findSome g t xs (i + 1)
    | some y =>
      have e : findB (fun _ => g) i () x = .inr y := by simp [findB, hg]
      rw [e]; rfl
theorem runL_index (p : α → Bool) : ∀ (l : List α) (i : Nat), runL (findB fun i x => if p x = true then some (Sum.inr (i : Int) : Unit ⊕ Int) else none) (fun _ => .inl ()) i l () = if l.any p = true then .inr ((i + l.findIdx p : Nat) : Int) else .inl ()
  | [], i => rfl
  | x :: xs, i => by
    have ih := runL_index p xs (i + 1)
    rw [runL, List.any_cons, List.findIdx_cons]
    cases hp : p x with
    | true => simp [findB, hp]
    | false =>
      have e : findB (fun i x => if p x = true then some (Sum.inr (i : Int) : Unit ⊕ Int) else none) i () x = .inl () := by simp [findB, hp]
      rw [e]
      simp only [Bool.false_or, cond_false]
      rw [ih, Nat.add_assoc, Nat.add_comm 1]
theorem loop_index {step : Int → Option (Int ⊕ (Unit ⊕ Int))} (l : List α) (p : α → Bool)
    (h1 : ∀ (i : Nat) x, l[i]? = some x → step i = some (if p x = true then .inr (.inr (i : Int)) else .inl ((i + 1 : Nat) : Int))) (h2 : step l.length = some (.inr (.inl ()))) :
    loopE step 0 = some (if l.any p = true then .inr ((l.findIdx p : Nat) : Int) else .inl ()) := by
  rw [loop_find l (fun i x => if p x = true then some (Sum.inr (i : Int) : Unit ⊕ Int) else none) (.inl ()) (fun i x hx => by rw [h1 i x hx]; cases p x <;> rfl) h2, runL_index, Nat.zero_add]
theorem runL_places (p : α → Bool) (fin : List Int → τ) : ∀ (l : List α) (i : Nat) (w : List Int), runL (fun i w x => (.inl (if p x = true then w ++ [(i : Int)] else w) : List Int ⊕ τ)) fin i l w = fin (w ++ ((l.zipIdx i).filter fun q => p q.1).map fun q => (q.2 : Int))
  | [], i, w => by simp [runL]
  | x :: xs, i, w => by
    have ih := runL_places p fin xs (i + 1) (if p x = true then w ++ [(i : Int)] else w)
    rw [runL, List.zipIdx_cons, List.filter_cons]
    refine ih.trans ?_
    cases p x <;> simp
theorem zipIdx_mem {l : List α} {q : α × Nat} (h : q ∈ l.zipIdx) : l[q.2]? = some q.1 := by
  rw [List.mem_zipIdx_iff_getElem?] at h; exact h
theorem filter_fst (l : List α) (p : α → Bool) : ((l.zipIdx).filter fun q => p q.1).map (·.1) = l.filter p := by
  have : (fun q : α × Nat => p q.1) = p ∘ Prod.fst := rfl
  rw [this, ← List.filter_map]
  simp
theorem loop_fold {step : Int × β → Option (Int × β ⊕ τ)} (l : List α) (f : β → α → β) (fin : β → τ) (I : Nat → β → Prop)
    (h1 : ∀ (i : Nat) x w, l[i]? = some x → I i w → step (i, w) = some (.inl (((i + 1 : Nat) : Int), f w x)) ∧ I (i + 1) (f w x))
    (h2 : ∀ w, I l.length w → step (l.length, w) = some (.inr (fin w))) (w : β) (h0 : I 0 w) : loopE step (0, w) = some (fin (l.foldl f w)) := by
  have h := loop_list (step := step) l (fun i w => ((i : Int), w)) (fun _ w x => (.inl (f w x) : β ⊕ τ)) fin I (fun i x w hx hI => ⟨(h1 i x w hx hI).1, fun w' hw => by cases hw; exact (h1 i x w hx hI).2⟩) h2 (l.length + 1) 0 w (by omega) (by omega) h0
  rw [show ((0 : Int), w) = (((0 : Nat) : Int), w) from rfl, h, List.drop_zero]
  congr 1
  clear h h1 h2 h0
  generalize 0 = i
  revert i w
  induction l with
  | nil => intro w i; rfl
  | cons x xs ih => intro w i; rw [runL]; exact ih _ _
theorem foldl_filter (p : α → Bool) : ∀ (l : List α) (w : List α), l.foldl (fun w x => if p x = true then w ++ [x] else w) w = w ++ l.filter p
  | [], w => by simp
  | x :: xs, w => by
    rw [List.foldl_cons, foldl_filter p xs, List.filter_cons]
    cases p x <;> simp
theorem foldl_map (g : α → β) : ∀ (l : List α) (w : List β), l.foldl (fun w x => w ++ [g x]) w = w ++ l.map g
  | [], w => by simp
  | x :: xs, w => by
    rw [List.foldl_cons, foldl_map g xs]
    simp
theorem zip_get {a : List α} {b : List β} {i : Nat} {z : α × β} (h : (a.zip b)[i]? = some z) : a[i]? = some z.1 ∧ b[i]? = some z.2 := by
  rw [List.getElem?_zip_eq_some] at h; exact h
theorem zip_all_eq [DecidableEq α] : ∀ {a b : List α}, a.length = b.length → (a.zip b).all (fun z => decide (z.1 = z.2)) = decide (a = b)
  | [], [], _ => by simp
  | x :: a, y :: b, h => by
    rw [List.zip_cons_cons, List.all_cons, zip_all_eq (a := a) (b := b) (by simpa using h)]
    by_cases hx : x = y <;> by_cases hy : a = b <;> simp [hx, hy]
  | [], _ :: _, h => by simp at h
  | _ :: _, [], h => by simp at h
theorem len_dec (a b : Nat) : decide ((a : Int) = (b : Int)) = decide (a = b) := by
  by_cases h : a = b
  · simp [h]
  · have : ¬ (a : Int) = (b : Int) := by omega
    simp [h, this]
theorem loop_same [DecidableEq α] {step : Int → Option (Int ⊕ τ)} (a b : List α) (t f : τ) (hl : a.length = b.length)
    (h1 : ∀ (i : Nat) x y, a[i]? = some x → b[i]? = some y → step i = some (if decide (x = y) = true then .inl ((i + 1 : Nat) : Int) else .inr f)) (h2 : step a.length = some (.inr t)) :
    loopE step 0 = some (if decide (a = b) = true then t else f) := by
  have hz : (a.zip b).length = a.length := by simp [hl]
  have h := loop_all0 (step := step) (a.zip b) (fun z => decide (z.1 = z.2)) t f (fun i z hz => h1 i z.1 z.2 (zip_get hz).1 (zip_get hz).2) (by rw [hz]; exact h2)
  rw [zip_all_eq hl] at h
  exact h
end
theorem loop_scan {τ : Type} {step : Int → Option (Int ⊕ τ)} (n i0 : Nat) (P : Nat → Prop) (Q : τ → Prop) (hi : i0 ≤ n)
    (h1 : ∀ i : Nat, i0 ≤ i → i < n → (step i = some (.inl ((i + 1 : Nat) : Int)) ∧ P i) ∨ ∃ t, step i = some (.inr t) ∧ Q t)
    (h2 : (∀ j, i0 ≤ j → j < n → P j) → ∃ t, step n = some (.inr t) ∧ Q t) : ∃ t, loopE step i0 = some t ∧ Q t := by
  refine loopE_ex (fun s => ∃ i : Nat, s = (i : Int) ∧ i0 ≤ i ∧ i ≤ n ∧ ∀ j, i0 ≤ j → j < i → P j) (fun s => (n - s).toNat) Q ?_ (i0 : Int) ⟨i0, rfl, Nat.le_refl _, hi, fun j a b => by omega⟩
  rintro s ⟨i, rfl, a, b, c⟩
  by_cases he : i = n
  · subst he
    exact .inl (h2 c)
  · rcases h1 i a (by omega) with ⟨d, e⟩ | d
    · refine .inr ⟨_, d, ⟨i + 1, rfl, by omega, by omega, fun j f g => ?_⟩, by omega⟩
      rcases Nat.lt_or_ge j i with h | h
      · exact c j f h
      · have : j = i := by omega
        subst this; exact e
    · exact .inl d
theorem loop_scan0 {τ : Type} {step : Int → Option (Int ⊕ τ)} (n : Nat) (P : Nat → Prop) (Q : τ → Prop)
    (h1 : ∀ i : Nat, i < n → (step i = some (.inl ((i + 1 : Nat) : Int)) ∧ P i) ∨ ∃ t, step i = some (.inr t) ∧ Q t)
    (h2 : (∀ j, j < n → P j) → ∃ t, step n = some (.inr t) ∧ Q t) : ∃ t, loopE step 0 = some t ∧ Q t :=
  loop_scan (step := step) n 0 P Q (Nat.zero_le _) (fun i _ hi => h1 i hi) (fun h => h2 fun j hj => h j (Nat.zero_le _) hj)
section
variable {α β : Type} {Q : β → Prop} {a b : Option β}
theorem ex_if {p : Prop} [Decidable p] (h1 : p → ∃ r, a = some r ∧ Q r) (h2 : ¬ p → ∃ r, b = some r ∧ Q r) : ∃ r, iteE (decide p) a b = some r ∧ Q r := by
  by_cases h : p
  · simpa [iteE, h] using h1 h
  · simpa [iteE, h] using h2 h
theorem ex_ifn {p : Prop} [Decidable p] (h1 : ¬ p → ∃ r, a = some r ∧ Q r) (h2 : p → ∃ r, b = some r ∧ Q r) : ∃ r, iteE (!decide p) a b = some r ∧ Q r := by
  by_cases h : p
  · simpa [iteE, h] using h2 h
  · simpa [iteE, h] using h1 h
theorem ex_ifb {c : Bool} (h1 : c = true → ∃ r, a = some r ∧ Q r) (h2 : c = false → ∃ r, b = some r ∧ Q r) : ∃ r, iteE c a b = some r ∧ Q r := by
  cases c
  · exact h2 rfl
  · exact h1 rfl
theorem ex_ifnb {c : Bool} (h1 : c = false → ∃ r, a = some r ∧ Q r) (h2 : c = true → ∃ r, b = some r ∧ Q r) : ∃ r, iteE (!c) a b = some r ∧ Q r := by
  cases c
  · exact h1 rfl
  · exact h2 rfl
theorem ex_bnd {e : Option α} {x : α} {k : α → Option β} (h : e = some x) (hk : ∃ r, k x = some r ∧ Q r) : ∃ r, bndE e k = some r ∧ Q r := by
  rw [h]; exact hk
theorem ex_some {r : β} (h : Q r) : ∃ x, some r = some x ∧ Q x := ⟨r, rfl, h⟩
theorem ex_tot {e : Option β} (h : ∃ r, e = some r) : ∃ r, e = some r ∧ True := by
  obtain ⟨r, h⟩ := h; exact ⟨r, h, trivial⟩
theorem tot_ex {e : Option β} (h : ∃ r, e = some r ∧ True) : ∃ r, e = some r := by
  obtain ⟨r, h, _⟩ := h; exact ⟨r, h⟩
end
theorem succW {α : Type} {n : Nat} {l : List α} {x : α} (h : l[n]? = some x) (hl : l.length ≤ 9223372036854775807) : intVal .add .i64 (n : Int) 1 = ((n + 1 : Nat) : Int) := by
  have := (List.getElem?_eq_some_iff.1 h).1
  exact succI (by omega)
theorem ltD {α : Type} {n : Nat} {l : List α} {x : α} (h : l[n]? = some x) : decide ((n : Int) < (l.length : Int)) = true := by
  have := (List.getElem?_eq_some_iff.1 h).1
  simp; omega
theorem ltI (n : Nat) : decide ((n : Int) < (n : Int)) = false := by simp
theorem iteP {β : Type} (p : Prop) [Decidable p] (a b : Option β) : iteE (decide p) a b = if p then a else b := by
  by_cases h : p <;> simp [h, iteE]
theorem getLt {α : Type} {n : Nat} {l : List α} {x : α} (h : l[n]? = some x) : n < l.length := (List.getElem?_eq_some_iff.1 h).1
end Go.Ac
