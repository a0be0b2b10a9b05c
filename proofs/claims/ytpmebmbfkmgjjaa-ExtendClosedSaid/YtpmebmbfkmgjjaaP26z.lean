/- Own work: the plain law. -/
import Derived.Test.YtpmebmbfkmgjjaaSh26z
import Derived.Test.YtpmebmbfkmgjjaaPL
set_option linter.unusedVariables false
set_option linter.unusedSimpArgs false
namespace Go.Ac
theorem TSlot.eqb_dec (a b : TSlot) : TSlot.eqb a b = decide (a = b) := by rw [Bool.eq_iff_iff, TSlot.eqb_iff]; simp
theorem TValue.eqb_dec (a b : TValue) : TValue.eqb a b = decide (a = b) := by rw [Bool.eq_iff_iff, TValue.eqb_iff]; simp
def zV : TValue := ⟨0, 0, [], false⟩
def getS (l : List TSlot) (v : Int) : TValue × Bool := match l.findSome? (fun s => if s.var = v then some s.value else none) with
  | some x => (x, true)
  | none => (zV, false)
theorem getS_of (l : List TSlot) (v : Int) (o : Unit ⊕ TValue) (h : o = (l.findSome? (fun s => if s.var = v then some (Sum.inr s.value : Unit ⊕ TValue) else none)).getD (.inl ())) :
    sumE o (fun _ => some (TValue.mk 0 0 ([] : List UInt8) false, false)) (fun o4 => some (o4, true)) = some (getS l v) := by
  subst h
  have e : l.findSome? (fun s => if s.var = v then some (Sum.inr s.value : Unit ⊕ TValue) else none) = (l.findSome? (fun s => if s.var = v then some s.value else none)).map Sum.inr := by
    induction l with
    | nil => rfl
    | cons s l ih => rw [List.findSome?_cons, List.findSome?_cons]; by_cases h : s.var = v <;> simp [h, ih]
  rw [e]
  unfold getS
  cases l.findSome? (fun s => if s.var = v then some s.value else none) <;> rfl
theorem ref05_Get_eq (l : List TSlot) (v : Int) (hl : l.length ≤ 9223372036854775807) : ref05_Get l v = some (getS l v) := by
  unfold ref05_Get ref05_Get_l1
  rw [loop_find l (fun _ s => if s.var = v then some (Sum.inr s.value : Unit ⊕ TValue) else none) (.inl ())
    (fun i x hx => by simp only [ref05_Get_l1_s, ltD hx, iteE_t, idxE_n hx, succW hx hl, iteP]; by_cases h : x.var = v <;> simp [h])
    (by simp only [ref05_Get_l1_s, ltI, iteE_f]), runL_findSome, bndE_s]
  exact getS_of l v _ rfl
theorem binding_Get_eq (l : List TSlot) (v : Int) (hl : l.length ≤ 9223372036854775807) : binding_Get l v = some (getS l v) := by
  unfold binding_Get binding_Get_l1
  rw [loop_find l (fun _ s => if s.var = v then some (Sum.inr s.value : Unit ⊕ TValue) else none) (.inl ())
    (fun i x hx => by simp only [binding_Get_l1_s, ltD hx, iteE_t, idxE_n hx, succW hx hl, iteP]; by_cases h : x.var = v <;> simp [h])
    (by simp only [binding_Get_l1_s, ltI, iteE_f]), runL_findSome, bndE_s]
  exact getS_of l v _ rfl
def underS (a b : List TSlot) : Bool := a.all fun s => decide (getS b s.var = (s.value, true))
theorem binding_Under_eq (a b : List TSlot) (ha : a.length ≤ 9223372036854775807) (hb : b.length ≤ 9223372036854775807) : binding_Under a b = some (underS a b) := by
  unfold binding_Under binding_both
  simp only [bndE_s]
  unfold binding_both_1 binding_both_1_l1
  have h := loop_list (step := fun s : (Bool ⊕ Bool) × Int => binding_both_1_l1_s (stepOf (binding_Under_r1_rd a b)) b a (a.length : Int) s.1 s.2) a (fun i w => (w, (i : Int)))
    (fun _ (w : Bool ⊕ Bool) x => if getS b x.var = (x.value, true) then .inl w else .inr (.inr (.inr false))) (fun w => .inl w) (fun _ w => w = .inl false) (fun i x w hx hI => by
      subst hI
      refine ⟨?_, fun w' hw => ?_⟩
      · simp only [binding_both_1_l1_s, ltD hx, iteE_t, binding_both_1_b2, idxE_n hx, binding_Get_eq b _ hb, bndE_s, succW hx ha]
        obtain ⟨y, o⟩ := getS b x.var
        cases o
        · simp [iteE, yldE, stepOf, binding_Under_r1_rd, sumE, bndE, binding_Under_b4, binding_Under_b7]
        · by_cases h : y = x.value <;> simp [iteE, yldE, stepOf, binding_Under_r1_rd, sumE, bndE, binding_Under_b2, binding_Under_b6, TValue.eqb_dec, h]
      · split at hw
        · cases hw; rfl
        · cases hw)
    (fun w _ => by simp only [binding_both_1_l1_s, ltI, iteE_f]) (a.length + 1) 0 (.inl false) (by omega) (by omega) rfl
  rw [show ((.inl false : Bool ⊕ Bool), (0 : Int)) = (.inl false, ((0 : Nat) : Int)) from rfl, h, List.drop_zero, bndE_s]
  unfold underS
  generalize 0 = i
  clear h ha
  revert i
  induction a with
  | nil => intro i; rfl
  | cons x xs ih =>
    intro i
    rw [runL, List.all_cons]
    by_cases h : getS b x.var = (x.value, true)
    · simp only [h, if_true, decide_true, Bool.true_and]; exact ih (i + 1)
    · simp [h, sumE, bndE]
def RightP (l : List TSlot) : Prop := l.Pairwise (fun a b => a.var < b.var) ∧ ∀ s ∈ l, 0 ≤ s.var ∧ s.var ≤ 7
theorem getS_mem {l : List TSlot} {v : Int} {x : TValue} (h : getS l v = (x, true)) : TSlot.mk v x ∈ l := by
  unfold getS at h
  split at h
  · rename_i y hy
    cases h
    obtain ⟨s, hs, hv⟩ := List.exists_of_findSome?_eq_some hy
    split at hv
    · rename_i e; cases hv; rw [← e]; exact hs
    · cases hv
  · cases h
theorem getS_of_mem {l : List TSlot} (hl : RightP l) {s : TSlot} (h : s ∈ l) : getS l s.var = (s.value, true) := by
  have key : ∀ (l : List TSlot), l.Pairwise (fun a b => a.var < b.var) → s ∈ l → l.findSome? (fun t => if t.var = s.var then some t.value else none) = some s.value := by
    intro l
    induction l with
    | nil => intro _ h; simp at h
    | cons t l ih =>
      intro hp hs
      rw [List.findSome?_cons]
      obtain ⟨h1, h2⟩ := List.pairwise_cons.1 hp
      rcases List.mem_cons.1 hs with rfl | hs
      · simp
      · have := h1 s hs
        rw [if_neg (by omega)]
        exact ih h2 hs
  unfold getS
  rw [key l hl.1 h]
theorem underS_iff {a b : List TSlot} (hb : RightP b) : underS a b = true ↔ ∀ s ∈ a, s ∈ b := by
  unfold underS
  rw [List.all_eq_true]
  constructor
  · intro h s hs
    have := h s hs
    simp only [decide_eq_true_eq] at this
    exact getS_mem this
  · intro h s hs
    simp only [decide_eq_true_eq]
    exact getS_of_mem hb (h s hs)
theorem chkF {β : Type} {a b n : Nat} (h : a + b ≤ 1073741824) (hn : n ≤ 131072) (k : Option β) : chkE (fit a b n) k = k := chkE_p (fit_small h hn) k
def vR (v : TValue) : Bool :=
  if v.kind = 1 then decide (v.str = []) && !v.bool
  else if v.kind = 2 then decide (v.int = 0) && !v.bool && decide (v.str.length ≤ 4096)
  else if v.kind = 3 then decide (v.int = 0) && decide (v.str = []) else false
theorem ref03_Right_eq (v : TValue) : ref03_Right v = some (vR v) := by
  unfold ref03_Right vR
  have hc : decide ((v.str.length : Int) ≤ 4096) = decide (v.str.length ≤ 4096) := by
    by_cases h : v.str.length ≤ 4096
    · have : (v.str.length : Int) ≤ 4096 := by omega
      simp [h, this]
    · have : ¬ (v.str.length : Int) ≤ 4096 := by omega
      simp [h, this]
  rw [hc]
  by_cases h1 : v.kind = 1
  · by_cases hs : v.str = [] <;> simp [h1, hs, iteE]
  by_cases h2 : v.kind = 2
  · by_cases hn : v.int = 0 <;> cases hb : v.bool <;> simp [h2, hn, iteE]
  by_cases h3 : v.kind = 3
  · by_cases hn : v.int = 0 <;> simp [h3, hn, iteE]
  · simp [h1, h2, h3, iteE]
theorem value_Right_eq (v : TValue) : value_Right v = some (vR v) := by
  rw [← ref03_Right_eq]
  obtain ⟨k, n, s, b⟩ := v
  unfold value_Right ref03_Right value_Int value_Str value_Bool
  simp only [bndE_s, iteP, TValue.eqb_dec, TValue.mk.injEq, iteE_if]
  by_cases h1 : k = 1
  · subst h1; by_cases hs : s = [] <;> cases b <;> simp [hs]
  by_cases h2 : k = 2
  · subst h2; by_cases hn : n = 0 <;> cases b <;> simp [hn]
  by_cases h3 : k = 3
  · subst h3; by_cases hn : n = 0 <;> by_cases hs : s = [] <;> cases b <;> simp [hn, hs]
  · simp [h1, h2, h3]
theorem midI {i j : Nat} (h : i + j < 4611686018427387904) : IntKind.wrap .i64 (intVal .shr .u64 (IntKind.wrap .u64 (intVal .add .i64 (i : Int) (j : Int))) 1) = (((i + j) / 2 : Nat) : Int) := by
  have e1 : intVal .add .i64 (i : Int) (j : Int) = ((i + j : Nat) : Int) := by rw [addI (by omega) (by omega)]; omega
  rw [e1, wrapU_nat (by omega)]
  have e2 : intVal .shr .u64 (((i + j : Nat)) : Int) 1 = (((i + j) / 2 ^ 1 : Nat) : Int) := shrU (n := i + j) (k := 1) (by decide)
  rw [e2, Nat.pow_one, wrapI (by omega) (by omega)]
theorem bs_loop {step : Int × Int → Option ((Int × Int) ⊕ Int)} (n : Nat) (lt : Nat → Bool)
    (h1 : ∀ i j : Nat, i < j → j ≤ n → step ((i : Int), (j : Int)) = some (.inl (if lt ((i + j) / 2) = true then ((((i + j) / 2 + 1 : Nat) : Int), (j : Int)) else ((i : Int), (((i + j) / 2 : Nat) : Int)))))
    (h2 : ∀ i : Nat, step ((i : Int), (i : Int)) = some (.inr (i : Int))) (hm : ∀ a b, a ≤ b → b < n → lt b = true → lt a = true) :
    ∃ k : Nat, k ≤ n ∧ loopE step (0, (n : Int)) = some (k : Int) ∧ (∀ a, a < k → lt a = true) ∧ ∀ a, k ≤ a → a < n → lt a = false := by
  obtain ⟨t, ht, k, hk, rfl, p1, p2⟩ := loopE_ex (step := step) (fun s => ∃ i j : Nat, s = ((i : Int), (j : Int)) ∧ i ≤ j ∧ j ≤ n ∧ (∀ a, a < i → lt a = true) ∧ ∀ a, j ≤ a → a < n → lt a = false) (fun s => (s.2 - s.1).toNat)
    (fun t => ∃ k : Nat, k ≤ n ∧ t = (k : Int) ∧ (∀ a, a < k → lt a = true) ∧ ∀ a, k ≤ a → a < n → lt a = false)
    (by
      rintro s ⟨i, j, rfl, hij, hj, q1, q2⟩
      rcases Nat.lt_or_ge i j with h | h
      · right
        cases hl : lt ((i + j) / 2) with
        | true =>
          refine ⟨((((i + j) / 2 + 1 : Nat) : Int), (j : Int)), by rw [h1 i j h hj, hl]; rfl, ⟨(i + j) / 2 + 1, j, rfl, by omega, hj, fun a ha => hm a ((i + j) / 2) (by omega) (by omega) hl, q2⟩, by simp only; omega⟩
        | false =>
          refine ⟨((i : Int), (((i + j) / 2 : Nat) : Int)), by rw [h1 i j h hj, hl]; rfl, ⟨i, (i + j) / 2, rfl, by omega, by omega, q1, fun a ha hn => ?_⟩, by simp only; omega⟩
          rcases Nat.lt_or_ge a j with g | g
          · cases hla : lt a with
            | false => rfl
            | true => rw [hm ((i + j) / 2) a ha hn hla] at hl; cases hl
          · exact q2 a g hn
      · have : i = j := by omega
        subst this
        exact .inl ⟨(i : Int), h2 i, i, hj, rfl, q1, q2⟩)
    (0, (n : Int)) ⟨0, n, rfl, by omega, Nat.le_refl _, fun a ha => by omega, fun a ha hn => by omega⟩
  exact ⟨k, hk, ht, p1, p2⟩

def SV (w : List TSlot) : Prop := w.Pairwise (fun a b => a.var < b.var) ∧ ∀ s ∈ w, 0 ≤ s.var ∧ s.var ≤ 63
theorem sorted_ext : ∀ {a b : List TSlot}, a.Pairwise (fun x y => x.var < y.var) → b.Pairwise (fun x y => x.var < y.var) → (∀ s, s ∈ a ↔ s ∈ b) → a = b
  | [], [], _, _, _ => rfl
  | [], y :: b, _, _, h => by have := (h y).2 (by simp); simp at this
  | x :: a, [], _, _, h => by have := (h x).1 (by simp); simp at this
  | x :: a, y :: b, ha, hb, h => by
    obtain ⟨ha1, ha2⟩ := List.pairwise_cons.1 ha
    obtain ⟨hb1, hb2⟩ := List.pairwise_cons.1 hb
    have hxy : x = y := by
      rcases List.mem_cons.1 ((h x).1 (by simp)) with e | e
      · exact e
      · rcases List.mem_cons.1 ((h y).2 (by simp)) with e2 | e2
        · exact e2.symm
        · have := hb1 x e; have := ha1 y e2; omega
    subst hxy
    congr 1
    refine sorted_ext ha2 hb2 fun s => ⟨fun hs => ?_, fun hs => ?_⟩
    · rcases List.mem_cons.1 ((h s).1 (List.mem_cons_of_mem _ hs)) with e | e
      · subst e; have := ha1 s hs; omega
      · exact e
    · rcases List.mem_cons.1 ((h s).2 (List.mem_cons_of_mem _ hs)) with e | e
      · subst e; have := hb1 s hs; omega
      · exact e
def insV : List TSlot → TSlot → List TSlot
  | [], x => [x]
  | y :: l, x => if x.var < y.var then x :: y :: l else y :: insV l x
theorem insV_mem : ∀ (l : List TSlot) (x s : TSlot), s ∈ insV l x ↔ s = x ∨ s ∈ l
  | [], x, s => by simp [insV]
  | y :: l, x, s => by
    unfold insV
    split
    · simp
    · rw [List.mem_cons, insV_mem l x s, List.mem_cons]
      constructor
      · rintro (h | h | h) <;> simp [h]
      · rintro (h | h | h) <;> simp [h]
theorem insV_sorted : ∀ (l : List TSlot) (x : TSlot), l.Pairwise (fun a b => a.var < b.var) → (∀ s ∈ l, s.var ≠ x.var) → (insV l x).Pairwise (fun a b => a.var < b.var)
  | [], x, _, _ => by simp [insV]
  | y :: l, x, h, hn => by
    obtain ⟨h1, h2⟩ := List.pairwise_cons.1 h
    unfold insV
    split
    · rename_i hxy
      refine List.pairwise_cons.2 ⟨fun s hs => ?_, h⟩
      rcases List.mem_cons.1 hs with rfl | hs
      · exact hxy
      · have := h1 s hs; omega
    · rename_i hxy
      refine List.pairwise_cons.2 ⟨fun s hs => ?_, insV_sorted l x h2 fun s hs => hn s (List.mem_cons_of_mem _ hs)⟩
      rcases (insV_mem l x s).1 hs with rfl | hs
      · have := hn y (by simp); omega
      · exact h1 s hs
theorem insV_len : ∀ (l : List TSlot) (x : TSlot), (insV l x).length = l.length + 1
  | [], x => rfl
  | y :: l, x => by unfold insV; split <;> simp [insV_len l x]
theorem getS_none {l : List TSlot} {v : Int} (h : (getS l v).2 = false) : ∀ s ∈ l, s.var ≠ v := by
  intro s hs e
  unfold getS at h
  cases hf : l.findSome? (fun s => if s.var = v then some s.value else none) with
  | some x => rw [hf] at h; cases h
  | none =>
    rw [List.findSome?_eq_none_iff] at hf
    have := hf s hs
    simp [e] at this
theorem getS_sorted {l : List TSlot} (hl : l.Pairwise (fun a b => a.var < b.var)) {s : TSlot} (h : s ∈ l) : getS l s.var = (s.value, true) := by
  have key : ∀ (l : List TSlot), l.Pairwise (fun a b => a.var < b.var) → s ∈ l → l.findSome? (fun t => if t.var = s.var then some t.value else none) = some s.value := by
    intro l
    induction l with
    | nil => intro _ h; simp at h
    | cons t l ih =>
      intro hp hs
      rw [List.findSome?_cons]
      obtain ⟨h1, h2⟩ := List.pairwise_cons.1 hp
      rcases List.mem_cons.1 hs with rfl | hs
      · simp
      · have := h1 s hs
        rw [if_neg (by omega)]
        exact ih h2 hs
  unfold getS
  rw [key l hl h]
def putV (w : List TSlot) (x : TSlot) : Option (List TSlot) := if (getS w x.var).2 = true then (if (getS w x.var).1 = x.value then some w else none) else some (insV w x)
theorem putV_ok {w w' : List TSlot} {x : TSlot} (hw : SV w) (hx : 0 ≤ x.var ∧ x.var ≤ 63) (h : putV w x = some w') : SV w' ∧ w'.length ≤ w.length + 1 := by
  unfold putV at h
  split at h
  · split at h
    · cases h; exact ⟨hw, by omega⟩
    · cases h
  · rename_i hn
    cases h
    have hn' : (getS w x.var).2 = false := by simpa using hn
    refine ⟨⟨insV_sorted w x hw.1 (getS_none hn'), fun s hs => ?_⟩, by rw [insV_len]; exact Nat.le_refl _⟩
    rcases (insV_mem w x s).1 hs with rfl | hs
    · exact hx
    · exact hw.2 s hs
theorem cut_ins {w : List TSlot} {x : TSlot} (hw : w.Pairwise (fun a b => a.var < b.var)) (hn : ∀ s ∈ w, s.var ≠ x.var) {k : Nat} (hk : k ≤ w.length) (h1 : ∀ j s, w[j]? = some s → j < k → s.var < x.var) (h2 : ∀ j s, w[j]? = some s → k ≤ j → x.var < s.var) :
    w.take k ++ [x] ++ w.drop k = insV w x := by
  refine sorted_ext ?_ (insV_sorted w x hw hn) fun s => ?_
  · rw [List.append_assoc, List.singleton_append]
    have hd : ∀ s ∈ w.drop k, x.var < s.var := fun s hs => by
      obtain ⟨j, hj, rfl⟩ := List.mem_iff_getElem.1 hs
      rw [List.getElem_drop]
      exact h2 (k + j) _ (List.getElem?_eq_getElem (by simp at hj; omega)) (by omega)
    have htk : ∀ s ∈ w.take k, s.var < x.var := fun s hs => by
      obtain ⟨j, hj, rfl⟩ := List.mem_iff_getElem.1 hs
      rw [List.getElem_take]
      simp at hj
      exact h1 j _ (List.getElem?_eq_getElem (by omega)) (by omega)
    refine List.pairwise_append.2 ⟨hw.sublist (List.take_sublist _ _), List.pairwise_cons.2 ⟨hd, hw.sublist (List.drop_sublist _ _)⟩, fun a ha b hb => ?_⟩
    rcases List.mem_cons.1 hb with rfl | hb
    · exact htk a ha
    · have := htk a ha; have := hd b hb; omega
  · rw [insV_mem]
    have hw2 : s ∈ w ↔ s ∈ w.take k ∨ s ∈ w.drop k := by
      conv => lhs; rw [← List.take_append_drop k w]
      rw [List.mem_append]
    rw [hw2]
    simp only [List.mem_append, List.mem_singleton]
    constructor
    · rintro ((h | h) | h) <;> simp [h]
    · rintro (h | h | h) <;> simp [h]
theorem bs_slots {w : List TSlot} {v : Int} (hw : SV w) (hv : 0 ≤ v ∧ v ≤ 63) (hl : w.length ≤ 1000) :
    ∃ k : Nat, k ≤ w.length ∧ slices_BinarySearchFunc_Slot_Slot_int w v = some ((k : Int), (getS w v).2) ∧ (∀ j s, w[j]? = some s → j < k → s.var < v) ∧ (∀ j s, w[j]? = some s → k ≤ j → v ≤ s.var) ∧
      ((getS w v).2 = true → ∃ s, w[k]? = some s ∧ s.var = v) := by
  have hsub : ∀ s ∈ w, binding_find_1 s v = some (s.var - v) := fun s hs => by
    have := hw.2 s hs
    unfold binding_find_1; rw [subI (by omega) (by omega)]
  unfold slices_BinarySearchFunc_Slot_Slot_int slices_BinarySearchFunc_Slot_Slot_int_l1
  obtain ⟨k, hk, hkr, p1, p2⟩ := bs_loop (step := fun s : Int × Int => slices_BinarySearchFunc_Slot_Slot_int_l1_s w v (w.length : Int) s.1 s.2) w.length (fun a => match w[a]? with | some s => decide (s.var < v) | none => false)
    (fun i j hij hj => by
      obtain ⟨x, hx, _⟩ := get_lt (l := w) (i := (i + j) / 2) (by omega)
      have hd : decide ((i : Int) < (j : Int)) = true := by simp; omega
      simp only [slices_BinarySearchFunc_Slot_Slot_int_l1_s, hd, iteE_t, slices_BinarySearchFunc_Slot_Slot_int_b2, midI (show i + j < 4611686018427387904 by omega), idxE_n hx, hsub x (List.mem_of_getElem? hx), bndE_s, slices_BinarySearchFunc_Slot_Slot_int_b3, hx]
      by_cases h : x.var < v
      · have h' : x.var - v < 0 := by omega
        simp only [h, h', decide_true, iteE_t, bndE_s, if_true, succI (show (i + j) / 2 < 9223372036854775807 by omega)]
      · have h' : ¬ x.var - v < 0 := by omega
        simp [h, h', iteE, bndE])
    (fun i => by simp [slices_BinarySearchFunc_Slot_Slot_int_l1_s, iteE])
    (fun a b hab hb h => by
      obtain ⟨x, hx, _⟩ := get_lt (l := w) (i := a) (by omega)
      obtain ⟨y, hy, _⟩ := get_lt (l := w) (i := b) hb
      simp only [hx, hy, decide_eq_true_eq] at h ⊢
      rcases Nat.lt_or_ge a b with g | g
      · obtain ⟨ha', rfl⟩ := List.getElem?_eq_some_iff.1 hx
        obtain ⟨hb', rfl⟩ := List.getElem?_eq_some_iff.1 hy
        have := List.pairwise_iff_getElem.1 hw.1 a b ha' hb' g; omega
      · have : a = b := by omega
        subst this; rw [hx] at hy; cases hy; exact h)
  have q1 : ∀ j s, w[j]? = some s → j < k → s.var < v := fun j s hs hj => by
    have := p1 j hj; simp only [hs] at this; simpa using this
  have q2 : ∀ j s, w[j]? = some s → k ≤ j → v ≤ s.var := fun j s hs hj => by
    have := p2 j hj (getLt hs); simp only [hs] at this; simp at this; exact this
  refine ⟨k, hk, ?_, q1, q2, ?_⟩
  · rw [hkr, bndE_s]
    by_cases h : k < w.length
    · obtain ⟨x, hx, _⟩ := get_lt h
      rw [iteP, if_pos (by omega), idxE_n hx, hsub x (List.mem_of_getElem? hx), bndE_s]
      have hge := q2 k x hx (Nat.le_refl _)
      by_cases hv2 : x.var = v
      · have := getS_sorted hw.1 (List.mem_of_getElem? hx)
        rw [hv2] at this
        simp [this, hv2]
      · cases hg : (getS w v).2 with
        | false => have : ¬ x.var - v = 0 := by omega
                   simp [this]
        | true =>
          have hm := getS_mem (l := w) (v := v) (x := (getS w v).1) (by rw [← hg])
          obtain ⟨j, hj, hjs⟩ := List.mem_iff_getElem.1 hm
          have hjg : w[j]? = some (TSlot.mk v (getS w v).1) := by rw [List.getElem?_eq_getElem hj, hjs]
          rcases Nat.lt_trichotomy j k with g | g | g
          · have := q1 j _ hjg g; simp at this
          · subst g; rw [hx] at hjg; cases hjg; exact absurd rfl hv2
          · obtain ⟨hk', hxe⟩ := List.getElem?_eq_some_iff.1 hx
            have := List.pairwise_iff_getElem.1 hw.1 k j hk' hj g
            rw [hxe, hjs] at this
            simp only at this; omega
    · rw [iteP, if_neg (by omega)]
      cases hg : (getS w v).2 with
      | false => rfl
      | true =>
        have hm := getS_mem (l := w) (v := v) (x := (getS w v).1) (by rw [← hg])
        obtain ⟨j, hj, hjs⟩ := List.mem_iff_getElem.1 hm
        have := q1 j _ (by rw [List.getElem?_eq_getElem hj, hjs]) (by omega)
        simp at this
  · intro hg
    have hm := getS_mem (l := w) (v := v) (x := (getS w v).1) (by rw [← hg])
    obtain ⟨j, hj, hjs⟩ := List.mem_iff_getElem.1 hm
    have hjg : w[j]? = some (TSlot.mk v (getS w v).1) := by rw [List.getElem?_eq_getElem hj, hjs]
    have hkj : k ≤ j := Nat.le_of_not_lt fun g => by have := q1 j _ hjg g; simp at this
    obtain ⟨x, hx, _⟩ := get_lt (l := w) (i := k) (by omega)
    refine ⟨x, hx, ?_⟩
    have hge := q2 k x hx (Nat.le_refl _)
    rcases Nat.eq_or_lt_of_le hkj with e | e
    · subst e; rw [hx] at hjg; cases hjg; rfl
    · obtain ⟨hk', hxe⟩ := List.getElem?_eq_some_iff.1 hx
      have := List.pairwise_iff_getElem.1 hw.1 k j hk' hj e
      rw [hxe, hjs] at this
      simp only at this; omega
def fitsS (a b : List TSlot) : Bool := a.all fun s => !(getS b s.var).2 || decide ((getS b s.var).1 = s.value)
theorem ref05_Fits_eq (a b : List TSlot) (ha : a.length ≤ 9223372036854775807) (hb : b.length ≤ 9223372036854775807) : ref05_Fits a b = some (fitsS a b) := by
  unfold ref05_Fits ref05_Fits_l1
  rw [loop_all0 a (fun s => !(getS b s.var).2 || decide ((getS b s.var).1 = s.value)) (.inl () : Unit ⊕ Unit) (.inr ())
    (fun i x hx => by
      simp only [ref05_Fits_l1_s, ltD hx, iteE_t, idxE_n hx, succW hx ha, ref05_Get_eq b _ hb, bndE_s, TValue.eqb_dec]
      obtain ⟨y, o⟩ := getS b x.var
      cases o
      · simp [iteE]
      · by_cases h : y = x.value <;> simp [iteE, h])
    (by simp only [ref05_Fits_l1_s, ltI, iteE_f]), bndE_s]
  unfold fitsS
  cases a.all _ <;> rfl
def unionF (a b : List TSlot) (v : Nat) : Option TSlot :=
  if (getS a v).2 = true then some ⟨v, (getS a v).1⟩ else if (getS b v).2 = true then some ⟨v, (getS b v).1⟩ else none
def unionS (a b : List TSlot) : List TSlot := (List.range 8).filterMap (unionF a b)
theorem ref05_Union_eq (a b : List TSlot) (ha : a.length ≤ 9223372036854775807) (hb : b.length ≤ 9223372036854775807) : ref05_Union a b = some (unionS a b) := by
  unfold ref05_Union ref05_Union_l1
  have hg : ∀ (l : List TSlot) (v : Int), l.length ≤ 9223372036854775807 → ref05_Get l v = some (getS l v) := fun l v hl => ref05_Get_eq l v hl
  have h := loop_fold (step := fun s : Int × List TSlot => ref05_Union_l1_s a b s.1 s.2) (List.range 8) (fun w v => w ++ (unionF a b v).toList) (fun w => w) (fun i w => w.length ≤ i)
    (fun i x w hx hI => by
      have hi : i < 8 := by simpa using getLt hx
      have hxi : x = i := by
        rw [List.getElem?_range hi] at hx; cases hx; rfl
      subst hxi
      have hd : decide ((x : Int) < 8) = true := by simp; omega
      refine ⟨?_, ?_⟩
      · simp only [ref05_Union_l1_s, hd, iteE_t, ref05_Union_b5, hg a _ ha, hg b _ hb, bndE_s, ref05_Union_b6, ref05_Union_b7, succI (show x < 9223372036854775807 by omega), unionF]
        rw [chkF (by simp; omega) (by decide), chkF (by simp; omega) (by decide)]
        cases (getS a (x : Int)).2 <;> cases (getS b (x : Int)).2 <;> simp [iteE, bndE]
      · unfold unionF
        split
        · simpa using hI
        · split
          · simpa using hI
          · simp; omega)
    (fun w _ => by simp [ref05_Union_l1_s, iteE]) [] (by simp)
  rw [h, bndE_s]
  congr 1
  unfold unionS
  have key : ∀ (l : List Nat) (w : List TSlot), l.foldl (fun w v => w ++ (unionF a b v).toList) w = w ++ l.filterMap (unionF a b) := by
    intro l
    induction l with
    | nil => intro w; simp
    | cons v l ih => intro w; rw [List.foldl_cons, ih, List.filterMap_cons]; cases unionF a b v <;> simp
  rw [key]; simp
theorem unionF_var {a b : List TSlot} {v : Nat} {s : TSlot} (h : unionF a b v = some s) : s.var = (v : Int) := by
  unfold unionF at h
  split at h
  · cases h; rfl
  · split at h
    · cases h; rfl
    · cases h
theorem unionS_sorted (a b : List TSlot) : (unionS a b).Pairwise (fun x y => x.var < y.var) := by
  unfold unionS
  have h8 : (List.range 8).Pairwise (· < ·) := List.pairwise_lt_range
  rw [List.pairwise_filterMap]
  refine h8.imp fun {v w} hvw s hs t ht => ?_
  have := unionF_var hs; have := unionF_var ht; omega
theorem unionS_mem {a b : List TSlot} {s : TSlot} : s ∈ unionS a b ↔ 0 ≤ s.var ∧ s.var ≤ 7 ∧ (getS a s.var = (s.value, true) ∨ (getS a s.var).2 = false ∧ getS b s.var = (s.value, true)) := by
  unfold unionS
  rw [List.mem_filterMap]
  constructor
  · rintro ⟨v, hv, h⟩
    have hv8 : v < 8 := by simpa using hv
    have hsv := unionF_var h
    refine ⟨by omega, by omega, ?_⟩
    rw [hsv]
    unfold unionF at h
    split at h
    · rename_i ha; cases h; left; simp only; rw [← ha]
    · rename_i ha
      split at h
      · rename_i hb; cases h; right; exact ⟨by simpa using ha, by simp only; rw [← hb]⟩
      · cases h
  · rintro ⟨h0, h7, h⟩
    refine ⟨s.var.toNat, by simp; omega, ?_⟩
    have e : ((s.var.toNat : Nat) : Int) = s.var := by omega
    unfold unionF
    rw [e]
    rcases h with h | ⟨h, h'⟩
    · rw [h]; simp
    · rw [h, h']; simp
theorem bl_irr : ∀ x : List UInt8, Op.bytesLess x x = false
  | [] => rfl
  | a :: x => by simp [Op.bytesLess, bl_irr x]
theorem bl_trans : ∀ {x y z : List UInt8}, Op.bytesLess x y = true → Op.bytesLess y z = true → Op.bytesLess x z = true
  | [], [], _, h, _ => by simp [Op.bytesLess] at h
  | _ :: _, [], _, h, _ => by simp [Op.bytesLess] at h
  | [], _ :: _, [], _, h => by simp [Op.bytesLess] at h
  | [], _ :: _, _ :: _, _, _ => rfl
  | _ :: _, _ :: _, [], _, h => by simp [Op.bytesLess] at h
  | a :: x, b :: y, c :: z, h1, h2 => by
    simp only [Op.bytesLess, Bool.or_eq_true, Bool.and_eq_true, decide_eq_true_eq, beq_iff_eq] at h1 h2 ⊢
    rcases h1 with h1 | ⟨rfl, h1⟩
    · rcases h2 with h2 | ⟨rfl, h2⟩
      · exact .inl (UInt8.lt_trans h1 h2)
      · exact .inl h1
    · rcases h2 with h2 | ⟨rfl, h2⟩
      · exact .inl h2
      · exact .inr ⟨rfl, bl_trans h1 h2⟩
theorem bl_tot : ∀ {x y : List UInt8}, x ≠ y → Op.bytesLess x y = true ∨ Op.bytesLess y x = true
  | [], [], h => absurd rfl h
  | _ :: _, [], _ => .inr rfl
  | [], _ :: _, _ => .inl rfl
  | a :: x, b :: y, h => by
    simp only [Op.bytesLess, Bool.or_eq_true, Bool.and_eq_true, decide_eq_true_eq, beq_iff_eq]
    by_cases hab : a = b
    · subst hab
      rcases bl_tot (x := x) (y := y) (fun e => h (by rw [e])) with g | g
      · exact .inl (.inr ⟨rfl, g⟩)
      · exact .inr (.inr ⟨rfl, g⟩)
    · have : a < b ∨ b < a := by
        rw [UInt8.lt_iff_toNat_lt, UInt8.lt_iff_toNat_lt]
        have : a.toNat ≠ b.toNat := fun e => hab (UInt8.toNat_inj.1 e)
        omega
      rcases this with g | g
      · exact .inl (.inl g)
      · exact .inr (.inl g)
theorem bl_find : ∀ (x y : List UInt8), (match ((x.zip y).findSome? fun z => if z.1 = z.2 then none else some (Sum.inr (decide (z.1 < z.2)) : Unit ⊕ Bool)).getD (.inl ()) with | .inl _ => decide (x.length < y.length) | .inr b => b) = Op.bytesLess x y
  | [], [] => rfl
  | _ :: _, [] => rfl
  | [], _ :: _ => by simp [Op.bytesLess]
  | a :: x, b :: y => by
    rw [List.zip_cons_cons, List.findSome?_cons]
    by_cases h : a = b
    · subst h
      simp only [if_true, Op.bytesLess, beq_self_eq_true, Bool.true_and, ← bl_find x y]
      have : decide (a < a) = false := by simp
      rw [this, Bool.false_or]
      simp only [List.length_cons, Nat.add_lt_add_iff_right]
    · simp [h, Op.bytesLess]
theorem ref03_Below_eq (x y : List UInt8) (hx : x.length ≤ 9223372036854775807) (hy : y.length ≤ 9223372036854775807) : ref03_Below x y = some (Op.bytesLess x y) := by
  unfold ref03_Below ref03_Below_l1
  have hz : (x.zip y).length = min x.length y.length := by simp
  rw [loop_find (x.zip y) (fun _ z => if z.1 = z.2 then none else some (Sum.inr (decide (z.1 < z.2)) : Unit ⊕ Bool)) (.inl ())
    (fun i z h => by
      obtain ⟨h1, h2⟩ := zip_get h
      simp only [ref03_Below_l1_s, ltD h1, ltD h2, iteE_t, idxE_n h1, idxE_n h2, succW h1 hx]
      by_cases e : z.1 = z.2
      · simp [e, iteE]
      · have : ¬ (z.1.toNat : Int) = (z.2.toNat : Int) := fun g => e (UInt8.toNat_inj.1 (by omega))
        have : (decide ((z.1.toNat : Int) < (z.2.toNat : Int))) = decide (z.1 < z.2) := decide_eq_decide.2 (by rw [UInt8.lt_iff_toNat_lt]; omega)
        rw [this, if_neg e]
        simp [*, iteE])
    (by
      rw [hz]
      rcases Nat.le_total x.length y.length with h | h
      · rw [Nat.min_eq_left h]; simp only [ref03_Below_l1_s, ltI, iteE_f]
      · rw [Nat.min_eq_right h]; simp only [ref03_Below_l1_s, ltI, iteE_f]; cases decide ((y.length : Int) < (x.length : Int)) <;> rfl), bndE_s, runL_findSome, ← bl_find]
  cases ((x.zip y).findSome? fun z => if z.1 = z.2 then none else some (Sum.inr (decide (z.1 < z.2)) : Unit ⊕ Bool)).getD (.inl ()) <;> simp [sumE]
def ltV (a b : TValue) : Bool := if a.kind = b.kind then (if a.kind = 1 then decide (a.int < b.int) else if a.kind = 2 then Op.bytesLess a.str b.str else !a.bool && b.bool) else decide (a.kind < b.kind)
theorem value_Less_eq (a b : TValue) : value_Less a b = some (ltV a b) := by
  unfold value_Less ltV
  by_cases h : a.kind = b.kind <;> by_cases h1 : a.kind = 1 <;> by_cases h2 : a.kind = 2 <;> cases ha : a.bool <;> simp_all [iteE]
theorem ref03_Less_eq (a b : TValue) (ha : a.str.length ≤ 9223372036854775807) (hb : b.str.length ≤ 9223372036854775807) : ref03_Less a b = some (ltV a b) := by
  unfold ref03_Less ltV
  rw [ref03_Below_eq _ _ ha hb]
  by_cases h : a.kind = b.kind <;> by_cases h1 : a.kind = 1 <;> by_cases h2 : a.kind = 2 <;> cases ha : a.bool <;> simp_all [iteE, bndE]
theorem ltV_irr (a : TValue) : ltV a a = false := by
  unfold ltV; rw [if_pos rfl]; split
  · simp
  · split
    · exact bl_irr _
    · cases a.bool <;> rfl
theorem ltV_trans {a b c : TValue} (h1 : ltV a b = true) (h2 : ltV b c = true) : ltV a c = true := by
  unfold ltV at *
  by_cases e1 : a.kind = b.kind
  · by_cases e2 : b.kind = c.kind
    · rw [if_pos e1] at h1
      rw [if_pos e2] at h2
      rw [if_pos (e1.trans e2)]
      rw [e1] at h1 ⊢
      split
      · rename_i h; rw [if_pos h] at h1 h2; simp at h1 h2 ⊢; omega
      · rename_i h; rw [if_neg h] at h1 h2
        split
        · rename_i h; rw [if_pos h] at h1 h2; exact bl_trans h1 h2
        · rename_i h; rw [if_neg h] at h1 h2; simp at h1 h2 ⊢; exact ⟨h1.1, h2.2⟩
    · rw [if_neg e2] at h2; rw [e1, if_neg e2]; exact h2
  · rw [if_neg e1] at h1
    by_cases e2 : b.kind = c.kind
    · rw [← e2, if_neg e1]; exact h1
    · rw [if_neg e2] at h2
      simp only [decide_eq_true_eq] at h1 h2
      rw [if_neg (by omega)]; simp; omega
theorem vR_parts {v : TValue} (h : vR v = true) : (v.kind = 1 ∧ v.str = [] ∧ v.bool = false) ∨ (v.kind = 2 ∧ v.int = 0 ∧ v.bool = false ∧ v.str.length ≤ 4096) ∨ (v.kind = 3 ∧ v.int = 0 ∧ v.str = []) := by
  unfold vR at h
  split at h
  · left; simp at h; exact ⟨by assumption, h.1, h.2⟩
  · split at h
    · right; left; simp at h; exact ⟨by assumption, h.1.1, h.1.2, h.2⟩
    · split at h
      · right; right; simp at h; exact ⟨by assumption, h.1, h.2⟩
      · cases h
theorem ltV_tot {a b : TValue} (ha : vR a = true) (hb : vR b = true) (h : a ≠ b) : ltV a b = true ∨ ltV b a = true := by
  unfold ltV
  by_cases e : a.kind = b.kind
  · rw [if_pos e, if_pos e.symm, ← e]
    obtain ⟨k, n, s, t⟩ := a
    obtain ⟨k', n', s', t'⟩ := b
    simp only at e; subst e
    rcases vR_parts ha with ⟨rfl, h2, h3⟩ | ⟨rfl, h2, h3, h4⟩ | ⟨rfl, h2, h3⟩ <;> rcases vR_parts hb with ⟨g1, g2, g3⟩ | ⟨g1, g2, g3, g4⟩ | ⟨g1, g2, g3⟩ <;> simp only [Int.reduceEq] at g1 h2 h3 g2 g3 <;> subst_vars
    · simp at h ⊢; omega
    · simp at h ⊢; exact bl_tot h
    · simp at h ⊢; cases t <;> cases t' <;> simp_all
  · rw [if_neg e, if_neg (Ne.symm e)]; simp; omega
def ltX (x y : TSlot) : Bool := if x.var = y.var then ltV x.value y.value else decide (x.var < y.var)
theorem ltX_irr (a : TSlot) : ltX a a = false := by unfold ltX; rw [if_pos rfl, ltV_irr]
theorem ltX_trans {a b c : TSlot} (h1 : ltX a b = true) (h2 : ltX b c = true) : ltX a c = true := by
  unfold ltX at *
  by_cases e1 : a.var = b.var
  · rw [if_pos e1] at h1
    by_cases e2 : b.var = c.var
    · rw [if_pos e2] at h2; rw [if_pos (e1.trans e2)]; exact ltV_trans h1 h2
    · rw [if_neg e2] at h2; rw [e1, if_neg e2]; exact h2
  · rw [if_neg e1] at h1
    by_cases e2 : b.var = c.var
    · rw [← e2, if_neg e1]; exact h1
    · rw [if_neg e2] at h2; simp only [decide_eq_true_eq] at h1 h2; rw [if_neg (by omega)]; simp; omega
theorem ltX_tot {a b : TSlot} (ha : vR a.value = true) (hb : vR b.value = true) (h : a ≠ b) : ltX a b = true ∨ ltX b a = true := by
  unfold ltX
  by_cases e : a.var = b.var
  · rw [if_pos e, if_pos e.symm]
    exact ltV_tot ha hb fun g => h (by obtain ⟨_, _⟩ := a; obtain ⟨_, _⟩ := b; simp only at e g; rw [e, g])
  · rw [if_neg e, if_neg (Ne.symm e)]; simp; omega
def ltL : List TSlot → List TSlot → Bool
  | x :: a, y :: b => if x = y then ltL a b else ltX x y
  | _, _ => false
def ltB (a b : List TSlot) : Bool := if a.length = b.length then ltL a b else decide (a.length < b.length)
theorem ltL_irr : ∀ a, ltL a a = false
  | [] => rfl
  | x :: a => by rw [ltL, if_pos rfl, ltL_irr a]
theorem ltL_trans : ∀ {a b c : List TSlot}, ltL a b = true → ltL b c = true → ltL a c = true
  | [], _, _, h, _ => by simp [ltL] at h
  | _ :: _, [], _, h, _ => by simp [ltL] at h
  | _ :: _, _ :: _, [], _, h => by simp [ltL] at h
  | x :: a, y :: b, z :: c, h1, h2 => by
    rw [ltL] at *
    by_cases e1 : x = y
    · subst e1
      rw [if_pos rfl] at h1
      by_cases e2 : x = z
      · subst e2; rw [if_pos rfl] at h2 ⊢; exact ltL_trans h1 h2
      · rw [if_neg e2] at h2 ⊢; exact h2
    · rw [if_neg e1] at h1
      by_cases e2 : y = z
      · subst e2; rw [if_neg e1]; exact h1
      · rw [if_neg e2] at h2
        have h3 := ltX_trans h1 h2
        rw [if_neg (fun e => by rw [e, ltX_irr] at h3; cases h3)]; exact h3
theorem ltL_tot : ∀ {a b : List TSlot}, a.length = b.length → (∀ s ∈ a, vR s.value = true) → (∀ s ∈ b, vR s.value = true) → a ≠ b → ltL a b = true ∨ ltL b a = true
  | [], [], _, _, _, h => absurd rfl h
  | _ :: _, [], h, _, _, _ => by simp at h
  | [], _ :: _, h, _, _, _ => by simp at h
  | x :: a, y :: b, hl, ha, hb, h => by
    rw [ltL, ltL]
    by_cases e : x = y
    · subst e
      rw [if_pos rfl, if_pos rfl]
      exact ltL_tot (by simpa using hl) (fun s hs => ha s (List.mem_cons_of_mem _ hs)) (fun s hs => hb s (List.mem_cons_of_mem _ hs)) fun g => h (by rw [g])
    · rw [if_neg e, if_neg (Ne.symm e)]
      exact ltX_tot (ha x (by simp)) (hb y (by simp)) e
theorem ltB_irr (a : List TSlot) : ltB a a = false := by unfold ltB; rw [if_pos rfl, ltL_irr]
theorem ltB_trans {a b c : List TSlot} (h1 : ltB a b = true) (h2 : ltB b c = true) : ltB a c = true := by
  unfold ltB at *
  by_cases e1 : a.length = b.length
  · rw [if_pos e1] at h1
    by_cases e2 : b.length = c.length
    · rw [if_pos e2] at h2; rw [if_pos (e1.trans e2)]; exact ltL_trans h1 h2
    · rw [if_neg e2] at h2; rw [e1, if_neg e2]; exact h2
  · rw [if_neg e1] at h1
    by_cases e2 : b.length = c.length
    · rw [← e2, if_neg e1]; exact h1
    · rw [if_neg e2] at h2; simp only [decide_eq_true_eq] at h1 h2; rw [if_neg (by omega)]; simp; omega
def RBi (b : List TSlot) : Prop := b.length ≤ 1000 ∧ ∀ s ∈ b, vR s.value = true
theorem ltB_tot {a b : List TSlot} (ha : RBi a) (hb : RBi b) (h : a ≠ b) : ltB a b = true ∨ ltB b a = true := by
  unfold ltB
  by_cases e : a.length = b.length
  · rw [if_pos e, if_pos e.symm]; exact ltL_tot e ha.2 hb.2 h
  · rw [if_neg e, if_neg (Ne.symm e)]; simp; omega
theorem ltB_asym {a b : List TSlot} (h1 : ltB a b = true) : ltB b a = false := by
  cases h : ltB b a with
  | false => rfl
  | true => have := ltB_trans h1 h; rw [ltB_irr] at this; cases this
theorem ltL_find : ∀ (a b : List TSlot), (match ((a.zip b).findSome? fun z => if z.1 = z.2 then none else some (Sum.inr (ltX z.1 z.2) : Unit ⊕ Bool)).getD (.inl ()) with | .inl _ => false | .inr b => b) = ltL a b
  | [], _ => rfl
  | _ :: _, [] => rfl
  | x :: a, y :: b => by
    rw [List.zip_cons_cons, List.findSome?_cons, ltL]
    by_cases h : x = y
    · subst h; simp only [if_true, ← ltL_find a b]
    · simp [h]
theorem strL {b : List TSlot} (h : RBi b) {s : TSlot} (hs : s ∈ b) : s.value.str.length ≤ 9223372036854775807 := by
  rcases vR_parts (h.2 s hs) with ⟨_, h2, _⟩ | ⟨_, _, _, h4⟩ | ⟨_, _, h3⟩
  · rw [h2]; decide
  · omega
  · rw [h3]; decide
theorem slot_ne {x y : TSlot} (h : x.var = y.var) : (x = y) ↔ x.value = y.value := by
  obtain ⟨a, b⟩ := x; obtain ⟨c, d⟩ := y
  simp only at h; subst h; simp
theorem binding_Less_eq {a b : List TSlot} (ha : RBi a) : binding_Less a b = some (ltB a b) := by
  unfold binding_Less ltB binding_Less_l1
  rw [iteE_if, len_dec]
  by_cases hl : a.length = b.length
  · have hz : (a.zip b).length = a.length := by simp [hl]
    have h1 := ha.1
    rw [if_neg (by simp [hl]), loop_find (a.zip b) (fun _ z => if z.1 = z.2 then none else some (Sum.inr (ltX z.1 z.2) : Unit ⊕ Bool)) (.inl ())
      (fun i z h => by
        obtain ⟨h1, h2⟩ := zip_get h
        simp only [binding_Less_l1_s, ltD h1, iteE_t, idxE_n h1, idxE_n h2, succW h1 (show a.length ≤ 9223372036854775807 by omega), value_Less_eq, bndE_s, TValue.eqb_dec]
        by_cases e : z.1.var = z.2.var
        · have := slot_ne e
          by_cases e2 : z.1.value = z.2.value
          · simp [e, e2, this.2 e2, iteE]
          · simp [e, e2, this, iteE, ltX]
        · have : ¬ z.1 = z.2 := fun g => e (by rw [g])
          simp [e, this, iteE, ltX])
      (by rw [hz]; simp only [binding_Less_l1_s, ltI, iteE_f]), bndE_s, runL_findSome, if_pos hl, ← ltL_find]
    cases ((a.zip b).findSome? fun z => if z.1 = z.2 then none else some (Sum.inr (ltX z.1 z.2) : Unit ⊕ Bool)).getD (.inl ()) <;> rfl
  · rw [if_pos (by simp [hl]), if_neg hl]; simp
theorem ref05_Less_eq {a b : List TSlot} (ha : RBi a) (hb : RBi b) : ref05_Less a b = some (ltB a b) := by
  unfold ref05_Less ltB ref05_Less_l1
  rw [iteE_if, len_dec]
  by_cases hl : a.length = b.length
  · have hz : (a.zip b).length = a.length := by simp [hl]
    have h1 := ha.1
    rw [if_neg (by simp [hl]), loop_find (a.zip b) (fun _ z => if z.1 = z.2 then none else some (Sum.inr (ltX z.1 z.2) : Unit ⊕ Bool)) (.inl ())
      (fun i z h => by
        obtain ⟨h1, h2⟩ := zip_get h
        simp only [ref05_Less_l1_s, ltD h1, iteE_t, idxE_n h1, idxE_n h2, succW h1 (show a.length ≤ 9223372036854775807 by omega), ref03_Less_eq _ _ (strL ha (List.mem_of_getElem? h1)) (strL hb (List.mem_of_getElem? h2)), bndE_s, TValue.eqb_dec]
        by_cases e : z.1.var = z.2.var
        · have := slot_ne e
          by_cases e2 : z.1.value = z.2.value
          · simp [e, e2, this.2 e2, iteE]
          · simp [e, e2, this, iteE, ltX]
        · have : ¬ z.1 = z.2 := fun g => e (by rw [g])
          simp [e, this, iteE, ltX])
      (by rw [hz]; simp only [ref05_Less_l1_s, ltI, iteE_f]), bndE_s, runL_findSome, if_pos hl, ← ltL_find]
    cases ((a.zip b).findSome? fun z => if z.1 = z.2 then none else some (Sum.inr (ltX z.1 z.2) : Unit ⊕ Bool)).getD (.inl ()) <;> rfl
  · rw [if_pos (by simp [hl]), if_neg hl]; simp
theorem ref05_Same_eq (a b : List TSlot) (ha : a.length ≤ 9223372036854775807) : ref05_Same a b = some (decide (a = b)) := by
  unfold ref05_Same ref05_Same_l1
  rw [iteE_if, len_dec]
  by_cases hl : a.length = b.length
  · rw [if_neg (by simp [hl]), loop_same a b (.inl () : Unit ⊕ Unit) (.inr ()) hl
      (fun i x y hx hy => by
        simp only [ref05_Same_l1_s, ltD hx, iteE_t, idxE_n hx, idxE_n hy, succW hx ha, TSlot.eqb_dec]
        by_cases e : x = y <;> simp [e, iteE])
      (by simp only [ref05_Same_l1_s, ltI, iteE_f]), bndE_s]
    by_cases e : a = b <;> simp [e, sumE]
  · rw [if_pos (by simp [hl])]
    have : ¬ a = b := fun e => hl (by rw [e])
    simp [this]
def SB (w : List (List TSlot)) : Prop := w.Pairwise (fun a b => ltB a b = true) ∧ ∀ b ∈ w, RBi b
def putB (w : List (List TSlot)) (x : List TSlot) : List (List TSlot) := if x ∈ w then w else w.filter (fun y => ltB y x) ++ x :: w.filter fun y => !ltB y x
theorem cut_filter {α : Type} {p : α → Bool} {w : List α} {k : Nat} (h1 : ∀ (j : Nat) y, w[j]? = some y → j < k → p y = true) (h2 : ∀ (j : Nat) y, w[j]? = some y → k ≤ j → p y = false) : w.take k = w.filter p ∧ w.drop k = w.filter fun y => !p y := by
  have a : ∀ y ∈ w.take k, p y = true := fun y hy => by
    obtain ⟨j, hj⟩ := List.mem_iff_getElem?.1 hy
    rw [List.getElem?_take] at hj
    split at hj
    · exact h1 j y hj (by assumption)
    · cases hj
  have b : ∀ y ∈ w.drop k, p y = false := fun y hy => by
    obtain ⟨j, hj⟩ := List.mem_iff_getElem?.1 hy
    rw [List.getElem?_drop] at hj
    exact h2 (k + j) y hj (by omega)
  have e : ∀ p : α → Bool, w.filter p = (w.take k).filter p ++ (w.drop k).filter p := fun p => by rw [← List.filter_append, List.take_append_drop]
  constructor
  · rw [e, List.filter_eq_self.2 a, List.filter_eq_nil_iff.2 (fun y hy => by simp [b y hy]), List.append_nil]
  · rw [e, List.filter_eq_nil_iff.2 (fun y hy => by simp [a y hy]), List.filter_eq_self.2 (fun y hy => by simp [b y hy]), List.nil_append]
theorem SB_put {w : List (List TSlot)} {x : List TSlot} (hw : SB w) (hx : RBi x) : SB (putB w x) ∧ (putB w x).length ≤ w.length + 1 := by
  unfold putB
  split
  · exact ⟨hw, by omega⟩
  · rename_i hn
    refine ⟨⟨?_, fun b hb => ?_⟩, ?_⟩
    · rw [List.pairwise_append, List.pairwise_cons]
      have hgt : ∀ y ∈ w.filter (fun y => !ltB y x), ltB x y = true := fun y hy => by
        obtain ⟨h1, h2⟩ := List.mem_filter.1 hy
        rcases ltB_tot (hw.2 y h1) hx (fun e => hn (e ▸ h1)) with g | g
        · rw [g] at h2; cases h2
        · exact g
      refine ⟨hw.1.filter _, ⟨hgt, hw.1.filter _⟩, fun y hy z hz => ?_⟩
      have hyx := (List.mem_filter.1 hy).2
      rcases List.mem_cons.1 hz with rfl | hz
      · exact hyx
      · exact ltB_trans hyx (hgt z hz)
    · rcases List.mem_append.1 hb with h | h
      · exact hw.2 b (List.mem_filter.1 h).1
      · rcases List.mem_cons.1 h with rfl | h
        · exact hx
        · exact hw.2 b (List.mem_filter.1 h).1
    · have h1 : ∀ w : List (List TSlot), (w.filter fun y => ltB y x).length + (w.filter fun y => !ltB y x).length = w.length := by
        intro w
        induction w with
        | nil => rfl
        | cons y w ih => rw [List.filter_cons, List.filter_cons]; cases ltB y x <;> simp <;> omega
      have h1 := h1 w
      rw [List.length_append, List.length_cons]
      omega
def cmpB (y x : List TSlot) : Int := if ltB y x = true then -1 else if ltB x y = true then 1 else 0
theorem Binds_1_eq {y x : List TSlot} (hy : RBi y) (hx : RBi x) : match_Binds_1 y x = some (cmpB y x) := by
  unfold match_Binds_1 cmpB
  rw [binding_Less_eq hy, binding_Less_eq hx, bndE_s, bndE_s]
  cases ltB y x <;> cases ltB x y <;> rfl
theorem cmpB_lt {y x : List TSlot} : decide (cmpB y x < 0) = ltB y x := by
  unfold cmpB; cases ltB y x <;> cases ltB x y <;> rfl
theorem SB_lt {w : List (List TSlot)} (hw : SB w) {i j : Nat} {y z : List TSlot} (hi : w[i]? = some y) (hj : w[j]? = some z) (h : i < j) : ltB y z = true := by
  obtain ⟨a1, rfl⟩ := List.getElem?_eq_some_iff.1 hi
  obtain ⟨a2, rfl⟩ := List.getElem?_eq_some_iff.1 hj
  exact List.pairwise_iff_getElem.1 hw.1 i j a1 a2 h
theorem bs_binds {w : List (List TSlot)} {x : List TSlot} (hw : SB w) (hx : RBi x) (hl : w.length ≤ 1000) :
    ∃ k : Nat, k ≤ w.length ∧ slices_BinarySearchFunc_Slot_Slot_Slot_v2 w x = some ((k : Int), decide (x ∈ w)) ∧ (∀ (j : Nat) y, w[j]? = some y → j < k → ltB y x = true) ∧ (∀ (j : Nat) y, w[j]? = some y → k ≤ j → ltB y x = false) := by
  have hsub : ∀ y ∈ w, match_Binds_1 y x = some (cmpB y x) := fun y hy => Binds_1_eq (hw.2 y hy) hx
  unfold slices_BinarySearchFunc_Slot_Slot_Slot_v2 slices_BinarySearchFunc_Slot_Slot_Slot_v2_l1
  obtain ⟨k, hk, hkr, p1, p2⟩ := bs_loop (step := fun s : Int × Int => slices_BinarySearchFunc_Slot_Slot_Slot_v2_l1_s w x (w.length : Int) s.1 s.2) w.length (fun a => match w[a]? with | some y => ltB y x | none => false)
    (fun i j hij hj => by
      obtain ⟨y, hy, _⟩ := get_lt (l := w) (i := (i + j) / 2) (by omega)
      have hd : decide ((i : Int) < (j : Int)) = true := by simp; omega
      simp only [slices_BinarySearchFunc_Slot_Slot_Slot_v2_l1_s, hd, iteE_t, slices_BinarySearchFunc_Slot_Slot_Slot_v2_b2, midI (show i + j < 4611686018427387904 by omega), idxE_n hy, hsub y (List.mem_of_getElem? hy), bndE_s, slices_BinarySearchFunc_Slot_Slot_Slot_v2_b3, hy, cmpB_lt]
      cases ltB y x with
      | true => simp only [iteE_t, bndE_s, if_true, succI (show (i + j) / 2 < 9223372036854775807 by omega)]
      | false => simp [iteE, bndE])
    (fun i => by simp [slices_BinarySearchFunc_Slot_Slot_Slot_v2_l1_s, iteE])
    (fun a b hab hb h => by
      obtain ⟨y, hy, _⟩ := get_lt (l := w) (i := a) (by omega)
      obtain ⟨z, hz, _⟩ := get_lt (l := w) (i := b) hb
      simp only [hy, hz] at h ⊢
      rcases Nat.lt_or_ge a b with g | g
      · exact ltB_trans (SB_lt hw hy hz g) h
      · have : a = b := by omega
        subst this; rw [hy] at hz; cases hz; exact h)
  have q1 : ∀ (j : Nat) y, w[j]? = some y → j < k → ltB y x = true := fun j s hs hj => by
    have := p1 j hj; simp only [hs] at this; exact this
  have q2 : ∀ (j : Nat) y, w[j]? = some y → k ≤ j → ltB y x = false := fun j s hs hj => by
    have := p2 j hj (getLt hs); simp only [hs] at this; exact this
  refine ⟨k, hk, ?_, q1, q2⟩
  rw [hkr, bndE_s]
  have hmem : ∀ j : Nat, w[j]? = some x → j = k := fun j hj => by
    rcases Nat.lt_trichotomy j k with g | g | g
    · have := q1 j x hj g; rw [ltB_irr] at this; cases this
    · exact g
    · obtain ⟨y, hy, _⟩ := get_lt (l := w) (i := k) (by have := getLt hj; omega)
      have h1 := q2 k y hy (Nat.le_refl _)
      rw [SB_lt hw hy hj g] at h1; cases h1
  by_cases h : k < w.length
  · obtain ⟨y, hy, _⟩ := get_lt h
    rw [iteP, if_pos (by omega), idxE_n hy, hsub y (List.mem_of_getElem? hy), bndE_s]
    have hge := q2 k y hy (Nat.le_refl _)
    congr 2
    rw [decide_eq_decide]
    unfold cmpB
    rw [hge, if_neg (by simp)]
    constructor
    · intro hc
      rcases (Classical.em (y = x)) with e | e
      · exact e ▸ List.mem_of_getElem? hy
      · rcases ltB_tot (hw.2 y (List.mem_of_getElem? hy)) hx e with g | g
        · rw [hge] at g; cases g
        · rw [if_pos g] at hc; cases hc
    · intro hm
      obtain ⟨j, hj⟩ := List.mem_iff_getElem?.1 hm
      have := hmem j hj
      subst this
      rw [hy] at hj; cases hj
      rw [ltB_irr]; rfl
  · rw [iteP, if_neg (by omega)]
    congr 2
    symm
    rw [decide_eq_false_iff_not]
    intro hm
    obtain ⟨j, hj⟩ := List.mem_iff_getElem?.1 hm
    have := hmem j hj
    have := getLt hj
    omega
theorem match_Binds_eq {l : List THit} (hl : l.length ≤ 1000) (hR : ∀ h ∈ l, RBi h.bind) : match_Binds l = some (l.foldl (fun w h => putB w h.bind) []) ∧ SB (l.foldl (fun w h => putB w h.bind) []) ∧ (l.foldl (fun w h => putB w h.bind) []).length ≤ 1000 := by
  have hst : ∀ (l : List THit) (w : List (List TSlot)), (∀ h ∈ l, RBi h.bind) → SB w → SB (l.foldl (fun w h => putB w h.bind) w) ∧ (l.foldl (fun w h => putB w h.bind) w).length ≤ w.length + l.length := by
    intro l
    induction l with
    | nil => intro w _ hw; exact ⟨hw, by simp⟩
    | cons h l ih =>
      intro w hR hw
      obtain ⟨a1, a2⟩ := SB_put hw (hR h (by simp))
      obtain ⟨b1, b2⟩ := ih _ (fun g hg => hR g (List.mem_cons_of_mem _ hg)) a1
      exact ⟨b1, by rw [List.foldl_cons, List.length_cons]; omega⟩
  obtain ⟨z1, z2⟩ := hst l [] hR ⟨List.Pairwise.nil, by simp⟩
  refine ⟨?_, z1, by simp only [List.length_nil] at z2; omega⟩
  unfold match_Binds match_Binds_l1
  rw [loop_fold (step := fun s : Int × List (List TSlot) => match_Binds_l1_s l (l.length : Int) s.1 s.2) l (fun w h => putB w h.bind) (fun w => w) (fun i w => SB w ∧ w.length ≤ i)
    (fun i x w hx hI => by
      have hi := getLt hx
      have hxR := hR x (List.mem_of_getElem? hx)
      obtain ⟨s1, s2⟩ := SB_put hI.1 hxR
      refine ⟨?_, s1, by omega⟩
      obtain ⟨k, hk, hb, q1, q2⟩ := bs_binds hI.1 hxR (show w.length ≤ 1000 by omega)
      simp only [match_Binds_l1_s, ltD hx, iteE_t, match_Binds_b4, idxE_n hx, hb, bndE_s, match_Binds_b5, succW hx (show l.length ≤ 9223372036854775807 by omega)]
      by_cases hm : x.bind ∈ w
      · simp [hm, iteE, bndE, putB]
      · have hin : slices_Insert_Slot_Slot_v2 (k : Int) w [x.bind] = some (putB w x.bind) := by
          unfold slices_Insert_Slot_Slot_v2 insE
          rw [if_pos ⟨by omega, by omega, by simp, fit_small (by simp; omega) (by decide)⟩, Int.toNat_natCast]
          obtain ⟨c1, c2⟩ := cut_filter q1 q2
          rw [c1, c2]
          unfold putB
          rw [if_neg hm]
          simp
        rw [hin]
        simp [hm, iteE, bndE])
    (fun w _ => by simp only [match_Binds_l1_s, ltI, iteE_f]) [] ⟨⟨List.Pairwise.nil, by simp⟩, by simp⟩, bndE_s]
theorem ref05_Has_eq {w : List (List TSlot)} {x : List TSlot} (hw : ∀ b ∈ w, RBi b) (hl : w.length ≤ 1000) : ref05_Has w x = some (decide (x ∈ w)) := by
  unfold ref05_Has ref05_Has_l1
  rw [loop_all0 w (fun y => !decide (y = x)) (.inl () : Unit ⊕ Unit) (.inr ())
    (fun i y hy => by
      have := (hw y (List.mem_of_getElem? hy)).1
      simp only [ref05_Has_l1_s, ltD hy, iteE_t, idxE_n hy, ref05_Same_eq y x (show y.length ≤ 9223372036854775807 by omega), bndE_s, succW hy (show w.length ≤ 9223372036854775807 by omega)]
      by_cases e : y = x <;> simp [e, iteE])
    (by simp only [ref05_Has_l1_s, ltI, iteE_f]), bndE_s]
  by_cases h : x ∈ w
  · rw [if_neg (by simp only [List.all_eq_true]; intro g; have := g x h; simp at this)]
    simp [h, sumE]
  · rw [if_pos (by simp only [List.all_eq_true]; intro y hy; simp; exact fun e => h (e ▸ hy))]
    simp [h, sumE]
theorem SPut_1_eq {sx : List (List TSlot)} {y x : List TSlot} (hy : RBi y) (hx : RBi x) : domain_Set_Slot_Put_1 y x sx = some (cmpB y x) := by
  unfold domain_Set_Slot_Put_1 cmpB
  rw [binding_Less_eq hy, binding_Less_eq hx, bndE_s, bndE_s]
  cases ltB y x <;> cases ltB x y <;> rfl
theorem bs_set {sx : List (List TSlot)} {w : List (List TSlot)} {x : List TSlot} (hw : SB w) (hx : RBi x) (hl : w.length ≤ 1000) :
    ∃ k : Nat, k ≤ w.length ∧ slices_BinarySearchFunc_Slot_Slot_Slot w x sx = some ((k : Int), decide (x ∈ w)) ∧ (∀ (j : Nat) y, w[j]? = some y → j < k → ltB y x = true) ∧ (∀ (j : Nat) y, w[j]? = some y → k ≤ j → ltB y x = false) := by
  have hsub : ∀ y ∈ w, domain_Set_Slot_Put_1 y x sx = some (cmpB y x) := fun y hy => SPut_1_eq (hw.2 y hy) hx
  unfold slices_BinarySearchFunc_Slot_Slot_Slot slices_BinarySearchFunc_Slot_Slot_Slot_l1
  obtain ⟨k, hk, hkr, p1, p2⟩ := bs_loop (step := fun s : Int × Int => slices_BinarySearchFunc_Slot_Slot_Slot_l1_s w x sx (w.length : Int) s.1 s.2) w.length (fun a => match w[a]? with | some y => ltB y x | none => false)
    (fun i j hij hj => by
      obtain ⟨y, hy, _⟩ := get_lt (l := w) (i := (i + j) / 2) (by omega)
      have hd : decide ((i : Int) < (j : Int)) = true := by simp; omega
      simp only [slices_BinarySearchFunc_Slot_Slot_Slot_l1_s, hd, iteE_t, slices_BinarySearchFunc_Slot_Slot_Slot_b2, midI (show i + j < 4611686018427387904 by omega), idxE_n hy, hsub y (List.mem_of_getElem? hy), bndE_s, slices_BinarySearchFunc_Slot_Slot_Slot_b3, hy, cmpB_lt]
      cases ltB y x with
      | true => simp only [iteE_t, bndE_s, if_true, succI (show (i + j) / 2 < 9223372036854775807 by omega)]
      | false => simp [iteE, bndE])
    (fun i => by simp [slices_BinarySearchFunc_Slot_Slot_Slot_l1_s, iteE])
    (fun a b hab hb h => by
      obtain ⟨y, hy, _⟩ := get_lt (l := w) (i := a) (by omega)
      obtain ⟨z, hz, _⟩ := get_lt (l := w) (i := b) hb
      simp only [hy, hz] at h ⊢
      rcases Nat.lt_or_ge a b with g | g
      · exact ltB_trans (SB_lt hw hy hz g) h
      · have : a = b := by omega
        subst this; rw [hy] at hz; cases hz; exact h)
  have q1 : ∀ (j : Nat) y, w[j]? = some y → j < k → ltB y x = true := fun j s hs hj => by
    have := p1 j hj; simp only [hs] at this; exact this
  have q2 : ∀ (j : Nat) y, w[j]? = some y → k ≤ j → ltB y x = false := fun j s hs hj => by
    have := p2 j hj (getLt hs); simp only [hs] at this; exact this
  refine ⟨k, hk, ?_, q1, q2⟩
  rw [hkr, bndE_s]
  have hmem : ∀ j : Nat, w[j]? = some x → j = k := fun j hj => by
    rcases Nat.lt_trichotomy j k with g | g | g
    · have := q1 j x hj g; rw [ltB_irr] at this; cases this
    · exact g
    · obtain ⟨y, hy, _⟩ := get_lt (l := w) (i := k) (by have := getLt hj; omega)
      have h1 := q2 k y hy (Nat.le_refl _)
      rw [SB_lt hw hy hj g] at h1; cases h1
  by_cases h : k < w.length
  · obtain ⟨y, hy, _⟩ := get_lt h
    rw [iteP, if_pos (by omega), idxE_n hy, hsub y (List.mem_of_getElem? hy), bndE_s]
    have hge := q2 k y hy (Nat.le_refl _)
    congr 2
    rw [decide_eq_decide]
    unfold cmpB
    rw [hge, if_neg (by simp)]
    constructor
    · intro hc
      rcases (Classical.em (y = x)) with e | e
      · exact e ▸ List.mem_of_getElem? hy
      · rcases ltB_tot (hw.2 y (List.mem_of_getElem? hy)) hx e with g | g
        · rw [hge] at g; cases g
        · rw [if_pos g] at hc; cases hc
    · intro hm
      obtain ⟨j, hj⟩ := List.mem_iff_getElem?.1 hm
      have := hmem j hj
      subst this
      rw [hy] at hj; cases hj
      rw [ltB_irr]; rfl
  · rw [iteP, if_neg (by omega)]
    congr 2
    symm
    rw [decide_eq_false_iff_not]
    intro hm
    obtain ⟨j, hj⟩ := List.mem_iff_getElem?.1 hm
    have := hmem j hj
    have := getLt hj
    omega
def BR (b : List TSlot) : Prop := b.Pairwise (fun x y => x.var < y.var) ∧ ∀ s ∈ b, 0 ≤ s.var ∧ s.var ≤ 7 ∧ vR s.value = true
theorem BR_nil : BR [] := ⟨.nil, by simp⟩
theorem sorted_len : ∀ (b : List TSlot) (lo : Int), b.Pairwise (fun x y => x.var < y.var) → (∀ s ∈ b, lo ≤ s.var ∧ s.var ≤ 7) → b.length ≤ (8 - lo).toNat
  | [], _, _, _ => by simp
  | x :: b, lo, hp, h => by
    rw [List.pairwise_cons] at hp
    have h1 := sorted_len b (x.var + 1) hp.2 fun s hs => ⟨by have := hp.1 s hs; omega, (h s (List.mem_cons_of_mem _ hs)).2⟩
    have h2 := h x (by simp)
    rw [List.length_cons]; omega
theorem BR_len {b : List TSlot} (h : BR b) : b.length ≤ 8 := by
  have := sorted_len b 0 h.1 fun s hs => ⟨(h.2 s hs).1, (h.2 s hs).2.1⟩
  omega
theorem BR.i {b : List TSlot} (h : BR b) : RBi b := ⟨by have := BR_len h; omega, fun s hs => (h.2 s hs).2.2⟩
theorem BR_ext {a b : List TSlot} (ha : BR a) (hb : BR b) (h : ∀ s, s ∈ a ↔ s ∈ b) : a = b := sorted_ext ha.1 hb.1 h
theorem BR_filter {b : List TSlot} (h : BR b) (p : TSlot → Bool) : BR (b.filter p) := ⟨h.1.filter _, fun s hs => h.2 s (List.mem_filter.1 hs).1⟩
theorem BR_uniq {u : List TSlot} (h : BR u) {s t : TSlot} (hs : s ∈ u) (ht : t ∈ u) (e : s.var = t.var) : s = t := by
  have h1 := getS_sorted h.1 hs
  have h2 := getS_sorted h.1 ht
  rw [e, h2] at h1
  cases s; cases t; simp_all
theorem fits_iff {a b : List TSlot} (hb : BR b) : fitsS a b = true ↔ ∀ s ∈ a, ∀ t ∈ b, s.var = t.var → s = t := by
  unfold fitsS
  rw [List.all_eq_true]
  constructor
  · intro h s hs t ht e
    have h1 := h s hs
    have h2 := getS_sorted hb.1 ht
    rw [e, h2] at h1
    cases s; cases t; simp_all
  · intro h s hs
    cases hg : getS b s.var with
    | mk x o =>
      cases o with
      | false => rfl
      | true =>
        have := h s hs _ (getS_mem hg) rfl
        rw [this]; simp
theorem fits_of {u a b : List TSlot} (hu : BR u) (hb : BR b) (h1 : ∀ s ∈ a, s ∈ u) (h2 : ∀ s ∈ b, s ∈ u) : fitsS a b = true :=
  (fits_iff hb).2 fun s hs t ht e => BR_uniq hu (h1 s hs) (h2 t ht) e
theorem union_mem {a b : List TSlot} (ha : BR a) (hb : BR b) (hf : fitsS a b = true) (s : TSlot) : s ∈ unionS a b ↔ s ∈ a ∨ s ∈ b := by
  rw [unionS_mem]
  constructor
  · rintro ⟨_, _, h | ⟨_, h⟩⟩
    · exact .inl (getS_mem h)
    · exact .inr (getS_mem h)
  · rintro (h | h)
    · exact ⟨(ha.2 s h).1, (ha.2 s h).2.1, .inl (getS_sorted ha.1 h)⟩
    · refine ⟨(hb.2 s h).1, (hb.2 s h).2.1, ?_⟩
      cases hg : getS a s.var with
      | mk x o =>
        cases o with
        | false => exact .inr ⟨rfl, getS_sorted hb.1 h⟩
        | true =>
          left
          have := (fits_iff hb).1 hf _ (getS_mem hg) s h rfl
          rw [← this]
theorem union_BR {a b : List TSlot} (ha : BR a) (hb : BR b) (hf : fitsS a b = true) : BR (unionS a b) :=
  ⟨unionS_sorted a b, fun s hs => by
    rcases (union_mem ha hb hf s).1 hs with h | h
    · exact ha.2 s h
    · exact hb.2 s h⟩
theorem under_iff {a b : List TSlot} (hb : BR b) : underS a b = true ↔ ∀ s ∈ a, s ∈ b := underS_iff (b := b) ⟨hb.1, fun s hs => ⟨(hb.2 s hs).1, (hb.2 s hs).2.1⟩⟩
def Un (u : List TSlot) (ls : List (List TSlot)) : Prop := BR u ∧ ∀ s, s ∈ u ↔ ∃ b ∈ ls, s ∈ b
theorem Un_uniq {u v : List TSlot} {ls : List (List TSlot)} (h1 : Un u ls) (h2 : Un v ls) : u = v := BR_ext h1.1 h2.1 fun s => (h1.2 s).trans (h2.2 s).symm
theorem Un_congr {u : List TSlot} {l m : List (List TSlot)} (h : ∀ b, b ∈ l ↔ b ∈ m) : Un u l ↔ Un u m := by
  unfold Un; simp only [h]
theorem Un_one {b : List TSlot} (h : BR b) : Un b [b] := ⟨h, by simp⟩
theorem Un_step {y b : List TSlot} {ls : List (List TSlot)} (hy : Un y ls) (hb : BR b) (hf : fitsS y b = true) : Un (unionS y b) (ls ++ [b]) :=
  ⟨union_BR hy.1 hb hf, fun s => by
    rw [union_mem hy.1 hb hf, hy.2]
    constructor
    · rintro (⟨c, hc, hs⟩ | hs)
      · exact ⟨c, by simp [hc], hs⟩
      · exact ⟨b, by simp, hs⟩
    · rintro ⟨c, hc, hs⟩
      rw [List.mem_append, List.mem_singleton] at hc
      rcases hc with hc | rfl
      · exact .inl ⟨c, hc, hs⟩
      · exact .inr hs⟩
theorem Un_sub {u : List TSlot} {l m : List (List TSlot)} (h : Un u l) (hm : ∀ b ∈ m, b ∈ l) : ∃ y, Un y m ∧ ∀ s ∈ y, s ∈ u := by
  refine ⟨u.filter fun s => decide (∃ b ∈ m, s ∈ b), ⟨BR_filter h.1 _, fun s => ?_⟩, fun s hs => (List.mem_filter.1 hs).1⟩
  rw [List.mem_filter, decide_eq_true_eq]
  constructor
  · exact fun h => h.2
  · rintro ⟨b, hb, hs⟩
    exact ⟨(h.2 s).2 ⟨b, hm b hb, hs⟩, b, hb, hs⟩
theorem Un_mem {u b : List TSlot} {ls : List (List TSlot)} (h : Un u ls) (hb : b ∈ ls) : ∀ s ∈ b, s ∈ u := fun s hs => (h.2 s).2 ⟨b, hb, hs⟩
theorem Un_split {u b : List TSlot} {ls : List (List TSlot)} (h : Un u (ls ++ [b])) (hb : BR b) : ∃ y, Un y ls ∧ fitsS y b = true ∧ unionS y b = u := by
  obtain ⟨y, hy, hyu⟩ := Un_sub (m := ls) h (by simp +contextual)
  have hf := fits_of h.1 hb hyu (Un_mem h (by simp))
  exact ⟨y, hy, hf, Un_uniq (Un_step hy hb hf) h⟩
def unO (x b : List TSlot) : Option (List TSlot) := if fitsS x b = true then some (unionS x b) else none
theorem binding_Fits_eq (a b : List TSlot) (ha : a.length ≤ 9223372036854775807) (hb : b.length ≤ 9223372036854775807) : binding_Fits a b = some (fitsS a b) := by
  unfold binding_Fits binding_both
  simp only [bndE_s]
  unfold binding_both_1 binding_both_1_l1
  have h := loop_list (step := fun s : (Bool ⊕ Bool) × Int => binding_both_1_l1_s (stepOf (binding_Fits_r1_rd a b)) b a (a.length : Int) s.1 s.2) a (fun i w => (w, (i : Int)))
    (fun _ (w : Bool ⊕ Bool) x => if (!(getS b x.var).2 || decide ((getS b x.var).1 = x.value)) = true then .inl w else .inr (.inr (.inr false))) (fun w => .inl w) (fun _ w => w = .inl false) (fun i x w hx hI => by
      subst hI
      refine ⟨?_, fun w' hw => ?_⟩
      · simp only [binding_both_1_l1_s, ltD hx, iteE_t, binding_both_1_b2, idxE_n hx, binding_Get_eq b _ hb, bndE_s, succW hx ha]
        obtain ⟨y, o⟩ := getS b x.var
        cases o
        · simp [iteE, yldE, stepOf, binding_Fits_r1_rd, sumE, bndE, binding_Fits_b4, binding_Fits_b7]
        · by_cases h : y = x.value <;> simp [iteE, yldE, stepOf, binding_Fits_r1_rd, sumE, bndE, binding_Fits_b2, binding_Fits_b6, TValue.eqb_dec, h]
      · split at hw
        · cases hw; rfl
        · cases hw)
    (fun w _ => by simp only [binding_both_1_l1_s, ltI, iteE_f]) (a.length + 1) 0 (.inl false) (by omega) (by omega) rfl
  rw [show ((.inl false : Bool ⊕ Bool), (0 : Int)) = (.inl false, ((0 : Nat) : Int)) from rfl, h, List.drop_zero, bndE_s]
  unfold fitsS
  generalize 0 = i
  clear h ha
  revert i
  induction a with
  | nil => intro i; rfl
  | cons x xs ih =>
    intro i
    rw [runL, List.all_cons]
    by_cases h : (!(getS b x.var).2 || decide ((getS b x.var).1 = x.value)) = true
    · simp only [h, if_true, Bool.true_and]; exact ih (i + 1)
    · simp only [h]; simp [sumE, bndE]
def okB (l : List TSlot) (i : Nat) : Prop := ∀ j, j < i → ∃ x, l[j]? = some x ∧ 0 ≤ x.var ∧ x.var ≤ 7 ∧ vR x.value = true ∧ ∀ y, 0 < j → l[j - 1]? = some y → y.var < x.var
theorem okB_right {l : List TSlot} (h : okB l l.length) : BR l := by
  have get : ∀ j (hj : j < l.length), 0 ≤ l[j].var ∧ l[j].var ≤ 7 ∧ vR l[j].value = true ∧ ∀ (_ : 0 < j) (h2 : j - 1 < l.length), l[j - 1].var < l[j].var := by
    intro j hj
    obtain ⟨x, hx, h1, h2, h5, h3⟩ := h j hj
    obtain ⟨_, rfl⟩ := List.getElem?_eq_some_iff.1 hx
    exact ⟨h1, h2, h5, fun h0 h4 => h3 _ h0 (List.getElem?_eq_getElem h4)⟩
  refine ⟨List.pairwise_iff_getElem.2 ?_, fun s hs => ?_⟩
  · intro i j hi hj hij
    induction j with
    | zero => omega
    | succ j ih =>
      have h1 := (get (j + 1) hj).2.2.2 (by omega) (by simp; omega)
      simp only [Nat.add_sub_cancel] at h1
      rcases Nat.lt_or_ge i j with h2 | h2
      · have := ih (by omega) h2; omega
      · have : i = j := by omega
        subst this; exact h1
  · obtain ⟨j, hj, rfl⟩ := List.mem_iff_getElem.1 hs
    exact ⟨(get j hj).1, (get j hj).2.1, (get j hj).2.2.1⟩
theorem ref05_RightB (l : List TSlot) (hl : l.length ≤ 9223372036854775807) : ∃ b, ref05_Right l = some b ∧ (b = true → BR l) := by
  unfold ref05_Right ref05_Right_l1
  obtain ⟨t, ht, hQ⟩ := loopE_ex (step := fun s => ref05_Right_l1_s l s) (fun s => ∃ i : Nat, s = (i : Int) ∧ i ≤ l.length ∧ okB l i) (fun s => (l.length - s).toNat) (fun t => t = .inl () → okB l l.length)
    (by
      rintro s ⟨i, rfl, hi, hok⟩
      by_cases he : i = l.length
      · subst he
        exact .inl ⟨.inl (), by simp only [ref05_Right_l1_s, ltI, iteE_f], fun _ => hok⟩
      · obtain ⟨x, hx, _⟩ := get_lt (l := l) (i := i) (by omega)
        simp only [ref05_Right_l1_s, ltD hx, iteE_t, idxE_n hx, ref03_Right_eq, bndE_s, succW hx hl, iteP]
        have hgo : (∀ y, 0 < i → l[i - 1]? = some y → y.var < x.var) → ¬ x.var < 0 → ¬ 7 < x.var → vR x.value = true → okB l (i + 1) := by
          intro h1 h2 h3 h5 j hj
          rcases Nat.lt_or_ge j i with h4 | h4
          · exact hok j h4
          · have : j = i := by omega
            subst this
            exact ⟨x, hx, by omega, by omega, h5, h1⟩
        by_cases h1 : x.var < 0
        · exact .inl ⟨.inr (), by simp [h1], by simp⟩
        by_cases h2 : 7 < x.var
        · exact .inl ⟨.inr (), by simp [h1, h2], by simp⟩
        cases hb : vR x.value with
        | false => exact .inl ⟨.inr (), by simp [h1, h2, iteE], by simp⟩
        | true =>
          by_cases h3 : 0 < i
          · obtain ⟨y, hy, _⟩ := get_lt (l := l) (i := i - 1) (by omega)
            have e : intVal .sub .i64 (i : Int) 1 = ((i - 1 : Nat) : Int) := by rw [subI (by omega) (by omega)]; omega
            rw [e, idxE_n hy]
            by_cases h4 : x.var ≤ y.var
            · exact .inl ⟨.inr (), by simp [h1, h2, h3, h4, iteE], by simp⟩
            · refine .inr ⟨((i + 1 : Nat) : Int), by simp [h1, h2, h3, h4, iteE], ⟨i + 1, rfl, by omega, hgo (fun z _ hz => ?_) h1 h2 hb⟩, by omega⟩
              rw [hy] at hz; cases hz; omega
          · refine .inr ⟨((i + 1 : Nat) : Int), by simp [h1, h2, h3, iteE], ⟨i + 1, rfl, by omega, hgo (fun z h0 => absurd h0 h3) h1 h2 hb⟩, by omega⟩)
    (0 : Int) ⟨0, rfl, by omega, fun j hj => by omega⟩
  rw [ht, bndE_s]
  rcases t with _ | _
  · exact ⟨true, rfl, fun _ => okB_right (hQ rfl)⟩
  · exact ⟨false, rfl, by simp⟩
theorem binding_Right_eq {b : List TSlot} (h : BR b) : binding_Right b = some true := by
  have hl := BR_len h
  unfold binding_Right binding_Right_l1
  rw [loop_all0 b (fun _ => true) (.inl () : Unit ⊕ Unit) (.inr ())
    (fun i x hx => by
      obtain ⟨h1, h2, h3⟩ := h.2 x (List.mem_of_getElem? hx)
      have d1 : decide (x.var < 0) = false := by simp; omega
      have d2 : decide (8 ≤ x.var) = false := by simp; omega
      simp only [binding_Right_l1_s, ltD hx, iteE_t, idxE_n hx, value_Right_eq, bndE_s, h3, Bool.not_true, d1, d2, iteE_f, if_true, succW hx (show b.length ≤ 9223372036854775807 by omega)]
      by_cases h0 : 0 < i
      · have d3 : decide ((0 : Int) < (i : Int)) = true := by simp; omega
        have hi := getLt hx
        obtain ⟨y, hy, _⟩ := get_lt (l := b) (i := i - 1) (by omega)
        have e : intVal .sub .i64 (i : Int) 1 = ((i - 1 : Nat) : Int) := by rw [subI (by omega) (by omega)]; omega
        have : y.var < x.var := by
          obtain ⟨a1, rfl⟩ := List.getElem?_eq_some_iff.1 hx
          obtain ⟨a2, rfl⟩ := List.getElem?_eq_some_iff.1 hy
          exact List.pairwise_iff_getElem.1 h.1 (i - 1) i a2 a1 (by omega)
        have d4 : decide (x.var ≤ y.var) = false := by simp; omega
        simp only [d3, iteE_t, e, idxE_n hy, d4, iteE_f]
      · have d3 : decide ((0 : Int) < (i : Int)) = false := by simp; omega
        simp only [d3, iteE_f])
    (by simp only [binding_Right_l1_s, ltI, iteE_f]), bndE_s]
  simp [sumE]
theorem find_eq {w : List TSlot} {v : Int} (hw : SV w) (hv : 0 ≤ v ∧ v ≤ 63) (hl : w.length ≤ 1000) :
    ∃ k : Nat, k ≤ w.length ∧ binding_find w v = some ((k : Int), (getS w v).2) ∧ (∀ j s, w[j]? = some s → j < k → s.var < v) ∧ (∀ j s, w[j]? = some s → k ≤ j → v ≤ s.var) ∧
      ((getS w v).2 = true → ∃ s, w[k]? = some s ∧ s.var = v) := by
  obtain ⟨k, hk, hb, q⟩ := bs_slots hw hv hl
  exact ⟨k, hk, by unfold binding_find; rw [hb, bndE_s], q⟩
theorem of_step {w : List TSlot} {x : TSlot} (hw : SV w) (hx : 0 ≤ x.var ∧ x.var ≤ 63) (hl : w.length ≤ 900) (s9 : List TSlot) (s10 : Int) {i : Nat} (hi : s9[i]? = some x) :
    binding_Of_b5 s9 s10 (i : Int) w = some (match putV w x with | none => .inr () | some w' => .inl w') := by
  unfold binding_Of_b5 binding_Of_b6 binding_Of_b7
  obtain ⟨k, hk, hb, q1, q2, q3⟩ := find_eq hw hx (show w.length ≤ 1000 by omega)
  rw [idxE_n hi, hb, bndE_s]
  unfold putV
  cases hg : (getS w x.var).2 with
  | true =>
    obtain ⟨s, hs, hsv⟩ := q3 hg
    have hklt := getLt hs
    have hgs := getS_sorted hw.1 (List.mem_of_getElem? hs)
    rw [hsv] at hgs
    simp only [Bool.not_true, iteE_f]
    rw [chkE_p (by omega), idxE_n hs, hgs]
    simp only [if_true, TSlot.eqb_dec]
    have he : (s = x) ↔ s.value = x.value := by
      obtain ⟨a, b⟩ := s; obtain ⟨c, d⟩ := x
      simp only at hsv; subst hsv; simp
    by_cases h : s.value = x.value
    · rw [if_pos h]; simp [he, h, iteE, bndE, sumE]
    · rw [if_neg h]; simp [he, h, iteE, bndE, sumE]
  | false =>
    have hn := getS_none hg
    simp only [Bool.not_false, iteE_t, Bool.false_eq_true, if_false]
    have hin : slices_Insert_Slot_Slot_v4 (k : Int) w [x] = some (insV w x) := by
      unfold slices_Insert_Slot_Slot_v4 insE
      rw [if_pos ⟨by omega, by omega, by simp, fit_small (by simp; omega) (by decide)⟩, Int.toNat_natCast]
      rw [cut_ins hw.1 hn hk q1 (fun j s hs hj => by
        have h1 := q2 j s hs hj
        have h2 := hn s (List.mem_of_getElem? hs)
        omega)]
    rw [hin]; rfl
theorem putV_in {w u : List TSlot} {x : TSlot} (hu : BR u) (hw : ∀ s ∈ w, s ∈ u) (hx : x ∈ u) : ∃ w', putV w x = some w' ∧ ∀ s, s ∈ w' ↔ s = x ∨ s ∈ w := by
  unfold putV
  cases hg : getS w x.var with
  | mk y o =>
    cases o with
    | true =>
      have hm := getS_mem hg
      have := BR_uniq hu (hw _ hm) hx rfl
      rw [this] at hm
      have hv : y = x.value := by rw [← this]
      refine ⟨w, by simp [hv], fun s => ⟨.inr, ?_⟩⟩
      rintro (rfl | h)
      · exact hm
      · exact h
    | false => exact ⟨insV w x, by simp, insV_mem w x⟩
theorem Of_eq {u r : List TSlot} (hu : BR u) (hr : ∀ s ∈ r, s ∈ u) (hl : r.length ≤ 100) : ∃ w, binding_Of_l1 r (r.length : Int) 0 [] = some (.inl w) ∧ SV w ∧ (∀ s, s ∈ w ↔ s ∈ r) := by
  unfold binding_Of_l1
  obtain ⟨t, ht, hQ⟩ := loopE_ex (step := fun s : Int × List TSlot => binding_Of_l1_s r (r.length : Int) s.1 s.2) (fun s => ∃ i : Nat, s.1 = (i : Int) ∧ i ≤ r.length ∧ SV s.2 ∧ s.2.length ≤ i ∧ ∀ x, x ∈ s.2 ↔ x ∈ r.take i) (fun s => (r.length - s.1).toNat)
    (fun t => ∃ w, t = .inl w ∧ SV w ∧ ∀ s, s ∈ w ↔ s ∈ r)
    (by
      rintro ⟨s, w⟩ ⟨i, hs, hi, hw, hwl, hm⟩
      simp only at hs hw hwl hm
      subst hs
      simp only
      by_cases he : i = r.length
      · subst he
        exact .inl ⟨.inl w, by simp only [binding_Of_l1_s, ltI, iteE_f], w, rfl, hw, by simpa using hm⟩
      · obtain ⟨x, hx, _⟩ := get_lt (l := r) (i := i) (by omega)
        have hxr := List.mem_of_getElem? hx
        have hxv := hu.2 x (hr x hxr)
        have hx63 : 0 ≤ x.var ∧ x.var ≤ 63 := by omega
        obtain ⟨w', hp, hm'⟩ := putV_in (w := w) hu (fun s hs => hr s (List.mem_of_mem_take ((hm s).1 hs))) (hr x hxr)
        obtain ⟨p1, p2⟩ := putV_ok hw hx63 hp
        refine .inr ⟨(((i + 1 : Nat) : Int), w'), ?_, ⟨i + 1, rfl, by omega, p1, by simp only; omega, fun s => ?_⟩, by simp only; omega⟩
        · simp only [binding_Of_l1_s, ltD hx, iteE_t]
          rw [of_step hw hx63 (by omega) r _ hx, bndE_s, hp]
          simp only [sumE_l, succW hx (show r.length ≤ 9223372036854775807 by omega)]
        · simp only
          rw [hm', hm, List.take_add_one, hx, List.mem_append]
          simp [or_comm])
    ((0 : Int), ([] : List TSlot)) ⟨0, rfl, by omega, ⟨.nil, by simp⟩, by simp, by simp⟩
  obtain ⟨w, rfl, h1, h2⟩ := hQ
  exact ⟨w, ht, h1, h2⟩
theorem concat2 {a b : List TSlot} (ha : a.length ≤ 1000) (hb : b.length ≤ 1000) : slices_Concat_Slot_Slot_v2 [a, b] = some (a ++ b) := by
  have e1 : intVal .add .i64 0 (a.length : Int) = (a.length : Int) := by rw [addI (by omega) (by omega)]; omega
  have e2 : intVal .add .i64 (a.length : Int) (b.length : Int) = ((a.length + b.length : Nat) : Int) := by rw [addI (by omega) (by omega)]; omega
  have d1 : decide ((a.length : Int) < 0) = false := decide_eq_false (by omega)
  have d2 : decide (((a.length + b.length : Nat) : Int) < 0) = false := decide_eq_false (by omega)
  have s1 : intVal .add .i64 0 1 = 1 := by rw [addI (by omega) (by omega)]; rfl
  have s2 : intVal .add .i64 1 1 = 2 := by rw [addI (by omega) (by omega)]; rfl
  have h1 : slices_Concat_Slot_Slot_v2_l1 [a, b] [a, b] (([a, b] : List (List TSlot)).length : Int) 0 0 = some ((a.length + b.length : Nat) : Int) := by
    rw [slices_Concat_Slot_Slot_v2_l1_eq]
    unfold slices_Concat_Slot_Slot_v2_l1_s slices_Concat_Slot_Slot_v2_b2 slices_Concat_Slot_Slot_v2_b3
    simp only [List.length_cons, List.length_nil, idxE_0, e1, d1, iteE_f, bndE_s, s1]
    rw [show decide ((0 : Int) < ((0 + 1 + 1 : Nat) : Int)) = true from rfl, iteE_t, nextE_l]
    rw [slices_Concat_Slot_Slot_v2_l1_eq]
    unfold slices_Concat_Slot_Slot_v2_l1_s slices_Concat_Slot_Slot_v2_b2 slices_Concat_Slot_Slot_v2_b3
    simp only [idxE_1, e2, d2, iteE_f, bndE_s, s2]
    rw [show decide ((1 : Int) < ((0 + 1 + 1 : Nat) : Int)) = true from rfl, iteE_t, nextE_l]
    rw [slices_Concat_Slot_Slot_v2_l1_eq]
    rfl
  have h2 : slices_Concat_Slot_Slot_v2_l4 [a, b] (([a, b] : List (List TSlot)).length : Int) 0 [] = some (a ++ b) := by
    rw [slices_Concat_Slot_Slot_v2_l4_eq]
    unfold slices_Concat_Slot_Slot_v2_l4_s
    simp only [List.length_cons, List.length_nil, idxE_0, s1]
    rw [show decide ((0 : Int) < ((0 + 1 + 1 : Nat) : Int)) = true from rfl, iteE_t, chkF (by omega) (by decide), nextE_l]
    rw [slices_Concat_Slot_Slot_v2_l4_eq]
    unfold slices_Concat_Slot_Slot_v2_l4_s
    simp only [idxE_1, s2, List.nil_append]
    rw [show decide ((1 : Int) < ((0 + 1 + 1 : Nat) : Int)) = true from rfl, iteE_t, chkF (by omega) (by decide), nextE_l]
    rw [slices_Concat_Slot_Slot_v2_l4_eq]
    rfl
  unfold slices_Concat_Slot_Slot_v2 slices_Grow_Slot_Slot_v2 growE
  rw [h1, bndE_s, if_pos (by omega), bndE_s, h2, bndE_s]
theorem binding_Union_eq {a b : List TSlot} (ha : BR a) (hb : BR b) : binding_Union a b = some (match unO a b with | some u => (u, true) | none => ([], false)) := by
  have la := BR_len ha
  have lb := BR_len hb
  unfold binding_Union unO
  rw [binding_Fits_eq a b (by omega) (by omega), bndE_s]
  cases hf : fitsS a b with
  | false => rfl
  | true =>
    simp only [Bool.not_true, iteE_f, if_true]
    rw [concat2 (by omega) (by omega), bndE_s]
    unfold binding_Of
    have hu := union_BR ha hb hf
    obtain ⟨w, h1, h2, h3⟩ := Of_eq (r := a ++ b) hu (fun s hs => (union_mem ha hb hf s).2 (List.mem_append.1 hs)) (by simp; omega)
    have : w = unionS a b := sorted_ext h2.1 hu.1 fun s => by rw [h3, List.mem_append, union_mem ha hb hf]
    subst this
    rw [h1, bndE_s, sumE_l, binding_Right_eq hu, bndE_s]
    simp only [Bool.not_true, iteE_f, bndE_s]
theorem putB_mem {w : List (List TSlot)} {x y : List TSlot} : y ∈ putB w x ↔ y = x ∨ y ∈ w := by
  unfold putB
  split
  · rename_i h
    constructor
    · exact .inr
    · rintro (rfl | g)
      · exact h
      · exact g
  · rw [List.mem_append, List.mem_cons, List.mem_filter, List.mem_filter]
    constructor
    · rintro (h | h | h)
      · exact .inr h.1
      · exact .inl h
      · exact .inr h.1
    · rintro (h | h)
      · exact .inr (.inl h)
      · cases hl : ltB y x
        · exact .inr (.inr ⟨h, by simp [hl]⟩)
        · exact .inl ⟨h, rfl⟩
theorem SB_nil : SB [] := ⟨.nil, by simp⟩
theorem SB_filter {w : List (List TSlot)} (h : SB w) (p : List TSlot → Bool) : SB (w.filter p) := ⟨h.1.filter _, fun s hs => h.2 s (List.mem_filter.1 hs).1⟩
def putsB (w us : List (List TSlot)) : List (List TSlot) := us.foldl putB w
theorem putsB_ok : ∀ {us w : List (List TSlot)}, SB w → (∀ u ∈ us, RBi u) → SB (putsB w us) ∧ (putsB w us).length ≤ w.length + us.length ∧ ∀ x, x ∈ putsB w us ↔ x ∈ w ∨ x ∈ us
  | [], w, hw, _ => ⟨hw, by simp [putsB], by simp [putsB]⟩
  | u :: us, w, hw, hu => by
    obtain ⟨a1, a2⟩ := SB_put hw (hu u (by simp))
    obtain ⟨b1, b2, b3⟩ := putsB_ok (us := us) a1 fun v hv => hu v (List.mem_cons_of_mem _ hv)
    refine ⟨b1, by rw [List.length_cons]; show (putsB (putB w u) us).length ≤ _; omega, fun x => ?_⟩
    show x ∈ putsB (putB w u) us ↔ _
    rw [b3, putB_mem, List.mem_cons]
    constructor
    · rintro ((h | h) | h)
      · exact .inr (.inl h)
      · exact .inl h
      · exact .inr (.inr h)
    · rintro (h | h | h)
      · exact .inl (.inr h)
      · exact .inl (.inl h)
      · exact .inr h
theorem SPut_eq {w : List (List TSlot)} {x : List TSlot} (hw : SB w) (hx : RBi x) (hl : w.length ≤ 900) : domain_Set_Slot_Put_v3 x w = some (!decide (x ∈ w), putB w x) := by
  unfold domain_Set_Slot_Put_v3 domain_Set_Slot_Put_v3_b1
  obtain ⟨k, hk, hb, q1, q2⟩ := bs_set (sx := w) hw hx (by omega)
  rw [hb, bndE_s]
  by_cases hm : x ∈ w
  · simp [hm, iteE, bndE, putB]
  · have hin : slices_Insert_Slot_Slot_v2 (k : Int) w [x] = some (putB w x) := by
      unfold slices_Insert_Slot_Slot_v2 insE
      rw [if_pos ⟨by omega, by omega, by simp, fit_small (by simp; omega) (by decide)⟩, Int.toNat_natCast]
      obtain ⟨c1, c2⟩ := cut_filter q1 q2
      rw [c1, c2]
      unfold putB
      rw [if_neg hm]
      simp
    simp only [hm, decide_false, Bool.not_false, iteE_t]
    rw [hin]; rfl
theorem SAll_eq {w : List (List TSlot)} (hl : w.length ≤ 100000) : domain_Set_Slot_All w = some (w, w) ∧ domain_Set_Slot_All_v3 w = some (w, w) := by
  have : fit 0 w.length 24 := fit_small (by omega) (by decide)
  unfold domain_Set_Slot_All domain_Set_Slot_All_v3 slices_Clone_Slot_Slot slices_Clone_Slot_Slot_v3 cloneE
  rw [if_pos this]
  exact ⟨rfl, rfl⟩
theorem concatL {a b : List (List TSlot)} (ha : a.length ≤ 100000) (hb : b.length ≤ 100000) : slices_Concat_Slot_Slot [a, b] = some (a ++ b) := by
  have e1 : intVal .add .i64 0 (a.length : Int) = (a.length : Int) := by rw [addI (by omega) (by omega)]; omega
  have e2 : intVal .add .i64 (a.length : Int) (b.length : Int) = ((a.length + b.length : Nat) : Int) := by rw [addI (by omega) (by omega)]; omega
  have d1 : decide ((a.length : Int) < 0) = false := decide_eq_false (by omega)
  have d2 : decide (((a.length + b.length : Nat) : Int) < 0) = false := decide_eq_false (by omega)
  have s1 : intVal .add .i64 0 1 = 1 := by rw [addI (by omega) (by omega)]; rfl
  have s2 : intVal .add .i64 1 1 = 2 := by rw [addI (by omega) (by omega)]; rfl
  have h1 : slices_Concat_Slot_Slot_l1 [a, b] [a, b] (([a, b] : List (List (List TSlot))).length : Int) 0 0 = some ((a.length + b.length : Nat) : Int) := by
    rw [slices_Concat_Slot_Slot_l1_eq]
    unfold slices_Concat_Slot_Slot_l1_s slices_Concat_Slot_Slot_b2 slices_Concat_Slot_Slot_b3
    simp only [List.length_cons, List.length_nil, idxE_0, e1, d1, iteE_f, bndE_s, s1]
    rw [show decide ((0 : Int) < ((0 + 1 + 1 : Nat) : Int)) = true from rfl, iteE_t, nextE_l]
    rw [slices_Concat_Slot_Slot_l1_eq]
    unfold slices_Concat_Slot_Slot_l1_s slices_Concat_Slot_Slot_b2 slices_Concat_Slot_Slot_b3
    simp only [idxE_1, e2, d2, iteE_f, bndE_s, s2]
    rw [show decide ((1 : Int) < ((0 + 1 + 1 : Nat) : Int)) = true from rfl, iteE_t, nextE_l]
    rw [slices_Concat_Slot_Slot_l1_eq]
    rfl
  have h2 : slices_Concat_Slot_Slot_l4 [a, b] (([a, b] : List (List (List TSlot))).length : Int) 0 [] = some (a ++ b) := by
    rw [slices_Concat_Slot_Slot_l4_eq]
    unfold slices_Concat_Slot_Slot_l4_s
    simp only [List.length_cons, List.length_nil, idxE_0, s1]
    rw [show decide ((0 : Int) < ((0 + 1 + 1 : Nat) : Int)) = true from rfl, iteE_t, chkF (by omega) (by decide), nextE_l]
    rw [slices_Concat_Slot_Slot_l4_eq]
    unfold slices_Concat_Slot_Slot_l4_s
    simp only [idxE_1, s2, List.nil_append]
    rw [show decide ((1 : Int) < ((0 + 1 + 1 : Nat) : Int)) = true from rfl, iteE_t, chkF (by omega) (by decide), nextE_l]
    rw [slices_Concat_Slot_Slot_l4_eq]
    rfl
  unfold slices_Concat_Slot_Slot slices_Grow_Slot_Slot growE
  rw [h1, bndE_s, if_pos (by omega), bndE_s, h2, bndE_s]
section
variable {X φ : Type}
def iterL (step : φ → X → Option (φ × Bool)) : List X → φ → Option φ
  | [], f => some f
  | h :: hs, f => match step f h with
    | some (f', true) => iterL step hs f'
    | some (f', false) => some f'
    | none => none
def itS (step : φ → X → Option (φ × Bool)) : List X → φ → Option (φ ⊕ φ)
  | [], f => some (.inl f)
  | h :: hs, f => match step f h with
    | some (f', true) => itS step hs f'
    | some (f', false) => some (.inr f')
    | none => none
theorem iterL_itS (step : φ → X → Option (φ × Bool)) : ∀ (l : List X) (f : φ), iterL step l f = (match itS step l f with | some (.inl f) => some f | some (.inr f) => some f | none => none)
  | [], f => rfl
  | h :: hs, f => by
    rw [iterL, itS]
    cases step f h with
    | none => rfl
    | some p =>
      obtain ⟨f', c⟩ := p
      cases c
      · rfl
      · exact iterL_itS step hs f'
end
theorem unions_eq {φ : Type} (step : φ → List TSlot → Option (φ × Bool)) {l : List (List TSlot)} {b : List TSlot} (hl : ∀ x ∈ l, BR x) (hb : BR b) (hn : l.length ≤ 1000000) (f : φ) :
    extend_unions_1 step l b f = iterL step (l.filterMap fun x => unO x b) f := by
  have loop : ∀ (n i : Nat) (f : φ), l.length - i = n → i ≤ l.length → extend_unions_1_l1 step b l (l.length : Int) f (i : Int) = itS step ((l.drop i).filterMap fun x => unO x b) f := by
    intro n
    induction n with
    | zero =>
      intro i f hn hi
      have : i = l.length := by omega
      subst this
      rw [extend_unions_1_l1_eq, List.drop_length]
      unfold extend_unions_1_l1_s
      rw [ltI]; rfl
    | succ n ih =>
      intro i f hn' hi
      obtain ⟨x, hx, hdx⟩ := get_lt (l := l) (i := i) (by omega)
      rw [extend_unions_1_l1_eq]
      unfold extend_unions_1_l1_s
      rw [ltD hx, iteE_t, idxE_n hx, binding_Union_eq (hl x (List.mem_of_getElem? hx)) hb, bndE_s, hdx, List.filterMap_cons, succI (show i < 9223372036854775807 by omega)]
      cases hu : unO x b with
      | none => exact ih (i + 1) f (by omega) (by omega)
      | some u =>
        simp only [iteE_t]
        rw [itS]
        cases step f u with
        | none => rfl
        | some p =>
          obtain ⟨f', c⟩ := p
          cases c
          · rfl
          · exact ih (i + 1) f' (by omega) (by omega)
  unfold extend_unions_1
  have := loop _ 0 f rfl (by omega)
  rw [List.drop_zero] at this
  rw [show (0 : Int) = ((0 : Nat) : Int) from rfl, this, iterL_itS]
  cases itS step (l.filterMap fun x => unO x b) f with
  | none => rfl
  | some o => cases o <;> rfl
theorem iter_put {τ : Type} {rd : List (List TSlot) → List TSlot → Option (List (List TSlot) ⊕ τ)} (h : ∀ w x, SB w → RBi x → w.length ≤ 900 → rd w x = some (.inl (putB w x))) :
    ∀ (us w : List (List TSlot)), SB w → (∀ u ∈ us, RBi u) → w.length + us.length ≤ 900 → iterL (stepOf rd) us (.inl w) = some (.inl (putsB w us))
  | [], w, _, _, _ => rfl
  | u :: us, w, hw, hu, hl => by
    rw [List.length_cons] at hl
    obtain ⟨a1, a2⟩ := SB_put hw (hu u (by simp))
    rw [iterL, stepOf, h w u hw (hu u (by simp)) (by omega)]
    exact iter_put h us (putB w u) a1 (fun v hv => hu v (List.mem_cons_of_mem _ hv)) (by omega)
theorem unO_some {x b u : List TSlot} (hx : BR x) (hb : BR b) (h : unO x b = some u) : BR u ∧ fitsS x b = true ∧ unionS x b = u := by
  unfold unO at h
  split at h
  · rename_i hf; cases h; exact ⟨union_BR hx hb hf, hf, rfl⟩
  · cases h
theorem ups_ok {l : List (List TSlot)} {b : List TSlot} (hl : ∀ x ∈ l, BR x) (hb : BR b) : ∀ u ∈ l.filterMap (fun x => unO x b), BR u := fun u hu => by
  obtain ⟨x, hx, e⟩ := List.mem_filterMap.1 hu
  exact (unO_some (hl x hx) hb e).1
theorem ups_len {l : List (List TSlot)} {b : List TSlot} : (l.filterMap (fun x => unO x b)).length ≤ l.length := List.length_filterMap_le _ _
def growB (old s : List (List TSlot)) (b : List TSlot) : List (List TSlot) := putsB s ((old ++ s).filterMap fun x => unO x b)
def growS (old s bs : List (List TSlot)) : List (List TSlot) := bs.foldl (growB old) s
theorem growB_ok {old s : List (List TSlot)} {b : List TSlot} (ho : ∀ x ∈ old, BR x) (hs : SB s) (hr : ∀ x ∈ s, BR x) (hb : BR b) : SB (growB old s b) ∧ (∀ x ∈ growB old s b, BR x) ∧ (growB old s b).length ≤ s.length + (old.length + s.length) ∧
    ∀ u, u ∈ growB old s b ↔ u ∈ s ∨ ∃ y, (y ∈ old ∨ y ∈ s) ∧ fitsS y b = true ∧ unionS y b = u := by
  have hall : ∀ x ∈ old ++ s, BR x := fun x hx => by
    rcases List.mem_append.1 hx with h | h
    · exact ho x h
    · exact hr x h
  obtain ⟨a1, a2, a3⟩ := putsB_ok (us := (old ++ s).filterMap fun x => unO x b) hs (fun u hu => (ups_ok hall hb u hu).i)
  have hl := ups_len (l := old ++ s) (b := b)
  rw [List.length_append] at hl
  refine ⟨a1, fun x hx => ?_, by unfold growB; omega, fun u => ?_⟩
  · rcases (a3 x).1 hx with h | h
    · exact hr x h
    · exact ups_ok hall hb x h
  · unfold growB
    rw [a3, List.mem_filterMap]
    constructor
    · rintro (h | ⟨y, hy, e⟩)
      · exact .inl h
      · obtain ⟨_, e1, e2⟩ := unO_some (hall y hy) hb e
        exact .inr ⟨y, List.mem_append.1 hy, e1, e2⟩
    · rintro (h | ⟨y, hy, e1, e2⟩)
      · exact .inl h
      · exact .inr ⟨y, List.mem_append.2 hy, by unfold unO; rw [if_pos e1, e2]⟩
theorem growS_ok {old : List (List TSlot)} (ho : ∀ x ∈ old, BR x) : ∀ {bs s : List (List TSlot)}, (∀ b ∈ bs, BR b) → SB s → (∀ x ∈ s, BR x) → SB (growS old s bs) ∧ (∀ x ∈ growS old s bs, BR x) ∧ (growS old s bs).length + old.length ≤ (s.length + old.length) * 2 ^ bs.length
  | [], s, _, hs, hr => ⟨hs, hr, by simp [growS]⟩
  | b :: bs, s, hb, hs, hr => by
    obtain ⟨a1, a2, a3, _⟩ := growB_ok ho hs hr (hb b (by simp))
    obtain ⟨b1, b2, b3⟩ := growS_ok (bs := bs) ho (fun c hc => hb c (List.mem_cons_of_mem _ hc)) a1 a2
    refine ⟨b1, b2, Nat.le_trans b3 ?_⟩
    rw [List.length_cons, Nat.pow_succ, Nat.mul_comm (2 ^ bs.length), ← Nat.mul_assoc]
    exact Nat.mul_le_mul_right _ (by omega)
def Made (old P : List (List TSlot)) (u : List TSlot) : Prop := ∃ x ∈ old, ∃ T : List (List TSlot), T ≠ [] ∧ (∀ b ∈ T, b ∈ P) ∧ Un u (x :: T)
theorem made_step {old P s : List (List TSlot)} {b : List TSlot} (ho : ∀ x ∈ old, BR x) (hP : ∀ x ∈ P, BR x) (hs : SB s) (hr : ∀ x ∈ s, BR x) (hb : BR b) (h : ∀ u, u ∈ s ↔ Made old P u) (u : List TSlot) : u ∈ growB old s b ↔ Made old (P ++ [b]) u := by
  rw [(growB_ok ho hs hr hb).2.2.2]
  constructor
  · rintro (g | ⟨y, hy, e1, rfl⟩)
    · obtain ⟨x, hx, T, hT, hTP, hU⟩ := (h u).1 g
      exact ⟨x, hx, T, hT, fun c hc => List.mem_append_left _ (hTP c hc), hU⟩
    · rcases hy with hy | hy
      · exact ⟨y, hy, [b], by simp, by simp, Un_step (Un_one (ho y hy)) hb e1⟩
      · obtain ⟨x, hx, T, hT, hTP, hU⟩ := (h y).1 hy
        refine ⟨x, hx, T ++ [b], by simp, fun c hc => ?_, Un_step hU hb e1⟩
        rcases List.mem_append.1 hc with g | g
        · exact List.mem_append_left _ (hTP c g)
        · exact List.mem_append_right _ g
  · rintro ⟨x, hx, T, hT, hTP, hU⟩
    by_cases hbT : b ∈ T
    · right
      have hc : ∀ c, c ∈ x :: T ↔ c ∈ (x :: T.filter fun c => !decide (c = b)) ++ [b] := fun c => by
        simp only [List.mem_cons, List.cons_append, List.mem_append, List.mem_filter, List.not_mem_nil, or_false]
        by_cases e : c = b
        · subst e; simp [hbT]
        · simp [e]
      obtain ⟨y, hy, e1, e2⟩ := Un_split ((Un_congr hc).1 hU) hb
      refine ⟨y, ?_, e1, e2⟩
      by_cases hn : (T.filter fun c => !decide (c = b)) = []
      · rw [hn] at hy
        exact .inl (Un_uniq hy (Un_one (ho x hx)) ▸ hx)
      · refine .inr ((h y).2 ⟨x, hx, _, hn, fun c hc => ?_, hy⟩)
        obtain ⟨c1, c2⟩ := List.mem_filter.1 hc
        rcases List.mem_append.1 (hTP c c1) with g | g
        · exact g
        · rw [List.mem_singleton] at g; subst g; simp at c2
    · refine .inl ((h u).2 ⟨x, hx, T, hT, fun c hc => ?_, hU⟩)
      rcases List.mem_append.1 (hTP c hc) with g | g
      · exact g
      · rw [List.mem_singleton] at g; subst g; exact absurd hc hbT
theorem growS_mem {old : List (List TSlot)} (ho : ∀ x ∈ old, BR x) : ∀ {bs P s : List (List TSlot)}, (∀ b ∈ bs, BR b) → (∀ x ∈ P, BR x) → SB s → (∀ x ∈ s, BR x) → (∀ u, u ∈ s ↔ Made old P u) → ∀ u, u ∈ growS old s bs ↔ Made old (P ++ bs) u
  | [], P, s, _, _, _, _, h, u => by simpa [growS] using h u
  | b :: bs, P, s, hb, hP, hs, hr, h, u => by
    obtain ⟨a1, a2, _, _⟩ := growB_ok ho hs hr (hb b (by simp))
    have := growS_mem (bs := bs) (P := P ++ [b]) (s := growB old s b) ho (fun c hc => hb c (List.mem_cons_of_mem _ hc)) (fun x hx => by
      rcases List.mem_append.1 hx with g | g
      · exact hP x g
      · rw [List.mem_singleton] at g; subst g; exact hb x (by simp)) a1 a2 (fun u => made_step ho hP hs hr (hb b (by simp)) h u) u
    rw [List.append_assoc, List.singleton_append] at this
    exact this
theorem made_nil (old : List (List TSlot)) (u : List TSlot) : ¬ Made old [] u := by
  rintro ⟨x, _, T, hT, hP, _⟩
  cases T with
  | nil => exact hT rfl
  | cons b T => have := hP b (by simp); simp at this
theorem made_congr {old old' P P' : List (List TSlot)} (h1 : ∀ x, x ∈ old ↔ x ∈ old') (h2 : ∀ x, x ∈ P ↔ x ∈ P') (u : List TSlot) : Made old P u ↔ Made old' P' u := by
  unfold Made; simp only [h1, h2]
theorem contains_eq {l : List (List TSlot)} {b : List TSlot} (hl : l.length ≤ 100000) (hx : ∀ x ∈ l, x.length ≤ 1000) : slices_ContainsFunc_Slot_Slot l b = some (decide (b ∈ l)) := by
  have hs : ∀ x ∈ l, extend_Grow_1_1 x b = some (decide (x = b)) := fun x hx' => by
    have hxl := hx x hx'
    unfold extend_Grow_1_1 binding_Same slices_Equal_Slot_Slot
    rw [iteE_if, len_dec]
    by_cases e : x.length = b.length
    · rw [if_neg (by simp [e])]
      unfold slices_Equal_Slot_Slot_l1
      rw [loop_same x b (.inl () : Unit ⊕ Unit) (.inr ()) e
        (fun i y z hy hz => by
          simp only [slices_Equal_Slot_Slot_l1_s, ltD hy, iteE_t, idxE_n hy, idxE_n hz, TSlot.eqb_dec, succW hy (show x.length ≤ 9223372036854775807 by omega)]
          by_cases g : y = z <;> simp [g, iteE])
        (by simp only [slices_Equal_Slot_Slot_l1_s, ltI, iteE_f]), bndE_s]
      by_cases g : x = b <;> simp [g, sumE, bndE]
    · have : ¬ x = b := fun g => e (by rw [g])
      simp [e, this, bndE]
  unfold slices_ContainsFunc_Slot_Slot slices_IndexFunc_Slot_Slot_v2 slices_IndexFunc_Slot_Slot_v2_l1
  rw [loop_index l (fun x => decide (x = b))
    (fun i x hx' => by
      simp only [slices_IndexFunc_Slot_Slot_v2_l1_s, ltD hx', iteE_t, idxE_n hx', hs x (List.mem_of_getElem? hx'), bndE_s, succW hx' (show l.length ≤ 9223372036854775807 by omega)]
      cases decide (x = b) <;> rfl)
    (by simp only [slices_IndexFunc_Slot_Slot_v2_l1_s, ltI, iteE_f]), bndE_s]
  by_cases h : b ∈ l
  · rw [if_pos (by simp [h])]
    simp [sumE, bndE, h]
  · rw [if_neg (by simp only [List.any_eq_true, decide_eq_true_eq]; rintro ⟨x, hx', e⟩; exact h (e ▸ hx'))]
    simp [sumE, bndE, h]
theorem del_loop {p : List TSlot → Bool} {w0 l : List (List TSlot)} (hw : w0.length ≤ 100000) (hp : ∀ x ∈ w0, extend_Grow_1 x l = some (p x)) {i : Nat} (hi : i < w0.length) (h1 : ∀ x ∈ w0.take i, p x = false) (h2 : ∀ x, w0[i]? = some x → p x = true) :
    ∃ (k : Nat) (w : List (List TSlot)), slices_DeleteFunc_Slot_Slot_l1 l (i : Int) ((i + 1 : Nat) : Int) w0 = some ((k : Int), w) ∧ k ≤ w.length ∧ w.take k = w0.filter fun x => !p x := by
  unfold slices_DeleteFunc_Slot_Slot_l1
  obtain ⟨t, ht, k, w, rfl, q1, q2⟩ := loopE_ex (step := fun s : Int × Int × List (List TSlot) => slices_DeleteFunc_Slot_Slot_l1_s l s.1 s.2.1 s.2.2)
    (fun s => ∃ k j : Nat, s.1 = (k : Int) ∧ s.2.1 = (j : Int) ∧ k < j ∧ j ≤ w0.length ∧ s.2.2.length = w0.length ∧ s.2.2.take k = (w0.take j).filter (fun x => !p x) ∧ s.2.2.drop j = w0.drop j) (fun s => (w0.length - s.2.1).toNat)
    (fun t => ∃ (k : Nat) (w : List (List TSlot)), t = ((k : Int), w) ∧ k ≤ w.length ∧ w.take k = w0.filter fun x => !p x)
    (by
      rintro ⟨s1, s2, w⟩ ⟨k, j, e1, e2, hkj, hj, hlw, hk, hd⟩
      simp only at e1 e2 hlw hk hd
      subst e1; subst e2
      simp only
      by_cases he : j = w0.length
      · subst he
        refine .inl ⟨((k : Int), w), ?_, k, w, rfl, by omega, ?_⟩
        · unfold slices_DeleteFunc_Slot_Slot_l1_s
          rw [hlw, ltI]; rfl
        · rw [hk, List.take_length]
      · obtain ⟨x, hx, hdx⟩ := get_lt (l := w0) (i := j) (by omega)
        have hwx : w[j]? = some x := by
          have := congrArg (·[0]?) hd
          simpa [hx] using this
        have hpx := hp x (List.mem_of_getElem? hx)
        have hd1 : w.drop (j + 1) = w0.drop (j + 1) := by
          have := congrArg (List.drop 1) hd
          rwa [List.drop_drop, List.drop_drop] at this
        have hdd : ∀ (y : List TSlot), (w.set k y).drop (j + 1) = w0.drop (j + 1) := fun y => by
          rw [List.drop_set_of_lt (by omega)]; exact hd1
        have htk : (w0.take (j + 1)).filter (fun x => !p x) = (w0.take j).filter (fun x => !p x) ++ (if p x = true then [] else [x]) := by
          rw [List.take_add_one, hx, List.filter_append]
          cases h : p x <;> simp [h]
        right
        unfold slices_DeleteFunc_Slot_Slot_l1_s slices_DeleteFunc_Slot_Slot_b2 slices_DeleteFunc_Slot_Slot_b3
        simp only [ltD hwx, iteE_t, idxE_n hwx, hpx, bndE_s]
        rw [chkE_p (by omega)]
        cases h : p x with
        | true =>
          refine ⟨((k : Int), ((j + 1 : Nat) : Int), w), by simp only [Bool.not_true, iteE_f, bndE_s, succI (show j < 9223372036854775807 by omega)], ⟨k, j + 1, rfl, rfl, by omega, by omega, hlw, ?_, hd1⟩, by simp only; omega⟩
          simp only; rw [hk, htk, h]; simp
        | false =>
          refine ⟨(((k + 1 : Nat) : Int), ((j + 1 : Nat) : Int), w.set k x), ?_, ⟨k + 1, j + 1, rfl, rfl, by omega, by omega, by simp [hlw], ?_, hdd x⟩, by simp only; omega⟩
          · simp only [Bool.not_false, iteE_t]
            rw [chkE_p (by omega), chkE_p (by omega)]
            simp only [bndE_s, succI (show j < 9223372036854775807 by omega), succI (show k < 9223372036854775807 by omega), Int.toNat_natCast]
          · simp only
            rw [htk, h, ← hk, List.take_add_one, List.getElem?_set_self (by omega), List.take_set_of_le (by omega)]
            simp)
    ((i : Int), ((i + 1 : Nat) : Int), w0) ⟨i, i + 1, rfl, rfl, by omega, by omega, rfl, by
      obtain ⟨x, hx, _⟩ := get_lt hi
      simp only
      rw [List.take_add_one, hx, List.filter_append, List.filter_eq_self.2 (fun y hy => by rw [h1 y hy]; rfl)]
      simp [h2 x hx], rfl⟩
  exact ⟨k, w, ht, q1, q2⟩
theorem delete_eq {l w : List (List TSlot)} (hl : l.length ≤ 100000) (hx : ∀ x ∈ l, x.length ≤ 1000) (hw : w.length ≤ 100000) : slices_DeleteFunc_Slot_Slot l w = some (w.filter fun x => !decide (x ∈ l)) := by
  have hp : ∀ x, extend_Grow_1 x l = some (decide (x ∈ l)) := fun x => by
    unfold extend_Grow_1
    rw [contains_eq hl hx]; rfl
  unfold slices_DeleteFunc_Slot_Slot slices_IndexFunc_Slot_Slot slices_IndexFunc_Slot_Slot_l1
  rw [loop_index w (fun x => decide (x ∈ l))
    (fun i x hx' => by
      simp only [slices_IndexFunc_Slot_Slot_l1_s, ltD hx', iteE_t, idxE_n hx', hp x, bndE_s, succW hx' (show w.length ≤ 9223372036854775807 by omega)]
      cases decide (x ∈ l) <;> rfl)
    (by simp only [slices_IndexFunc_Slot_Slot_l1_s, ltI, iteE_f]), bndE_s]
  by_cases h : (w.any fun x => decide (x ∈ l)) = true
  · rw [if_pos h, sumE_r, bndE_s]
    have hlt : w.findIdx (fun x => decide (x ∈ l)) < w.length := List.findIdx_lt_length.2 (by simpa [List.any_eq_true] using h)
    obtain ⟨k, w', e, q1, q2⟩ := del_loop hw (fun x _ => hp x) hlt
      (fun x hx' => by
        obtain ⟨j, hj, rfl⟩ := List.mem_iff_getElem.1 hx'
        rw [List.length_take] at hj
        rw [List.getElem_take]
        have := List.not_of_lt_findIdx (p := fun x => decide (x ∈ l)) (xs := w) (i := j) (by omega)
        simpa using this)
      (fun x hx' => by
        have := List.findIdx_getElem (w := hlt)
        obtain ⟨_, rfl⟩ := List.getElem?_eq_some_iff.1 hx'
        exact this)
    rw [decide_eq_false (by omega), iteE_f, succI (by omega), e, bndE_s]
    simp only
    have hlen : (w'.take k ++ List.replicate (w'.length - k) ([] : List TSlot)).length = w'.length := by simp; omega
    rw [chkE_p (by omega), Int.toNat_natCast, hlen, chkE_p (by omega), List.take_append_of_le_length (by simp; omega), List.take_take, Nat.min_self, q2]
  · rw [if_neg h, sumE_l, bndE_s]
    simp only [decide_true, iteE_t]
    congr 1
    symm
    rw [List.filter_eq_self]
    intro x hx'
    rw [List.any_eq_true] at h
    by_cases g : x ∈ l
    · exact absurd ⟨x, hx', by simp [g]⟩ h
    · simp [g]
def growV (l m : List (List TSlot)) : List (List TSlot) := (growS (putsB [] l) [] (putsB [] m)).filter fun x => !decide (x ∈ l)
theorem extend_Grow_eq {l : List (List TSlot)} {hs : List THit} (hl : ∀ x ∈ l, BR x) (hh : ∀ h ∈ hs, BR h.bind) (hn : hs.length ≤ 5) (hsz : (putsB [] l).length * 2 ^ hs.length ≤ 900) (hll : l.length ≤ 900) :
    extend_Grow l hs = some (growV l (hs.map (·.bind))) ∧ SB (growV l (hs.map (·.bind))) ∧ (∀ u ∈ growV l (hs.map (·.bind)), BR u) ∧ (∀ u, u ∈ growV l (hs.map (·.bind)) ↔ u ∉ l ∧ Made l (hs.map (·.bind)) u) ∧ (growV l (hs.map (·.bind))).length + (putsB [] l).length ≤ (putsB [] l).length * 2 ^ hs.length := by
  unfold growV
  obtain ⟨o1, o2, o3⟩ := putsB_ok (us := l) SB_nil (fun u hu => (hl u hu).i)
  have o4 : ∀ x ∈ putsB [] l, BR x := fun x hx => by
    rcases (o3 x).1 hx with h | h
    · simp at h
    · exact hl x h
  obtain ⟨m1, m2, m3⟩ := match_Binds_eq (l := hs) (by omega) (fun h hh' => (hh h hh').i)
  have e0 : ∀ (hs : List THit) (w : List (List TSlot)), hs.foldl (fun w h => putB w h.bind) w = putsB w (hs.map (·.bind)) := by
    intro hs
    induction hs with
    | nil => intro w; rfl
    | cons h hs ih => intro w; exact ih _
  rw [e0] at m1 m2 m3
  obtain ⟨p1, p2, p3⟩ := putsB_ok (us := hs.map (·.bind)) SB_nil (fun u hu => by
    obtain ⟨h, hh', rfl⟩ := List.mem_map.1 hu
    exact (hh h hh').i)
  rw [List.length_map, List.length_nil] at p2
  have p4 : ∀ x ∈ putsB [] (hs.map (·.bind)), BR x := fun x hx => by
    rcases (p3 x).1 hx with h | h
    · simp at h
    · obtain ⟨g, hg, rfl⟩ := List.mem_map.1 h
      exact hh g hg
  unfold extend_Grow domain_NewSet_Slot_v2
  simp only [bndE_s]
  generalize hold : putsB [] l = old at *
  generalize hbs : putsB [] (hs.map (·.bind)) = bs at *
  have hpow : ∀ a b : Nat, a ≤ b → 2 ^ a ≤ 2 ^ b := fun a b h => Nat.pow_le_pow_right (by decide) h
  have hsz' : old.length * 2 ^ bs.length ≤ 900 := Nat.le_trans (Nat.mul_le_mul_left _ (hpow _ _ (by omega))) hsz
  have l1 : extend_Grow_l1 hs l l (l.length : Int) 0 [] = some old := by
    unfold extend_Grow_l1
    rw [loop_fold (step := fun s : Int × List (List TSlot) => extend_Grow_l1_s hs l l (l.length : Int) s.1 s.2) l putB (fun w => w) (fun i w => SB w ∧ w.length ≤ i)
      (fun i x w hx hI => by
        have hi := getLt hx
        have hxR := (hl x (List.mem_of_getElem? hx)).i
        obtain ⟨s1, s2⟩ := SB_put hI.1 hxR
        refine ⟨?_, s1, by omega⟩
        simp only [extend_Grow_l1_s, ltD hx, iteE_t, idxE_n hx]
        rw [SPut_eq hI.1 hxR (by omega), bndE_s, succW hx (show l.length ≤ 9223372036854775807 by omega)])
      (fun w _ => by simp only [extend_Grow_l1_s, ltI, iteE_f]) [] ⟨SB_nil, by simp⟩]
    rw [← hold]; rfl
  rw [l1, bndE_s, m1, bndE_s]
  have l2 : extend_Grow_l2 l bs (bs.length : Int) 0 old [] = some (growS old [] bs) := by
    unfold extend_Grow_l2
    have key := loop_list (step := fun s : Int × List (List TSlot) × List (List TSlot) => extend_Grow_l2_s l bs (bs.length : Int) s.1 s.2.1 s.2.2) bs (fun i (w : List (List TSlot)) => ((i : Int), old, w))
      (fun _ w b => .inl (growB old w b)) (fun w => w) (fun i w => SB w ∧ (∀ x ∈ w, BR x) ∧ w.length + old.length ≤ old.length * 2 ^ i)
      (fun i b w hb hI => by
        obtain ⟨i1, i2, i3⟩ := hI
        have hbR := p4 b (List.mem_of_getElem? hb)
        have hib := getLt hb
        obtain ⟨g1, g2, g3, _⟩ := growB_ok o4 i1 i2 hbR
        have hp1 : old.length * 2 ^ (i + 1) ≤ 900 := Nat.le_trans (Nat.mul_le_mul_left _ (hpow _ _ (by omega))) hsz'
        have hp2 : old.length * 2 ^ (i + 1) = 2 * (old.length * 2 ^ i) := by rw [Nat.pow_succ, Nat.mul_comm (2 ^ i), ← Nat.mul_assoc, Nat.mul_comm old.length 2, Nat.mul_assoc]
        refine ⟨?_, fun w' hw => ?_⟩
        · have hall : ∀ x ∈ old ++ w, BR x := fun x hx => by
            rcases List.mem_append.1 hx with h | h
            · exact o4 x h
            · exact i2 x h
          have hu := ups_len (l := old ++ w) (b := b)
          rw [List.length_append] at hu
          simp only [extend_Grow_l2_s, ltD hb, iteE_t, idxE_n hb]
          rw [(SAll_eq (w := old) (by omega)).1, bndE_s, (SAll_eq (w := w) (by omega)).1, bndE_s]
          simp only
          rw [concatL (by omega) (by omega), bndE_s]
          unfold extend_unions
          rw [bndE_s]
          simp only
          rw [unions_eq _ hall hbR (by rw [List.length_append]; omega), iter_put (rd := extend_Grow_r9_rd l bs (bs.length : Int) (i : Int) (old ++ w) b old) (fun w x hw hx hwl => by
            unfold extend_Grow_r9_rd extend_Grow_b10 extend_Grow_b12
            rw [bndE_s, SPut_eq hw hx hwl]; rfl) _ w i1 (fun u hu => (ups_ok hall hbR u hu).i) (by omega)]
          rw [bndE_s, sumE_l, succW hb (show bs.length ≤ 9223372036854775807 by omega)]
          rfl
        · cases hw
          exact ⟨g1, g2, by omega⟩)
      (fun w _ => by simp only [extend_Grow_l2_s, ltI, iteE_f]) (bs.length + 1) 0 [] (by omega) (by omega) ⟨SB_nil, by simp, by simp⟩
    rw [show ((0 : Int), old, ([] : List (List TSlot))) = (((0 : Nat) : Int), old, []) from rfl, key, List.drop_zero]
    congr 1
    clear key hsz' m1 m2 m3 p1 p2 p3 p4 hbs
    generalize ([] : List (List TSlot)) = s
    generalize 0 = i
    revert s i
    induction bs with
    | nil => intro s i; rfl
    | cons b bs ih => intro s i; rw [runL]; exact ih _ _
  rw [l2, bndE_s]
  obtain ⟨g1, g2, g3⟩ := growS_ok (bs := bs) (s := []) o4 p4 SB_nil (by simp)
  have g4 := growS_mem (bs := bs) (P := []) (s := []) o4 p4 (by simp) SB_nil (by simp) (fun u => by simp [made_nil])
  rw [List.nil_append] at g4
  rw [List.length_nil, Nat.zero_add] at g3
  rw [(SAll_eq (by omega)).2, bndE_s, delete_eq (by omega) (fun x hx => by have := BR_len (hl x hx); omega) (by simp only; omega), bndE_s]
  refine ⟨rfl, SB_filter g1 _, fun u hu => g2 u (List.mem_filter.1 hu).1, fun u => ?_, ?_⟩
  · rw [List.mem_filter, g4, made_congr (old' := l) (P' := hs.map (·.bind)) (fun x => by rw [o3]; simp) (fun x => by rw [p3]; simp)]
    simp [and_comm]
  · have := List.length_filter_le (fun x => !decide (x ∈ l)) (growS old [] bs)
    have h2 := Nat.mul_le_mul_left old.length (hpow bs.length hs.length (by omega))
    omega
theorem law26_right_ex (l : List (List TSlot)) (hl : l.length ≤ 9223372036854775807) : ∃ b, law26_right l = some b ∧ (b = true → ∀ x ∈ l, BR x) := by
  unfold law26_right law26_right_l1
  obtain ⟨t, ht, hQ⟩ := loop_scan0 (step := fun s => law26_right_l1_s l s) l.length (fun i => ∃ x, l[i]? = some x ∧ BR x) (fun t => t = .inl () → ∀ x ∈ l, BR x)
    (fun i hi => by
      obtain ⟨x, hx, _⟩ := get_lt hi
      simp only [law26_right_l1_s, ltD hx, iteE_t, idxE_n hx, succW hx hl, iteP]
      by_cases h8 : (8 : Int) < (x.length : Int)
      · rw [if_pos h8]; exact .inr ⟨_, rfl, fun h => by cases h⟩
      · rw [if_neg h8]
        obtain ⟨b, hb, hbr⟩ := ref05_RightB x (by omega)
        rw [hb, bndE_s]
        cases b with
        | false => exact .inr ⟨_, rfl, fun h => by cases h⟩
        | true =>
          simp only [Bool.not_true, iteE_f]
          have : ∃ t, law26_right_l2 l (i : Int) 0 = some t := by
            unfold law26_right_l2
            exact tot_ex (loop_scan0 (step := fun s => law26_right_l2_s l (i : Int) s) x.length (fun _ => True) (fun _ => True)
              (fun j hj => by
                obtain ⟨y, hy, _⟩ := get_lt hj
                simp only [law26_right_l2_s, idxE_n hx, ltD hy, iteE_t, idxE_n hy, succW hy (show x.length ≤ 9223372036854775807 by omega)]
                rw [iteP]
                by_cases h : (100 : Int) < (y.value.str.length : Int)
                · rw [if_pos h]; exact .inr ⟨_, rfl, trivial⟩
                · rw [if_neg h]; exact .inl ⟨rfl, trivial⟩)
              (fun _ => ⟨_, by simp only [law26_right_l2_s, idxE_n hx, ltI, iteE_f]; rfl, trivial⟩))
          obtain ⟨t, ht⟩ := this
          rw [ht, bndE_s]
          rcases t with _ | _
          · exact .inl ⟨rfl, x, hx, hbr rfl⟩
          · exact .inr ⟨_, rfl, fun h => by cases h⟩)
    (fun h => ⟨.inl (), by simp only [law26_right_l1_s, ltI, iteE_f], fun _ x hx => by
      obtain ⟨j, hj⟩ := List.mem_iff_getElem?.1 hx
      obtain ⟨y, hy, hyR⟩ := h j (getLt hj)
      rw [hj] at hy; cases hy; exact hyR⟩)
  rw [ht, bndE_s]
  rcases t with _ | _
  · exact ⟨true, rfl, fun _ => hQ rfl⟩
  · exact ⟨false, rfl, by simp⟩
theorem law26_hits_ex (m : List (List TSlot)) (hm : m.length ≤ 1000) : ∃ h, law26_hits m = some h ∧ h.map (·.bind) = m := by
  unfold law26_hits law26_hits_l1
  obtain ⟨t, ht, hQ⟩ := loopE_ex (step := fun s : Int × List THit => law26_hits_l1_s m s.1 s.2) (fun s => ∃ i : Nat, s.1 = (i : Int) ∧ i ≤ m.length ∧ s.2.map (·.bind) = m.take i) (fun s => (m.length - s.1).toNat)
    (fun t => t.map (·.bind) = m)
    (by
      rintro ⟨s1, w⟩ ⟨i, e, hi, hw⟩
      simp only at e hw
      subst e
      simp only
      have hwl : w.length = i := by have := congrArg List.length hw; rw [List.length_map, List.length_take] at this; omega
      by_cases he : i = m.length
      · subst he
        exact .inl ⟨w, by simp only [law26_hits_l1_s, ltI, iteE_f], by rw [hw, List.take_length]⟩
      · obtain ⟨x, hx, _⟩ := get_lt (l := m) (i := i) (by omega)
        refine .inr ⟨(((i + 1 : Nat) : Int), w ++ [THit.mk i x []]), ?_, ⟨i + 1, rfl, by omega, ?_⟩, by simp only; omega⟩
        · simp only [law26_hits_l1_s, ltD hx, iteE_t, idxE_n hx, succW hx (show m.length ≤ 9223372036854775807 by omega)]
          rw [chkF (by simp; omega) (by decide)]
        · simp only
          rw [List.map_append, hw, List.take_add_one, hx]; rfl)
    ((0 : Int), ([] : List THit)) ⟨0, rfl, by omega, by simp⟩
  rw [ht, bndE_s]
  exact ⟨t, rfl, hQ⟩
theorem vR_int (n : Int) : vR ⟨1, n, [], false⟩ = true := by simp [vR]
def sl (v n : Int) : TSlot := ⟨v, ⟨1, n, [], false⟩⟩
theorem BR_one (v n : Int) (h : 0 ≤ v ∧ v ≤ 7) : BR [sl v n] := ⟨by simp, fun s hs => by
  rw [List.mem_singleton] at hs; subst hs; exact ⟨h.1, h.2, vR_int n⟩⟩
theorem law26_awake_eq : law26_awake = some true := by
  unfold law26_awake law26_slot
  simp only [bndE_s]
  have h := (extend_Grow_eq (l := [[], [sl 1 7]]) (hs := [THit.mk 0 [sl 0 5] [], THit.mk 1 [sl 0 6] []])
    (fun x hx => by
      simp only [List.mem_cons, List.not_mem_nil, or_false] at hx
      rcases hx with rfl | rfl
      · exact BR_nil
      · exact BR_one _ _ (by decide))
    (fun x hx => by
      simp only [List.mem_cons, List.not_mem_nil, or_false] at hx
      rcases hx with rfl | rfl <;> exact BR_one _ _ (by decide)) (by decide) (by decide) (by decide)).1
  have e : growV [[], [sl 1 7]] ([THit.mk 0 [sl 0 5] [], THit.mk 1 [sl 0 6] []].map (·.bind)) = [[sl 0 5], [sl 0 6], [sl 0 5, sl 1 7], [sl 0 6, sl 1 7]] := by decide
  rw [e] at h
  unfold sl at h
  rw [h, bndE_s]
  rw [show decide (((([[⟨0, ⟨1, 5, [], false⟩⟩], [⟨0, ⟨1, 6, [], false⟩⟩], [⟨0, ⟨1, 5, [], false⟩⟩, ⟨1, ⟨1, 7, [], false⟩⟩], [⟨0, ⟨1, 6, [], false⟩⟩, ⟨1, ⟨1, 7, [], false⟩⟩]] : List (List TSlot)).length : Nat) : Int) = 4) = true from rfl, iteE_t, idxE_1, ref05_Same_eq _ _ (by simp), bndE_s]
  rfl
def RowOk (r : TRow) : Prop := BR r.bind ∧ r.set.length ≤ 1000 ∧ ∀ c ∈ r.set, c.vals.length ≤ 1000
def SRow (w : List TRow) : Prop := SB (w.map (·.bind)) ∧ ∀ r ∈ w, RowOk r
def insR (w : List TRow) (r : TRow) : List TRow := w.filter (fun y => ltB y.bind r.bind) ++ r :: w.filter fun y => !ltB y.bind r.bind
theorem insR_map {w : List TRow} {r : TRow} (h : r.bind ∉ w.map (·.bind)) : (insR w r).map (·.bind) = putB (w.map (·.bind)) r.bind := by
  unfold insR putB
  rw [if_neg h, List.map_append, List.map_cons, List.filter_map, List.filter_map]
  rfl
theorem insR_mem {w : List TRow} {r x : TRow} : x ∈ insR w r ↔ x = r ∨ x ∈ w := by
  unfold insR
  rw [List.mem_append, List.mem_cons, List.mem_filter, List.mem_filter]
  constructor
  · rintro (h | h | h)
    · exact .inr h.1
    · exact .inl h
    · exact .inr h.1
  · rintro (h | h)
    · exact .inr (.inl h)
    · cases hl : ltB x.bind r.bind
      · exact .inr (.inr ⟨h, rfl⟩)
      · exact .inl ⟨h, rfl⟩
theorem insR_ok {w : List TRow} {r : TRow} (hw : SRow w) (hr : RowOk r) (h : r.bind ∉ w.map (·.bind)) : SRow (insR w r) ∧ (insR w r).length = w.length + 1 := by
  refine ⟨⟨?_, fun x hx => ?_⟩, ?_⟩
  · rw [insR_map h]; exact (SB_put hw.1 hr.1.i).1
  · rcases insR_mem.1 hx with rfl | g
    · exact hr
    · exact hw.2 x g
  · have h1 : ∀ w : List TRow, (w.filter fun y => ltB y.bind r.bind).length + (w.filter fun y => !ltB y.bind r.bind).length = w.length := by
      intro w
      induction w with
      | nil => rfl
      | cons y w ih => rw [List.filter_cons, List.filter_cons]; cases ltB y.bind r.bind <;> simp <;> omega
    have := h1 w
    unfold insR
    rw [List.length_append, List.length_cons]; omega
theorem SRow_lt {w : List TRow} (hw : SRow w) {i j : Nat} {y z : TRow} (hi : w[i]? = some y) (hj : w[j]? = some z) (h : i < j) : ltB y.bind z.bind = true :=
  SB_lt hw.1 (i := i) (j := j) (by simp [hi]) (by simp [hj]) h
theorem ref24_Insert_eq {w : List TRow} {r : TRow} (hw : SRow w) (hr : RowOk r) (hn : r.bind ∉ w.map (·.bind)) (hl : w.length ≤ 1000) : ref24_Insert w r = some (insR w r) := by
  unfold ref24_Insert ref24_Insert_l1 insR
  obtain ⟨t, ht, k, hk, rfl, p1, p2⟩ := loopE_ex (step := fun s => ref24_Insert_l1_s w r s) (fun s => ∃ i : Nat, s = (i : Int) ∧ i ≤ w.length ∧ ∀ (j : Nat) s, w[j]? = some s → i ≤ j → ltB s.bind r.bind = false) (fun s => s.toNat)
    (fun t => ∃ k : Nat, k ≤ w.length ∧ t = (k : Int) ∧ (∀ (j : Nat) s, w[j]? = some s → j < k → ltB s.bind r.bind = true) ∧ ∀ (j : Nat) s, w[j]? = some s → k ≤ j → ltB s.bind r.bind = false)
    (by
      rintro s ⟨i, rfl, hi, hj⟩
      cases i with
      | zero => exact .inl ⟨0, by simp [ref24_Insert_l1_s, iteE], 0, by omega, rfl, fun j s _ h => by omega, hj⟩
      | succ i =>
        obtain ⟨y, hy, _⟩ := get_lt (l := w) (i := i) (by omega)
        have hyR := (hw.2 y (List.mem_of_getElem? hy)).1.i
        have e : intVal .sub .i64 ((i + 1 : Nat) : Int) 1 = (i : Int) := by rw [subI (by omega) (by omega)]; omega
        have hd : decide ((0 : Int) < ((i + 1 : Nat) : Int)) = true := by simp
        simp only [ref24_Insert_l1_s, hd, iteE_t, e, idxE_n hy, ref05_Less_eq hr.1.i hyR, bndE_s]
        cases h : ltB r.bind y.bind with
        | true =>
          refine .inr ⟨_, by simp only [iteE_t], ⟨i, rfl, by omega, fun j s hs hij => ?_⟩, by omega⟩
          rcases Nat.eq_or_lt_of_le hij with g | g
          · subst g; rw [hy] at hs; cases hs; exact ltB_asym h
          · exact hj j s hs g
        | false =>
          refine .inl ⟨_, by simp only [iteE_f], i + 1, hi, rfl, fun j s hs hij => ?_, hj⟩
          have hyx : ltB y.bind r.bind = true := by
            rcases ltB_tot hyR hr.1.i (fun e => hn (e ▸ List.mem_map_of_mem (List.mem_of_getElem? hy))) with g | g
            · exact g
            · rw [h] at g; cases g
          rcases Nat.lt_or_ge j i with g | g
          · exact ltB_trans (SRow_lt hw hs hy g) hyx
          · have : j = i := by omega
            subst this; rw [hy] at hs; cases hs; exact hyx)
    (w.length : Int) ⟨w.length, rfl, Nat.le_refl _, fun j s hs hij => by have := getLt hs; omega⟩
  rw [ht, bndE_s]
  have es : sub w 0 (k : Int) = w.take k := by rw [show (0 : Int) = ((0 : Nat) : Int) from rfl, sub_nat]; rfl
  rw [es, sub_end, chkE_p (by omega), chkF (by simp; omega) (by decide), chkF (by simp; omega) (by decide), chkE_p (by omega), chkF (by simp; omega) (by decide)]
  obtain ⟨c1, c2⟩ := cut_filter p1 p2
  rw [List.nil_append, c1, c2]
  simp
theorem ref26_Binds_eq {w : List TRow} (hl : w.length ≤ 1000) : ref26_Binds w = some (w.map (·.bind)) := by
  unfold ref26_Binds ref26_Binds_l1
  rw [loop_fold (step := fun s : Int × List (List TSlot) => ref26_Binds_l1_s w s.1 s.2) w (fun o r => o ++ [r.bind]) (fun o => o) (fun i o => o.length = i)
    (fun i x o hx hI => by
      have hi := getLt hx
      refine ⟨?_, by simp [hI]⟩
      simp only [ref26_Binds_l1_s, ltD hx, iteE_t, idxE_n hx, succW hx (show w.length ≤ 9223372036854775807 by omega)]
      rw [chkF (by first | omega | (simp; omega)) (by decide)])
    (fun o _ => by simp only [ref26_Binds_l1_s, ltI, iteE_f]) [] rfl, bndE_s, foldl_map]
  rfl
def undR (r : List TRow) (b : List TSlot) : List TRow := r.filter fun x => underS x.bind b
def below (x y : TRow) : Bool := decide (x.bind.length < y.bind.length) && underS x.bind y.bind
def maxR (u : List TRow) (x : TRow) : Bool := !(u.any fun y => below x y)
def grR (r : List TRow) (b : List TSlot) : List TRow := (undR r b).filter (maxR (undR r b))
theorem int_lt (a b : Nat) : decide ((a : Int) < (b : Int)) = decide (a < b) := decide_eq_decide.2 (by omega)
theorem extend_Greatest_eq {r : List TRow} {b : List TSlot} (hr : ∀ x ∈ r, RowOk x) (hb : BR b) (hn : r.length ≤ 100000) : extend_Greatest r b = some (grR r b) := by
  have lb := BR_len hb
  unfold extend_Greatest extend_Greatest_l1
  rw [loop_fold (step := fun s : Int × List TRow => extend_Greatest_l1_s b r (r.length : Int) s.1 s.2) r (fun w x => if underS x.bind b = true then w ++ [x] else w) (fun w => w) (fun i w => w.length ≤ i)
    (fun i x w hx hI => by
      have hi := getLt hx
      have lx := BR_len (hr x (List.mem_of_getElem? hx)).1
      refine ⟨?_, by split
                     · rw [List.length_append, List.length_singleton]; omega
                     · omega⟩
      simp only [extend_Greatest_l1_s, ltD hx, iteE_t, extend_Greatest_b4, extend_Greatest_b5, idxE_n hx, binding_Under_eq x.bind b (show x.bind.length ≤ 9223372036854775807 by omega) (show b.length ≤ 9223372036854775807 by omega), bndE_s, succW hx (show r.length ≤ 9223372036854775807 by omega)]
      rw [chkF (by first | omega | (simp; omega)) (by decide)]
      cases underS x.bind b <;> rfl)
    (fun w _ => by simp only [extend_Greatest_l1_s, ltI, iteE_f]) [] (by simp), bndE_s, foldl_filter, List.nil_append]
  have hu : r.filter (fun x => underS x.bind b) = undR r b := rfl
  rw [hu]
  have hul : (undR r b).length ≤ r.length := List.length_filter_le _ _
  have huR : ∀ x ∈ undR r b, RowOk x := fun x hx => hr x (List.mem_filter.1 hx).1
  unfold grR
  generalize undR r b = u at *
  have hc : ∀ x ∈ u, slices_ContainsFunc_Row_Row u x = some (!maxR u x) := fun x hx => by
    have lx := BR_len (huR x hx).1
    unfold slices_ContainsFunc_Row_Row slices_IndexFunc_Row_Row slices_IndexFunc_Row_Row_l1
    rw [loop_index u (fun y => below x y)
      (fun i y hy => by
        have ly := BR_len (huR y (List.mem_of_getElem? hy)).1
        simp only [slices_IndexFunc_Row_Row_l1_s, ltD hy, iteE_t, idxE_n hy, extend_Greatest_1, int_lt, binding_Under_eq x.bind y.bind (show x.bind.length ≤ 9223372036854775807 by omega) (show y.bind.length ≤ 9223372036854775807 by omega), bndE_s, succW hy (show u.length ≤ 9223372036854775807 by omega)]
        unfold below
        cases decide (x.bind.length < y.bind.length) <;> cases underS x.bind y.bind <;> rfl)
      (by simp only [slices_IndexFunc_Row_Row_l1_s, ltI, iteE_f]), bndE_s]
    unfold maxR
    rw [Bool.not_not]
    cases u.any fun y => below x y <;> simp [sumE, bndE]
  unfold extend_Greatest_l6
  rw [loop_fold (step := fun s : Int × List TRow => extend_Greatest_l6_s (u.length : Int) u s.1 s.2) u (fun w x => if maxR u x = true then w ++ [x] else w) (fun w => w) (fun i w => w.length ≤ i)
    (fun i x w hx hI => by
      have hi := getLt hx
      refine ⟨?_, by split
                     · rw [List.length_append, List.length_singleton]; omega
                     · omega⟩
      simp only [extend_Greatest_l6_s, ltD hx, iteE_t, extend_Greatest_b9, extend_Greatest_b10, idxE_n hx, hc x (List.mem_of_getElem? hx), bndE_s, Bool.not_not, succW hx (show u.length ≤ 9223372036854775807 by omega)]
      rw [chkF (by first | omega | (simp; omega)) (by decide)]
      cases maxR u x <;> rfl)
    (fun w _ => by simp only [extend_Greatest_l6_s, ltI, iteE_f]) [] (by simp), bndE_s, foldl_filter, List.nil_append]
def copyS (r : List TRow) (b : List TSlot) : List TConfig × Bool := match grR r b with
  | [] => ([], false)
  | x :: _ => (x.set, true)
theorem grR_sub {r : List TRow} {b : List TSlot} : ∀ x ∈ grR r b, x ∈ r := fun x hx => (List.mem_filter.1 (List.mem_filter.1 hx).1).1
theorem extend_Copy_eq {r : List TRow} {b : List TSlot} (hr : ∀ x ∈ r, RowOk x) (hb : BR b) (hn : r.length ≤ 100000) : extend_Copy r b = some (copyS r b) := by
  unfold extend_Copy copyS
  rw [extend_Greatest_eq hr hb hn, bndE_s]
  cases hg : grR r b with
  | nil => rfl
  | cons x xs =>
    have hx := hr x (grR_sub (b := b) x (by rw [hg]; simp))
    have : fit 0 x.set.length 32 := fit_small (by have := hx.2.1; omega) (by decide)
    rw [decide_eq_false (by simp; omega), iteE_f, idxE_0]
    unfold slices_Clone_Config_Config cloneE
    rw [if_pos this]; rfl
theorem copy_ok {r : List TRow} {b : List TSlot} (hr : ∀ x ∈ r, RowOk x) : (copyS r b).1.length ≤ 1000 ∧ ∀ c ∈ (copyS r b).1, c.vals.length ≤ 1000 := by
  unfold copyS
  cases hg : grR r b with
  | nil => simp
  | cons x xs =>
    have hx := hr x (grR_sub (b := b) x (by rw [hg]; simp))
    exact hx.2
theorem extend_New_eq {r : List TRow} {hs : List THit} (hr : SRow r) (hh : ∀ h ∈ hs, BR h.bind) (hn : hs.length ≤ 5) (hsz : r.length * 2 ^ hs.length ≤ 900) (hll : r.length ≤ 900) :
    extend_New r hs = some ((growV (r.map (·.bind)) (hs.map (·.bind))).map fun b => TRow.mk b (copyS r b).1) ∧ (growV (r.map (·.bind)) (hs.map (·.bind))).length ≤ 900 ∧ SB (growV (r.map (·.bind)) (hs.map (·.bind))) ∧ (∀ u ∈ growV (r.map (·.bind)) (hs.map (·.bind)), BR u) ∧
      (∀ u, u ∈ growV (r.map (·.bind)) (hs.map (·.bind)) ↔ u ∉ r.map (·.bind) ∧ Made (r.map (·.bind)) (hs.map (·.bind)) u) := by
  have hbR : ∀ x ∈ r.map (·.bind), BR x := fun x hx => by
    obtain ⟨y, hy, rfl⟩ := List.mem_map.1 hx
    exact (hr.2 y hy).1
  have hold : (putsB [] (r.map (·.bind))).length ≤ r.length := by
    have := (putsB_ok (us := r.map (·.bind)) SB_nil (fun u hu => (hbR u hu).i)).2.1
    simpa using this
  have hsz' : (putsB [] (r.map (·.bind))).length * 2 ^ hs.length ≤ 900 := Nat.le_trans (Nat.mul_le_mul_right _ hold) hsz
  obtain ⟨g1, g2, g3, g4, g5⟩ := extend_Grow_eq hbR hh hn hsz' (by rw [List.length_map]; omega)
  refine ⟨?_, by omega, g2, g3, g4⟩
  have hlen : (growV (r.map (·.bind)) (hs.map (·.bind))).length ≤ 900 := by omega
  unfold extend_New extend_New_l1
  rw [loop_fold (step := fun s : Int × List (List TSlot) => extend_New_l1_s r hs r (r.length : Int) s.1 s.2) r (fun o x => o ++ [x.bind]) (fun o => o) (fun i o => o.length = i)
    (fun i x o hx hI => by
      have hi := getLt hx
      refine ⟨?_, by simp [hI]⟩
      simp only [extend_New_l1_s, ltD hx, iteE_t, idxE_n hx, succW hx (show r.length ≤ 9223372036854775807 by omega)]
      rw [chkF (by first | omega | (simp; omega)) (by decide)])
    (fun o _ => by simp only [extend_New_l1_s, ltI, iteE_f]) [] rfl, bndE_s, foldl_map, List.nil_append, g1, bndE_s]
  generalize growV (r.map (·.bind)) (hs.map (·.bind)) = g at *
  unfold extend_New_l2
  rw [loop_fold (step := fun s : Int × List TRow => extend_New_l2_s r g (g.length : Int) s.1 s.2) g (fun o b => o ++ [TRow.mk b (copyS r b).1]) (fun o => o) (fun i o => o.length = i)
    (fun i b o hb hI => by
      have hi := getLt hb
      refine ⟨?_, by simp [hI]⟩
      simp only [extend_New_l2_s, ltD hb, iteE_t, idxE_n hb, extend_Copy_eq hr.2 (g3 b (List.mem_of_getElem? hb)) (show r.length ≤ 100000 by omega), bndE_s, succW hb (show g.length ≤ 9223372036854775807 by omega)]
      rw [chkF (by first | omega | (simp; omega)) (by decide)])
    (fun o _ => by simp only [extend_New_l2_s, ltI, iteE_f]) [] rfl, bndE_s, foldl_map]
  rfl

theorem BR_sub_len {a c : List TSlot} (ha : BR a) (hc : BR c) (h : ∀ s ∈ a, s ∈ c) : a.length ≤ c.length ∧ (c.length ≤ a.length → a = c) := by
  have e : a = c.filter fun s => decide (s ∈ a) := BR_ext ha (BR_filter hc _) fun s => by
    rw [List.mem_filter, decide_eq_true_eq]
    exact ⟨fun g => ⟨h s g, g⟩, fun g => g.2⟩
  have hl := congrArg List.length e
  have h2 := List.length_filter_le (fun s => decide (s ∈ a)) c
  refine ⟨by omega, fun h3 => ?_⟩
  have : (c.filter fun s => decide (s ∈ a)).length = c.length := by omega
  have := List.filter_eq_self.2 (List.length_filter_eq_length_iff.1 this)
  rw [this] at e; exact e
theorem max_ex : ∀ (u : List TRow), u ≠ [] → ∃ m ∈ u, ∀ y ∈ u, y.bind.length ≤ m.bind.length
  | [], h => absurd rfl h
  | [x], _ => ⟨x, by simp, fun y hy => by rw [List.mem_singleton] at hy; subst hy; exact Nat.le_refl _⟩
  | x :: z :: u, _ => by
    obtain ⟨m, hm, h⟩ := max_ex (z :: u) (by simp)
    rcases Nat.lt_or_ge m.bind.length x.bind.length with g | g
    · refine ⟨x, by simp, fun y hy => ?_⟩
      rcases List.mem_cons.1 hy with rfl | hy
      · exact Nat.le_refl _
      · have := h y hy; omega
    · refine ⟨m, List.mem_cons_of_mem _ hm, fun y hy => ?_⟩
      rcases List.mem_cons.1 hy with rfl | hy
      · exact g
      · exact h y hy
def ClosedB (l : List (List TSlot)) : Prop := ∀ x ∈ l, ∀ y ∈ l, fitsS x y = true → unionS x y ∈ l
theorem one_greatest {r : List TRow} {b : List TSlot} (hr : SRow r) (hb : BR b) (h0 : [] ∈ r.map (·.bind)) (hc : ClosedB (r.map (·.bind))) : (grR r b).length = 1 := by
  have hbR : ∀ x ∈ r.map (·.bind), BR x := fun x hx => by
    obtain ⟨y, hy, rfl⟩ := List.mem_map.1 hx
    exact (hr.2 y hy).1
  have hU : ∀ x, x ∈ undR r b ↔ x ∈ r ∧ ∀ s ∈ x.bind, s ∈ b := fun x => by
    unfold undR
    rw [List.mem_filter, under_iff hb]
  have hne : undR r b ≠ [] := by
    obtain ⟨x, hx, e⟩ := List.mem_map.1 h0
    intro g
    have := (hU x).2 ⟨hx, by rw [e]; simp⟩
    rw [g] at this; simp at this
  obtain ⟨m, hm, hmax⟩ := max_ex _ hne
  obtain ⟨m1, m2⟩ := (hU m).1 hm
  have hmR := (hr.2 m m1).1
  have hall : ∀ y ∈ undR r b, ∀ s ∈ y.bind, s ∈ m.bind := fun y hy => by
    obtain ⟨y1, y2⟩ := (hU y).1 hy
    have hyR := (hr.2 y y1).1
    have hf := fits_of hb hyR m2 y2
    have hu := hc _ (List.mem_map_of_mem m1) _ (List.mem_map_of_mem y1) hf
    obtain ⟨z, hz, e⟩ := List.mem_map.1 hu
    have hzR := (hr.2 z hz).1
    have hmem := union_mem hmR hyR hf
    have hzu : z ∈ undR r b := (hU z).2 ⟨hz, fun s hs => by
      rw [e] at hs
      rcases (hmem s).1 hs with g | g
      · exact m2 s g
      · exact y2 s g⟩
    have hl := hmax z hzu
    have hsub : ∀ s ∈ m.bind, s ∈ z.bind := fun s hs => by rw [e]; exact (hmem s).2 (.inl hs)
    have := (BR_sub_len hmR hzR hsub).2 hl
    intro s hs
    rw [this, e]
    exact (hmem s).2 (.inr hs)
  have hmx : ∀ x ∈ undR r b, maxR (undR r b) x = true ↔ x.bind = m.bind := fun x hx => by
    have hxR := (hr.2 x ((hU x).1 hx).1).1
    unfold maxR
    rw [Bool.not_eq_true', List.any_eq_false]
    constructor
    · intro h
      have h1 := h m hm
      unfold below at h1
      rw [(under_iff hmR).2 (hall x hx), Bool.and_true, decide_eq_true_eq] at h1
      exact (BR_sub_len hxR hmR (hall x hx)).2 (by omega)
    · intro e y hy
      unfold below
      have := hmax y hy
      rw [e, decide_eq_false (by omega)]; simp
  have hpw : (grR r b).Pairwise fun x y => ltB x.bind y.bind = true := by
    have : r.Pairwise fun x y => ltB x.bind y.bind = true := by
      have := hr.1.1
      rwa [List.pairwise_map] at this
    exact (this.filter _).filter _
  have hmg : m ∈ grR r b := List.mem_filter.2 ⟨hm, (hmx m hm).2 rfl⟩
  have hge : ∀ x ∈ grR r b, x.bind = m.bind := fun x hx => (hmx x (List.mem_filter.1 hx).1).1 (List.mem_filter.1 hx).2
  cases hg : grR r b with
  | nil => rw [hg] at hmg; simp at hmg
  | cons x xs =>
    cases xs with
    | nil => rfl
    | cons y ys =>
      rw [hg] at hpw hge
      have h1 := (List.pairwise_cons.1 hpw).1 y (by simp)
      rw [hge x (by simp), hge y (by simp), ltB_irr] at h1
      cases h1
def OldMade (old P : List (List TSlot)) (u : List TSlot) : Prop := ∃ x ∈ old, ∃ T : List (List TSlot), (∀ b ∈ T, b ∈ P) ∧ Un u (x :: T)
theorem oldMade_iff {old P : List (List TSlot)} (ho : ∀ x ∈ old, BR x) (u : List TSlot) : OldMade old P u ↔ u ∈ old ∨ Made old P u := by
  constructor
  · rintro ⟨x, hx, T, hT, hU⟩
    cases T with
    | nil => exact .inl (Un_uniq hU (Un_one (ho x hx)) ▸ hx)
    | cons b T => exact .inr ⟨x, hx, b :: T, by simp, hT, hU⟩
  · rintro (h | ⟨x, hx, T, _, hT, hU⟩)
    · exact ⟨u, h, [], by simp, Un_one (ho u h)⟩
    · exact ⟨x, hx, T, hT, hU⟩
theorem closed_step {old P l : List (List TSlot)} (ho : ∀ x ∈ old, BR x) (hc : ClosedB old) (hl : ∀ u, u ∈ l ↔ u ∈ old ∨ Made old P u) : ClosedB l := by
  intro u hu v hv hf
  rw [hl, ← oldMade_iff ho] at hu hv ⊢
  obtain ⟨x, hx, T, hT, hU⟩ := hu
  obtain ⟨y, hy, S, hS, hV⟩ := hv
  have hw := union_BR hU.1 hV.1 hf
  have hm := union_mem hU.1 hV.1 hf
  have hxw : ∀ s ∈ x, s ∈ unionS u v := fun s hs => (hm s).2 (.inl (Un_mem hU (by simp) s hs))
  have hyw : ∀ s ∈ y, s ∈ unionS u v := fun s hs => (hm s).2 (.inr (Un_mem hV (by simp) s hs))
  have hxy := fits_of hw (ho y hy) hxw hyw
  have hmz := union_mem (ho x hx) (ho y hy) hxy
  refine ⟨unionS x y, hc x hx y hy hxy, T ++ S, fun c hc => ?_, hw, fun s => ?_⟩
  · rcases List.mem_append.1 hc with g | g
    · exact hT c g
    · exact hS c g
  · rw [hm, hU.2, hV.2]
    constructor
    · rintro (⟨c, hc, hs⟩ | ⟨c, hc, hs⟩)
      · rcases List.mem_cons.1 hc with rfl | g
        · exact ⟨_, by simp, (hmz s).2 (.inl hs)⟩
        · exact ⟨c, by simp [g], hs⟩
      · rcases List.mem_cons.1 hc with rfl | g
        · exact ⟨_, by simp, (hmz s).2 (.inr hs)⟩
        · exact ⟨c, by simp [g], hs⟩
    · rintro ⟨c, hc, hs⟩
      rcases List.mem_cons.1 hc with rfl | g
      · rcases (hmz s).1 hs with k | k
        · exact .inl ⟨x, by simp, k⟩
        · exact .inr ⟨y, by simp, k⟩
      · rcases List.mem_append.1 g with k | k
        · exact .inl ⟨c, by simp [k], hs⟩
        · exact .inr ⟨c, by simp [k], hs⟩
theorem law26_closed_eq {l : List (List TSlot)} (hl : ∀ x ∈ l, BR x) (hn : l.length ≤ 1000) (hc : ClosedB l) : law26_closed l = some true := by
  unfold law26_closed law26_closed_l1
  rw [loop_all0 l (fun _ => true) (.inl () : Unit ⊕ Unit) (.inr ())
    (fun i x hx => by
      have hil := getLt hx
      have hin : law26_closed_l2 l (i : Int) 0 = some (.inl ()) := by
        unfold law26_closed_l2
        have htl : (l.take i).length = i := by rw [List.length_take]; omega
        have := loop_all0 (step := fun s => law26_closed_l2_s l (i : Int) s) (l.take i) (fun _ => true) (.inl () : Unit ⊕ Unit) (.inr ())
          (fun j y hy => by
            have hjl := getLt hy
            rw [htl] at hjl
            have hy' : l[j]? = some y := by rw [List.getElem?_take_of_lt hjl] at hy; exact hy
            have hd : decide ((j : Int) < (i : Int)) = true := by simp; omega
            have lx := BR_len (hl x (List.mem_of_getElem? hx))
            have ly := BR_len (hl y (List.mem_of_getElem? hy'))
            simp only [law26_closed_l2_s, hd, iteE_t, idxE_n hx, idxE_n hy', ref05_Fits_eq x y (show x.length ≤ 9223372036854775807 by omega) (show y.length ≤ 9223372036854775807 by omega), ref05_Union_eq x y (show x.length ≤ 9223372036854775807 by omega) (show y.length ≤ 9223372036854775807 by omega), ref05_Has_eq (fun b hb => (hl b hb).i) hn, bndE_s, if_true, succW hy' (show l.length ≤ 9223372036854775807 by omega)]
            cases hf : fitsS x y with
            | false => rfl
            | true =>
              rw [decide_eq_true (hc x (List.mem_of_getElem? hx) y (List.mem_of_getElem? hy') hf)]; rfl)
          (by rw [htl]; simp only [law26_closed_l2_s, ltI, iteE_f])
        rw [this]; simp
      simp only [law26_closed_l1_s, ltD hx, iteE_t, hin, bndE_s, sumE_l, if_true, succW hx (show l.length ≤ 9223372036854775807 by omega)])
    (by simp only [law26_closed_l1_s, ltI, iteE_f]), bndE_s]
  simp [sumE]
theorem ins_loop {s0 : List (List (List TSlot))} {s1 : List TSlot} {s6 : Int} {w more : List TRow} (hw : SRow w) (hm : ∀ x ∈ more, RowOk x) (hp : more.Pairwise fun x y => x.bind ≠ y.bind) (hn : ∀ x ∈ more, x.bind ∉ w.map (·.bind)) (hl : w.length + more.length ≤ 1000) :
    ∃ o, law26_ExtendClosed_l3 s0 s1 s6 more w 0 = some o ∧ SRow o ∧ o.length ≤ 1000 ∧ ∀ u, u ∈ o.map (·.bind) ↔ u ∈ w.map (·.bind) ∨ u ∈ more.map (·.bind) := by
  unfold law26_ExtendClosed_l3
  exact loopE_ex (step := fun s : List TRow × Int => law26_ExtendClosed_l3_s s0 s1 s6 more s.1 s.2)
    (fun s => ∃ i : Nat, s.2 = (i : Int) ∧ i ≤ more.length ∧ SRow s.1 ∧ s.1.length = w.length + i ∧ ∀ u, u ∈ s.1.map (·.bind) ↔ u ∈ w.map (·.bind) ∨ u ∈ (more.take i).map (·.bind)) (fun s => (more.length - s.2).toNat) _
    (by
      rintro ⟨o, s2⟩ ⟨i, e, hi, h1, h2, h3⟩
      simp only at e h1 h2 h3
      subst e
      simp only
      by_cases he : i = more.length
      · subst he
        rw [List.take_length] at h3
        exact .inl ⟨o, by simp only [law26_ExtendClosed_l3_s, ltI, iteE_f], h1, by omega, h3⟩
      · right
        obtain ⟨x, hx, _⟩ := get_lt (l := more) (i := i) (by omega)
        have hxR := hm x (List.mem_of_getElem? hx)
        have hnx : x.bind ∉ o.map (·.bind) := fun g => by
          rcases (h3 _).1 g with k | k
          · exact hn x (List.mem_of_getElem? hx) k
          · obtain ⟨y, hy, ey⟩ := List.mem_map.1 k
            obtain ⟨j, hj⟩ := List.mem_iff_getElem?.1 hy
            have hjl := getLt hj
            rw [List.length_take] at hjl
            rw [List.getElem?_take_of_lt (by omega)] at hj
            obtain ⟨a1, rfl⟩ := List.getElem?_eq_some_iff.1 hx
            obtain ⟨a2, rfl⟩ := List.getElem?_eq_some_iff.1 hj
            exact List.pairwise_iff_getElem.1 hp j i a2 a1 (by omega) ey
        obtain ⟨i1, i2⟩ := insR_ok h1 hxR hnx
        refine ⟨(insR o x, ((i + 1 : Nat) : Int)), ?_, ⟨i + 1, rfl, by omega, i1, by simp only; omega, fun u => ?_⟩, by simp only; omega⟩
        · simp only [law26_ExtendClosed_l3_s, ltD hx, iteE_t, idxE_n hx, ref24_Insert_eq h1 hxR hnx (show o.length ≤ 1000 by omega), bndE_s, succW hx (show more.length ≤ 9223372036854775807 by omega)]
        · simp only
          rw [insR_map hnx, putB_mem, h3, List.take_add_one, hx, List.map_append, List.mem_append]
          simp only [Option.toList_some, List.map_cons, List.map_nil, List.mem_singleton]
          constructor
          · rintro (h | h | h)
            · exact .inr (.inr h)
            · exact .inl h
            · exact .inr (.inl h)
          · rintro (h | h | h)
            · exact .inr (.inl h)
            · exact .inr (.inr h)
            · exact .inl h)
    (w, 0) ⟨0, rfl, by omega, hw, by simp, by simp⟩
theorem law26_ExtendClosed_eq (l : List (List (List TSlot))) (b : List TSlot) (hl : l.length ≤ 9223372036854775807) (hx : ∀ x ∈ l, x.length ≤ 9223372036854775807) : law26_ExtendClosed l b = some true := by
  unfold law26_ExtendClosed
  rw [law26_awake_eq, iteP]
  split
  · rfl
  rename_i h4
  obtain ⟨b3, e3, r3⟩ := law26_right_ex [b] (by simp)
  rw [e3, bndE_s]
  cases b3
  · rfl
  have rb : BR b := r3 rfl b (by simp)
  simp only [Bool.not_true, iteE_f, bndE_s]
  unfold law26_ExtendClosed_l1
  obtain ⟨t, ht, hQ⟩ := loopE_ex (step := fun s : List TRow × Int => law26_ExtendClosed_l1_s l b s.1 s.2)
    (fun s => ∃ i : Nat, s.2 = (i : Int) ∧ i ≤ l.length ∧ SRow s.1 ∧ s.1.length ≤ 60 ∧ [] ∈ s.1.map (·.bind) ∧ ClosedB (s.1.map (·.bind))) (fun s => (l.length - s.2).toNat)
    (fun t => t = .inl () ∨ t = .inr true)
    (by
      rintro ⟨w, s2⟩ ⟨i, e, hi, h1, h2, h3, h5⟩
      simp only at e h1 h2 h3 h5
      subst e
      simp only
      by_cases he : i = l.length
      · subst he
        exact .inl ⟨.inl (), by simp only [law26_ExtendClosed_l1_s, ltI, iteE_f], .inl rfl⟩
      · obtain ⟨m, hm, _⟩ := get_lt (l := l) (i := i) (by omega)
        simp only [law26_ExtendClosed_l1_s, ltD hm, iteE_t, idxE_n hm, law26_awake_eq, bndE_s]
        rw [iteP]
        by_cases h3' : (3 : Int) < (m.length : Int)
        · rw [if_pos h3']; exact .inl ⟨_, rfl, .inr rfl⟩
        rw [if_neg h3']
        obtain ⟨b1, e1, r1⟩ := law26_right_ex m (hx m (List.mem_of_getElem? hm))
        rw [e1, bndE_s]
        cases b1
        · exact .inl ⟨_, rfl, .inr rfl⟩
        have r1 := r1 rfl
        simp only [Bool.not_true, iteE_f]
        obtain ⟨h, eh, hb⟩ := law26_hits_ex m (by omega)
        have hhR : ∀ x ∈ h, BR x.bind := fun x hx => r1 _ (by rw [← hb]; exact List.mem_map_of_mem hx)
        have hlen : h.length ≤ 3 := by have := congrArg List.length hb; rw [List.length_map] at this; omega
        have hp : 2 ^ h.length ≤ 8 := Nat.pow_le_pow_right (n := 2) (by decide) hlen
        have hsz : w.length * 2 ^ h.length ≤ 60 * 8 := Nat.mul_le_mul h2 hp
        obtain ⟨n1, n2, n3, n4, n5⟩ := extend_New_eq h1 hhR (by omega) (by omega) (by omega)
        have hbR : ∀ x ∈ w.map (·.bind), BR x := fun x hx => by
          obtain ⟨y, hy, rfl⟩ := List.mem_map.1 hx
          exact (h1.2 y hy).1
        rw [eh, bndE_s, n1, bndE_s]
        generalize growV (w.map (·.bind)) (h.map (·.bind)) = g at *
        have hgm : (g.map fun b => TRow.mk b (copyS w b).1).map (·.bind) = g := by rw [List.map_map]; exact List.map_id g
        obtain ⟨o, o1, o2, o3, o4⟩ := ins_loop (s0 := l) (s1 := b) (s6 := (i : Int)) (w := w) (more := g.map fun b => TRow.mk b (copyS w b).1) h1
          (fun x hx => by
            obtain ⟨c, hc, rfl⟩ := List.mem_map.1 hx
            obtain ⟨c1, c2⟩ := copy_ok (b := c) h1.2
            exact ⟨n4 c hc, c1, c2⟩)
          (by
            rw [List.pairwise_map]
            exact n3.1.imp fun {a c} hac e => by
              simp only at e; subst e; rw [ltB_irr] at hac; cases hac)
          (fun x hx => by
            obtain ⟨c, hc, rfl⟩ := List.mem_map.1 hx
            exact ((n5 c).1 hc).1) (by rw [List.length_map]; omega)
        rw [hgm] at o4
        rw [o1, bndE_s, iteP]
        by_cases h60 : (60 : Int) < (o.length : Int)
        · rw [if_pos h60]; exact .inl ⟨_, rfl, .inr rfl⟩
        rw [if_neg h60]
        have o5 : ∀ u, u ∈ o.map (·.bind) ↔ u ∈ w.map (·.bind) ∨ Made (w.map (·.bind)) (h.map (·.bind)) u := fun u => by
          rw [o4, n5]
          constructor
          · rintro (h | h)
            · exact .inl h
            · exact .inr h.2
          · rintro (h | h)
            · exact .inl h
            · by_cases k : u ∈ w.map (·.bind)
              · exact .inl k
              · exact .inr ⟨k, h⟩
        have hc : ClosedB (o.map (·.bind)) := closed_step hbR h5 o5
        have h0 : [] ∈ o.map (·.bind) := (o5 []).2 (.inl h3)
        rw [extend_Greatest_eq o2.2 rb (by omega), bndE_s, one_greatest o2 rb h0 hc]
        rw [show (!decide (((1 : Nat) : Int) = 1)) = false from rfl, iteE_f]
        rw [ref26_Binds_eq o3, bndE_s, law26_closed_eq (fun x hx => by
          obtain ⟨y, hy, rfl⟩ := List.mem_map.1 hx
          exact (o2.2 y hy).1) (by rw [List.length_map]; exact o3) hc, bndE_s]
        simp only [Bool.not_true, iteE_f]
        exact .inr ⟨(o, ((i + 1 : Nat) : Int)), by rw [succW hm hl], ⟨i + 1, rfl, by omega, o2, by simp only; omega, h0, hc⟩, by simp only; omega⟩)
    ([TRow.mk [] [TConfig.mk 0 []]], (0 : Int)) ⟨0, rfl, by omega, ⟨⟨by simp, fun b hb => by
      simp only [List.map_cons, List.map_nil, List.mem_singleton] at hb; subst hb; exact BR_nil.i⟩, fun r hr => by
      rw [List.mem_singleton] at hr; subst hr; exact ⟨BR_nil, by simp, by simp⟩⟩, by simp, by simp, fun x hx y hy hf => by
      simp only [List.map_cons, List.map_nil, List.mem_singleton] at hx hy ⊢
      subst hx; subst hy
      exact BR_ext (union_BR BR_nil BR_nil hf) BR_nil fun s => by rw [union_mem BR_nil BR_nil hf]; simp⟩
  rw [ht, bndE_s]
  rcases hQ with rfl | rfl
  · rfl
  · rfl
end Go.Ac
