/- Own work: the plain law. -/
import Derived.Test.YtpmebmbfkmgjjaaSh26n
import Derived.Test.YtpmebmbfkmgjjaaPL
set_option linter.unusedVariables false
set_option linter.unusedSimpArgs false
namespace Go.Ac
theorem TSlot.eqb_dec (a b : TSlot) : TSlot.eqb a b = decide (a = b) := by rw [Bool.eq_iff_iff, TSlot.eqb_iff]; simp
theorem TValue.eqb_dec (a b : TValue) : TValue.eqb a b = decide (a = b) := by rw [Bool.eq_iff_iff, TValue.eqb_iff]; simp
def zV : TValue := ⟨0, 0, [], false⟩
def getS (l : List TSlot) (v : Int) : TValue × Bool := match l.findSome? (fun s => if s.var = v then some s.value else none) with
  | some x => (x, true)
  | none => (zV, false)
theorem getS_of (l : List TSlot) (v : Int) (o : Unit ⊕ TValue) (h : o = (l.findSome? (fun s => if s.var = v then some (Sum.inr s.value : Unit ⊕ TValue) else none)).getD (.inl ())) :
    sumE o (fun _ => some (TValue.mk 0 0 ([] : List UInt8) false, false)) (fun o4 => some (o4, true)) = some (getS l v) := by
  subst h
  have e : l.findSome? (fun s => if s.var = v then some (Sum.inr s.value : Unit ⊕ TValue) else none) = (l.findSome? (fun s => if s.var = v then some s.value else none)).map Sum.inr := by
    induction l with
    | nil => rfl
    | cons s l ih => rw [List.findSome?_cons, List.findSome?_cons]; by_cases h : s.var = v <;> simp [h, ih]
  rw [e]
  unfold getS
  cases l.findSome? (fun s => if s.var = v then some s.value else none) <;> rfl
theorem ref05_Get_eq (l : List TSlot) (v : Int) (hl : l.length ≤ 9223372036854775807) : ref05_Get l v = some (getS l v) := by
  unfold ref05_Get ref05_Get_l1
  rw [loop_find l (fun _ s => if s.var = v then some (Sum.inr s.value : Unit ⊕ TValue) else none) (.inl ())
    (fun i x hx => by simp only [ref05_Get_l1_s, ltD hx, iteE_t, idxE_n hx, succW hx hl, iteP]; by_cases h : x.var = v <;> simp [h])
    (by simp only [ref05_Get_l1_s, ltI, iteE_f]), runL_findSome, bndE_s]
  exact getS_of l v _ rfl
theorem binding_Get_eq (l : List TSlot) (v : Int) (hl : l.length ≤ 9223372036854775807) : binding_Get l v = some (getS l v) := by
  unfold binding_Get binding_Get_l1
  rw [loop_find l (fun _ s => if s.var = v then some (Sum.inr s.value : Unit ⊕ TValue) else none) (.inl ())
    (fun i x hx => by simp only [binding_Get_l1_s, ltD hx, iteE_t, idxE_n hx, succW hx hl, iteP]; by_cases h : x.var = v <;> simp [h])
    (by simp only [binding_Get_l1_s, ltI, iteE_f]), runL_findSome, bndE_s]
  exact getS_of l v _ rfl
def underS (a b : List TSlot) : Bool := a.all fun s => decide (getS b s.var = (s.value, true))
theorem ref05_Under_eq (a b : List TSlot) (ha : a.length ≤ 9223372036854775807) (hb : b.length ≤ 9223372036854775807) : ref05_Under a b = some (underS a b) := by
  unfold ref05_Under ref05_Under_l1
  rw [loop_all0 a (fun s => decide (getS b s.var = (s.value, true))) (.inl ()) (.inr ())
    (fun i x hx => by
      simp only [ref05_Under_l1_s, ltD hx, iteE_t, idxE_n hx, succW hx ha, ref05_Get_eq b _ hb, bndE_s, TValue.eqb_dec]
      obtain ⟨y, o⟩ := getS b x.var
      cases o
      · simp [iteE]
      · by_cases h : y = x.value <;> simp [iteE, h])
    (by simp only [ref05_Under_l1_s, ltI, iteE_f]), bndE_s]
  unfold underS
  cases a.all _ <;> rfl
theorem binding_Under_eq (a b : List TSlot) (ha : a.length ≤ 9223372036854775807) (hb : b.length ≤ 9223372036854775807) : binding_Under a b = some (underS a b) := by
  unfold binding_Under binding_both
  simp only [bndE_s]
  unfold binding_both_1 binding_both_1_l1
  have h := loop_list (step := fun s : (Bool ⊕ Bool) × Int => binding_both_1_l1_s (stepOf (binding_Under_r1_rd a b)) b a (a.length : Int) s.1 s.2) a (fun i w => (w, (i : Int)))
    (fun _ (w : Bool ⊕ Bool) x => if getS b x.var = (x.value, true) then .inl w else .inr (.inr (.inr false))) (fun w => .inl w) (fun _ w => w = .inl false) (fun i x w hx hI => by
      subst hI
      refine ⟨?_, fun w' hw => ?_⟩
      · simp only [binding_both_1_l1_s, ltD hx, iteE_t, binding_both_1_b2, idxE_n hx, binding_Get_eq b _ hb, bndE_s, succW hx ha]
        obtain ⟨y, o⟩ := getS b x.var
        cases o
        · simp [iteE, yldE, stepOf, binding_Under_r1_rd, sumE, bndE, binding_Under_b4, binding_Under_b7]
        · by_cases h : y = x.value <;> simp [iteE, yldE, stepOf, binding_Under_r1_rd, sumE, bndE, binding_Under_b2, binding_Under_b6, TValue.eqb_dec, h]
      · split at hw
        · cases hw; rfl
        · cases hw)
    (fun w _ => by simp only [binding_both_1_l1_s, ltI, iteE_f]) (a.length + 1) 0 (.inl false) (by omega) (by omega) rfl
  rw [show ((.inl false : Bool ⊕ Bool), (0 : Int)) = (.inl false, ((0 : Nat) : Int)) from rfl, h, List.drop_zero, bndE_s]
  unfold underS
  generalize 0 = i
  clear h ha
  revert i
  induction a with
  | nil => intro i; rfl
  | cons x xs ih =>
    intro i
    rw [runL, List.all_cons]
    by_cases h : getS b x.var = (x.value, true)
    · simp only [h, if_true, decide_true, Bool.true_and]; exact ih (i + 1)
    · simp [h, sumE, bndE]
theorem getS_mem {l : List TSlot} {v : Int} {x : TValue} (h : getS l v = (x, true)) : TSlot.mk v x ∈ l := by
  unfold getS at h
  split at h
  · rename_i y hy
    cases h
    obtain ⟨s, hs, hv⟩ := List.exists_of_findSome?_eq_some hy
    split at hv
    · rename_i e; cases hv; rw [← e]; exact hs
    · cases hv
  · cases h
theorem chkF {β : Type} {a b n : Nat} (h : a + b ≤ 1073741824) (hn : n ≤ 131072) (k : Option β) : chkE (fit a b n) k = k := chkE_p (fit_small h hn) k
def vR (v : TValue) : Bool :=
  if v.kind = 1 then decide (v.str = []) && !v.bool
  else if v.kind = 2 then decide (v.int = 0) && !v.bool && decide (v.str.length ≤ 4096)
  else if v.kind = 3 then decide (v.int = 0) && decide (v.str = []) else false
theorem ref03_Right_eq (v : TValue) : ref03_Right v = some (vR v) := by
  unfold ref03_Right vR
  have hc : decide ((v.str.length : Int) ≤ 4096) = decide (v.str.length ≤ 4096) := by
    by_cases h : v.str.length ≤ 4096
    · have : (v.str.length : Int) ≤ 4096 := by omega
      simp [h, this]
    · have : ¬ (v.str.length : Int) ≤ 4096 := by omega
      simp [h, this]
  rw [hc]
  by_cases h1 : v.kind = 1
  · by_cases hs : v.str = [] <;> simp [h1, hs, iteE]
  by_cases h2 : v.kind = 2
  · by_cases hn : v.int = 0 <;> cases hb : v.bool <;> simp [h2, hn, iteE]
  by_cases h3 : v.kind = 3
  · by_cases hn : v.int = 0 <;> simp [h3, hn, iteE]
  · simp [h1, h2, h3, iteE]
theorem value_Right_eq (v : TValue) : value_Right v = some (vR v) := by
  rw [← ref03_Right_eq]
  obtain ⟨k, n, s, b⟩ := v
  unfold value_Right ref03_Right value_Int value_Str value_Bool
  simp only [bndE_s, iteP, TValue.eqb_dec, TValue.mk.injEq, iteE_if]
  by_cases h1 : k = 1
  · subst h1; by_cases hs : s = [] <;> cases b <;> simp [hs]
  by_cases h2 : k = 2
  · subst h2; by_cases hn : n = 0 <;> cases b <;> simp [hn]
  by_cases h3 : k = 3
  · subst h3; by_cases hn : n = 0 <;> by_cases hs : s = [] <;> cases b <;> simp [hn, hs]
  · simp [h1, h2, h3]
theorem midI {i j : Nat} (h : i + j < 4611686018427387904) : IntKind.wrap .i64 (intVal .shr .u64 (IntKind.wrap .u64 (intVal .add .i64 (i : Int) (j : Int))) 1) = (((i + j) / 2 : Nat) : Int) := by
  have e1 : intVal .add .i64 (i : Int) (j : Int) = ((i + j : Nat) : Int) := by rw [addI (by omega) (by omega)]; omega
  rw [e1, wrapU_nat (by omega)]
  have e2 : intVal .shr .u64 (((i + j : Nat)) : Int) 1 = (((i + j) / 2 ^ 1 : Nat) : Int) := shrU (n := i + j) (k := 1) (by decide)
  rw [e2, Nat.pow_one, wrapI (by omega) (by omega)]
theorem bs_loop {step : Int × Int → Option ((Int × Int) ⊕ Int)} (n : Nat) (lt : Nat → Bool)
    (h1 : ∀ i j : Nat, i < j → j ≤ n → step ((i : Int), (j : Int)) = some (.inl (if lt ((i + j) / 2) = true then ((((i + j) / 2 + 1 : Nat) : Int), (j : Int)) else ((i : Int), (((i + j) / 2 : Nat) : Int)))))
    (h2 : ∀ i : Nat, step ((i : Int), (i : Int)) = some (.inr (i : Int))) (hm : ∀ a b, a ≤ b → b < n → lt b = true → lt a = true) :
    ∃ k : Nat, k ≤ n ∧ loopE step (0, (n : Int)) = some (k : Int) ∧ (∀ a, a < k → lt a = true) ∧ ∀ a, k ≤ a → a < n → lt a = false := by
  obtain ⟨t, ht, k, hk, rfl, p1, p2⟩ := loopE_ex (step := step) (fun s => ∃ i j : Nat, s = ((i : Int), (j : Int)) ∧ i ≤ j ∧ j ≤ n ∧ (∀ a, a < i → lt a = true) ∧ ∀ a, j ≤ a → a < n → lt a = false) (fun s => (s.2 - s.1).toNat)
    (fun t => ∃ k : Nat, k ≤ n ∧ t = (k : Int) ∧ (∀ a, a < k → lt a = true) ∧ ∀ a, k ≤ a → a < n → lt a = false)
    (by
      rintro s ⟨i, j, rfl, hij, hj, q1, q2⟩
      rcases Nat.lt_or_ge i j with h | h
      · right
        cases hl : lt ((i + j) / 2) with
        | true =>
          refine ⟨((((i + j) / 2 + 1 : Nat) : Int), (j : Int)), by rw [h1 i j h hj, hl]; rfl, ⟨(i + j) / 2 + 1, j, rfl, by omega, hj, fun a ha => hm a ((i + j) / 2) (by omega) (by omega) hl, q2⟩, by simp only; omega⟩
        | false =>
          refine ⟨((i : Int), (((i + j) / 2 : Nat) : Int)), by rw [h1 i j h hj, hl]; rfl, ⟨i, (i + j) / 2, rfl, by omega, by omega, q1, fun a ha hn => ?_⟩, by simp only; omega⟩
          rcases Nat.lt_or_ge a j with g | g
          · cases hla : lt a with
            | false => rfl
            | true => rw [hm ((i + j) / 2) a ha hn hla] at hl; cases hl
          · exact q2 a g hn
      · have : i = j := by omega
        subst this
        exact .inl ⟨(i : Int), h2 i, i, hj, rfl, q1, q2⟩)
    (0, (n : Int)) ⟨0, n, rfl, by omega, Nat.le_refl _, fun a ha => by omega, fun a ha hn => by omega⟩
  exact ⟨k, hk, ht, p1, p2⟩

def SV (w : List TSlot) : Prop := w.Pairwise (fun a b => a.var < b.var) ∧ ∀ s ∈ w, 0 ≤ s.var ∧ s.var ≤ 63
theorem sorted_ext : ∀ {a b : List TSlot}, a.Pairwise (fun x y => x.var < y.var) → b.Pairwise (fun x y => x.var < y.var) → (∀ s, s ∈ a ↔ s ∈ b) → a = b
  | [], [], _, _, _ => rfl
  | [], y :: b, _, _, h => by have := (h y).2 (by simp); simp at this
  | x :: a, [], _, _, h => by have := (h x).1 (by simp); simp at this
  | x :: a, y :: b, ha, hb, h => by
    obtain ⟨ha1, ha2⟩ := List.pairwise_cons.1 ha
    obtain ⟨hb1, hb2⟩ := List.pairwise_cons.1 hb
    have hxy : x = y := by
      rcases List.mem_cons.1 ((h x).1 (by simp)) with e | e
      · exact e
      · rcases List.mem_cons.1 ((h y).2 (by simp)) with e2 | e2
        · exact e2.symm
        · have := hb1 x e; have := ha1 y e2; omega
    subst hxy
    congr 1
    refine sorted_ext ha2 hb2 fun s => ⟨fun hs => ?_, fun hs => ?_⟩
    · rcases List.mem_cons.1 ((h s).1 (List.mem_cons_of_mem _ hs)) with e | e
      · subst e; have := ha1 s hs; omega
      · exact e
    · rcases List.mem_cons.1 ((h s).2 (List.mem_cons_of_mem _ hs)) with e | e
      · subst e; have := hb1 s hs; omega
      · exact e
def insV : List TSlot → TSlot → List TSlot
  | [], x => [x]
  | y :: l, x => if x.var < y.var then x :: y :: l else y :: insV l x
theorem insV_mem : ∀ (l : List TSlot) (x s : TSlot), s ∈ insV l x ↔ s = x ∨ s ∈ l
  | [], x, s => by simp [insV]
  | y :: l, x, s => by
    unfold insV
    split
    · simp
    · rw [List.mem_cons, insV_mem l x s, List.mem_cons]
      constructor
      · rintro (h | h | h) <;> simp [h]
      · rintro (h | h | h) <;> simp [h]
theorem insV_sorted : ∀ (l : List TSlot) (x : TSlot), l.Pairwise (fun a b => a.var < b.var) → (∀ s ∈ l, s.var ≠ x.var) → (insV l x).Pairwise (fun a b => a.var < b.var)
  | [], x, _, _ => by simp [insV]
  | y :: l, x, h, hn => by
    obtain ⟨h1, h2⟩ := List.pairwise_cons.1 h
    unfold insV
    split
    · rename_i hxy
      refine List.pairwise_cons.2 ⟨fun s hs => ?_, h⟩
      rcases List.mem_cons.1 hs with rfl | hs
      · exact hxy
      · have := h1 s hs; omega
    · rename_i hxy
      refine List.pairwise_cons.2 ⟨fun s hs => ?_, insV_sorted l x h2 fun s hs => hn s (List.mem_cons_of_mem _ hs)⟩
      rcases (insV_mem l x s).1 hs with rfl | hs
      · have := hn y (by simp); omega
      · exact h1 s hs
theorem insV_len : ∀ (l : List TSlot) (x : TSlot), (insV l x).length = l.length + 1
  | [], x => rfl
  | y :: l, x => by unfold insV; split <;> simp [insV_len l x]
theorem getS_none {l : List TSlot} {v : Int} (h : (getS l v).2 = false) : ∀ s ∈ l, s.var ≠ v := by
  intro s hs e
  unfold getS at h
  cases hf : l.findSome? (fun s => if s.var = v then some s.value else none) with
  | some x => rw [hf] at h; cases h
  | none =>
    rw [List.findSome?_eq_none_iff] at hf
    have := hf s hs
    simp [e] at this
theorem getS_sorted {l : List TSlot} (hl : l.Pairwise (fun a b => a.var < b.var)) {s : TSlot} (h : s ∈ l) : getS l s.var = (s.value, true) := by
  have key : ∀ (l : List TSlot), l.Pairwise (fun a b => a.var < b.var) → s ∈ l → l.findSome? (fun t => if t.var = s.var then some t.value else none) = some s.value := by
    intro l
    induction l with
    | nil => intro _ h; simp at h
    | cons t l ih =>
      intro hp hs
      rw [List.findSome?_cons]
      obtain ⟨h1, h2⟩ := List.pairwise_cons.1 hp
      rcases List.mem_cons.1 hs with rfl | hs
      · simp
      · have := h1 s hs
        rw [if_neg (by omega)]
        exact ih h2 hs
  unfold getS
  rw [key l hl h]
def putV (w : List TSlot) (x : TSlot) : Option (List TSlot) := if (getS w x.var).2 = true then (if (getS w x.var).1 = x.value then some w else none) else some (insV w x)
theorem putV_ok {w w' : List TSlot} {x : TSlot} (hw : SV w) (hx : 0 ≤ x.var ∧ x.var ≤ 63) (h : putV w x = some w') : SV w' ∧ w'.length ≤ w.length + 1 := by
  unfold putV at h
  split at h
  · split at h
    · cases h; exact ⟨hw, by omega⟩
    · cases h
  · rename_i hn
    cases h
    have hn' : (getS w x.var).2 = false := by simpa using hn
    refine ⟨⟨insV_sorted w x hw.1 (getS_none hn'), fun s hs => ?_⟩, by rw [insV_len]; exact Nat.le_refl _⟩
    rcases (insV_mem w x s).1 hs with rfl | hs
    · exact hx
    · exact hw.2 s hs
theorem cut_ins {w : List TSlot} {x : TSlot} (hw : w.Pairwise (fun a b => a.var < b.var)) (hn : ∀ s ∈ w, s.var ≠ x.var) {k : Nat} (hk : k ≤ w.length) (h1 : ∀ j s, w[j]? = some s → j < k → s.var < x.var) (h2 : ∀ j s, w[j]? = some s → k ≤ j → x.var < s.var) :
    w.take k ++ [x] ++ w.drop k = insV w x := by
  refine sorted_ext ?_ (insV_sorted w x hw hn) fun s => ?_
  · rw [List.append_assoc, List.singleton_append]
    have hd : ∀ s ∈ w.drop k, x.var < s.var := fun s hs => by
      obtain ⟨j, hj, rfl⟩ := List.mem_iff_getElem.1 hs
      rw [List.getElem_drop]
      exact h2 (k + j) _ (List.getElem?_eq_getElem (by simp at hj; omega)) (by omega)
    have htk : ∀ s ∈ w.take k, s.var < x.var := fun s hs => by
      obtain ⟨j, hj, rfl⟩ := List.mem_iff_getElem.1 hs
      rw [List.getElem_take]
      simp at hj
      exact h1 j _ (List.getElem?_eq_getElem (by omega)) (by omega)
    refine List.pairwise_append.2 ⟨hw.sublist (List.take_sublist _ _), List.pairwise_cons.2 ⟨hd, hw.sublist (List.drop_sublist _ _)⟩, fun a ha b hb => ?_⟩
    rcases List.mem_cons.1 hb with rfl | hb
    · exact htk a ha
    · have := htk a ha; have := hd b hb; omega
  · rw [insV_mem]
    have hw2 : s ∈ w ↔ s ∈ w.take k ∨ s ∈ w.drop k := by
      conv => lhs; rw [← List.take_append_drop k w]
      rw [List.mem_append]
    rw [hw2]
    simp only [List.mem_append, List.mem_singleton]
    constructor
    · rintro ((h | h) | h) <;> simp [h]
    · rintro (h | h | h) <;> simp [h]
theorem bs_slots {w : List TSlot} {v : Int} (hw : SV w) (hv : 0 ≤ v ∧ v ≤ 63) (hl : w.length ≤ 1000) :
    ∃ k : Nat, k ≤ w.length ∧ slices_BinarySearchFunc_Slot_Slot_int w v = some ((k : Int), (getS w v).2) ∧ (∀ j s, w[j]? = some s → j < k → s.var < v) ∧ (∀ j s, w[j]? = some s → k ≤ j → v ≤ s.var) ∧
      ((getS w v).2 = true → ∃ s, w[k]? = some s ∧ s.var = v) := by
  have hsub : ∀ s ∈ w, binding_find_1 s v = some (s.var - v) := fun s hs => by
    have := hw.2 s hs
    unfold binding_find_1; rw [subI (by omega) (by omega)]
  unfold slices_BinarySearchFunc_Slot_Slot_int slices_BinarySearchFunc_Slot_Slot_int_l1
  obtain ⟨k, hk, hkr, p1, p2⟩ := bs_loop (step := fun s : Int × Int => slices_BinarySearchFunc_Slot_Slot_int_l1_s w v (w.length : Int) s.1 s.2) w.length (fun a => match w[a]? with | some s => decide (s.var < v) | none => false)
    (fun i j hij hj => by
      obtain ⟨x, hx, _⟩ := get_lt (l := w) (i := (i + j) / 2) (by omega)
      have hd : decide ((i : Int) < (j : Int)) = true := by simp; omega
      simp only [slices_BinarySearchFunc_Slot_Slot_int_l1_s, hd, iteE_t, slices_BinarySearchFunc_Slot_Slot_int_b2, midI (show i + j < 4611686018427387904 by omega), idxE_n hx, hsub x (List.mem_of_getElem? hx), bndE_s, slices_BinarySearchFunc_Slot_Slot_int_b3, hx]
      by_cases h : x.var < v
      · have h' : x.var - v < 0 := by omega
        simp only [h, h', decide_true, iteE_t, bndE_s, if_true, succI (show (i + j) / 2 < 9223372036854775807 by omega)]
      · have h' : ¬ x.var - v < 0 := by omega
        simp [h, h', iteE, bndE])
    (fun i => by simp [slices_BinarySearchFunc_Slot_Slot_int_l1_s, iteE])
    (fun a b hab hb h => by
      obtain ⟨x, hx, _⟩ := get_lt (l := w) (i := a) (by omega)
      obtain ⟨y, hy, _⟩ := get_lt (l := w) (i := b) hb
      simp only [hx, hy, decide_eq_true_eq] at h ⊢
      rcases Nat.lt_or_ge a b with g | g
      · obtain ⟨ha', rfl⟩ := List.getElem?_eq_some_iff.1 hx
        obtain ⟨hb', rfl⟩ := List.getElem?_eq_some_iff.1 hy
        have := List.pairwise_iff_getElem.1 hw.1 a b ha' hb' g; omega
      · have : a = b := by omega
        subst this; rw [hx] at hy; cases hy; exact h)
  have q1 : ∀ j s, w[j]? = some s → j < k → s.var < v := fun j s hs hj => by
    have := p1 j hj; simp only [hs] at this; simpa using this
  have q2 : ∀ j s, w[j]? = some s → k ≤ j → v ≤ s.var := fun j s hs hj => by
    have := p2 j hj (getLt hs); simp only [hs] at this; simp at this; exact this
  refine ⟨k, hk, ?_, q1, q2, ?_⟩
  · rw [hkr, bndE_s]
    by_cases h : k < w.length
    · obtain ⟨x, hx, _⟩ := get_lt h
      rw [iteP, if_pos (by omega), idxE_n hx, hsub x (List.mem_of_getElem? hx), bndE_s]
      have hge := q2 k x hx (Nat.le_refl _)
      by_cases hv2 : x.var = v
      · have := getS_sorted hw.1 (List.mem_of_getElem? hx)
        rw [hv2] at this
        simp [this, hv2]
      · cases hg : (getS w v).2 with
        | false => have : ¬ x.var - v = 0 := by omega
                   simp [this]
        | true =>
          have hm := getS_mem (l := w) (v := v) (x := (getS w v).1) (by rw [← hg])
          obtain ⟨j, hj, hjs⟩ := List.mem_iff_getElem.1 hm
          have hjg : w[j]? = some (TSlot.mk v (getS w v).1) := by rw [List.getElem?_eq_getElem hj, hjs]
          rcases Nat.lt_trichotomy j k with g | g | g
          · have := q1 j _ hjg g; simp at this
          · subst g; rw [hx] at hjg; cases hjg; exact absurd rfl hv2
          · obtain ⟨hk', hxe⟩ := List.getElem?_eq_some_iff.1 hx
            have := List.pairwise_iff_getElem.1 hw.1 k j hk' hj g
            rw [hxe, hjs] at this
            simp only at this; omega
    · rw [iteP, if_neg (by omega)]
      cases hg : (getS w v).2 with
      | false => rfl
      | true =>
        have hm := getS_mem (l := w) (v := v) (x := (getS w v).1) (by rw [← hg])
        obtain ⟨j, hj, hjs⟩ := List.mem_iff_getElem.1 hm
        have := q1 j _ (by rw [List.getElem?_eq_getElem hj, hjs]) (by omega)
        simp at this
  · intro hg
    have hm := getS_mem (l := w) (v := v) (x := (getS w v).1) (by rw [← hg])
    obtain ⟨j, hj, hjs⟩ := List.mem_iff_getElem.1 hm
    have hjg : w[j]? = some (TSlot.mk v (getS w v).1) := by rw [List.getElem?_eq_getElem hj, hjs]
    have hkj : k ≤ j := Nat.le_of_not_lt fun g => by have := q1 j _ hjg g; simp at this
    obtain ⟨x, hx, _⟩ := get_lt (l := w) (i := k) (by omega)
    refine ⟨x, hx, ?_⟩
    have hge := q2 k x hx (Nat.le_refl _)
    rcases Nat.eq_or_lt_of_le hkj with e | e
    · subst e; rw [hx] at hjg; cases hjg; rfl
    · obtain ⟨hk', hxe⟩ := List.getElem?_eq_some_iff.1 hx
      have := List.pairwise_iff_getElem.1 hw.1 k j hk' hj e
      rw [hxe, hjs] at this
      simp only at this; omega
def fitsS (a b : List TSlot) : Bool := a.all fun s => !(getS b s.var).2 || decide ((getS b s.var).1 = s.value)
theorem ref05_Fits_eq (a b : List TSlot) (ha : a.length ≤ 9223372036854775807) (hb : b.length ≤ 9223372036854775807) : ref05_Fits a b = some (fitsS a b) := by
  unfold ref05_Fits ref05_Fits_l1
  rw [loop_all0 a (fun s => !(getS b s.var).2 || decide ((getS b s.var).1 = s.value)) (.inl () : Unit ⊕ Unit) (.inr ())
    (fun i x hx => by
      simp only [ref05_Fits_l1_s, ltD hx, iteE_t, idxE_n hx, succW hx ha, ref05_Get_eq b _ hb, bndE_s, TValue.eqb_dec]
      obtain ⟨y, o⟩ := getS b x.var
      cases o
      · simp [iteE]
      · by_cases h : y = x.value <;> simp [iteE, h])
    (by simp only [ref05_Fits_l1_s, ltI, iteE_f]), bndE_s]
  unfold fitsS
  cases a.all _ <;> rfl
def unionF (a b : List TSlot) (v : Nat) : Option TSlot :=
  if (getS a v).2 = true then some ⟨v, (getS a v).1⟩ else if (getS b v).2 = true then some ⟨v, (getS b v).1⟩ else none
def unionS (a b : List TSlot) : List TSlot := (List.range 8).filterMap (unionF a b)
theorem ref05_Union_eq (a b : List TSlot) (ha : a.length ≤ 9223372036854775807) (hb : b.length ≤ 9223372036854775807) : ref05_Union a b = some (unionS a b) := by
  unfold ref05_Union ref05_Union_l1
  have hg : ∀ (l : List TSlot) (v : Int), l.length ≤ 9223372036854775807 → ref05_Get l v = some (getS l v) := fun l v hl => ref05_Get_eq l v hl
  have h := loop_fold (step := fun s : Int × List TSlot => ref05_Union_l1_s a b s.1 s.2) (List.range 8) (fun w v => w ++ (unionF a b v).toList) (fun w => w) (fun i w => w.length ≤ i)
    (fun i x w hx hI => by
      have hi : i < 8 := by simpa using getLt hx
      have hxi : x = i := by
        rw [List.getElem?_range hi] at hx; cases hx; rfl
      subst hxi
      have hd : decide ((x : Int) < 8) = true := by simp; omega
      refine ⟨?_, ?_⟩
      · simp only [ref05_Union_l1_s, hd, iteE_t, ref05_Union_b5, hg a _ ha, hg b _ hb, bndE_s, ref05_Union_b6, ref05_Union_b7, succI (show x < 9223372036854775807 by omega), unionF]
        rw [chkF (by simp; omega) (by decide), chkF (by simp; omega) (by decide)]
        cases (getS a (x : Int)).2 <;> cases (getS b (x : Int)).2 <;> simp [iteE, bndE]
      · unfold unionF
        split
        · simpa using hI
        · split
          · simpa using hI
          · simp; omega)
    (fun w _ => by simp [ref05_Union_l1_s, iteE]) [] (by simp)
  rw [h, bndE_s]
  congr 1
  unfold unionS
  have key : ∀ (l : List Nat) (w : List TSlot), l.foldl (fun w v => w ++ (unionF a b v).toList) w = w ++ l.filterMap (unionF a b) := by
    intro l
    induction l with
    | nil => intro w; simp
    | cons v l ih => intro w; rw [List.foldl_cons, ih, List.filterMap_cons]; cases unionF a b v <;> simp
  rw [key]; simp
theorem unionF_var {a b : List TSlot} {v : Nat} {s : TSlot} (h : unionF a b v = some s) : s.var = (v : Int) := by
  unfold unionF at h
  split at h
  · cases h; rfl
  · split at h
    · cases h; rfl
    · cases h
theorem unionS_sorted (a b : List TSlot) : (unionS a b).Pairwise (fun x y => x.var < y.var) := by
  unfold unionS
  have h8 : (List.range 8).Pairwise (· < ·) := List.pairwise_lt_range
  rw [List.pairwise_filterMap]
  refine h8.imp fun {v w} hvw s hs t ht => ?_
  have := unionF_var hs; have := unionF_var ht; omega
theorem unionS_mem {a b : List TSlot} {s : TSlot} : s ∈ unionS a b ↔ 0 ≤ s.var ∧ s.var ≤ 7 ∧ (getS a s.var = (s.value, true) ∨ (getS a s.var).2 = false ∧ getS b s.var = (s.value, true)) := by
  unfold unionS
  rw [List.mem_filterMap]
  constructor
  · rintro ⟨v, hv, h⟩
    have hv8 : v < 8 := by simpa using hv
    have hsv := unionF_var h
    refine ⟨by omega, by omega, ?_⟩
    rw [hsv]
    unfold unionF at h
    split at h
    · rename_i ha; cases h; left; simp only; rw [← ha]
    · rename_i ha
      split at h
      · rename_i hb; cases h; right; exact ⟨by simpa using ha, by simp only; rw [← hb]⟩
      · cases h
  · rintro ⟨h0, h7, h⟩
    refine ⟨s.var.toNat, by simp; omega, ?_⟩
    have e : ((s.var.toNat : Nat) : Int) = s.var := by omega
    unfold unionF
    rw [e]
    rcases h with h | ⟨h, h'⟩
    · rw [h]; simp
    · rw [h, h']; simp
theorem bl_irr : ∀ x : List UInt8, Op.bytesLess x x = false
  | [] => rfl
  | a :: x => by simp [Op.bytesLess, bl_irr x]
theorem bl_trans : ∀ {x y z : List UInt8}, Op.bytesLess x y = true → Op.bytesLess y z = true → Op.bytesLess x z = true
  | [], [], _, h, _ => by simp [Op.bytesLess] at h
  | _ :: _, [], _, h, _ => by simp [Op.bytesLess] at h
  | [], _ :: _, [], _, h => by simp [Op.bytesLess] at h
  | [], _ :: _, _ :: _, _, _ => rfl
  | _ :: _, _ :: _, [], _, h => by simp [Op.bytesLess] at h
  | a :: x, b :: y, c :: z, h1, h2 => by
    simp only [Op.bytesLess, Bool.or_eq_true, Bool.and_eq_true, decide_eq_true_eq, beq_iff_eq] at h1 h2 ⊢
    rcases h1 with h1 | ⟨rfl, h1⟩
    · rcases h2 with h2 | ⟨rfl, h2⟩
      · exact .inl (UInt8.lt_trans h1 h2)
      · exact .inl h1
    · rcases h2 with h2 | ⟨rfl, h2⟩
      · exact .inl h2
      · exact .inr ⟨rfl, bl_trans h1 h2⟩
theorem bl_tot : ∀ {x y : List UInt8}, x ≠ y → Op.bytesLess x y = true ∨ Op.bytesLess y x = true
  | [], [], h => absurd rfl h
  | _ :: _, [], _ => .inr rfl
  | [], _ :: _, _ => .inl rfl
  | a :: x, b :: y, h => by
    simp only [Op.bytesLess, Bool.or_eq_true, Bool.and_eq_true, decide_eq_true_eq, beq_iff_eq]
    by_cases hab : a = b
    · subst hab
      rcases bl_tot (x := x) (y := y) (fun e => h (by rw [e])) with g | g
      · exact .inl (.inr ⟨rfl, g⟩)
      · exact .inr (.inr ⟨rfl, g⟩)
    · have : a < b ∨ b < a := by
        rw [UInt8.lt_iff_toNat_lt, UInt8.lt_iff_toNat_lt]
        have : a.toNat ≠ b.toNat := fun e => hab (UInt8.toNat_inj.1 e)
        omega
      rcases this with g | g
      · exact .inl (.inl g)
      · exact .inr (.inl g)
theorem bl_find : ∀ (x y : List UInt8), (match ((x.zip y).findSome? fun z => if z.1 = z.2 then none else some (Sum.inr (decide (z.1 < z.2)) : Unit ⊕ Bool)).getD (.inl ()) with | .inl _ => decide (x.length < y.length) | .inr b => b) = Op.bytesLess x y
  | [], [] => rfl
  | _ :: _, [] => rfl
  | [], _ :: _ => by simp [Op.bytesLess]
  | a :: x, b :: y => by
    rw [List.zip_cons_cons, List.findSome?_cons]
    by_cases h : a = b
    · subst h
      simp only [if_true, Op.bytesLess, beq_self_eq_true, Bool.true_and, ← bl_find x y]
      have : decide (a < a) = false := by simp
      rw [this, Bool.false_or]
      simp only [List.length_cons, Nat.add_lt_add_iff_right]
    · simp [h, Op.bytesLess]
theorem ref03_Below_eq (x y : List UInt8) (hx : x.length ≤ 9223372036854775807) (hy : y.length ≤ 9223372036854775807) : ref03_Below x y = some (Op.bytesLess x y) := by
  unfold ref03_Below ref03_Below_l1
  have hz : (x.zip y).length = min x.length y.length := by simp
  rw [loop_find (x.zip y) (fun _ z => if z.1 = z.2 then none else some (Sum.inr (decide (z.1 < z.2)) : Unit ⊕ Bool)) (.inl ())
    (fun i z h => by
      obtain ⟨h1, h2⟩ := zip_get h
      simp only [ref03_Below_l1_s, ltD h1, ltD h2, iteE_t, idxE_n h1, idxE_n h2, succW h1 hx]
      by_cases e : z.1 = z.2
      · simp [e, iteE]
      · have : ¬ (z.1.toNat : Int) = (z.2.toNat : Int) := fun g => e (UInt8.toNat_inj.1 (by omega))
        have : (decide ((z.1.toNat : Int) < (z.2.toNat : Int))) = decide (z.1 < z.2) := decide_eq_decide.2 (by rw [UInt8.lt_iff_toNat_lt]; omega)
        rw [this, if_neg e]
        simp [*, iteE])
    (by
      rw [hz]
      rcases Nat.le_total x.length y.length with h | h
      · rw [Nat.min_eq_left h]; simp only [ref03_Below_l1_s, ltI, iteE_f]
      · rw [Nat.min_eq_right h]; simp only [ref03_Below_l1_s, ltI, iteE_f]; cases decide ((y.length : Int) < (x.length : Int)) <;> rfl), bndE_s, runL_findSome, ← bl_find]
  cases ((x.zip y).findSome? fun z => if z.1 = z.2 then none else some (Sum.inr (decide (z.1 < z.2)) : Unit ⊕ Bool)).getD (.inl ()) <;> simp [sumE]
def ltV (a b : TValue) : Bool := if a.kind = b.kind then (if a.kind = 1 then decide (a.int < b.int) else if a.kind = 2 then Op.bytesLess a.str b.str else !a.bool && b.bool) else decide (a.kind < b.kind)
theorem value_Less_eq (a b : TValue) : value_Less a b = some (ltV a b) := by
  unfold value_Less ltV
  by_cases h : a.kind = b.kind <;> by_cases h1 : a.kind = 1 <;> by_cases h2 : a.kind = 2 <;> cases ha : a.bool <;> simp_all [iteE]
theorem ref03_Less_eq (a b : TValue) (ha : a.str.length ≤ 9223372036854775807) (hb : b.str.length ≤ 9223372036854775807) : ref03_Less a b = some (ltV a b) := by
  unfold ref03_Less ltV
  rw [ref03_Below_eq _ _ ha hb]
  by_cases h : a.kind = b.kind <;> by_cases h1 : a.kind = 1 <;> by_cases h2 : a.kind = 2 <;> cases ha : a.bool <;> simp_all [iteE, bndE]
theorem ltV_irr (a : TValue) : ltV a a = false := by
  unfold ltV; rw [if_pos rfl]; split
  · simp
  · split
    · exact bl_irr _
    · cases a.bool <;> rfl
theorem ltV_trans {a b c : TValue} (h1 : ltV a b = true) (h2 : ltV b c = true) : ltV a c = true := by
  unfold ltV at *
  by_cases e1 : a.kind = b.kind
  · by_cases e2 : b.kind = c.kind
    · rw [if_pos e1] at h1
      rw [if_pos e2] at h2
      rw [if_pos (e1.trans e2)]
      rw [e1] at h1 ⊢
      split
      · rename_i h; rw [if_pos h] at h1 h2; simp at h1 h2 ⊢; omega
      · rename_i h; rw [if_neg h] at h1 h2
        split
        · rename_i h; rw [if_pos h] at h1 h2; exact bl_trans h1 h2
        · rename_i h; rw [if_neg h] at h1 h2; simp at h1 h2 ⊢; exact ⟨h1.1, h2.2⟩
    · rw [if_neg e2] at h2; rw [e1, if_neg e2]; exact h2
  · rw [if_neg e1] at h1
    by_cases e2 : b.kind = c.kind
    · rw [← e2, if_neg e1]; exact h1
    · rw [if_neg e2] at h2
      simp only [decide_eq_true_eq] at h1 h2
      rw [if_neg (by omega)]; simp; omega
theorem vR_parts {v : TValue} (h : vR v = true) : (v.kind = 1 ∧ v.str = [] ∧ v.bool = false) ∨ (v.kind = 2 ∧ v.int = 0 ∧ v.bool = false ∧ v.str.length ≤ 4096) ∨ (v.kind = 3 ∧ v.int = 0 ∧ v.str = []) := by
  unfold vR at h
  split at h
  · left; simp at h; exact ⟨by assumption, h.1, h.2⟩
  · split at h
    · right; left; simp at h; exact ⟨by assumption, h.1.1, h.1.2, h.2⟩
    · split at h
      · right; right; simp at h; exact ⟨by assumption, h.1, h.2⟩
      · cases h
theorem ltV_tot {a b : TValue} (ha : vR a = true) (hb : vR b = true) (h : a ≠ b) : ltV a b = true ∨ ltV b a = true := by
  unfold ltV
  by_cases e : a.kind = b.kind
  · rw [if_pos e, if_pos e.symm, ← e]
    obtain ⟨k, n, s, t⟩ := a
    obtain ⟨k', n', s', t'⟩ := b
    simp only at e; subst e
    rcases vR_parts ha with ⟨rfl, h2, h3⟩ | ⟨rfl, h2, h3, h4⟩ | ⟨rfl, h2, h3⟩ <;> rcases vR_parts hb with ⟨g1, g2, g3⟩ | ⟨g1, g2, g3, g4⟩ | ⟨g1, g2, g3⟩ <;> simp only [Int.reduceEq] at g1 h2 h3 g2 g3 <;> subst_vars
    · simp at h ⊢; omega
    · simp at h ⊢; exact bl_tot h
    · simp at h ⊢; cases t <;> cases t' <;> simp_all
  · rw [if_neg e, if_neg (Ne.symm e)]; simp; omega
def ltX (x y : TSlot) : Bool := if x.var = y.var then ltV x.value y.value else decide (x.var < y.var)
theorem ltX_irr (a : TSlot) : ltX a a = false := by unfold ltX; rw [if_pos rfl, ltV_irr]
theorem ltX_trans {a b c : TSlot} (h1 : ltX a b = true) (h2 : ltX b c = true) : ltX a c = true := by
  unfold ltX at *
  by_cases e1 : a.var = b.var
  · rw [if_pos e1] at h1
    by_cases e2 : b.var = c.var
    · rw [if_pos e2] at h2; rw [if_pos (e1.trans e2)]; exact ltV_trans h1 h2
    · rw [if_neg e2] at h2; rw [e1, if_neg e2]; exact h2
  · rw [if_neg e1] at h1
    by_cases e2 : b.var = c.var
    · rw [← e2, if_neg e1]; exact h1
    · rw [if_neg e2] at h2; simp only [decide_eq_true_eq] at h1 h2; rw [if_neg (by omega)]; simp; omega
theorem ltX_tot {a b : TSlot} (ha : vR a.value = true) (hb : vR b.value = true) (h : a ≠ b) : ltX a b = true ∨ ltX b a = true := by
  unfold ltX
  by_cases e : a.var = b.var
  · rw [if_pos e, if_pos e.symm]
    exact ltV_tot ha hb fun g => h (by obtain ⟨_, _⟩ := a; obtain ⟨_, _⟩ := b; simp only at e g; rw [e, g])
  · rw [if_neg e, if_neg (Ne.symm e)]; simp; omega
def ltL : List TSlot → List TSlot → Bool
  | x :: a, y :: b => if x = y then ltL a b else ltX x y
  | _, _ => false
def ltB (a b : List TSlot) : Bool := if a.length = b.length then ltL a b else decide (a.length < b.length)
theorem ltL_irr : ∀ a, ltL a a = false
  | [] => rfl
  | x :: a => by rw [ltL, if_pos rfl, ltL_irr a]
theorem ltL_trans : ∀ {a b c : List TSlot}, ltL a b = true → ltL b c = true → ltL a c = true
  | [], _, _, h, _ => by simp [ltL] at h
  | _ :: _, [], _, h, _ => by simp [ltL] at h
  | _ :: _, _ :: _, [], _, h => by simp [ltL] at h
  | x :: a, y :: b, z :: c, h1, h2 => by
    rw [ltL] at *
    by_cases e1 : x = y
    · subst e1
      rw [if_pos rfl] at h1
      by_cases e2 : x = z
      · subst e2; rw [if_pos rfl] at h2 ⊢; exact ltL_trans h1 h2
      · rw [if_neg e2] at h2 ⊢; exact h2
    · rw [if_neg e1] at h1
      by_cases e2 : y = z
      · subst e2; rw [if_neg e1]; exact h1
      · rw [if_neg e2] at h2
        have h3 := ltX_trans h1 h2
        rw [if_neg (fun e => by rw [e, ltX_irr] at h3; cases h3)]; exact h3
theorem ltL_tot : ∀ {a b : List TSlot}, a.length = b.length → (∀ s ∈ a, vR s.value = true) → (∀ s ∈ b, vR s.value = true) → a ≠ b → ltL a b = true ∨ ltL b a = true
  | [], [], _, _, _, h => absurd rfl h
  | _ :: _, [], h, _, _, _ => by simp at h
  | [], _ :: _, h, _, _, _ => by simp at h
  | x :: a, y :: b, hl, ha, hb, h => by
    rw [ltL, ltL]
    by_cases e : x = y
    · subst e
      rw [if_pos rfl, if_pos rfl]
      exact ltL_tot (by simpa using hl) (fun s hs => ha s (List.mem_cons_of_mem _ hs)) (fun s hs => hb s (List.mem_cons_of_mem _ hs)) fun g => h (by rw [g])
    · rw [if_neg e, if_neg (Ne.symm e)]
      exact ltX_tot (ha x (by simp)) (hb y (by simp)) e
theorem ltB_irr (a : List TSlot) : ltB a a = false := by unfold ltB; rw [if_pos rfl, ltL_irr]
theorem ltB_trans {a b c : List TSlot} (h1 : ltB a b = true) (h2 : ltB b c = true) : ltB a c = true := by
  unfold ltB at *
  by_cases e1 : a.length = b.length
  · rw [if_pos e1] at h1
    by_cases e2 : b.length = c.length
    · rw [if_pos e2] at h2; rw [if_pos (e1.trans e2)]; exact ltL_trans h1 h2
    · rw [if_neg e2] at h2; rw [e1, if_neg e2]; exact h2
  · rw [if_neg e1] at h1
    by_cases e2 : b.length = c.length
    · rw [← e2, if_neg e1]; exact h1
    · rw [if_neg e2] at h2; simp only [decide_eq_true_eq] at h1 h2; rw [if_neg (by omega)]; simp; omega
def RBi (b : List TSlot) : Prop := b.length ≤ 1000 ∧ ∀ s ∈ b, vR s.value = true
theorem ltB_tot {a b : List TSlot} (ha : RBi a) (hb : RBi b) (h : a ≠ b) : ltB a b = true ∨ ltB b a = true := by
  unfold ltB
  by_cases e : a.length = b.length
  · rw [if_pos e, if_pos e.symm]; exact ltL_tot e ha.2 hb.2 h
  · rw [if_neg e, if_neg (Ne.symm e)]; simp; omega
theorem ltB_asym {a b : List TSlot} (h1 : ltB a b = true) : ltB b a = false := by
  cases h : ltB b a with
  | false => rfl
  | true => have := ltB_trans h1 h; rw [ltB_irr] at this; cases this
theorem ltL_find : ∀ (a b : List TSlot), (match ((a.zip b).findSome? fun z => if z.1 = z.2 then none else some (Sum.inr (ltX z.1 z.2) : Unit ⊕ Bool)).getD (.inl ()) with | .inl _ => false | .inr b => b) = ltL a b
  | [], _ => rfl
  | _ :: _, [] => rfl
  | x :: a, y :: b => by
    rw [List.zip_cons_cons, List.findSome?_cons, ltL]
    by_cases h : x = y
    · subst h; simp only [if_true, ← ltL_find a b]
    · simp [h]
theorem strL {b : List TSlot} (h : RBi b) {s : TSlot} (hs : s ∈ b) : s.value.str.length ≤ 9223372036854775807 := by
  rcases vR_parts (h.2 s hs) with ⟨_, h2, _⟩ | ⟨_, _, _, h4⟩ | ⟨_, _, h3⟩
  · rw [h2]; decide
  · omega
  · rw [h3]; decide
theorem slot_ne {x y : TSlot} (h : x.var = y.var) : (x = y) ↔ x.value = y.value := by
  obtain ⟨a, b⟩ := x; obtain ⟨c, d⟩ := y
  simp only at h; subst h; simp
theorem binding_Less_eq {a b : List TSlot} (ha : RBi a) : binding_Less a b = some (ltB a b) := by
  unfold binding_Less ltB binding_Less_l1
  rw [iteE_if, len_dec]
  by_cases hl : a.length = b.length
  · have hz : (a.zip b).length = a.length := by simp [hl]
    have h1 := ha.1
    rw [if_neg (by simp [hl]), loop_find (a.zip b) (fun _ z => if z.1 = z.2 then none else some (Sum.inr (ltX z.1 z.2) : Unit ⊕ Bool)) (.inl ())
      (fun i z h => by
        obtain ⟨h1, h2⟩ := zip_get h
        simp only [binding_Less_l1_s, ltD h1, iteE_t, idxE_n h1, idxE_n h2, succW h1 (show a.length ≤ 9223372036854775807 by omega), value_Less_eq, bndE_s, TValue.eqb_dec]
        by_cases e : z.1.var = z.2.var
        · have := slot_ne e
          by_cases e2 : z.1.value = z.2.value
          · simp [e, e2, this.2 e2, iteE]
          · simp [e, e2, this, iteE, ltX]
        · have : ¬ z.1 = z.2 := fun g => e (by rw [g])
          simp [e, this, iteE, ltX])
      (by rw [hz]; simp only [binding_Less_l1_s, ltI, iteE_f]), bndE_s, runL_findSome, if_pos hl, ← ltL_find]
    cases ((a.zip b).findSome? fun z => if z.1 = z.2 then none else some (Sum.inr (ltX z.1 z.2) : Unit ⊕ Bool)).getD (.inl ()) <;> rfl
  · rw [if_pos (by simp [hl]), if_neg hl]; simp
theorem ref05_Less_eq {a b : List TSlot} (ha : RBi a) (hb : RBi b) : ref05_Less a b = some (ltB a b) := by
  unfold ref05_Less ltB ref05_Less_l1
  rw [iteE_if, len_dec]
  by_cases hl : a.length = b.length
  · have hz : (a.zip b).length = a.length := by simp [hl]
    have h1 := ha.1
    rw [if_neg (by simp [hl]), loop_find (a.zip b) (fun _ z => if z.1 = z.2 then none else some (Sum.inr (ltX z.1 z.2) : Unit ⊕ Bool)) (.inl ())
      (fun i z h => by
        obtain ⟨h1, h2⟩ := zip_get h
        simp only [ref05_Less_l1_s, ltD h1, iteE_t, idxE_n h1, idxE_n h2, succW h1 (show a.length ≤ 9223372036854775807 by omega), ref03_Less_eq _ _ (strL ha (List.mem_of_getElem? h1)) (strL hb (List.mem_of_getElem? h2)), bndE_s, TValue.eqb_dec]
        by_cases e : z.1.var = z.2.var
        · have := slot_ne e
          by_cases e2 : z.1.value = z.2.value
          · simp [e, e2, this.2 e2, iteE]
          · simp [e, e2, this, iteE, ltX]
        · have : ¬ z.1 = z.2 := fun g => e (by rw [g])
          simp [e, this, iteE, ltX])
      (by rw [hz]; simp only [ref05_Less_l1_s, ltI, iteE_f]), bndE_s, runL_findSome, if_pos hl, ← ltL_find]
    cases ((a.zip b).findSome? fun z => if z.1 = z.2 then none else some (Sum.inr (ltX z.1 z.2) : Unit ⊕ Bool)).getD (.inl ()) <;> rfl
  · rw [if_pos (by simp [hl]), if_neg hl]; simp
theorem ref05_Same_eq (a b : List TSlot) (ha : a.length ≤ 9223372036854775807) : ref05_Same a b = some (decide (a = b)) := by
  unfold ref05_Same ref05_Same_l1
  rw [iteE_if, len_dec]
  by_cases hl : a.length = b.length
  · rw [if_neg (by simp [hl]), loop_same a b (.inl () : Unit ⊕ Unit) (.inr ()) hl
      (fun i x y hx hy => by
        simp only [ref05_Same_l1_s, ltD hx, iteE_t, idxE_n hx, idxE_n hy, succW hx ha, TSlot.eqb_dec]
        by_cases e : x = y <;> simp [e, iteE])
      (by simp only [ref05_Same_l1_s, ltI, iteE_f]), bndE_s]
    by_cases e : a = b <;> simp [e, sumE]
  · rw [if_pos (by simp [hl])]
    have : ¬ a = b := fun e => hl (by rw [e])
    simp [this]
def SB (w : List (List TSlot)) : Prop := w.Pairwise (fun a b => ltB a b = true) ∧ ∀ b ∈ w, RBi b
def putB (w : List (List TSlot)) (x : List TSlot) : List (List TSlot) := if x ∈ w then w else w.filter (fun y => ltB y x) ++ x :: w.filter fun y => !ltB y x
theorem cut_filter {α : Type} {p : α → Bool} {w : List α} {k : Nat} (h1 : ∀ (j : Nat) y, w[j]? = some y → j < k → p y = true) (h2 : ∀ (j : Nat) y, w[j]? = some y → k ≤ j → p y = false) : w.take k = w.filter p ∧ w.drop k = w.filter fun y => !p y := by
  have a : ∀ y ∈ w.take k, p y = true := fun y hy => by
    obtain ⟨j, hj⟩ := List.mem_iff_getElem?.1 hy
    rw [List.getElem?_take] at hj
    split at hj
    · exact h1 j y hj (by assumption)
    · cases hj
  have b : ∀ y ∈ w.drop k, p y = false := fun y hy => by
    obtain ⟨j, hj⟩ := List.mem_iff_getElem?.1 hy
    rw [List.getElem?_drop] at hj
    exact h2 (k + j) y hj (by omega)
  have e : ∀ p : α → Bool, w.filter p = (w.take k).filter p ++ (w.drop k).filter p := fun p => by rw [← List.filter_append, List.take_append_drop]
  constructor
  · rw [e, List.filter_eq_self.2 a, List.filter_eq_nil_iff.2 (fun y hy => by simp [b y hy]), List.append_nil]
  · rw [e, List.filter_eq_nil_iff.2 (fun y hy => by simp [a y hy]), List.filter_eq_self.2 (fun y hy => by simp [b y hy]), List.nil_append]
theorem SB_put {w : List (List TSlot)} {x : List TSlot} (hw : SB w) (hx : RBi x) : SB (putB w x) ∧ (putB w x).length ≤ w.length + 1 := by
  unfold putB
  split
  · exact ⟨hw, by omega⟩
  · rename_i hn
    refine ⟨⟨?_, fun b hb => ?_⟩, ?_⟩
    · rw [List.pairwise_append, List.pairwise_cons]
      have hgt : ∀ y ∈ w.filter (fun y => !ltB y x), ltB x y = true := fun y hy => by
        obtain ⟨h1, h2⟩ := List.mem_filter.1 hy
        rcases ltB_tot (hw.2 y h1) hx (fun e => hn (e ▸ h1)) with g | g
        · rw [g] at h2; cases h2
        · exact g
      refine ⟨hw.1.filter _, ⟨hgt, hw.1.filter _⟩, fun y hy z hz => ?_⟩
      have hyx := (List.mem_filter.1 hy).2
      rcases List.mem_cons.1 hz with rfl | hz
      · exact hyx
      · exact ltB_trans hyx (hgt z hz)
    · rcases List.mem_append.1 hb with h | h
      · exact hw.2 b (List.mem_filter.1 h).1
      · rcases List.mem_cons.1 h with rfl | h
        · exact hx
        · exact hw.2 b (List.mem_filter.1 h).1
    · have h1 : ∀ w : List (List TSlot), (w.filter fun y => ltB y x).length + (w.filter fun y => !ltB y x).length = w.length := by
        intro w
        induction w with
        | nil => rfl
        | cons y w ih => rw [List.filter_cons, List.filter_cons]; cases ltB y x <;> simp <;> omega
      have h1 := h1 w
      rw [List.length_append, List.length_cons]
      omega
def cmpB (y x : List TSlot) : Int := if ltB y x = true then -1 else if ltB x y = true then 1 else 0
theorem Binds_1_eq {y x : List TSlot} (hy : RBi y) (hx : RBi x) : match_Binds_1 y x = some (cmpB y x) := by
  unfold match_Binds_1 cmpB
  rw [binding_Less_eq hy, binding_Less_eq hx, bndE_s, bndE_s]
  cases ltB y x <;> cases ltB x y <;> rfl
theorem cmpB_lt {y x : List TSlot} : decide (cmpB y x < 0) = ltB y x := by
  unfold cmpB; cases ltB y x <;> cases ltB x y <;> rfl
theorem SB_lt {w : List (List TSlot)} (hw : SB w) {i j : Nat} {y z : List TSlot} (hi : w[i]? = some y) (hj : w[j]? = some z) (h : i < j) : ltB y z = true := by
  obtain ⟨a1, rfl⟩ := List.getElem?_eq_some_iff.1 hi
  obtain ⟨a2, rfl⟩ := List.getElem?_eq_some_iff.1 hj
  exact List.pairwise_iff_getElem.1 hw.1 i j a1 a2 h
theorem bs_binds {w : List (List TSlot)} {x : List TSlot} (hw : SB w) (hx : RBi x) (hl : w.length ≤ 1000) :
    ∃ k : Nat, k ≤ w.length ∧ slices_BinarySearchFunc_Slot_Slot_Slot_v2 w x = some ((k : Int), decide (x ∈ w)) ∧ (∀ (j : Nat) y, w[j]? = some y → j < k → ltB y x = true) ∧ (∀ (j : Nat) y, w[j]? = some y → k ≤ j → ltB y x = false) := by
  have hsub : ∀ y ∈ w, match_Binds_1 y x = some (cmpB y x) := fun y hy => Binds_1_eq (hw.2 y hy) hx
  unfold slices_BinarySearchFunc_Slot_Slot_Slot_v2 slices_BinarySearchFunc_Slot_Slot_Slot_v2_l1
  obtain ⟨k, hk, hkr, p1, p2⟩ := bs_loop (step := fun s : Int × Int => slices_BinarySearchFunc_Slot_Slot_Slot_v2_l1_s w x (w.length : Int) s.1 s.2) w.length (fun a => match w[a]? with | some y => ltB y x | none => false)
    (fun i j hij hj => by
      obtain ⟨y, hy, _⟩ := get_lt (l := w) (i := (i + j) / 2) (by omega)
      have hd : decide ((i : Int) < (j : Int)) = true := by simp; omega
      simp only [slices_BinarySearchFunc_Slot_Slot_Slot_v2_l1_s, hd, iteE_t, slices_BinarySearchFunc_Slot_Slot_Slot_v2_b2, midI (show i + j < 4611686018427387904 by omega), idxE_n hy, hsub y (List.mem_of_getElem? hy), bndE_s, slices_BinarySearchFunc_Slot_Slot_Slot_v2_b3, hy, cmpB_lt]
      cases ltB y x with
      | true => simp only [iteE_t, bndE_s, if_true, succI (show (i + j) / 2 < 9223372036854775807 by omega)]
      | false => simp [iteE, bndE])
    (fun i => by simp [slices_BinarySearchFunc_Slot_Slot_Slot_v2_l1_s, iteE])
    (fun a b hab hb h => by
      obtain ⟨y, hy, _⟩ := get_lt (l := w) (i := a) (by omega)
      obtain ⟨z, hz, _⟩ := get_lt (l := w) (i := b) hb
      simp only [hy, hz] at h ⊢
      rcases Nat.lt_or_ge a b with g | g
      · exact ltB_trans (SB_lt hw hy hz g) h
      · have : a = b := by omega
        subst this; rw [hy] at hz; cases hz; exact h)
  have q1 : ∀ (j : Nat) y, w[j]? = some y → j < k → ltB y x = true := fun j s hs hj => by
    have := p1 j hj; simp only [hs] at this; exact this
  have q2 : ∀ (j : Nat) y, w[j]? = some y → k ≤ j → ltB y x = false := fun j s hs hj => by
    have := p2 j hj (getLt hs); simp only [hs] at this; exact this
  refine ⟨k, hk, ?_, q1, q2⟩
  rw [hkr, bndE_s]
  have hmem : ∀ j : Nat, w[j]? = some x → j = k := fun j hj => by
    rcases Nat.lt_trichotomy j k with g | g | g
    · have := q1 j x hj g; rw [ltB_irr] at this; cases this
    · exact g
    · obtain ⟨y, hy, _⟩ := get_lt (l := w) (i := k) (by have := getLt hj; omega)
      have h1 := q2 k y hy (Nat.le_refl _)
      rw [SB_lt hw hy hj g] at h1; cases h1
  by_cases h : k < w.length
  · obtain ⟨y, hy, _⟩ := get_lt h
    rw [iteP, if_pos (by omega), idxE_n hy, hsub y (List.mem_of_getElem? hy), bndE_s]
    have hge := q2 k y hy (Nat.le_refl _)
    congr 2
    rw [decide_eq_decide]
    unfold cmpB
    rw [hge, if_neg (by simp)]
    constructor
    · intro hc
      rcases (Classical.em (y = x)) with e | e
      · exact e ▸ List.mem_of_getElem? hy
      · rcases ltB_tot (hw.2 y (List.mem_of_getElem? hy)) hx e with g | g
        · rw [hge] at g; cases g
        · rw [if_pos g] at hc; cases hc
    · intro hm
      obtain ⟨j, hj⟩ := List.mem_iff_getElem?.1 hm
      have := hmem j hj
      subst this
      rw [hy] at hj; cases hj
      rw [ltB_irr]; rfl
  · rw [iteP, if_neg (by omega)]
    congr 2
    symm
    rw [decide_eq_false_iff_not]
    intro hm
    obtain ⟨j, hj⟩ := List.mem_iff_getElem?.1 hm
    have := hmem j hj
    have := getLt hj
    omega
theorem match_Binds_eq {l : List THit} (hl : l.length ≤ 1000) (hR : ∀ h ∈ l, RBi h.bind) : match_Binds l = some (l.foldl (fun w h => putB w h.bind) []) ∧ SB (l.foldl (fun w h => putB w h.bind) []) ∧ (l.foldl (fun w h => putB w h.bind) []).length ≤ 1000 := by
  have hst : ∀ (l : List THit) (w : List (List TSlot)), (∀ h ∈ l, RBi h.bind) → SB w → SB (l.foldl (fun w h => putB w h.bind) w) ∧ (l.foldl (fun w h => putB w h.bind) w).length ≤ w.length + l.length := by
    intro l
    induction l with
    | nil => intro w _ hw; exact ⟨hw, by simp⟩
    | cons h l ih =>
      intro w hR hw
      obtain ⟨a1, a2⟩ := SB_put hw (hR h (by simp))
      obtain ⟨b1, b2⟩ := ih _ (fun g hg => hR g (List.mem_cons_of_mem _ hg)) a1
      exact ⟨b1, by rw [List.foldl_cons, List.length_cons]; omega⟩
  obtain ⟨z1, z2⟩ := hst l [] hR ⟨List.Pairwise.nil, by simp⟩
  refine ⟨?_, z1, by simp only [List.length_nil] at z2; omega⟩
  unfold match_Binds match_Binds_l1
  rw [loop_fold (step := fun s : Int × List (List TSlot) => match_Binds_l1_s l (l.length : Int) s.1 s.2) l (fun w h => putB w h.bind) (fun w => w) (fun i w => SB w ∧ w.length ≤ i)
    (fun i x w hx hI => by
      have hi := getLt hx
      have hxR := hR x (List.mem_of_getElem? hx)
      obtain ⟨s1, s2⟩ := SB_put hI.1 hxR
      refine ⟨?_, s1, by omega⟩
      obtain ⟨k, hk, hb, q1, q2⟩ := bs_binds hI.1 hxR (show w.length ≤ 1000 by omega)
      simp only [match_Binds_l1_s, ltD hx, iteE_t, match_Binds_b4, idxE_n hx, hb, bndE_s, match_Binds_b5, succW hx (show l.length ≤ 9223372036854775807 by omega)]
      by_cases hm : x.bind ∈ w
      · simp [hm, iteE, bndE, putB]
      · have hin : slices_Insert_Slot_Slot_v2 (k : Int) w [x.bind] = some (putB w x.bind) := by
          unfold slices_Insert_Slot_Slot_v2 insE
          rw [if_pos ⟨by omega, by omega, by simp, fit_small (by simp; omega) (by decide)⟩, Int.toNat_natCast]
          obtain ⟨c1, c2⟩ := cut_filter q1 q2
          rw [c1, c2]
          unfold putB
          rw [if_neg hm]
          simp
        rw [hin]
        simp [hm, iteE, bndE])
    (fun w _ => by simp only [match_Binds_l1_s, ltI, iteE_f]) [] ⟨⟨List.Pairwise.nil, by simp⟩, by simp⟩, bndE_s]
theorem ref05_Has_eq {w : List (List TSlot)} {x : List TSlot} (hw : ∀ b ∈ w, RBi b) (hl : w.length ≤ 1000) : ref05_Has w x = some (decide (x ∈ w)) := by
  unfold ref05_Has ref05_Has_l1
  rw [loop_all0 w (fun y => !decide (y = x)) (.inl () : Unit ⊕ Unit) (.inr ())
    (fun i y hy => by
      have := (hw y (List.mem_of_getElem? hy)).1
      simp only [ref05_Has_l1_s, ltD hy, iteE_t, idxE_n hy, ref05_Same_eq y x (show y.length ≤ 9223372036854775807 by omega), bndE_s, succW hy (show w.length ≤ 9223372036854775807 by omega)]
      by_cases e : y = x <;> simp [e, iteE])
    (by simp only [ref05_Has_l1_s, ltI, iteE_f]), bndE_s]
  by_cases h : x ∈ w
  · rw [if_neg (by simp only [List.all_eq_true]; intro g; have := g x h; simp at this)]
    simp [h, sumE]
  · rw [if_pos (by simp only [List.all_eq_true]; intro y hy; simp; exact fun e => h (e ▸ hy))]
    simp [h, sumE]
theorem ref05_Put_eq {w : List (List TSlot)} {x : List TSlot} (hw : SB w) (hx : RBi x) (hl : w.length ≤ 1000) : ref05_Put w x = some (putB w x) := by
  unfold ref05_Put ref05_Put_l1 putB
  rw [ref05_Has_eq hw.2 hl, bndE_s]
  by_cases hn : x ∈ w
  · simp [hn, iteE]
  simp only [hn, decide_false, iteE_f, if_false]
  obtain ⟨t, ht, k, hk, rfl, p1, p2⟩ := loopE_ex (step := fun s => ref05_Put_l1_s w x s) (fun s => ∃ i : Nat, s = (i : Int) ∧ i ≤ w.length ∧ ∀ (j : Nat) s, w[j]? = some s → i ≤ j → ltB s x = false) (fun s => s.toNat)
    (fun t => ∃ k : Nat, k ≤ w.length ∧ t = (k : Int) ∧ (∀ (j : Nat) s, w[j]? = some s → j < k → ltB s x = true) ∧ ∀ (j : Nat) s, w[j]? = some s → k ≤ j → ltB s x = false)
    (by
      rintro s ⟨i, rfl, hi, hj⟩
      cases i with
      | zero => exact .inl ⟨0, by simp [ref05_Put_l1_s, iteE], 0, by omega, rfl, fun j s _ h => by omega, hj⟩
      | succ i =>
        obtain ⟨y, hy, _⟩ := get_lt (l := w) (i := i) (by omega)
        have hyR := hw.2 y (List.mem_of_getElem? hy)
        have e : intVal .sub .i64 ((i + 1 : Nat) : Int) 1 = (i : Int) := by rw [subI (by omega) (by omega)]; omega
        have hd : decide ((0 : Int) < ((i + 1 : Nat) : Int)) = true := by simp
        simp only [ref05_Put_l1_s, hd, iteE_t, e, idxE_n hy, ref05_Less_eq hx hyR, bndE_s]
        cases h : ltB x y with
        | true =>
          refine .inr ⟨_, by simp only [iteE_t], ⟨i, rfl, by omega, fun j s hs hij => ?_⟩, by omega⟩
          rcases Nat.eq_or_lt_of_le hij with g | g
          · subst g; rw [hy] at hs; cases hs; exact ltB_asym h
          · exact hj j s hs g
        | false =>
          refine .inl ⟨_, by simp only [iteE_f], i + 1, hi, rfl, fun j s hs hij => ?_, hj⟩
          have hyx : ltB y x = true := by
            rcases ltB_tot hyR hx (fun e => hn (e ▸ List.mem_of_getElem? hy)) with g | g
            · exact g
            · rw [h] at g; cases g
          rcases Nat.lt_or_ge j i with g | g
          · exact ltB_trans (SB_lt hw hs hy g) hyx
          · have : j = i := by omega
            subst this; rw [hy] at hs; cases hs; exact hyx)
    (w.length : Int) ⟨w.length, rfl, Nat.le_refl _, fun j s hs hij => by have := getLt hs; omega⟩
  rw [ht, bndE_s]
  have es : sub w 0 (k : Int) = w.take k := by rw [show (0 : Int) = ((0 : Nat) : Int) from rfl, sub_nat]; rfl
  rw [es, sub_end, chkE_p (by omega), chkF (by simp; omega) (by decide), chkF (by simp; omega) (by decide), chkE_p (by omega), chkF (by simp; omega) (by decide)]
  obtain ⟨c1, c2⟩ := cut_filter p1 p2
  rw [List.nil_append, c1, c2]
  simp
theorem SPut_1_eq {sx : List (List TSlot)} {y x : List TSlot} (hy : RBi y) (hx : RBi x) : domain_Set_Slot_Put_1 y x sx = some (cmpB y x) := by
  unfold domain_Set_Slot_Put_1 cmpB
  rw [binding_Less_eq hy, binding_Less_eq hx, bndE_s, bndE_s]
  cases ltB y x <;> cases ltB x y <;> rfl
theorem bs_set {sx : List (List TSlot)} {w : List (List TSlot)} {x : List TSlot} (hw : SB w) (hx : RBi x) (hl : w.length ≤ 1000) :
    ∃ k : Nat, k ≤ w.length ∧ slices_BinarySearchFunc_Slot_Slot_Slot w x sx = some ((k : Int), decide (x ∈ w)) ∧ (∀ (j : Nat) y, w[j]? = some y → j < k → ltB y x = true) ∧ (∀ (j : Nat) y, w[j]? = some y → k ≤ j → ltB y x = false) := by
  have hsub : ∀ y ∈ w, domain_Set_Slot_Put_1 y x sx = some (cmpB y x) := fun y hy => SPut_1_eq (hw.2 y hy) hx
  unfold slices_BinarySearchFunc_Slot_Slot_Slot slices_BinarySearchFunc_Slot_Slot_Slot_l1
  obtain ⟨k, hk, hkr, p1, p2⟩ := bs_loop (step := fun s : Int × Int => slices_BinarySearchFunc_Slot_Slot_Slot_l1_s w x sx (w.length : Int) s.1 s.2) w.length (fun a => match w[a]? with | some y => ltB y x | none => false)
    (fun i j hij hj => by
      obtain ⟨y, hy, _⟩ := get_lt (l := w) (i := (i + j) / 2) (by omega)
      have hd : decide ((i : Int) < (j : Int)) = true := by simp; omega
      simp only [slices_BinarySearchFunc_Slot_Slot_Slot_l1_s, hd, iteE_t, slices_BinarySearchFunc_Slot_Slot_Slot_b2, midI (show i + j < 4611686018427387904 by omega), idxE_n hy, hsub y (List.mem_of_getElem? hy), bndE_s, slices_BinarySearchFunc_Slot_Slot_Slot_b3, hy, cmpB_lt]
      cases ltB y x with
      | true => simp only [iteE_t, bndE_s, if_true, succI (show (i + j) / 2 < 9223372036854775807 by omega)]
      | false => simp [iteE, bndE])
    (fun i => by simp [slices_BinarySearchFunc_Slot_Slot_Slot_l1_s, iteE])
    (fun a b hab hb h => by
      obtain ⟨y, hy, _⟩ := get_lt (l := w) (i := a) (by omega)
      obtain ⟨z, hz, _⟩ := get_lt (l := w) (i := b) hb
      simp only [hy, hz] at h ⊢
      rcases Nat.lt_or_ge a b with g | g
      · exact ltB_trans (SB_lt hw hy hz g) h
      · have : a = b := by omega
        subst this; rw [hy] at hz; cases hz; exact h)
  have q1 : ∀ (j : Nat) y, w[j]? = some y → j < k → ltB y x = true := fun j s hs hj => by
    have := p1 j hj; simp only [hs] at this; exact this
  have q2 : ∀ (j : Nat) y, w[j]? = some y → k ≤ j → ltB y x = false := fun j s hs hj => by
    have := p2 j hj (getLt hs); simp only [hs] at this; exact this
  refine ⟨k, hk, ?_, q1, q2⟩
  rw [hkr, bndE_s]
  have hmem : ∀ j : Nat, w[j]? = some x → j = k := fun j hj => by
    rcases Nat.lt_trichotomy j k with g | g | g
    · have := q1 j x hj g; rw [ltB_irr] at this; cases this
    · exact g
    · obtain ⟨y, hy, _⟩ := get_lt (l := w) (i := k) (by have := getLt hj; omega)
      have h1 := q2 k y hy (Nat.le_refl _)
      rw [SB_lt hw hy hj g] at h1; cases h1
  by_cases h : k < w.length
  · obtain ⟨y, hy, _⟩ := get_lt h
    rw [iteP, if_pos (by omega), idxE_n hy, hsub y (List.mem_of_getElem? hy), bndE_s]
    have hge := q2 k y hy (Nat.le_refl _)
    congr 2
    rw [decide_eq_decide]
    unfold cmpB
    rw [hge, if_neg (by simp)]
    constructor
    · intro hc
      rcases (Classical.em (y = x)) with e | e
      · exact e ▸ List.mem_of_getElem? hy
      · rcases ltB_tot (hw.2 y (List.mem_of_getElem? hy)) hx e with g | g
        · rw [hge] at g; cases g
        · rw [if_pos g] at hc; cases hc
    · intro hm
      obtain ⟨j, hj⟩ := List.mem_iff_getElem?.1 hm
      have := hmem j hj
      subst this
      rw [hy] at hj; cases hj
      rw [ltB_irr]; rfl
  · rw [iteP, if_neg (by omega)]
    congr 2
    symm
    rw [decide_eq_false_iff_not]
    intro hm
    obtain ⟨j, hj⟩ := List.mem_iff_getElem?.1 hm
    have := hmem j hj
    have := getLt hj
    omega
end Go.Ac
