/- Own work: the plain law. -/
import Derived.Test.YtpmebmbfkmgjjaaP26Bn
set_option linter.unusedVariables false
set_option linter.unusedSimpArgs false
namespace Go.Ac
theorem putB_mem {w : List (List TSlot)} {x y : List TSlot} : y ∈ putB w x ↔ y = x ∨ y ∈ w := by
  unfold putB
  split
  · rename_i h
    constructor
    · exact .inr
    · rintro (rfl | g)
      · exact h
      · exact g
  · rw [List.mem_append, List.mem_cons, List.mem_filter, List.mem_filter]
    constructor
    · rintro (h | h | h)
      · exact .inr h.1
      · exact .inl h
      · exact .inr h.1
    · rintro (h | h)
      · exact .inr (.inl h)
      · cases hl : ltB y x
        · exact .inr (.inr ⟨h, by simp [hl]⟩)
        · exact .inl ⟨h, rfl⟩
theorem SB_nil : SB [] := ⟨.nil, by simp⟩
theorem SB_ext : ∀ {a b : List (List TSlot)}, SB a → SB b → (∀ x, x ∈ a ↔ x ∈ b) → a = b
  | [], [], _, _, _ => rfl
  | [], y :: b, _, _, h => by have := (h y).2 (by simp); simp at this
  | x :: a, [], _, _, h => by have := (h x).1 (by simp); simp at this
  | x :: a, y :: b, ha, hb, h => by
    have ha1 := List.pairwise_cons.1 ha.1
    have hb1 := List.pairwise_cons.1 hb.1
    have e : x = y := by
      rcases List.mem_cons.1 ((h x).1 (by simp)) with g | g
      · exact g
      · rcases List.mem_cons.1 ((h y).2 (by simp)) with k | k
        · exact k.symm
        · have := ltB_trans (hb1.1 x g) (ha1.1 y k)
          rw [ltB_irr] at this; cases this
    subst e
    rw [SB_ext (a := a) (b := b) ⟨ha1.2, fun z hz => ha.2 z (List.mem_cons_of_mem _ hz)⟩ ⟨hb1.2, fun z hz => hb.2 z (List.mem_cons_of_mem _ hz)⟩ fun z => by
      constructor
      · intro hz
        rcases List.mem_cons.1 ((h z).1 (List.mem_cons_of_mem _ hz)) with g | g
        · subst g; have := ha1.1 z hz; rw [ltB_irr] at this; cases this
        · exact g
      · intro hz
        rcases List.mem_cons.1 ((h z).2 (List.mem_cons_of_mem _ hz)) with g | g
        · subst g; have := hb1.1 z hz; rw [ltB_irr] at this; cases this
        · exact g]
theorem SB_filter {w : List (List TSlot)} (h : SB w) (p : List TSlot → Bool) : SB (w.filter p) := ⟨h.1.filter _, fun s hs => h.2 s (List.mem_filter.1 hs).1⟩
def putsB (w us : List (List TSlot)) : List (List TSlot) := us.foldl putB w
theorem putsB_ok : ∀ {us w : List (List TSlot)}, SB w → (∀ u ∈ us, RBi u) → SB (putsB w us) ∧ (putsB w us).length ≤ w.length + us.length ∧ ∀ x, x ∈ putsB w us ↔ x ∈ w ∨ x ∈ us
  | [], w, hw, _ => ⟨hw, by simp [putsB], by simp [putsB]⟩
  | u :: us, w, hw, hu => by
    obtain ⟨a1, a2⟩ := SB_put hw (hu u (by simp))
    obtain ⟨b1, b2, b3⟩ := putsB_ok (us := us) a1 fun v hv => hu v (List.mem_cons_of_mem _ hv)
    refine ⟨b1, by rw [List.length_cons]; show (putsB (putB w u) us).length ≤ _; omega, fun x => ?_⟩
    show x ∈ putsB (putB w u) us ↔ _
    rw [b3, putB_mem, List.mem_cons]
    constructor
    · rintro ((h | h) | h)
      · exact .inr (.inl h)
      · exact .inl h
      · exact .inr (.inr h)
    · rintro (h | h | h)
      · exact .inl (.inr h)
      · exact .inl (.inl h)
      · exact .inr h
theorem SPut_eq {w : List (List TSlot)} {x : List TSlot} (hw : SB w) (hx : RBi x) (hl : w.length ≤ 900) : domain_Set_Slot_Put_v3 x w = some (!decide (x ∈ w), putB w x) := by
  unfold domain_Set_Slot_Put_v3 domain_Set_Slot_Put_v3_b1
  obtain ⟨k, hk, hb, q1, q2⟩ := bs_set (sx := w) hw hx (by omega)
  rw [hb, bndE_s]
  by_cases hm : x ∈ w
  · simp [hm, iteE, bndE, putB]
  · have hin : slices_Insert_Slot_Slot_v2 (k : Int) w [x] = some (putB w x) := by
      unfold slices_Insert_Slot_Slot_v2 insE
      rw [if_pos ⟨by omega, by omega, by simp, fit_small (by simp; omega) (by decide)⟩, Int.toNat_natCast]
      obtain ⟨c1, c2⟩ := cut_filter q1 q2
      rw [c1, c2]
      unfold putB
      rw [if_neg hm]
      simp
    simp only [hm, decide_false, Bool.not_false, iteE_t]
    rw [hin]; rfl
theorem SAll_eq {w : List (List TSlot)} (hl : w.length ≤ 100000) : domain_Set_Slot_All w = some (w, w) ∧ domain_Set_Slot_All_v3 w = some (w, w) := by
  have : fit 0 w.length 24 := fit_small (by omega) (by decide)
  unfold domain_Set_Slot_All domain_Set_Slot_All_v3 slices_Clone_Slot_Slot slices_Clone_Slot_Slot_v3 cloneE
  rw [if_pos this]
  exact ⟨rfl, rfl⟩
theorem concatL {a b : List (List TSlot)} (ha : a.length ≤ 100000) (hb : b.length ≤ 100000) : slices_Concat_Slot_Slot [a, b] = some (a ++ b) := by
  have e1 : intVal .add .i64 0 (a.length : Int) = (a.length : Int) := by rw [addI (by omega) (by omega)]; omega
  have e2 : intVal .add .i64 (a.length : Int) (b.length : Int) = ((a.length + b.length : Nat) : Int) := by rw [addI (by omega) (by omega)]; omega
  have d1 : decide ((a.length : Int) < 0) = false := decide_eq_false (by omega)
  have d2 : decide (((a.length + b.length : Nat) : Int) < 0) = false := decide_eq_false (by omega)
  have s1 : intVal .add .i64 0 1 = 1 := by rw [addI (by omega) (by omega)]; rfl
  have s2 : intVal .add .i64 1 1 = 2 := by rw [addI (by omega) (by omega)]; rfl
  have h1 : slices_Concat_Slot_Slot_l1 [a, b] [a, b] (([a, b] : List (List (List TSlot))).length : Int) 0 0 = some ((a.length + b.length : Nat) : Int) := by
    rw [slices_Concat_Slot_Slot_l1_eq]
    unfold slices_Concat_Slot_Slot_l1_s slices_Concat_Slot_Slot_b2 slices_Concat_Slot_Slot_b3
    simp only [List.length_cons, List.length_nil, idxE_0, e1, d1, iteE_f, bndE_s, s1]
    rw [show decide ((0 : Int) < ((0 + 1 + 1 : Nat) : Int)) = true from rfl, iteE_t, nextE_l]
    rw [slices_Concat_Slot_Slot_l1_eq]
    unfold slices_Concat_Slot_Slot_l1_s slices_Concat_Slot_Slot_b2 slices_Concat_Slot_Slot_b3
    simp only [idxE_1, e2, d2, iteE_f, bndE_s, s2]
    rw [show decide ((1 : Int) < ((0 + 1 + 1 : Nat) : Int)) = true from rfl, iteE_t, nextE_l]
    rw [slices_Concat_Slot_Slot_l1_eq]
    rfl
  have h2 : slices_Concat_Slot_Slot_l4 [a, b] (([a, b] : List (List (List TSlot))).length : Int) 0 [] = some (a ++ b) := by
    rw [slices_Concat_Slot_Slot_l4_eq]
    unfold slices_Concat_Slot_Slot_l4_s
    simp only [List.length_cons, List.length_nil, idxE_0, s1]
    rw [show decide ((0 : Int) < ((0 + 1 + 1 : Nat) : Int)) = true from rfl, iteE_t, chkF (by omega) (by decide), nextE_l]
    rw [slices_Concat_Slot_Slot_l4_eq]
    unfold slices_Concat_Slot_Slot_l4_s
    simp only [idxE_1, s2, List.nil_append]
    rw [show decide ((1 : Int) < ((0 + 1 + 1 : Nat) : Int)) = true from rfl, iteE_t, chkF (by omega) (by decide), nextE_l]
    rw [slices_Concat_Slot_Slot_l4_eq]
    rfl
  unfold slices_Concat_Slot_Slot slices_Grow_Slot_Slot growE
  rw [h1, bndE_s, if_pos (by omega), bndE_s, h2, bndE_s]
section
variable {X φ : Type}
def iterL (step : φ → X → Option (φ × Bool)) : List X → φ → Option φ
  | [], f => some f
  | h :: hs, f => match step f h with
    | some (f', true) => iterL step hs f'
    | some (f', false) => some f'
    | none => none
def itS (step : φ → X → Option (φ × Bool)) : List X → φ → Option (φ ⊕ φ)
  | [], f => some (.inl f)
  | h :: hs, f => match step f h with
    | some (f', true) => itS step hs f'
    | some (f', false) => some (.inr f')
    | none => none
theorem iterL_itS (step : φ → X → Option (φ × Bool)) : ∀ (l : List X) (f : φ), iterL step l f = (match itS step l f with | some (.inl f) => some f | some (.inr f) => some f | none => none)
  | [], f => rfl
  | h :: hs, f => by
    rw [iterL, itS]
    cases step f h with
    | none => rfl
    | some p =>
      obtain ⟨f', c⟩ := p
      cases c
      · rfl
      · exact iterL_itS step hs f'
end
theorem unions_eq {φ : Type} (step : φ → List TSlot → Option (φ × Bool)) {l : List (List TSlot)} {b : List TSlot} (hl : ∀ x ∈ l, BR x) (hb : BR b) (hn : l.length ≤ 1000000) (f : φ) :
    extend_unions_1 step l b f = iterL step (l.filterMap fun x => unO x b) f := by
  have loop : ∀ (n i : Nat) (f : φ), l.length - i = n → i ≤ l.length → extend_unions_1_l1 step b l (l.length : Int) f (i : Int) = itS step ((l.drop i).filterMap fun x => unO x b) f := by
    intro n
    induction n with
    | zero =>
      intro i f hn hi
      have : i = l.length := by omega
      subst this
      rw [extend_unions_1_l1_eq, List.drop_length]
      unfold extend_unions_1_l1_s
      rw [ltI]; rfl
    | succ n ih =>
      intro i f hn' hi
      obtain ⟨x, hx, hdx⟩ := get_lt (l := l) (i := i) (by omega)
      rw [extend_unions_1_l1_eq]
      unfold extend_unions_1_l1_s
      rw [ltD hx, iteE_t, idxE_n hx, binding_Union_eq (hl x (List.mem_of_getElem? hx)) hb, bndE_s, hdx, List.filterMap_cons, succI (show i < 9223372036854775807 by omega)]
      cases hu : unO x b with
      | none => exact ih (i + 1) f (by omega) (by omega)
      | some u =>
        simp only [iteE_t]
        rw [itS]
        cases step f u with
        | none => rfl
        | some p =>
          obtain ⟨f', c⟩ := p
          cases c
          · rfl
          · exact ih (i + 1) f' (by omega) (by omega)
  unfold extend_unions_1
  have := loop _ 0 f rfl (by omega)
  rw [List.drop_zero] at this
  rw [show (0 : Int) = ((0 : Nat) : Int) from rfl, this, iterL_itS]
  cases itS step (l.filterMap fun x => unO x b) f with
  | none => rfl
  | some o => cases o <;> rfl
theorem iter_put {τ : Type} {rd : List (List TSlot) → List TSlot → Option (List (List TSlot) ⊕ τ)} (h : ∀ w x, SB w → RBi x → w.length ≤ 900 → rd w x = some (.inl (putB w x))) :
    ∀ (us w : List (List TSlot)), SB w → (∀ u ∈ us, RBi u) → w.length + us.length ≤ 900 → iterL (stepOf rd) us (.inl w) = some (.inl (putsB w us))
  | [], w, _, _, _ => rfl
  | u :: us, w, hw, hu, hl => by
    rw [List.length_cons] at hl
    obtain ⟨a1, a2⟩ := SB_put hw (hu u (by simp))
    rw [iterL, stepOf, h w u hw (hu u (by simp)) (by omega)]
    exact iter_put h us (putB w u) a1 (fun v hv => hu v (List.mem_cons_of_mem _ hv)) (by omega)
theorem unO_some {x b u : List TSlot} (hx : BR x) (hb : BR b) (h : unO x b = some u) : BR u ∧ fitsS x b = true ∧ unionS x b = u := by
  unfold unO at h
  split at h
  · rename_i hf; cases h; exact ⟨union_BR hx hb hf, hf, rfl⟩
  · cases h
theorem ups_ok {l : List (List TSlot)} {b : List TSlot} (hl : ∀ x ∈ l, BR x) (hb : BR b) : ∀ u ∈ l.filterMap (fun x => unO x b), BR u := fun u hu => by
  obtain ⟨x, hx, e⟩ := List.mem_filterMap.1 hu
  exact (unO_some (hl x hx) hb e).1
theorem ups_len {l : List (List TSlot)} {b : List TSlot} : (l.filterMap (fun x => unO x b)).length ≤ l.length := List.length_filterMap_le _ _
def growB (old s : List (List TSlot)) (b : List TSlot) : List (List TSlot) := putsB s ((old ++ s).filterMap fun x => unO x b)
def growS (old s bs : List (List TSlot)) : List (List TSlot) := bs.foldl (growB old) s
theorem growB_ok {old s : List (List TSlot)} {b : List TSlot} (ho : ∀ x ∈ old, BR x) (hs : SB s) (hr : ∀ x ∈ s, BR x) (hb : BR b) : SB (growB old s b) ∧ (∀ x ∈ growB old s b, BR x) ∧ (growB old s b).length ≤ s.length + (old.length + s.length) ∧
    ∀ u, u ∈ growB old s b ↔ u ∈ s ∨ ∃ y, (y ∈ old ∨ y ∈ s) ∧ fitsS y b = true ∧ unionS y b = u := by
  have hall : ∀ x ∈ old ++ s, BR x := fun x hx => by
    rcases List.mem_append.1 hx with h | h
    · exact ho x h
    · exact hr x h
  obtain ⟨a1, a2, a3⟩ := putsB_ok (us := (old ++ s).filterMap fun x => unO x b) hs (fun u hu => (ups_ok hall hb u hu).i)
  have hl := ups_len (l := old ++ s) (b := b)
  rw [List.length_append] at hl
  refine ⟨a1, fun x hx => ?_, by unfold growB; omega, fun u => ?_⟩
  · rcases (a3 x).1 hx with h | h
    · exact hr x h
    · exact ups_ok hall hb x h
  · unfold growB
    rw [a3, List.mem_filterMap]
    constructor
    · rintro (h | ⟨y, hy, e⟩)
      · exact .inl h
      · obtain ⟨_, e1, e2⟩ := unO_some (hall y hy) hb e
        exact .inr ⟨y, List.mem_append.1 hy, e1, e2⟩
    · rintro (h | ⟨y, hy, e1, e2⟩)
      · exact .inl h
      · exact .inr ⟨y, List.mem_append.2 hy, by unfold unO; rw [if_pos e1, e2]⟩
theorem growS_ok {old : List (List TSlot)} (ho : ∀ x ∈ old, BR x) : ∀ {bs s : List (List TSlot)}, (∀ b ∈ bs, BR b) → SB s → (∀ x ∈ s, BR x) → SB (growS old s bs) ∧ (∀ x ∈ growS old s bs, BR x) ∧ (growS old s bs).length + old.length ≤ (s.length + old.length) * 2 ^ bs.length
  | [], s, _, hs, hr => ⟨hs, hr, by simp [growS]⟩
  | b :: bs, s, hb, hs, hr => by
    obtain ⟨a1, a2, a3, _⟩ := growB_ok ho hs hr (hb b (by simp))
    obtain ⟨b1, b2, b3⟩ := growS_ok (bs := bs) ho (fun c hc => hb c (List.mem_cons_of_mem _ hc)) a1 a2
    refine ⟨b1, b2, Nat.le_trans b3 ?_⟩
    rw [List.length_cons, Nat.pow_succ, Nat.mul_comm (2 ^ bs.length), ← Nat.mul_assoc]
    exact Nat.mul_le_mul_right _ (by omega)
def Made (old P : List (List TSlot)) (u : List TSlot) : Prop := ∃ x ∈ old, ∃ T : List (List TSlot), T ≠ [] ∧ (∀ b ∈ T, b ∈ P) ∧ Un u (x :: T)
theorem made_step {old P s : List (List TSlot)} {b : List TSlot} (ho : ∀ x ∈ old, BR x) (hP : ∀ x ∈ P, BR x) (hs : SB s) (hr : ∀ x ∈ s, BR x) (hb : BR b) (h : ∀ u, u ∈ s ↔ Made old P u) (u : List TSlot) : u ∈ growB old s b ↔ Made old (P ++ [b]) u := by
  rw [(growB_ok ho hs hr hb).2.2.2]
  constructor
  · rintro (g | ⟨y, hy, e1, rfl⟩)
    · obtain ⟨x, hx, T, hT, hTP, hU⟩ := (h u).1 g
      exact ⟨x, hx, T, hT, fun c hc => List.mem_append_left _ (hTP c hc), hU⟩
    · rcases hy with hy | hy
      · exact ⟨y, hy, [b], by simp, by simp, Un_step (Un_one (ho y hy)) hb e1⟩
      · obtain ⟨x, hx, T, hT, hTP, hU⟩ := (h y).1 hy
        refine ⟨x, hx, T ++ [b], by simp, fun c hc => ?_, Un_step hU hb e1⟩
        rcases List.mem_append.1 hc with g | g
        · exact List.mem_append_left _ (hTP c g)
        · exact List.mem_append_right _ g
  · rintro ⟨x, hx, T, hT, hTP, hU⟩
    by_cases hbT : b ∈ T
    · right
      have hc : ∀ c, c ∈ x :: T ↔ c ∈ (x :: T.filter fun c => !decide (c = b)) ++ [b] := fun c => by
        simp only [List.mem_cons, List.cons_append, List.mem_append, List.mem_filter, List.not_mem_nil, or_false]
        by_cases e : c = b
        · subst e; simp [hbT]
        · simp [e]
      obtain ⟨y, hy, e1, e2⟩ := Un_split ((Un_congr hc).1 hU) hb
      refine ⟨y, ?_, e1, e2⟩
      by_cases hn : (T.filter fun c => !decide (c = b)) = []
      · rw [hn] at hy
        exact .inl (Un_uniq hy (Un_one (ho x hx)) ▸ hx)
      · refine .inr ((h y).2 ⟨x, hx, _, hn, fun c hc => ?_, hy⟩)
        obtain ⟨c1, c2⟩ := List.mem_filter.1 hc
        rcases List.mem_append.1 (hTP c c1) with g | g
        · exact g
        · rw [List.mem_singleton] at g; subst g; simp at c2
    · refine .inl ((h u).2 ⟨x, hx, T, hT, fun c hc => ?_, hU⟩)
      rcases List.mem_append.1 (hTP c hc) with g | g
      · exact g
      · rw [List.mem_singleton] at g; subst g; exact absurd hc hbT
theorem growS_mem {old : List (List TSlot)} (ho : ∀ x ∈ old, BR x) : ∀ {bs P s : List (List TSlot)}, (∀ b ∈ bs, BR b) → (∀ x ∈ P, BR x) → SB s → (∀ x ∈ s, BR x) → (∀ u, u ∈ s ↔ Made old P u) → ∀ u, u ∈ growS old s bs ↔ Made old (P ++ bs) u
  | [], P, s, _, _, _, _, h, u => by simpa [growS] using h u
  | b :: bs, P, s, hb, hP, hs, hr, h, u => by
    obtain ⟨a1, a2, _, _⟩ := growB_ok ho hs hr (hb b (by simp))
    have := growS_mem (bs := bs) (P := P ++ [b]) (s := growB old s b) ho (fun c hc => hb c (List.mem_cons_of_mem _ hc)) (fun x hx => by
      rcases List.mem_append.1 hx with g | g
      · exact hP x g
      · rw [List.mem_singleton] at g; subst g; exact hb x (by simp)) a1 a2 (fun u => made_step ho hP hs hr (hb b (by simp)) h u) u
    rw [List.append_assoc, List.singleton_append] at this
    exact this
theorem made_nil (old : List (List TSlot)) (u : List TSlot) : ¬ Made old [] u := by
  rintro ⟨x, _, T, hT, hP, _⟩
  cases T with
  | nil => exact hT rfl
  | cons b T => have := hP b (by simp); simp at this
theorem made_congr {old old' P P' : List (List TSlot)} (h1 : ∀ x, x ∈ old ↔ x ∈ old') (h2 : ∀ x, x ∈ P ↔ x ∈ P') (u : List TSlot) : Made old P u ↔ Made old' P' u := by
  unfold Made; simp only [h1, h2]
theorem contains_eq {l : List (List TSlot)} {b : List TSlot} (hl : l.length ≤ 100000) (hx : ∀ x ∈ l, x.length ≤ 1000) : slices_ContainsFunc_Slot_Slot l b = some (decide (b ∈ l)) := by
  have hs : ∀ x ∈ l, extend_Grow_1_1 x b = some (decide (x = b)) := fun x hx' => by
    have hxl := hx x hx'
    unfold extend_Grow_1_1 binding_Same slices_Equal_Slot_Slot
    rw [iteE_if, len_dec]
    by_cases e : x.length = b.length
    · rw [if_neg (by simp [e])]
      unfold slices_Equal_Slot_Slot_l1
      rw [loop_same x b (.inl () : Unit ⊕ Unit) (.inr ()) e
        (fun i y z hy hz => by
          simp only [slices_Equal_Slot_Slot_l1_s, ltD hy, iteE_t, idxE_n hy, idxE_n hz, TSlot.eqb_dec, succW hy (show x.length ≤ 9223372036854775807 by omega)]
          by_cases g : y = z <;> simp [g, iteE])
        (by simp only [slices_Equal_Slot_Slot_l1_s, ltI, iteE_f]), bndE_s]
      by_cases g : x = b <;> simp [g, sumE, bndE]
    · have : ¬ x = b := fun g => e (by rw [g])
      simp [e, this, bndE]
  unfold slices_ContainsFunc_Slot_Slot slices_IndexFunc_Slot_Slot_v2 slices_IndexFunc_Slot_Slot_v2_l1
  rw [loop_index l (fun x => decide (x = b))
    (fun i x hx' => by
      simp only [slices_IndexFunc_Slot_Slot_v2_l1_s, ltD hx', iteE_t, idxE_n hx', hs x (List.mem_of_getElem? hx'), bndE_s, succW hx' (show l.length ≤ 9223372036854775807 by omega)]
      cases decide (x = b) <;> rfl)
    (by simp only [slices_IndexFunc_Slot_Slot_v2_l1_s, ltI, iteE_f]), bndE_s]
  by_cases h : b ∈ l
  · rw [if_pos (by simp [h])]
    simp [sumE, bndE, h]
  · rw [if_neg (by simp only [List.any_eq_true, decide_eq_true_eq]; rintro ⟨x, hx', e⟩; exact h (e ▸ hx'))]
    simp [sumE, bndE, h]
theorem del_loop {p : List TSlot → Bool} {w0 l : List (List TSlot)} (hw : w0.length ≤ 100000) (hp : ∀ x ∈ w0, extend_Grow_1 x l = some (p x)) {i : Nat} (hi : i < w0.length) (h1 : ∀ x ∈ w0.take i, p x = false) (h2 : ∀ x, w0[i]? = some x → p x = true) :
    ∃ (k : Nat) (w : List (List TSlot)), slices_DeleteFunc_Slot_Slot_l1 l (i : Int) ((i + 1 : Nat) : Int) w0 = some ((k : Int), w) ∧ k ≤ w.length ∧ w.take k = w0.filter fun x => !p x := by
  unfold slices_DeleteFunc_Slot_Slot_l1
  obtain ⟨t, ht, k, w, rfl, q1, q2⟩ := loopE_ex (step := fun s : Int × Int × List (List TSlot) => slices_DeleteFunc_Slot_Slot_l1_s l s.1 s.2.1 s.2.2)
    (fun s => ∃ k j : Nat, s.1 = (k : Int) ∧ s.2.1 = (j : Int) ∧ k < j ∧ j ≤ w0.length ∧ s.2.2.length = w0.length ∧ s.2.2.take k = (w0.take j).filter (fun x => !p x) ∧ s.2.2.drop j = w0.drop j) (fun s => (w0.length - s.2.1).toNat)
    (fun t => ∃ (k : Nat) (w : List (List TSlot)), t = ((k : Int), w) ∧ k ≤ w.length ∧ w.take k = w0.filter fun x => !p x)
    (by
      rintro ⟨s1, s2, w⟩ ⟨k, j, e1, e2, hkj, hj, hlw, hk, hd⟩
      simp only at e1 e2 hlw hk hd
      subst e1; subst e2
      simp only
      by_cases he : j = w0.length
      · subst he
        refine .inl ⟨((k : Int), w), ?_, k, w, rfl, by omega, ?_⟩
        · unfold slices_DeleteFunc_Slot_Slot_l1_s
          rw [hlw, ltI]; rfl
        · rw [hk, List.take_length]
      · obtain ⟨x, hx, hdx⟩ := get_lt (l := w0) (i := j) (by omega)
        have hwx : w[j]? = some x := by
          have := congrArg (·[0]?) hd
          simpa [hx] using this
        have hpx := hp x (List.mem_of_getElem? hx)
        have hd1 : w.drop (j + 1) = w0.drop (j + 1) := by
          have := congrArg (List.drop 1) hd
          rwa [List.drop_drop, List.drop_drop] at this
        have hdd : ∀ (y : List TSlot), (w.set k y).drop (j + 1) = w0.drop (j + 1) := fun y => by
          rw [List.drop_set_of_lt (by omega)]; exact hd1
        have htk : (w0.take (j + 1)).filter (fun x => !p x) = (w0.take j).filter (fun x => !p x) ++ (if p x = true then [] else [x]) := by
          rw [List.take_add_one, hx, List.filter_append]
          cases h : p x <;> simp [h]
        right
        unfold slices_DeleteFunc_Slot_Slot_l1_s slices_DeleteFunc_Slot_Slot_b2 slices_DeleteFunc_Slot_Slot_b3
        simp only [ltD hwx, iteE_t, idxE_n hwx, hpx, bndE_s]
        rw [chkE_p (by omega)]
        cases h : p x with
        | true =>
          refine ⟨((k : Int), ((j + 1 : Nat) : Int), w), by simp only [Bool.not_true, iteE_f, bndE_s, succI (show j < 9223372036854775807 by omega)], ⟨k, j + 1, rfl, rfl, by omega, by omega, hlw, ?_, hd1⟩, by simp only; omega⟩
          simp only; rw [hk, htk, h]; simp
        | false =>
          refine ⟨(((k + 1 : Nat) : Int), ((j + 1 : Nat) : Int), w.set k x), ?_, ⟨k + 1, j + 1, rfl, rfl, by omega, by omega, by simp [hlw], ?_, hdd x⟩, by simp only; omega⟩
          · simp only [Bool.not_false, iteE_t]
            rw [chkE_p (by omega), chkE_p (by omega)]
            simp only [bndE_s, succI (show j < 9223372036854775807 by omega), succI (show k < 9223372036854775807 by omega), Int.toNat_natCast]
          · simp only
            rw [htk, h, ← hk, List.take_add_one, List.getElem?_set_self (by omega), List.take_set_of_le (by omega)]
            simp)
    ((i : Int), ((i + 1 : Nat) : Int), w0) ⟨i, i + 1, rfl, rfl, by omega, by omega, rfl, by
      obtain ⟨x, hx, _⟩ := get_lt hi
      simp only
      rw [List.take_add_one, hx, List.filter_append, List.filter_eq_self.2 (fun y hy => by rw [h1 y hy]; rfl)]
      simp [h2 x hx], rfl⟩
  exact ⟨k, w, ht, q1, q2⟩
theorem delete_eq {l w : List (List TSlot)} (hl : l.length ≤ 100000) (hx : ∀ x ∈ l, x.length ≤ 1000) (hw : w.length ≤ 100000) : slices_DeleteFunc_Slot_Slot l w = some (w.filter fun x => !decide (x ∈ l)) := by
  have hp : ∀ x, extend_Grow_1 x l = some (decide (x ∈ l)) := fun x => by
    unfold extend_Grow_1
    rw [contains_eq hl hx]; rfl
  unfold slices_DeleteFunc_Slot_Slot slices_IndexFunc_Slot_Slot slices_IndexFunc_Slot_Slot_l1
  rw [loop_index w (fun x => decide (x ∈ l))
    (fun i x hx' => by
      simp only [slices_IndexFunc_Slot_Slot_l1_s, ltD hx', iteE_t, idxE_n hx', hp x, bndE_s, succW hx' (show w.length ≤ 9223372036854775807 by omega)]
      cases decide (x ∈ l) <;> rfl)
    (by simp only [slices_IndexFunc_Slot_Slot_l1_s, ltI, iteE_f]), bndE_s]
  by_cases h : (w.any fun x => decide (x ∈ l)) = true
  · rw [if_pos h, sumE_r, bndE_s]
    have hlt : w.findIdx (fun x => decide (x ∈ l)) < w.length := List.findIdx_lt_length.2 (by simpa [List.any_eq_true] using h)
    obtain ⟨k, w', e, q1, q2⟩ := del_loop hw (fun x _ => hp x) hlt
      (fun x hx' => by
        obtain ⟨j, hj, rfl⟩ := List.mem_iff_getElem.1 hx'
        rw [List.length_take] at hj
        rw [List.getElem_take]
        have := List.not_of_lt_findIdx (p := fun x => decide (x ∈ l)) (xs := w) (i := j) (by omega)
        simpa using this)
      (fun x hx' => by
        have := List.findIdx_getElem (w := hlt)
        obtain ⟨_, rfl⟩ := List.getElem?_eq_some_iff.1 hx'
        exact this)
    rw [decide_eq_false (by omega), iteE_f, succI (by omega), e, bndE_s]
    simp only
    have hlen : (w'.take k ++ List.replicate (w'.length - k) ([] : List TSlot)).length = w'.length := by simp; omega
    rw [chkE_p (by omega), Int.toNat_natCast, hlen, chkE_p (by omega), List.take_append_of_le_length (by simp; omega), List.take_take, Nat.min_self, q2]
  · rw [if_neg h, sumE_l, bndE_s]
    simp only [decide_true, iteE_t]
    congr 1
    symm
    rw [List.filter_eq_self]
    intro x hx'
    rw [List.any_eq_true] at h
    by_cases g : x ∈ l
    · exact absurd ⟨x, hx', by simp [g]⟩ h
    · simp [g]
def growV (l m : List (List TSlot)) : List (List TSlot) := (growS (putsB [] l) [] (putsB [] m)).filter fun x => !decide (x ∈ l)
theorem extend_Grow_eq {l : List (List TSlot)} {hs : List THit} (hl : ∀ x ∈ l, BR x) (hh : ∀ h ∈ hs, BR h.bind) (hn : hs.length ≤ 5) (hsz : (putsB [] l).length * 2 ^ hs.length ≤ 900) (hll : l.length ≤ 900) :
    extend_Grow l hs = some (growV l (hs.map (·.bind))) ∧ SB (growV l (hs.map (·.bind))) ∧ (∀ u ∈ growV l (hs.map (·.bind)), BR u) ∧ (∀ u, u ∈ growV l (hs.map (·.bind)) ↔ u ∉ l ∧ Made l (hs.map (·.bind)) u) ∧ (growV l (hs.map (·.bind))).length + (putsB [] l).length ≤ (putsB [] l).length * 2 ^ hs.length := by
  unfold growV
  obtain ⟨o1, o2, o3⟩ := putsB_ok (us := l) SB_nil (fun u hu => (hl u hu).i)
  have o4 : ∀ x ∈ putsB [] l, BR x := fun x hx => by
    rcases (o3 x).1 hx with h | h
    · simp at h
    · exact hl x h
  obtain ⟨m1, m2, m3⟩ := match_Binds_eq (l := hs) (by omega) (fun h hh' => (hh h hh').i)
  have e0 : ∀ (hs : List THit) (w : List (List TSlot)), hs.foldl (fun w h => putB w h.bind) w = putsB w (hs.map (·.bind)) := by
    intro hs
    induction hs with
    | nil => intro w; rfl
    | cons h hs ih => intro w; exact ih _
  rw [e0] at m1 m2 m3
  obtain ⟨p1, p2, p3⟩ := putsB_ok (us := hs.map (·.bind)) SB_nil (fun u hu => by
    obtain ⟨h, hh', rfl⟩ := List.mem_map.1 hu
    exact (hh h hh').i)
  rw [List.length_map, List.length_nil] at p2
  have p4 : ∀ x ∈ putsB [] (hs.map (·.bind)), BR x := fun x hx => by
    rcases (p3 x).1 hx with h | h
    · simp at h
    · obtain ⟨g, hg, rfl⟩ := List.mem_map.1 h
      exact hh g hg
  unfold extend_Grow domain_NewSet_Slot_v2
  simp only [bndE_s]
  generalize hold : putsB [] l = old at *
  generalize hbs : putsB [] (hs.map (·.bind)) = bs at *
  have hpow : ∀ a b : Nat, a ≤ b → 2 ^ a ≤ 2 ^ b := fun a b h => Nat.pow_le_pow_right (by decide) h
  have hsz' : old.length * 2 ^ bs.length ≤ 900 := Nat.le_trans (Nat.mul_le_mul_left _ (hpow _ _ (by omega))) hsz
  have l1 : extend_Grow_l1 hs l l (l.length : Int) 0 [] = some old := by
    unfold extend_Grow_l1
    rw [loop_fold (step := fun s : Int × List (List TSlot) => extend_Grow_l1_s hs l l (l.length : Int) s.1 s.2) l putB (fun w => w) (fun i w => SB w ∧ w.length ≤ i)
      (fun i x w hx hI => by
        have hi := getLt hx
        have hxR := (hl x (List.mem_of_getElem? hx)).i
        obtain ⟨s1, s2⟩ := SB_put hI.1 hxR
        refine ⟨?_, s1, by omega⟩
        simp only [extend_Grow_l1_s, ltD hx, iteE_t, idxE_n hx]
        rw [SPut_eq hI.1 hxR (by omega), bndE_s, succW hx (show l.length ≤ 9223372036854775807 by omega)])
      (fun w _ => by simp only [extend_Grow_l1_s, ltI, iteE_f]) [] ⟨SB_nil, by simp⟩]
    rw [← hold]; rfl
  rw [l1, bndE_s, m1, bndE_s]
  have l2 : extend_Grow_l2 l bs (bs.length : Int) 0 old [] = some (growS old [] bs) := by
    unfold extend_Grow_l2
    have key := loop_list (step := fun s : Int × List (List TSlot) × List (List TSlot) => extend_Grow_l2_s l bs (bs.length : Int) s.1 s.2.1 s.2.2) bs (fun i (w : List (List TSlot)) => ((i : Int), old, w))
      (fun _ w b => .inl (growB old w b)) (fun w => w) (fun i w => SB w ∧ (∀ x ∈ w, BR x) ∧ w.length + old.length ≤ old.length * 2 ^ i)
      (fun i b w hb hI => by
        obtain ⟨i1, i2, i3⟩ := hI
        have hbR := p4 b (List.mem_of_getElem? hb)
        have hib := getLt hb
        obtain ⟨g1, g2, g3, _⟩ := growB_ok o4 i1 i2 hbR
        have hp1 : old.length * 2 ^ (i + 1) ≤ 900 := Nat.le_trans (Nat.mul_le_mul_left _ (hpow _ _ (by omega))) hsz'
        have hp2 : old.length * 2 ^ (i + 1) = 2 * (old.length * 2 ^ i) := by rw [Nat.pow_succ, Nat.mul_comm (2 ^ i), ← Nat.mul_assoc, Nat.mul_comm old.length 2, Nat.mul_assoc]
        refine ⟨?_, fun w' hw => ?_⟩
        · have hall : ∀ x ∈ old ++ w, BR x := fun x hx => by
            rcases List.mem_append.1 hx with h | h
            · exact o4 x h
            · exact i2 x h
          have hu := ups_len (l := old ++ w) (b := b)
          rw [List.length_append] at hu
          simp only [extend_Grow_l2_s, ltD hb, iteE_t, idxE_n hb]
          rw [(SAll_eq (w := old) (by omega)).1, bndE_s, (SAll_eq (w := w) (by omega)).1, bndE_s]
          simp only
          rw [concatL (by omega) (by omega), bndE_s]
          unfold extend_unions
          rw [bndE_s]
          simp only
          rw [unions_eq _ hall hbR (by rw [List.length_append]; omega), iter_put (rd := extend_Grow_r9_rd l bs (bs.length : Int) (i : Int) (old ++ w) b old) (fun w x hw hx hwl => by
            unfold extend_Grow_r9_rd extend_Grow_b10 extend_Grow_b12
            rw [bndE_s, SPut_eq hw hx hwl]; rfl) _ w i1 (fun u hu => (ups_ok hall hbR u hu).i) (by omega)]
          rw [bndE_s, sumE_l, succW hb (show bs.length ≤ 9223372036854775807 by omega)]
          rfl
        · cases hw
          exact ⟨g1, g2, by omega⟩)
      (fun w _ => by simp only [extend_Grow_l2_s, ltI, iteE_f]) (bs.length + 1) 0 [] (by omega) (by omega) ⟨SB_nil, by simp, by simp⟩
    rw [show ((0 : Int), old, ([] : List (List TSlot))) = (((0 : Nat) : Int), old, []) from rfl, key, List.drop_zero]
    congr 1
    clear key hsz' m1 m2 m3 p1 p2 p3 p4 hbs
    generalize ([] : List (List TSlot)) = s
    generalize 0 = i
    revert s i
    induction bs with
    | nil => intro s i; rfl
    | cons b bs ih => intro s i; rw [runL]; exact ih _ _
  rw [l2, bndE_s]
  obtain ⟨g1, g2, g3⟩ := growS_ok (bs := bs) (s := []) o4 p4 SB_nil (by simp)
  have g4 := growS_mem (bs := bs) (P := []) (s := []) o4 p4 (by simp) SB_nil (by simp) (fun u => by simp [made_nil])
  rw [List.nil_append] at g4
  rw [List.length_nil, Nat.zero_add] at g3
  rw [(SAll_eq (by omega)).2, bndE_s, delete_eq (by omega) (fun x hx => by have := BR_len (hl x hx); omega) (by simp only; omega), bndE_s]
  refine ⟨rfl, SB_filter g1 _, fun u hu => g2 u (List.mem_filter.1 hu).1, fun u => ?_, ?_⟩
  · rw [List.mem_filter, g4, made_congr (old' := l) (P' := hs.map (·.bind)) (fun x => by rw [o3]; simp) (fun x => by rw [p3]; simp)]
    simp [and_comm]
  · have := List.length_filter_le (fun x => !decide (x ∈ l)) (growS old [] bs)
    have h2 := Nat.mul_le_mul_left old.length (hpow bs.length hs.length (by omega))
    omega
end Go.Ac
