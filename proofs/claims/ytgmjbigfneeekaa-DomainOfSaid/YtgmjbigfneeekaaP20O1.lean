/- Own work: the plain law. -/
import Derived.Test.YtgmjbigfneeekaaP20O0
set_option linter.unusedVariables false
set_option linter.unusedSimpArgs false
namespace Go.Ac
section
variable {X φ : Type}
def iterL (step : φ → X → Option (φ × Bool)) : List X → φ → Option φ
  | [], f => some f
  | h :: hs, f => match step f h with
    | some (f', true) => iterL step hs f'
    | some (f', false) => some f'
    | none => none
def itS (step : φ → X → Option (φ × Bool)) : List X → φ → Option (φ ⊕ φ)
  | [], f => some (.inl f)
  | h :: hs, f => match step f h with
    | some (f', true) => itS step hs f'
    | some (f', false) => some (.inr f')
    | none => none
def joinS (o : Option (φ ⊕ φ)) : Option φ := match o with
  | some (.inl f) => some f
  | some (.inr f) => some f
  | none => none
theorem iterL_itS (step : φ → X → Option (φ × Bool)) : ∀ (l : List X) (f : φ), iterL step l f = joinS (itS step l f)
  | [], f => rfl
  | h :: hs, f => by
    rw [iterL, itS]
    split
    · exact iterL_itS step hs _
    · rfl
    · rfl
def thenS (o : Option (φ ⊕ φ)) (k : φ → Option (φ ⊕ φ)) : Option (φ ⊕ φ) := match o with
  | some (.inl f) => k f
  | some (.inr f) => some (.inr f)
  | none => none
theorem itS_append (step : φ → X → Option (φ × Bool)) : ∀ (a b : List X) (f : φ), itS step (a ++ b) f = thenS (itS step a f) (itS step b)
  | [], b, f => rfl
  | h :: hs, b, f => by
    rw [List.cons_append, itS, itS]
    split
    · exact itS_append step hs b _
    · rfl
    · rfl
theorem iter_round {rd : φ → X → Option (φ ⊕ φ)} {step : φ → X → Option (φ × Bool)} (h : ∀ f x, rd f x = yldE (step f x) (fun f => some (.inl f)) (fun f => some (.inr f))) :
    ∀ (l : List X) (f : φ), iterL (stepOf rd) l (.inl f) = itS step l f
  | [], f => rfl
  | x :: l, f => by
    rw [iterL, itS, stepOf, h]
    cases hs : step f x with
    | none => rfl
    | some p =>
      obtain ⟨f', b⟩ := p
      cases b with
      | true => exact iter_round h l f'
      | false => rfl
end
def bsS (parts : Bool) : List (List TValue) → Int → List TSlot → List (List TSlot)
  | [], _, b => [b]
  | l :: d, v, b => (if parts = true then bsS parts d (v + 1) b else []) ++ l.flatMap fun one => bsS parts d (v + 1) (b ++ [⟨v, one⟩])
def SelfOk (self : ∀ ψ : Type, (ψ → (List TSlot) → Option (ψ × Bool)) → Int → (List (List TValue)) → (List TSlot) → Bool → ψ → Option ψ) (d : List (List TValue)) (rest : List (List TValue)) (v : Int) (parts : Bool) : Prop :=
  ∀ (b : List TSlot) (ψ : Type) (step : ψ → List TSlot → Option (ψ × Bool)) (f : ψ), (b.length : Int) ≤ v → self ψ step v d b parts f = iterL step (bsS parts rest v b) f
theorem clone_ok {b : List TSlot} (h : b.length ≤ 1000) : slices_Clone_Slot_Slot b = some b ∧ slices_Clone_Slot_Slot_v2 b = some b := by
  have : fit 0 b.length 48 := fit_small (by omega) (by decide)
  exact ⟨if_pos this, if_pos this⟩
theorem F_eq {self : ∀ ψ : Type, (ψ → (List TSlot) → Option (ψ × Bool)) → Int → (List (List TValue)) → (List TSlot) → Bool → ψ → Option ψ} {φ : Type} (step : φ → List TSlot → Option (φ × Bool)) (d : List (List TValue)) (v : Nat) (b : List TSlot) (parts : Bool) (f : φ)
    (hd : d.length ≤ 8) (hl : ∀ l ∈ d, l.length ≤ 1000000) (hv : v ≤ d.length) (hb : b.length ≤ v) (hs : v < d.length → SelfOk self d (d.drop (v + 1)) ((v : Int) + 1) parts) :
    domain_bindings_1_F self step (v : Int) d b parts f = iterL step (bsS parts (d.drop v) v b) f := by
  unfold domain_bindings_1_F
  rw [iteP]
  split
  · rename_i h
    have : v = d.length := by omega
    subst this
    rw [List.drop_length, (clone_ok (by omega)).1, bndE_s, bsS, iterL]
    cases hst : step f b with
    | none => rfl
    | some p => obtain ⟨f', c⟩ := p; cases c <;> rfl
  · rename_i h
    have hlt : v < d.length := by omega
    have hs := hs hlt
    obtain ⟨x, hx, hdx⟩ := get_lt hlt
    have e1 : intVal .add .i64 (v : Int) 1 = (v : Int) + 1 := addI (by omega) (by omega)
    rw [hdx, bsS, iterL_itS, itS_append]
    have hb1 : domain_bindings_1_b1 self step f (v : Int) d b parts parts = itS step (if parts = true then bsS parts (d.drop (v + 1)) ((v : Int) + 1) b else []) f := by
      unfold domain_bindings_1_b1
      cases parts with
      | false => rfl
      | true =>
        unfold domain_bindings
        simp only [iteE_t, bndE_s, e1, if_true]
        rw [hs b _ _ _ (by omega), iter_round (step := step) (fun f x => by
          unfold domain_bindings_1_r2_rd domain_bindings_1_b3 domain_bindings_1_b5
          rw [bndE_s]
          cases hst : step f x with
          | none => rfl
          | some p => obtain ⟨f', c⟩ := p; cases c <;> rfl)]
        cases itS step (bsS true (d.drop (v + 1)) ((v : Int) + 1) b) f with
        | none => rfl
        | some o => cases o <;> rfl
    rw [hb1]
    cases hi : itS step (if parts = true then bsS parts (d.drop (v + 1)) ((v : Int) + 1) b else []) f with
    | none => rfl
    | some o =>
      cases o with
      | inr f' => rfl
      | inl f' =>
        rw [bndE_s, sumE_l, idxE_n hx]
        have hxl := hl x (List.mem_of_getElem? hx)
        have loop : ∀ (n i : Nat) (f : φ), x.length - i = n → i ≤ x.length → domain_bindings_1_l6 self step (v : Int) d b parts x (x.length : Int) f (i : Int) =
            match itS step ((x.drop i).flatMap fun one => bsS parts (d.drop (v + 1)) ((v : Int) + 1) (b ++ [⟨(v : Int), one⟩])) f with
            | some (.inl f) => some (.inl f)
            | some (.inr f) => some (.inr f)
            | none => none := by
          intro n
          induction n with
          | zero =>
            intro i f hn hi
            have : i = x.length := by omega
            subst this
            rw [domain_bindings_1_l6_eq, List.drop_length]
            unfold domain_bindings_1_l6_s
            rw [ltI]
            rfl
          | succ n ih =>
            intro i f hn hi
            obtain ⟨y, hy, hdy⟩ := get_lt (l := x) (i := i) (by omega)
            rw [domain_bindings_1_l6_eq]
            unfold domain_bindings_1_l6_s domain_bindings
            rw [ltD hy, iteE_t, idxE_n hy, (clone_ok (by omega)).2, bndE_s, chkE_p (fit_small (by simp; omega) (by decide)), bndE_s]
            simp only [e1]
            rw [hs _ _ _ _ (by simp; omega), iter_round (step := step) (fun f x => by
              unfold domain_bindings_1_r7_rd domain_bindings_1_b8 domain_bindings_1_b10
              rw [bndE_s]
              cases hst : step f x with
              | none => rfl
              | some p => obtain ⟨f', c⟩ := p; cases c <;> rfl)]
            rw [hdy, List.flatMap_cons, itS_append]
            cases itS step (bsS parts (d.drop (v + 1)) ((v : Int) + 1) (b ++ [⟨(v : Int), y⟩])) f with
            | none => rfl
            | some o =>
              cases o with
              | inr f' => rfl
              | inl f' =>
                rw [bndE_s, sumE_l, succI (show i < 9223372036854775807 by omega)]
                exact ih (i + 1) f' (by omega) (by omega)
        have := loop _ 0 f' rfl (by omega)
        rw [List.drop_zero] at this
        rw [show (0 : Int) = ((0 : Nat) : Int) from rfl, this, thenS]
        cases itS step (x.flatMap fun one => bsS parts (d.drop (v + 1)) ((v : Int) + 1) (b ++ [⟨(v : Int), one⟩])) f' with
        | none => rfl
        | some o => cases o <;> rfl
theorem n_eq (d : List (List TValue)) (parts : Bool) (hd : d.length ≤ 8) (hl : ∀ l ∈ d, l.length ≤ 1000000) : ∀ (n v : Nat), v ≤ d.length → d.length - v < n → SelfOk (domain_bindings_1_n n) d (d.drop v) (v : Int) parts
  | 0, v, _, h => by omega
  | n + 1, v, hv, hn => fun b ψ step f hb => by
    rw [domain_bindings_1_n]
    refine F_eq step d v b parts f hd hl hv (by omega) fun hlt => ?_
    have := n_eq d parts hd hl n (v + 1) (by omega) (by omega)
    simpa using this
theorem bindings_eq {φ : Type} (step : φ → List TSlot → Option (φ × Bool)) (d : List (List TValue)) (parts : Bool) (f : φ) (hd : d.length ≤ 8) (hl : ∀ l ∈ d, l.length ≤ 1000000) :
    domain_bindings_1 step 0 d [] parts f = iterL step (bsS parts d 0 []) f := by
  have := n_eq d parts hd hl 100000 0 (by omega) (by omega) [] _ step f (by simp)
  simpa [domain_bindings_1] using this
def capS (parts : Bool) (l : List TValue) : Nat := l.length + (if parts = true then 1 else 0)
def manyS (parts : Bool) : List (List TValue) → Nat → Nat
  | [], n => n
  | l :: d, n => manyS parts d (min (n * min (capS parts l) 1000000) 1000000)
def prodS (parts : Bool) (d : List (List TValue)) : Nat := (d.map (capS parts)).foldr (· * ·) 1
theorem bsS_len (parts : Bool) : ∀ (d : List (List TValue)) (v : Int) (b : List TSlot), (bsS parts d v b).length = prodS parts d
  | [], _, _ => rfl
  | l :: d, v, b => by
    rw [bsS, List.length_append]
    have h : ∀ l : List TValue, (l.flatMap fun one => bsS parts d (v + 1) (b ++ [⟨v, one⟩])).length = l.length * prodS parts d := by
      intro l
      induction l with
      | nil => simp
      | cons x l ih => rw [List.flatMap_cons, List.length_append, ih, bsS_len parts d, List.length_cons, Nat.add_mul, Nat.one_mul, Nat.add_comm]
    rw [h]
    show _ = capS parts l * prodS parts d
    unfold capS
    cases parts with
    | true => simp only [if_true]; rw [bsS_len true d, Nat.add_mul, Nat.one_mul, Nat.add_comm]
    | false => simp
theorem many_le (parts : Bool) : ∀ (d : List (List TValue)) (n : Nat), n ≤ 1000000 → manyS parts d n ≤ 1000000
  | [], n, h => h
  | l :: d, n, h => many_le parts d _ (Nat.min_le_right _ _)
theorem many_prod (parts : Bool) : ∀ (d : List (List TValue)) (n : Nat), manyS parts d n ≤ 65536 → manyS parts d n = n * prodS parts d
  | [], n, _ => by simp [manyS, prodS]
  | l :: d, n, h => by
    rw [manyS] at h ⊢
    have ih := many_prod parts d _ h
    rw [ih] at h ⊢
    show _ = n * (capS parts l * prodS parts d)
    generalize prodS parts d = p at *
    generalize capS parts l = c at *
    by_cases h1 : n * min c 1000000 ≤ 1000000
    · rw [Nat.min_eq_left h1]
      by_cases h2 : c ≤ 1000000
      · rw [Nat.min_eq_left h2, Nat.mul_assoc]
      · have h4 : min c 1000000 = 1000000 := Nat.min_eq_right (by omega)
        rw [h4] at h1 h ⊢
        have h3 : n = 0 ∨ n = 1 := by omega
        rcases h3 with rfl | rfl
        · simp
        · have : p = 0 := by
            rcases Nat.eq_zero_or_pos p with e | e
            · exact e
            · simp only [Nat.one_mul, Nat.min_self] at h
              have := Nat.mul_le_mul_left 1000000 e; omega
          subst this; simp
    · rw [Nat.min_eq_right (by omega)] at h ⊢
      have : p = 0 := by
        rcases Nat.eq_zero_or_pos p with e | e
        · exact e
        · have := Nat.mul_le_mul_left 1000000 e; omega
      subst this; simp
theorem minE_nat (a b : Nat) : minE (a : Int) (b : Int) = ((min a b : Nat) : Int) := by
  unfold minE
  split <;> omega
theorem Many_eq (d : List (List TValue)) (parts : Bool) (hd : d.length ≤ 1000) (hl : ∀ l ∈ d, l.length ≤ 1000000) : domain_Many d parts = some ((manyS parts d 1 : Nat) : Int) := by
  unfold domain_Many
  have key : ∀ (m i n : Nat), d.length - i = m → i ≤ d.length → n ≤ 1000000 → domain_Many_l1 parts d (d.length : Int) (n : Int) (i : Int) = some ((manyS parts (d.drop i) n : Nat) : Int) := by
    intro m
    induction m with
    | zero =>
      intro i n hm hi hn
      have : i = d.length := by omega
      subst this
      rw [domain_Many_l1_eq, List.drop_length]
      unfold domain_Many_l1_s
      rw [ltI]; rfl
    | succ m ih =>
      intro i n hm hi hn
      obtain ⟨x, hx, hdx⟩ := get_lt (l := d) (i := i) (by omega)
      have hxl := hl x (List.mem_of_getElem? hx)
      rw [domain_Many_l1_eq]
      unfold domain_Many_l1_s domain_Many_b2 domain_Many_b3
      have e1 : (iteE parts (some (intVal .add .i64 (x.length : Int) 1)) (some (x.length : Int)) : Option Int) = some ((capS parts x : Nat) : Int) := by
        unfold capS
        cases parts with
        | true => rw [iteE_t, succI (show x.length < 9223372036854775807 by omega)]; rfl
        | false => rfl
      have e2 : intVal .mul .i64 (n : Int) (minE ((capS parts x : Nat) : Int) 1000000) = ((n * min (capS parts x) 1000000 : Nat) : Int) := by
        rw [show (1000000 : Int) = ((1000000 : Nat) : Int) from rfl, minE_nat]
        have h1 : n * min (capS parts x) 1000000 ≤ 1000000 * 1000000 := Nat.mul_le_mul hn (Nat.min_le_right _ _)
        have h2 : (n : Int) * ((min (capS parts x) 1000000 : Nat) : Int) = ((n * min (capS parts x) 1000000 : Nat) : Int) := by simp
        rw [mulI (by rw [h2]; omega) (by rw [h2]; omega), h2]
      rw [ltD hx, iteE_t, idxE_n hx, e1]
      simp only [bndE_s]
      rw [e2, show (1000000 : Int) = ((1000000 : Nat) : Int) from rfl, minE_nat, succI (show i < 9223372036854775807 by omega), nextE_l, hdx, manyS]
      exact ih (i + 1) _ (by omega) (by omega) (Nat.min_le_right _ _)
  have := key _ 0 1 rfl (by omega) (by omega)
  rw [List.drop_zero] at this
  rw [show (1 : Int) = ((1 : Nat) : Int) from rfl, show (0 : Int) = ((0 : Nat) : Int) from rfl, this, bndE_s]
theorem list_eq (d : List (List TValue)) (parts : Bool) (hd : d.length ≤ 8) (hl : ∀ l ∈ d, l.length ≤ 1000000) : domain_list d parts = some (if manyS parts d 1 ≤ 65536 then bsS parts d 0 [] else []) := by
  unfold domain_list
  rw [Many_eq d parts (by omega) hl, bndE_s, iteP]
  split
  · rename_i h
    rw [if_neg (by omega)]
  rename_i h
  have hm : manyS parts d 1 ≤ 65536 := by omega
  rw [if_pos hm, iteP, if_neg (by omega)]
  unfold domain_bindings slices_Collect_Slot slices_AppendSeq_Slot_Slot
  rw [bndE_s, bindings_eq _ d parts _ hd hl]
  have hlen := bsS_len parts d 0 []
  have hp := many_prod parts d 1 hm
  have key : ∀ (hs w : List (List TSlot)), w.length + hs.length ≤ 65536 → iterL (stepOf (slices_AppendSeq_Slot_Slot_r1_rd 0 d [] parts)) hs (.inl w) = some (.inl (w ++ hs)) := by
    intro hs
    induction hs with
    | nil => intro w _; simp [iterL]
    | cons h hs ih =>
      intro w hl
      rw [List.length_cons] at hl
      have e1 : stepOf (slices_AppendSeq_Slot_Slot_r1_rd 0 d [] parts) (.inl w) h = some (.inl (w ++ [h]), true) := by
        simp only [stepOf, slices_AppendSeq_Slot_Slot_r1_rd, slices_AppendSeq_Slot_Slot_b4, slices_AppendSeq_Slot_Slot_b6, bndE_s]
        rw [chkE_p (fit_small (by simp; omega) (by decide)), bndE_s]
      rw [iterL, e1]
      simp only
      rw [ih _ (by simp; omega)]
      simp
  rw [key _ _ (by simp only [List.length_nil]; omega)]
  rfl
theorem awake_eq : law20_awake = some true := by
  unfold law20_awake law20_one domain_Full domain_Parts
  simp only [bndE_s]
  have hl : ∀ l ∈ [[TValue.mk 1 5 ([] : List UInt8) false, TValue.mk 1 6 ([] : List UInt8) false], [TValue.mk 1 7 ([] : List UInt8) false]], l.length ≤ 1000000 := by
    intro l hl
    simp only [List.mem_cons, List.not_mem_nil, or_false] at hl
    rcases hl with rfl | rfl <;> decide
  rw [list_eq _ false (by decide) hl, list_eq _ true (by decide) hl, Many_eq _ true (by decide) hl]
  rfl
end Go.Ac
