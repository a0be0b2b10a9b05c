/-
  Part of a proof: the plain law, lists and numbers alone.
-/
import Derived.Test.YtgmjbigfneeekaaSh20b
import Derived.Test.YtgmjbigfneeekaaPL
set_option linter.unusedVariables false
set_option linter.unusedSimpArgs false
namespace Go.Ac
section
variable {X φ : Type}
def iterL (step : φ → X → Option (φ × Bool)) : List X → φ → Option φ
  | [], f => some f
  | h :: hs, f => match step f h with
    | some (f', true) => iterL step hs f'
    | some (f', false) => some f'
    | none => none
/-- the same, and whether it was ended -/
def itS (step : φ → X → Option (φ × Bool)) : List X → φ → Option (φ ⊕ φ)
  | [], f => some (.inl f)
  | h :: hs, f => match step f h with
    | some (f', true) => itS step hs f'
    | some (f', false) => some (.inr f')
    | none => none
def joinS (o : Option (φ ⊕ φ)) : Option φ := match o with
  | some (.inl f) => some f
  | some (.inr f) => some f
  | none => none
theorem iterL_itS (step : φ → X → Option (φ × Bool)) : ∀ (l : List X) (f : φ), iterL step l f = joinS (itS step l f)
  | [], f => rfl
  | h :: hs, f => by
    rw [iterL, itS]
    split
    · exact iterL_itS step hs _
    · rfl
    · rfl
def thenS (o : Option (φ ⊕ φ)) (k : φ → Option (φ ⊕ φ)) : Option (φ ⊕ φ) := match o with
  | some (.inl f) => k f
  | some (.inr f) => some (.inr f)
  | none => none
theorem itS_append (step : φ → X → Option (φ × Bool)) : ∀ (a b : List X) (f : φ), itS step (a ++ b) f = thenS (itS step a f) (itS step b)
  | [], b, f => rfl
  | h :: hs, b, f => by
    rw [List.cons_append, itS, itS]
    split
    · exact itS_append step hs b _
    · rfl
    · rfl
theorem iter_round {rd : φ → X → Option (φ ⊕ φ)} {step : φ → X → Option (φ × Bool)} (h : ∀ f x, rd f x = yldE (step f x) (fun f => some (.inl f)) (fun f => some (.inr f))) :
    ∀ (l : List X) (f : φ), iterL (stepOf rd) l (.inl f) = itS step l f
  | [], f => rfl
  | x :: l, f => by
    rw [iterL, itS, stepOf, h]
    cases hs : step f x with
    | none => rfl
    | some p =>
      obtain ⟨f', b⟩ := p
      cases b with
      | true => exact iter_round h l f'
      | false => rfl
end
/-- all bindings of the variables from one on -/
def bsS (parts : Bool) : List (List TValue) → Int → List TSlot → List (List TSlot)
  | [], _, b => [b]
  | l :: d, v, b => (if parts = true then bsS parts d (v + 1) b else []) ++ l.flatMap fun one => bsS parts d (v + 1) (b ++ [⟨v, one⟩])
def SelfOk (self : ∀ ψ : Type, (ψ → (List TSlot) → Option (ψ × Bool)) → Int → (List (List TValue)) → (List TSlot) → Bool → ψ → Option ψ) (d : List (List TValue)) (rest : List (List TValue)) (v : Int) (parts : Bool) : Prop :=
  ∀ (b : List TSlot) (ψ : Type) (step : ψ → List TSlot → Option (ψ × Bool)) (f : ψ), (b.length : Int) ≤ v → self ψ step v d b parts f = iterL step (bsS parts rest v b) f
theorem clone_ok {b : List TSlot} (h : b.length ≤ 1000) : slices_Clone_Slot_Slot b = some b ∧ slices_Clone_Slot_Slot_v2 b = some b := by
  have : fit 0 b.length 48 := fit_small (by omega) (by decide)
  exact ⟨if_pos this, if_pos this⟩
theorem F_eq {self : ∀ ψ : Type, (ψ → (List TSlot) → Option (ψ × Bool)) → Int → (List (List TValue)) → (List TSlot) → Bool → ψ → Option ψ} {φ : Type} (step : φ → List TSlot → Option (φ × Bool)) (d : List (List TValue)) (v : Nat) (b : List TSlot) (parts : Bool) (f : φ)
    (hd : d.length ≤ 8) (hl : ∀ l ∈ d, l.length ≤ 1000000) (hv : v ≤ d.length) (hb : b.length ≤ v) (hs : v < d.length → SelfOk self d (d.drop (v + 1)) ((v : Int) + 1) parts) :
    domain_bindings_1_v2_F self step (v : Int) d b parts f = iterL step (bsS parts (d.drop v) v b) f := by
  unfold domain_bindings_1_v2_F
  rw [iteP]
  split
  · rename_i h
    have : v = d.length := by omega
    subst this
    rw [List.drop_length, (clone_ok (by omega)).1, bndE_s, bsS, iterL]
    cases hst : step f b with
    | none => rfl
    | some p => obtain ⟨f', c⟩ := p; cases c <;> rfl
  · rename_i h
    have hlt : v < d.length := by omega
    have hs := hs hlt
    obtain ⟨x, hx, hdx⟩ := get_lt hlt
    have e1 : intVal .add .i64 (v : Int) 1 = (v : Int) + 1 := addI (by omega) (by omega)
    rw [hdx, bsS, iterL_itS, itS_append]
    have hb1 : domain_bindings_1_v2_b1 self step f (v : Int) d b parts parts = itS step (if parts = true then bsS parts (d.drop (v + 1)) ((v : Int) + 1) b else []) f := by
      unfold domain_bindings_1_v2_b1
      cases parts with
      | false => rfl
      | true =>
        unfold domain_bindings_v2
        simp only [iteE_t, bndE_s, e1, if_true]
        rw [hs b _ _ _ (by omega), iter_round (step := step) (fun f x => by
          unfold domain_bindings_1_v2_r2_rd domain_bindings_1_v2_b3 domain_bindings_1_v2_b5
          rw [bndE_s]
          cases hst : step f x with
          | none => rfl
          | some p => obtain ⟨f', c⟩ := p; cases c <;> rfl)]
        cases itS step (bsS true (d.drop (v + 1)) ((v : Int) + 1) b) f with
        | none => rfl
        | some o => cases o <;> rfl
    rw [hb1]
    cases hi : itS step (if parts = true then bsS parts (d.drop (v + 1)) ((v : Int) + 1) b else []) f with
    | none => rfl
    | some o =>
      cases o with
      | inr f' => rfl
      | inl f' =>
        rw [bndE_s, sumE_l, idxE_n hx]
        have hxl := hl x (List.mem_of_getElem? hx)
        have loop : ∀ (n i : Nat) (f : φ), x.length - i = n → i ≤ x.length → domain_bindings_1_v2_l6 self step (v : Int) d b parts x (x.length : Int) f (i : Int) =
            match itS step ((x.drop i).flatMap fun one => bsS parts (d.drop (v + 1)) ((v : Int) + 1) (b ++ [⟨(v : Int), one⟩])) f with
            | some (.inl f) => some (.inl f)
            | some (.inr f) => some (.inr f)
            | none => none := by
          intro n
          induction n with
          | zero =>
            intro i f hn hi
            have : i = x.length := by omega
            subst this
            rw [domain_bindings_1_v2_l6_eq, List.drop_length]
            unfold domain_bindings_1_v2_l6_s
            rw [ltI]
            rfl
          | succ n ih =>
            intro i f hn hi
            obtain ⟨y, hy, hdy⟩ := get_lt (l := x) (i := i) (by omega)
            rw [domain_bindings_1_v2_l6_eq]
            unfold domain_bindings_1_v2_l6_s domain_bindings_v2
            rw [ltD hy, iteE_t, idxE_n hy, (clone_ok (by omega)).2, bndE_s, chkE_p (fit_small (by simp; omega) (by decide)), bndE_s]
            simp only [e1]
            rw [hs _ _ _ _ (by simp; omega), iter_round (step := step) (fun f x => by
              unfold domain_bindings_1_v2_r7_rd domain_bindings_1_v2_b8 domain_bindings_1_v2_b10
              rw [bndE_s]
              cases hst : step f x with
              | none => rfl
              | some p => obtain ⟨f', c⟩ := p; cases c <;> rfl)]
            rw [hdy, List.flatMap_cons, itS_append]
            cases itS step (bsS parts (d.drop (v + 1)) ((v : Int) + 1) (b ++ [⟨(v : Int), y⟩])) f with
            | none => rfl
            | some o =>
              cases o with
              | inr f' => rfl
              | inl f' =>
                rw [bndE_s, sumE_l, succI (show i < 9223372036854775807 by omega)]
                exact ih (i + 1) f' (by omega) (by omega)
        have := loop _ 0 f' rfl (by omega)
        rw [List.drop_zero] at this
        rw [show (0 : Int) = ((0 : Nat) : Int) from rfl, this, thenS]
        cases itS step (x.flatMap fun one => bsS parts (d.drop (v + 1)) ((v : Int) + 1) (b ++ [⟨(v : Int), one⟩])) f' with
        | none => rfl
        | some o => cases o <;> rfl
theorem n_eq (d : List (List TValue)) (parts : Bool) (hd : d.length ≤ 8) (hl : ∀ l ∈ d, l.length ≤ 1000000) : ∀ (n v : Nat), v ≤ d.length → d.length - v < n → SelfOk (domain_bindings_1_v2_n n) d (d.drop v) (v : Int) parts
  | 0, v, _, h => by omega
  | n + 1, v, hv, hn => fun b ψ step f hb => by
    rw [domain_bindings_1_v2_n]
    refine F_eq step d v b parts f hd hl hv (by omega) fun hlt => ?_
    have := n_eq d parts hd hl n (v + 1) (by omega) (by omega)
    simpa using this
theorem bindings_eq {φ : Type} (step : φ → List TSlot → Option (φ × Bool)) (d : List (List TValue)) (parts : Bool) (f : φ) (hd : d.length ≤ 8) (hl : ∀ l ∈ d, l.length ≤ 1000000) :
    domain_bindings_1 step 0 d [] parts f = iterL step (bsS parts d 0 []) f := by
  have h : domain_bindings_1 step 0 d [] parts f = domain_bindings_1_v2_F (fun ψ => domain_bindings_1_v2_n 100000 ψ) step 0 d [] parts f := rfl
  rw [h]
  have := F_eq (self := fun ψ => domain_bindings_1_v2_n 100000 ψ) step d 0 [] parts f hd hl (by omega) (by simp) (fun hlt => by
    have := n_eq d parts hd hl 100000 1 (by omega) (by omega)
    simpa [SelfOk] using this)
  simpa using this
/-- how many -/
def capS (parts : Bool) (l : List TValue) : Nat := l.length + (if parts = true then 1 else 0)
def manyS (parts : Bool) : List (List TValue) → Nat → Nat
  | [], n => n
  | l :: d, n => manyS parts d (min (n * min (capS parts l) 1000000) 1000000)
def prodS (parts : Bool) (d : List (List TValue)) : Nat := (d.map (capS parts)).foldr (· * ·) 1
theorem bsS_len (parts : Bool) : ∀ (d : List (List TValue)) (v : Int) (b : List TSlot), (bsS parts d v b).length = prodS parts d
  | [], _, _ => rfl
  | l :: d, v, b => by
    rw [bsS, List.length_append]
    have h : ∀ l : List TValue, (l.flatMap fun one => bsS parts d (v + 1) (b ++ [⟨v, one⟩])).length = l.length * prodS parts d := by
      intro l
      induction l with
      | nil => simp
      | cons x l ih => rw [List.flatMap_cons, List.length_append, ih, bsS_len parts d, List.length_cons, Nat.add_mul, Nat.one_mul, Nat.add_comm]
    rw [h]
    show _ = capS parts l * prodS parts d
    unfold capS
    cases parts with
    | true => simp only [if_true]; rw [bsS_len true d, Nat.add_mul, Nat.one_mul, Nat.add_comm]
    | false => simp
theorem many_le (parts : Bool) : ∀ (d : List (List TValue)) (n : Nat), n ≤ 1000000 → manyS parts d n ≤ 1000000
  | [], n, h => h
  | l :: d, n, h => many_le parts d _ (Nat.min_le_right _ _)
theorem many_prod (parts : Bool) : ∀ (d : List (List TValue)) (n : Nat), manyS parts d n ≤ 65536 → manyS parts d n = n * prodS parts d
  | [], n, _ => by simp [manyS, prodS]
  | l :: d, n, h => by
    rw [manyS] at h ⊢
    have ih := many_prod parts d _ h
    rw [ih] at h ⊢
    show _ = n * (capS parts l * prodS parts d)
    generalize prodS parts d = p at *
    generalize capS parts l = c at *
    by_cases h1 : n * min c 1000000 ≤ 1000000
    · rw [Nat.min_eq_left h1]
      by_cases h2 : c ≤ 1000000
      · rw [Nat.min_eq_left h2, Nat.mul_assoc]
      · have h4 : min c 1000000 = 1000000 := Nat.min_eq_right (by omega)
        rw [h4] at h1 h ⊢
        have h3 : n = 0 ∨ n = 1 := by omega
        rcases h3 with rfl | rfl
        · simp
        · have : p = 0 := by
            rcases Nat.eq_zero_or_pos p with e | e
            · exact e
            · simp only [Nat.one_mul, Nat.min_self] at h
              have := Nat.mul_le_mul_left 1000000 e; omega
          subst this; simp
    · rw [Nat.min_eq_right (by omega)] at h ⊢
      have : p = 0 := by
        rcases Nat.eq_zero_or_pos p with e | e
        · exact e
        · have := Nat.mul_le_mul_left 1000000 e; omega
      subst this; simp
theorem minE_nat (a b : Nat) : minE (a : Int) (b : Int) = ((min a b : Nat) : Int) := by
  unfold minE
  split <;> omega
theorem Many_eq (d : List (List TValue)) (parts : Bool) (hd : d.length ≤ 1000) (hl : ∀ l ∈ d, l.length ≤ 1000000) : domain_Many d parts = some ((manyS parts d 1 : Nat) : Int) := by
  unfold domain_Many
  have key : ∀ (m i n : Nat), d.length - i = m → i ≤ d.length → n ≤ 1000000 → domain_Many_l1 parts d (d.length : Int) (n : Int) (i : Int) = some ((manyS parts (d.drop i) n : Nat) : Int) := by
    intro m
    induction m with
    | zero =>
      intro i n hm hi hn
      have : i = d.length := by omega
      subst this
      rw [domain_Many_l1_eq, List.drop_length]
      unfold domain_Many_l1_s
      rw [ltI]; rfl
    | succ m ih =>
      intro i n hm hi hn
      obtain ⟨x, hx, hdx⟩ := get_lt (l := d) (i := i) (by omega)
      have hxl := hl x (List.mem_of_getElem? hx)
      rw [domain_Many_l1_eq]
      unfold domain_Many_l1_s domain_Many_b2 domain_Many_b3
      have e1 : (iteE parts (some (intVal .add .i64 (x.length : Int) 1)) (some (x.length : Int)) : Option Int) = some ((capS parts x : Nat) : Int) := by
        unfold capS
        cases parts with
        | true => rw [iteE_t, succI (show x.length < 9223372036854775807 by omega)]; rfl
        | false => rfl
      have e2 : intVal .mul .i64 (n : Int) (minE ((capS parts x : Nat) : Int) 1000000) = ((n * min (capS parts x) 1000000 : Nat) : Int) := by
        rw [show (1000000 : Int) = ((1000000 : Nat) : Int) from rfl, minE_nat]
        have h1 : n * min (capS parts x) 1000000 ≤ 1000000 * 1000000 := Nat.mul_le_mul hn (Nat.min_le_right _ _)
        have h2 : (n : Int) * ((min (capS parts x) 1000000 : Nat) : Int) = ((n * min (capS parts x) 1000000 : Nat) : Int) := by simp
        rw [mulI (by rw [h2]; omega) (by rw [h2]; omega), h2]
      rw [ltD hx, iteE_t, idxE_n hx, e1]
      simp only [bndE_s]
      rw [e2, show (1000000 : Int) = ((1000000 : Nat) : Int) from rfl, minE_nat, succI (show i < 9223372036854775807 by omega), nextE_l, hdx, manyS]
      exact ih (i + 1) _ (by omega) (by omega) (Nat.min_le_right _ _)
  have := key _ 0 1 rfl (by omega) (by omega)
  rw [List.drop_zero] at this
  rw [show (1 : Int) = ((1 : Nat) : Int) from rfl, show (0 : Int) = ((0 : Nat) : Int) from rfl, this, bndE_s]
theorem list_eq (d : List (List TValue)) (parts : Bool) (hd : d.length ≤ 8) (hl : ∀ l ∈ d, l.length ≤ 1000000) : domain_list d parts = some (if manyS parts d 1 ≤ 65536 then bsS parts d 0 [] else []) := by
  unfold domain_list
  rw [Many_eq d parts (by omega) hl, bndE_s, iteP]
  split
  · rename_i h
    rw [if_neg (by omega)]
  rename_i h
  have hm : manyS parts d 1 ≤ 65536 := by omega
  rw [if_pos hm, iteP, if_neg (by omega)]
  unfold domain_bindings slices_Collect_Slot slices_AppendSeq_Slot_Slot
  rw [bndE_s, bindings_eq _ d parts _ hd hl]
  have hlen := bsS_len parts d 0 []
  have hp := many_prod parts d 1 hm
  have key : ∀ (hs w : List (List TSlot)), w.length + hs.length ≤ 65536 → iterL (stepOf (slices_AppendSeq_Slot_Slot_r1_rd 0 d [] parts)) hs (.inl w) = some (.inl (w ++ hs)) := by
    intro hs
    induction hs with
    | nil => intro w _; simp [iterL]
    | cons h hs ih =>
      intro w hl
      rw [List.length_cons] at hl
      have e1 : stepOf (slices_AppendSeq_Slot_Slot_r1_rd 0 d [] parts) (.inl w) h = some (.inl (w ++ [h]), true) := by
        simp only [stepOf, slices_AppendSeq_Slot_Slot_r1_rd, slices_AppendSeq_Slot_Slot_b4, slices_AppendSeq_Slot_Slot_b6, bndE_s]
        rw [chkE_p (fit_small (by simp; omega) (by decide)), bndE_s]
      rw [iterL, e1]
      simp only
      rw [ih _ (by simp; omega)]
      simp
  rw [key _ _ (by simp only [List.length_nil]; omega)]
  rfl
theorem awake_eq : law20_awake = some true := by
  unfold law20_awake law20_one domain_Full domain_Parts
  simp only [bndE_s]
  have hl : ∀ l ∈ [[TValue.mk 1 5 ([] : List UInt8) false, TValue.mk 1 6 ([] : List UInt8) false], [TValue.mk 1 7 ([] : List UInt8) false]], l.length ≤ 1000000 := by
    intro l hl
    simp only [List.mem_cons, List.not_mem_nil, or_false] at hl
    rcases hl with rfl | rfl <;> decide
  rw [list_eq _ false (by decide) hl, list_eq _ true (by decide) hl, Many_eq _ true (by decide) hl]
  rfl
theorem TValue.eqb_dec (a b : TValue) : TValue.eqb a b = decide (a = b) := by rw [Bool.eq_iff_iff, TValue.eqb_iff]; simp
def vR (v : TValue) : Bool :=
  if v.kind = 1 then decide (v.str = []) && !v.bool
  else if v.kind = 2 then decide (v.int = 0) && !v.bool && decide (v.str.length ≤ 4096)
  else if v.kind = 3 then decide (v.int = 0) && decide (v.str = []) else false
theorem ref03_Right_eq (v : TValue) : ref03_Right v = some (vR v) := by
  unfold ref03_Right vR
  have hc : decide ((v.str.length : Int) ≤ 4096) = decide (v.str.length ≤ 4096) := by
    by_cases h : v.str.length ≤ 4096
    · have : (v.str.length : Int) ≤ 4096 := by omega
      simp [h, this]
    · have : ¬ (v.str.length : Int) ≤ 4096 := by omega
      simp [h, this]
  rw [hc]
  by_cases h1 : v.kind = 1
  · by_cases hs : v.str = [] <;> simp [h1, hs, iteE]
  by_cases h2 : v.kind = 2
  · by_cases hn : v.int = 0 <;> cases hb : v.bool <;> simp [h2, hn, iteE]
  by_cases h3 : v.kind = 3
  · by_cases hn : v.int = 0 <;> simp [h3, hn, iteE]
  · simp [h1, h2, h3, iteE]
theorem midI {i j : Nat} (h : i + j < 4611686018427387904) : IntKind.wrap .i64 (intVal .shr .u64 (IntKind.wrap .u64 (intVal .add .i64 (i : Int) (j : Int))) 1) = (((i + j) / 2 : Nat) : Int) := by
  have e1 : intVal .add .i64 (i : Int) (j : Int) = ((i + j : Nat) : Int) := by rw [addI (by omega) (by omega)]; omega
  rw [e1, wrapU_nat (by omega)]
  have e2 : intVal .shr .u64 (((i + j : Nat)) : Int) 1 = (((i + j) / 2 ^ 1 : Nat) : Int) := shrU (n := i + j) (k := 1) (by decide)
  rw [e2, Nat.pow_one, wrapI (by omega) (by omega)]
theorem bs_loop {step : Int × Int → Option ((Int × Int) ⊕ Int)} (n : Nat) (lt : Nat → Bool)
    (h1 : ∀ i j : Nat, i < j → j ≤ n → step ((i : Int), (j : Int)) = some (.inl (if lt ((i + j) / 2) = true then ((((i + j) / 2 + 1 : Nat) : Int), (j : Int)) else ((i : Int), (((i + j) / 2 : Nat) : Int)))))
    (h2 : ∀ i : Nat, step ((i : Int), (i : Int)) = some (.inr (i : Int))) (hm : ∀ a b, a ≤ b → b < n → lt b = true → lt a = true) :
    ∃ k : Nat, k ≤ n ∧ loopE step (0, (n : Int)) = some (k : Int) ∧ (∀ a, a < k → lt a = true) ∧ ∀ a, k ≤ a → a < n → lt a = false := by
  obtain ⟨t, ht, k, hk, rfl, p1, p2⟩ := loopE_ex (step := step) (fun s => ∃ i j : Nat, s = ((i : Int), (j : Int)) ∧ i ≤ j ∧ j ≤ n ∧ (∀ a, a < i → lt a = true) ∧ ∀ a, j ≤ a → a < n → lt a = false) (fun s => (s.2 - s.1).toNat)
    (fun t => ∃ k : Nat, k ≤ n ∧ t = (k : Int) ∧ (∀ a, a < k → lt a = true) ∧ ∀ a, k ≤ a → a < n → lt a = false)
    (by
      rintro s ⟨i, j, rfl, hij, hj, q1, q2⟩
      rcases Nat.lt_or_ge i j with h | h
      · right
        cases hl : lt ((i + j) / 2) with
        | true =>
          refine ⟨((((i + j) / 2 + 1 : Nat) : Int), (j : Int)), by rw [h1 i j h hj, hl]; rfl, ⟨(i + j) / 2 + 1, j, rfl, by omega, hj, fun a ha => hm a ((i + j) / 2) (by omega) (by omega) hl, q2⟩, by simp only; omega⟩
        | false =>
          refine ⟨((i : Int), (((i + j) / 2 : Nat) : Int)), by rw [h1 i j h hj, hl]; rfl, ⟨i, (i + j) / 2, rfl, by omega, by omega, q1, fun a ha hn => ?_⟩, by simp only; omega⟩
          rcases Nat.lt_or_ge a j with g | g
          · cases hla : lt a with
            | false => rfl
            | true => rw [hm ((i + j) / 2) a ha hn hla] at hl; cases hl
          · exact q2 a g hn
      · have : i = j := by omega
        subst this
        exact .inl ⟨(i : Int), h2 i, i, hj, rfl, q1, q2⟩)
    (0, (n : Int)) ⟨0, n, rfl, by omega, Nat.le_refl _, fun a ha => by omega, fun a ha hn => by omega⟩
  exact ⟨k, hk, ht, p1, p2⟩

theorem chkF {β : Type} {a b n : Nat} (h : a + b ≤ 1073741824) (hn : n ≤ 131072) (k : Option β) : chkE (fit a b n) k = k := chkE_p (fit_small h hn) k
theorem bl_irr : ∀ x : List UInt8, Op.bytesLess x x = false
  | [] => rfl
  | a :: x => by simp [Op.bytesLess, bl_irr x]
theorem bl_trans : ∀ {x y z : List UInt8}, Op.bytesLess x y = true → Op.bytesLess y z = true → Op.bytesLess x z = true
  | [], [], _, h, _ => by simp [Op.bytesLess] at h
  | _ :: _, [], _, h, _ => by simp [Op.bytesLess] at h
  | [], _ :: _, [], _, h => by simp [Op.bytesLess] at h
  | [], _ :: _, _ :: _, _, _ => rfl
  | _ :: _, _ :: _, [], _, h => by simp [Op.bytesLess] at h
  | a :: x, b :: y, c :: z, h1, h2 => by
    simp only [Op.bytesLess, Bool.or_eq_true, Bool.and_eq_true, decide_eq_true_eq, beq_iff_eq] at h1 h2 ⊢
    rcases h1 with h1 | ⟨rfl, h1⟩
    · rcases h2 with h2 | ⟨rfl, h2⟩
      · exact .inl (UInt8.lt_trans h1 h2)
      · exact .inl h1
    · rcases h2 with h2 | ⟨rfl, h2⟩
      · exact .inl h2
      · exact .inr ⟨rfl, bl_trans h1 h2⟩
theorem bl_tot : ∀ {x y : List UInt8}, x ≠ y → Op.bytesLess x y = true ∨ Op.bytesLess y x = true
  | [], [], h => absurd rfl h
  | _ :: _, [], _ => .inr rfl
  | [], _ :: _, _ => .inl rfl
  | a :: x, b :: y, h => by
    simp only [Op.bytesLess, Bool.or_eq_true, Bool.and_eq_true, decide_eq_true_eq, beq_iff_eq]
    by_cases hab : a = b
    · subst hab
      rcases bl_tot (x := x) (y := y) (fun e => h (by rw [e])) with g | g
      · exact .inl (.inr ⟨rfl, g⟩)
      · exact .inr (.inr ⟨rfl, g⟩)
    · have : a < b ∨ b < a := by
        rw [UInt8.lt_iff_toNat_lt, UInt8.lt_iff_toNat_lt]
        have : a.toNat ≠ b.toNat := fun e => hab (UInt8.toNat_inj.1 e)
        omega
      rcases this with g | g
      · exact .inl (.inl g)
      · exact .inr (.inl g)
theorem bl_find : ∀ (x y : List UInt8), (match ((x.zip y).findSome? fun z => if z.1 = z.2 then none else some (Sum.inr (decide (z.1 < z.2)) : Unit ⊕ Bool)).getD (.inl ()) with | .inl _ => decide (x.length < y.length) | .inr b => b) = Op.bytesLess x y
  | [], [] => rfl
  | _ :: _, [] => rfl
  | [], _ :: _ => by simp [Op.bytesLess]
  | a :: x, b :: y => by
    rw [List.zip_cons_cons, List.findSome?_cons]
    by_cases h : a = b
    · subst h
      simp only [if_true, Op.bytesLess, beq_self_eq_true, Bool.true_and, ← bl_find x y]
      have : decide (a < a) = false := by simp
      rw [this, Bool.false_or]
      simp only [List.length_cons, Nat.add_lt_add_iff_right]
    · simp [h, Op.bytesLess]
theorem ref03_Below_eq (x y : List UInt8) (hx : x.length ≤ 9223372036854775807) (hy : y.length ≤ 9223372036854775807) : ref03_Below x y = some (Op.bytesLess x y) := by
  unfold ref03_Below ref03_Below_l1
  have hz : (x.zip y).length = min x.length y.length := by simp
  rw [loop_find (x.zip y) (fun _ z => if z.1 = z.2 then none else some (Sum.inr (decide (z.1 < z.2)) : Unit ⊕ Bool)) (.inl ())
    (fun i z h => by
      obtain ⟨h1, h2⟩ := zip_get h
      simp only [ref03_Below_l1_s, ltD h1, ltD h2, iteE_t, idxE_n h1, idxE_n h2, succW h1 hx]
      by_cases e : z.1 = z.2
      · simp [e, iteE]
      · have : ¬ (z.1.toNat : Int) = (z.2.toNat : Int) := fun g => e (UInt8.toNat_inj.1 (by omega))
        have : (decide ((z.1.toNat : Int) < (z.2.toNat : Int))) = decide (z.1 < z.2) := decide_eq_decide.2 (by rw [UInt8.lt_iff_toNat_lt]; omega)
        rw [this, if_neg e]
        simp [*, iteE])
    (by
      rw [hz]
      rcases Nat.le_total x.length y.length with h | h
      · rw [Nat.min_eq_left h]; simp only [ref03_Below_l1_s, ltI, iteE_f]
      · rw [Nat.min_eq_right h]; simp only [ref03_Below_l1_s, ltI, iteE_f]; cases decide ((y.length : Int) < (x.length : Int)) <;> rfl), bndE_s, runL_findSome, ← bl_find]
  cases ((x.zip y).findSome? fun z => if z.1 = z.2 then none else some (Sum.inr (decide (z.1 < z.2)) : Unit ⊕ Bool)).getD (.inl ()) <;> simp [sumE]
def ltV (a b : TValue) : Bool := if a.kind = b.kind then (if a.kind = 1 then decide (a.int < b.int) else if a.kind = 2 then Op.bytesLess a.str b.str else !a.bool && b.bool) else decide (a.kind < b.kind)
theorem ref03_Less_eq (a b : TValue) (ha : a.str.length ≤ 9223372036854775807) (hb : b.str.length ≤ 9223372036854775807) : ref03_Less a b = some (ltV a b) := by
  unfold ref03_Less ltV
  rw [ref03_Below_eq _ _ ha hb]
  by_cases h : a.kind = b.kind <;> by_cases h1 : a.kind = 1 <;> by_cases h2 : a.kind = 2 <;> cases ha : a.bool <;> simp_all [iteE, bndE]
theorem ltV_irr (a : TValue) : ltV a a = false := by
  unfold ltV; rw [if_pos rfl]; split
  · simp
  · split
    · exact bl_irr _
    · cases a.bool <;> rfl
theorem ltV_trans {a b c : TValue} (h1 : ltV a b = true) (h2 : ltV b c = true) : ltV a c = true := by
  unfold ltV at *
  by_cases e1 : a.kind = b.kind
  · by_cases e2 : b.kind = c.kind
    · rw [if_pos e1] at h1
      rw [if_pos e2] at h2
      rw [if_pos (e1.trans e2)]
      rw [e1] at h1 ⊢
      split
      · rename_i h; rw [if_pos h] at h1 h2; simp at h1 h2 ⊢; omega
      · rename_i h; rw [if_neg h] at h1 h2
        split
        · rename_i h; rw [if_pos h] at h1 h2; exact bl_trans h1 h2
        · rename_i h; rw [if_neg h] at h1 h2; simp at h1 h2 ⊢; exact ⟨h1.1, h2.2⟩
    · rw [if_neg e2] at h2; rw [e1, if_neg e2]; exact h2
  · rw [if_neg e1] at h1
    by_cases e2 : b.kind = c.kind
    · rw [← e2, if_neg e1]; exact h1
    · rw [if_neg e2] at h2
      simp only [decide_eq_true_eq] at h1 h2
      rw [if_neg (by omega)]; simp; omega
theorem vR_parts {v : TValue} (h : vR v = true) : (v.kind = 1 ∧ v.str = [] ∧ v.bool = false) ∨ (v.kind = 2 ∧ v.int = 0 ∧ v.bool = false ∧ v.str.length ≤ 4096) ∨ (v.kind = 3 ∧ v.int = 0 ∧ v.str = []) := by
  unfold vR at h
  split at h
  · left; simp at h; exact ⟨by assumption, h.1, h.2⟩
  · split at h
    · right; left; simp at h; exact ⟨by assumption, h.1.1, h.1.2, h.2⟩
    · split at h
      · right; right; simp at h; exact ⟨by assumption, h.1, h.2⟩
      · cases h
theorem ltV_tot {a b : TValue} (ha : vR a = true) (hb : vR b = true) (h : a ≠ b) : ltV a b = true ∨ ltV b a = true := by
  unfold ltV
  by_cases e : a.kind = b.kind
  · rw [if_pos e, if_pos e.symm, ← e]
    obtain ⟨k, n, s, t⟩ := a
    obtain ⟨k', n', s', t'⟩ := b
    simp only at e; subst e
    rcases vR_parts ha with ⟨rfl, h2, h3⟩ | ⟨rfl, h2, h3, h4⟩ | ⟨rfl, h2, h3⟩ <;> rcases vR_parts hb with ⟨g1, g2, g3⟩ | ⟨g1, g2, g3, g4⟩ | ⟨g1, g2, g3⟩ <;> simp only [Int.reduceEq] at g1 h2 h3 g2 g3 <;> subst_vars
    · simp at h ⊢; omega
    · simp at h ⊢; exact bl_tot h
    · simp at h ⊢; cases t <;> cases t' <;> simp_all
  · rw [if_neg e, if_neg (Ne.symm e)]; simp; omega
theorem cut_filter {α : Type} {p : α → Bool} {w : List α} {k : Nat} (h1 : ∀ (j : Nat) y, w[j]? = some y → j < k → p y = true) (h2 : ∀ (j : Nat) y, w[j]? = some y → k ≤ j → p y = false) : w.take k = w.filter p ∧ w.drop k = w.filter fun y => !p y := by
  have a : ∀ y ∈ w.take k, p y = true := fun y hy => by
    obtain ⟨j, hj⟩ := List.mem_iff_getElem?.1 hy
    rw [List.getElem?_take] at hj
    split at hj
    · exact h1 j y hj (by assumption)
    · cases hj
  have b : ∀ y ∈ w.drop k, p y = false := fun y hy => by
    obtain ⟨j, hj⟩ := List.mem_iff_getElem?.1 hy
    rw [List.getElem?_drop] at hj
    exact h2 (k + j) y hj (by omega)
  have e : ∀ p : α → Bool, w.filter p = (w.take k).filter p ++ (w.drop k).filter p := fun p => by rw [← List.filter_append, List.take_append_drop]
  constructor
  · rw [e, List.filter_eq_self.2 a, List.filter_eq_nil_iff.2 (fun y hy => by simp [b y hy]), List.append_nil]
  · rw [e, List.filter_eq_nil_iff.2 (fun y hy => by simp [a y hy]), List.filter_eq_self.2 (fun y hy => by simp [b y hy]), List.nil_append]
end Go.Ac
