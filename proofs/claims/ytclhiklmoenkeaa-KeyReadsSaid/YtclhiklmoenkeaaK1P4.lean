/-
  Part of a proof: the plain law, lists and numbers alone.
-/
import Derived.Test.YtclhiklmoenkeaaK1P3
set_option linter.unusedVariables false
set_option linter.unusedSimpArgs false
namespace Go.Ac
def rlOut2 (w : List UInt8) (i : Nat) : Option (List UInt8 × Nat) → Unit ⊕ (Int × TValue)
  | none => .inl ()
  | some p => if (w ++ p.1).length ≤ 4096 then .inr (((i + p.2 : Nat) : Int), ⟨2, 0, w ++ p.1, false⟩) else .inr (0, Z)
def rl3 : Unit ⊕ (Int × TValue) → TValue × Int
  | .inl _ => (Z, 0)
  | .inr p => (p.2, p.1)
theorem ref04_Read_l2_eq' (s : List UInt8) (hs : s.length ≤ 1000000) : ∀ (n i : Nat) (w : List UInt8), s.length - i < n → i ≤ s.length → w.length ≤ i →
    ∃ o, ref04_Read_l2 s Z Z (i : Int) w = some o ∧ rl3 o = rl3 (rlOut2 w i (rdText (s.drop i))) := by
  intro n
  induction n with
  | zero => intro i w h; omega
  | succ n ih =>
    intro i w hn hi hw
    rw [ref04_Read_l2_eq]
    unfold ref04_Read_l2_s ref04_Read_b4
    cases hd : s.drop i with
    | nil =>
      have : s.length ≤ i := by
        have := congrArg List.length hd
        simp at this; omega
      simp only [iteE_if, decide_eq_true_eq]
      rw [if_neg (by omega), nextE_r]
      exact ⟨_, rfl, rfl⟩
    | cons c r =>
      obtain ⟨hc, hr, hlt⟩ := get_drop hd
      have f1 : fit w.length [c].length 1 := fit_small (by simp; omega) (by omega)
      have f2 : fit w.length [(0 : UInt8)].length 1 := fit_small (by simp; omega) (by omega)
      have hpos : (i : Int) < s.length := by omega
      have hsub : intVal .sub .i64 (s.length : Int) 1 = (s.length : Int) - 1 := subI (by omega) (by omega)
      simp only [idxE_n hc, chkE_p f1, chkE_p f2, u8_dec, iteE_if, decide_eq_true_eq, Bool.not_eq_true', decide_eq_false_iff_not, hpos, if_true, succI (show i < 9223372036854775807 by omega), succ2I (show i < 9223372036854775806 by omega), hsub]
      by_cases h0 : c = 0
      · subst h0
        simp only [not_true_eq_false, if_false]
        cases hr2 : r with
        | nil =>
          rw [hr2] at hr
          have : (i : Int) = (s.length : Int) - 1 := by
            have := congrArg List.length hr
            simp at this; omega
          simp only [this, if_true, bndE_s, sumE_r, nextE_r]
          exact ⟨_, rfl, rfl⟩
        | cons d r' =>
          rw [hr2] at hr
          obtain ⟨hc2, hr3, hlt2⟩ := get_drop hr
          have hne : ¬ (i : Int) = (s.length : Int) - 1 := by omega
          simp only [hne, if_false, idxE_n hc2]
          by_cases h255 : d = 255
          · subst h255
            simp only [not_true_eq_false, if_false, show ((255 : UInt8) = 1) = False from by simp, bndE_s, sumE_l, nextE_l, succI (show i + 1 < 9223372036854775807 by omega)]
            obtain ⟨o, h1, h2⟩ := ih (i + 2) (w ++ [0]) (by omega) (by omega) (by simp; omega)
            refine ⟨o, h1, ?_⟩
            rw [h2, hr3]
            simp only [rdText, if_true]
            cases rdText r' with
            | none => rfl
            | some p => simp only [rlOut2, Option.map_some, List.append_assoc, List.singleton_append]; congr 1; split <;> simp <;> omega
          · by_cases h1 : d = 1
            · subst h1
              simp only [h255, not_false_eq_true, not_true_eq_false, if_false, if_true]
              by_cases hl : (4096 : Int) < w.length
              · simp only [hl, if_true, bndE_s, sumE_r, nextE_r]
                refine ⟨_, rfl, ?_⟩
                have : ¬ w.length ≤ 4096 := by omega
                simp [rdText, rlOut2, rl3, this]
              · simp only [hl, if_false, bndE_s, sumE_r, nextE_r]
                refine ⟨_, rfl, ?_⟩
                have : w.length ≤ 4096 := by omega
                simp [rdText, rlOut2, rl3, this]
            · simp only [h255, h1, not_false_eq_true, if_true, bndE_s, sumE_r, nextE_r]
              refine ⟨_, rfl, ?_⟩
              simp [rdText, rlOut2, h255, h1, rl3]
      · simp only [h0, not_false_eq_true, if_true, bndE_s, sumE_l, nextE_l, succI (show i < 9223372036854775807 by omega)]
        obtain ⟨o, h1, h2⟩ := ih (i + 1) (w ++ [c]) (by omega) (by omega) (by simp; omega)
        refine ⟨o, h1, ?_⟩
        rw [h2, hr]
        have e : rdText (c :: r) = (rdText r).map fun p => (c :: p.1, p.2 + 1) := by rw [rdText.eq_def]; simp only [h0, if_false]
        rw [e]
        cases rdText r with
        | none => rfl
        | some p => simp only [rlOut2, Option.map_some, List.append_assoc, List.singleton_append]; congr 1; split <;> simp <;> omega
theorem ref04_Read_eq (b : List UInt8) (hb : b.length ≤ 1000000) : ref04_Read b = some (rdOut (rd b)) := by
  unfold ref04_Read
  simp only [iteE_if, decide_eq_true_eq]
  cases b with
  | nil => simp [rd, rdOut, Z]
  | cons t b =>
    simp only [List.length_cons] at hb
    rw [if_neg (by simp only [List.length_cons]; omega)]
    simp only [idxE_0, u8_dec, decide_eq_true_eq, Bool.not_eq_true', decide_eq_false_iff_not, u8_inj]
    by_cases t3 : t = 3
    · subst t3
      simp only [if_true]
      cases b with
      | nil => simp [rd, rdOut, Z]
      | cons c r =>
        rw [if_neg (by simp only [List.length_cons]; omega)]
        simp only [idxE_1]
        by_cases hc1 : c.toNat ≤ 1
        · have : ¬ (((1 : UInt8).toNat : Int) < (c.toNat : Int)) := by
            have : ((1 : UInt8).toNat : Int) = 1 := rfl
            omega
          simp only [this, if_false]
          simp [rd, hc1, rdOut]
        · have : ((1 : UInt8).toNat : Int) < (c.toNat : Int) := by
            have : ((1 : UInt8).toNat : Int) = 1 := rfl
            omega
          simp only [this, if_true]
          simp [rd, hc1, rdOut, Z]
    · simp only [t3, if_false]
      by_cases t1 : t = 1
      · subst t1
        simp only [if_true]
        unfold rd
        simp only [show ((1 : UInt8) = 3) = False from by simp, if_false, if_true]
        by_cases hl : 8 ≤ b.length
        · have h1 := ref04_Read_l1_eq' Z (1 :: b) (by simp; omega) 9 1 (by omega) (by omega) (by omega)
          have e0 : be ((((1 : UInt8) :: b).take 1).drop 1) = 0 := rfl
          have e1 : (((1 : UInt8) :: b).take 9).drop 1 = b.take 8 := rfl
          rw [e0, e1] at h1
          rw [if_neg (by simp only [List.length_cons]; omega), show ref04_Read_l1 (1 :: b) (TValue.mk 0 0 [] false) 0 1 = _ from h1, bndE_s, unb_sub (be8_lt b hl), if_pos hl]
          rfl
        · rw [if_pos (by simp only [List.length_cons]; omega), if_neg hl]
          rfl
      · simp only [t1, if_false]
        by_cases t2 : t = 2
        · subst t2
          simp only [not_true_eq_false, if_false]
          obtain ⟨o, h1, h2⟩ := ref04_Read_l2_eq' (2 :: b) (by simp; omega) (b.length + 2) 1 [] (by simp) (by simp) (by simp)
          rw [show ref04_Read_l2 (2 :: b) (TValue.mk 0 0 [] false) (TValue.mk 0 0 [] false) 1 [] = _ from h1, bndE_s]
          have e : sumE o (fun _ => some (TValue.mk 0 0 [] false, 0)) (fun o28 => some (o28.2, o28.1)) = some (rl3 o) := by cases o <;> rfl
          rw [e, h2]
          unfold rd
          simp only [show ((2 : UInt8) = 3) = False from by simp, show ((2 : UInt8) = 1) = False from by simp, if_false, if_true, List.drop_succ_cons, List.drop_zero]
          cases rdText b with
          | none => rfl
          | some p =>
            simp only [rlOut2, List.nil_append]
            by_cases hl : p.1.length ≤ 4096
            · simp only [hl, if_true, rl3, rdOut]
              rw [Nat.add_comm]
            · simp only [hl, if_false, rl3, rdOut]
        · simp only [t2, not_false_eq_true, if_true]
          simp [rd, t3, t1, t2, rdOut, Z]

/-! ### what stands in bytes -/
theorem be8 (b : List UInt8) (h : b.length = 8) : num8 (be b) = b := by
  match b, h with
  | [a0, a1, a2, a3, a4, a5, a6, a7], _ =>
    have h0 := a0.toNat_lt
    have h1 := a1.toNat_lt
    have h2 := a2.toNat_lt
    have h3 := a3.toNat_lt
    have h4 := a4.toNat_lt
    have h5 := a5.toNat_lt
    have h6 := a6.toNat_lt
    have h7 := a7.toNat_lt
    have key : ∀ (x : Nat) (c : UInt8), x % 256 = c.toNat → u8w (x : Int) = c := by
      intro x c hx
      rw [u8w_mod, show ((x : Int) % 256) = ((x % 256 : Nat) : Int) by omega, hx]
      exact UInt8.toNat_inj.1 (u8w_nat c.toNat_lt)
    simp only [be, List.foldl_cons, List.foldl_nil, num8, Nat.mul_zero, Nat.zero_add]
    rw [key _ a0 (by omega), key _ a1 (by omega), key _ a2 (by omega), key _ a3 (by omega), key _ a4 (by omega), key _ a5 (by omega), key _ a6 (by omega), key _ a7 (by omega)]
theorem be_num8 {u : Nat} (h : u < 18446744073709551616) : be (num8 u) = u := by
  have key : ∀ x : Nat, (u8w (x : Int)).toNat = x % 256 := by
    intro x
    rw [u8w_mod, show ((x : Int) % 256) = ((x % 256 : Nat) : Int) by omega, u8w_nat (Nat.mod_lt _ (by omega))]
  simp only [be, num8, List.foldl_cons, List.foldl_nil, key]
  omega
theorem rd_spec {b : List UInt8} {p : TValue × Nat} (h : rd b = some p) : VOk p.1 ∧ 0 < p.2 ∧ p.2 ≤ b.length ∧ keyS p.1 = b.take p.2 := by
  unfold rd at h
  split at h
  · cases h
  · rename_i t b
    split at h
    · rename_i t3
      subst t3
      split at h
      · cases h
      · rename_i c r
        split at h
        · rename_i hc
          simp only [Option.some.injEq] at h
          subst h
          refine ⟨⟨.inr (.inr ⟨rfl, rfl, rfl⟩), by simp [I64]⟩, by simp, by simp, ?_⟩
          have : c = 0 ∨ c = 1 := by
            rcases Nat.lt_or_ge c.toNat 1 with h | h
            · exact .inl (UInt8.toNat_inj.1 (by have : (0 : UInt8).toNat = 0 := rfl; omega))
            · exact .inr (UInt8.toNat_inj.1 (by have : (1 : UInt8).toNat = 1 := rfl; omega))
          rcases this with rfl | rfl <;> simp [keyS]
        · cases h
    · split at h
      · rename_i t1
        subst t1
        split at h
        · rename_i hl
          simp only [Option.some.injEq] at h
          subst h
          have hlt := be8_lt b hl
          refine ⟨⟨.inl ⟨rfl, rfl, rfl⟩, by simp [I64, unb]; omega⟩, by simp, by simp; omega, ?_⟩
          have hb : biased (unb (be (b.take 8))) = be (b.take 8) := by unfold biased unb; omega
          have h8 : (b.take 8).length = 8 := by simp; omega
          simp [keyS, hb, be8 _ h8]
        · cases h
      · split at h
        · rename_i t2
          subst t2
          split at h
          · cases h
          · rename_i q hq
            split at h
            · rename_i hl
              simp only [Option.some.injEq] at h
              subst h
              obtain ⟨h1, h2⟩ := rdText_spec hq
              refine ⟨⟨.inr (.inl ⟨rfl, rfl, rfl, hl⟩), by simp [I64]⟩, by simp, by simp; omega, ?_⟩
              simp [keyS, h2]
            · cases h
        · cases h
theorem rdText_esc (s r : List UInt8) : rdText (esc s ++ 0 :: 1 :: r) = some (s, (esc s).length + 2) := by
  induction s with
  | nil => simp [esc, rdText]
  | cons c s ih =>
    by_cases hc : c = 0
    · subst hc
      simp [esc, rdText, ih]
    · have e : esc (c :: s) = c :: esc s := by simp [esc, hc]
      rw [e, List.cons_append, rdText.eq_def]
      simp [hc, ih]
theorem biased_lt {n : Int} (h : I64 n) : biased n < 18446744073709551616 := by unfold biased; obtain ⟨h1, h2⟩ := h; omega
theorem unb_biased {n : Int} (h : I64 n) : unb (biased n) = n := by unfold biased unb; obtain ⟨h1, h2⟩ := h; omega
theorem rd_key {v : TValue} (h : VOk v) (r : List UInt8) : rd (keyS v ++ r) = some (v, (keyS v).length) := by
  obtain ⟨k, n, s, b⟩ := v
  rcases h.right with ⟨hk, hs, hb⟩ | ⟨hk, hn, hb, hs⟩ | ⟨hk, hn, hs⟩
  · simp only at hk hs hb
    subst hk; subst hs; subst hb
    have h64 : I64 n := h.i64
    have e : (num8 (biased n) ++ r).take 8 = num8 (biased n) := by
      rw [List.take_append_of_le_length (by simp [num8_len])]; rfl
    simp only [keyS, show ((1 : Int) = 3) = False from by simp, show ((1 : Int) = 2) = False from by simp, if_false, List.cons_append]
    unfold rd
    simp only [show ((1 : UInt8) = 3) = False from by simp, if_false, if_true]
    rw [if_pos (by simp [num8_len]), e, be_num8 (biased_lt h64), unb_biased h64]
    rfl
  · simp only at hk hn hb hs
    subst hk; subst hn; subst hb
    simp only [keyS, show ((2 : Int) = 3) = False from by simp, if_false, if_true, List.cons_append, List.append_assoc]
    unfold rd
    simp only [show ((2 : UInt8) = 3) = False from by simp, show ((2 : UInt8) = 1) = False from by simp, if_false, if_true]
    have := rdText_esc s r
    rw [List.nil_append, this]
    simp [hs]
  · simp only at hk hn hs
    subst hk; subst hn; subst hs
    cases b <;> simp [keyS, rd]
end Go.Ac
