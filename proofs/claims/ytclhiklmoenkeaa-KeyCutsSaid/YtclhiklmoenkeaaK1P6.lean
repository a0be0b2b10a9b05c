/-
  Part of a proof: the plain law, lists and numbers alone.
-/
import Derived.Test.YtclhiklmoenkeaaK1P5
set_option linter.unusedVariables false
set_option linter.unusedSimpArgs false
namespace Go.Ac
theorem rdOut_s (p : TValue × Nat) : rdOut (some p) = (p.1, (p.2 : Int)) := rfl
theorem rdOut_n : rdOut none = (Z, 0) := rfl
/-! ### all values of bytes -/
def rdAll : Nat → List UInt8 → Option (List TValue)
  | 0, _ => none
  | n + 1, b => if b = [] then some [] else match rd b with
    | none => none
    | some p => (rdAll n (b.drop p.2)).map fun l => p.1 :: l
theorem rdAll_len : ∀ (n : Nat) {b : List UInt8} {l : List TValue}, rdAll n b = some l → l.length ≤ b.length
  | 0, b, l, h => by simp [rdAll] at h
  | n + 1, b, l, h => by
    unfold rdAll at h
    split at h
    · simp only [Option.some.injEq] at h; subst h; simp
    · split at h
      · cases h
      · rename_i p hp
        simp only [Option.map_eq_some_iff] at h
        obtain ⟨r, hr, rfl⟩ := h
        have h1 := rdAll_len n hr
        obtain ⟨_, h2, h3, _⟩ := rd_spec hp
        simp only [List.length_drop] at h1
        simp only [List.length_cons]
        omega
theorem key_Read_l1_eq' : ∀ (n : Nat) (b : List UInt8) (w : List TValue), b.length < n → b.length ≤ 1000000 → w.length + b.length ≤ 1000000 →
    key_Read_l1 b w = some (match rdAll n b with | none => .inr () | some l => .inl (w ++ l)) := by
  intro n
  induction n with
  | zero => intro b w h; omega
  | succ n ih =>
    intro b w hn hb hw
    rw [key_Read_l1_eq]
    unfold key_Read_l1_s rdAll
    simp only [iteE_if, decide_eq_true_eq, key_cut_eq b hb, bndE_s]
    by_cases h0 : b = []
    · subst h0
      simp [nextE_r]
    · have hpos : 0 < b.length := List.length_pos_iff.2 h0
      rw [if_pos (by omega), if_neg h0]
      cases hr : rd b with
      | none => rw [rdOut_n]; simp [nextE_r]
      | some p =>
        obtain ⟨_, h2, h3, _⟩ := rd_spec hr
        rw [rdOut_s]; dsimp only
        rw [if_neg (by omega), chkE_p (fit_small (by simp; omega) (by omega)), chkE_p (by omega), nextE_l, sub_end]
        rw [ih _ _ (by simp; omega) (by simp; omega) (by simp; omega)]
        cases rdAll n (b.drop p.2) with
        | none => rfl
        | some l => simp
theorem key_Read_eq (b : List UInt8) (hb : b.length ≤ 500000) : key_Read b = some (match rdAll (b.length + 1) b with | none => ([], false) | some l => (l, true)) := by
  unfold key_Read
  rw [key_Read_l1_eq' (b.length + 1) b [] (by omega) (by omega) (by simp; omega), bndE_s]
  cases rdAll (b.length + 1) b with
  | none => rfl
  | some l => simp [sumE_l]
theorem rdAll_keys : ∀ {l : List TValue} (n : Nat), (∀ v ∈ l, VOk v) → l.length < n → rdAll n (keysS l) = some l
  | [], n + 1, _, _ => by simp [rdAll, keysS]
  | v :: l, n + 1, h, hn => by
    unfold rdAll
    obtain ⟨c, r, e⟩ := keyS_pos v
    rw [keysS_cons, if_neg (by rw [e]; simp), rd_key (h v (by simp))]
    simp only [List.drop_left]
    rw [rdAll_keys n (fun x hx => h x (by simp [hx])) (by simpa using hn)]
    rfl
theorem keysS_len' : ∀ (l : List TValue), l.length ≤ (keysS l).length
  | [] => by simp
  | v :: l => by
    obtain ⟨c, r, e⟩ := keyS_pos v
    have := keysS_len' l
    rw [keysS_cons, e]; simp; omega
/-- some value comes ahead of one that is too long: what is right then -/
theorem rightS_cases (l : List TValue) : rightS l = -1 ∨ (l.length ≤ 10 ∧ (∀ v ∈ l, v.str.length ≤ 5000) ∧ ((rightS l = 1 ∧ allR l = true) ∨ (rightS l = 0 ∧ allR l = false))) := by
  unfold rightS
  split
  · exact .inl rfl
  · split
    · exact .inl rfl
    · rename_i h1 h2
      right
      refine ⟨by omega, fun v hv => ?_, ?_⟩
      · unfold long at h2
        rw [List.any_eq_true] at h2
        rcases Nat.lt_or_ge 5000 v.str.length with h5 | h5
        · exact absurd ⟨v, hv, by simpa using h5⟩ h2
        · exact h5
      · cases allR l <;> simp
theorem law04_KeyOf_true {l : List TValue} (hl : ∀ v ∈ l, I64 v.int) : law04_KeyOf l = some true := by
  unfold law04_KeyOf
  simp only [law04_right_eq, law04_awake_eq, bndE_s, iteE_if, decide_eq_true_eq]
  rcases rightS_cases l with h | ⟨h1, h2, ⟨h3, h4⟩ | ⟨h3, h4⟩⟩
  · simp [h]
  · have ho : ∀ v ∈ l, VOk v := fun v hv => ⟨by simpa using (List.all_eq_true.1 h4) v hv, hl v hv⟩
    have hlen := keysS_len h2
    rw [h3, if_neg (by omega), key_Of_eq (by omega) (fun v hv => ⟨hl v hv, h2 v hv⟩), bndE_s, if_neg (by omega), ofS, if_pos h4, key_Read_eq _ (by omega), bndE_s, ref04_Keys_eq (by omega) ho, bndE_s,
      rdAll_keys _ ho (by have := keysS_len' l; omega)]
    simp [law04_same_eq l l (by omega), bndE_s]
  · rw [h3, if_neg (by omega), key_Of_eq (by omega) (fun v hv => ⟨hl v hv, h2 v hv⟩), bndE_s, if_pos rfl, ofS, h4]
    simp
theorem law04_KeyCuts_true (b : List UInt8) : law04_KeyCuts b = some true := by
  unfold law04_KeyCuts
  simp only [law04_awake_eq, bndE_s, iteE_if, decide_eq_true_eq]
  by_cases h : b.length ≤ 10000
  · rw [if_neg (by omega)]
    unfold key_Cut
    rw [key_cut_eq b (by omega), bndE_s, bndE_s, ref04_Read_eq b (by omega), bndE_s]
    simp only [TValue.eqb_iff, if_true, beq_self_eq_true, Bool.not_eq_true']
    cases hr : rd b with
    | none => rw [rdOut_n]; simp
    | some p =>
      obtain ⟨h1, h2, h3, h4⟩ := rd_spec hr
      have hs := h1.str
      rw [rdOut_s]; dsimp only
      have hp : (0 : Int) < (p.2 : Int) := by omega
      rw [if_neg (by simp; omega), key_Of_eq (by simp) (by simp only [List.mem_singleton, forall_eq]; exact ⟨h1.i64, by omega⟩), bndE_s, chkE_p (by omega)]
      have e : ofS [p.1] = sub b 0 (p.2 : Int) := by
        have : sub b 0 (p.2 : Int) = b.take p.2 := by
          have := sub_nat b 0 p.2
          simpa using this
        rw [this, ← h4]
        simp [ofS, allR, h1.right, keysS]
      simp [e]
  · rw [if_pos (by omega)]
theorem law04_KeyReads_l1_eq' (x : List TValue) (y : Bool) : ∀ (n : Nat) (b : List UInt8) (i : Nat) (w : List TValue), b.length - i < n → i ≤ b.length → b.length ≤ 100000 → w.length ≤ i →
    ∃ o, law04_KeyReads_l1 b x y (i : Int) true w = some o ∧ (match rdAll n (b.drop i) with | none => o.1 = false | some l => o = (true, w ++ l)) := by
  intro n
  induction n with
  | zero => intro b i w h; omega
  | succ n ih =>
    intro b i w hn hi hb hw
    rw [law04_KeyReads_l1_eq]
    unfold law04_KeyReads_l1_s rdAll
    simp only [iteE_if, decide_eq_true_eq, if_true]
    by_cases hlt : i < b.length
    · have hne : b.drop i ≠ [] := by
        intro h
        have := congrArg List.length h
        simp at this; omega
      rw [if_pos (by omega), if_neg hne, chkE_p (by omega), sub_end, ref04_Read_eq _ (by simp; omega), bndE_s]
      have hf : ∀ z : TValue, fit w.length [z].length 40 := fun z => fit_small (by simp; omega) (by omega)
      rw [chkE_p (hf _), nextE_l]
      cases hr : rd (b.drop i) with
      | none =>
        rw [rdOut_n]; dsimp only
        refine ⟨_, by
          rw [law04_KeyReads_l1_eq]
          unfold law04_KeyReads_l1_s
          simp only [iteE_if, decide_eq_true_eq]
          rw [addI (by omega) (by omega), Int.add_zero, if_pos (by omega), if_neg (by decide), nextE_r], by simp⟩
      | some p =>
        obtain ⟨_, h2, h3, _⟩ := rd_spec hr
        simp only [List.length_drop] at h3
        have hp : decide ((0 : Int) < (p.2 : Int)) = true := by simpa using h2
        rw [rdOut_s]; dsimp only
        rw [hp, addI (by omega) (by omega), show ((i : Int) + (p.2 : Int)) = ((i + p.2 : Nat) : Int) by omega]
        obtain ⟨o, h4, h5⟩ := ih b (i + p.2) (w ++ [p.1]) (by omega) (by omega) hb (by simp; omega)
        refine ⟨o, h4, ?_⟩
        rw [List.drop_drop]
        revert h5
        cases rdAll n (b.drop (i + p.2)) with
        | none => exact fun h => h
        | some l => intro h; simpa using h
    · have : b.drop i = [] := List.drop_eq_nil_of_le (by omega)
      rw [if_neg (by omega), this]
      exact ⟨_, nextE_r _ _, by simp⟩
theorem law04_KeyReads_true (b : List UInt8) : law04_KeyReads b = some true := by
  unfold law04_KeyReads
  simp only [law04_awake_eq, bndE_s, iteE_if, decide_eq_true_eq]
  by_cases h : b.length ≤ 10000
  · rw [if_neg (by omega), key_Read_eq b (by omega), bndE_s]
    generalize hx : (match rdAll (b.length + 1) b with | none => (([] : List TValue), false) | some l => (l, true)) = x
    obtain ⟨o, h1, h2⟩ := law04_KeyReads_l1_eq' x.1 x.2 (b.length + 1) b 0 [] (by omega) (by omega) (by omega) (by simp)
    simp only [List.drop_zero] at h2
    rw [show law04_KeyReads_l1 b x.1 x.2 0 true [] = _ from h1, bndE_s]
    cases hr : rdAll (b.length + 1) b with
    | none =>
      rw [hr] at hx h2
      simp only at hx h2
      subst hx
      simp [h2]
    | some l =>
      rw [hr] at hx h2
      simp only at hx h2
      subst hx
      subst h2
      have hl := rdAll_len _ hr
      simp [law04_same_eq l l (by omega), bndE_s]
  · rw [if_pos (by omega)]
end Go.Ac
