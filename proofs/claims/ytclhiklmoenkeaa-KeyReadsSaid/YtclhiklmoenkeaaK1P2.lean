/-
  Part of a proof: the plain law, lists and numbers alone.
-/
import Derived.Test.YtclhiklmoenkeaaK1P1
set_option linter.unusedVariables false
set_option linter.unusedSimpArgs false
namespace Go.Ac
/-- a number as it stands in its key -/
def biased (n : Int) : Nat := (n + 9223372036854775808).toNat
def I64 (n : Int) : Prop := -9223372036854775808 ≤ n ∧ n ≤ 9223372036854775807
theorem wrapU_int {n : Int} (h : I64 n) : ∃ x : Nat, x < 18446744073709551616 ∧ IntKind.wrap .u64 n = x ∧ (x + 9223372036854775808) % 18446744073709551616 = biased n := by
  refine ⟨(n % 18446744073709551616).toNat, by omega, by rw [wrapU]; omega, ?_⟩
  unfold biased
  obtain ⟨h1, h2⟩ := h
  omega
theorem num8_set (u : Nat) : ∀ w : List UInt8, w.length = 8 → key_number_l1 (u : Int) 0 w = some (num8 u) := by
  have st : ∀ (i : Nat) (w : List UInt8), i < 8 → w.length = 8 → key_number_l1 (u : Int) (i : Int) w = key_number_l1 (u : Int) ((i + 1 : Nat) : Int) (w.set i (u8w ((u / 2 ^ (8 * (7 - i)) : Nat) : Int))) := by
    intro i w hi hw
    have e1 : intVal .sub .i64 7 (i : Int) = ((7 - i : Nat) : Int) := by rw [subI (by omega) (by omega)]; omega
    have e2 : intVal .mul .i64 8 ((7 - i : Nat) : Int) = ((8 * (7 - i) : Nat) : Int) := by rw [mulI (by omega) (by omega)]; omega
    rw [key_number_l1_eq]
    unfold key_number_l1_s
    simp only [iteE_if, decide_eq_true_eq, e1, e2]
    rw [if_pos (by omega), chkE_p (by omega), chkE_p (by omega), chkE_p (by omega), nextE_l, succI (by omega), Int.toNat_natCast, shrU (by omega)]
  intro w hw
  match w, hw with
  | [a0, a1, a2, a3, a4, a5, a6, a7], _ =>
    have h0 := st 0 [a0, a1, a2, a3, a4, a5, a6, a7] (by omega) rfl
    have e0 : ((0 : Nat) : Int) = 0 := rfl
    rw [e0] at h0
    rw [h0]
    simp only [List.set, Nat.reduceAdd, Nat.reduceMul, Nat.reduceSub, Nat.reducePow]
    rw [st 1 _ (by omega) rfl]
    simp only [List.set, Nat.reduceAdd, Nat.reduceMul, Nat.reduceSub, Nat.reducePow]
    rw [st 2 _ (by omega) rfl]
    simp only [List.set, Nat.reduceAdd, Nat.reduceMul, Nat.reduceSub, Nat.reducePow]
    rw [st 3 _ (by omega) rfl]
    simp only [List.set, Nat.reduceAdd, Nat.reduceMul, Nat.reduceSub, Nat.reducePow]
    rw [st 4 _ (by omega) rfl]
    simp only [List.set, Nat.reduceAdd, Nat.reduceMul, Nat.reduceSub, Nat.reducePow]
    rw [st 5 _ (by omega) rfl]
    simp only [List.set, Nat.reduceAdd, Nat.reduceMul, Nat.reduceSub, Nat.reducePow]
    rw [st 6 _ (by omega) rfl]
    simp only [List.set, Nat.reduceAdd, Nat.reduceMul, Nat.reduceSub, Nat.reducePow]
    rw [st 7 _ (by omega) rfl]
    simp only [List.set, Nat.reduceAdd, Nat.reduceMul, Nat.reduceSub, Nat.reducePow]
    rw [key_number_l1_eq]
    unfold key_number_l1_s
    simp [iteE_if, nextE_r, num8]
theorem key_number_eq {n : Int} (h : I64 n) : key_number n = some (num8 (biased n)) := by
  obtain ⟨x, hx, e1, e2⟩ := wrapU_int h
  unfold key_number
  have e3 : intVal .xor .u64 (x : Int) 9223372036854775808 = ((x ^^^ 9223372036854775808 : Nat) : Int) := xorU hx (m := 9223372036854775808) (by omega)
  rw [e1, e3, xor_top' hx, e2, num8_set _ _ (by simp), bndE_s, chkE_p ⟨by omega, fit_small (by decide) (by omega)⟩, chkE_p (by simp [num8])]
  simp [num8, List.replicate]
theorem num8_len (u : Nat) : (num8 u).length = 8 := rfl
/-- a value's key -/
def keyS (v : TValue) : List UInt8 := if v.kind = 3 then [3, if v.bool then 1 else 0] else if v.kind = 2 then 2 :: (esc v.str ++ [0, 1]) else 1 :: num8 (biased v.int)
theorem keyS_len (v : TValue) : (keyS v).length ≤ 9 + 2 * v.str.length := by
  unfold keyS
  have := esc_len v.str
  split
  · simp; omega
  · split
    · simp; omega
    · simp [num8_len]
/-- a value that is right, of a number that a machine holds -/
structure VOk (v : TValue) : Prop where
  right : VR v
  i64 : I64 v.int
theorem VOk.str {v : TValue} (h : VOk v) : v.str.length ≤ 4096 := by
  rcases h.right with ⟨_, h, _⟩ | ⟨_, _, _, h⟩ | ⟨_, _, h⟩
  · simp [h]
  · exact h
  · simp [h]
theorem u8w_lit (n : Nat) (h : n < 256) (c : UInt8) (hc : c.toNat = n) : u8w (n : Int) = c := UInt8.toNat_inj.1 (by rw [u8w_nat h, hc])
theorem key_one_eq {v : TValue} (h : VOk v) : key_one v = some (keyS v) := by
  have hl := h.str
  unfold key_one
  simp only [iteE_if, decide_eq_true_eq]
  rcases h.right with ⟨hk, hs, hb⟩ | ⟨hk, hn, hb, hs⟩ | ⟨hk, hn, hs⟩
  · rw [if_pos hk, key_number_eq h.i64, bndE_s, hk, show u8w 1 = 1 from u8w_lit 1 (by omega) 1 rfl, chkE_p (fit_small (by simp [num8_len]) (by omega))]
    simp [keyS, hk]
  · have he := esc_len v.str
    rw [if_neg (by omega), if_pos hk, key_text_eq _ (by omega), bndE_s, hk, show u8w 2 = 2 from u8w_lit 2 (by omega) 2 rfl, chkE_p (fit_small (by simp; omega) (by omega))]
    simp [keyS, hk]
  · rw [if_neg (by omega), if_neg (by omega), hk, show u8w 3 = 3 from u8w_lit 3 (by omega) 3 rfl, chkE_p (fit_small (by simp) (by omega)), chkE_p (fit_small (by simp) (by omega))]
    cases hb : v.bool <;> simp [keyS, hk, hb]
theorem ref04_Key_eq {v : TValue} (h : VOk v) : ref04_Key v = some (keyS v) := by
  have hl := h.str
  unfold ref04_Key
  simp only [iteE_if, decide_eq_true_eq]
  rcases h.right with ⟨hk, hs, hb⟩ | ⟨hk, hn, hb, hs⟩ | ⟨hk, hn, hs⟩
  · obtain ⟨x, hx, e1, e2⟩ := wrapU_int h.i64
    rw [if_neg (by omega), if_neg (by omega), e1, show intVal .add .u64 (x : Int) 9223372036854775808 = (((x + 9223372036854775808) % 18446744073709551616 : Nat) : Int) from addU (m := 9223372036854775808), e2,
      ref04_Key_l4_eq' _ (by rw [← e2]; omega) _ (by simp), bndE_s, hk, show u8w 1 = 1 from u8w_lit 1 (by omega) 1 rfl]
    simp [keyS, hk]
  · have he := esc_len v.str
    rw [if_neg (by omega), if_pos hk, hk, show u8w 2 = 2 from u8w_lit 2 (by omega) 2 rfl, ref04_Key_l1_eq' _ _ (by omega) (by simp), bndE_s, chkE_p (fit_small (by simp; omega) (by omega))]
    simp [keyS, hk]
  · rw [if_pos hk, hk, show u8w 3 = 3 from u8w_lit 3 (by omega) 3 rfl, chkE_p (fit_small (by simp) (by omega)), chkE_p (fit_small (by simp) (by omega))]
    cases hb : v.bool <;> simp [keyS, hk, hb]
def keysS (l : List TValue) : List UInt8 := l.flatMap keyS
theorem keysS_cons (v : TValue) (l : List TValue) : keysS (v :: l) = keyS v ++ keysS l := rfl
theorem keysS_len {l : List TValue} (h : ∀ v ∈ l, v.str.length ≤ 5000) : (keysS l).length ≤ 10009 * l.length := by
  induction l with
  | nil => simp [keysS]
  | cons v l ih =>
    have h1 := keyS_len v
    have h2 := h v (by simp)
    have h3 := ih fun x hx => h x (by simp [hx])
    rw [keysS_cons, List.length_append, List.length_cons]
    omega
def ofS (l : List TValue) : List UInt8 := if allR l then keysS l else []
theorem key_Of_eq {l : List TValue} (hl : l.length ≤ 1000) (hs : ∀ v ∈ l, I64 v.int ∧ v.str.length ≤ 5000) : key_Of l = some (ofS l) := by
  unfold key_Of
  have key : key_Of_l1 l (l.length : Int) 0 [] = some (if allR l then .inl (keysS l) else .inr ()) := by
    unfold key_Of_l1
    have := loopE_of (step := fun st : Int × List UInt8 => key_Of_l1_s l (l.length : Int) st.1 st.2) (fun st => ∃ i : Nat, st.1 = i ∧ i ≤ l.length ∧ st.2.length ≤ 10009 * i) (fun st => l.length - st.1.toNat)
      (fun st => if allR (l.drop st.1.toNat) then .inl (st.2 ++ keysS (l.drop st.1.toNat)) else .inr ()) ?_ (0, []) ⟨0, rfl, Nat.zero_le _, by simp⟩
    · simpa using this
    rintro ⟨_, w⟩ ⟨i, rfl, hi, hw⟩
    simp only at hw
    simp only [Int.toNat_natCast]
    unfold key_Of_l1_s
    simp only [iteE_if, decide_eq_true_eq, Bool.not_eq_true', decide_eq_false_iff_not]
    by_cases hlt : i < l.length
    · obtain ⟨v, hv, hd⟩ := get_lt hlt
      have hvm := List.mem_of_getElem? hv
      rw [if_pos (by omega), idxE_n hv, value_Right_eq, bndE_s, hd]
      by_cases hr : VR v
      · right
        have ho : VOk v := ⟨hr, (hs v hvm).1⟩
        have hk := keyS_len v
        have := (hs v hvm).2
        rw [if_neg (by simpa using hr), key_one_eq ho, bndE_s, chkE_p (fit_small (by omega) (by omega)), succI (by omega)]
        refine ⟨_, rfl, ⟨i + 1, rfl, by omega, by simp only [List.length_append]; omega⟩, by simp only [Int.toNat_natCast]; omega, ?_⟩
        simp only [Int.toNat_natCast, allR, List.all_cons, hr, decide_true, Bool.true_and, keysS_cons, List.append_assoc]
      · left
        rw [if_pos (by simpa using hr)]
        simp [allR, hr]
    · left
      rw [if_neg (by omega), List.drop_eq_nil_of_le (by omega)]
      simp [allR, keysS]
  rw [key, bndE_s]
  unfold ofS
  by_cases hr : allR l = true
  · simp [hr, sumE_l]
  · simp [hr, sumE_r]
theorem ref04_Keys_eq {l : List TValue} (hl : l.length ≤ 1000) (hs : ∀ v ∈ l, VOk v) : ref04_Keys l = some (keysS l) := by
  unfold ref04_Keys
  have key : ref04_Keys_l1 l 0 [] = some (keysS l) := by
    unfold ref04_Keys_l1
    have := loopE_of (step := fun st : Int × List UInt8 => ref04_Keys_l1_s l st.1 st.2) (fun st => ∃ i : Nat, st.1 = i ∧ i ≤ l.length ∧ st.2.length ≤ 10009 * i) (fun st => l.length - st.1.toNat)
      (fun st => st.2 ++ keysS (l.drop st.1.toNat)) ?_ (0, []) ⟨0, rfl, Nat.zero_le _, by simp⟩
    · simpa using this
    rintro ⟨_, w⟩ ⟨i, rfl, hi, hw⟩
    simp only at hw
    simp only [Int.toNat_natCast]
    unfold ref04_Keys_l1_s
    simp only [iteE_if, decide_eq_true_eq]
    by_cases hlt : i < l.length
    · obtain ⟨v, hv, hd⟩ := get_lt hlt
      have ho := hs v (List.mem_of_getElem? hv)
      have hk := keyS_len v
      have := ho.str
      right
      rw [if_pos (by omega), idxE_n hv, ref04_Key_eq ho, bndE_s, chkE_p (fit_small (by omega) (by omega)), succI (by omega)]
      refine ⟨_, rfl, ⟨i + 1, rfl, by omega, by simp only [List.length_append]; omega⟩, by simp only [Int.toNat_natCast]; omega, ?_⟩
      simp only [Int.toNat_natCast, hd, keysS_cons, List.append_assoc]
    · left
      rw [if_neg (by omega), List.drop_eq_nil_of_le (by omega)]
      simp [keysS]
  rw [key, bndE_s]
theorem law04_awake_eq : law04_awake = some true := by
  unfold law04_awake
  have h1 : ofS [TValue.mk 3 0 [] true] = [3, 1] := by decide
  have h2 : ofS [TValue.mk 1 1 [] false] = [1, 128, 0, 0, 0, 0, 0, 0, 1] := by decide
  rw [key_Of_eq (by simp) (by simp [I64]), bndE_s, key_Of_eq (by simp) (by simp [I64]), bndE_s, h1, h2]
  simp [iteE_if]
end Go.Ac
