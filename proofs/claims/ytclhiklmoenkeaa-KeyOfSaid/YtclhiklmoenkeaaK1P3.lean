/-
  Part of a proof: the plain law, lists and numbers alone.
-/
import Derived.Test.YtclhiklmoenkeaaK1P2
set_option linter.unusedVariables false
set_option linter.unusedSimpArgs false
namespace Go.Ac
/-- a text at the beginning of bytes, and how many bytes it has -/
def rdText : List UInt8 → Option (List UInt8 × Nat)
  | [] => none
  | c :: b => if c = 0 then match b with
      | [] => none
      | d :: b' => if d = 255 then (rdText b').map fun p => (0 :: p.1, p.2 + 2) else if d = 1 then some ([], 2) else none
    else (rdText b).map fun p => (c :: p.1, p.2 + 1)
def txOut (w : List UInt8) (i : Nat) : Option (List UInt8 × Nat) → Unit ⊕ (List UInt8 × Int)
  | none => .inl ()
  | some p => .inr (w ++ p.1, ((i + p.2 : Nat) : Int))
theorem get_drop {α : Type} {l : List α} {i : Nat} {x : α} {r : List α} (h : l.drop i = x :: r) : l[i]? = some x ∧ l.drop (i + 1) = r ∧ i < l.length := by
  have h1 : l[i]? = some x := by
    have := congrArg (fun z => z[0]?) h
    simpa using this
  refine ⟨h1, ?_, (List.getElem?_eq_some_iff.1 h1).1⟩
  rw [← List.drop_drop, h]; rfl
theorem key_cutText_l1_eq' (s : List UInt8) (hs : s.length ≤ 1000000) : ∀ (n i : Nat) (w : List UInt8), s.length - i < n → i ≤ s.length → w.length ≤ i → key_cutText_l1 s (i : Int) w = some (txOut w i (rdText (s.drop i))) := by
  intro n
  induction n with
  | zero => intro i w h; omega
  | succ n ih =>
    intro i w hn hi hw
    rw [key_cutText_l1_eq]
    unfold key_cutText_l1_s key_cutText_b5 key_cutText_b6 key_cutText_b7
    cases hd : s.drop i with
    | nil =>
      have : s.length ≤ i := by
        have := congrArg List.length hd
        simp at this; omega
      simp only [iteE_if, decide_eq_true_eq]
      rw [if_neg (by omega), nextE_r]
      rfl
    | cons c r =>
      obtain ⟨hc, hr, hlt⟩ := get_drop hd
      have f1 : fit w.length [c].length 1 := fit_small (by simp; omega) (by omega)
      have f2 : fit w.length [(0 : UInt8)].length 1 := fit_small (by simp; omega) (by omega)
      have hpos : (i : Int) < s.length := by omega
      simp only [idxE_n hc, chkE_p f1, chkE_p f2, u8_dec, iteE_if, decide_eq_true_eq, Bool.not_eq_true', decide_eq_false_iff_not, hpos, if_true, succI (show i < 9223372036854775807 by omega), succ2I (show i < 9223372036854775806 by omega)]
      by_cases h0 : c = 0
      · subst h0
        simp only [not_true_eq_false, if_false]
        cases hr2 : r with
        | nil =>
          rw [hr2] at hr
          have : ¬ ((i + 1 : Nat) : Int) < s.length := by
            have := congrArg List.length hr
            simp at this; omega
          simp only [this, if_false, bndE_s, sumE_r, sumE_l, nextE_r]
          simp [rdText, txOut]
        | cons d r' =>
          rw [hr2] at hr
          obtain ⟨hc2, hr3, hlt2⟩ := get_drop hr
          have hp2 : ((i + 1 : Nat) : Int) < s.length := by omega
          simp only [hp2, if_true, idxE_n hc2]
          by_cases h255 : d = 255
          · subst h255
            simp only [if_true, bndE_s, sumE_l, nextE_l]
            rw [ih (i + 2) _ (by omega) (by omega) (by simp; omega), hr3]
            simp only [rdText, if_true]
            cases rdText r' with
            | none => rfl
            | some p => simp [txOut]; omega
          · by_cases h1 : d = 1
            · subst h1
              simp only [h255, if_false, if_true, bndE_s, sumE_r, nextE_r]
              simp [rdText, txOut]
            · simp only [h255, h1, if_false, bndE_s, sumE_r, sumE_l, nextE_r]
              simp [rdText, txOut, h255, h1]
      · simp only [h0, not_false_eq_true, if_true, bndE_s, sumE_l, nextE_l]
        rw [ih (i + 1) _ (by omega) (by omega) (by simp; omega), hr]
        have e : rdText (c :: r) = (rdText r).map fun p => (c :: p.1, p.2 + 1) := by rw [rdText.eq_def]; simp only [h0, if_false]
        rw [e]
        cases rdText r with
        | none => rfl
        | some p => simp [txOut]; omega
theorem key_cutText_eq (s : List UInt8) (hs : s.length ≤ 1000000) : key_cutText s = some (match rdText s with | none => ([], 0) | some p => (p.1, (p.2 : Int))) := by
  unfold key_cutText
  have := key_cutText_l1_eq' s hs (s.length + 1) 0 [] (by omega) (by omega) (by simp)
  rw [List.drop_zero] at this
  rw [show key_cutText_l1 s 0 [] = _ from this, bndE_s]
  cases rdText s with
  | none => rfl
  | some p => simp [txOut, sumE_r]

/-! ### a number -/
def be (l : List UInt8) : Nat := l.foldl (fun u c => 256 * u + c.toNat) 0
theorem be_snoc (l : List UInt8) (c : UInt8) : be (l ++ [c]) = 256 * be l + c.toNat := by simp [be]
theorem be_lt (l : List UInt8) : be l < 256 ^ l.length := by
  suffices h : ∀ (l : List UInt8) (u k : Nat), u < 256 ^ k → l.foldl (fun u c => 256 * u + c.toNat) u < 256 ^ (k + l.length) by
    have := h l 0 0 (by decide)
    simpa [be] using this
  intro l
  induction l with
  | nil => intro u k h; simpa using h
  | cons c l ih =>
    intro u k h
    have hc := c.toNat_lt
    have := ih (256 * u + c.toNat) (k + 1) (by rw [Nat.pow_succ]; omega)
    simp only [List.foldl_cons, List.length_cons]
    rw [show k + (l.length + 1) = k + 1 + l.length by omega]
    exact this
theorem or_low {u c : Nat} (h : c < 256) : (u * 2 ^ 8) ||| c = 256 * u + c := by
  rw [Nat.mul_comm u, ← Nat.two_pow_add_eq_or_of_lt (by simpa using h)]
theorem pow8 {k : Nat} (h : k ≤ 7) : 256 ^ k ≤ 72057594037927936 := by
  have : 256 ^ k ≤ 256 ^ 7 := Nat.pow_le_pow_right (by omega) h
  simpa using this
theorem key_cut_l5_eq' (z : TValue) (l : List UInt8) (h8 : l.length ≤ 8) : ∀ (n i : Nat), l.length - i < n → i ≤ l.length → key_cut_l5 l (l.length : Int) z (be (l.take i) : Int) (i : Int) = some (be l : Int) := by
  intro n
  induction n with
  | zero => intro i h; omega
  | succ n ih =>
    intro i hn hi
    rw [key_cut_l5_eq]
    unfold key_cut_l5_s
    simp only [iteE_if, decide_eq_true_eq]
    by_cases hlt : i < l.length
    · obtain ⟨c, hc, hd⟩ := get_lt hlt
      have hb := be_lt (l.take i)
      rw [List.length_take, Nat.min_eq_left hi] at hb
      have hb2 : be (l.take i) < 72057594037927936 := Nat.lt_of_lt_of_le hb (pow8 (by omega))
      have hcl := c.toNat_lt
      rw [if_pos (by omega), idxE_n hc, nextE_l, succI (by omega), show intVal .shl .u64 ((be (l.take i) : Nat) : Int) 8 = ((be (l.take i) * 2 ^ 8 % 18446744073709551616 : Nat) : Int) from shlU (k := 8) (by omega)]
      have e1 : be (l.take i) * 2 ^ 8 % 18446744073709551616 = be (l.take i) * 2 ^ 8 := Nat.mod_eq_of_lt (by omega)
      rw [e1, orU (by omega) (by omega), or_low (by simpa using hcl)]
      have e2 : 256 * be (l.take i) + c.toNat = be (l.take (i + 1)) := by
        rw [← be_snoc, List.take_add_one, hc]; rfl
      rw [e2]
      exact ih (i + 1) (by omega) (by omega)
    · rw [if_neg (by omega), nextE_r, List.take_of_length_le (by omega)]
theorem ref04_Read_l1_eq' (z : TValue) (l : List UInt8) (h9 : 9 ≤ l.length) : ∀ (n i : Nat), 9 - i < n → 1 ≤ i → i ≤ 9 → ref04_Read_l1 l z (be ((l.take i).drop 1) : Int) (i : Int) = some (be ((l.take 9).drop 1) : Int) := by
  intro n
  induction n with
  | zero => intro i h; omega
  | succ n ih =>
    intro i hn h1 hi
    rw [ref04_Read_l1_eq]
    unfold ref04_Read_l1_s
    simp only [iteE_if, decide_eq_true_eq]
    by_cases hlt : i < 9
    · obtain ⟨c, hc, hd⟩ := get_lt (l := l) (i := i) (by omega)
      have hb := be_lt ((l.take i).drop 1)
      rw [List.length_drop, List.length_take, Nat.min_eq_left (by omega)] at hb
      have hb2 : be ((l.take i).drop 1) < 72057594037927936 := Nat.lt_of_lt_of_le hb (pow8 (by omega))
      have hcl := c.toNat_lt
      rw [if_pos (by omega), idxE_n hc, nextE_l, succI (by omega), show intVal .mul .u64 256 ((be ((l.take i).drop 1) : Nat) : Int) = ((256 * be ((l.take i).drop 1) % 18446744073709551616 : Nat) : Int) from mulU (n := 256)]
      rw [Nat.mod_eq_of_lt (by omega), addU, Nat.mod_eq_of_lt (by omega)]
      have e2 : 256 * be ((l.take i).drop 1) + c.toNat = be ((l.take (i + 1)).drop 1) := by
        rw [← be_snoc, List.take_add_one, hc]
        rw [List.drop_append_of_le_length (by rw [List.length_take]; omega)]; rfl
      rw [e2]
      exact ih (i + 1) (by omega) (by omega) (by omega)
    · have : i = 9 := by omega
      subst this
      rw [if_neg (by omega), nextE_r]
def unb (u : Nat) : Int := (u : Int) - 9223372036854775808
theorem unb_xor {u : Nat} (h : u < 18446744073709551616) : IntKind.wrap .i64 (intVal .xor .u64 (u : Int) 9223372036854775808) = unb u := by
  rw [show intVal .xor .u64 (u : Int) 9223372036854775808 = ((u ^^^ 9223372036854775808 : Nat) : Int) from xorU h (m := 9223372036854775808) (by omega), xor_top' h, wrapI_eq]
  unfold unb; omega
theorem unb_sub {u : Nat} (h : u < 18446744073709551616) : IntKind.wrap .i64 (intVal .sub .u64 (u : Int) 9223372036854775808) = unb u := by
  show IntKind.wrap .i64 (IntKind.wrap .u64 ((u : Int) - 9223372036854775808)) = _
  rw [wrapU, wrapI_eq]
  unfold unb; omega
/-- the value at the beginning of bytes -/
def rd : List UInt8 → Option (TValue × Nat)
  | [] => none
  | t :: b => if t = 3 then match b with
      | [] => none
      | c :: _ => if c.toNat ≤ 1 then some (⟨3, 0, [], decide (c = 1)⟩, 2) else none
    else if t = 1 then (if 8 ≤ b.length then some (⟨1, unb (be (b.take 8)), [], false⟩, 9) else none)
    else if t = 2 then match rdText b with
      | none => none
      | some p => if p.1.length ≤ 4096 then some (⟨2, 0, p.1, false⟩, p.2 + 1) else none
    else none
def Z : TValue := ⟨0, 0, [], false⟩
def rdOut : Option (TValue × Nat) → TValue × Int
  | none => (Z, 0)
  | some p => (p.1, (p.2 : Int))
theorem be8_lt (b : List UInt8) (h : 8 ≤ b.length) : be (b.take 8) < 18446744073709551616 := by
  have := be_lt (b.take 8)
  rw [List.length_take, Nat.min_eq_left h] at this
  simpa using this
theorem rdText_pos : ∀ {b : List UInt8} {p : List UInt8 × Nat}, rdText b = some p → 0 < p.2 := by
  intro b
  cases b with
  | nil => intro p h; cases h
  | cons c b =>
    intro p h
    unfold rdText at h
    split at h
    · split at h
      · cases h
      · split at h
        · simp only [Option.map_eq_some_iff] at h; obtain ⟨q, _, rfl⟩ := h; simp
        · split at h
          · simp only [Option.some.injEq] at h; subst h; simp
          · cases h
    · simp only [Option.map_eq_some_iff] at h; obtain ⟨q, _, rfl⟩ := h; simp
theorem rdText_spec' : ∀ (n : Nat) {b : List UInt8} {p : List UInt8 × Nat}, b.length ≤ n → rdText b = some p → p.2 ≤ b.length ∧ b.take p.2 = esc p.1 ++ [0, 1] := by
  intro n
  induction n with
  | zero =>
    intro b p hb h
    have : b = [] := List.eq_nil_of_length_eq_zero (by omega)
    subst this; cases h
  | succ n ih =>
    intro b p hb h
    cases b with
    | nil => cases h
    | cons c b =>
      simp only [List.length_cons] at hb
      unfold rdText at h
      split at h
      · rename_i hc
        subst hc
        split at h
        · cases h
        · rename_i d b'
          simp only [List.length_cons] at hb
          split at h
          · rename_i hd
            subst hd
            simp only [Option.map_eq_some_iff] at h
            obtain ⟨q, hq, rfl⟩ := h
            obtain ⟨h1, h2⟩ := ih (by omega) hq
            exact ⟨by simp; omega, by simp [esc, h2]⟩
          · split at h
            · rename_i hd
              subst hd
              simp only [Option.some.injEq] at h
              subst h
              exact ⟨by simp, by simp [esc]⟩
            · cases h
      · rename_i hc
        simp only [Option.map_eq_some_iff] at h
        obtain ⟨q, hq, rfl⟩ := h
        obtain ⟨h1, h2⟩ := ih (by omega) hq
        exact ⟨by simp; omega, by simp [esc, hc, h2]⟩
theorem rdText_spec {b : List UInt8} {p : List UInt8 × Nat} (h : rdText b = some p) : p.2 ≤ b.length ∧ b.take p.2 = esc p.1 ++ [0, 1] := rdText_spec' _ (Nat.le_refl _) h
theorem key_cut_eq (b : List UInt8) (hb : b.length ≤ 1000000) : key_cut b = some (rdOut (rd b)) := by
  unfold key_cut
  simp only [iteE_if, decide_eq_true_eq]
  match b, hb with
  | [], _ => simp [rd, rdOut, Z]
  | [t], _ =>
    simp only [List.length_cons, List.length_nil]
    rw [if_pos (by omega)]
    have : rd [t] = none := by
      unfold rd
      by_cases t3 : t = 3
      · simp [t3]
      · by_cases t1 : t = 1
        · simp [t1]
        · simp [t3, t1, rdText]
    rw [this]; rfl
  | t :: c :: r, hb =>
    simp only [List.length_cons] at hb
    rw [if_neg (by simp only [List.length_cons]; omega), idxE_0]
    unfold key_cut_b1 key_cut_b2 key_cut_b3 key_cut_b4
    simp only [iteE_if, decide_eq_true_eq]
    have hk : ∀ k : UInt8, ((t.toNat : Int) = (k.toNat : Int)) ↔ t = k := fun k => u8_inj
    have h3 : ((t.toNat : Int) = 3) ↔ t = 3 := hk 3
    have h2 : ((t.toNat : Int) = 2) ↔ t = 2 := hk 2
    have h1 : ((t.toNat : Int) = 1) ↔ t = 1 := hk 1
    simp only [h3, h2, h1]
    by_cases t3 : t = 3
    · subst t3
      simp only [if_true, idxE_1]
      have hc : ((c.toNat : Int) ≤ ((1 : UInt8).toNat : Int)) ↔ c.toNat ≤ 1 := by
        have : ((1 : UInt8).toNat : Int) = 1 := rfl
        rw [this]; omega
      simp only [hc]
      by_cases hc1 : c.toNat ≤ 1
      · simp only [hc1, if_true, value_Bool, bndE_s, sumE_r, u8_dec]
        simp [rd, hc1, rdOut]
      · simp only [hc1, if_false, bndE_s, sumE_l]
        simp [rd, hc1, rdOut, Z]
    · simp only [t3, if_false]
      by_cases t2 : t = 2
      · subst t2
        simp only [if_true]
        rw [chkE_p (by simp only [List.length_cons]; omega), show sub ((2 : UInt8) :: c :: r) 1 ((((2 : UInt8) :: c :: r).length : Nat) : Int) = c :: r from by
          have := sub_end ((2 : UInt8) :: c :: r) 1
          simpa using this]
        rw [key_cutText_eq _ (by simp only [List.length_cons]; omega), bndE_s]
        unfold rd
        simp only [show ((2 : UInt8) = 3) = False from by simp, show ((2 : UInt8) = 1) = False from by simp, if_false, if_true]
        cases hx : rdText (c :: r) with
        | none => simp [bndE_s, sumE_l, rdOut, Z]
        | some p =>
          have hp := rdText_pos hx
          have hpp : (0 : Int) < (p.2 : Int) := by omega
          simp only [hpp, if_true]
          by_cases hl : p.1.length ≤ 4096
          · have : (p.1.length : Int) ≤ 4096 := by omega
            have hn : p.2 ≤ 1000002 ∨ True := .inr trivial
            simp only [this, hl, if_true, value_Str, bndE_s, sumE_r, rdOut]
            have := (rdText_spec hx).1
            simp only [List.length_cons] at this
            rw [succI (by omega)]
          · have : ¬ (p.1.length : Int) ≤ 4096 := by omega
            simp only [this, hl, if_false, bndE_s, sumE_l, rdOut, Z]
      · simp only [t2, if_false]
        by_cases t1 : t = 1
        · subst t1
          simp only [if_true]
          unfold rd
          simp only [show ((1 : UInt8) = 3) = False from by simp, if_false, if_true]
          by_cases hl : 8 ≤ (c :: r).length
          · simp only [hl, if_true]
            simp only [List.length_cons] at hl
            rw [if_pos (by simp only [List.length_cons]; omega), chkE_p (by simp only [List.length_cons]; omega)]
            have hsub : sub ((1 : UInt8) :: c :: r) 1 9 = (c :: r).take 8 := by
              have := sub_nat ((1 : UInt8) :: c :: r) 1 9
              simpa using this
            have hlen8 : ((c :: r).take 8).length = 8 := by simp only [List.length_take, List.length_cons]; omega
            rw [hsub]
            have := key_cut_l5_eq' Z ((c :: r).take 8) (by omega) 9 0 (by omega) (by omega)
            simp only [List.take_zero] at this
            rw [show (TValue.mk 0 0 [] false) = Z from rfl, show (0 : Int) = ((be [] : Nat) : Int) from rfl]
            have e0 : ((0 : Nat) : Int) = ((be [] : Nat) : Int) := rfl
            rw [e0] at this
            rw [this, bndE_s, value_Int, bndE_s, unb_xor (be8_lt _ (by simp only [List.length_cons]; omega))]
            simp only [bndE_s, sumE_r, rdOut]
            rfl
          · simp only [hl, if_false]
            simp only [List.length_cons] at hl
            rw [if_neg (by simp only [List.length_cons]; omega)]
            simp [bndE_s, sumE_l, rdOut, Z]
        · simp only [t1, if_false, bndE_s, sumE_l]
          simp [rd, t3, t2, t1, rdOut, Z]
end Go.Ac
