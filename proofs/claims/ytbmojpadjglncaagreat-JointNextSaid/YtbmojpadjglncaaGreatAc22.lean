/- Own work: how calls of the model run over plain data. -/
import Derived.Test.YtbmojpadjglncaaGreatAc21
set_option linter.unusedVariables false
set_option linter.unusedSimpArgs false
namespace Go.Ac
theorem ai {a b : Prop} (h : a) (k : b) : a ∧ b := ⟨h, k⟩
theorem ti : True := trivial
theorem cut_rw {α : Type} (f : α → D) (l : List α) (i : Int) : (l.map f).take i.toNat ++ [] = (l.take i.toNat).map f := by simp
theorem clr_rw {α : Type} (f : α → D) (l : List α) (i : Int) (z : α) (z0 : D) (hz : f z = z0) : (l.map f).take i.toNat ++ List.replicate ((l.map f).length - i.toNat) z0 = (l.take i.toNat ++ List.replicate (l.length - i.toNat) z).map f := by simp [hz]
theorem le_rw {α : Type} (f : α → D) {l : List α} {i : Int} (h : i ≤ (l.length : Int)) : i ≤ ((l.map f).length : Int) := by rw [List.length_map]; exact h
theorem si {α : Type} {a b : α} (h : some a = some b) : a = b := Option.some.inj h
section
variable {α β γ σ τ : Type}
theorem iteE_t (a b : Option β) : iteE true a b = a := rfl
theorem iteE_f (a b : Option β) : iteE false a b = b := rfl
theorem iteE_if (c : Bool) (a b : Option β) : iteE c a b = if c = true then a else b := by cases c <;> rfl
theorem bndE_s (x : α) (k : α → Option β) : bndE (some x) k = k x := rfl
theorem chkE_p {p : Prop} [Decidable p] (h : p) (k : Option β) : chkE p k = k := if_pos h
theorem sumE_l (a : α) (f : α → Option γ) (g : β → Option γ) : sumE (.inl a) f g = f a := rfl
theorem sumE_r (b : β) (f : α → Option γ) (g : β → Option γ) : sumE (.inr b) f g = g b := rfl
theorem nextE_l (s : σ) (k : σ → Option τ) : nextE (some (.inl s)) k = k s := rfl
theorem nextE_r (t : τ) (k : σ → Option τ) : nextE (some (.inr t)) k = some t := rfl
theorem idxE_n {xs : List α} {n : Nat} {x : α} (h : xs[n]? = some x) (k : α → Option β) : idxE xs (n : Int) k = k x := by
  simp [idxE, h]
theorem idxE_0 {x : α} {xs : List α} (k : α → Option β) : idxE (x :: xs) 0 k = k x := by simp [idxE]
theorem idxE_1 {x y : α} {xs : List α} (k : α → Option β) : idxE (x :: y :: xs) 1 k = k y := by simp [idxE]
theorem loopE_of {step : σ → Option (σ ⊕ τ)} (I : σ → Prop) (μ : σ → Nat) (spec : σ → τ)
    (h : ∀ s, I s → step s = some (.inr (spec s)) ∨ ∃ s', step s = some (.inl s') ∧ I s' ∧ μ s' < μ s ∧ spec s' = spec s) : ∀ s, I s → loopE step s = some (spec s) := by
  have key : ∀ n s, μ s < n → I s → loopE step s = some (spec s) := by
    intro n
    induction n with
    | zero => intro s hs; omega
    | succ n ih =>
      intro s hs hI
      rw [loopE_eq]
      rcases h s hI with h1 | ⟨s', h1, h2, h3, h4⟩
      · rw [h1]; rfl
      · rw [h1, nextE_l, ih s' (by omega) h2, h4]
  exact fun s hI => key (μ s + 1) s (by omega) hI
theorem loopE_ex {step : σ → Option (σ ⊕ τ)} (I : σ → Prop) (μ : σ → Nat) (Q : τ → Prop)
    (h : ∀ s, I s → (∃ t, step s = some (.inr t) ∧ Q t) ∨ ∃ s', step s = some (.inl s') ∧ I s' ∧ μ s' < μ s) : ∀ s, I s → ∃ t, loopE step s = some t ∧ Q t := by
  have key : ∀ n s, μ s < n → I s → ∃ t, loopE step s = some t ∧ Q t := by
    intro n
    induction n with
    | zero => intro s hs; omega
    | succ n ih =>
      intro s hs hI
      rw [loopE_eq]
      rcases h s hI with ⟨t, h1, h2⟩ | ⟨s', h1, h2, h3⟩
      · exact ⟨t, by rw [h1]; rfl, h2⟩
      · rw [h1, nextE_l]; exact ih s' (by omega) h2
  exact fun s hI => key (μ s + 1) s (by omega) hI
end
theorem addI {a b : Int} (h1 : -9223372036854775808 ≤ a + b) (h2 : a + b ≤ 9223372036854775807) : intVal .add .i64 a b = a + b := IntWalk.i64_in _ ⟨h1, h2⟩
theorem subI {a b : Int} (h1 : -9223372036854775808 ≤ a - b) (h2 : a - b ≤ 9223372036854775807) : intVal .sub .i64 a b = a - b := IntWalk.i64_in _ ⟨h1, h2⟩
theorem mulI {a b : Int} (h1 : -9223372036854775808 ≤ a * b) (h2 : a * b ≤ 9223372036854775807) : intVal .mul .i64 a b = a * b := IntWalk.i64_in _ ⟨h1, h2⟩
theorem succI {n : Nat} (h : n < 9223372036854775807) : intVal .add .i64 (n : Int) 1 = ((n + 1 : Nat) : Int) := by
  rw [addI (by omega) (by omega)]; rfl
theorem succ2I {n : Nat} (h : n < 9223372036854775806) : intVal .add .i64 (n : Int) 2 = ((n + 2 : Nat) : Int) := by
  rw [addI (by omega) (by omega)]; rfl
theorem wrapI {a : Int} (h1 : -9223372036854775808 ≤ a) (h2 : a ≤ 9223372036854775807) : IntKind.wrap .i64 a = a := IntWalk.i64_in _ ⟨h1, h2⟩
theorem wrapU (a : Int) : IntKind.wrap .u64 a = a % 18446744073709551616 := by simp [IntKind.wrap, IntKind.signed, IntKind.bits]
theorem wrapI_eq (a : Int) : IntKind.wrap .i64 a = (a + 9223372036854775808) % 18446744073709551616 - 9223372036854775808 := by
  simp [IntKind.wrap, IntKind.signed, IntKind.bits]; omega
theorem fit_small {a b n : Nat} (h : a + b ≤ 1073741824) (hn : n ≤ 131072) : fit a b n := by
  unfold fit
  exact Nat.le_trans (Nat.mul_le_mul h hn) (by decide)
theorem u8_inj {a b : UInt8} : ((a.toNat : Int) = (b.toNat : Int)) ↔ a = b := by
  constructor
  · intro h; exact UInt8.toNat_inj.1 (by omega)
  · intro h; rw [h]
theorem u8_dec (a b : UInt8) : decide ((a.toNat : Int) = (b.toNat : Int)) = decide (a = b) := by
  rw [Bool.eq_iff_iff]; simp [u8_inj]
theorem u8w_nat {n : Nat} (h : n < 256) : (u8w (n : Int)).toNat = n := by
  have := u8w_ok (n : Int)
  have h2 : IntKind.u8.wrap (n : Int) = n := by simp [IntKind.wrap, IntKind.signed, IntKind.bits]; omega
  rw [h2] at this
  omega
theorem drop_cons {α : Type} {l : List α} {i : Nat} {x : α} (h : l[i]? = some x) : l.drop i = x :: l.drop (i + 1) := by
  obtain ⟨h1, h2⟩ := List.getElem?_eq_some_iff.1 h
  rw [List.drop_eq_getElem_cons h1, h2]
theorem get_lt {α : Type} {l : List α} {i : Nat} (h : i < l.length) : ∃ x, l[i]? = some x ∧ l.drop i = x :: l.drop (i + 1) :=
  ⟨_, List.getElem?_eq_getElem h, List.drop_eq_getElem_cons h⟩
theorem sub_nat {α : Type} (xs : List α) (l h : Nat) : sub xs (l : Int) (h : Int) = (xs.take h).drop l := by simp [sub]
theorem sub_end {α : Type} (xs : List α) (l : Nat) : sub xs (l : Int) (xs.length : Int) = xs.drop l := by simp [sub]
end Go.Ac
namespace Go.Ac
theorem bv_nat (n : Nat) (h : n < 18446744073709551616) : (BitVec.ofInt 64 (n : Int)).toNat = n := by
  simp [BitVec.toNat_ofInt]; omega
theorem wrapU_nat {n : Nat} (h : n < 18446744073709551616) : IntKind.wrap .u64 (n : Int) = n := by rw [wrapU]; omega
theorem xorU {n m : Nat} (hn : n < 18446744073709551616) (hm : m < 18446744073709551616) : intVal .xor .u64 (n : Int) (m : Int) = ((n ^^^ m : Nat) : Int) := by
  have h : n ^^^ m < 2 ^ 64 := Nat.xor_lt_two_pow (by simpa using hn) (by simpa using hm)
  show IntKind.wrap .u64 (((BitVec.ofInt 64 (n : Int)) ^^^ (BitVec.ofInt 64 (m : Int))).toNat : Int) = _
  rw [BitVec.toNat_xor, bv_nat n hn, bv_nat m hm]
  exact wrapU_nat (by simpa using h)
theorem orU {n m : Nat} (hn : n < 18446744073709551616) (hm : m < 18446744073709551616) : intVal .or .u64 (n : Int) (m : Int) = ((n ||| m : Nat) : Int) := by
  have h : n ||| m < 2 ^ 64 := Nat.or_lt_two_pow (by simpa using hn) (by simpa using hm)
  show IntKind.wrap .u64 (((BitVec.ofInt 64 (n : Int)) ||| (BitVec.ofInt 64 (m : Int))).toNat : Int) = _
  rw [BitVec.toNat_or, bv_nat n hn, bv_nat m hm]
  exact wrapU_nat (by simpa using h)
theorem andU {n m : Nat} (hn : n < 18446744073709551616) (hm : m < 18446744073709551616) : intVal .and .u64 (n : Int) (m : Int) = ((n &&& m : Nat) : Int) := by
  have h : n &&& m < 2 ^ 64 := Nat.and_lt_two_pow _ (by simpa using hm)
  show IntKind.wrap .u64 (((BitVec.ofInt 64 (n : Int)) &&& (BitVec.ofInt 64 (m : Int))).toNat : Int) = _
  rw [BitVec.toNat_and, bv_nat n hn, bv_nat m hm]
  exact wrapU_nat (by simpa using h)
theorem shrU {n k : Nat} (hk : k ≤ 64) : intVal .shr .u64 (n : Int) (k : Int) = ((n / 2 ^ k : Nat) : Int) := by
  show Int.fdiv (n : Int) (2 ^ (min (k : Int).toNat 64)) = _
  rw [Int.toNat_natCast, Nat.min_eq_left hk]
  rw [Int.fdiv_eq_ediv_of_nonneg _ (Int.pow_nonneg (by decide))]
  rw [Int.natCast_ediv, Int.natCast_pow]; rfl
theorem shlU {n k : Nat} (hk : k ≤ 64) : intVal .shl .u64 (n : Int) (k : Int) = ((n * 2 ^ k % 18446744073709551616 : Nat) : Int) := by
  show IntKind.wrap .u64 ((n : Int) * 2 ^ (min (k : Int).toNat 64)) = _
  rw [Int.toNat_natCast, Nat.min_eq_left hk, wrapU, Int.natCast_emod, Int.natCast_mul, Int.natCast_pow]; rfl
theorem addU {n m : Nat} : intVal .add .u64 (n : Int) (m : Int) = (((n + m) % 18446744073709551616 : Nat) : Int) := by
  show IntKind.wrap .u64 ((n : Int) + m) = _
  rw [wrapU]; omega
theorem mulU {n m : Nat} : intVal .mul .u64 (n : Int) (m : Int) = (((n * m) % 18446744073709551616 : Nat) : Int) := by
  show IntKind.wrap .u64 ((n : Int) * m) = _
  rw [wrapU, Int.natCast_emod, Int.natCast_mul]; rfl
end Go.Ac
