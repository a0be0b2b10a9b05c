/-
  Part of a proof: the plain law, lists and numbers alone.
-/
import Derived.Test.YtgmjbigfneeekaaP20S0
set_option linter.unusedVariables false
set_option linter.unusedSimpArgs false
namespace Go.Ac
/-- values in order, each once -/
def SW (w : List TValue) : Prop := w.Pairwise (fun a b => ltV a b = true) ∧ ∀ v ∈ w, vR v = true
def putW (w : List TValue) (x : TValue) : List TValue := if x ∈ w then w else w.filter (fun y => ltV y x) ++ x :: w.filter fun y => !ltV y x
theorem vR_str {v : TValue} (h : vR v = true) : v.str.length ≤ 9223372036854775807 := by
  rcases vR_parts h with ⟨_, h2, _⟩ | ⟨_, _, _, h4⟩ | ⟨_, _, h3⟩
  · rw [h2]; decide
  · omega
  · rw [h3]; decide
theorem ltV_asym {a b : TValue} (h1 : ltV a b = true) : ltV b a = false := by
  cases h : ltV b a with
  | false => rfl
  | true => have := ltV_trans h1 h; rw [ltV_irr] at this; cases this
theorem SW_lt {w : List TValue} (hw : SW w) {i j : Nat} {y z : TValue} (hi : w[i]? = some y) (hj : w[j]? = some z) (h : i < j) : ltV y z = true := by
  obtain ⟨a1, rfl⟩ := List.getElem?_eq_some_iff.1 hi
  obtain ⟨a2, rfl⟩ := List.getElem?_eq_some_iff.1 hj
  exact List.pairwise_iff_getElem.1 hw.1 i j a1 a2 h
theorem SW_put {w : List TValue} {x : TValue} (hw : SW w) (hx : vR x = true) : SW (putW w x) ∧ (putW w x).length = w.length + (if x ∈ w then 0 else 1) := by
  unfold putW
  split
  · exact ⟨hw, by simp [*]⟩
  · rename_i hn
    refine ⟨⟨?_, fun b hb => ?_⟩, ?_⟩
    · rw [List.pairwise_append, List.pairwise_cons]
      have hgt : ∀ y ∈ w.filter (fun y => !ltV y x), ltV x y = true := fun y hy => by
        obtain ⟨h1, h2⟩ := List.mem_filter.1 hy
        rcases ltV_tot (hw.2 y h1) hx (fun e => hn (e ▸ h1)) with g | g
        · rw [g] at h2; cases h2
        · exact g
      refine ⟨hw.1.filter _, ⟨hgt, hw.1.filter _⟩, fun y hy z hz => ?_⟩
      have hyx := (List.mem_filter.1 hy).2
      rcases List.mem_cons.1 hz with rfl | hz
      · exact hyx
      · exact ltV_trans hyx (hgt z hz)
    · rcases List.mem_append.1 hb with h | h
      · exact hw.2 b (List.mem_filter.1 h).1
      · rcases List.mem_cons.1 h with rfl | h
        · exact hx
        · exact hw.2 b (List.mem_filter.1 h).1
    · have h1 : ∀ w : List TValue, (w.filter fun y => ltV y x).length + (w.filter fun y => !ltV y x).length = w.length := by
        intro w
        induction w with
        | nil => rfl
        | cons y w ih => rw [List.filter_cons, List.filter_cons]; cases ltV y x <;> simp <;> omega
      have h1 := h1 w
      rw [List.length_append, List.length_cons]
      omega
/-- where a value stands, or would -/
def AtW (w : List TValue) (x : TValue) (k : Nat) : Prop := k ≤ w.length ∧ (∀ (j : Nat) y, w[j]? = some y → j < k → ltV y x = true) ∧ (∀ (j : Nat) y, w[j]? = some y → k ≤ j → ltV y x = false)
theorem at_put {w : List TValue} {x : TValue} {k : Nat} (h : AtW w x k) (hn : x ∉ w) : w.take k ++ [x] ++ w.drop k = putW w x := by
  obtain ⟨c1, c2⟩ := cut_filter h.2.1 h.2.2
  unfold putW
  rw [c1, c2, if_neg hn]
  simp
def cmpW (y x : TValue) : Int := if ltV y x = true then -1 else if ltV x y = true then 1 else 0
theorem Put_1_eq {y x : TValue} {s : List TValue} (hy : vR y = true) (hx : vR x = true) : domain_Set_Value_Put_1 y x s = some (cmpW y x) := by
  unfold domain_Set_Value_Put_1 cmpW
  rw [ref03_Less_eq _ _ (vR_str hy) (vR_str hx), ref03_Less_eq _ _ (vR_str hx) (vR_str hy), bndE_s, bndE_s]
  cases ltV y x <;> cases ltV x y <;> rfl
theorem cmpW_lt {y x : TValue} : decide (cmpW y x < 0) = ltV y x := by
  unfold cmpW; cases ltV y x <;> cases ltV x y <;> rfl
theorem bs_vals {w s : List TValue} {x : TValue} (hw : SW w) (hx : vR x = true) (hl : w.length ≤ 1000) :
    ∃ k : Nat, AtW w x k ∧ slices_BinarySearchFunc_Value_Value_Value w x s = some ((k : Int), decide (x ∈ w)) := by
  have hsub : ∀ y ∈ w, domain_Set_Value_Put_1 y x s = some (cmpW y x) := fun y hy => Put_1_eq (hw.2 y hy) hx
  unfold slices_BinarySearchFunc_Value_Value_Value slices_BinarySearchFunc_Value_Value_Value_l1
  obtain ⟨k, hk, hkr, p1, p2⟩ := bs_loop (step := fun s' : Int × Int => slices_BinarySearchFunc_Value_Value_Value_l1_s w s (w.length : Int) x s'.1 s'.2) w.length (fun a => match w[a]? with | some y => ltV y x | none => false)
    (fun i j hij hj => by
      obtain ⟨y, hy, _⟩ := get_lt (l := w) (i := (i + j) / 2) (by omega)
      have hd : decide ((i : Int) < (j : Int)) = true := by simp; omega
      simp only [slices_BinarySearchFunc_Value_Value_Value_l1_s, hd, iteE_t, slices_BinarySearchFunc_Value_Value_Value_b2, midI (show i + j < 4611686018427387904 by omega), idxE_n hy, hsub y (List.mem_of_getElem? hy), bndE_s, slices_BinarySearchFunc_Value_Value_Value_b3, hy, cmpW_lt]
      cases ltV y x with
      | true => simp only [iteE_t, bndE_s, if_true, succI (show (i + j) / 2 < 9223372036854775807 by omega)]
      | false => simp [iteE, bndE])
    (fun i => by simp [slices_BinarySearchFunc_Value_Value_Value_l1_s, iteE])
    (fun a b hab hb h => by
      obtain ⟨y, hy, _⟩ := get_lt (l := w) (i := a) (by omega)
      obtain ⟨z, hz, _⟩ := get_lt (l := w) (i := b) hb
      simp only [hy, hz] at h ⊢
      rcases Nat.lt_or_ge a b with g | g
      · exact ltV_trans (SW_lt hw hy hz g) h
      · have : a = b := by omega
        subst this; rw [hy] at hz; cases hz; exact h)
  have q1 : ∀ (j : Nat) y, w[j]? = some y → j < k → ltV y x = true := fun j s hs hj => by
    have := p1 j hj; simp only [hs] at this; exact this
  have q2 : ∀ (j : Nat) y, w[j]? = some y → k ≤ j → ltV y x = false := fun j s hs hj => by
    have := p2 j hj (getLt hs); simp only [hs] at this; exact this
  refine ⟨k, ⟨hk, q1, q2⟩, ?_⟩
  rw [hkr, bndE_s]
  have hmem : ∀ j : Nat, w[j]? = some x → j = k := fun j hj => by
    rcases Nat.lt_trichotomy j k with g | g | g
    · have := q1 j x hj g; rw [ltV_irr] at this; cases this
    · exact g
    · obtain ⟨y, hy, _⟩ := get_lt (l := w) (i := k) (by have := getLt hj; omega)
      have h1 := q2 k y hy (Nat.le_refl _)
      rw [SW_lt hw hy hj g] at h1; cases h1
  by_cases h : k < w.length
  · obtain ⟨y, hy, _⟩ := get_lt h
    rw [iteP, if_pos (by omega), idxE_n hy, hsub y (List.mem_of_getElem? hy), bndE_s]
    have hge := q2 k y hy (Nat.le_refl _)
    congr 2
    rw [decide_eq_decide]
    unfold cmpW
    rw [hge, if_neg (by simp)]
    constructor
    · intro hc
      rcases (Classical.em (y = x)) with e | e
      · exact e ▸ List.mem_of_getElem? hy
      · rcases ltV_tot (hw.2 y (List.mem_of_getElem? hy)) hx e with g | g
        · rw [hge] at g; cases g
        · rw [if_pos g] at hc; cases hc
    · intro hm
      obtain ⟨j, hj⟩ := List.mem_iff_getElem?.1 hm
      have := hmem j hj
      subst this
      rw [hy] at hj; cases hj
      rw [ltV_irr]; rfl
  · rw [iteP, if_neg (by omega)]
    congr 2
    symm
    rw [decide_eq_false_iff_not]
    intro hm
    obtain ⟨j, hj⟩ := List.mem_iff_getElem?.1 hm
    have := hmem j hj
    have := getLt hj
    omega
theorem Put_v3_eq {w : List TValue} {x : TValue} (hw : SW w) (hx : vR x = true) (hl : w.length ≤ 900) : domain_Set_Value_Put_v3 x w = some (!decide (x ∈ w), putW w x) := by
  unfold domain_Set_Value_Put_v3 domain_Set_Value_Put_v3_b1
  obtain ⟨k, hk, hb⟩ := bs_vals (s := w) hw hx (by omega)
  rw [hb, bndE_s]
  by_cases hm : x ∈ w
  · simp [hm, iteE, bndE, putW]
  · have hin : slices_Insert_Value_Value_v2 (k : Int) w [x] = some (putW w x) := by
      unfold slices_Insert_Value_Value_v2 insE
      have := hk.1
      rw [if_pos ⟨by omega, by omega, by simp, fit_small (by simp; omega) (by decide)⟩, Int.toNat_natCast, at_put hk hm]
    simp only [hm, decide_false, Bool.not_false, iteE_t]
    rw [hin]; rfl
theorem sub_take {α : Type} (w : List α) (k : Nat) : sub w 0 (k : Int) = w.take k := by simp [sub]
theorem sub_drop {α : Type} (w : List α) (k : Nat) : sub w (k : Int) (w.length : Int) = w.drop k := by simp [sub]
theorem ref20_Put_eq {w : List TValue} {x : TValue} (hw : SW w) (hx : vR x = true) (hl : w.length ≤ 900) : ref20_Put w x = some (putW w x) := by
  unfold ref20_Put ref20_Put_l1
  obtain ⟨t, ht, k, hk, rfl, p1, p2⟩ := loopE_ex (step := fun s => ref20_Put_l1_s w x s) (fun s => ∃ i : Nat, s = (i : Int) ∧ i ≤ w.length ∧ ∀ (j : Nat) s, w[j]? = some s → i ≤ j → ltV x s = true) (fun s => s.toNat)
    (fun t => ∃ k : Nat, k ≤ w.length ∧ t = (k : Int) ∧ (∀ (j : Nat) s, w[j]? = some s → k = j + 1 → ltV x s = false) ∧ ∀ (j : Nat) s, w[j]? = some s → k ≤ j → ltV x s = true)
    (by
      rintro s ⟨i, rfl, hi, hj⟩
      cases i with
      | zero => exact .inl ⟨0, by simp [ref20_Put_l1_s, iteE], 0, by omega, rfl, fun j s _ h => by omega, hj⟩
      | succ i =>
        obtain ⟨y, hy, _⟩ := get_lt (l := w) (i := i) (by omega)
        have hyR := hw.2 y (List.mem_of_getElem? hy)
        have e : intVal .sub .i64 ((i + 1 : Nat) : Int) 1 = (i : Int) := by rw [subI (by omega) (by omega)]; omega
        have hd : decide ((0 : Int) < ((i + 1 : Nat) : Int)) = true := by simp
        simp only [ref20_Put_l1_s, hd, iteE_t, e, idxE_n hy, ref03_Less_eq _ _ (vR_str hx) (vR_str hyR), bndE_s]
        cases h : ltV x y with
        | true =>
          refine .inr ⟨_, by simp only [iteE_t], ⟨i, rfl, by omega, fun j s hs hij => ?_⟩, by omega⟩
          rcases Nat.eq_or_lt_of_le hij with g | g
          · subst g; rw [hy] at hs; cases hs; exact h
          · exact hj j s hs g
        | false =>
          refine .inl ⟨_, by simp only [iteE_f], i + 1, hi, rfl, fun j s hs hij => ?_, hj⟩
          have : j = i := by omega
          subst this; rw [hy] at hs; cases hs; exact h)
    (w.length : Int) ⟨w.length, rfl, Nat.le_refl _, fun j s hs hij => by have := getLt hs; omega⟩
  rw [ht, bndE_s]
  have hrest : (∀ y, w[k - 1]? = some y → 0 < k → y ≠ x) → (chkE ((0 : Int) ≤ 0 ∧ (0 : Int) ≤ (k : Int) ∧ (k : Int) ≤ (w.length : Int)) (
     chkE (fit ([] : List TValue).length (sub w 0 (k : Int)).length 40) (
      chkE (fit (([] : List TValue) ++ (sub w 0 (k : Int))).length [x].length 40) (
       chkE ((0 : Int) ≤ (k : Int) ∧ ((k : Int) : Int) ≤ (w.length : Int) ∧ (w.length : Int) ≤ (w.length : Int)) (
        chkE (fit ((([] : List TValue) ++ (sub w 0 (k : Int))) ++ [x]).length (sub w (k : Int) (w.length : Int)).length 40) (
         some (((([] : List TValue) ++ (sub w 0 (k : Int))) ++ [x]) ++ (sub w (k : Int) (w.length : Int)))))))) : Option (List TValue)) = some (putW w x) := by
    intro hne
    have hlt : ∀ (j : Nat) y, w[j]? = some y → j < k → ltV y x = true := fun j y hy hj => by
      obtain ⟨z, hz, _⟩ := get_lt (l := w) (i := k - 1) (by omega)
      have h1 := p1 (k - 1) z hz (by omega)
      have h2 := hne z hz (by omega)
      have h3 : ltV z x = true := by
        rcases ltV_tot (hw.2 z (List.mem_of_getElem? hz)) hx h2 with g | g
        · exact g
        · rw [h1] at g; cases g
      rcases Nat.lt_or_ge j (k - 1) with g | g
      · exact ltV_trans (SW_lt hw hy hz g) h3
      · have : j = k - 1 := by omega
        subst this; rw [hz] at hy; cases hy; exact h3
    have hAt : AtW w x k := ⟨hk, hlt, fun j y hy hj => ltV_asym (p2 j y hy hj)⟩
    have hn : x ∉ w := fun hm => by
      obtain ⟨j, hj⟩ := List.mem_iff_getElem?.1 hm
      rcases Nat.lt_or_ge j k with g | g
      · have := hlt j x hj g; rw [ltV_irr] at this; cases this
      · have := p2 j x hj g; rw [ltV_irr] at this; cases this
    rw [sub_take, sub_drop, chkE_p (by omega), chkF (by simp; omega) (by decide), chkF (by simp; omega) (by decide), chkE_p (by omega), chkF (by simp; omega) (by decide), List.nil_append, at_put hAt hn]
  rw [iteP]
  split
  · rename_i h0
    obtain ⟨y, hy, _⟩ := get_lt (l := w) (i := k - 1) (by omega)
    have e : intVal .sub .i64 (k : Int) 1 = ((k - 1 : Nat) : Int) := by rw [subI (by omega) (by omega)]; omega
    rw [e, idxE_n hy, TValue.eqb_dec]
    by_cases hyx : y = x
    · subst hyx
      have hm := List.mem_of_getElem? hy
      simp [iteE, putW, hm]
    · simp only [hyx, decide_false, iteE_f]
      exact hrest fun z hz _ => by rw [hy] at hz; cases hz; exact hyx
  · exact hrest fun z hz h => by omega
theorem ref20_Same_refl {w : List TValue} (hl : w.length ≤ 1000) : ref20_Same [w] [w] = some true := by
  unfold ref20_Same ref20_Same_l1
  rw [loop_all0 [w] (fun _ => true) (.inl () : Unit ⊕ Unit) (.inr ())
    (fun i y hy => by
      have hi := getLt hy
      have : i = 0 := by simp at hi; omega
      subst this
      simp only [List.getElem?_cons_zero, Option.some.injEq] at hy
      subst hy
      have h0 : ([w] : List (List TValue))[0]? = some w := rfl
      simp only [ref20_Same_l1_s, ltD h0, iteE_t, idxE_n h0, decide_true, Bool.not_true, iteE_f]
      unfold ref20_Same_l2
      rw [loop_all0 w (fun _ => true) (.inl () : Unit ⊕ Unit) (.inr ())
        (fun i y hy => by
          simp only [ref20_Same_l2_s, idxE_n h0, ltD hy, iteE_t, idxE_n hy, TValue.eqb_dec, decide_true, Bool.not_true, iteE_f, succW hy (show w.length ≤ 9223372036854775807 by omega), if_true])
        (by simp only [ref20_Same_l2_s, idxE_n h0, ltI, iteE_f]), bndE_s]
      simp only [List.all_eq_true, implies_true, if_true, sumE_l]
      rfl)
    (by simp only [ref20_Same_l1_s, ltI, iteE_f]), bndE_s]
  simp [iteE, sumE]
theorem law20_DomainSets_eq (l : List TValue) (hl : l.length ≤ 9223372036854775807) : law20_DomainSets l = some true := by
  unfold law20_DomainSets law20_DomainSets_l1
  rw [awake_eq, iteP]
  split
  · rfl
  rename_i h40
  unfold domain_NewSet_Value_v2
  rw [bndE_s]
  obtain ⟨t, ht, hQ⟩ := loopE_ex (step := fun s : List TValue × Int × List TValue => law20_DomainSets_l1_s l s.1 s.2.1 s.2.2) (fun s => ∃ i : Nat, ∃ w, s = (w, (i : Int), w) ∧ i ≤ l.length ∧ SW w ∧ w.length ≤ i) (fun s => (l.length - s.2.1).toNat)
    (fun t => t = .inl () ∨ t = .inr true)
    (by
      rintro s ⟨i, w, rfl, hi, hw, hwl⟩
      simp only
      rcases Nat.lt_or_ge i l.length with h | h
      · obtain ⟨x, hx, _⟩ := get_lt h
        unfold law20_DomainSets_l1_s
        simp only [ltD hx, iteE_t, idxE_n hx, awake_eq, iteP]
        split
        · exact .inl ⟨_, rfl, .inr rfl⟩
        rw [ref03_Right_eq, bndE_s]
        cases hv : vR x with
        | false => exact .inl ⟨_, rfl, .inr rfl⟩
        | true =>
          right
          have hp := SW_put hw hv
          have hpl : (putW w x).length ≤ w.length + 1 := by rw [hp.2]; split <;> omega
          have hlen : decide ((w.length : Int) < ((putW w x).length : Int)) = !decide (x ∈ w) := by
            rw [hp.2]
            by_cases hm : x ∈ w
            · simp [hm]
            · rw [if_neg hm]; simp only [hm, decide_false, Bool.not_false, decide_eq_true_eq]; omega
          refine ⟨(putW w x, ((i + 1 : Nat) : Int), putW w x), ?_, ⟨i + 1, putW w x, rfl, by omega, hp.1, by omega⟩, by simp only; omega⟩
          unfold domain_Set_Value_All slices_Clone_Value_Value cloneE
          simp only [Bool.not_true, iteE_f]
          rw [ref20_Put_eq hw hv (by omega), bndE_s, Put_v3_eq hw hv (by omega), bndE_s]
          simp only
          rw [hlen, if_pos (fit_small (by omega) (by decide)), succW hx hl]
          simp only [beq_self_eq_true, Bool.not_true, iteE_f, bndE_s]
          rw [ref20_Same_refl (by omega), bndE_s]
          simp only [Bool.not_true, iteE_f]
      · have : i = l.length := by omega
        subst this
        exact .inl ⟨.inl (), by simp only [law20_DomainSets_l1_s, ltI, iteE_f], .inl rfl⟩)
    ([], 0, []) ⟨0, [], rfl, by omega, ⟨List.Pairwise.nil, by simp⟩, by simp⟩
  rw [ht, bndE_s]
  rcases hQ with rfl | rfl
  · rfl
  · rfl
end Go.Ac
