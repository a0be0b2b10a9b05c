/-
  Part of a proof: the plain law, lists and numbers alone.
-/
import Derived.Test.YtlimmomloedalaaP27b
set_option linter.unusedVariables false
set_option linter.unusedSimpArgs false
namespace Go.Ac
theorem slices_Clone_Row_Row_eq {l : List TRow} (hl : l.length ≤ 1000) : slices_Clone_Row_Row l = some l := by
  unfold slices_Clone_Row_Row cloneE
  rw [if_pos (fit_small (by omega) (by decide))]
def bel (l : List TRow) (x : TRow) : List TRow := greatS (l.filter fun r => !decide (r.bind = x.bind)) x.bind
def spareS (l : List TRow) (x : TRow) : Bool := !(bel l x).isEmpty && (bel l x).all fun y => decide (x.set = y.set)
theorem RO.bel {l : List TRow} (h : RO l) (x : TRow) : RO (bel l x) := (h.filter _).great _
theorem prune_Below_eq {l : List TRow} (hl : RO l) {n : Nat} {x : TRow} (hx : l[n]? = some x) : prune_Below l n = some (bel l x) := by
  unfold prune_Below
  have := getLt hx
  rw [iteP, if_neg (by omega), iteP, if_neg (by omega), idxE_n hx, prune_keep_Row_eq _ hl, bndE_s, extend_Greatest_eq (hl.filter _) (hl.get hx).len, bndE_s]
  rfl
theorem prune_Below_out {l : List TRow} {n : Int} (h : n < 0 ∨ (l.length : Int) ≤ n) : prune_Below l n = some [] := by
  unfold prune_Below
  rw [iteP, iteP]
  split
  · rfl
  · rw [if_pos (by omega)]
theorem prune_alike_Row_eq {l : List TRow} {x : TRow} (hl : RO l) (hx : RowOk x) : prune_alike_Row l x = some (l.all fun y => decide (x.set = y.set)) := by
  unfold prune_alike_Row slices_ContainsFunc_Row_Row_v2 slices_IndexFunc_Row_Row_v2 slices_IndexFunc_Row_Row_v2_l1
  rw [loop_index l (fun y => !decide (x.set = y.set))
    (fun i y hy => by
      simp only [slices_IndexFunc_Row_Row_v2_l1_s, ltD hy, iteE_t, idxE_n hy, prune_alike_Row_1, prune_sameSet, config_Same_eq hx.2, bndE_s, succW hy hl.len, iteE_if, if_true]
      cases decide (x.set = y.set) <;> rfl)
    (by simp only [slices_IndexFunc_Row_Row_v2_l1_s, ltI, iteE_f])]
  have e : l.any (fun y => !decide (x.set = y.set)) = !l.all (fun y => decide (x.set = y.set)) := by rw [List.not_all_eq_any_not]
  rw [e]
  cases l.all (fun y => decide (x.set = y.set)) <;> simp [bndE, sumE]
theorem isEmpty_len {α : Type} (l : List α) : decide ((0 : Int) < (l.length : Int)) = !l.isEmpty := by cases l <;> simp
theorem prune_Spare_eq {l : List TRow} (hl : RO l) {n : Nat} {x : TRow} (hx : l[n]? = some x) : prune_Spare l n = some (spareS l x) := by
  unfold prune_Spare
  rw [prune_Below_eq hl hx, bndE_s, isEmpty_len, idxE_n hx, prune_alike_Row_eq (hl.bel x) (hl.get hx)]
  unfold spareS
  cases (bel l x).isEmpty <;> simp [iteE, bndE]
theorem prune_Spare_out {l : List TRow} {n : Int} (h : n < 0 ∨ (l.length : Int) ≤ n) : prune_Spare l n = some false := by
  unfold prune_Spare
  rw [prune_Below_out h]; simp [bndE, iteE]
def cutAtS (w : List TRow) (n : Nat) : List TRow := match w[n]? with
  | some x => if spareS w x = true then w.take n ++ w.drop (n + 1) else w
  | none => w
def pruneS : Nat → List TRow → List TRow
  | 0, w => w
  | n + 1, w => pruneS n (cutAtS w n)
theorem RO.sub {l l' : List TRow} (h : RO l) (hs : l'.Sublist l) : RO l' := ⟨Nat.le_trans hs.length_le h.1, fun r hr => h.2 r (hs.subset hr)⟩
theorem cutAtS_sub (w : List TRow) (n : Nat) : (cutAtS w n).Sublist w := by
  unfold cutAtS
  split
  · split
    · have : (w.take n ++ w.drop (n + 1)).Sublist (w.take n ++ w.drop n) := (List.Sublist.refl _).append (by rw [← List.drop_drop]; exact List.drop_sublist 1 _)
      rwa [List.take_append_drop] at this
    · exact List.Sublist.refl _
  · exact List.Sublist.refl _
theorem cutAtS_len (w : List TRow) (n : Nat) (h : n + 1 ≤ w.length) : n ≤ (cutAtS w n).length := by
  unfold cutAtS
  split
  · split
    · simp; omega
    · omega
  · omega
theorem prune_All_l1_sp : ∀ (n : Nat) (w : List TRow), RO w → n ≤ w.length → prune_All_l1 ((n : Int) - 1) w = some (pruneS n w) := by
  intro n
  induction n with
  | zero =>
    intro w _ _
    rw [prune_All_l1_eq]
    simp [prune_All_l1_s, iteE, nextE, pruneS]
  | succ n ih =>
    intro w hw hn
    have hm := hw.1
    obtain ⟨x, hx, _⟩ := get_lt (l := w) (i := n) (by omega)
    rw [prune_All_l1_eq]
    have e0 : ((n + 1 : Nat) : Int) - 1 = (n : Int) := by omega
    rw [e0]
    have e1 : prune_All_b2 (n : Int) w = some (cutAtS w n) := by
      unfold prune_All_b2
      rw [prune_Spare_eq hw hx, bndE_s]
      unfold prune_All_b3 cutAtS slices_Delete_Row_Row delE
      rw [hx, succI (by omega), if_pos ⟨by omega, by omega, by omega⟩]
      simp only [Int.toNat_natCast, bndE_s, iteE_if]
      cases spareS w x <;> simp [bndE]
    simp only [prune_All_l1_s, iteP]
    rw [if_pos (by omega), e1, bndE_s, nextE_l, subI (by omega) (by omega)]
    exact ih _ (hw.sub (cutAtS_sub w n)) (cutAtS_len w n hn)
theorem prune_All_eq {l : List TRow} (hl : RO l) : prune_All l = some (pruneS l.length l) := by
  unfold prune_All
  have := hl.1
  rw [slices_Clone_Row_Row_eq hl.1, bndE_s, subI (by omega) (by omega), prune_All_l1_sp _ _ hl (Nat.le_refl _), bndE_s]

/-! the document's answers -/
theorem all_map_fst {q : List (TRow × Nat)} {p : TRow → Bool} : (q.all fun z => p z.1) = (q.map (·.1)).all p := by rw [List.all_map]; rfl
theorem mostP_true (l : List TRow) (x : TRow) : (mostP l x.bind true).map (·.1) = bel l x := by rw [mostP_rows]; rfl
theorem ref27_Spare_eq {l : List TRow} (hl : RO l) {n : Nat} {x : TRow} (hx : l[n]? = some x) : ref27_Spare l n = some (spareS l x) := by
  unfold ref27_Spare
  rw [idxE_n hx, ref26_Most_eq true hl (hl.get hx).len, bndE_s]
  unfold ref27_Spare_l1
  have hmem : ∀ q ∈ mostP l x.bind true, l[q.2]? = some q.1 := fun q hq => mostP_get hq
  have hrows := mostP_true l x
  have hlen : (mostP l x.bind true).length ≤ 1000 := by
    have h1 : ((mostP l x.bind true).map (·.1)).length = (bel l x).length := by rw [hrows]
    rw [List.length_map] at h1
    rw [h1]; exact (hl.bel x).1
  unfold mostS
  have hum : ((mostP l x.bind true).map fun q => (q.2 : Int)).length = (mostP l x.bind true).length := by simp
  rw [loop_all0 (mostP l x.bind true) (fun q => decide (x.set = q.1.set)) (.inl ()) (.inr ())
    (fun i q hq => by
      have hq' := hmem q (List.mem_of_getElem? hq)
      have hlt : decide ((i : Int) < (((mostP l x.bind true).map fun q => (q.2 : Int)).length : Int)) = true := by rw [hum]; exact ltD hq
      simp only [ref27_Spare_l1_s, hlt, iteE_t, idxE_n (map_get hq), idxE_n hq', idxE_n hx, ref18_Same_eq (hl.get hq').2 (hl.get hx).2, bndE_s, succW hq (Nat.le_trans hlen (by decide)), iteE_if]
      by_cases h : x.set = q.1.set
      · simp [h]
      · have : ¬ q.1.set = x.set := fun e => h e.symm
        simp [h, this])
    (by simp only [ref27_Spare_l1_s, hum, ltI, iteE_f]), bndE_s, all_map_fst (p := fun y => decide (x.set = y.set)), hrows, hum, isEmpty_len]
  have e : (mostP l x.bind true).isEmpty = (bel l x).isEmpty := by rw [← hrows, List.isEmpty_map]
  rw [e]
  unfold spareS
  cases (bel l x).all _ <;> simp [sumE]
theorem ref27_All_l1_sp : ∀ (n : Nat) (w : List TRow), RO w → n ≤ w.length → ref27_All_l1 ((n : Int) - 1) w = some (pruneS n w) := by
  intro n
  induction n with
  | zero =>
    intro w _ _
    rw [ref27_All_l1_eq]
    simp [ref27_All_l1_s, iteE, nextE, pruneS]
  | succ n ih =>
    intro w hw hn
    have hm := hw.1
    obtain ⟨x, hx, _⟩ := get_lt (l := w) (i := n) (by omega)
    rw [ref27_All_l1_eq]
    have e0 : ((n + 1 : Nat) : Int) - 1 = (n : Int) := by omega
    rw [e0]
    have e1 : ref27_All_b2 (n : Int) w = some (cutAtS w n) := by
      unfold ref27_All_b2
      rw [ref27_Spare_eq hw hx, bndE_s]
      unfold ref27_All_b3 cutAtS
      have es : sub w 0 (n : Int) = w.take n := by rw [show (0 : Int) = ((0 : Nat) : Int) from rfl, sub_nat]; rfl
      rw [hx, succI (by omega), es, sub_end]
      rw [chkE_p (by omega), chkF (by simp; omega) (by decide), chkE_p (by omega), chkF (by simp; omega) (by decide)]
      simp only [List.nil_append, iteE_if]
      cases spareS w x <;> simp [bndE]
    simp only [ref27_All_l1_s, iteP]
    rw [if_pos (by omega), e1, bndE_s, nextE_l, subI (by omega) (by omega)]
    exact ih _ (hw.sub (cutAtS_sub w n)) (cutAtS_len w n hn)
theorem ref27_All_eq {l : List TRow} (hl : RO l) : ref27_All l = some (pruneS l.length l) := by
  unfold ref27_All
  have := hl.1
  rw [chkF (by simp; omega) (by decide), List.nil_append, subI (by omega) (by omega), ref27_All_l1_sp _ _ hl (Nat.le_refl _), bndE_s]
theorem TRow.ext' {a b : TRow} : a = b ↔ a.bind = b.bind ∧ a.set = b.set := by cases a; cases b; simp
theorem ref24_Same_eq {a b : List TRow} (ha : RO a) (hb : RO b) : ref24_Same a b = some (decide (a = b)) := by
  unfold ref24_Same
  rw [iteE_if, len_dec]
  by_cases hl : a.length = b.length
  · rw [if_neg (by simp [hl])]
    unfold ref24_Same_l1
    rw [loop_same a b (.inl ()) (.inr ()) hl
      (fun i x y hx hy => by
        simp only [ref24_Same_l1_s, ltD hx, iteE_t, idxE_n hx, idxE_n hy, succW hx ha.len, ref05_Same_eq _ _ (ha.get hx).len, ref18_Same_eq (ha.get hx).2 (hb.get hy).2, bndE_s, TRow.ext']
        by_cases h : x.bind = y.bind <;> by_cases h' : x.set = y.set <;> simp [h, h', iteE])
      (by simp only [ref24_Same_l1_s, ltI, iteE_f])]
    by_cases h : a = b <;> simp [h, bndE, sumE]
  · rw [if_pos (by simp [hl])]
    have : a ≠ b := fun h => hl (by rw [h])
    simp [this]
end Go.Ac
