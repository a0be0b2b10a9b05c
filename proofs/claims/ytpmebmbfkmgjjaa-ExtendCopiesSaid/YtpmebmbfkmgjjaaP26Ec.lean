/- Own work: the plain law. -/
import Derived.Test.YtpmebmbfkmgjjaaP26Dc
set_option linter.unusedVariables false
set_option linter.unusedSimpArgs false
namespace Go.Ac
def RowOk (r : TRow) : Prop := BR r.bind ∧ r.set.length ≤ 1000 ∧ ∀ c ∈ r.set, c.vals.length ≤ 1000
def SRow (w : List TRow) : Prop := SB (w.map (·.bind)) ∧ ∀ r ∈ w, RowOk r
theorem SRow_nil : SRow [] := ⟨SB_nil, by simp⟩
def insR (w : List TRow) (r : TRow) : List TRow := w.filter (fun y => ltB y.bind r.bind) ++ r :: w.filter fun y => !ltB y.bind r.bind
theorem insR_map {w : List TRow} {r : TRow} (h : r.bind ∉ w.map (·.bind)) : (insR w r).map (·.bind) = putB (w.map (·.bind)) r.bind := by
  unfold insR putB
  rw [if_neg h, List.map_append, List.map_cons, List.filter_map, List.filter_map]
  rfl
theorem insR_mem {w : List TRow} {r x : TRow} : x ∈ insR w r ↔ x = r ∨ x ∈ w := by
  unfold insR
  rw [List.mem_append, List.mem_cons, List.mem_filter, List.mem_filter]
  constructor
  · rintro (h | h | h)
    · exact .inr h.1
    · exact .inl h
    · exact .inr h.1
  · rintro (h | h)
    · exact .inr (.inl h)
    · cases hl : ltB x.bind r.bind
      · exact .inr (.inr ⟨h, rfl⟩)
      · exact .inl ⟨h, rfl⟩
theorem insR_ok {w : List TRow} {r : TRow} (hw : SRow w) (hr : RowOk r) (h : r.bind ∉ w.map (·.bind)) : SRow (insR w r) ∧ (insR w r).length = w.length + 1 := by
  refine ⟨⟨?_, fun x hx => ?_⟩, ?_⟩
  · rw [insR_map h]; exact (SB_put hw.1 hr.1.i).1
  · rcases insR_mem.1 hx with rfl | g
    · exact hr
    · exact hw.2 x g
  · have h1 : ∀ w : List TRow, (w.filter fun y => ltB y.bind r.bind).length + (w.filter fun y => !ltB y.bind r.bind).length = w.length := by
      intro w
      induction w with
      | nil => rfl
      | cons y w ih => rw [List.filter_cons, List.filter_cons]; cases ltB y.bind r.bind <;> simp <;> omega
    have := h1 w
    unfold insR
    rw [List.length_append, List.length_cons]; omega
theorem SRow_lt {w : List TRow} (hw : SRow w) {i j : Nat} {y z : TRow} (hi : w[i]? = some y) (hj : w[j]? = some z) (h : i < j) : ltB y.bind z.bind = true :=
  SB_lt hw.1 (i := i) (j := j) (by simp [hi]) (by simp [hj]) h
theorem ref24_Insert_eq {w : List TRow} {r : TRow} (hw : SRow w) (hr : RowOk r) (hn : r.bind ∉ w.map (·.bind)) (hl : w.length ≤ 1000) : ref24_Insert w r = some (insR w r) := by
  unfold ref24_Insert ref24_Insert_l1 insR
  obtain ⟨t, ht, k, hk, rfl, p1, p2⟩ := loopE_ex (step := fun s => ref24_Insert_l1_s w r s) (fun s => ∃ i : Nat, s = (i : Int) ∧ i ≤ w.length ∧ ∀ (j : Nat) s, w[j]? = some s → i ≤ j → ltB s.bind r.bind = false) (fun s => s.toNat)
    (fun t => ∃ k : Nat, k ≤ w.length ∧ t = (k : Int) ∧ (∀ (j : Nat) s, w[j]? = some s → j < k → ltB s.bind r.bind = true) ∧ ∀ (j : Nat) s, w[j]? = some s → k ≤ j → ltB s.bind r.bind = false)
    (by
      rintro s ⟨i, rfl, hi, hj⟩
      cases i with
      | zero => exact .inl ⟨0, by simp [ref24_Insert_l1_s, iteE], 0, by omega, rfl, fun j s _ h => by omega, hj⟩
      | succ i =>
        obtain ⟨y, hy, _⟩ := get_lt (l := w) (i := i) (by omega)
        have hyR := (hw.2 y (List.mem_of_getElem? hy)).1.i
        have e : intVal .sub .i64 ((i + 1 : Nat) : Int) 1 = (i : Int) := by rw [subI (by omega) (by omega)]; omega
        have hd : decide ((0 : Int) < ((i + 1 : Nat) : Int)) = true := by simp
        simp only [ref24_Insert_l1_s, hd, iteE_t, e, idxE_n hy, ref05_Less_eq hr.1.i hyR, bndE_s]
        cases h : ltB r.bind y.bind with
        | true =>
          refine .inr ⟨_, by simp only [iteE_t], ⟨i, rfl, by omega, fun j s hs hij => ?_⟩, by omega⟩
          rcases Nat.eq_or_lt_of_le hij with g | g
          · subst g; rw [hy] at hs; cases hs; exact ltB_asym h
          · exact hj j s hs g
        | false =>
          refine .inl ⟨_, by simp only [iteE_f], i + 1, hi, rfl, fun j s hs hij => ?_, hj⟩
          have hyx : ltB y.bind r.bind = true := by
            rcases ltB_tot hyR hr.1.i (fun e => hn (e ▸ List.mem_map_of_mem (List.mem_of_getElem? hy))) with g | g
            · exact g
            · rw [h] at g; cases g
          rcases Nat.lt_or_ge j i with g | g
          · exact ltB_trans (SRow_lt hw hs hy g) hyx
          · have : j = i := by omega
            subst this; rw [hy] at hs; cases hs; exact hyx)
    (w.length : Int) ⟨w.length, rfl, Nat.le_refl _, fun j s hs hij => by have := getLt hs; omega⟩
  rw [ht, bndE_s]
  have es : sub w 0 (k : Int) = w.take k := by rw [show (0 : Int) = ((0 : Nat) : Int) from rfl, sub_nat]; rfl
  rw [es, sub_end, chkE_p (by omega), chkF (by simp; omega) (by decide), chkF (by simp; omega) (by decide), chkE_p (by omega), chkF (by simp; omega) (by decide)]
  obtain ⟨c1, c2⟩ := cut_filter p1 p2
  rw [List.nil_append, c1, c2]
  simp
theorem ref26_Binds_eq {w : List TRow} (hl : w.length ≤ 1000) : ref26_Binds w = some (w.map (·.bind)) := by
  unfold ref26_Binds ref26_Binds_l1
  rw [loop_fold (step := fun s : Int × List (List TSlot) => ref26_Binds_l1_s w s.1 s.2) w (fun o r => o ++ [r.bind]) (fun o => o) (fun i o => o.length = i)
    (fun i x o hx hI => by
      have hi := getLt hx
      refine ⟨?_, by simp [hI]⟩
      simp only [ref26_Binds_l1_s, ltD hx, iteE_t, idxE_n hx, succW hx (show w.length ≤ 9223372036854775807 by omega)]
      rw [chkF (by first | omega | (simp; omega)) (by decide)])
    (fun o _ => by simp only [ref26_Binds_l1_s, ltI, iteE_f]) [] rfl, bndE_s, foldl_map]
  rfl
theorem law26_rows_ex {l : List (List TSlot)} (hl : ∀ x ∈ l, BR x) (hn : l.length ≤ 900) : ∃ r, law26_rows l = some r ∧ SRow r ∧ r.length ≤ l.length := by
  unfold law26_rows law26_rows_l1
  obtain ⟨t, ht, hQ⟩ := loopE_ex (step := fun s : List TRow × Int => law26_rows_l1_s l s.1 s.2) (fun s => ∃ i : Nat, s.2 = (i : Int) ∧ i ≤ l.length ∧ SRow s.1 ∧ s.1.length ≤ i) (fun s => (l.length - s.2).toNat)
    (fun t => SRow t ∧ t.length ≤ l.length)
    (by
      rintro ⟨w, s2⟩ ⟨i, e, hi, hw, hwl⟩
      simp only at e hw hwl
      subst e
      simp only
      by_cases he : i = l.length
      · subst he
        exact .inl ⟨w, by simp only [law26_rows_l1_s, ltI, iteE_f], hw, hwl⟩
      · right
        obtain ⟨x, hx, _⟩ := get_lt (l := l) (i := i) (by omega)
        have hxR := hl x (List.mem_of_getElem? hx)
        simp only [law26_rows_l1_s, ltD hx, iteE_t, law26_rows_b4, idxE_n hx, succW hx (show l.length ≤ 9223372036854775807 by omega)]
        rw [ref26_Binds_eq (by omega), bndE_s, ref05_Has_eq (fun b hb => by
          obtain ⟨r, hr, rfl⟩ := List.mem_map.1 hb
          exact (hw.2 r hr).1.i) (by rw [List.length_map]; omega), bndE_s]
        by_cases hm : x ∈ w.map (·.bind)
        · refine ⟨(w, ((i + 1 : Nat) : Int)), ?_, ⟨i + 1, rfl, by omega, hw, by simp only; omega⟩, by simp only; omega⟩
          unfold law26_rows_b5
          rw [decide_eq_true hm]; rfl
        · have hrow : RowOk (TRow.mk x [TConfig.mk (i : Int) []]) := ⟨hxR, by simp, by simp⟩
          obtain ⟨i1, i2⟩ := insR_ok hw hrow hm
          refine ⟨(insR w (TRow.mk x [TConfig.mk (i : Int) []]), ((i + 1 : Nat) : Int)), ?_, ⟨i + 1, rfl, by omega, i1, by simp only; omega⟩, by simp only; omega⟩
          unfold law26_rows_b5
          rw [decide_eq_false hm]
          simp only [Bool.not_false, iteE_t, idxE_n hx]
          rw [ref24_Insert_eq hw hrow hm (by omega)]; rfl)
    (([] : List TRow), (0 : Int)) ⟨0, rfl, by omega, SRow_nil, by simp⟩
  rw [ht, bndE_s]
  exact ⟨t, rfl, hQ⟩
def undR (r : List TRow) (b : List TSlot) : List TRow := r.filter fun x => underS x.bind b
def below (x y : TRow) : Bool := decide (x.bind.length < y.bind.length) && underS x.bind y.bind
def maxR (u : List TRow) (x : TRow) : Bool := !(u.any fun y => below x y)
def grR (r : List TRow) (b : List TSlot) : List TRow := (undR r b).filter (maxR (undR r b))
theorem int_lt (a b : Nat) : decide ((a : Int) < (b : Int)) = decide (a < b) := decide_eq_decide.2 (by omega)
theorem extend_Greatest_eq {r : List TRow} {b : List TSlot} (hr : ∀ x ∈ r, RowOk x) (hb : BR b) (hn : r.length ≤ 100000) : extend_Greatest r b = some (grR r b) := by
  have lb := BR_len hb
  unfold extend_Greatest extend_Greatest_l1
  rw [loop_fold (step := fun s : Int × List TRow => extend_Greatest_l1_s b r (r.length : Int) s.1 s.2) r (fun w x => if underS x.bind b = true then w ++ [x] else w) (fun w => w) (fun i w => w.length ≤ i)
    (fun i x w hx hI => by
      have hi := getLt hx
      have lx := BR_len (hr x (List.mem_of_getElem? hx)).1
      refine ⟨?_, by split
                     · rw [List.length_append, List.length_singleton]; omega
                     · omega⟩
      simp only [extend_Greatest_l1_s, ltD hx, iteE_t, extend_Greatest_b4, extend_Greatest_b5, idxE_n hx, binding_Under_eq x.bind b (show x.bind.length ≤ 9223372036854775807 by omega) (show b.length ≤ 9223372036854775807 by omega), bndE_s, succW hx (show r.length ≤ 9223372036854775807 by omega)]
      rw [chkF (by first | omega | (simp; omega)) (by decide)]
      cases underS x.bind b <;> rfl)
    (fun w _ => by simp only [extend_Greatest_l1_s, ltI, iteE_f]) [] (by simp), bndE_s, foldl_filter, List.nil_append]
  have hu : r.filter (fun x => underS x.bind b) = undR r b := rfl
  rw [hu]
  have hul : (undR r b).length ≤ r.length := List.length_filter_le _ _
  have huR : ∀ x ∈ undR r b, RowOk x := fun x hx => hr x (List.mem_filter.1 hx).1
  unfold grR
  generalize undR r b = u at *
  have hc : ∀ x ∈ u, slices_ContainsFunc_Row_Row u x = some (!maxR u x) := fun x hx => by
    have lx := BR_len (huR x hx).1
    unfold slices_ContainsFunc_Row_Row slices_IndexFunc_Row_Row slices_IndexFunc_Row_Row_l1
    rw [loop_index u (fun y => below x y)
      (fun i y hy => by
        have ly := BR_len (huR y (List.mem_of_getElem? hy)).1
        simp only [slices_IndexFunc_Row_Row_l1_s, ltD hy, iteE_t, idxE_n hy, extend_Greatest_1, int_lt, binding_Under_eq x.bind y.bind (show x.bind.length ≤ 9223372036854775807 by omega) (show y.bind.length ≤ 9223372036854775807 by omega), bndE_s, succW hy (show u.length ≤ 9223372036854775807 by omega)]
        unfold below
        cases decide (x.bind.length < y.bind.length) <;> cases underS x.bind y.bind <;> rfl)
      (by simp only [slices_IndexFunc_Row_Row_l1_s, ltI, iteE_f]), bndE_s]
    unfold maxR
    rw [Bool.not_not]
    cases u.any fun y => below x y <;> simp [sumE, bndE]
  unfold extend_Greatest_l6
  rw [loop_fold (step := fun s : Int × List TRow => extend_Greatest_l6_s (u.length : Int) u s.1 s.2) u (fun w x => if maxR u x = true then w ++ [x] else w) (fun w => w) (fun i w => w.length ≤ i)
    (fun i x w hx hI => by
      have hi := getLt hx
      refine ⟨?_, by split
                     · rw [List.length_append, List.length_singleton]; omega
                     · omega⟩
      simp only [extend_Greatest_l6_s, ltD hx, iteE_t, extend_Greatest_b9, extend_Greatest_b10, idxE_n hx, hc x (List.mem_of_getElem? hx), bndE_s, Bool.not_not, succW hx (show u.length ≤ 9223372036854775807 by omega)]
      rw [chkF (by first | omega | (simp; omega)) (by decide)]
      cases maxR u x <;> rfl)
    (fun w _ => by simp only [extend_Greatest_l6_s, ltI, iteE_f]) [] (by simp), bndE_s, foldl_filter, List.nil_append]
def copyS (r : List TRow) (b : List TSlot) : List TConfig × Bool := match grR r b with
  | [] => ([], false)
  | x :: _ => (x.set, true)
theorem grR_sub {r : List TRow} {b : List TSlot} : ∀ x ∈ grR r b, x ∈ r := fun x hx => (List.mem_filter.1 (List.mem_filter.1 hx).1).1
theorem extend_Copy_eq {r : List TRow} {b : List TSlot} (hr : ∀ x ∈ r, RowOk x) (hb : BR b) (hn : r.length ≤ 100000) : extend_Copy r b = some (copyS r b) := by
  unfold extend_Copy copyS
  rw [extend_Greatest_eq hr hb hn, bndE_s]
  cases hg : grR r b with
  | nil => rfl
  | cons x xs =>
    have hx := hr x (grR_sub (b := b) x (by rw [hg]; simp))
    have : fit 0 x.set.length 32 := fit_small (by have := hx.2.1; omega) (by decide)
    rw [decide_eq_false (by simp; omega), iteE_f, idxE_0]
    unfold slices_Clone_Config_Config cloneE
    rw [if_pos this]; rfl
theorem copy_ok {r : List TRow} {b : List TSlot} (hr : ∀ x ∈ r, RowOk x) : (copyS r b).1.length ≤ 1000 ∧ ∀ c ∈ (copyS r b).1, c.vals.length ≤ 1000 := by
  unfold copyS
  cases hg : grR r b with
  | nil => simp
  | cons x xs =>
    have hx := hr x (grR_sub (b := b) x (by rw [hg]; simp))
    exact hx.2
end Go.Ac
