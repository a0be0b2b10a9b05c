/- Own work: the plain law. -/
import Derived.Test.YtgmjbigfneeekaaP20O1
set_option linter.unusedVariables false
set_option linter.unusedSimpArgs false
namespace Go.Ac
theorem vR_str {v : TValue} (h : vR v = true) : v.str.length ≤ 9223372036854775807 := by
  rcases vR_parts h with ⟨_, h2, _⟩ | ⟨_, _, _, h4⟩ | ⟨_, _, h3⟩
  · rw [h2]; decide
  · omega
  · rw [h3]; decide
def SW (w : List TValue) : Prop := w.Pairwise (fun a b => ltV a b = true) ∧ ∀ v ∈ w, vR v = true
def putW (w : List TValue) (x : TValue) : List TValue := if x ∈ w then w else w.filter (fun y => ltV y x) ++ x :: w.filter fun y => !ltV y x
theorem ltV_asym {a b : TValue} (h1 : ltV a b = true) : ltV b a = false := by
  cases h : ltV b a with
  | false => rfl
  | true => have := ltV_trans h1 h; rw [ltV_irr] at this; cases this
theorem SW_lt {w : List TValue} (hw : SW w) {i j : Nat} {y z : TValue} (hi : w[i]? = some y) (hj : w[j]? = some z) (h : i < j) : ltV y z = true := by
  obtain ⟨a1, rfl⟩ := List.getElem?_eq_some_iff.1 hi
  obtain ⟨a2, rfl⟩ := List.getElem?_eq_some_iff.1 hj
  exact List.pairwise_iff_getElem.1 hw.1 i j a1 a2 h
theorem SW_put {w : List TValue} {x : TValue} (hw : SW w) (hx : vR x = true) : SW (putW w x) ∧ (putW w x).length = w.length + (if x ∈ w then 0 else 1) := by
  unfold putW
  split
  · exact ⟨hw, by simp [*]⟩
  · rename_i hn
    refine ⟨⟨?_, fun b hb => ?_⟩, ?_⟩
    · rw [List.pairwise_append, List.pairwise_cons]
      have hgt : ∀ y ∈ w.filter (fun y => !ltV y x), ltV x y = true := fun y hy => by
        obtain ⟨h1, h2⟩ := List.mem_filter.1 hy
        rcases ltV_tot (hw.2 y h1) hx (fun e => hn (e ▸ h1)) with g | g
        · rw [g] at h2; cases h2
        · exact g
      refine ⟨hw.1.filter _, ⟨hgt, hw.1.filter _⟩, fun y hy z hz => ?_⟩
      have hyx := (List.mem_filter.1 hy).2
      rcases List.mem_cons.1 hz with rfl | hz
      · exact hyx
      · exact ltV_trans hyx (hgt z hz)
    · rcases List.mem_append.1 hb with h | h
      · exact hw.2 b (List.mem_filter.1 h).1
      · rcases List.mem_cons.1 h with rfl | h
        · exact hx
        · exact hw.2 b (List.mem_filter.1 h).1
    · have h1 : ∀ w : List TValue, (w.filter fun y => ltV y x).length + (w.filter fun y => !ltV y x).length = w.length := by
        intro w
        induction w with
        | nil => rfl
        | cons y w ih => rw [List.filter_cons, List.filter_cons]; cases ltV y x <;> simp <;> omega
      have h1 := h1 w
      rw [List.length_append, List.length_cons]
      omega
def AtW (w : List TValue) (x : TValue) (k : Nat) : Prop := k ≤ w.length ∧ (∀ (j : Nat) y, w[j]? = some y → j < k → ltV y x = true) ∧ (∀ (j : Nat) y, w[j]? = some y → k ≤ j → ltV y x = false)
theorem at_put {w : List TValue} {x : TValue} {k : Nat} (h : AtW w x k) (hn : x ∉ w) : w.take k ++ [x] ++ w.drop k = putW w x := by
  obtain ⟨c1, c2⟩ := cut_filter h.2.1 h.2.2
  unfold putW
  rw [c1, c2, if_neg hn]
  simp
def cmpW (y x : TValue) : Int := if ltV y x = true then -1 else if ltV x y = true then 1 else 0
theorem Put_1_eq {y x : TValue} {s : List TValue} (hy : vR y = true) (hx : vR x = true) : domain_Set_Value_Put_1 y x s = some (cmpW y x) := by
  unfold domain_Set_Value_Put_1 cmpW
  rw [value_Less_eq, value_Less_eq, bndE_s, bndE_s]
  cases ltV y x <;> cases ltV x y <;> rfl
theorem cmpW_lt {y x : TValue} : decide (cmpW y x < 0) = ltV y x := by
  unfold cmpW; cases ltV y x <;> cases ltV x y <;> rfl
theorem bs_vals {w s : List TValue} {x : TValue} (hw : SW w) (hx : vR x = true) (hl : w.length ≤ 1000) :
    ∃ k : Nat, AtW w x k ∧ slices_BinarySearchFunc_Value_Value_Value w x s = some ((k : Int), decide (x ∈ w)) := by
  have hsub : ∀ y ∈ w, domain_Set_Value_Put_1 y x s = some (cmpW y x) := fun y hy => Put_1_eq (hw.2 y hy) hx
  unfold slices_BinarySearchFunc_Value_Value_Value slices_BinarySearchFunc_Value_Value_Value_l1
  obtain ⟨k, hk, hkr, p1, p2⟩ := bs_loop (step := fun s' : Int × Int => slices_BinarySearchFunc_Value_Value_Value_l1_s w s (w.length : Int) x s'.1 s'.2) w.length (fun a => match w[a]? with | some y => ltV y x | none => false)
    (fun i j hij hj => by
      obtain ⟨y, hy, _⟩ := get_lt (l := w) (i := (i + j) / 2) (by omega)
      have hd : decide ((i : Int) < (j : Int)) = true := by simp; omega
      simp only [slices_BinarySearchFunc_Value_Value_Value_l1_s, hd, iteE_t, slices_BinarySearchFunc_Value_Value_Value_b2, midI (show i + j < 4611686018427387904 by omega), idxE_n hy, hsub y (List.mem_of_getElem? hy), bndE_s, slices_BinarySearchFunc_Value_Value_Value_b3, hy, cmpW_lt]
      cases ltV y x with
      | true => simp only [iteE_t, bndE_s, if_true, succI (show (i + j) / 2 < 9223372036854775807 by omega)]
      | false => simp [iteE, bndE])
    (fun i => by simp [slices_BinarySearchFunc_Value_Value_Value_l1_s, iteE])
    (fun a b hab hb h => by
      obtain ⟨y, hy, _⟩ := get_lt (l := w) (i := a) (by omega)
      obtain ⟨z, hz, _⟩ := get_lt (l := w) (i := b) hb
      simp only [hy, hz] at h ⊢
      rcases Nat.lt_or_ge a b with g | g
      · exact ltV_trans (SW_lt hw hy hz g) h
      · have : a = b := by omega
        subst this; rw [hy] at hz; cases hz; exact h)
  have q1 : ∀ (j : Nat) y, w[j]? = some y → j < k → ltV y x = true := fun j s hs hj => by
    have := p1 j hj; simp only [hs] at this; exact this
  have q2 : ∀ (j : Nat) y, w[j]? = some y → k ≤ j → ltV y x = false := fun j s hs hj => by
    have := p2 j hj (getLt hs); simp only [hs] at this; exact this
  refine ⟨k, ⟨hk, q1, q2⟩, ?_⟩
  rw [hkr, bndE_s]
  have hmem : ∀ j : Nat, w[j]? = some x → j = k := fun j hj => by
    rcases Nat.lt_trichotomy j k with g | g | g
    · have := q1 j x hj g; rw [ltV_irr] at this; cases this
    · exact g
    · obtain ⟨y, hy, _⟩ := get_lt (l := w) (i := k) (by have := getLt hj; omega)
      have h1 := q2 k y hy (Nat.le_refl _)
      rw [SW_lt hw hy hj g] at h1; cases h1
  by_cases h : k < w.length
  · obtain ⟨y, hy, _⟩ := get_lt h
    rw [iteP, if_pos (by omega), idxE_n hy, hsub y (List.mem_of_getElem? hy), bndE_s]
    have hge := q2 k y hy (Nat.le_refl _)
    congr 2
    rw [decide_eq_decide]
    unfold cmpW
    rw [hge, if_neg (by simp)]
    constructor
    · intro hc
      rcases (Classical.em (y = x)) with e | e
      · exact e ▸ List.mem_of_getElem? hy
      · rcases ltV_tot (hw.2 y (List.mem_of_getElem? hy)) hx e with g | g
        · rw [hge] at g; cases g
        · rw [if_pos g] at hc; cases hc
    · intro hm
      obtain ⟨j, hj⟩ := List.mem_iff_getElem?.1 hm
      have := hmem j hj
      subst this
      rw [hy] at hj; cases hj
      rw [ltV_irr]; rfl
  · rw [iteP, if_neg (by omega)]
    congr 2
    symm
    rw [decide_eq_false_iff_not]
    intro hm
    obtain ⟨j, hj⟩ := List.mem_iff_getElem?.1 hm
    have := hmem j hj
    have := getLt hj
    omega
theorem Put_v2_eq {w : List TValue} {x : TValue} (hw : SW w) (hx : vR x = true) (hl : w.length ≤ 900) : domain_Set_Value_Put_v2 x w = some (!decide (x ∈ w), putW w x) := by
  unfold domain_Set_Value_Put_v2 domain_Set_Value_Put_v2_b1
  obtain ⟨k, hk, hb⟩ := bs_vals (s := w) hw hx (by omega)
  rw [hb, bndE_s]
  by_cases hm : x ∈ w
  · simp [hm, iteE, bndE, putW]
  · have hin : slices_Insert_Value_Value (k : Int) w [x] = some (putW w x) := by
      unfold slices_Insert_Value_Value insE
      have := hk.1
      rw [if_pos ⟨by omega, by omega, by simp, fit_small (by simp; omega) (by decide)⟩, Int.toNat_natCast, at_put hk hm]
    simp only [hm, decide_false, Bool.not_false, iteE_t]
    rw [hin]; rfl
theorem sub_take {α : Type} (w : List α) (k : Nat) : sub w 0 (k : Int) = w.take k := by simp [sub]
theorem sub_drop {α : Type} (w : List α) (k : Nat) : sub w (k : Int) (w.length : Int) = w.drop k := by simp [sub]
theorem ref20_Put_eq {w : List TValue} {x : TValue} (hw : SW w) (hx : vR x = true) (hl : w.length ≤ 900) : ref20_Put w x = some (putW w x) := by
  unfold ref20_Put ref20_Put_l1
  obtain ⟨t, ht, k, hk, rfl, p1, p2⟩ := loopE_ex (step := fun s => ref20_Put_l1_s w x s) (fun s => ∃ i : Nat, s = (i : Int) ∧ i ≤ w.length ∧ ∀ (j : Nat) s, w[j]? = some s → i ≤ j → ltV x s = true) (fun s => s.toNat)
    (fun t => ∃ k : Nat, k ≤ w.length ∧ t = (k : Int) ∧ (∀ (j : Nat) s, w[j]? = some s → k = j + 1 → ltV x s = false) ∧ ∀ (j : Nat) s, w[j]? = some s → k ≤ j → ltV x s = true)
    (by
      rintro s ⟨i, rfl, hi, hj⟩
      cases i with
      | zero => exact .inl ⟨0, by simp [ref20_Put_l1_s, iteE], 0, by omega, rfl, fun j s _ h => by omega, hj⟩
      | succ i =>
        obtain ⟨y, hy, _⟩ := get_lt (l := w) (i := i) (by omega)
        have hyR := hw.2 y (List.mem_of_getElem? hy)
        have e : intVal .sub .i64 ((i + 1 : Nat) : Int) 1 = (i : Int) := by rw [subI (by omega) (by omega)]; omega
        have hd : decide ((0 : Int) < ((i + 1 : Nat) : Int)) = true := by simp
        simp only [ref20_Put_l1_s, hd, iteE_t, e, idxE_n hy, ref03_Less_eq _ _ (vR_str hx) (vR_str hyR), bndE_s]
        cases h : ltV x y with
        | true =>
          refine .inr ⟨_, by simp only [iteE_t], ⟨i, rfl, by omega, fun j s hs hij => ?_⟩, by omega⟩
          rcases Nat.eq_or_lt_of_le hij with g | g
          · subst g; rw [hy] at hs; cases hs; exact h
          · exact hj j s hs g
        | false =>
          refine .inl ⟨_, by simp only [iteE_f], i + 1, hi, rfl, fun j s hs hij => ?_, hj⟩
          have : j = i := by omega
          subst this; rw [hy] at hs; cases hs; exact h)
    (w.length : Int) ⟨w.length, rfl, Nat.le_refl _, fun j s hs hij => by have := getLt hs; omega⟩
  rw [ht, bndE_s]
  have hrest : (∀ y, w[k - 1]? = some y → 0 < k → y ≠ x) → (chkE ((0 : Int) ≤ 0 ∧ (0 : Int) ≤ (k : Int) ∧ (k : Int) ≤ (w.length : Int)) (
     chkE (fit ([] : List TValue).length (sub w 0 (k : Int)).length 40) (
      chkE (fit (([] : List TValue) ++ (sub w 0 (k : Int))).length [x].length 40) (
       chkE ((0 : Int) ≤ (k : Int) ∧ ((k : Int) : Int) ≤ (w.length : Int) ∧ (w.length : Int) ≤ (w.length : Int)) (
        chkE (fit ((([] : List TValue) ++ (sub w 0 (k : Int))) ++ [x]).length (sub w (k : Int) (w.length : Int)).length 40) (
         some (((([] : List TValue) ++ (sub w 0 (k : Int))) ++ [x]) ++ (sub w (k : Int) (w.length : Int)))))))) : Option (List TValue)) = some (putW w x) := by
    intro hne
    have hlt : ∀ (j : Nat) y, w[j]? = some y → j < k → ltV y x = true := fun j y hy hj => by
      obtain ⟨z, hz, _⟩ := get_lt (l := w) (i := k - 1) (by omega)
      have h1 := p1 (k - 1) z hz (by omega)
      have h2 := hne z hz (by omega)
      have h3 : ltV z x = true := by
        rcases ltV_tot (hw.2 z (List.mem_of_getElem? hz)) hx h2 with g | g
        · exact g
        · rw [h1] at g; cases g
      rcases Nat.lt_or_ge j (k - 1) with g | g
      · exact ltV_trans (SW_lt hw hy hz g) h3
      · have : j = k - 1 := by omega
        subst this; rw [hz] at hy; cases hy; exact h3
    have hAt : AtW w x k := ⟨hk, hlt, fun j y hy hj => ltV_asym (p2 j y hy hj)⟩
    have hn : x ∉ w := fun hm => by
      obtain ⟨j, hj⟩ := List.mem_iff_getElem?.1 hm
      rcases Nat.lt_or_ge j k with g | g
      · have := hlt j x hj g; rw [ltV_irr] at this; cases this
      · have := p2 j x hj g; rw [ltV_irr] at this; cases this
    rw [sub_take, sub_drop, chkE_p (by omega), chkF (by simp; omega) (by decide), chkF (by simp; omega) (by decide), chkE_p (by omega), chkF (by simp; omega) (by decide), List.nil_append, at_put hAt hn]
  rw [iteP]
  split
  · rename_i h0
    obtain ⟨y, hy, _⟩ := get_lt (l := w) (i := k - 1) (by omega)
    have e : intVal .sub .i64 (k : Int) 1 = ((k - 1 : Nat) : Int) := by rw [subI (by omega) (by omega)]; omega
    rw [e, idxE_n hy, TValue.eqb_dec]
    by_cases hyx : y = x
    · subst hyx
      have hm := List.mem_of_getElem? hy
      simp [iteE, putW, hm]
    · simp only [hyx, decide_false, iteE_f]
      exact hrest fun z hz _ => by rw [hy] at hz; cases hz; exact hyx
  · exact hrest fun z hz h => by omega
def getPut (v : Int) (w : List TValue) (h : THit) : List TValue := if (getS h.bind v).2 = true then putW w (getS h.bind v).1 else w
def atS (q : TQea) (d : List (List TValue)) (e : TEvent) (v : Nat) : List TValue := (hitsS q e).foldl (getPut (v : Int)) ((d[v]?).getD [])
def addS (q : TQea) (d : List (List TValue)) (e : TEvent) : List (List TValue) := (List.range q.quants.length).map (atS q d e)
theorem SW_nil : SW [] := ⟨List.Pairwise.nil, by simp⟩
theorem get_vR {h : THit} (hR : RBi h.bind) {v : Int} (hg : (getS h.bind v).2 = true) : vR (getS h.bind v).1 = true := by
  have := getS_mem (l := h.bind) (v := v) (x := (getS h.bind v).1) (by rw [← hg])
  exact hR.2 _ this
theorem getPut_ok {h : THit} (hR : RBi h.bind) (v : Int) {w : List TValue} (hw : SW w) : SW (getPut v w h) ∧ (getPut v w h).length ≤ w.length + 1 := by
  unfold getPut
  split
  · rename_i hg
    obtain ⟨a, b⟩ := SW_put hw (get_vR hR hg)
    exact ⟨a, by rw [b]; split <;> omega⟩
  · exact ⟨hw, by omega⟩
theorem fold_ok (v : Int) : ∀ (l : List THit) (w : List TValue), (∀ h ∈ l, RBi h.bind) → SW w → SW (l.foldl (getPut v) w) ∧ (l.foldl (getPut v) w).length ≤ w.length + l.length
  | [], w, _, hw => ⟨hw, by simp⟩
  | h :: l, w, hR, hw => by
    obtain ⟨a, b⟩ := getPut_ok (hR h (by simp)) v hw
    obtain ⟨c, d⟩ := fold_ok v l _ (fun g hg => hR g (List.mem_cons_of_mem _ hg)) a
    exact ⟨c, by rw [List.foldl_cons, List.length_cons]; omega⟩
def SD (d : List (List TValue)) (n : Nat) : Prop := ∀ l ∈ d, SW l ∧ l.length ≤ n
theorem getD_SD {d : List (List TValue)} {n : Nat} (h : SD d n) (v : Nat) : SW ((d[v]?).getD []) ∧ ((d[v]?).getD []).length ≤ n := by
  cases hv : d[v]? with
  | none => exact ⟨SW_nil, by simp⟩
  | some l => exact h l (List.mem_of_getElem? hv)
section
variable {q : TQea} {e : TEvent} {d : List (List TValue)} {n : Nat}
theorem hits_12 (hF : FewP q) : (hitsS q e).length ≤ 12 := by
  unfold hitsS
  split
  · refine Nat.le_trans (List.length_filterMap_le _ _) ?_
    rw [List.length_range]
    exact hF.symbols
  · simp
theorem atS_ok (hF : FewP q) (hR : RightQ q) (hd : SD d n) (v : Nat) : SW (atS q d e v) ∧ (atS q d e v).length ≤ n + 12 := by
  obtain ⟨a, b⟩ := getD_SD hd v
  obtain ⟨c, g⟩ := fold_ok (v : Int) (hitsS q e) _ (fun h hh => hits_RBi hF hR hh) a
  have := hits_12 (e := e) hF
  exact ⟨c, by unfold atS; omega⟩
theorem addS_ok (hF : FewP q) (hR : RightQ q) (hd : SD d n) : SD (addS q d e) (n + 12) := by
  intro l hl
  obtain ⟨v, _, rfl⟩ := List.mem_map.1 hl
  exact atS_ok hF hR hd v
theorem bLen (hF : FewP q) (hR : RightQ q) {h : THit} (hh : h ∈ hitsS q e) : h.bind.length ≤ 9223372036854775807 := by
  have := (hits_ok hF hR hh).2.2.1; omega
theorem l4_eq (hF : FewP q) (hR : RightQ q) {v : Nat} {s23 s24 : Int} {w8 : List (List TValue)} {w : List TValue} (hw : SW w) (hl : w.length ≤ 800) :
    domain_Add_l4 d (hitsS q e) (v : Int) s23 s24 (hitsS q e) ((hitsS q e).length : Int) w8 0 w = some ((hitsS q e).foldl (getPut (v : Int)) w) := by
  unfold domain_Add_l4
  have h12 := hits_12 (e := e) hF
  exact loop_fold (step := fun s : Int × List TValue => domain_Add_l4_s d (hitsS q e) (v : Int) s23 s24 (hitsS q e) ((hitsS q e).length : Int) w8 s.1 s.2) (hitsS q e) (getPut (v : Int)) (fun w => w) (fun i u => SW u ∧ u.length ≤ w.length + i)
    (fun i x u hx hI => by
      have hi := getLt hx
      have hxm := List.mem_of_getElem? hx
      obtain ⟨a, b⟩ := getPut_ok (hits_RBi hF hR hxm) (v : Int) hI.1
      refine ⟨?_, a, by omega⟩
      simp only [domain_Add_l4_s, ltD hx, iteE_t, domain_Add_b5, idxE_n hx, binding_Get_eq _ _ (bLen hF hR hxm), bndE_s, domain_Add_b6, succW hx (show (hitsS q e).length ≤ 9223372036854775807 by omega)]
      unfold getPut
      cases hg : (getS x.bind (v : Int)).2 with
      | false => rfl
      | true =>
        rw [iteE_t, Put_v2_eq hI.1 (get_vR (hits_RBi hF hR hxm) hg) (by omega)]
        rfl)
    (fun w _ => by simp only [domain_Add_l4_s, ltI, iteE_f]) w ⟨hw, by omega⟩
theorem l10_eq (hF : FewP q) (hR : RightQ q) {v : Nat} {w7 : List (List TValue)} {w : List TValue} (hw : SW w) (hl : w.length ≤ 800) :
    ref20_Add_l10 d (hitsS q e) (v : Int) q w7 w 0 = some ((hitsS q e).foldl (getPut (v : Int)) w) := by
  unfold ref20_Add_l10
  have h12 := hits_12 (e := e) hF
  have h := loop_list (step := fun s : List TValue × Int => ref20_Add_l10_s d (hitsS q e) (v : Int) q w7 s.1 s.2) (hitsS q e) (fun i w => (w, (i : Int))) (fun _ w h => (.inl (getPut (v : Int) w h) : List TValue ⊕ List TValue)) (fun w => w) (fun i u => SW u ∧ u.length ≤ w.length + i)
    (fun i x u hx hI => by
      have hi := getLt hx
      have hxm := List.mem_of_getElem? hx
      obtain ⟨a, b⟩ := getPut_ok (hits_RBi hF hR hxm) (v : Int) hI.1
      refine ⟨?_, fun w' hw' => by cases hw'; exact ⟨a, by omega⟩⟩
      simp only [ref20_Add_l10_s, ltD hx, iteE_t, ref20_Add_b11, idxE_n hx, ref05_Get_eq _ _ (bLen hF hR hxm), bndE_s, ref20_Add_b12, succW hx (show (hitsS q e).length ≤ 9223372036854775807 by omega)]
      unfold getPut
      cases hg : (getS x.bind (v : Int)).2 with
      | false => rfl
      | true =>
        rw [iteE_t, ref20_Put_eq hI.1 (get_vR (hits_RBi hF hR hxm) hg) (by omega)]
        rfl)
    (fun w _ => by simp only [ref20_Add_l10_s, ltI, iteE_f]) ((hitsS q e).length + 1) 0 w (by omega) (by omega) ⟨hw, by omega⟩
  rw [show (w, (0 : Int)) = (w, ((0 : Nat) : Int)) from rfl, h, List.drop_zero]
  congr 1
  generalize 0 = i
  clear h hw hl h12
  generalize hitsS q e = l
  revert i w
  induction l with
  | nil => intro w i; rfl
  | cons x xs ih => intro w i; rw [runL]; exact ih _
theorem get_vals (v : Nat) {β : Type} (k : List TValue → Option β) (hne : v < d.length) : idxE d (v : Int) k = k ((d[v]?).getD []) := by
  obtain ⟨x, hx, _⟩ := get_lt hne
  rw [idxE_n hx, hx]; rfl
theorem Add_eq (hF : FewP q) (hR : RightQ q) (h12 : e.args.length ≤ 12) (hd : SD d n) (hn : n ≤ 700) (hdl : d.length ≤ 1000) : domain_Add q d e = some (addS q d e) := by
  have hq := hF.quants
  unfold domain_Add domain_Add_l1
  rw [match_All_eq hF hR h12, bndE_s, chkE_p ⟨by omega, fit_small (by simp; omega) (by decide)⟩]
  have hst : (((List.replicate (q.quants.length : Int).toNat ([] : List TValue)).length : Nat) : Int) = ((q.quants.length : Nat) : Int) := by simp
  rw [hst, Int.toNat_natCast]
  obtain ⟨t, ht, rfl⟩ := loopE_ex (step := fun s : Int × List (List TValue) => domain_Add_l1_s d (hitsS q e) (q.quants.length : Int) s.1 s.2)
    (fun s => ∃ i : Nat, i ≤ q.quants.length ∧ s = ((i : Int), (List.range i).map (atS q d e) ++ List.replicate (q.quants.length - i) [])) (fun s => q.quants.length - s.1.toNat) (fun t => t = addS q d e)
    (by
      rintro s ⟨i, hi, rfl⟩
      simp only
      rcases Nat.lt_or_ge i q.quants.length with h | h
      · right
        have hlt : decide ((i : Int) < (q.quants.length : Int)) = true := by simp; omega
        obtain ⟨a, b⟩ := getD_SD hd i
        have hb3 : domain_Add_b3 d (hitsS q e) (i : Int) (q.quants.length : Int) (i : Int) (decide ((i : Int) < (d.length : Int))) ((List.range i).map (atS q d e) ++ List.replicate (q.quants.length - i) []) = some ((d[i]?).getD []) := by
          unfold domain_Add_b3
          rw [iteP]
          split
          · rename_i hlt
            rw [get_vals i _ (by omega)]
            unfold slices_Clone_Value_Value cloneE
            rw [if_pos (fit_small (by omega) (by decide))]
            rfl
          · rename_i hge
            rw [List.getElem?_eq_none (by omega)]; rfl
        unfold domain_Add_l1_s domain_Add_b2 domain_NewSet_Value_v2
        rw [hlt, iteE_t, bndE_s, hb3, bndE_s, l4_eq hF hR a (by omega), bndE_s]
        have hwl : ((List.range i).map (atS q d e) ++ List.replicate (q.quants.length - i) ([] : List TValue)).length = q.quants.length := by simp; omega
        rw [chkE_p (by rw [hwl]; omega), chkE_p (by rw [hwl]; omega), bndE_s, Int.toNat_natCast]
        have hset : ((List.range i).map (atS q d e) ++ List.replicate (q.quants.length - i) ([] : List TValue)).set i (atS q d e i) = (List.range (i + 1)).map (atS q d e) ++ List.replicate (q.quants.length - (i + 1)) [] := by
          rw [List.set_append_right _ _ (by simp)]
          obtain ⟨k, hk⟩ : ∃ k, q.quants.length - i = k + 1 := ⟨q.quants.length - i - 1, by omega⟩
          rw [hk, List.replicate_succ, show q.quants.length - (i + 1) = k by omega]
          simp [List.range_succ]
        refine ⟨_, rfl, ⟨i + 1, by omega, ?_⟩, ?_⟩
        · rw [succI (show i < 9223372036854775807 by omega)]
          exact Prod.ext rfl hset
        · simp only
          rw [succI (show i < 9223372036854775807 by omega)]
          omega
      · have : i = q.quants.length := by omega
        subst this
        exact .inl ⟨addS q d e, by simp [domain_Add_l1_s, iteE, addS], rfl⟩)
    (0, List.replicate q.quants.length []) ⟨0, by omega, by simp⟩
  rw [ht]; rfl
theorem ref17_All_eq (hF : FewP q) (hR : RightQ q) : ref17_All q e = some ((List.range q.symbols.length).filterMap fun i => hitS q i e) := by
  have hs := hF.symbols
  unfold ref17_All ref17_All_l1
  have h := loop_fold (step := fun s : Int × List THit => ref17_All_l1_s q e s.1 s.2) (List.range q.symbols.length) (fun w i => w ++ (hitS q i e).toList) (fun w => w) (fun i w => w.length ≤ i)
    (fun i x w hx hI => by
      obtain ⟨rfl, hi⟩ := range_get hx
      have hlt : decide ((x : Int) < (q.symbols.length : Int)) = true := by simp; omega
      refine ⟨?_, by cases hitS q x e <;> simp <;> omega⟩
      simp only [ref17_All_l1_s, hlt, iteE_t, ref17_All_b4, ref17_Hit_eq hF hR hi, bndE_s, ref17_All_b5, succI (show x < 9223372036854775807 by omega)]
      rw [chkF (by simp; omega) (by decide)]
      cases hitS q x e <;> simp [outH, iteE, bndE])
    (fun w _ => by rw [List.length_range]; simp only [ref17_All_l1_s, ltI, iteE_f]) [] (by simp)
  rw [h, bndE_s, filterMap_push]
  simp
theorem ref20_Add_eq (hF : FewP q) (hR : RightQ q) (h12 : e.args.length ≤ 12) (hd : SD d n) (hn : n ≤ 700) (hdl : d.length ≤ 1000) : ref20_Add q d e = some (addS q d e) := by
  have hq := hF.quants
  have hde := hF.decls
  unfold ref20_Add
  rw [ref08_Right_eq _ _ (by omega) (by omega), bndE_s]
  have hb1 : ref20_Add_b1 d (eR q.decls e) q e = some (hitsS q e) := by
    unfold ref20_Add_b1 hitsS
    cases eR q.decls e with
    | false => rfl
    | true => rw [iteE_t, ref17_All_eq hF hR]; rfl
  rw [hb1, bndE_s]
  unfold ref20_Add_l2
  have h := loop_fold (step := fun s : Int × List (List TValue) => ref20_Add_l2_s d (hitsS q e) q s.1 s.2) (List.range q.quants.length) (fun w i => w ++ [atS q d e i]) (fun w => w) (fun i w => w.length ≤ i)
    (fun i x w hx hI => by
      obtain ⟨rfl, hi⟩ := range_get hx
      have hlt : decide ((x : Int) < (q.quants.length : Int)) = true := by simp; omega
      refine ⟨?_, by simp; omega⟩
      obtain ⟨a, b⟩ := getD_SD hd x
      have hb9 : ref20_Add_b9 d (hitsS q e) (x : Int) (decide ((x : Int) < (d.length : Int))) q w = some ((d[x]?).getD []) := by
        unfold ref20_Add_b9
        rw [iteP]
        split
        · rw [get_vals x _ (by omega)]
        · rw [List.getElem?_eq_none (by omega)]; rfl
      unfold ref20_Add_l2_s ref20_Add_b8
      simp only
      rw [hlt, iteE_t, hb9, bndE_s, l10_eq hF hR a (by omega), bndE_s, chkF (by simp; omega) (by decide), bndE_s, succI (show x < 9223372036854775807 by omega)]
      rfl)
    (fun w _ => by rw [List.length_range]; simp only [ref20_Add_l2_s, ltI, iteE_f]) [] (by simp)
  rw [h, bndE_s, foldl_map]
  simp [addS]
end
theorem ref20_Same_eqs {d : List (List TValue)} {n : Nat} (hl : d.length ≤ 1000) (hd : SD d n) (hn : n ≤ 1000) : ref20_Same d d = some true := by
  unfold ref20_Same ref20_Same_l1
  rw [loop_all0 d (fun _ => true) (.inl () : Unit ⊕ Unit) (.inr ())
    (fun i w hw => by
      have hwl := (hd w (List.mem_of_getElem? hw)).2
      simp only [ref20_Same_l1_s, ltD hw, iteE_t, idxE_n hw, decide_true, Bool.not_true, iteE_f]
      unfold ref20_Same_l2
      rw [loop_all0 w (fun _ => true) (.inl () : Unit ⊕ Unit) (.inr ())
        (fun j y hy => by
          simp only [ref20_Same_l2_s, idxE_n hw, ltD hy, iteE_t, idxE_n hy, TValue.eqb_dec, decide_true, Bool.not_true, iteE_f, succW hy (show w.length ≤ 9223372036854775807 by omega), if_true])
        (by simp only [ref20_Same_l2_s, idxE_n hw, ltI, iteE_f]), bndE_s]
      simp only [List.all_eq_true, implies_true, if_true, sumE_l]
      rw [succW hw (show d.length ≤ 9223372036854775807 by omega)])
    (by simp only [ref20_Same_l1_s, ltI, iteE_f]), bndE_s]
  simp [iteE, sumE]
theorem law20_small_ex (q : TQea) (hW : ∀ t ∈ q.trans, TransW t) (l : List TEvent) : ∃ r, law20_small q l = some r ∧ (r = true → FewP q ∧ RightQ q ∧ l.length ≤ 20 ∧ ∀ e ∈ l, e.args.length ≤ 12) := by
  unfold law20_small
  obtain ⟨n, hn, hF⟩ := ref13_Few_ex q
  refine ex_bnd hn ?_
  refine ex_if (fun _ => ⟨_, rfl, by simp⟩) (fun h0 => ?_)
  refine ex_if (fun _ => ⟨_, rfl, by simp⟩) (fun h20 => ?_)
  obtain ⟨r, hr, hR⟩ := ref13_Right_ex q (hF h0) hW
  refine ex_bnd hr ?_
  refine ex_ifnb (fun _ => ⟨_, rfl, by simp⟩) (fun hrt => ?_)
  obtain ⟨t, ht, hQ⟩ := loop_scan0 (step := fun i => law20_small_l1_s l i) l.length (fun i => ∀ e, l[i]? = some e → e.args.length ≤ 12) (fun t => t = .inl () → ∀ e ∈ l, e.args.length ≤ 12)
    (fun i hi => by
      obtain ⟨x, hx, _⟩ := get_lt hi
      simp only [law20_small_l1_s, ltD hx, iteE_t, idxE_n hx, iteP]
      split
      · exact .inr ⟨_, rfl, fun h => by cases h⟩
      rename_i h12
      obtain ⟨t, ht, _⟩ := loop_scan0 (step := fun k => law20_small_l2_s l (i : Int) k) x.args.length (fun _ => True) (fun _ => True)
        (fun k hk => by
          obtain ⟨y, hy, _⟩ := get_lt hk
          simp only [law20_small_l2_s, idxE_n hx, ltD hy, iteE_t, idxE_n hy, succW hy (show x.args.length ≤ 9223372036854775807 by omega)]
          cases decide ((1000 : Int) < (y.str.length : Int)) with
          | true => exact .inr ⟨_, rfl, trivial⟩
          | false => exact .inl ⟨rfl, trivial⟩)
        (fun _ => ⟨.inl (), by simp only [law20_small_l2_s, idxE_n hx, ltI, iteE_f], trivial⟩)
      unfold law20_small_l2
      rw [ht, bndE_s]
      rcases t with _ | _
      · refine .inl ⟨by rw [sumE_l, succW hx (show l.length ≤ 9223372036854775807 by omega)], fun e he => ?_⟩
        rw [hx] at he; cases he; omega
      · exact .inr ⟨_, rfl, fun h => by cases h⟩)
    (fun hP => ⟨.inl (), by simp only [law20_small_l1_s, ltI, iteE_f], fun _ e he => by
      obtain ⟨j, hj⟩ := List.mem_iff_getElem?.1 he
      exact hP j (getLt hj) e hj⟩)
  refine ex_bnd ht ?_
  rcases t with _ | _
  · exact ⟨_, rfl, fun _ => ⟨hF h0, hR hrt, by omega, hQ rfl⟩⟩
  · exact ⟨_, rfl, by simp⟩
theorem addS_len (q : TQea) (d : List (List TValue)) (e : TEvent) : (addS q d e).length = q.quants.length := by simp [addS]
def ofS (q : TQea) (l : List TEvent) : List (List TValue) := l.foldl (addS q) (List.replicate q.quants.length [])
theorem ofS_ok {q : TQea} (hF : FewP q) (hR : RightQ q) : ∀ (l : List TEvent) (d : List (List TValue)) (n : Nat), SD d n → d.length = q.quants.length → SD (l.foldl (addS q) d) (n + 12 * l.length) ∧ (l.foldl (addS q) d).length = q.quants.length
  | [], d, n, h, hl => ⟨by simpa using h, hl⟩
  | e :: l, d, n, h, hl => by
    obtain ⟨a, b⟩ := ofS_ok hF hR l (addS q d e) (n + 12) (addS_ok hF hR h) (addS_len q d e)
    refine ⟨?_, b⟩
    rw [List.length_cons, show n + 12 * (l.length + 1) = n + 12 + 12 * l.length by omega]
    exact a
theorem SD_rep (m : Nat) : SD (List.replicate m []) 0 := fun l hl => by rw [(List.mem_replicate.1 hl).2]; exact ⟨SW_nil, by simp⟩
theorem take_foldl {α β : Type} (f : β → α → β) (w : β) (l : List α) {i : Nat} {x : α} (h : l[i]? = some x) : (l.take (i + 1)).foldl f w = f ((l.take i).foldl f w) x := by
  rw [List.take_add_one, h, List.foldl_append]; rfl
theorem of_take {q : TQea} (hF : FewP q) (hR : RightQ q) (l : List TEvent) (hl : l.length ≤ 20) (i : Nat) : SD (ofS q (l.take i)) 240 ∧ (ofS q (l.take i)).length = q.quants.length := by
  obtain ⟨a, b⟩ := ofS_ok hF hR (l.take i) _ 0 (SD_rep q.quants.length) (by simp)
  refine ⟨fun x hx => ⟨(a x hx).1, ?_⟩, b⟩
  have := (a x hx).2
  rw [List.length_take] at this
  omega
theorem Of_eq {q : TQea} (hF : FewP q) (hR : RightQ q) (l : List TEvent) (hl : l.length ≤ 20) (h12 : ∀ e ∈ l, e.args.length ≤ 12) : domain_Of q l = some (ofS q l) := by
  have hq := hF.quants
  unfold domain_Of domain_Of_l1
  rw [chkE_p ⟨by omega, fit_small (by simp; omega) (by decide)⟩, Int.toNat_natCast]
  obtain ⟨t, ht, rfl⟩ := loopE_ex (step := fun s : List (List TValue) × Int => domain_Of_l1_s l (l.length : Int) q s.1 s.2)
    (fun s => ∃ i : Nat, i ≤ l.length ∧ s = (ofS q (l.take i), (i : Int))) (fun s => l.length - s.2.toNat) (fun t => t = ofS q l)
    (by
      rintro s ⟨i, hi, rfl⟩
      simp only
      rcases Nat.lt_or_ge i l.length with h | h
      · right
        obtain ⟨x, hx, _⟩ := get_lt h
        obtain ⟨a, b⟩ := of_take hF hR l hl i
        refine ⟨(ofS q (l.take (i + 1)), ((i + 1 : Nat) : Int)), ?_, ⟨i + 1, by omega, rfl⟩, by simp only; omega⟩
        unfold domain_Of_l1_s
        rw [ltD hx, iteE_t, idxE_n hx, Add_eq hF hR (h12 x (List.mem_of_getElem? hx)) a (by omega) (by omega), bndE_s, succW hx (show l.length ≤ 9223372036854775807 by omega)]
        unfold ofS
        rw [take_foldl _ _ _ hx]
      · have : i = l.length := by omega
        subst this
        exact .inl ⟨ofS q l, by simp only [domain_Of_l1_s, ltI, iteE_f, List.take_length], rfl⟩)
    (List.replicate q.quants.length [], 0) ⟨0, by omega, rfl⟩
  rw [ht]; rfl
theorem ref20_Of_nil {q : TQea} (hF : FewP q) : ref20_Of q [] = some (ofS q []) := by
  have hq := hF.quants
  unfold ref20_Of ref20_Of_l1
  rw [chkE_p ⟨by omega, fit_small (by simp; omega) (by decide)⟩, Int.toNat_natCast, loopE_eq]
  unfold ref20_Of_l1_s
  rfl
theorem Fresh_eq {q : TQea} {v : Nat} {x : TQuant} (hv : q.quants[v]? = some x) (w : List TValue) : domain_Fresh q (v : Int) w = ref20_Fresh x.type w := by
  unfold domain_Fresh ref20_Fresh
  rw [idxE_n hv]
theorem Fresh_tot (k : Int) (w : List TValue) : ∃ b, ref20_Fresh k w = some b := by
  unfold ref20_Fresh
  rw [iteE_if]
  split <;> exact ⟨_, rfl⟩
theorem law20_DomainOf_eq (q : TQea) (l : List TEvent) (hW : ∀ t ∈ q.trans, TransW t) : law20_DomainOf q l = some true := by
  unfold law20_DomainOf
  rw [awake_eq]
  obtain ⟨r, hr, hS⟩ := law20_small_ex q hW l
  rw [hr, bndE_s]
  cases r with
  | false => rfl
  | true =>
    obtain ⟨hF, hR, hl, h12⟩ := hS rfl
    have hq := hF.quants
    rw [Bool.not_true, iteE_f, Of_eq hF hR [] (by simp) (by simp), bndE_s, ref20_Of_nil hF, bndE_s]
    unfold law20_DomainOf_l1
    obtain ⟨t, ht, rfl⟩ := loopE_ex (step := fun s : List (List TValue) × List (List TValue) × Int => law20_DomainOf_l1_s l q s.1 s.2.1 s.2.2)
      (fun s => ∃ i : Nat, i ≤ l.length ∧ s = (ofS q (l.take i), ofS q (l.take i), (i : Int))) (fun s => l.length - s.2.2.toNat) (fun t => t = .inl (ofS q l))
      (by
        rintro s ⟨i, hi, rfl⟩
        simp only
        rcases Nat.lt_or_ge i l.length with h | h
        · right
          obtain ⟨x, hx, _⟩ := get_lt h
          obtain ⟨a, b⟩ := of_take hF hR l hl i
          have hx12 := h12 x (List.mem_of_getElem? hx)
          refine ⟨(ofS q (l.take (i + 1)), ofS q (l.take (i + 1)), ((i + 1 : Nat) : Int)), ?_, ⟨i + 1, by omega, rfl⟩, by simp only; omega⟩
          have e1 : ofS q (l.take (i + 1)) = addS q (ofS q (l.take i)) x := by unfold ofS; rw [take_foldl _ _ _ hx]
          unfold law20_DomainOf_l1_s
          simp only [ltD hx, iteE_t, idxE_n hx]
          rw [Add_eq hF hR hx12 a (by omega) (by omega), bndE_s, ref20_Add_eq hF hR hx12 a (by omega) (by omega), bndE_s,
            ref20_Same_eqs (n := 252) (by rw [addS_len]; omega) (addS_ok hF hR a) (by omega), bndE_s, succW hx (show l.length ≤ 9223372036854775807 by omega), e1]
          rfl
        · have : i = l.length := by omega
          subst this
          exact .inl ⟨.inl (ofS q l), by simp only [law20_DomainOf_l1_s, ltI, iteE_f, List.take_length], rfl⟩)
      (ofS q [], ofS q [], 0) ⟨0, by omega, by simp⟩
    rw [ht, bndE_s, sumE_l]
    obtain ⟨hsd, hln⟩ := of_take hF hR l hl l.length
    rw [List.take_length] at hsd hln
    unfold law20_DomainOf_l2
    rw [loop_all0 (ofS q l) (fun _ => true) (.inl () : Unit ⊕ Unit) (.inr ())
      (fun i w hw => by
        obtain ⟨x, hx, _⟩ := get_lt (l := q.quants) (i := i) (by have := getLt hw; omega)
        obtain ⟨b, hb⟩ := Fresh_tot x.type w
        simp only [law20_DomainOf_l2_s, ltD hw, iteE_t, idxE_n hw, Fresh_eq hx, idxE_n hx, hb, bndE_s, beq_self_eq_true, Bool.not_true, iteE_f, succW hw (show (ofS q l).length ≤ 9223372036854775807 by omega), if_true])
      (by simp only [law20_DomainOf_l2_s, ltI, iteE_f]), bndE_s]
    simp only [List.all_eq_true, implies_true, if_true, sumE_l]
    rw [Of_eq hF hR l hl h12, bndE_s, ref20_Same_eqs (n := 240) (by omega) hsd (by omega), bndE_s]
    rfl
end Go.Ac
