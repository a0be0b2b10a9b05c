/- Own work: the plain law. -/
import Derived.Test.YtpmebmbfkmgjjaaP26An
set_option linter.unusedVariables false
set_option linter.unusedSimpArgs false
namespace Go.Ac
def BR (b : List TSlot) : Prop := b.Pairwise (fun x y => x.var < y.var) ∧ ∀ s ∈ b, 0 ≤ s.var ∧ s.var ≤ 7 ∧ vR s.value = true
theorem BR_nil : BR [] := ⟨.nil, by simp⟩
theorem sorted_len : ∀ (b : List TSlot) (lo : Int), b.Pairwise (fun x y => x.var < y.var) → (∀ s ∈ b, lo ≤ s.var ∧ s.var ≤ 7) → b.length ≤ (8 - lo).toNat
  | [], _, _, _ => by simp
  | x :: b, lo, hp, h => by
    rw [List.pairwise_cons] at hp
    have h1 := sorted_len b (x.var + 1) hp.2 fun s hs => ⟨by have := hp.1 s hs; omega, (h s (List.mem_cons_of_mem _ hs)).2⟩
    have h2 := h x (by simp)
    rw [List.length_cons]; omega
theorem BR_len {b : List TSlot} (h : BR b) : b.length ≤ 8 := by
  have := sorted_len b 0 h.1 fun s hs => ⟨(h.2 s hs).1, (h.2 s hs).2.1⟩
  omega
theorem BR.i {b : List TSlot} (h : BR b) : RBi b := ⟨by have := BR_len h; omega, fun s hs => (h.2 s hs).2.2⟩
theorem BR_ext {a b : List TSlot} (ha : BR a) (hb : BR b) (h : ∀ s, s ∈ a ↔ s ∈ b) : a = b := sorted_ext ha.1 hb.1 h
theorem BR_filter {b : List TSlot} (h : BR b) (p : TSlot → Bool) : BR (b.filter p) := ⟨h.1.filter _, fun s hs => h.2 s (List.mem_filter.1 hs).1⟩
theorem BR_uniq {u : List TSlot} (h : BR u) {s t : TSlot} (hs : s ∈ u) (ht : t ∈ u) (e : s.var = t.var) : s = t := by
  have h1 := getS_sorted h.1 hs
  have h2 := getS_sorted h.1 ht
  rw [e, h2] at h1
  cases s; cases t; simp_all
theorem fits_iff {a b : List TSlot} (hb : BR b) : fitsS a b = true ↔ ∀ s ∈ a, ∀ t ∈ b, s.var = t.var → s = t := by
  unfold fitsS
  rw [List.all_eq_true]
  constructor
  · intro h s hs t ht e
    have h1 := h s hs
    have h2 := getS_sorted hb.1 ht
    rw [e, h2] at h1
    cases s; cases t; simp_all
  · intro h s hs
    cases hg : getS b s.var with
    | mk x o =>
      cases o with
      | false => rfl
      | true =>
        have := h s hs _ (getS_mem hg) rfl
        rw [this]; simp
theorem fits_of {u a b : List TSlot} (hu : BR u) (hb : BR b) (h1 : ∀ s ∈ a, s ∈ u) (h2 : ∀ s ∈ b, s ∈ u) : fitsS a b = true :=
  (fits_iff hb).2 fun s hs t ht e => BR_uniq hu (h1 s hs) (h2 t ht) e
theorem union_mem {a b : List TSlot} (ha : BR a) (hb : BR b) (hf : fitsS a b = true) (s : TSlot) : s ∈ unionS a b ↔ s ∈ a ∨ s ∈ b := by
  rw [unionS_mem]
  constructor
  · rintro ⟨_, _, h | ⟨_, h⟩⟩
    · exact .inl (getS_mem h)
    · exact .inr (getS_mem h)
  · rintro (h | h)
    · exact ⟨(ha.2 s h).1, (ha.2 s h).2.1, .inl (getS_sorted ha.1 h)⟩
    · refine ⟨(hb.2 s h).1, (hb.2 s h).2.1, ?_⟩
      cases hg : getS a s.var with
      | mk x o =>
        cases o with
        | false => exact .inr ⟨rfl, getS_sorted hb.1 h⟩
        | true =>
          left
          have := (fits_iff hb).1 hf _ (getS_mem hg) s h rfl
          rw [← this]
theorem union_BR {a b : List TSlot} (ha : BR a) (hb : BR b) (hf : fitsS a b = true) : BR (unionS a b) :=
  ⟨unionS_sorted a b, fun s hs => by
    rcases (union_mem ha hb hf s).1 hs with h | h
    · exact ha.2 s h
    · exact hb.2 s h⟩
def Un (u : List TSlot) (ls : List (List TSlot)) : Prop := BR u ∧ ∀ s, s ∈ u ↔ ∃ b ∈ ls, s ∈ b
theorem Un_uniq {u v : List TSlot} {ls : List (List TSlot)} (h1 : Un u ls) (h2 : Un v ls) : u = v := BR_ext h1.1 h2.1 fun s => (h1.2 s).trans (h2.2 s).symm
theorem Un_congr {u : List TSlot} {l m : List (List TSlot)} (h : ∀ b, b ∈ l ↔ b ∈ m) : Un u l ↔ Un u m := by
  unfold Un; simp only [h]
theorem Un_one {b : List TSlot} (h : BR b) : Un b [b] := ⟨h, by simp⟩
theorem Un_step {y b : List TSlot} {ls : List (List TSlot)} (hy : Un y ls) (hb : BR b) (hf : fitsS y b = true) : Un (unionS y b) (ls ++ [b]) :=
  ⟨union_BR hy.1 hb hf, fun s => by
    rw [union_mem hy.1 hb hf, hy.2]
    constructor
    · rintro (⟨c, hc, hs⟩ | hs)
      · exact ⟨c, by simp [hc], hs⟩
      · exact ⟨b, by simp, hs⟩
    · rintro ⟨c, hc, hs⟩
      rw [List.mem_append, List.mem_singleton] at hc
      rcases hc with hc | rfl
      · exact .inl ⟨c, hc, hs⟩
      · exact .inr hs⟩
theorem Un_sub {u : List TSlot} {l m : List (List TSlot)} (h : Un u l) (hm : ∀ b ∈ m, b ∈ l) : ∃ y, Un y m ∧ ∀ s ∈ y, s ∈ u := by
  refine ⟨u.filter fun s => decide (∃ b ∈ m, s ∈ b), ⟨BR_filter h.1 _, fun s => ?_⟩, fun s hs => (List.mem_filter.1 hs).1⟩
  rw [List.mem_filter, decide_eq_true_eq]
  constructor
  · exact fun h => h.2
  · rintro ⟨b, hb, hs⟩
    exact ⟨(h.2 s).2 ⟨b, hm b hb, hs⟩, b, hb, hs⟩
theorem Un_mem {u b : List TSlot} {ls : List (List TSlot)} (h : Un u ls) (hb : b ∈ ls) : ∀ s ∈ b, s ∈ u := fun s hs => (h.2 s).2 ⟨b, hb, hs⟩
theorem Un_split {u b : List TSlot} {ls : List (List TSlot)} (h : Un u (ls ++ [b])) (hb : BR b) : ∃ y, Un y ls ∧ fitsS y b = true ∧ unionS y b = u := by
  obtain ⟨y, hy, hyu⟩ := Un_sub (m := ls) h (by simp +contextual)
  have hf := fits_of h.1 hb hyu (Un_mem h (by simp))
  exact ⟨y, hy, hf, Un_uniq (Un_step hy hb hf) h⟩
def unO (x b : List TSlot) : Option (List TSlot) := if fitsS x b = true then some (unionS x b) else none
theorem binding_Fits_eq (a b : List TSlot) (ha : a.length ≤ 9223372036854775807) (hb : b.length ≤ 9223372036854775807) : binding_Fits a b = some (fitsS a b) := by
  unfold binding_Fits binding_both
  simp only [bndE_s]
  unfold binding_both_1 binding_both_1_l1
  have h := loop_list (step := fun s : (Bool ⊕ Bool) × Int => binding_both_1_l1_s (stepOf (binding_Fits_r1_rd a b)) b a (a.length : Int) s.1 s.2) a (fun i w => (w, (i : Int)))
    (fun _ (w : Bool ⊕ Bool) x => if (!(getS b x.var).2 || decide ((getS b x.var).1 = x.value)) = true then .inl w else .inr (.inr (.inr false))) (fun w => .inl w) (fun _ w => w = .inl false) (fun i x w hx hI => by
      subst hI
      refine ⟨?_, fun w' hw => ?_⟩
      · simp only [binding_both_1_l1_s, ltD hx, iteE_t, binding_both_1_b2, idxE_n hx, binding_Get_eq b _ hb, bndE_s, succW hx ha]
        obtain ⟨y, o⟩ := getS b x.var
        cases o
        · simp [iteE, yldE, stepOf, binding_Fits_r1_rd, sumE, bndE, binding_Fits_b4, binding_Fits_b7]
        · by_cases h : y = x.value <;> simp [iteE, yldE, stepOf, binding_Fits_r1_rd, sumE, bndE, binding_Fits_b2, binding_Fits_b6, TValue.eqb_dec, h]
      · split at hw
        · cases hw; rfl
        · cases hw)
    (fun w _ => by simp only [binding_both_1_l1_s, ltI, iteE_f]) (a.length + 1) 0 (.inl false) (by omega) (by omega) rfl
  rw [show ((.inl false : Bool ⊕ Bool), (0 : Int)) = (.inl false, ((0 : Nat) : Int)) from rfl, h, List.drop_zero, bndE_s]
  unfold fitsS
  generalize 0 = i
  clear h ha
  revert i
  induction a with
  | nil => intro i; rfl
  | cons x xs ih =>
    intro i
    rw [runL, List.all_cons]
    by_cases h : (!(getS b x.var).2 || decide ((getS b x.var).1 = x.value)) = true
    · simp only [h, if_true, Bool.true_and]; exact ih (i + 1)
    · simp only [h]; simp [sumE, bndE]
def okB (l : List TSlot) (i : Nat) : Prop := ∀ j, j < i → ∃ x, l[j]? = some x ∧ 0 ≤ x.var ∧ x.var ≤ 7 ∧ vR x.value = true ∧ ∀ y, 0 < j → l[j - 1]? = some y → y.var < x.var
theorem okB_right {l : List TSlot} (h : okB l l.length) : BR l := by
  have get : ∀ j (hj : j < l.length), 0 ≤ l[j].var ∧ l[j].var ≤ 7 ∧ vR l[j].value = true ∧ ∀ (_ : 0 < j) (h2 : j - 1 < l.length), l[j - 1].var < l[j].var := by
    intro j hj
    obtain ⟨x, hx, h1, h2, h5, h3⟩ := h j hj
    obtain ⟨_, rfl⟩ := List.getElem?_eq_some_iff.1 hx
    exact ⟨h1, h2, h5, fun h0 h4 => h3 _ h0 (List.getElem?_eq_getElem h4)⟩
  refine ⟨List.pairwise_iff_getElem.2 ?_, fun s hs => ?_⟩
  · intro i j hi hj hij
    induction j with
    | zero => omega
    | succ j ih =>
      have h1 := (get (j + 1) hj).2.2.2 (by omega) (by simp; omega)
      simp only [Nat.add_sub_cancel] at h1
      rcases Nat.lt_or_ge i j with h2 | h2
      · have := ih (by omega) h2; omega
      · have : i = j := by omega
        subst this; exact h1
  · obtain ⟨j, hj, rfl⟩ := List.mem_iff_getElem.1 hs
    exact ⟨(get j hj).1, (get j hj).2.1, (get j hj).2.2.1⟩
theorem ref05_RightB (l : List TSlot) (hl : l.length ≤ 9223372036854775807) : ∃ b, ref05_Right l = some b ∧ (b = true → BR l) := by
  unfold ref05_Right ref05_Right_l1
  obtain ⟨t, ht, hQ⟩ := loopE_ex (step := fun s => ref05_Right_l1_s l s) (fun s => ∃ i : Nat, s = (i : Int) ∧ i ≤ l.length ∧ okB l i) (fun s => (l.length - s).toNat) (fun t => t = .inl () → okB l l.length)
    (by
      rintro s ⟨i, rfl, hi, hok⟩
      by_cases he : i = l.length
      · subst he
        exact .inl ⟨.inl (), by simp only [ref05_Right_l1_s, ltI, iteE_f], fun _ => hok⟩
      · obtain ⟨x, hx, _⟩ := get_lt (l := l) (i := i) (by omega)
        simp only [ref05_Right_l1_s, ltD hx, iteE_t, idxE_n hx, ref03_Right_eq, bndE_s, succW hx hl, iteP]
        have hgo : (∀ y, 0 < i → l[i - 1]? = some y → y.var < x.var) → ¬ x.var < 0 → ¬ 7 < x.var → vR x.value = true → okB l (i + 1) := by
          intro h1 h2 h3 h5 j hj
          rcases Nat.lt_or_ge j i with h4 | h4
          · exact hok j h4
          · have : j = i := by omega
            subst this
            exact ⟨x, hx, by omega, by omega, h5, h1⟩
        by_cases h1 : x.var < 0
        · exact .inl ⟨.inr (), by simp [h1], by simp⟩
        by_cases h2 : 7 < x.var
        · exact .inl ⟨.inr (), by simp [h1, h2], by simp⟩
        cases hb : vR x.value with
        | false => exact .inl ⟨.inr (), by simp [h1, h2, iteE], by simp⟩
        | true =>
          by_cases h3 : 0 < i
          · obtain ⟨y, hy, _⟩ := get_lt (l := l) (i := i - 1) (by omega)
            have e : intVal .sub .i64 (i : Int) 1 = ((i - 1 : Nat) : Int) := by rw [subI (by omega) (by omega)]; omega
            rw [e, idxE_n hy]
            by_cases h4 : x.var ≤ y.var
            · exact .inl ⟨.inr (), by simp [h1, h2, h3, h4, iteE], by simp⟩
            · refine .inr ⟨((i + 1 : Nat) : Int), by simp [h1, h2, h3, h4, iteE], ⟨i + 1, rfl, by omega, hgo (fun z _ hz => ?_) h1 h2 hb⟩, by omega⟩
              rw [hy] at hz; cases hz; omega
          · refine .inr ⟨((i + 1 : Nat) : Int), by simp [h1, h2, h3, iteE], ⟨i + 1, rfl, by omega, hgo (fun z h0 => absurd h0 h3) h1 h2 hb⟩, by omega⟩)
    (0 : Int) ⟨0, rfl, by omega, fun j hj => by omega⟩
  rw [ht, bndE_s]
  rcases t with _ | _
  · exact ⟨true, rfl, fun _ => okB_right (hQ rfl)⟩
  · exact ⟨false, rfl, by simp⟩
theorem binding_Right_eq {b : List TSlot} (h : BR b) : binding_Right b = some true := by
  have hl := BR_len h
  unfold binding_Right binding_Right_l1
  rw [loop_all0 b (fun _ => true) (.inl () : Unit ⊕ Unit) (.inr ())
    (fun i x hx => by
      obtain ⟨h1, h2, h3⟩ := h.2 x (List.mem_of_getElem? hx)
      have d1 : decide (x.var < 0) = false := by simp; omega
      have d2 : decide (8 ≤ x.var) = false := by simp; omega
      simp only [binding_Right_l1_s, ltD hx, iteE_t, idxE_n hx, value_Right_eq, bndE_s, h3, Bool.not_true, d1, d2, iteE_f, if_true, succW hx (show b.length ≤ 9223372036854775807 by omega)]
      by_cases h0 : 0 < i
      · have d3 : decide ((0 : Int) < (i : Int)) = true := by simp; omega
        have hi := getLt hx
        obtain ⟨y, hy, _⟩ := get_lt (l := b) (i := i - 1) (by omega)
        have e : intVal .sub .i64 (i : Int) 1 = ((i - 1 : Nat) : Int) := by rw [subI (by omega) (by omega)]; omega
        have : y.var < x.var := by
          obtain ⟨a1, rfl⟩ := List.getElem?_eq_some_iff.1 hx
          obtain ⟨a2, rfl⟩ := List.getElem?_eq_some_iff.1 hy
          exact List.pairwise_iff_getElem.1 h.1 (i - 1) i a2 a1 (by omega)
        have d4 : decide (x.var ≤ y.var) = false := by simp; omega
        simp only [d3, iteE_t, e, idxE_n hy, d4, iteE_f]
      · have d3 : decide ((0 : Int) < (i : Int)) = false := by simp; omega
        simp only [d3, iteE_f])
    (by simp only [binding_Right_l1_s, ltI, iteE_f]), bndE_s]
  simp [sumE]
theorem find_eq {w : List TSlot} {v : Int} (hw : SV w) (hv : 0 ≤ v ∧ v ≤ 63) (hl : w.length ≤ 1000) :
    ∃ k : Nat, k ≤ w.length ∧ binding_find w v = some ((k : Int), (getS w v).2) ∧ (∀ j s, w[j]? = some s → j < k → s.var < v) ∧ (∀ j s, w[j]? = some s → k ≤ j → v ≤ s.var) ∧
      ((getS w v).2 = true → ∃ s, w[k]? = some s ∧ s.var = v) := by
  obtain ⟨k, hk, hb, q⟩ := bs_slots hw hv hl
  exact ⟨k, hk, by unfold binding_find; rw [hb, bndE_s], q⟩
theorem of_step {w : List TSlot} {x : TSlot} (hw : SV w) (hx : 0 ≤ x.var ∧ x.var ≤ 63) (hl : w.length ≤ 900) (s9 : List TSlot) (s10 : Int) {i : Nat} (hi : s9[i]? = some x) :
    binding_Of_b5 s9 s10 (i : Int) w = some (match putV w x with | none => .inr () | some w' => .inl w') := by
  unfold binding_Of_b5 binding_Of_b6 binding_Of_b7
  obtain ⟨k, hk, hb, q1, q2, q3⟩ := find_eq hw hx (show w.length ≤ 1000 by omega)
  rw [idxE_n hi, hb, bndE_s]
  unfold putV
  cases hg : (getS w x.var).2 with
  | true =>
    obtain ⟨s, hs, hsv⟩ := q3 hg
    have hklt := getLt hs
    have hgs := getS_sorted hw.1 (List.mem_of_getElem? hs)
    rw [hsv] at hgs
    simp only [Bool.not_true, iteE_f]
    rw [chkE_p (by omega), idxE_n hs, hgs]
    simp only [if_true, TSlot.eqb_dec]
    have he : (s = x) ↔ s.value = x.value := by
      obtain ⟨a, b⟩ := s; obtain ⟨c, d⟩ := x
      simp only at hsv; subst hsv; simp
    by_cases h : s.value = x.value
    · rw [if_pos h]; simp [he, h, iteE, bndE, sumE]
    · rw [if_neg h]; simp [he, h, iteE, bndE, sumE]
  | false =>
    have hn := getS_none hg
    simp only [Bool.not_false, iteE_t, Bool.false_eq_true, if_false]
    have hin : slices_Insert_Slot_Slot_v4 (k : Int) w [x] = some (insV w x) := by
      unfold slices_Insert_Slot_Slot_v4 insE
      rw [if_pos ⟨by omega, by omega, by simp, fit_small (by simp; omega) (by decide)⟩, Int.toNat_natCast]
      rw [cut_ins hw.1 hn hk q1 (fun j s hs hj => by
        have h1 := q2 j s hs hj
        have h2 := hn s (List.mem_of_getElem? hs)
        omega)]
    rw [hin]; rfl
theorem putV_in {w u : List TSlot} {x : TSlot} (hu : BR u) (hw : ∀ s ∈ w, s ∈ u) (hx : x ∈ u) : ∃ w', putV w x = some w' ∧ ∀ s, s ∈ w' ↔ s = x ∨ s ∈ w := by
  unfold putV
  cases hg : getS w x.var with
  | mk y o =>
    cases o with
    | true =>
      have hm := getS_mem hg
      have := BR_uniq hu (hw _ hm) hx rfl
      rw [this] at hm
      have hv : y = x.value := by rw [← this]
      refine ⟨w, by simp [hv], fun s => ⟨.inr, ?_⟩⟩
      rintro (rfl | h)
      · exact hm
      · exact h
    | false => exact ⟨insV w x, by simp, insV_mem w x⟩
theorem Of_eq {u r : List TSlot} (hu : BR u) (hr : ∀ s ∈ r, s ∈ u) (hl : r.length ≤ 100) : ∃ w, binding_Of_l1 r (r.length : Int) 0 [] = some (.inl w) ∧ SV w ∧ (∀ s, s ∈ w ↔ s ∈ r) := by
  unfold binding_Of_l1
  obtain ⟨t, ht, hQ⟩ := loopE_ex (step := fun s : Int × List TSlot => binding_Of_l1_s r (r.length : Int) s.1 s.2) (fun s => ∃ i : Nat, s.1 = (i : Int) ∧ i ≤ r.length ∧ SV s.2 ∧ s.2.length ≤ i ∧ ∀ x, x ∈ s.2 ↔ x ∈ r.take i) (fun s => (r.length - s.1).toNat)
    (fun t => ∃ w, t = .inl w ∧ SV w ∧ ∀ s, s ∈ w ↔ s ∈ r)
    (by
      rintro ⟨s, w⟩ ⟨i, hs, hi, hw, hwl, hm⟩
      simp only at hs hw hwl hm
      subst hs
      simp only
      by_cases he : i = r.length
      · subst he
        exact .inl ⟨.inl w, by simp only [binding_Of_l1_s, ltI, iteE_f], w, rfl, hw, by simpa using hm⟩
      · obtain ⟨x, hx, _⟩ := get_lt (l := r) (i := i) (by omega)
        have hxr := List.mem_of_getElem? hx
        have hxv := hu.2 x (hr x hxr)
        have hx63 : 0 ≤ x.var ∧ x.var ≤ 63 := by omega
        obtain ⟨w', hp, hm'⟩ := putV_in (w := w) hu (fun s hs => hr s (List.mem_of_mem_take ((hm s).1 hs))) (hr x hxr)
        obtain ⟨p1, p2⟩ := putV_ok hw hx63 hp
        refine .inr ⟨(((i + 1 : Nat) : Int), w'), ?_, ⟨i + 1, rfl, by omega, p1, by simp only; omega, fun s => ?_⟩, by simp only; omega⟩
        · simp only [binding_Of_l1_s, ltD hx, iteE_t]
          rw [of_step hw hx63 (by omega) r _ hx, bndE_s, hp]
          simp only [sumE_l, succW hx (show r.length ≤ 9223372036854775807 by omega)]
        · simp only
          rw [hm', hm, List.take_add_one, hx, List.mem_append]
          simp [or_comm])
    ((0 : Int), ([] : List TSlot)) ⟨0, rfl, by omega, ⟨.nil, by simp⟩, by simp, by simp⟩
  obtain ⟨w, rfl, h1, h2⟩ := hQ
  exact ⟨w, ht, h1, h2⟩
theorem concat2 {a b : List TSlot} (ha : a.length ≤ 1000) (hb : b.length ≤ 1000) : slices_Concat_Slot_Slot_v2 [a, b] = some (a ++ b) := by
  have e1 : intVal .add .i64 0 (a.length : Int) = (a.length : Int) := by rw [addI (by omega) (by omega)]; omega
  have e2 : intVal .add .i64 (a.length : Int) (b.length : Int) = ((a.length + b.length : Nat) : Int) := by rw [addI (by omega) (by omega)]; omega
  have d1 : decide ((a.length : Int) < 0) = false := decide_eq_false (by omega)
  have d2 : decide (((a.length + b.length : Nat) : Int) < 0) = false := decide_eq_false (by omega)
  have s1 : intVal .add .i64 0 1 = 1 := by rw [addI (by omega) (by omega)]; rfl
  have s2 : intVal .add .i64 1 1 = 2 := by rw [addI (by omega) (by omega)]; rfl
  have h1 : slices_Concat_Slot_Slot_v2_l1 [a, b] [a, b] (([a, b] : List (List TSlot)).length : Int) 0 0 = some ((a.length + b.length : Nat) : Int) := by
    rw [slices_Concat_Slot_Slot_v2_l1_eq]
    unfold slices_Concat_Slot_Slot_v2_l1_s slices_Concat_Slot_Slot_v2_b2 slices_Concat_Slot_Slot_v2_b3
    simp only [List.length_cons, List.length_nil, idxE_0, e1, d1, iteE_f, bndE_s, s1]
    rw [show decide ((0 : Int) < ((0 + 1 + 1 : Nat) : Int)) = true from rfl, iteE_t, nextE_l]
    rw [slices_Concat_Slot_Slot_v2_l1_eq]
    unfold slices_Concat_Slot_Slot_v2_l1_s slices_Concat_Slot_Slot_v2_b2 slices_Concat_Slot_Slot_v2_b3
    simp only [idxE_1, e2, d2, iteE_f, bndE_s, s2]
    rw [show decide ((1 : Int) < ((0 + 1 + 1 : Nat) : Int)) = true from rfl, iteE_t, nextE_l]
    rw [slices_Concat_Slot_Slot_v2_l1_eq]
    rfl
  have h2 : slices_Concat_Slot_Slot_v2_l4 [a, b] (([a, b] : List (List TSlot)).length : Int) 0 [] = some (a ++ b) := by
    rw [slices_Concat_Slot_Slot_v2_l4_eq]
    unfold slices_Concat_Slot_Slot_v2_l4_s
    simp only [List.length_cons, List.length_nil, idxE_0, s1]
    rw [show decide ((0 : Int) < ((0 + 1 + 1 : Nat) : Int)) = true from rfl, iteE_t, chkF (by omega) (by decide), nextE_l]
    rw [slices_Concat_Slot_Slot_v2_l4_eq]
    unfold slices_Concat_Slot_Slot_v2_l4_s
    simp only [idxE_1, s2, List.nil_append]
    rw [show decide ((1 : Int) < ((0 + 1 + 1 : Nat) : Int)) = true from rfl, iteE_t, chkF (by omega) (by decide), nextE_l]
    rw [slices_Concat_Slot_Slot_v2_l4_eq]
    rfl
  unfold slices_Concat_Slot_Slot_v2 slices_Grow_Slot_Slot_v2 growE
  rw [h1, bndE_s, if_pos (by omega), bndE_s, h2, bndE_s]
theorem binding_Union_eq {a b : List TSlot} (ha : BR a) (hb : BR b) : binding_Union a b = some (match unO a b with | some u => (u, true) | none => ([], false)) := by
  have la := BR_len ha
  have lb := BR_len hb
  unfold binding_Union unO
  rw [binding_Fits_eq a b (by omega) (by omega), bndE_s]
  cases hf : fitsS a b with
  | false => rfl
  | true =>
    simp only [Bool.not_true, iteE_f, if_true]
    rw [concat2 (by omega) (by omega), bndE_s]
    unfold binding_Of
    have hu := union_BR ha hb hf
    obtain ⟨w, h1, h2, h3⟩ := Of_eq (r := a ++ b) hu (fun s hs => (union_mem ha hb hf s).2 (List.mem_append.1 hs)) (by simp; omega)
    have : w = unionS a b := sorted_ext h2.1 hu.1 fun s => by rw [h3, List.mem_append, union_mem ha hb hf]
    subst this
    rw [h1, bndE_s, sumE_l, binding_Right_eq hu, bndE_s]
    simp only [Bool.not_true, iteE_f, bndE_s]
end Go.Ac
