/- Own work: the plain law. -/
import Derived.Test.YtpmebmbfkmgjjaaP26Ec
set_option linter.unusedVariables false
set_option linter.unusedSimpArgs false
namespace Go.Ac
theorem ref18_One_refl (c : TConfig) (h : c.vals.length ≤ 9223372036854775807) : ref18_One c c = some true := by
  have hl : ref18_Less c c = some false := by
    unfold ref18_Less ref18_Less_l1
    rw [decide_eq_true rfl, Bool.not_true, iteE_f, loop_all0 c.vals (fun _ => true) (.inl () : Unit ⊕ Bool) (.inl ())
      (fun i x hx => by
        simp only [ref18_Less_l1_s, ltD hx, iteE_t, idxE_n hx, TValue.eqb_dec, decide_true, Bool.not_true, iteE_f, if_true, succW hx h])
      (by simp only [ref18_Less_l1_s, ltI, iteE_f]), bndE_s]
    simp [sumE]
  unfold ref18_One
  rw [hl, bndE_s]; rfl
theorem ref18_Same_refl {s : List TConfig} (hs : s.length ≤ 1000) (h : ∀ c ∈ s, c.vals.length ≤ 1000) : ref18_Same s s = some true := by
  unfold ref18_Same ref18_Same_l1
  rw [decide_eq_true rfl, Bool.not_true, iteE_f, loop_all0 s (fun _ => true) (.inl () : Unit ⊕ Unit) (.inr ())
    (fun i x hx => by
      have := h x (List.mem_of_getElem? hx)
      simp only [ref18_Same_l1_s, ltD hx, iteE_t, idxE_n hx, ref18_One_refl x (show x.vals.length ≤ 9223372036854775807 by omega), bndE_s, Bool.not_true, iteE_f, if_true, succW hx (show s.length ≤ 9223372036854775807 by omega)])
    (by simp only [ref18_Same_l1_s, ltI, iteE_f]), bndE_s]
  simp [sumE]
theorem ref24_Same_refl {w : List TRow} (hw : ∀ r ∈ w, RowOk r) (hl : w.length ≤ 1000) : ref24_Same w w = some true := by
  unfold ref24_Same ref24_Same_l1
  rw [decide_eq_true rfl, Bool.not_true, iteE_f, loop_all0 w (fun _ => true) (.inl () : Unit ⊕ Unit) (.inr ())
    (fun i x hx => by
      have hr := hw x (List.mem_of_getElem? hx)
      have := BR_len hr.1
      simp only [ref24_Same_l1_s, ltD hx, iteE_t, idxE_n hx, ref05_Same_eq x.bind x.bind (show x.bind.length ≤ 9223372036854775807 by omega), ref18_Same_refl hr.2.1 hr.2.2, decide_true, bndE_s, Bool.not_true, iteE_f, if_true, succW hx (show w.length ≤ 9223372036854775807 by omega)])
    (by simp only [ref24_Same_l1_s, ltI, iteE_f]), bndE_s]
  simp [sumE]
def undZ (r : List TRow) (b : List TSlot) : List (TRow × Nat) := r.zipIdx.filter fun q => underS q.1.bind b
def grZ (r : List TRow) (b : List TSlot) : List (TRow × Nat) := (undZ r b).filter fun q => maxR (undR r b) q.1
theorem undZ_fst (r : List TRow) (b : List TSlot) : (undZ r b).map (·.1) = undR r b := filter_fst r fun x => underS x.bind b
theorem grZ_fst (r : List TRow) (b : List TSlot) : (grZ r b).map (·.1) = grR r b := by
  unfold grZ grR
  rw [← undZ_fst r b, List.filter_map]
  rfl
theorem undZ_get {r : List TRow} {b : List TSlot} {q : TRow × Nat} (h : q ∈ undZ r b) : r[q.2]? = some q.1 := zipIdx_mem (List.mem_filter.1 h).1
theorem ref26_Most_eq {r : List TRow} {b : List TSlot} (hr : ∀ x ∈ r, RowOk x) (hb : BR b) (hn : r.length ≤ 100000) : ref26_Most r b false = some ((grZ r b).map fun q => (q.2 : Int)) := by
  have lb := BR_len hb
  unfold ref26_Most
  have l1 : ref26_Most_l1 r b false 0 [] = some ((undZ r b).map fun q => (q.2 : Int)) := by
    unfold ref26_Most_l1
    have key := loop_list (step := fun s : Int × List Int => ref26_Most_l1_s r b false s.1 s.2) r (fun i (w : List Int) => ((i : Int), w))
      (fun i w x => (.inl (if underS x.bind b = true then w ++ [(i : Int)] else w) : List Int ⊕ List Int)) (fun w => w) (fun i w => w.length ≤ i)
      (fun i x w hx hI => by
        have hi := getLt hx
        have lx := BR_len (hr x (List.mem_of_getElem? hx)).1
        refine ⟨?_, fun w' hw => by
          cases hw; split
          · rw [List.length_append, List.length_singleton]; omega
          · omega⟩
        simp only [ref26_Most_l1_s, ltD hx, iteE_t, ref26_Most_b4, ref26_Most_b5, idxE_n hx, ref05_Under_eq x.bind b (show x.bind.length ≤ 9223372036854775807 by omega) (show b.length ≤ 9223372036854775807 by omega), bndE_s, iteE_f, succW hx (show r.length ≤ 9223372036854775807 by omega)]
        rw [chkF (by first | omega | (simp; omega)) (by decide)]
        cases underS x.bind b <;> rfl)
      (fun w _ => by simp only [ref26_Most_l1_s, ltI, iteE_f]) (r.length + 1) 0 [] (by omega) (by omega) (by simp)
    rw [show ((0 : Int), ([] : List Int)) = (((0 : Nat) : Int), []) from rfl, key, List.drop_zero, runL_places, List.nil_append]
    rfl
  rw [l1, bndE_s]
  have hzl : (undZ r b).length ≤ r.length := by
    have := List.length_filter_le (fun q : TRow × Nat => underS q.1.bind b) r.zipIdx
    rw [List.length_zipIdx] at this; exact this
  have hzg : ∀ q ∈ undZ r b, r[q.2]? = some q.1 := fun q hq => undZ_get hq
  have hzu := undZ_fst r b
  unfold grZ
  generalize undR r b = u at *
  generalize undZ r b = z at *
  unfold ref26_Most_l6
  have get : ∀ {i : Nat} {q : TRow × Nat}, z[i]? = some q → (z.map fun q => (q.2 : Int))[i]? = some (q.2 : Int) := fun h => by simp [h]
  have key := loop_fold (step := fun s : Int × List Int => ref26_Most_l6_s r (z.map fun q => (q.2 : Int)) s.1 s.2) z (fun w q => if maxR u q.1 = true then w ++ [(q.2 : Int)] else w) (fun w => w) (fun i w => w.length ≤ i)
    (fun i q w hq hI => by
      have hi := getLt hq
      have hg := hzg q (List.mem_of_getElem? hq)
      refine ⟨?_, by split
                     · rw [List.length_append, List.length_singleton]; omega
                     · omega⟩
      have hin : ref26_Most_l13 r (i : Int) (z.map fun q => (q.2 : Int)) w true 0 = some (maxR u q.1) := by
        unfold ref26_Most_l13
        have k2 := loop_list (step := fun s : Bool × Int => ref26_Most_l13_s r (i : Int) (z.map fun q => (q.2 : Int)) w s.1 s.2) z (fun i (b : Bool) => (b, (i : Int)))
          (fun _ b p => (.inl (if below q.1 p.1 = true then false else b) : Bool ⊕ Bool)) (fun b => b) (fun _ _ => True)
          (fun j p b hp _ => by
            have hgp := hzg p (List.mem_of_getElem? hp)
            have lq := BR_len (hr q.1 (List.mem_of_getElem? hg)).1
            have lp := BR_len (hr p.1 (List.mem_of_getElem? hgp)).1
            have hd : decide ((j : Int) < ((z.map fun q => (q.2 : Int)).length : Int)) = true := by
              have := getLt hp; simp; omega
            refine ⟨?_, fun _ _ => trivial⟩
            simp only [ref26_Most_l13_s, hd, iteE_t, ref26_Most_b14, ref26_Most_b15, idxE_n (get hq), idxE_n (get hp), idxE_n hg, idxE_n hgp, int_lt, ref05_Under_eq q.1.bind p.1.bind (show q.1.bind.length ≤ 9223372036854775807 by omega) (show p.1.bind.length ≤ 9223372036854775807 by omega), bndE_s, succW hp (show z.length ≤ 9223372036854775807 by omega)]
            unfold below
            cases decide (q.1.bind.length < p.1.bind.length) <;> cases underS q.1.bind p.1.bind <;> rfl)
          (fun b _ => by
            have : decide ((z.length : Int) < ((z.map fun q => (q.2 : Int)).length : Int)) = false := by simp
            simp only [ref26_Most_l13_s, this, iteE_f]) (z.length + 1) 0 true (by omega) (by omega) trivial
        rw [show ((true : Bool), (0 : Int)) = (true, ((0 : Nat) : Int)) from rfl, k2, List.drop_zero]
        congr 1
        unfold maxR
        rw [← hzu, List.any_map]
        have hrun : ∀ (z : List (TRow × Nat)) (j : Nat) (b : Bool), runL (fun _ b p => (.inl (if below q.1 p.1 = true then false else b) : Bool ⊕ Bool)) (fun b => b) j z b = (b && !(z.any ((fun y => below q.1 y) ∘ fun x => x.1))) := by
          intro z
          induction z with
          | nil => intro j b; simp [runL]
          | cons p z ih =>
            intro j b
            rw [runL]
            simp only
            rw [ih, List.any_cons]
            cases h : below q.1 p.1 <;> simp [h]
        rw [hrun, Bool.true_and]
      have hd : decide ((i : Int) < ((z.map fun q => (q.2 : Int)).length : Int)) = true := by simp; omega
      simp only [ref26_Most_l6_s, hd, iteE_t, ref26_Most_b12, ref26_Most_b16, hin, bndE_s, idxE_n (get hq), succW hq (show z.length ≤ 9223372036854775807 by omega)]
      rw [chkF (by first | omega | (simp; omega)) (by decide)]
      cases maxR u q.1 <;> rfl)
    (fun w _ => by
      have : decide ((z.length : Int) < ((z.map fun q => (q.2 : Int)).length : Int)) = false := by simp
      simp only [ref26_Most_l6_s, this, iteE_f]) [] (by simp)
  rw [key, bndE_s]
  congr 1
  have hf : ∀ (z : List (TRow × Nat)) (w : List Int), z.foldl (fun w q => if maxR u q.1 = true then w ++ [(q.2 : Int)] else w) w = w ++ (z.filter fun q => maxR u q.1).map fun q => (q.2 : Int) := by
    intro z
    induction z with
    | nil => intro w; simp
    | cons q z ih => intro w; rw [List.foldl_cons, ih, List.filter_cons]; cases maxR u q.1 <;> simp
  rw [hf, List.nil_append]
theorem ref26_Copy_eq {r : List TRow} {b : List TSlot} (hr : ∀ x ∈ r, RowOk x) (hb : BR b) (hn : r.length ≤ 100000) : ref26_Copy r b = some (copyS r b) := by
  unfold ref26_Copy copyS
  rw [ref26_Most_eq hr hb hn, bndE_s, ← grZ_fst]
  cases hg : grZ r b with
  | nil => rfl
  | cons q z =>
    have hq : q ∈ undZ r b := (List.mem_filter.1 (show q ∈ grZ r b by rw [hg]; simp)).1
    rw [decide_eq_false (by simp; omega), iteE_f, List.map_cons, List.map_cons, idxE_0, idxE_n (undZ_get hq)]
theorem law26_ExtendCopies_eq (l : List (List TSlot)) (b : List TSlot) (hl : l.length ≤ 9223372036854775807) : law26_ExtendCopies l b = some true := by
  unfold law26_ExtendCopies
  rw [law26_awake_eq, iteP]
  split
  · rfl
  rename_i h12
  obtain ⟨b1, e1, r1⟩ := law26_right_ex l hl
  obtain ⟨b3, e3, r3⟩ := law26_right_ex [b] (by simp)
  rw [e1, e3]
  simp only [bndE_s]
  cases b1
  · rfl
  cases b3
  · rfl
  have r1 := r1 rfl
  have rb : BR b := r3 rfl b (by simp)
  simp only [Bool.not_true, iteE_f]
  obtain ⟨r, er, hr, hrl⟩ := law26_rows_ex r1 (by omega)
  have hgl : (grZ r b).length ≤ r.length := by
    have h1 := List.length_filter_le (fun q : TRow × Nat => maxR (undR r b) q.1) (undZ r b)
    have h2 := List.length_filter_le (fun q : TRow × Nat => underS q.1.bind b) r.zipIdx
    rw [List.length_zipIdx] at h2
    exact Nat.le_trans h1 h2
  rw [er, bndE_s, ref26_Most_eq hr.2 rb (by omega), bndE_s, extend_Greatest_eq hr.2 rb (by omega), bndE_s, ← grZ_fst]
  rw [decide_eq_true (by simp), Bool.not_true, iteE_f]
  have hloop : law26_ExtendCopies_l1 b r ((grZ r b).map fun q => (q.2 : Int)) ((grZ r b).map (·.1)) 0 = some (.inl ()) := by
    unfold law26_ExtendCopies_l1
    have hq : ∀ q ∈ grZ r b, r[q.2]? = some q.1 := fun q hq => undZ_get (List.mem_filter.1 hq).1
    generalize grZ r b = z at *
    rw [loop_all0 z (fun _ => true) (.inl () : Unit ⊕ Unit) (.inr ())
      (fun i q hi => by
        have hil := getLt hi
        have hg := hq q (List.mem_of_getElem? hi)
        have hgl' := getLt hg
        have hd : decide ((i : Int) < ((z.map fun q => (q.2 : Int)).length : Int)) = true := by simp; omega
        have e1 := succW hi (show z.length ≤ 9223372036854775807 by omega)
        have e2 := succW hg (show r.length ≤ 9223372036854775807 by omega)
        have g1 : (z.map fun q => (q.2 : Int))[i]? = some (q.2 : Int) := by simp [hi]
        have g2 : (z.map (·.1))[i]? = some q.1 := by simp [hi]
        have s1 : ∀ {α : Type} {l : List α} {i : Nat} {x : α}, l[i]? = some x → sub l (i : Int) ((i + 1 : Nat) : Int) = [x] := fun {α l i x} h => by
          rw [sub_nat, List.take_add_one, h]
          have := (List.getElem?_eq_some_iff.1 h).1
          rw [List.drop_append_of_le_length (by rw [List.length_take]; omega), List.drop_eq_nil_of_le (by rw [List.length_take]; omega)]; rfl
        simp only [law26_ExtendCopies_l1_s, hd, iteE_t, e1, idxE_n g1, e2]
        rw [chkE_p (by rw [List.length_map]; omega), chkE_p (by omega), s1 g2, s1 hg, ref24_Same_refl (fun x hx => by
          rw [List.mem_singleton] at hx; subst hx; exact hr.2 _ (List.mem_of_getElem? hg)) (by simp), bndE_s]
        simp only [Bool.not_true, iteE_f, if_true])
      (by
        have : decide ((z.length : Int) < ((z.map fun q => (q.2 : Int)).length : Int)) = false := by simp
        simp only [law26_ExtendCopies_l1_s, this, iteE_f])]
    simp
  rw [hloop, bndE_s, sumE_l, extend_Copy_eq hr.2 rb (by omega), bndE_s, ref26_Copy_eq hr.2 rb (by omega), bndE_s, beq_self_eq_true, iteE_t]
  obtain ⟨c1, c2⟩ := copy_ok (b := b) hr.2
  rw [ref18_Same_refl c1 c2, bndE_s, iteE_t]
end Go.Ac
