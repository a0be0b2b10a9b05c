/-
  Part of a proof: the plain law, lists and numbers alone.
-/
import Derived.Test.YtlimmomloedalaaP27a
set_option linter.unusedVariables false
set_option linter.unusedSimpArgs false
namespace Go.Ac
theorem chkF {β : Type} {a b n : Nat} (h : a + b ≤ 1073741824) (hn : n ≤ 131072) (k : Option β) : chkE (fit a b n) k = k := chkE_p (fit_small h hn) k
/-- rows that are few and small -/
def RowOk (r : TRow) : Prop := r.bind.length ≤ 1000 ∧ SetOk r.set
def RO (l : List TRow) : Prop := l.length ≤ 1000 ∧ ∀ r ∈ l, RowOk r
theorem RO.len {l : List TRow} (h : RO l) : l.length ≤ 9223372036854775807 := Nat.le_trans h.1 (by decide)
theorem RowOk.len {r : TRow} (h : RowOk r) : r.bind.length ≤ 9223372036854775807 := Nat.le_trans h.1 (by decide)
theorem RO.filter {l : List TRow} (h : RO l) (p : TRow → Bool) : RO (l.filter p) :=
  ⟨Nat.le_trans (List.length_filter_le _ _) h.1, fun r hr => h.2 r ((List.mem_filter.1 hr).1)⟩
theorem RO.get {l : List TRow} (h : RO l) {i : Nat} {x : TRow} (hx : l[i]? = some x) : RowOk x := h.2 x (List.mem_of_getElem? hx)
theorem foldl_len {α : Type} (p : α → Bool) (w : List α) (x : α) {i : Nat} (h : w.length ≤ i) : (if p x = true then w ++ [x] else w).length ≤ i + 1 := by
  split
  · simpa using h
  · omega
theorem foldl_lenI (b : Bool) (w : List Int) (x : Nat) {i : Nat} (h : w.length ≤ i) : (if b = true then w ++ [(x : Int)] else w).length ≤ i + 1 := by
  split
  · simpa using h
  · omega
theorem prune_keep_Row_eq {l : List TRow} (b : List TSlot) (hl : RO l) : prune_keep_Row l b = some (l.filter fun r => !decide (r.bind = b)) := by
  unfold prune_keep_Row prune_keep_Row_l1
  rw [loop_fold l (fun w x => if (!decide (x.bind = b)) = true then w ++ [x] else w) (fun w => w) (fun i w => w.length ≤ i)
    (fun i x w hx hI => by
      refine ⟨?_, foldl_len (fun x => !decide (x.bind = b)) w x hI⟩
      have := getLt hx
      have h1 := hl.1
      simp only [prune_keep_Row_l1_s, ltD hx, iteE_t, prune_keep_Row_b4, idxE_n hx, prune_Below_1, binding_Same_eq _ _ (hl.get hx).len, bndE_s, succW hx hl.len, prune_keep_Row_b5]
      rw [chkF (by simp; omega) (by decide)]
      cases decide (x.bind = b) <;> simp [iteE, bndE])
    (fun w _ => by simp only [prune_keep_Row_l1_s, ltI, iteE_f]) [] (by simp), foldl_filter, bndE_s]
  simp
def gtB (r x : TRow) : Bool := decide (r.bind.length < x.bind.length) && underS r.bind x.bind
theorem extend_Greatest_1_eq {x r : TRow} (hx : RowOk x) (hr : RowOk r) : extend_Greatest_1 x r = some (gtB r x) := by
  unfold extend_Greatest_1 gtB
  rw [binding_Under_eq _ _ hr.len hx.len, iteP]
  by_cases h : r.bind.length < x.bind.length
  · rw [if_pos (by omega)]; simp [h, bndE]
  · rw [if_neg (by omega)]; simp [h]
theorem slices_ContainsFunc_Row_Row_eq {l : List TRow} {r : TRow} (hl : RO l) (hr : RowOk r) : slices_ContainsFunc_Row_Row l r = some (l.any (gtB r)) := by
  unfold slices_ContainsFunc_Row_Row slices_IndexFunc_Row_Row slices_IndexFunc_Row_Row_l1
  rw [loop_index l (gtB r)
    (fun i x hx => by
      simp only [slices_IndexFunc_Row_Row_l1_s, ltD hx, iteE_t, idxE_n hx, extend_Greatest_1_eq (hl.get hx) hr, bndE_s, succW hx hl.len, iteE_if]
      cases gtB r x <;> rfl)
    (by simp only [slices_IndexFunc_Row_Row_l1_s, ltI, iteE_f])]
  cases l.any (gtB r) <;> simp [bndE, sumE]
def greatS (l : List TRow) (b : List TSlot) : List TRow :=
  let u := l.filter fun r => underS r.bind b
  u.filter fun r => !(u.any (gtB r))
theorem extend_Greatest_eq {l : List TRow} {b : List TSlot} (hl : RO l) (hb : b.length ≤ 9223372036854775807) : extend_Greatest l b = some (greatS l b) := by
  unfold extend_Greatest extend_Greatest_l1
  rw [loop_fold l (fun w x => if (underS x.bind b) = true then w ++ [x] else w) (fun w => w) (fun i w => w.length ≤ i)
    (fun i x w hx hI => by
      refine ⟨?_, foldl_len (fun x => underS x.bind b) w x hI⟩
      have := getLt hx
      have h1 := hl.1
      simp only [extend_Greatest_l1_s, ltD hx, iteE_t, extend_Greatest_b4, idxE_n hx, binding_Under_eq _ _ (hl.get hx).len hb, bndE_s, succW hx hl.len, extend_Greatest_b5]
      rw [chkF (by simp; omega) (by decide)]
      cases underS x.bind b <;> simp [iteE, bndE])
    (fun w _ => by simp only [extend_Greatest_l1_s, ltI, iteE_f]) [] (by simp), foldl_filter, bndE_s, List.nil_append]
  have hu := hl.filter fun r => underS r.bind b
  unfold greatS
  revert hu
  generalize l.filter (fun r => underS r.bind b) = u
  intro hu
  unfold extend_Greatest_l6
  rw [loop_fold u (fun w x => if (!(u.any (gtB x))) = true then w ++ [x] else w) (fun w => w) (fun i w => w.length ≤ i)
    (fun i x w hx hI => by
      refine ⟨?_, foldl_len (fun x => !(u.any (gtB x))) w x hI⟩
      have := getLt hx
      have h1 := hu.1
      simp only [extend_Greatest_l6_s, ltD hx, iteE_t, extend_Greatest_b9, idxE_n hx, slices_ContainsFunc_Row_Row_eq hu (hu.get hx), bndE_s, succW hx hu.len, extend_Greatest_b10]
      rw [chkF (by simp; omega) (by decide)]
      cases u.any (gtB x) <;> simp [iteE, bndE])
    (fun w _ => by simp only [extend_Greatest_l6_s, ltI, iteE_f]) [] (by simp), foldl_filter, bndE_s, List.nil_append]
theorem greatS_mem {l : List TRow} {b : List TSlot} {r : TRow} (h : r ∈ greatS l b) : r ∈ l := (List.mem_filter.1 (List.mem_filter.1 h).1).1
theorem RO.great {l : List TRow} (h : RO l) (b : List TSlot) : RO (greatS l b) := (h.filter _).filter _
/-- the rows of which 'Most' tells the places -/
def mostP (l : List TRow) (b : List TSlot) (other : Bool) : List (TRow × Nat) :=
  let u := l.zipIdx.filter fun q => underS q.1.bind b && !(other && decide (q.1.bind = b))
  u.filter fun q => !(u.any fun p => gtB q.1 p.1)
theorem mostP_get {l : List TRow} {b : List TSlot} {o : Bool} {q : TRow × Nat} (h : q ∈ mostP l b o) : l[q.2]? = some q.1 :=
  zipIdx_mem ((List.mem_filter.1 (List.mem_filter.1 h).1).1)
theorem mostP_rows (l : List TRow) (b : List TSlot) (o : Bool) : (mostP l b o).map (·.1) = greatS (l.filter fun r => !(o && decide (r.bind = b))) b := by
  unfold mostP greatS
  have e : (l.zipIdx.filter fun q => underS q.1.bind b && !(o && decide (q.1.bind = b))).map (·.1) = (l.filter fun r => !(o && decide (r.bind = b))).filter fun r => underS r.bind b := by
    rw [filter_fst l (fun r => underS r.bind b && !(o && decide (r.bind = b))), List.filter_filter]
  simp only [← e]
  generalize (l.zipIdx.filter fun q => underS q.1.bind b && !(o && decide (q.1.bind = b))) = u
  have e2 : ∀ q : TRow × Nat, u.any (fun p => gtB q.1 p.1) = (u.map (·.1)).any (gtB q.1) := fun q => by rw [List.any_map]; rfl
  simp only [e2]
  have : (fun q : TRow × Nat => !((u.map (·.1)).any (gtB q.1))) = (fun r => !((u.map (·.1)).any (gtB r))) ∘ Prod.fst := rfl
  rw [this, ← List.filter_map]
def mostS (l : List TRow) (b : List TSlot) (o : Bool) : List Int := (mostP l b o).map fun q => (q.2 : Int)
theorem map_get {α β : Type} {f : α → β} {l : List α} {i : Nat} {x : α} (h : l[i]? = some x) : (l.map f)[i]? = some (f x) := by simp [h]
theorem ref26_Most_eq {l : List TRow} {b : List TSlot} (o : Bool) (hl : RO l) (hb : b.length ≤ 9223372036854775807) : ref26_Most l b o = some (mostS l b o) := by
  unfold ref26_Most ref26_Most_l1
  have h := loop_list (step := fun s : Int × List Int => ref26_Most_l1_s l b o s.1 s.2) l (fun i w => ((i : Int), w))
    (fun i w x => (.inl (if (underS x.bind b && !(o && decide (x.bind = b))) = true then w ++ [(i : Int)] else w) : List Int ⊕ List Int)) (fun w => w) (fun i w => w.length ≤ i)
    (fun i x w hx hI => by
      have := getLt hx
      have h1 := hl.1
      refine ⟨?_, fun w' hw => ?_⟩
      · simp only [ref26_Most_l1_s, ltD hx, iteE_t, ref26_Most_b4, idxE_n hx, ref05_Under_eq _ _ (hl.get hx).len hb, ref05_Same_eq _ _ (hl.get hx).len, bndE_s, succW hx hl.len, ref26_Most_b5]
        rw [chkF (by simp; omega) (by decide)]
        cases underS x.bind b <;> cases o <;> cases decide (x.bind = b) <;> simp [iteE, bndE]
      · cases hw; exact foldl_lenI _ w i hI)
    (fun w _ => by simp only [ref26_Most_l1_s, ltI, iteE_f]) (l.length + 1) 0 [] (by omega) (by omega) (by simp)
  rw [show ((0 : Int), ([] : List Int)) = (((0 : Nat) : Int), []) from rfl, h, List.drop_zero, runL_places, bndE_s, List.nil_append]
  unfold mostS mostP
  have hu : ∀ q ∈ (l.zipIdx.filter fun q => underS q.1.bind b && !(o && decide (q.1.bind = b))), l[q.2]? = some q.1 := fun q hq => zipIdx_mem ((List.mem_filter.1 hq).1)
  have hn : (l.zipIdx.filter fun q => underS q.1.bind b && !(o && decide (q.1.bind = b))).length ≤ 1000 := Nat.le_trans (List.length_filter_le _ _) (by simpa using hl.1)
  revert hu hn
  generalize (l.zipIdx.filter fun q => underS q.1.bind b && !(o && decide (q.1.bind = b))) = u
  intro hu hn
  have hum : (u.map fun q => (q.2 : Int)).length = u.length := by simp
  unfold ref26_Most_l6
  have inner : ∀ (j : Nat) (q : TRow × Nat) (w : List Int), u[j]? = some q → ref26_Most_l13 l (j : Int) (u.map fun q => (q.2 : Int)) w true 0 = some (!(u.any fun p => gtB q.1 p.1)) := by
    intro j q w hq
    unfold ref26_Most_l13
    have hq' := hu q (List.mem_of_getElem? hq)
    have h := loop_list (step := fun s : Bool × Int => ref26_Most_l13_s l (j : Int) (u.map fun q => (q.2 : Int)) w s.1 s.2) u (fun i w => (w, (i : Int)))
      (fun _ w p => (.inl (if gtB q.1 p.1 = true then false else w) : Bool ⊕ Bool)) (fun w => w) (fun _ _ => True)
      (fun i p w hp _ => ⟨by
        have hp' := hu p (List.mem_of_getElem? hp)
        have hlt : decide ((i : Int) < (((u.map fun q => (q.2 : Int)).length : Nat) : Int)) = true := by rw [hum]; exact ltD hp
        simp only [ref26_Most_l13_s, hlt, iteE_t, ref26_Most_b14, idxE_n (map_get hq), idxE_n (map_get hp), idxE_n hq', idxE_n hp', ref05_Under_eq _ _ (hl.get hq').len (hl.get hp').len, bndE_s, ref26_Most_b15, succW hp (Nat.le_trans hn (by decide)), iteP]
        unfold gtB
        by_cases hh : q.1.bind.length < p.1.bind.length
        · rw [if_pos (by omega)]
          cases underS q.1.bind p.1.bind <;> simp [iteE, bndE, hh]
        · rw [if_neg (by omega)]
          simp [iteE, bndE, hh], fun _ _ => trivial⟩)
      (fun w _ => by simp only [ref26_Most_l13_s, hum, ltI, iteE_f]) (u.length + 1) 0 true (by omega) (by omega) trivial
    rw [show (true, (0 : Int)) = (true, ((0 : Nat) : Int)) from rfl, h, List.drop_zero]
    congr 1
    have key : ∀ (v : List (TRow × Nat)) (i : Nat) (w : Bool), runL (fun _ w p => (.inl (if gtB q.1 p.1 = true then false else w) : Bool ⊕ Bool)) (fun w => w) i v w = (w && !(v.any fun p => gtB q.1 p.1)) := by
      intro v
      induction v with
      | nil => intro i w; simp [runL]
      | cons p v ih => intro i w; rw [runL]; refine (ih _ _).trans ?_; rw [List.any_cons]; cases gtB q.1 p.1 <;> simp
    rw [key]; rfl
  have h := loop_fold (step := fun s : Int × List Int => ref26_Most_l6_s l (u.map fun q => (q.2 : Int)) s.1 s.2) u (fun w q => if (!(u.any fun p => gtB q.1 p.1)) = true then w ++ [(q.2 : Int)] else w) (fun w => w) (fun i w => w.length ≤ i)
    (fun i q w hq hI => by
      have := getLt hq
      refine ⟨?_, foldl_lenI (!(u.any fun p => gtB q.1 p.1)) w q.2 hI⟩
      have hlt : decide ((i : Int) < (((u.map fun q => (q.2 : Int)).length : Nat) : Int)) = true := by rw [hum]; exact ltD hq
      simp only [ref26_Most_l6_s, hlt, iteE_t, ref26_Most_b12, inner i q w hq, bndE_s, ref26_Most_b16, idxE_n (map_get hq), succW hq (Nat.le_trans hn (by decide))]
      rw [chkF (by simp; omega) (by decide)]
      cases u.any (fun p => gtB q.1 p.1) <;> simp [iteE, bndE])
    (fun w _ => by simp only [ref26_Most_l6_s, hum, ltI, iteE_f]) [] (by simp)
  rw [h, bndE_s]
  congr 1
  have key : ∀ (v : List (TRow × Nat)) (w : List Int), v.foldl (fun w q => if (!(u.any fun p => gtB q.1 p.1)) = true then w ++ [(q.2 : Int)] else w) w = w ++ (v.filter fun q => !(u.any fun p => gtB q.1 p.1)).map fun q => (q.2 : Int) := by
    intro v
    induction v with
    | nil => intro w; simp
    | cons q v ih => intro w; rw [List.foldl_cons, ih, List.filter_cons]; cases u.any (fun p => gtB q.1 p.1) <;> simp
  rw [key]; simp
end Go.Ac
