/-
  Part of a proof: the plain law, lists and numbers alone.
-/
import Derived.Test.YtlimmomloedalaaP27e
set_option linter.unusedVariables false
set_option linter.unusedSimpArgs false
namespace Go.Ac
def agreeL : List TRow → Bool
  | [] => true
  | y :: ys => (y :: ys).all fun z => decide (y.set = z.set)
def copyL : List TRow → List TConfig × Bool
  | [] => ([], false)
  | y :: _ => (y.set, true)
theorem prune_Agree_eq {l : List TRow} {b : List TSlot} (hl : RO l) (hb : b.length ≤ 9223372036854775807) : prune_Agree l b = some (agreeL (greatS l b)) := by
  unfold prune_Agree
  rw [extend_Greatest_eq hl hb, bndE_s]
  have hg := hl.great b
  revert hg
  generalize greatS l b = g
  intro hg
  cases g with
  | nil => simp [iteE, agreeL]
  | cons y ys =>
    rw [iteP, if_neg (by simp; omega), idxE_0, prune_alike_Row_eq hg (hg.2 y (by simp)), bndE_s]
    rfl
theorem mostP_false (l : List TRow) (b : List TSlot) : (mostP l b false).map (·.1) = greatS l b := by
  rw [mostP_rows]; congr 1; simp
theorem law27_agree_eq {l : List TRow} {b : List TSlot} (hl : RO l) (hb : b.length ≤ 9223372036854775807) : law27_agree l b = some (agreeL (greatS l b)) := by
  unfold law27_agree
  rw [ref26_Most_eq false hl hb, bndE_s, ← mostP_false]
  have hmem : ∀ q ∈ mostP l b false, l[q.2]? = some q.1 := fun q hq => mostP_get hq
  have hlen : (mostP l b false).length ≤ 1000 := by
    have h1 : ((mostP l b false).map (·.1)).length = (greatS l b).length := by rw [mostP_false]
    rw [List.length_map] at h1
    rw [h1]; exact (hl.great b).1
  unfold mostS
  revert hmem hlen
  generalize mostP l b false = u
  intro hmem hlen
  have hum : (u.map fun q => (q.2 : Int)).length = u.length := by simp
  unfold law27_agree_l1
  cases u with
  | nil =>
    rw [loopE_eq]
    simp [law27_agree_l1_s, iteE, nextE, bndE, sumE, agreeL]
  | cons q0 u =>
    have hq0 := hmem q0 (by simp)
    have h := loop_all (step := fun s => law27_agree_l1_s l ((q0 :: u).map fun q => (q.2 : Int)) s) (q0 :: u) (fun q => decide (q0.1.set = q.1.set)) (.inl () : Unit ⊕ Unit) (.inr ())
      (fun i q hq => by
        have hq' := hmem q (List.mem_of_getElem? hq)
        have hlt : decide ((i : Int) < ((((q0 :: u).map fun q => (q.2 : Int)).length : Nat) : Int)) = true := by rw [hum]; exact ltD hq
        have h00 : ((q0 :: u).map fun q => (q.2 : Int))[0]? = some (q0.2 : Int) := rfl
        simp only [law27_agree_l1_s, hlt, iteE_t, idxE_n (map_get hq), idxE_n hq', show (0 : Int) = ((0 : Nat) : Int) from rfl, idxE_n h00, idxE_n hq0, ref18_Same_eq (hl.get hq').2 (hl.get hq0).2, bndE_s, succW hq (Nat.le_trans hlen (by decide))]
        by_cases h : q0.1.set = q.1.set
        · simp [h, iteE]
        · have : ¬ q.1.set = q0.1.set := fun e => h e.symm
          simp [h, this, iteE])
      (by simp only [law27_agree_l1_s, hum, ltI, iteE_f]) 1 (by simp)
    rw [show (1 : Int) = ((1 : Nat) : Int) from rfl, h, bndE_s]
    have e : agreeL ((q0 :: u).map (·.1)) = (List.drop 1 (q0 :: u)).all fun q => decide (q0.1.set = q.1.set) := by
      rw [List.map_cons]
      show ((q0.1 :: u.map (·.1)).all fun z => decide (q0.1.set = z.set)) = _
      rw [List.all_cons]
      simp only [decide_true, Bool.true_and, List.drop_succ_cons, List.drop_zero]
      rw [List.all_map]; rfl
    rw [e]
    cases (List.drop 1 (q0 :: u)).all _ <;> rfl
theorem ref26_Copy_eq {l : List TRow} {b : List TSlot} (hl : RO l) (hb : b.length ≤ 9223372036854775807) : ref26_Copy l b = some (copyL (greatS l b)) := by
  unfold ref26_Copy
  rw [ref26_Most_eq false hl hb, bndE_s, ← mostP_false]
  have hmem : ∀ q ∈ mostP l b false, l[q.2]? = some q.1 := fun q hq => mostP_get hq
  unfold mostS
  revert hmem
  generalize mostP l b false = u
  intro hmem
  cases u with
  | nil => simp [iteE, copyL]
  | cons q u =>
    have hq := hmem q (by simp)
    rw [iteP, if_neg (by simp; omega), List.map_cons, idxE_0, idxE_n hq]
    rfl
/-- slots that lie behind a binding: rising variables from one on, up to 3, of values that rows have -/
def ExtOk (l : List TRow) (v : Nat) (ext : List TSlot) : Prop :=
  ext.Pairwise (fun a b => a.var < b.var) ∧ ∀ s ∈ ext, (v : Int) ≤ s.var ∧ s.var ≤ 3 ∧ ∃ r ∈ l, getS r.bind s.var = (s.value, true)
theorem law27_all_v2_l5_sp (self : List TRow → List TSlot → Int → Option Bool) (l : List TRow) (b : List TSlot) (v i : Int) (o : Bool) (w : List TValue) (x : TValue) (hw : w.length ≤ 9223372036854775807) :
    law27_all_v2_l5 self l b v i o w x false 0 = some (w.any fun y => decide (y = x)) := by
  unfold law27_all_v2_l5
  have h := loop_list (step := fun s : Bool × Int => law27_all_v2_l5_s self l b v i o w x s.1 s.2) w (fun i w => (w, (i : Int))) (fun _ a y => (.inl (a || decide (y = x)) : Bool ⊕ Bool)) (fun a => a) (fun _ _ => True)
    (fun i y a hy _ => ⟨by
      simp only [law27_all_v2_l5_s, ltD hy, iteE_t, idxE_n hy, succW hy hw, TValue.eqb_dec]
      cases a <;> simp [iteE], fun _ _ => trivial⟩)
    (fun a _ => by simp only [law27_all_v2_l5_s, ltI, iteE_f]) (w.length + 1) 0 false (by omega) (by omega) trivial
  rw [show (false, (0 : Int)) = (false, ((0 : Nat) : Int)) from rfl, h, List.drop_zero]
  congr 1
  have key : ∀ (u : List TValue) (i : Nat) (a : Bool), runL (fun _ a y => (.inl (a || decide (y = x)) : Bool ⊕ Bool)) (fun a => a) i u a = (a || u.any fun y => decide (y = x)) := by
    intro u
    induction u with
    | nil => intro i a; simp [runL]
    | cons y u ih => intro i a; rw [runL]; refine (ih _ _).trans ?_; rw [List.any_cons, Bool.or_assoc]
  rw [key, Bool.false_or]
theorem all_F {l : List TRow} (hl : RO l) (self : List TRow → List TSlot → Int → Option Bool) (b : List TSlot) (v : Nat) (hb : b.length ≤ 100) (hv : v ≤ 3)
    (hs : ∀ b', b'.length ≤ b.length + 1 → ∃ B, self l b' ((v + 1 : Nat) : Int) = some B ∧ (B = true → ∀ ext, ExtOk l (v + 1) ext → agreeL (greatS l (b' ++ ext)) = true)) :
    ∃ B, law27_all_v2_F self l b (v : Int) = some B ∧ (B = true → ∀ ext, ExtOk l v ext → agreeL (greatS l (b ++ ext)) = true) := by
  unfold law27_all_v2_F
  rw [iteP, if_neg (by omega), succI (by omega)]
  obtain ⟨B, hB, hB2⟩ := hs b (by omega)
  rw [hB, bndE_s]
  cases B with
  | false => exact ⟨false, by simp [iteE], by simp⟩
  | true =>
    simp only [Bool.not_true, iteE_f]
    unfold law27_all_v2_l1
    obtain ⟨t, ht, hQ⟩ := loopE_ex (step := fun s : Int × List TValue => law27_all_v2_l1_s self l b (v : Int) s.1 s.2)
      (fun s => ∃ i : Nat, s.1 = (i : Int) ∧ i ≤ l.length ∧ s.2.length ≤ i ∧ (∀ x ∈ s.2, ∀ ext, ExtOk l (v + 1) ext → agreeL (greatS l ((b ++ [TSlot.mk v x]) ++ ext)) = true) ∧ ∀ j, j < i → ∀ r, l[j]? = some r → ∀ x, getS r.bind v = (x, true) → x ∈ s.2)
      (fun s => (l.length - s.1).toNat) (fun t => t = .inl () → ∀ r ∈ l, ∀ x, getS r.bind v = (x, true) → ∀ ext, ExtOk l (v + 1) ext → agreeL (greatS l ((b ++ [TSlot.mk v x]) ++ ext)) = true)
      (by
        rintro ⟨s, w⟩ ⟨i, rfl, hi, hw, h1, h2⟩
        simp only at hw h1 h2 ⊢
        by_cases he : i = l.length
        · subst he
          refine .inl ⟨.inl (), by simp only [law27_all_v2_l1_s, ltI, iteE_f], fun _ r hr x hx => h1 x ?_⟩
          obtain ⟨j, hj, rfl⟩ := List.mem_iff_getElem.1 hr
          exact h2 j hj _ (List.getElem?_eq_getElem hj) x hx
        · obtain ⟨r, hr, _⟩ := get_lt (l := l) (i := i) (by omega)
          have hm := hl.1
          have hstep : ∀ w' : List TValue, (∀ x, getS r.bind v = (x, true) → x ∈ w') → (∀ x ∈ w, x ∈ w') → ∀ j, j < i + 1 → ∀ r, l[j]? = some r → ∀ x, getS r.bind v = (x, true) → x ∈ w' := by
            intro w' a1 a2 j hj r' hr' x hx
            rcases Nat.lt_or_ge j i with h3 | h3
            · exact a2 x (h2 j h3 r' hr' x hx)
            · have : j = i := by omega
              subst this
              rw [hr] at hr'; cases hr'
              exact a1 x hx
          simp only [law27_all_v2_l1_s, ltD hr, iteE_t]
          unfold law27_all_v2_b4
          rw [idxE_n hr, ref05_Get_eq _ _ (hl.get hr).len, bndE_s, law27_all_v2_l5_sp _ _ _ _ _ _ _ _ (by omega), bndE_s, succW hr hl.len]
          rcases hg : getS r.bind v with ⟨x, o⟩
          cases o with
          | false =>
            refine .inr ⟨(((i + 1 : Nat) : Int), w), by simp [iteE, bndE, sumE], ⟨i + 1, rfl, by omega, by simp only; omega, h1, hstep w (fun y hy => by rw [hg] at hy; cases hy) (fun _ hx => hx)⟩, by simp only; omega⟩
          | true =>
            by_cases hx : x ∈ w
            · have ha : (w.any fun y => decide (y = x)) = true := List.any_eq_true.2 ⟨x, hx, by simp⟩
              refine .inr ⟨(((i + 1 : Nat) : Int), w), by simp [iteE, bndE, sumE, ha], ⟨i + 1, rfl, by omega, by simp only; omega, h1, hstep w (fun y hy => by rw [hg] at hy; cases hy; exact hx) (fun _ hx => hx)⟩, by simp only; omega⟩
            · have ha : (w.any fun y => decide (y = x)) = false := by
                rw [Bool.eq_false_iff]
                intro h
                obtain ⟨y, hy, hyx⟩ := List.any_eq_true.1 h
                simp at hyx
                exact hx (hyx ▸ hy)
              rw [ha]
              simp only [Bool.not_true, iteE_f]
              rw [chkF (by simp; omega) (by decide), chkF (by simp; omega) (by decide), chkF (by simp; omega) (by decide), succI (by omega), List.nil_append]
              obtain ⟨B, hB, hB2⟩ := hs (b ++ [TSlot.mk v x]) (by simp)
              rw [hB, bndE_s]
              cases B with
              | false => exact .inl ⟨.inr (), by simp [iteE, bndE, sumE], by simp⟩
              | true =>
                refine .inr ⟨(((i + 1 : Nat) : Int), w ++ [x]), by simp [iteE, bndE, sumE], ⟨i + 1, rfl, by omega, by simp only; simp; omega, fun y hy => ?_, hstep _ (fun y hy => by rw [hg] at hy; cases hy; simp) (fun y hy => by simp [hy])⟩, by simp only; omega⟩
                simp only [List.mem_append, List.mem_singleton] at hy
                rcases hy with hy | rfl
                · exact h1 y hy
                · exact hB2 rfl)
      ((0 : Int), ([] : List TValue)) ⟨0, rfl, by omega, by simp, by simp, fun j hj => by omega⟩
    rw [ht, bndE_s]
    rcases t with _ | _
    · refine ⟨true, rfl, fun _ ext hext => ?_⟩
      have hQ' := hQ rfl
      cases ext with
      | nil => exact hB2 rfl [] ⟨List.Pairwise.nil, by simp⟩
      | cons s ext =>
        have hs1 := hext.2 s (by simp)
        have hrest : ∀ t ∈ ext, s.var < t.var := (List.pairwise_cons.1 hext.1).1
        by_cases hsv : s.var = (v : Int)
        · have e : b ++ s :: ext = (b ++ [TSlot.mk v s.value]) ++ ext := by
            have : TSlot.mk v s.value = s := by rw [← hsv]
            rw [this]; simp
          rw [e]
          obtain ⟨r, hr, hrg⟩ := hs1.2.2
          rw [hsv] at hrg
          exact hQ' r hr s.value hrg ext ⟨(List.pairwise_cons.1 hext.1).2, fun t ht => by
            have h1 := hrest t ht
            have h2 := hext.2 t (by simp [ht])
            exact ⟨by omega, h2.2⟩⟩
        · refine hB2 rfl (s :: ext) ⟨hext.1, fun t ht => ?_⟩
          have h2 := hext.2 t ht
          refine ⟨?_, h2.2⟩
          rcases List.mem_cons.1 ht with rfl | ht
          · omega
          · have := hrest t ht; omega
    · exact ⟨false, rfl, by simp⟩
theorem all_n {l : List TRow} (hl : RO l) : ∀ (k n v : Nat) (b : List TSlot), v + k = 4 → k < n → b.length ≤ v → ∃ B, law27_all_v2_n n l b (v : Int) = some B ∧ (B = true → ∀ ext, ExtOk l v ext → agreeL (greatS l (b ++ ext)) = true)
  | 0, n + 1, v, b, hv, hn, hb => by
    have : v = 4 := by omega
    subst this
    refine ⟨agreeL (greatS l b), ?_, fun h ext hext => ?_⟩
    · show law27_all_v2_F _ l b _ = _
      unfold law27_all_v2_F
      rw [iteP, if_pos (by omega), law27_agree_eq hl (by omega), bndE_s]
    · have : ext = [] := by
        cases ext with
        | nil => rfl
        | cons s _ => have := hext.2 s (by simp); omega
      rw [this, List.append_nil]; exact h
  | k + 1, n + 1, v, b, hv, hn, hb => all_F hl (law27_all_v2_n n) b v (by omega) (by omega) fun b' hb' => all_n hl k n (v + 1) b' (by omega) (by omega) (by omega)
  | _, 0, _, _, _, hn, _ => by omega
theorem law27_all_ex {l : List TRow} (hl : RO l) : ∃ B, law27_all l [] 0 = some B ∧ (B = true → ∀ ext, ExtOk l 0 ext → agreeL (greatS l ext) = true) := by
  have h := all_n hl 4 100001 0 [] rfl (by decide) (Nat.le_refl _)
  exact h
end Go.Ac
