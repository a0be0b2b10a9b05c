/-
  Part of a proof: the plain law, lists and numbers alone.
-/
import Derived.Test.YtlimmomloedalaaP27d
set_option linter.unusedVariables false
set_option linter.unusedSimpArgs false
namespace Go.Ac
theorem pruneS_sub : ∀ (n : Nat) (w : List TRow), (pruneS n w).Sublist w
  | 0, w => List.Sublist.refl _
  | n + 1, w => (pruneS_sub n _).trans (cutAtS_sub w n)
theorem sub_one {α : Type} {l : List α} {i : Nat} {x : α} (h : l[i]? = some x) : sub l (i : Int) ((i + 1 : Nat) : Int) = [x] := by
  rw [sub_nat]
  obtain ⟨h1, rfl⟩ := List.getElem?_eq_some_iff.1 h
  rw [List.drop_take, show i + 1 - i = 1 by omega, List.drop_eq_getElem_cons h1]
  rfl
theorem law27_PruneAll_eq (a : List Tproctorlaw27_Seed) (n : Int) (ha : a.length ≤ 9223372036854775807) : law27_PruneAll a n = some true := by
  unfold law27_PruneAll
  obtain ⟨r, hr, h12, hR⟩ := law27_rows_ex a ha
  have hro := hR.ro (by omega)
  rw [hr, bndE_s, prune_All_eq hro, bndE_s, ref27_All_eq hro, bndE_s, ref24_Same_eq (hro.sub (pruneS_sub _ _)) (hro.sub (pruneS_sub _ _)), bndE_s]
  simp only [decide_true, Bool.not_true, iteE_f]
  unfold law27_PruneAll_l1
  rw [loop_all0 r (fun _ => true) (.inl ()) (.inr ())
    (fun i x hx => by
      simp only [law27_PruneAll_l1_s, ltD hx, iteE_t]
      rw [show prune_Spare_v2 r (i : Int) = prune_Spare r i from rfl, show ref27_Spare_v2 r (i : Int) = ref27_Spare r i from rfl, prune_Spare_eq hro hx, ref27_Spare_eq hro hx, bndE_s, bndE_s, succW hx hro.len]
      simp [iteE])
    (by simp only [law27_PruneAll_l1_s, ltI, iteE_f]), bndE_s]
  rw [if_pos (by simp), sumE_l, law27_awake_eq]
  by_cases hout : n < 0 ∨ (r.length : Int) ≤ n
  · rw [prune_Below_out hout, bndE_s, prune_Spare_out hout]
    rcases hout with h | h
    · simp [h, iteE, bndE]
    · by_cases h0 : n < 0 <;> simp [h, h0, iteE, bndE]
  · obtain ⟨k, rfl⟩ : ∃ k : Nat, n = (k : Int) := ⟨n.toNat, by omega⟩
    obtain ⟨x, hx, _⟩ := get_lt (l := r) (i := k) (by omega)
    rw [prune_Below_eq hro hx, bndE_s, iteP, if_neg (by omega), iteP, if_neg (by omega), idxE_n hx, ref26_Most_eq true hro (hro.get hx).len, bndE_s]
    have hrows := mostP_true r x
    have hlen : (mostS r x.bind true).length = (bel r x).length := by unfold mostS; rw [List.length_map, ← hrows, List.length_map]
    rw [hlen]
    simp only [decide_true, Bool.not_true, iteE_f]
    unfold law27_PruneAll_l2
    have hb := hro.bel x
    rw [loop_all0 (bel r x) (fun _ => true) (.inl ()) (.inr ())
      (fun i y hy => by
        have hi := getLt hy
        have h1 := hb.1
        have h2 := hro.1
        simp only [law27_PruneAll_l2_s, ltD hy, iteE_t, succW hy hb.len]
        rw [chkE_p (by omega)]
        obtain ⟨q, hq, _⟩ := get_lt (l := mostP r x.bind true) (i := i) (by rw [← List.length_map (f := Prod.fst), hrows]; exact hi)
        have hq1 : q.1 = y := by
          have := map_get (f := Prod.fst) hq
          rw [hrows, hy] at this
          exact (Option.some.inj this).symm
        have hq2 := mostP_get (List.mem_of_getElem? hq)
        have hqs : (mostS r x.bind true)[i]? = some (q.2 : Int) := map_get hq
        have hqlt := getLt hq2
        rw [idxE_n hqs, idxE_n hqs, succI (by omega), chkE_p (by omega), sub_one hy, sub_one hq2, hq1]
        have ho : RO [y] := ⟨by simp, fun z hz => by simp at hz; subst hz; exact hb.get hy⟩
        rw [ref24_Same_eq ho ho, bndE_s]
        simp [iteE])
      (by simp only [law27_PruneAll_l2_s, ltI, iteE_f]), bndE_s]
    rw [if_pos (by simp), sumE_l]
    rfl
end Go.Ac
