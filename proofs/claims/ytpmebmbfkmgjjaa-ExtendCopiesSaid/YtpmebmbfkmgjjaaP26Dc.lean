/- Own work: the plain law. -/
import Derived.Test.YtpmebmbfkmgjjaaP26Cc
set_option linter.unusedVariables false
set_option linter.unusedSimpArgs false
namespace Go.Ac
theorem law26_right_ex (l : List (List TSlot)) (hl : l.length ≤ 9223372036854775807) : ∃ b, law26_right l = some b ∧ (b = true → ∀ x ∈ l, BR x) := by
  unfold law26_right law26_right_l1
  obtain ⟨t, ht, hQ⟩ := loop_scan0 (step := fun s => law26_right_l1_s l s) l.length (fun i => ∃ x, l[i]? = some x ∧ BR x) (fun t => t = .inl () → ∀ x ∈ l, BR x)
    (fun i hi => by
      obtain ⟨x, hx, _⟩ := get_lt hi
      simp only [law26_right_l1_s, ltD hx, iteE_t, idxE_n hx, succW hx hl, iteP]
      by_cases h8 : (8 : Int) < (x.length : Int)
      · rw [if_pos h8]; exact .inr ⟨_, rfl, fun h => by cases h⟩
      · rw [if_neg h8]
        obtain ⟨b, hb, hbr⟩ := ref05_RightB x (by omega)
        rw [hb, bndE_s]
        cases b with
        | false => exact .inr ⟨_, rfl, fun h => by cases h⟩
        | true =>
          simp only [Bool.not_true, iteE_f]
          have : ∃ t, law26_right_l2 l (i : Int) 0 = some t := by
            unfold law26_right_l2
            exact tot_ex (loop_scan0 (step := fun s => law26_right_l2_s l (i : Int) s) x.length (fun _ => True) (fun _ => True)
              (fun j hj => by
                obtain ⟨y, hy, _⟩ := get_lt hj
                simp only [law26_right_l2_s, idxE_n hx, ltD hy, iteE_t, idxE_n hy, succW hy (show x.length ≤ 9223372036854775807 by omega)]
                rw [iteP]
                by_cases h : (100 : Int) < (y.value.str.length : Int)
                · rw [if_pos h]; exact .inr ⟨_, rfl, trivial⟩
                · rw [if_neg h]; exact .inl ⟨rfl, trivial⟩)
              (fun _ => ⟨_, by simp only [law26_right_l2_s, idxE_n hx, ltI, iteE_f]; rfl, trivial⟩))
          obtain ⟨t, ht⟩ := this
          rw [ht, bndE_s]
          rcases t with _ | _
          · exact .inl ⟨rfl, x, hx, hbr rfl⟩
          · exact .inr ⟨_, rfl, fun h => by cases h⟩)
    (fun h => ⟨.inl (), by simp only [law26_right_l1_s, ltI, iteE_f], fun _ x hx => by
      obtain ⟨j, hj⟩ := List.mem_iff_getElem?.1 hx
      obtain ⟨y, hy, hyR⟩ := h j (getLt hj)
      rw [hj] at hy; cases hy; exact hyR⟩)
  rw [ht, bndE_s]
  rcases t with _ | _
  · exact ⟨true, rfl, fun _ => hQ rfl⟩
  · exact ⟨false, rfl, by simp⟩
theorem vR_int (n : Int) : vR ⟨1, n, [], false⟩ = true := by simp [vR]
def sl (v n : Int) : TSlot := ⟨v, ⟨1, n, [], false⟩⟩
theorem BR_one (v n : Int) (h : 0 ≤ v ∧ v ≤ 7) : BR [sl v n] := ⟨by simp, fun s hs => by
  rw [List.mem_singleton] at hs; subst hs; exact ⟨h.1, h.2, vR_int n⟩⟩
theorem law26_awake_eq : law26_awake = some true := by
  unfold law26_awake law26_slot
  simp only [bndE_s]
  have h := (extend_Grow_eq (l := [[], [sl 1 7]]) (hs := [THit.mk 0 [sl 0 5] [], THit.mk 1 [sl 0 6] []])
    (fun x hx => by
      simp only [List.mem_cons, List.not_mem_nil, or_false] at hx
      rcases hx with rfl | rfl
      · exact BR_nil
      · exact BR_one _ _ (by decide))
    (fun x hx => by
      simp only [List.mem_cons, List.not_mem_nil, or_false] at hx
      rcases hx with rfl | rfl <;> exact BR_one _ _ (by decide)) (by decide) (by decide) (by decide)).1
  have e : growV [[], [sl 1 7]] ([THit.mk 0 [sl 0 5] [], THit.mk 1 [sl 0 6] []].map (·.bind)) = [[sl 0 5], [sl 0 6], [sl 0 5, sl 1 7], [sl 0 6, sl 1 7]] := by decide
  rw [e] at h
  unfold sl at h
  rw [h, bndE_s]
  rw [show decide (((([[⟨0, ⟨1, 5, [], false⟩⟩], [⟨0, ⟨1, 6, [], false⟩⟩], [⟨0, ⟨1, 5, [], false⟩⟩, ⟨1, ⟨1, 7, [], false⟩⟩], [⟨0, ⟨1, 6, [], false⟩⟩, ⟨1, ⟨1, 7, [], false⟩⟩]] : List (List TSlot)).length : Nat) : Int) = 4) = true from rfl, iteE_t, idxE_1, ref05_Same_eq _ _ (by simp), bndE_s]
  rfl
end Go.Ac
