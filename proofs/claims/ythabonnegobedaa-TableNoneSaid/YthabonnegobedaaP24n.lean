/- Own work: the plain law. -/
import Derived.Test.YthabonnegobedaaSh24n
import Derived.Test.YthabonnegobedaaPL
set_option linter.unusedVariables false
set_option linter.unusedSimpArgs false
namespace Go.Ac
theorem few_tot (l : List Tproctorlaw24_Act) (hl : l.length ≤ 9223372036854775807) (hb : ∀ a ∈ l, a.bind.length ≤ 9223372036854775807) : ∃ b, law24_few l = some b := by
  unfold law24_few
  rw [iteP]
  split
  · exact ⟨_, rfl⟩
  unfold law24_few_l1
  have hr : ∀ b : List TSlot, b.length ≤ 9223372036854775807 → ∃ r, ref05_Right b = some r := fun b hb => by
    unfold ref05_Right ref05_Right_l1
    obtain ⟨t, ht⟩ := tot_ex (loop_scan0 (step := fun s => ref05_Right_l1_s b s) b.length (fun _ => True) (fun _ => True)
      (fun i hi => by
        obtain ⟨x, hx, _⟩ := get_lt hi
        have hv : ∃ r, ref03_Right x.value = some r := by
          unfold ref03_Right
          simp only [iteE_if]
          repeat' split
          all_goals exact ⟨_, rfl⟩
        obtain ⟨v, hv⟩ := hv
        simp only [ref05_Right_l1_s, ltD hx, iteE_t, idxE_n hx, hv, bndE_s, succW hx hb]
        rw [iteP]
        by_cases h1 : x.var < 0
        · rw [if_pos h1]; exact .inr ⟨_, rfl, trivial⟩
        rw [if_neg h1, iteP]
        by_cases h2 : 7 < x.var
        · rw [if_pos h2]; exact .inr ⟨_, rfl, trivial⟩
        rw [if_neg h2]
        cases v with
        | false => exact .inr ⟨_, rfl, trivial⟩
        | true =>
          simp only [Bool.not_true, iteE_f]
          rw [iteP]
          by_cases h3 : (0 : Int) < (i : Int)
          · rw [if_pos h3]
            obtain ⟨y, hy, _⟩ := get_lt (l := b) (i := i - 1) (by omega)
            have e : intVal .sub .i64 (i : Int) 1 = ((i - 1 : Nat) : Int) := by rw [subI (by omega) (by omega)]; omega
            rw [e, idxE_n hy, iteP]
            by_cases h4 : x.var ≤ y.var
            · rw [if_pos h4]; exact .inr ⟨_, rfl, trivial⟩
            · rw [if_neg h4]; exact .inl ⟨rfl, trivial⟩
          · rw [if_neg h3]; exact .inl ⟨rfl, trivial⟩)
      (fun _ => ⟨_, by simp only [ref05_Right_l1_s, ltI, iteE_f]; rfl, trivial⟩))
    rw [show (0 : Int) = ((0 : Nat) : Int) from rfl] at ht
    rw [show loopE (fun s => ref05_Right_l1_s b s) (0 : Int) = some t from ht, bndE_s]
    cases t <;> exact ⟨_, rfl⟩
  obtain ⟨t, ht⟩ := tot_ex (loop_scan0 (step := fun s => law24_few_l1_s l s) l.length (fun _ => True) (fun _ => True)
    (fun i hi => by
      obtain ⟨x, hx, _⟩ := get_lt hi
      have hxb := hb x (List.mem_of_getElem? hx)
      obtain ⟨v, hv⟩ := hr x.bind hxb
      have hin : ∃ t, law24_few_l2 l (i : Int) 0 = some t := by
        unfold law24_few_l2
        exact tot_ex (loop_scan0 (step := fun s => law24_few_l2_s l (i : Int) s) x.bind.length (fun _ => True) (fun _ => True)
          (fun j hj => by
            obtain ⟨y, hy, _⟩ := get_lt hj
            simp only [law24_few_l2_s, idxE_n hx, ltD hy, iteE_t, idxE_n hy, succW hy hxb]
            rw [iteP]
            split
            · exact .inr ⟨_, rfl, trivial⟩
            · exact .inl ⟨rfl, trivial⟩)
          (fun _ => ⟨_, by simp only [law24_few_l2_s, idxE_n hx, ltI, iteE_f]; rfl, trivial⟩))
      obtain ⟨t, ht⟩ := hin
      simp only [law24_few_l1_s, ltD hx, iteE_t, idxE_n hx, hv, ht, bndE_s, succW hx hl]
      rw [iteP]
      by_cases h1 : (8 : Int) < (x.bind.length : Int)
      · rw [if_pos h1]; exact .inr ⟨_, rfl, trivial⟩
      rw [if_neg h1]
      cases v with
      | false => exact .inr ⟨_, rfl, trivial⟩
      | true =>
        simp only [Bool.not_true, iteE_f]
        rw [iteP]
        by_cases h2 : x.state < 0
        · rw [if_pos h2]; exact .inr ⟨_, rfl, trivial⟩
        rw [if_neg h2, iteP]
        by_cases h3 : 31 < x.state
        · rw [if_pos h3]; exact .inr ⟨_, rfl, trivial⟩
        rw [if_neg h3]
        cases t with
        | inl _ => exact .inl ⟨rfl, trivial⟩
        | inr _ => exact .inr ⟨_, rfl, trivial⟩)
    (fun _ => ⟨_, by simp only [law24_few_l1_s, ltI, iteE_f]; rfl, trivial⟩))
  rw [show loopE (fun s => law24_few_l1_s l s) (0 : Int) = some t from ht, bndE_s]
  cases t <;> exact ⟨_, rfl⟩
theorem num0 : key_number 0 = some [128, 0, 0, 0, 0, 0, 0, 0] := by
  have h : key_number_l1 (intVal .xor .u64 (IntKind.wrap .u64 0) 9223372036854775808) 0 (List.replicate 8 (0 : UInt8)) = some [128, 0, 0, 0, 0, 0, 0, 0] := loopE_iff.2 ⟨9, by kernel_rfl⟩
  unfold key_number
  rw [h]
  (show _ = _; kernel_rfl)
theorem key_nil : binding_Key [] = some [] := by
  have h : binding_Key_l1 [] (([] : List TSlot).length : Int) 0 [] = some [] := loopE_iff.2 ⟨1, by kernel_rfl⟩
  unfold binding_Key
  rw [h]; rfl
theorem key_one0 : key_one ⟨1, 0, [], false⟩ = some [1, 128, 0, 0, 0, 0, 0, 0, 0] := by
  unfold key_one
  rw [show (TValue.mk 1 0 ([] : List UInt8) false).int = 0 from rfl, num0]
  kernel_rfl
theorem key_of0 : key_Of [⟨1, 0, [], false⟩] = some [1, 128, 0, 0, 0, 0, 0, 0, 0] := by
  have h : key_Of_l1 [⟨1, 0, [], false⟩] (([⟨1, 0, [], false⟩] : List TValue).length : Int) 0 [] = some (.inl [1, 128, 0, 0, 0, 0, 0, 0, 0]) := by
    rw [key_Of_l1_eq]
    unfold key_Of_l1_s
    rw [show decide ((0 : Int) < (([⟨1, 0, [], false⟩] : List TValue).length : Int)) = true from rfl, iteE_t, idxE_0, show value_Right ⟨1, 0, [], false⟩ = some true from by kernel_rfl, bndE_s, key_one0]
    simp only [Bool.not_true, iteE_f, bndE_s]
    rw [chkE_p (by decide), nextE_l, key_Of_l1_eq]
    kernel_rfl
  unfold key_Of
  rw [h]; rfl
theorem key_slot0 : binding_Key [⟨0, ⟨1, 0, [], false⟩⟩] = some [16, 1, 128, 0, 0, 0, 0, 0, 0, 0] := by
  have h : binding_Key_l1 [⟨0, ⟨1, 0, [], false⟩⟩] (([⟨0, ⟨1, 0, [], false⟩⟩] : List TSlot).length : Int) 0 [] = some [16, 1, 128, 0, 0, 0, 0, 0, 0, 0] := by
    rw [binding_Key_l1_eq]
    unfold binding_Key_l1_s
    rw [show decide ((0 : Int) < (([⟨0, ⟨1, 0, [], false⟩⟩] : List TSlot).length : Int)) = true from rfl, iteE_t, idxE_0, key_of0]
    simp only [bndE_s]
    rw [chkE_p (by decide), chkE_p (by decide), nextE_l, binding_Key_l1_eq]
    kernel_rfl
  unfold binding_Key
  rw [h]; rfl
theorem law24_awake_eq : law24_awake = some true := by
  unfold law24_awake
  rw [show table_New_v2 1 = some (1, 0, ⟨0, []⟩, ⟨0, []⟩) from by kernel_rfl, bndE_s]
  have h1 : table_Table_Put_v2 [] [] 1 0 ⟨0, []⟩ ⟨0, []⟩ = some (1, 0, 1, 1, ⟨1, [(0, 1, ⟨[], []⟩)]⟩, ⟨1, [(0, [], 1)]⟩) := by
    unfold table_Table_Put_v2
    rw [key_nil]
    kernel_rfl
  have h2 : table_Table_Put_v2 [⟨0, ⟨1, 0, [], false⟩⟩] [] 1 1 ⟨1, [(0, 1, ⟨[], []⟩)]⟩ ⟨1, [(0, [], 1)]⟩ = some (0, 19, 1, 1, ⟨1, [(0, 1, ⟨[], []⟩)]⟩, ⟨1, [(0, [], 1)]⟩) := by
    unfold table_Table_Put_v2
    rw [key_slot0]
    kernel_rfl
  simp only [h1, bndE_s, h2]
  (show _ = _; kernel_rfl)
theorem law24_TableNone_eq (a : Tproctorlaw24_Act) (h : a.bind.length ≤ 9223372036854775807) : law24_TableNone a = some true := by
  obtain ⟨b, hb⟩ := few_tot [a] (by simp) (fun x hx => by rw [List.mem_singleton] at hx; subst hx; exact h)
  unfold law24_TableNone
  rw [hb, bndE_s, law24_awake_eq]
  cases b with
  | false => rfl
  | true => kernel_rfl
end Go.Ac
