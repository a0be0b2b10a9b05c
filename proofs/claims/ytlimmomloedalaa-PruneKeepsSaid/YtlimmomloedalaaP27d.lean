/-
  Part of a proof: the plain law, lists and numbers alone.
-/
import Derived.Test.YtlimmomloedalaaP27c
set_option linter.unusedVariables false
set_option linter.unusedSimpArgs false
namespace Go.Ac
theorem ref03_Right_tot (v : TValue) : ∃ b, ref03_Right v = some b := by
  unfold ref03_Right
  simp only [iteE_if]
  repeat' split
  all_goals exact ⟨_, rfl⟩
/-- a binding that may be: its variables rise -/
def RightP (l : List TSlot) : Prop := l.Pairwise (fun a b => a.var < b.var) ∧ ∀ s ∈ l, 0 ≤ s.var ∧ s.var ≤ 7
def okP (l : List TSlot) (i : Nat) : Prop := ∀ j, j < i → ∃ x, l[j]? = some x ∧ 0 ≤ x.var ∧ x.var ≤ 7 ∧ ∀ y, 0 < j → l[j - 1]? = some y → y.var < x.var
theorem okP_right {l : List TSlot} (h : okP l l.length) : RightP l := by
  have get : ∀ j (hj : j < l.length), 0 ≤ l[j].var ∧ l[j].var ≤ 7 ∧ ∀ (_ : 0 < j) (h2 : j - 1 < l.length), l[j - 1].var < l[j].var := by
    intro j hj
    obtain ⟨x, hx, h1, h2, h3⟩ := h j hj
    obtain ⟨_, rfl⟩ := List.getElem?_eq_some_iff.1 hx
    exact ⟨h1, h2, fun h0 h4 => h3 _ h0 (List.getElem?_eq_getElem h4)⟩
  refine ⟨List.pairwise_iff_getElem.2 ?_, fun s hs => ?_⟩
  · intro i j hi hj hij
    induction j with
    | zero => omega
    | succ j ih =>
      have h1 := (get (j + 1) hj).2.2 (by omega) (by simp; omega)
      simp only [Nat.add_sub_cancel] at h1
      rcases Nat.lt_or_ge i j with h2 | h2
      · have := ih (by omega) h2; omega
      · have : i = j := by omega
        subst this; exact h1
  · obtain ⟨j, hj, rfl⟩ := List.mem_iff_getElem.1 hs
    exact ⟨(get j hj).1, (get j hj).2.1⟩
theorem ref05_Right_ex (l : List TSlot) (hl : l.length ≤ 9223372036854775807) : ∃ b, ref05_Right l = some b ∧ (b = true → RightP l) := by
  unfold ref05_Right ref05_Right_l1
  obtain ⟨t, ht, hQ⟩ := loopE_ex (step := fun s => ref05_Right_l1_s l s) (fun s => ∃ i : Nat, s = (i : Int) ∧ i ≤ l.length ∧ okP l i) (fun s => (l.length - s).toNat) (fun t => t = .inl () → okP l l.length)
    (by
      rintro s ⟨i, rfl, hi, hok⟩
      by_cases he : i = l.length
      · subst he
        exact .inl ⟨.inl (), by simp only [ref05_Right_l1_s, ltI, iteE_f], fun _ => hok⟩
      · obtain ⟨x, hx, _⟩ := get_lt (l := l) (i := i) (by omega)
        obtain ⟨b, hb⟩ := ref03_Right_tot x.value
        simp only [ref05_Right_l1_s, ltD hx, iteE_t, idxE_n hx, hb, bndE_s, succW hx hl, iteP]
        have hgo : (∀ y, 0 < i → l[i - 1]? = some y → y.var < x.var) → ¬ x.var < 0 → ¬ 7 < x.var → okP l (i + 1) := by
          intro h1 h2 h3 j hj
          rcases Nat.lt_or_ge j i with h4 | h4
          · exact hok j h4
          · have : j = i := by omega
            subst this
            exact ⟨x, hx, by omega, by omega, h1⟩
        by_cases h1 : x.var < 0
        · exact .inl ⟨.inr (), by simp [h1], by simp⟩
        by_cases h2 : 7 < x.var
        · exact .inl ⟨.inr (), by simp [h1, h2], by simp⟩
        cases b with
        | false => exact .inl ⟨.inr (), by simp [h1, h2, iteE], by simp⟩
        | true =>
          by_cases h3 : 0 < i
          · obtain ⟨y, hy, _⟩ := get_lt (l := l) (i := i - 1) (by omega)
            have e : intVal .sub .i64 (i : Int) 1 = ((i - 1 : Nat) : Int) := by rw [subI (by omega) (by omega)]; omega
            rw [e, idxE_n hy]
            by_cases h4 : x.var ≤ y.var
            · exact .inl ⟨.inr (), by simp [h1, h2, h3, h4, iteE], by simp⟩
            · refine .inr ⟨((i + 1 : Nat) : Int), by simp [h1, h2, h3, h4, iteE], ⟨i + 1, rfl, by omega, hgo (fun z _ hz => ?_) h1 h2⟩, by omega⟩
              rw [hy] at hz; cases hz; omega
          · refine .inr ⟨((i + 1 : Nat) : Int), by simp [h1, h2, h3, iteE], ⟨i + 1, rfl, by omega, hgo (fun z h0 => absurd h0 h3) h1 h2⟩, by omega⟩)
    (0 : Int) ⟨0, rfl, by omega, fun j hj => by omega⟩
  rw [ht, bndE_s]
  rcases t with _ | _
  · exact ⟨true, rfl, fun _ => okP_right (hQ rfl)⟩
  · exact ⟨false, rfl, by simp⟩
theorem ref26_Binds_eq {l : List TRow} (hl : l.length ≤ 1000) : ref26_Binds l = some (l.map TRow.bind) := by
  unfold ref26_Binds ref26_Binds_l1
  rw [loop_fold l (fun w x => w ++ [x.bind]) (fun w => w) (fun i w => w.length ≤ i)
    (fun i x w hx hI => by
      have := getLt hx
      refine ⟨?_, by simpa using hI⟩
      simp only [ref26_Binds_l1_s, ltD hx, iteE_t, idxE_n hx, succW hx (Nat.le_trans hl (by decide))]
      rw [chkF (by simp; omega) (by decide)])
    (fun w _ => by simp only [ref26_Binds_l1_s, ltI, iteE_f]) [] (by simp), foldl_map, bndE_s]
  simp
theorem ref05_Has_eq {l : List (List TSlot)} {b : List TSlot} (hl : l.length ≤ 9223372036854775807) (hs : ∀ x ∈ l, x.length ≤ 9223372036854775807) : ref05_Has l b = some (decide (b ∈ l)) := by
  unfold ref05_Has ref05_Has_l1
  rw [loop_all0 l (fun x => !decide (x = b)) (.inl ()) (.inr ())
    (fun i x hx => by
      simp only [ref05_Has_l1_s, ltD hx, iteE_t, idxE_n hx, ref05_Same_eq _ _ (hs x (List.mem_of_getElem? hx)), bndE_s, succW hx hl, iteE_if, if_true]
      by_cases h : x = b <;> simp [h])
    (by simp only [ref05_Has_l1_s, ltI, iteE_f]), bndE_s]
  by_cases h : b ∈ l
  · have : ¬ (l.all fun x => !decide (x = b)) = true := by
      intro h2
      have := List.all_eq_true.1 h2 b h
      simp at this
    rw [if_neg this]; simp [sumE, h]
  · have : (l.all fun x => !decide (x = b)) = true := by
      rw [List.all_eq_true]
      intro x hx
      have : x ≠ b := fun e => h (e ▸ hx)
      simp [this]
    rw [if_pos this]; simp [sumE, h]
theorem ref03_Below_tot (a b : List UInt8) (ha : a.length ≤ 9223372036854775807) : ∃ r, ref03_Below a b = some r := by
  unfold ref03_Below ref03_Below_l1
  obtain ⟨t, ht, _⟩ := loopE_ex (step := fun s => ref03_Below_l1_s a b s) (fun s => ∃ i : Nat, s = (i : Int) ∧ i ≤ a.length) (fun s => (a.length - s).toNat) (fun _ => True)
    (by
      rintro s ⟨i, rfl, hi⟩
      by_cases he : i = a.length
      · subst he; exact .inl ⟨.inl (), by simp only [ref03_Below_l1_s, ltI, iteE_f], trivial⟩
      · obtain ⟨x, hx, _⟩ := get_lt (l := a) (i := i) (by omega)
        simp only [ref03_Below_l1_s, ltD hx, iteE_t, idxE_n hx, succW hx ha]
        by_cases hb : i < b.length
        · obtain ⟨y, hy, _⟩ := get_lt hb
          simp only [ltD hy, iteE_t, idxE_n hy]
          simp only [iteE_if]
          split
          · exact .inl ⟨_, rfl, trivial⟩
          · exact .inr ⟨_, rfl, ⟨i + 1, rfl, by omega⟩, by omega⟩
        · have : ¬ (i : Int) < (b.length : Int) := by omega
          exact .inl ⟨.inl (), by simp [this, iteE], trivial⟩)
    (0 : Int) ⟨0, rfl, by omega⟩
  rw [ht, bndE_s]
  rcases t with _ | _ <;> exact ⟨_, rfl⟩
theorem ref03_Less_tot (a b : TValue) (ha : a.str.length ≤ 9223372036854775807) : ∃ r, ref03_Less a b = some r := by
  unfold ref03_Less
  obtain ⟨r, hr⟩ := ref03_Below_tot a.str b.str ha
  rw [hr]
  simp only [iteE_if, bndE_s]
  repeat' split
  all_goals exact ⟨_, rfl⟩
theorem ref05_Less_tot (a b : List TSlot) (ha : a.length ≤ 9223372036854775807) (hs : ∀ s ∈ a, s.value.str.length ≤ 9223372036854775807) : ∃ r, ref05_Less a b = some r := by
  unfold ref05_Less
  rw [iteE_if, len_dec]
  by_cases hl : a.length = b.length
  · rw [if_neg (by simp [hl])]
    unfold ref05_Less_l1
    obtain ⟨t, ht, _⟩ := loopE_ex (step := fun s => ref05_Less_l1_s a b s) (fun s => ∃ i : Nat, s = (i : Int) ∧ i ≤ a.length) (fun s => (a.length - s).toNat) (fun _ => True)
      (by
        rintro s ⟨i, rfl, hi⟩
        by_cases he : i = a.length
        · subst he; exact .inl ⟨.inl (), by simp only [ref05_Less_l1_s, ltI, iteE_f], trivial⟩
        · obtain ⟨x, hx, _⟩ := get_lt (l := a) (i := i) (by omega)
          obtain ⟨y, hy, _⟩ := get_lt (l := b) (i := i) (by omega)
          obtain ⟨r, hr⟩ := ref03_Less_tot x.value y.value (hs x (List.mem_of_getElem? hx))
          simp only [ref05_Less_l1_s, ltD hx, iteE_t, idxE_n hx, idxE_n hy, succW hx ha, hr, bndE_s]
          simp only [iteE_if]
          split
          · exact .inl ⟨_, rfl, trivial⟩
          · split
            · exact .inl ⟨_, rfl, trivial⟩
            · exact .inr ⟨_, rfl, ⟨i + 1, rfl, by omega⟩, by omega⟩)
      (0 : Int) ⟨0, rfl, by omega⟩
    rw [ht, bndE_s]
    rcases t with _ | _ <;> exact ⟨_, rfl⟩
  · rw [if_pos (by simp [hl])]; exact ⟨_, rfl⟩
theorem ref24_Insert_ex {l : List TRow} {x : TRow} (hl : l.length ≤ 1000) (hx : x.bind.length ≤ 9223372036854775807) (hs : ∀ s ∈ x.bind, s.value.str.length ≤ 9223372036854775807) :
    ∃ k, k ≤ l.length ∧ ref24_Insert l x = some (l.take k ++ [x] ++ l.drop k) := by
  unfold ref24_Insert ref24_Insert_l1
  obtain ⟨t, ht, k, hk, rfl⟩ := loopE_ex (step := fun s => ref24_Insert_l1_s l x s) (fun s => ∃ i : Nat, s = (i : Int) ∧ i ≤ l.length) (fun s => s.toNat) (fun t => ∃ k : Nat, k ≤ l.length ∧ t = (k : Int))
    (by
      rintro s ⟨i, rfl, hi⟩
      cases i with
      | zero => exact .inl ⟨0, by simp [ref24_Insert_l1_s, iteE], 0, by omega, rfl⟩
      | succ i =>
        obtain ⟨y, hy, _⟩ := get_lt (l := l) (i := i) (by omega)
        obtain ⟨r, hr⟩ := ref05_Less_tot x.bind y.bind hx hs
        have e : intVal .sub .i64 ((i + 1 : Nat) : Int) 1 = (i : Int) := by rw [subI (by omega) (by omega)]; omega
        have hd : decide ((0 : Int) < ((i + 1 : Nat) : Int)) = true := by simp
        simp only [ref24_Insert_l1_s, hd, iteE_t, e, idxE_n hy, hr, bndE_s]
        simp only [iteE_if]
        split
        · exact .inr ⟨_, rfl, ⟨i, rfl, by omega⟩, by omega⟩
        · exact .inl ⟨_, rfl, i + 1, hi, rfl⟩)
    (l.length : Int) ⟨l.length, rfl, Nat.le_refl _⟩
  refine ⟨k, hk, ?_⟩
  rw [ht, bndE_s]
  have es : sub l 0 (k : Int) = l.take k := by rw [show (0 : Int) = ((0 : Nat) : Int) from rfl, sub_nat]; rfl
  rw [es, sub_end, chkE_p (by omega), chkF (by simp; omega) (by decide), chkF (by simp; omega) (by decide), chkE_p (by omega), chkF (by simp; omega) (by decide)]
  simp
/-! the rows of seeds -/
structure SeedRow (r : TRow) : Prop where
  len : r.bind.length ≤ 8
  right : RightP r.bind
  text : ∀ s ∈ r.bind, s.value.str.length ≤ 100
  set : ∃ s, r.set = [TConfig.mk s []]
def SeedRows (l : List TRow) : Prop := (∀ r ∈ l, SeedRow r) ∧ (l.map TRow.bind).Nodup
theorem SeedRow.ok {r : TRow} (h : SeedRow r) : RowOk r := by
  obtain ⟨s, hs⟩ := h.set
  exact ⟨Nat.le_trans h.len (by decide), by rw [hs]; exact ⟨by simp, by simp⟩⟩
theorem SeedRows.ro {l : List TRow} (h : SeedRows l) (hl : l.length ≤ 1000) : RO l := ⟨hl, fun r hr => (h.1 r hr).ok⟩
theorem law27_rows_ex (a : List Tproctorlaw27_Seed) (ha : a.length ≤ 9223372036854775807) : ∃ r, law27_rows a = some r ∧ r.length ≤ 12 ∧ SeedRows r := by
  unfold law27_rows law27_rows_l1
  have hnil : SeedRows [] := ⟨by simp, by simp⟩
  obtain ⟨t, ht, hQ⟩ := loopE_ex (step := fun s : List TRow × Int => law27_rows_l1_s a s.1 s.2) (fun s => ∃ i : Nat, s.2 = (i : Int) ∧ i ≤ a.length ∧ i ≤ 12 ∧ s.1.length ≤ i ∧ SeedRows s.1) (fun s => (a.length - s.2).toNat)
    (fun t => match t with | .inl r => r.length ≤ 12 ∧ SeedRows r | .inr _ => True)
    (by
      rintro ⟨w, s⟩ ⟨i, rfl, hi, h12, hw, hR⟩
      simp only
      simp only at hw hR
      by_cases he : i = a.length
      · subst he; exact .inl ⟨.inl w, by simp only [law27_rows_l1_s, ltI, iteE_f], by omega, hR⟩
      by_cases h2 : i = 12
      · subst h2
        obtain ⟨x, hx, _⟩ := get_lt (l := a) (i := 12) (by omega)
        exact .inl ⟨.inl w, by simp only [law27_rows_l1_s, ltD hx, iteE_t]; simp [iteE], hw, hR⟩
      obtain ⟨x, hx, _⟩ := get_lt (l := a) (i := i) (by omega)
      have hd : decide ((i : Int) < 12) = true := by simp; omega
      have hb : law27_rows_b5 a w (i : Int) = some (.inr ()) ∨ ∃ w', law27_rows_b5 a w (i : Int) = some (.inl w') ∧ w'.length ≤ i + 1 ∧ SeedRows w' := by
        unfold law27_rows_b5
        rw [idxE_n hx, iteP]
        by_cases h8 : (8 : Int) < x.bind.length
        · rw [if_pos h8]; exact .inl rfl
        rw [if_neg h8, idxE_n hx]
        obtain ⟨b, hb, hbr⟩ := ref05_Right_ex x.bind (by omega)
        rw [hb, bndE_s]
        cases b with
        | false => exact .inl rfl
        | true =>
          have hr := hbr rfl
          simp only [Bool.not_true, iteE_f]
          unfold law27_rows_l6
          rw [loop_all0 x.bind (fun s => !decide (100 < (s.value.str.length : Int))) (.inl ()) (.inr ())
            (fun k y hy => by
              simp only [law27_rows_l6_s, idxE_n hx, ltD hy, iteE_t, idxE_n hy, succW hy (show x.bind.length ≤ 9223372036854775807 by omega)]
              by_cases h : (100 : Int) < y.value.str.length <;> simp [h, iteE])
            (by simp only [law27_rows_l6_s, idxE_n hx, ltI, iteE_f]), bndE_s]
          by_cases hall : (x.bind.all fun s => !decide (100 < (s.value.str.length : Int))) = true
          · rw [if_pos hall, sumE_l]
            have htext : ∀ s ∈ x.bind, s.value.str.length ≤ 100 := fun s hs => by
              have := List.all_eq_true.1 hall s hs
              simp at this; omega
            rw [ref26_Binds_eq (by omega), bndE_s, idxE_n hx, ref05_Has_eq (by simp; omega) (fun y hy => by
              obtain ⟨r, hr, rfl⟩ := List.mem_map.1 hy
              have := (hR.1 r hr).len; omega), bndE_s]
            unfold law27_rows_b7
            by_cases hmem : x.bind ∈ w.map TRow.bind
            · right
              refine ⟨w, by simp [hmem, iteE, bndE], by omega, hR⟩
            · right
              have hn : (!decide (x.bind ∈ w.map TRow.bind)) = true := by simp [hmem]
              rw [hn, iteE_t, idxE_n hx, idxE_n hx, chkE_p (by decide)]
              obtain ⟨k, hk, hins⟩ := ref24_Insert_ex (l := w) (x := TRow.mk x.bind ([TConfig.mk ((u8i (intVal .rem .u8 (x.state.toNat : Int) ((3 : UInt8).toNat : Int))).toNat : Int) ([] : List TValue)])) (by omega) (by simp only; omega) (fun s hs => by have := htext s hs; omega)
              rw [hins]
              refine ⟨_, rfl, by simp; omega, ?_, ?_⟩
              · intro r hr
                simp only [List.mem_append, List.mem_singleton] at hr
                rcases hr with (hr | hr) | hr
                · exact hR.1 r (List.mem_of_mem_take hr)
                · subst hr; exact ⟨by simp only; omega, hr, htext, _, rfl⟩
                · exact hR.1 r (List.mem_of_mem_drop hr)
              · have hp : (w.take k ++ [TRow.mk x.bind ([TConfig.mk ((u8i (intVal .rem .u8 (x.state.toNat : Int) ((3 : UInt8).toNat : Int))).toNat : Int) ([] : List TValue)])] ++ w.drop k).Perm (TRow.mk x.bind ([TConfig.mk ((u8i (intVal .rem .u8 (x.state.toNat : Int) ((3 : UInt8).toNat : Int))).toNat : Int) ([] : List TValue)]) :: w) := by
                  rw [List.append_assoc, List.singleton_append]
                  refine List.perm_middle.trans ?_
                  rw [List.take_append_drop]
                rw [(hp.map TRow.bind).nodup_iff]
                exact List.nodup_cons.2 ⟨hmem, hR.2⟩
          · rw [if_neg hall]; exact .inl rfl
      rcases hb with hb | ⟨w', hb, hl', hR'⟩
      · exact .inl ⟨.inr (), by simp only [law27_rows_l1_s, ltD hx, iteE_t, hd, hb, bndE_s, sumE_r], trivial⟩
      · exact .inr ⟨(w', ((i + 1 : Nat) : Int)), by simp only [law27_rows_l1_s, ltD hx, iteE_t, hd, hb, bndE_s, sumE_l, succW hx ha], ⟨i + 1, rfl, by omega, by omega, hl', hR'⟩, by simp only; omega⟩)
    (([] : List TRow), (0 : Int)) ⟨0, rfl, by omega, by omega, by simp, hnil⟩
  rw [ht, bndE_s]
  rcases t with r | _
  · exact ⟨r, rfl, hQ.1, hQ.2⟩
  · exact ⟨[], rfl, by simp, hnil⟩
theorem law27_awake_eq : law27_awake = some true := by
  unfold law27_awake law27_slot
  simp only [bndE_s]
  rw [prune_All_eq ⟨by simp, fun r hr => by
    simp only [List.mem_cons, List.not_mem_nil, or_false] at hr
    rcases hr with rfl | rfl | rfl <;> exact ⟨by simp, by simp, by simp⟩⟩, bndE_s]
  decide +kernel
end Go.Ac
