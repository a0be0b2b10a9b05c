/-
  Part of a proof: the plain law, lists and numbers alone.
-/
import Derived.Test.YtlimmomloedalaaP27f
set_option linter.unusedVariables false
set_option linter.unusedSimpArgs false
namespace Go.Ac
theorem getS_mem {l : List TSlot} {v : Int} {x : TValue} (h : getS l v = (x, true)) : TSlot.mk v x ∈ l := by
  unfold getS at h
  split at h
  · rename_i y hy
    cases h
    obtain ⟨s, hs, hv⟩ := List.exists_of_findSome?_eq_some hy
    split at hv
    · rename_i e; cases hv; rw [← e]; exact hs
    · cases hv
  · cases h
theorem getS_of_mem {l : List TSlot} (hl : RightP l) {s : TSlot} (h : s ∈ l) : getS l s.var = (s.value, true) := by
  have key : ∀ (l : List TSlot), l.Pairwise (fun a b => a.var < b.var) → s ∈ l → l.findSome? (fun t => if t.var = s.var then some t.value else none) = some s.value := by
    intro l
    induction l with
    | nil => intro _ h; simp at h
    | cons t l ih =>
      intro hp hs
      rw [List.findSome?_cons]
      obtain ⟨h1, h2⟩ := List.pairwise_cons.1 hp
      rcases List.mem_cons.1 hs with rfl | hs
      · simp
      · have := h1 s hs
        rw [if_neg (by omega)]
        exact ih h2 hs
  unfold getS
  rw [key l hl.1 h]
theorem underS_iff {a b : List TSlot} (hb : RightP b) : underS a b = true ↔ ∀ s ∈ a, s ∈ b := by
  unfold underS
  rw [List.all_eq_true]
  constructor
  · intro h s hs
    have := h s hs
    simp only [decide_eq_true_eq] at this
    exact getS_mem this
  · intro h s hs
    simp only [decide_eq_true_eq]
    exact getS_of_mem hb (h s hs)
theorem gtB_iff {r x : TRow} (hx : RightP x.bind) : gtB r x = true ↔ r.bind.length < x.bind.length ∧ ∀ s ∈ r.bind, s ∈ x.bind := by
  unfold gtB
  rw [Bool.and_eq_true, underS_iff hx]; simp
/-- rows whose bindings may be -/
def RightRows (l : List TRow) : Prop := ∀ r ∈ l, RightP r.bind
theorem great_iff {l : List TRow} {b : List TSlot} (hb : RightP b) {r : TRow} : r ∈ greatS l b ↔ r ∈ l ∧ (∀ s ∈ r.bind, s ∈ b) ∧ ∀ x ∈ l, (∀ s ∈ x.bind, s ∈ b) → gtB r x = false := by
  unfold greatS
  simp only [List.mem_filter, underS_iff hb, Bool.not_eq_true', List.any_eq_false]
  constructor
  · rintro ⟨⟨h1, h2⟩, h3⟩
    exact ⟨h1, h2, fun x hx hxb => by simpa using h3 x ⟨hx, hxb⟩⟩
  · rintro ⟨h1, h2, h3⟩
    exact ⟨⟨h1, h2⟩, fun x ⟨hx, hxb⟩ => by simpa using h3 x hx hxb⟩
/-- of rows under a binding there is a greatest one -/
theorem great_ex {l : List TRow} {b : List TSlot} (hb : RightP b) (hr : RightRows l) {r : TRow} (h1 : r ∈ l) (h2 : ∀ s ∈ r.bind, s ∈ b) : ∃ z, z ∈ greatS l b := by
  have key : ∀ (n : Nat) (r : TRow), r ∈ l → (∀ s ∈ r.bind, s ∈ b) → (∀ x ∈ l, (∀ s ∈ x.bind, s ∈ b) → x.bind.length < r.bind.length + n) → ∃ z, z ∈ greatS l b := by
    intro n
    induction n with
    | zero => intro r a1 a2 a3; have := a3 r a1 a2; omega
    | succ n ih =>
      intro r a1 a2 a3
      by_cases h : ∃ x ∈ l, (∀ s ∈ x.bind, s ∈ b) ∧ gtB r x = true
      · obtain ⟨x, hx, hxb, hg⟩ := h
        have := (gtB_iff (hr x hx)).1 hg
        exact ih x hx hxb fun y hy hyb => by have := a3 y hy hyb; omega
      · refine ⟨r, (great_iff hb).2 ⟨a1, a2, fun x hx hxb => ?_⟩⟩
        cases hg : gtB r x with
        | false => rfl
        | true => exact absurd ⟨x, hx, hxb, hg⟩ h
  obtain ⟨m, hm⟩ : ∃ m, ∀ x ∈ l, x.bind.length ≤ m := by
    clear key hr h1
    induction l with
    | nil => exact ⟨0, by simp⟩
    | cons y l ih =>
      obtain ⟨m, hm⟩ := ih
      exact ⟨max m y.bind.length, fun x hx => by
        rcases List.mem_cons.1 hx with rfl | hx
        · omega
        · have := hm x hx; omega⟩
  exact key (m + 1) r h1 h2 fun x hx _ => by have := hm x hx; omega
def Agr (l : List TRow) (b : List TSlot) : Prop := ∀ r ∈ greatS l b, ∀ s ∈ greatS l b, r.set = s.set
theorem agreeL_iff (g : List TRow) : agreeL g = true ↔ ∀ r ∈ g, ∀ s ∈ g, r.set = s.set := by
  cases g with
  | nil => simp [agreeL]
  | cons y ys =>
    unfold agreeL
    rw [List.all_eq_true]
    constructor
    · intro h r hr s hs
      have h1 := h r hr; have h2 := h s hs
      simp only [decide_eq_true_eq] at h1 h2
      exact h1.symm.trans h2
    · intro h z hz
      simp only [decide_eq_true_eq]
      exact h y (by simp) z hz
theorem transfer {g g' : List TRow} (h1 : ∀ r ∈ g, ∀ s ∈ g, r.set = s.set) (h2 : ∀ z ∈ g', ∃ y ∈ g, y.set = z.set) (h3 : (∃ y, y ∈ g) → ∃ z, z ∈ g') :
    (∀ r ∈ g', ∀ s ∈ g', r.set = s.set) ∧ copyL g' = copyL g := by
  refine ⟨fun r hr s hs => ?_, ?_⟩
  · obtain ⟨y, hy, e⟩ := h2 r hr
    obtain ⟨y', hy', e'⟩ := h2 s hs
    rw [← e, ← e']; exact h1 y hy y' hy'
  · cases g' with
    | nil => cases g with
      | nil => rfl
      | cons y ys => obtain ⟨z, hz⟩ := h3 ⟨y, by simp⟩; simp at hz
    | cons z zs =>
      obtain ⟨y, hy, e⟩ := h2 z (by simp)
      cases g with
      | nil => simp at hy
      | cons y0 ys =>
        have := h1 y0 (by simp) y hy
        simp [copyL, ← e, this]
/-- a row that is spare goes: what the greatest ones have stays -/
theorem cut_keeps {w : List TRow} (hr : RightRows w) (hnd : (w.map TRow.bind).Nodup) (hA : ∀ b, RightP b → Agr w b) (n : Nat) {b : List TSlot} (hb : RightP b) :
    Agr (cutAtS w n) b ∧ copyL (greatS (cutAtS w n) b) = copyL (greatS w b) := by
  unfold cutAtS
  split
  · rename_i x hx
    split
    · rename_i hsp
      have hw : w = w.take n ++ x :: w.drop (n + 1) := by
        obtain ⟨h1, rfl⟩ := List.getElem?_eq_some_iff.1 hx
        rw [← List.drop_eq_getElem_cons h1, List.take_append_drop]
      have hxw : x ∈ w := List.mem_of_getElem? hx
      have hmem : ∀ z, z ∈ w.take n ++ w.drop (n + 1) ↔ z ∈ w ∧ z.bind ≠ x.bind := by
        intro z
        have hnd' := hnd
        rw [hw, List.map_append, List.map_cons] at hnd'
        have h4 : x.bind ∉ (w.take n).map TRow.bind ++ (w.drop (n + 1)).map TRow.bind := by
          have := List.perm_middle (a := x.bind) (l₁ := (w.take n).map TRow.bind) (l₂ := (w.drop (n + 1)).map TRow.bind)
          exact (List.nodup_cons.1 (this.nodup_iff.1 hnd')).1
        constructor
        · intro hz
          refine ⟨?_, fun e => h4 ?_⟩
          · rcases List.mem_append.1 hz with h | h
            · exact List.mem_of_mem_take h
            · exact List.mem_of_mem_drop h
          · rw [← e, ← List.map_append]
            exact List.mem_map.2 ⟨z, hz, rfl⟩
        · rintro ⟨h1, h2⟩
          rw [hw] at h1
          rcases List.mem_append.1 h1 with h | h
          · exact List.mem_append_left _ h
          · rcases List.mem_cons.1 h with rfl | h
            · exact absurd rfl h2
            · exact List.mem_append_right _ h
      have hxr := hr x hxw
      revert hmem
      generalize w.take n ++ w.drop (n + 1) = w'
      intro hmem
      have hr' : RightRows w' := fun z hz => hr z ((hmem z).1 hz).1
      -- what lies below x
      have hbel : ∀ z, z ∈ bel w x ↔ z ∈ w' ∧ (∀ s ∈ z.bind, s ∈ x.bind) ∧ ∀ y ∈ w', (∀ s ∈ y.bind, s ∈ x.bind) → gtB z y = false := by
        intro z
        unfold bel
        rw [great_iff hxr]
        have hf : ∀ y, y ∈ w.filter (fun r => !decide (r.bind = x.bind)) ↔ y ∈ w' := fun y => by rw [hmem y, List.mem_filter]; simp
        simp only [hf]
      unfold spareS at hsp
      rw [Bool.and_eq_true, List.all_eq_true] at hsp
      obtain ⟨hsp1, hsp2⟩ := hsp
      have hsp2' : ∀ y ∈ bel w x, x.set = y.set := fun y hy => by simpa using hsp2 y hy
      obtain ⟨z0, hz0⟩ : ∃ z, z ∈ bel w x := by
        cases hq : bel w x with
        | nil => rw [hq] at hsp1; simp at hsp1
        | cons z zs => exact ⟨z, by simp⟩
      refine transfer (hA b hb) (fun z hz => ?_) (fun ⟨y, hy⟩ => ?_)
      · obtain ⟨z1, z2, z3⟩ := (great_iff hb).1 hz
        by_cases hzg : z ∈ greatS w b
        · exact ⟨z, hzg, rfl⟩
        · -- only x is above z
          have hzw := ((hmem z).1 z1).1
          obtain ⟨y, hy, hyb, hg⟩ : ∃ y ∈ w, (∀ s ∈ y.bind, s ∈ b) ∧ gtB z y = true := by
            refine Classical.byContradiction fun hn => hzg ((great_iff hb).2 ⟨hzw, z2, fun y hy hyb => ?_⟩)
            cases hg : gtB z y with
            | false => rfl
            | true => exact absurd ⟨y, hy, hyb, hg⟩ hn
          have hyx : y.bind = x.bind := Classical.byContradiction fun hne => by
            have := z3 y ((hmem y).2 ⟨hy, hne⟩) hyb
            rw [this] at hg; cases hg
          have hgz := (gtB_iff (hr y hy)).1 hg
          rw [hyx] at hgz hyb
          have hzb : z ∈ bel w x := (hbel z).2 ⟨z1, hgz.2, fun v hv hvx => z3 v hv fun s hs => hyb s (hvx s hs)⟩
          refine ⟨x, (great_iff hb).2 ⟨hxw, hyb, fun v hv hvb => ?_⟩, hsp2' z hzb⟩
          cases hg2 : gtB x v with
          | false => rfl
          | true =>
            have h2 := (gtB_iff (hr v hv)).1 hg2
            have hne : v.bind ≠ x.bind := fun e => by rw [e] at h2; omega
            have h3 := z3 v ((hmem v).2 ⟨hv, hne⟩) hvb
            have h4 : gtB z v = true := (gtB_iff (hr v hv)).2 ⟨by omega, fun s hs => h2.2 s (hgz.2 s hs)⟩
            rw [h3] at h4; cases h4
      · obtain ⟨y1, y2, _⟩ := (great_iff hb).1 hy
        by_cases hyx : y.bind = x.bind
        · obtain ⟨a1, a2, _⟩ := (hbel z0).1 hz0
          exact great_ex hb hr' a1 fun s hs => y2 s (by rw [hyx]; exact a2 s hs)
        · exact great_ex hb hr' ((hmem y).2 ⟨y1, hyx⟩) y2
    · exact ⟨hA b hb, rfl⟩
  · exact ⟨hA b hb, rfl⟩
theorem prune_keeps : ∀ (n : Nat) (w : List TRow), RightRows w → (w.map TRow.bind).Nodup → (∀ b, RightP b → Agr w b) → ∀ b, RightP b → Agr (pruneS n w) b ∧ copyL (greatS (pruneS n w) b) = copyL (greatS w b)
  | 0, w, _, _, hA, b, hb => ⟨hA b hb, rfl⟩
  | n + 1, w, hr, hnd, hA, b, hb => by
    have hs := cutAtS_sub w n
    have h := prune_keeps n (cutAtS w n) (fun r h => hr r (hs.subset h)) ((hs.map TRow.bind).nodup hnd) (fun b hb => (cut_keeps hr hnd hA n hb).1) b hb
    exact ⟨h.1, h.2.trans (cut_keeps hr hnd hA n hb).2⟩
theorem right_filter {b : List TSlot} (hb : RightP b) (p : TSlot → Bool) : RightP (b.filter p) :=
  ⟨hb.1.sublist List.filter_sublist, fun s hs => hb.2 s (List.mem_filter.1 hs).1⟩
/-- what holds of the bindings of values that are there holds of all -/
theorem agr_all {l : List TRow} (hr : RightRows l) (hv : ∀ r ∈ l, ∀ s ∈ r.bind, s.var ≤ 3) (h : ∀ ext, ExtOk l 0 ext → agreeL (greatS l ext) = true) (b : List TSlot) (hb : RightP b) : Agr l b := by
  obtain ⟨ext, hext⟩ : ∃ ext, ext = b.filter fun s => l.any fun r => underS r.bind b && decide (s ∈ r.bind) := ⟨_, rfl⟩
  have hre : RightP ext := hext ▸ right_filter hb _
  have hme : ∀ s, s ∈ ext ↔ s ∈ b ∧ ∃ r ∈ l, (∀ t ∈ r.bind, t ∈ b) ∧ s ∈ r.bind := by
    intro s
    rw [hext, List.mem_filter, List.any_eq_true]
    simp only [Bool.and_eq_true, underS_iff hb, decide_eq_true_eq]
  have hu : ∀ r ∈ l, (∀ s ∈ r.bind, s ∈ ext) ↔ ∀ s ∈ r.bind, s ∈ b := by
    intro r hrl
    exact ⟨fun h1 s hs => ((hme s).1 (h1 s hs)).1, fun h1 s hs => (hme s).2 ⟨h1 s hs, r, hrl, h1, hs⟩⟩
  have hg : ∀ z, z ∈ greatS l b → z ∈ greatS l ext := by
    intro z hz
    obtain ⟨z1, z2, z3⟩ := (great_iff hb).1 hz
    exact (great_iff hre).2 ⟨z1, (hu z z1).2 z2, fun x hx hxb => z3 x hx ((hu x hx).1 hxb)⟩
  have hA := (agreeL_iff _).1 (h ext ⟨hre.1, fun s hs => by
    obtain ⟨h1, r, hrl, _, hsr⟩ := (hme s).1 hs
    exact ⟨(hb.2 s h1).1, hv r hrl s hsr, r, hrl, getS_of_mem (hr r hrl) hsr⟩⟩)
  exact fun r hr s hs => hA r (hg r hr) s (hg s hs)
theorem last_le {l : List TSlot} (hl : RightP l) {n : Nat} {x : TSlot} (hx : l[n]? = some x) (hn : n + 1 = l.length) (h3 : x.var ≤ 3) : ∀ s ∈ l, s.var ≤ 3 := by
  intro s hs
  obtain ⟨j, hj, rfl⟩ := List.mem_iff_getElem.1 hs
  obtain ⟨hn', rfl⟩ := List.getElem?_eq_some_iff.1 hx
  rcases Nat.lt_or_ge j n with h | h
  · have := List.pairwise_iff_getElem.1 hl.1 j n hj hn' h; omega
  · have : j = n := by omega
    subst this; exact h3
theorem law27_PruneKeeps_eq (a : List Tproctorlaw27_Seed) (b : List TSlot) (ha : a.length ≤ 9223372036854775807) (hb : b.length ≤ 9223372036854775807) : law27_PruneKeeps a b = some true := by
  unfold law27_PruneKeeps
  rw [law27_awake_eq, iteP]
  split
  · rfl
  rw [iteP]
  split
  · rfl
  rename_i _ hb8
  obtain ⟨B, hB, hBr⟩ := ref05_Right_ex b hb
  rw [hB, bndE_s]
  cases B with
  | false => rfl
  | true =>
    have hright := hBr rfl
    simp only [Bool.not_true, iteE_f]
    obtain ⟨r, hr, h12, hR⟩ := law27_rows_ex a ha
    have hro := hR.ro (by omega)
    rw [hr, bndE_s]
    unfold law27_PruneKeeps_l1
    obtain ⟨t, ht, hQ⟩ := loopE_ex (step := fun s => law27_PruneKeeps_l1_s b r s) (fun s => ∃ i : Nat, s = (i : Int) ∧ i ≤ r.length ∧ ∀ j, j < i → ∀ x, r[j]? = some x → ∀ s ∈ x.bind, s.var ≤ 3) (fun s => (r.length - s).toNat)
      (fun t => (t = .inr true) ∨ (t = .inl () ∧ ∀ x ∈ r, ∀ s ∈ x.bind, s.var ≤ 3))
      (by
        rintro s ⟨i, rfl, hi, hok⟩
        by_cases he : i = r.length
        · subst he
          refine .inl ⟨.inl (), by simp only [law27_PruneKeeps_l1_s, ltI, iteE_f], .inr ⟨rfl, fun x hx => ?_⟩⟩
          obtain ⟨j, hj, rfl⟩ := List.mem_iff_getElem.1 hx
          exact hok j hj _ (List.getElem?_eq_getElem hj)
        · obtain ⟨x, hx, _⟩ := get_lt (l := r) (i := i) (by omega)
          have hsx := hR.1 x (List.mem_of_getElem? hx)
          have hlen := hsx.len
          have hgo : (∀ s ∈ x.bind, s.var ≤ 3) → ∀ j, j < i + 1 → ∀ y, r[j]? = some y → ∀ s ∈ y.bind, s.var ≤ 3 := by
            intro h1 j hj y hy
            rcases Nat.lt_or_ge j i with h2 | h2
            · exact hok j h2 y hy
            · have : j = i := by omega
              subst this
              rw [hx] at hy; cases hy; exact h1
          simp only [law27_PruneKeeps_l1_s, ltD hx, iteE_t, idxE_n hx, succW hx hro.len, law27_awake_eq, bndE_s]
          by_cases h0 : x.bind.length = 0
          · have : x.bind = [] := List.eq_nil_of_length_eq_zero h0
            exact .inr ⟨((i + 1 : Nat) : Int), by simp [this, iteE], ⟨i + 1, rfl, by omega, hgo (by simp [this])⟩, by omega⟩
          · have hd : decide ((0 : Int) < (x.bind.length : Int)) = true := by simp; omega
            obtain ⟨y, hy, _⟩ := get_lt (l := x.bind) (i := x.bind.length - 1) (by omega)
            have e : intVal .sub .i64 (x.bind.length : Int) 1 = ((x.bind.length - 1 : Nat) : Int) := by rw [subI (by omega) (by omega)]; omega
            rw [hd, iteE_t, e, idxE_n hy, iteP]
            split
            · exact .inl ⟨.inr true, rfl, .inl rfl⟩
            · rename_i h3
              exact .inr ⟨((i + 1 : Nat) : Int), rfl, ⟨i + 1, rfl, by omega, hgo (last_le hsx.right hy (by omega) (by omega))⟩, by omega⟩)
      (0 : Int) ⟨0, rfl, by omega, fun j hj => by omega⟩
    rw [ht, bndE_s]
    rcases hQ with rfl | ⟨rfl, hvar⟩
    · rfl
    · rw [sumE_l, prune_Agree_eq hro hb, bndE_s, law27_agree_eq hro hb, bndE_s]
      simp only [beq_self_eq_true, Bool.not_true, iteE_f]
      obtain ⟨A, hA, hA2⟩ := law27_all_ex hro
      rw [hA, bndE_s]
      cases A with
      | false => rfl
      | true =>
        simp only [Bool.not_true, iteE_f]
        have hrr : RightRows r := fun x hx => (hR.1 x hx).right
        have hk := prune_keeps r.length r hrr hR.2 (fun b hb => agr_all hrr hvar (hA2 rfl) b hb) b hright
        have hpo := hro.sub (pruneS_sub r.length r)
        rw [prune_All_eq hro, bndE_s, ref26_Copy_eq hro hb, bndE_s, ref26_Copy_eq hpo hb, bndE_s, hk.2]
        simp only [beq_self_eq_true, iteE_t]
        have hset : SetOk (copyL (greatS r b)).1 := by
          have hg := hro.great b
          cases hq : greatS r b with
          | nil => exact ⟨by simp [copyL], by simp [copyL]⟩
          | cons y ys => rw [hq] at hg; exact (hg.2 y (by simp)).2
        rw [ref18_Same_eq hset hset, bndE_s]
        simp only [decide_true, iteE_t]
        rw [prune_Agree_eq hpo hb, bndE_s, (agreeL_iff _).2 hk.1]
        rfl
end Go.Ac
