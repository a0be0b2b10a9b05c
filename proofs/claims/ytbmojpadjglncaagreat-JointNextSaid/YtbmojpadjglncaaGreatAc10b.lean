/- Own work: how calls of the model run over plain data. -/
import Derived.Test.YtbmojpadjglncaaGreatAc10d
import Derived.Laws.MakeOwn
import Derived.Laws.CopyRow
set_option linter.unusedVariables false
set_option linter.unusedSimpArgs false
namespace Go.Ac

theorem RRow.set {h : Hw} {w : World} {k : Nat} {y : D} {v : Value} (hy : RD h w y v) (hs : v.cells.size = k) (hn : y.nc = k) (h1 : ∀ c ∈ v.cells.toList, c.oneCell' = true) :
    ∀ {xs : List D} {us : List Value} {i : Nat}, RRow h w k xs us → i < xs.length → RRow h w k (xs.set i y) (us.take (i * k) ++ v.cells.toList ++ us.drop (i * k + k))
  | [], us, i, _, hi => by simp at hi
  | x :: xs, us, i, hr, hi => by
    simp only [RRow] at hr
    obtain ⟨u, us', rfl, a1, a2, a3, a4, a5⟩ := hr
    have hl : u.cells.toList.length = k := by simpa using a1
    cases i with
    | zero =>
      simp only [List.set_cons_zero, RRow, Nat.zero_mul, List.take_zero, List.nil_append, Nat.zero_add]
      refine ⟨v, us', ?_, hs, hn, hy, h1, a5⟩
      rw [← hl, List.drop_left]
    | succ i =>
      have ih := RRow.set hy hs hn h1 (i := i) a5 (by simpa using hi)
      simp only [List.set_cons_succ, RRow]
      refine ⟨u, _, ?_, a1, a2, a3, a4, ih⟩
      have e1 : (u.cells.toList ++ us').take ((i + 1) * k) = u.cells.toList ++ us'.take (i * k) := by
        rw [List.take_append, List.take_of_length_le (by rw [hl, Nat.add_mul]; omega)]
        congr 2
        rw [hl, Nat.add_mul]; omega
      have e2 : (u.cells.toList ++ us').drop ((i + 1) * k + k) = us'.drop (i * k + k) := by
        rw [List.drop_append, List.drop_eq_nil_of_le (by rw [hl, Nat.add_mul]; omega), List.nil_append]
        congr 1
        rw [hl, Nat.add_mul]; omega
      rw [e1, e2]
      simp only [List.append_assoc]

theorem buf_set {s : St} {h : Hw} {w : World} {val : Val} {a : Act} (H : Holds s h w val a) {n : Nat} {sl : Bool} {e : TypeId} {k : Nat} {xs ys : List D} {g : Nat} {us us' : List Value}
    (hl : lk s.B n = some (.buf sl e k xs)) (hv : val n = (if sl then .slice (some ⟨g, 0, none⟩) xs.length xs.length else .pointer (some ⟨g, 0, none⟩))) (hm : xs.length ≤ maxLen)
    (hg : w.heap[g]? = some (.cells ⟨us⟩ e (0, 0))) (h0 : h g = 0) (hlen : ys.length = xs.length) (hr : RRow h w k ys us') :
    Holds { s with B := updB s.B n (.buf sl e k ys) } h (w.setRow g us'.toArray) val a ∧ Nx s h w val { s with B := updB s.B n (.buf sl e k ys) } h (w.setRow g us'.toArray) val := by
  have hmem : (n, Bk.buf sl e k xs) ∈ s.all := List.mem_append_left _ (lk_mem hl)
  have hvb : vblk (val n) = some g := by rw [hv]; cases sl <;> rfl
  have hgM : g ∈ blks val s.all := Inv.blk_mem hmem (blkOf_of hvb rfl)
  have hk : Keep (blks val s.all) h w h (w.setRow g us'.toArray) := setRow_keep hg h0 hgM
  have hsame : ∀ b', (n, b') ∈ s.B → b'.isOld = (Bk.buf sl e k ys).isOld := fun b' hb' => by
    have := nodup_names H.inv.nms (List.mem_append_left _ hb') hmem
    rw [this]; rfl
  refine ⟨⟨RAs.stays hk.stays _ _ _ H.e, ⟨?_, ?_, ?_⟩, H.far, H.defs.keep H.inv hk (fun b hb => hb) rfl⟩, ⟨hk, fun _ _ => rfl, fun b hb => .inl ?_⟩⟩
  · intro p hp
    rcases List.mem_append.1 hp with hp | hp
    · rcases updB_mem hp with rfl | ⟨hp, hne⟩
      · refine ⟨g, us', by rw [hlen]; exact hv, by rw [hlen]; exact hm, setRow_heap w g _ _ e _ hg, RRow.stays hk.stays _ _ _ hr, h0⟩
      · refine RB.stays hk.stays (fun b hb => ⟨setRow_other w g b _ fun e => ?_, rfl⟩) (H.inv.rep p (List.mem_append_left _ hp))
        subst e
        have := blk_inj H.inv.bks (List.mem_append_left _ hp) hmem hb (blkOf_of hvb rfl)
        rw [this] at hne
        exact hne rfl
    · refine RB.stays hk.stays (fun b hb => ⟨setRow_other w g b _ fun e => ?_, rfl⟩) (H.inv.rep p (List.mem_append_right _ hp))
      subst e
      have e4 := blk_inj H.inv.bks (List.mem_append_right _ hp) hmem hb (blkOf_of hvb rfl)
      have hnd := H.inv.nms
      simp only [St.all, names_append] at hnd
      have m1 : n ∈ names s.B := by simp only [names, List.mem_map]; exact ⟨_, lk_mem hl, rfl⟩
      have m2 : n ∈ names s.F := by simp only [names, List.mem_map]; exact ⟨p, hp, by rw [e4]⟩
      exact (List.nodup_append.1 hnd).2.2 n m1 n m2 rfl
  · have := H.inv.nms
    simpa only [St.all, names_append, updB_names] using this
  · have := H.inv.bks
    simpa only [St.all, blks_append, updB_blks hsame] using this
  · simpa only [St.all, blks_append, updB_blks hsame] using hb

theorem buf_frz {s : St} {h : Hw} {w : World} {val : Val} {a : Act} (H : Holds s h w val a) {n : Nat} {e : TypeId} {k : Nat} {xs : List D} (hl : lk s.B n = some (.buf true e k xs)) :
    ∃ h', Holds { s with B := updB s.B n (.row e k xs) } h' w val a ∧ Nx s h w val { s with B := updB s.B n (.row e k xs) } h' w val := by
  have hmem : (n, Bk.buf true e k xs) ∈ s.all := List.mem_append_left _ (lk_mem hl)
  obtain ⟨g, us, hv, hm, hg, hrow, h0⟩ := H.inv.rep _ hmem
  simp only [if_true] at hv
  have hvb : vblk (val n) = some g := by rw [hv]; rfl
  have hgM : g ∈ blks val s.all := Inv.blk_mem hmem (blkOf_of hvb rfl)
  have hlen := RRow.length hrow
  have hk : Keep (blks val s.all) h w (setH h g (xs.length * k)) w := by
    refine ⟨rfl, rfl, rfl, Nat.le_refl _, fun _ _ _ _ hc => hc, fun b _ => ?_, fun b _ hn => ⟨rfl, ?_⟩⟩
    · simp only [setH]; split
      · rename_i e; subst e; omega
      · exact Nat.le_refl _
    · have hne : b ≠ g := fun hh => hn (hh ▸ hgM)
      simp only [setH, hne, if_false]
  have hsame : ∀ b', (n, b') ∈ s.B → b'.isOld = (Bk.row e k xs).isOld := fun b' hb' => by
    have := nodup_names H.inv.nms (List.mem_append_left _ hb') hmem
    rw [this]; rfl
  refine ⟨setH h g (xs.length * k), ⟨RAs.stays hk.stays _ _ _ H.e, ⟨?_, ?_, ?_⟩, H.far, H.defs⟩, ⟨hk, fun _ _ => rfl, fun b hb => .inl ?_⟩⟩
  · intro p hp
    rcases List.mem_append.1 hp with hp | hp
    · rcases updB_mem hp with rfl | ⟨hp, hne⟩
      · refine ⟨us, ⟨hlen, .inr ⟨g, xs.length, ⟨us⟩, hv, Nat.zero_le _, hg, Nat.le_refl _, hm, by simpa using hlen, ?_⟩⟩, RRow.stays hk.stays _ _ _ hrow, fun g' hg' => ?_⟩
        · rw [← hlen]; simp
        · simp only [hv, Value.ownBlock, Option.some.injEq] at hg'
          subst hg'
          simp [setH]
      · refine RB.stays hk.stays (fun b hb => ⟨rfl, ?_⟩) (H.inv.rep p (List.mem_append_left _ hp))
        have hbg : b ≠ g := fun hh => by
          subst hh
          have := blk_inj H.inv.bks (List.mem_append_left _ hp) hmem hb (blkOf_of hvb rfl)
          rw [this] at hne
          exact hne rfl
        simp only [setH, hbg, if_false]
    · refine RB.stays hk.stays (fun b hb => ⟨rfl, ?_⟩) (H.inv.rep p (List.mem_append_right _ hp))
      have hbg : b ≠ g := fun hh => by
        subst hh
        have e4 := blk_inj H.inv.bks (List.mem_append_right _ hp) hmem hb (blkOf_of hvb rfl)
        have hnd := H.inv.nms
        simp only [St.all, names_append] at hnd
        have m1 : n ∈ names s.B := by simp only [names, List.mem_map]; exact ⟨_, lk_mem hl, rfl⟩
        have m2 : n ∈ names s.F := by simp only [names, List.mem_map]; exact ⟨p, hp, by rw [e4]⟩
        exact (List.nodup_append.1 hnd).2.2 n m1 n m2 rfl
      simp only [setH, hbg, if_false]
  · have := H.inv.nms
    simpa only [St.all, names_append, updB_names] using this
  · have := H.inv.bks
    simpa only [St.all, blks_append, updB_blks hsame] using this
  · simpa only [St.all, blks_append, updB_blks hsame] using hb

def zeroD : Value → D
  | .agg cs => .agg (cs.toList.map cstCell)
  | x => cstCell x
theorem RD_zeroD {h w} {z : Value} (h1 : ∀ x ∈ z.cells.toList, x.oneCell' = true) : RD h w (zeroD z) z := by
  unfold zeroD
  split
  · rename_i cs
    simp only [RD]
    exact ⟨cs.toList, rfl, RDs_cst cs.toList h1⟩
  · rename_i x hx
    refine RD_cstCell h w _ (h1 _ ?_)
    cases z <;> first | exact absurd rfl (hx _) | simp [Value.cells]
theorem RRow_one {h w} : ∀ (l : List Value), (∀ x ∈ l, x.oneCell' = true) → RRow h w 1 (l.map cstCell) l
  | [], _ => by simp [RRow]
  | x :: l, hl => by
    have h1 := hl x (by simp)
    have hc : x.cells = #[x] := by cases x <;> first | rfl | (simp [Value.oneCell'] at h1)
    simp only [List.map_cons, RRow]
    refine ⟨x, l, by simp [hc], by simp [hc], ?_, RD_cstCell h w x h1, by simpa [hc] using h1, RRow_one l fun y hy => hl y (by simp [hy])⟩
    unfold cstCell
    split <;> rfl
theorem madeCells_succ (z : Array Value) (n : Nat) (hz : 0 < z.size) : (madeCells z ((n + 1) * z.size)).toList = (madeCells z (n * z.size)).toList ++ z.toList := by
  unfold madeCells
  simp only [Array.toList_map, Array.toList_range]
  rw [Nat.add_mul, Nat.one_mul, List.range_add, List.map_append]
  congr 1
  apply List.ext_getElem?
  intro i
  simp only [List.map_map, List.getElem?_map, List.getElem?_range, Function.comp_apply]
  by_cases hi : i < z.size
  · rw [List.getElem?_range hi]
    simp [Nat.add_mod, Nat.mod_eq_of_lt hi, hi]
  · rw [List.getElem?_eq_none (by simpa using hi), List.getElem?_eq_none (by simpa using hi)]
    rfl
theorem RRow_made {h w} {z : Value} (h1 : ∀ x ∈ z.cells.toList, x.oneCell' = true) (hz : 0 < z.cells.size) (hn : (zeroD z).nc = z.cells.size) : ∀ n : Nat, RRow h w z.cells.size (List.replicate n (zeroD z)) (madeCells z.cells (n * z.cells.size)).toList
  | 0 => by simp [RRow, madeCells]
  | n + 1 => by
    rw [madeCells_succ _ _ hz, List.replicate_succ']
    refine RRow.append (RRow_made h1 hz hn n) ?_
    simp only [RRow]
    exact ⟨z, [], by simp, rfl, hn, RD_zeroD h1, h1, rfl⟩
end Go.Ac
