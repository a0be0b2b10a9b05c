/-
  Part of a proof: how calls of the model run over plain data (own work; no conditions).
-/
import Derived.Test.YtgmjbigfneeekaaAc22
import Derived.Shelf.SlLaysN
import Derived.Shelf.RegionOpenPlain
import Derived.WalkKit
import Derived.Deep.LoopGhost
import Derived.Deep.RegionLaw
import Derived.Lib.Walk
import Derived.Lib.SliceRun
import Derived.Sort.WalkB12
set_option linter.unusedVariables false
set_option linter.unusedSimpArgs false
/-! A row's block as a list of cells; slices.Delete at elements of whatever size. -/
namespace Go.Ac
open Go.Proofs Go.Shelf Go.RowKit Go.Lib Go.Sort

def rawAt (w : World) (b : Nat) (e : TypeId) (cur : List Value) : Prop := w.heap[b]? = some (.cells ⟨cur⟩ e (0, 0))
section
variable {w : World} {b : Nat} {e : TypeId} {cur : List Value}
theorem rawAt.cell (h : rawAt w b e cur) (j : Nat) : w.cell? ⟨b, j, none⟩ = cur[j]? := by
  rw [cell_of_row w b j ⟨cur⟩ e (0, 0) h]; simp
theorem rawAt.thawed (h : rawAt w b e cur) (j : Nat) : w.frozen? ⟨b, j, none⟩ = false := by
  unfold World.frozen?; rw [show w.heap[b]? = _ from h]; simp
theorem rawAt.shape (h : rawAt w b e cur) : w.shape? b = some (e, cur.length) := by
  unfold World.shape?; rw [show w.heap[b]? = _ from h]; simp
theorem rawAt.lt (h : rawAt w b e cur) : b < w.heap.size := (Array.getElem?_eq_some_iff.1 h).1
theorem rawAt.drew (h : rawAt w b e cur) : rawAt w.drew b e cur := h
theorem rawAt.set1 (h : rawAt w b e cur) (o : Nat) (v : Value) : rawAt (w.setCell ⟨b, o, none⟩ v) b e (cur.set o v) := by
  unfold rawAt at h ⊢
  simp [World.setCell, Array.getElem?_modify, h]
end
theorem rawAt.set {b : Nat} {e : TypeId} : ∀ (vs : List Value) {w : World} {cur : List Value} (o : Nat), rawAt w b e cur → o + vs.length ≤ cur.length →
    rawAt (w.setCells b o vs) b e (cur.take o ++ vs ++ cur.drop (o + vs.length))
  | [], w, cur, o, h, hl => by simpa [World.setCells] using h
  | v :: vs, w, cur, o, h, hl => by
    rw [World.setCells]
    have hl' : o + 1 + vs.length ≤ cur.length := by simpa [Nat.add_assoc, Nat.add_comm, Nat.add_left_comm] using hl
    have h1 := rawAt.set vs (o + 1) (h.set1 o v) (by simpa using hl')
    have e1 : (cur.set o v).take (o + 1) = cur.take o ++ [v] := by
      rw [List.take_set, List.take_succ_eq_append_getElem (by omega), List.set_append_right _ _ (by simp; omega)]
      simp [Nat.min_eq_left (show o ≤ cur.length by omega)]
    have e2 : (cur.set o v).drop (o + 1 + vs.length) = cur.drop (o + (v :: vs).length) := by
      rw [List.drop_set_of_lt (by omega)]
      congr 1
      simp; omega
    rw [e1, e2] at h1
    simpa using h1
theorem setCells_keeps (b : Nat) : ∀ (vs : List Value) (o : Nat) (w : World), (w.setCells b o vs).os = w.os ∧ (w.setCells b o vs).tape = w.tape ∧ (w.setCells b o vs).output = w.output ∧
    (w.setCells b o vs).heap.size = w.heap.size ∧ ∀ x, x ≠ b → (w.setCells b o vs).heap[x]? = w.heap[x]?
  | [], o, w => ⟨rfl, rfl, rfl, rfl, fun _ _ => rfl⟩
  | v :: vs, o, w => by
    rw [World.setCells]
    obtain ⟨a1, a2, a3, a4, a5⟩ := setCells_keeps b vs (o + 1) (w.setCell ⟨b, o, none⟩ v)
    refine ⟨a1, a2, a3, a4.trans (World.size_setCell _ _ _), fun x hx => (a5 x hx).trans ?_⟩
    simp [World.setCell, Array.getElem?_modify, Ne.symm hx]

theorem zeroCells_length (z : Array Value) (n : Nat) : (Builtin.zeroCells z n).toList.length = n * z.size := by simp [Builtin.zeroCells]
theorem zeroCells_one {z : Array Value} (h : ∀ v ∈ z, v.oneCell' = true) (n : Nat) : ∀ v ∈ (Builtin.zeroCells z n).toList, v.oneCell' = true := by
  intro v hv
  simp only [Builtin.zeroCells, Array.toList_map, List.mem_map] at hv
  obtain ⟨i, hi, rfl⟩ := hv
  have hi' : i < n * z.size := by simpa using hi
  have h0 : 0 < z.size := by
    rcases Nat.eq_zero_or_pos z.size with h | h
    · rw [h, Nat.mul_zero] at hi'; exact absurd hi' (Nat.not_lt_zero _)
    · exact h
  have h1 : i % z.size < z.size := Nat.mod_lt _ h0
  rw [getElem!_pos z _ h1]
  exact h _ (by simp)

theorem run_clear_row {P : Program} (w : World) (t e ty : TypeId) (z : Value) (ht : P.underlying t = some (.slice e)) (hv : ∀ w, (zeroValue e).run P w = .ok z w) (h1 : ∀ v ∈ z.cells, v.oneCell' = true) (b o n c : Nat) (hn : 0 < n)
    (hc : ∀ j, j < n * z.cells.size → (w.cell? ⟨b, o + j, none⟩).isSome = true) (hf : ∀ j, j < n * z.cells.size → w.frozen? ⟨b, o + j, none⟩ = false) :
    (Builtin.clear_ #[t] ty #[.slice (some ⟨b, o, none⟩) n c]).run P w = .ok (.tuple #[]) (w.setCells b o (Builtin.zeroCells z.cells n).toList) := by
  have hst := run_storeCells_cells (P := P) b o (Builtin.zeroCells z.cells n).toList 0 w (by rw [zeroCells_length]; exact hc) (by rw [zeroCells_length]; exact hf) (zeroCells_one h1 n)
  simp only [Nat.add_zero] at hst
  obtain ⟨m, rfl⟩ : ∃ m, n = m + 1 := ⟨n - 1, by omega⟩
  simp [Builtin.clear_, run_underlying ht, hv, hst]

/-- what is known of a row's types -/
structure RowT (P : Program) (t e : TypeId) (i : TypeInfo) (z : Value) : Prop where
  ht : P.underlying t = some (.slice e)
  hi : P.info? e = some i
  hz : i.zero = some z
  hzs : z.cells.size = i.size
  h1 : ∀ v ∈ z.cells, v.oneCell' = true

section
variable {P : Program} {ρ : Ren}
set_option maxHeartbeats 4000000 in
set_option maxRecDepth 1000000 in
theorem del_same {e : TypeId} {i0 : TypeInfo} {z : Value} (mixed : P.follows .mixedOrders = true) (FB : Bears P (ρ.f 45) (SlBodyN.n45 ρ)) (t0 : P.underlying (ρ.t 0) = some (.tuple #[]))
    (t3 : P.underlying (ρ.t 3) = some (.int .i64)) (t4 : P.underlying (ρ.t 4) = some .bool) (T : RowT P (ρ.t 22) e i0 z) (w : World) (ad : Option Addr) (n cap i : Nat) (hi : i ≤ n) (hn : n ≤ cap) (hc : cap ≤ maxLen) (hp : ∀ a, ad = some a → a.spot = none) (hne : ad = none → n = 0 ∧ cap = 0) :
    Calls P (ρ.f 45) #[.slice ad n cap, .int .i64 i, .int .i64 i] w fun e w' => e = .returned (.slice ad n cap) ∧ w' = w := by
  have t22 := T.ht
  have z23 := run_size' (P := P) (t := e) (by rw [T.hi]; rfl)
  have a22 : ∀ w, (isAgg (ρ.t 22)).run P w = .ok false w := fun w => run_isAgg (by simp [isAggT, t22]) w
  have a3 : ∀ w, (isAgg (ρ.t 3)).run P w = .ok false w := fun w => run_isAgg (by simp [isAggT, t3]) w
  have a4 : ∀ w, (isAgg (ρ.t 4)).run P w = .ok false w := fun w => run_isAgg (by simp [isAggT, t4]) w
  obtain ⟨_, _, FG⟩ := FB
  go_enter FG, SlBodyN.n45_ntmps ρ
  go_wp2
  all_goals (go_ret; exact ⟨rfl, rfl⟩)

set_option maxHeartbeats 4000000 in
set_option maxRecDepth 1000000 in
theorem del_walk {e : TypeId} {i0 : TypeInfo} {z : Value} (mixed : P.follows .mixedOrders = true) (FB : Bears P (ρ.f 45) (SlBodyN.n45 ρ)) (t0 : P.underlying (ρ.t 0) = some (.tuple #[]))
    (t3 : P.underlying (ρ.t 3) = some (.int .i64)) (t4 : P.underlying (ρ.t 4) = some .bool) (T : RowT P (ρ.t 22) e i0 z) (w : World) (blk n cap i j : Nat) (cur : List Value)
    (hr : rawAt w blk e cur) (hone : ∀ u ∈ cur.take (n * i0.size), u.oneCell' = true) (hcur : cur.length = cap * i0.size) (hij : i < j) (hj : j ≤ n) (hn : n ≤ cap) (hc : cap ≤ 9223372036854775807) :
    Calls P (ρ.f 45) #[.slice (some ⟨blk, 0, none⟩) n cap, .int .i64 i, .int .i64 j] w fun ex w' => ex = .returned (.slice (some ⟨blk, 0, none⟩) (n - (j - i)) cap) ∧
      w' = (w.drew.setCells blk (i * i0.size) ((cur.take (n * i0.size)).drop (j * i0.size))).setCells blk ((i + (n - j)) * i0.size) (Builtin.zeroCells z.cells (n - (i + (n - j)))).toList := by
  have t22 := T.ht
  obtain ⟨k, hk⟩ : ∃ k, k = i0.size := ⟨_, rfl⟩
  rw [← hk] at hcur hone ⊢
  have hzk : z.cells.size = k := by rw [hk]; exact T.hzs
  have z23 : ∀ w, (Go.sizeOf e).run P w = .ok k w := fun w => by simp [sizeOf, typeInfo, T.hi, hk]
  have v23 : ∀ w, (zeroValue e).run P w = .ok z w := fun w => by simp [zeroValue, typeInfo, T.hi, T.hz]
  have a22 : ∀ w, (isAgg (ρ.t 22)).run P w = .ok false w := fun w => run_isAgg (by simp [isAggT, t22]) w
  have a3 : ∀ w, (isAgg (ρ.t 3)).run P w = .ok false w := fun w => run_isAgg (by simp [isAggT, t3]) w
  have a4 : ∀ w, (isAgg (ρ.t 4)).run P w = .ok false w := fun w => run_isAgg (by simp [isAggT, t4]) w
  obtain ⟨news, hnews⟩ : ∃ news, news = (cur.take (n * k)).drop (j * k) := ⟨_, rfl⟩
  rw [← hnews]
  have hnk : n * k ≤ cap * k := Nat.mul_le_mul_right k hn
  have hlen : news.length = (n - j) * k := by rw [hnews, List.length_drop, List.length_take, Nat.min_eq_left (by omega), Nat.sub_mul]
  have hget : ∀ t u, news[t]? = some u → w.cell? ⟨blk, j * k + t, none⟩ = some u := by
    intro t u hu
    rw [hr.cell]
    rw [hnews, List.getElem?_drop, List.getElem?_take] at hu
    split at hu
    · exact hu
    · cases hu
  obtain ⟨A, hA, hsrc⟩ : ∃ A : Addr, (if cap = j then some (⟨blk, 0, none⟩ : Addr) else some ⟨blk, j * k, none⟩) = some A ∧ Hid (∀ t u, news[t]? = some u → w.drew.cell? (A.add t) = some u) := by
    by_cases h : cap = j
    · refine ⟨⟨blk, 0, none⟩, by simp [h], fun t u hu => ?_⟩
      have h0 : news.length = 0 := by rw [hlen, show n - j = 0 by omega, Nat.zero_mul]
      rw [List.length_eq_zero_iff.1 h0] at hu
      simp at hu
    · refine ⟨⟨blk, j * k, none⟩, by simp [h], fun t u hu => ?_⟩
      rw [Addr.add_lit]
      exact hget t u hu
  have s1 : Hid (news.length = (n - j) * k) := hlen
  have s2 : Hid (∀ u ∈ news, u.oneCell' = true) := by
    intro u hu
    rw [hnews] at hu
    exact hone u (List.mem_of_mem_drop hu)
  have hik : i * k + (n - j) * k ≤ n * k := by rw [← Nat.add_mul]; exact Nat.mul_le_mul_right k (by omega)
  have s3 : Hid (∀ t, t < news.length → (w.drew.cell? ⟨blk, 0 + i * k + t, none⟩).isSome = true ∧ w.drew.frozen? ⟨blk, 0 + i * k + t, none⟩ = false) := by
    intro t ht
    rw [hlen] at ht
    rw [Nat.zero_add]
    refine ⟨?_, hr.drew.thawed _⟩
    rw [hr.drew.cell, List.getElem?_eq_getElem (by omega)]
    rfl
  obtain ⟨W1, hW1⟩ : ∃ W1, W1 = w.drew.setCells blk (i * k) news := ⟨_, rfl⟩
  have hR1 : ∃ cur1, rawAt W1 blk e cur1 ∧ cur1.length = cap * k := by
    refine ⟨_, by rw [hW1]; exact rawAt.set news (i * k) hr.drew (by omega), ?_⟩
    simp only [List.length_append, List.length_take, List.length_drop]
    omega
  obtain ⟨cur1, hR1, hc1⟩ := hR1
  have hcl : ∀ ty, (Builtin.clear_ #[ρ.t 22] ty #[.slice (some ⟨blk, (i + (n - j)) * k, none⟩) (n - (i + (n - j))) (cap - (i + (n - j)))]).run P W1 = .ok (.tuple #[]) (W1.setCells blk ((i + (n - j)) * k) (Builtin.zeroCells z.cells (n - (i + (n - j)))).toList) := by
    intro ty
    refine run_clear_row W1 _ e ty z t22 v23 T.h1 blk _ _ _ (by omega) (fun t ht => ?_) (fun t ht => hR1.thawed _)
    rw [hR1.cell, List.getElem?_eq_getElem]
    · rfl
    · rw [hzk, ] at ht
      have : (i + (n - j)) * k + (n - (i + (n - j))) * k = n * k := by rw [← Nat.add_mul]; congr 1; omega
      omega
  have hW : Hid (W1 = w.drew.setCells blk (0 + i * k) news) := by rw [Nat.zero_add]; exact hW1
  have X : Aside (W1 = w.drew.setCells blk (i * k) news) := hW1
  have hic : i ≤ cap := by omega
  have hjc : j ≤ cap := by omega
  have hTi := T.hi
  obtain ⟨Z, hZ⟩ : ∃ Z, Z = (Builtin.zeroCells z.cells (n - (i + (n - j)))).toList := ⟨_, rfl⟩
  rw [← hZ] at hcl ⊢
  have hkA : Hid (i0.size = k) := hk.symm
  clear hW1 hR1 hc1 hget hnews hlen hr hone hcur hnk hik T hk hZ hzk v23
  obtain ⟨_, _, FG⟩ := FB
  go_enter FG, SlBodyN.n45_ntmps ρ
  go_wp2_with fail
  go_region_law_o (refine step_append_room rfl (.tmp 22) (.tmp 25) (ρ.t 22) rfl e i0 k t22 hTi hkA.out blk 0 i cap (by simp [Act.eval, Act.put]) A (n - j) (cap - j) news (by simp [Act.eval, Act.put]) s1.out hsrc.out s2.out (by omega) s3.out ?_; rw [← hW.out])
  go_wp2
  go_ret
  refine ⟨by rw [show n - (j - i) = i + (n - j) by omega]; rfl, ?_⟩
  rw [← X.out]
end
end Go.Ac
