/- Own work: how calls of the model run over plain data. -/
import Derived.Test.YtbmojpadjglncaaGreatAc22
import Derived.Shelf.SlLaysN
import Derived.Shelf.RegionOpenPlain
import Derived.WalkKit
import Derived.Deep.LoopGhost
import Derived.Deep.RegionLaw
import Derived.Lib.Walk
import Derived.Lib.SliceRun
import Derived.Sort.WalkB12
set_option linter.unusedVariables false
set_option linter.unusedSimpArgs false
namespace Go.Ac
open Go.Proofs Go.Shelf Go.RowKit Go.Lib Go.Sort

def rawAt (w : World) (b : Nat) (e : TypeId) (cur : List Value) : Prop := w.heap[b]? = some (.cells ⟨cur⟩ e (0, 0))
section
variable {w : World} {b : Nat} {e : TypeId} {cur : List Value}
theorem rawAt.cell (h : rawAt w b e cur) (j : Nat) : w.cell? ⟨b, j, none⟩ = cur[j]? := by
  rw [cell_of_row w b j ⟨cur⟩ e (0, 0) h]; simp
theorem rawAt.thawed (h : rawAt w b e cur) (j : Nat) : w.frozen? ⟨b, j, none⟩ = false := by
  unfold World.frozen?; rw [show w.heap[b]? = _ from h]; simp
theorem rawAt.shape (h : rawAt w b e cur) : w.shape? b = some (e, cur.length) := by
  unfold World.shape?; rw [show w.heap[b]? = _ from h]; simp
theorem rawAt.lt (h : rawAt w b e cur) : b < w.heap.size := (Array.getElem?_eq_some_iff.1 h).1
theorem rawAt.drew (h : rawAt w b e cur) : rawAt w.drew b e cur := h
theorem rawAt.set1 (h : rawAt w b e cur) (o : Nat) (v : Value) : rawAt (w.setCell ⟨b, o, none⟩ v) b e (cur.set o v) := by
  unfold rawAt at h ⊢
  simp [World.setCell, Array.getElem?_modify, h]
end
theorem rawAt.set {b : Nat} {e : TypeId} : ∀ (vs : List Value) {w : World} {cur : List Value} (o : Nat), rawAt w b e cur → o + vs.length ≤ cur.length →
    rawAt (w.setCells b o vs) b e (cur.take o ++ vs ++ cur.drop (o + vs.length))
  | [], w, cur, o, h, hl => by simpa [World.setCells] using h
  | v :: vs, w, cur, o, h, hl => by
    rw [World.setCells]
    have hl' : o + 1 + vs.length ≤ cur.length := by simpa [Nat.add_assoc, Nat.add_comm, Nat.add_left_comm] using hl
    have h1 := rawAt.set vs (o + 1) (h.set1 o v) (by simpa using hl')
    have e1 : (cur.set o v).take (o + 1) = cur.take o ++ [v] := by
      rw [List.take_set, List.take_succ_eq_append_getElem (by omega), List.set_append_right _ _ (by simp; omega)]
      simp [Nat.min_eq_left (show o ≤ cur.length by omega)]
    have e2 : (cur.set o v).drop (o + 1 + vs.length) = cur.drop (o + (v :: vs).length) := by
      rw [List.drop_set_of_lt (by omega)]
      congr 1
      simp; omega
    rw [e1, e2] at h1
    simpa using h1
theorem setCells_keeps (b : Nat) : ∀ (vs : List Value) (o : Nat) (w : World), (w.setCells b o vs).os = w.os ∧ (w.setCells b o vs).tape = w.tape ∧ (w.setCells b o vs).output = w.output ∧
    (w.setCells b o vs).heap.size = w.heap.size ∧ ∀ x, x ≠ b → (w.setCells b o vs).heap[x]? = w.heap[x]?
  | [], o, w => ⟨rfl, rfl, rfl, rfl, fun _ _ => rfl⟩
  | v :: vs, o, w => by
    rw [World.setCells]
    obtain ⟨a1, a2, a3, a4, a5⟩ := setCells_keeps b vs (o + 1) (w.setCell ⟨b, o, none⟩ v)
    refine ⟨a1, a2, a3, a4.trans (World.size_setCell _ _ _), fun x hx => (a5 x hx).trans ?_⟩
    simp [World.setCell, Array.getElem?_modify, Ne.symm hx]

theorem zeroCells_length (z : Array Value) (n : Nat) : (Builtin.zeroCells z n).toList.length = n * z.size := by simp [Builtin.zeroCells]
structure RowT (P : Program) (t e : TypeId) (i : TypeInfo) (z : Value) : Prop where
  ht : P.underlying t = some (.slice e)
  hi : P.info? e = some i
  hz : i.zero = some z
  hzs : z.cells.size = i.size
  h1 : ∀ v ∈ z.cells, v.oneCell' = true

section
variable {P : Program} {ρ : Ren}
end
end Go.Ac
