/- Own work: how calls of the model run over plain data. -/
import Derived.Test.YtbmojpadjglncaaGreatAc28
import Derived.Shelf.Spec.SlicesGrow
set_option linter.unusedVariables false
set_option linter.unusedSimpArgs false
namespace Go.Ac
open Go.Proofs Go.Shelf Go.RowKit Go.Lib
section
variable {P : Program} {ρ : Ren}
theorem AGrowN (L : Lays8.n4 P ρ) {i0 : TypeInfo} {z : Value} (T : RowT P (ρ.t 22) (ρ.t 25) i0 z) (hsz : 0 < i0.size) (n : Nat) (hbig : n * i0.bytes ≤ 140737488355328) (h63 : n ≤ 4611686018427387904) :
    ACall P (ρ.f 4) [.nil, .d (.v (.int .i64 n))] [] (.row 0) [(0, .rw (ρ.t 25) i0.size [])] := by
  intro h w val vs hI hA
  simp only [RAs, RA, RD] at hA
  obtain ⟨_, _, rfl, rfl, _, _, rfl, ⟨rfl, _⟩, rfl⟩ := hA
  rcases Nat.eq_zero_or_pos n with h0 | h0
  · subst h0
    refine (Any8.slices_Grow_room L none 0 0 0 w (Nat.le_refl _) (by decide) (by decide) (by decide)).mono ?_
    rintro e w' ⟨rfl, rfl⟩
    exact own_result (X := []) (v := .slice none 0 0) (us' := []) (by simp [names]) (by simp [Value.ownBlock]) (by simp [Value.ownBlock]) (World.ownsRow_nil _ _ _ _) (by simp [RRow]) (by simp [Value.ownBlock]) ⟨rfl, rfl, rfl, Nat.le_refl _, fun _ _ _ => rfl⟩
  · refine (Any8.slices_Grow_grow L i0 z T.hi T.hz hsz none 0 0 n [] w (Nat.le_refl _) (by omega) (by simpa using hbig) (by omega) (by simp) (fun _ => rfl) (fun a h => by cases h)).mono ?_
    rintro e w' ⟨rfl, rfl⟩
    have hG := grownCap_ge w (0 + n) 0 (ρ.t 25)
    have hG2 := grownCap_le_maxLen w (0 + n) 0 (ρ.t 25) (by unfold maxLen; omega)
    generalize grownCap w (0 + n) 0 (ρ.t 25) = G at hG hG2
    refine own_result (X := []) (v := .slice none 0 0) (us' := []) (by simp [names]) (by simp [Value.ownBlock]) (by simp [Value.ownBlock]) ⟨by simp, .inr ⟨w.heap.size, G, (#[] : Array Value) ++ Builtin.zeroCells z.cells (0 + n - 0) ++ Builtin.zeroCells z.cells (G - (0 + n)), rfl, Nat.zero_le _, ?_, Nat.zero_le _, hG2, ?_, by simp⟩⟩ (by simp [RRow]) ?_ ?_
    · have := World.alloc_heap_new w.drew (.cells ((#[] : Array Value) ++ Builtin.zeroCells z.cells (0 + n - 0) ++ Builtin.zeroCells z.cells (G - (0 + n))) (ρ.t 25))
      simpa using this
    · have e1 : ∀ m, (Builtin.zeroCells z.cells m).size = m * i0.size := fun m => by
        have := zeroCells_length z.cells m
        rw [T.hzs] at this
        simpa using this
      simp only [Array.size_append, e1, List.size_toArray, List.length_nil, Nat.zero_add]
      rw [← Nat.add_mul]
      congr 1
      omega
    · intro g hg
      simp only [Value.ownBlock, Option.some.injEq] at hg
      exact .inr (by omega)
    · refine ⟨rfl, rfl, rfl, by simp, fun b hb _ => ?_⟩
      exact heap_alloc_old w.drew _ (by simpa using hb)
end
theorem growL {P : Program} {ρ : Ren} (mixed : P.follows .mixedOrders = true) (FB : Bears P (ρ.f 4) (Body8.n4 ρ)) (t0 : P.underlying (ρ.t 0) = some (.tuple #[])) (t3 : P.underlying (ρ.t 3) = some (.int .i64)) (t4 : P.underlying (ρ.t 4) = some .bool)
    (t9 : P.underlying (ρ.t 9) = some .string) (t20 : P.underlying (ρ.t 20) = some (.interface #[])) (t22 : P.underlying (ρ.t 22) = some (.slice (ρ.t 25)))
    (z0 : (P.info? (ρ.t 0)).map (·.size) = some 1) (z3 : (P.info? (ρ.t 3)).map (·.size) = some 1) (z4 : (P.info? (ρ.t 4)).map (·.size) = some 1) (z9 : (P.info? (ρ.t 9)).map (·.size) = some 1) (z20 : (P.info? (ρ.t 20)).map (·.size) = some 1) (z22 : (P.info? (ρ.t 22)).map (·.size) = some 1)
    (v0 : (P.info? (ρ.t 0)).map (·.zero) = some (some (.tuple #[]))) (v3 : (P.info? (ρ.t 3)).map (·.zero) = some (some (.int .i64 0))) (v4 : (P.info? (ρ.t 4)).map (·.zero) = some (some (.bool false))) (v9 : (P.info? (ρ.t 9)).map (·.zero) = some (some (.string ⟨#[]⟩)))
    (v20 : (P.info? (ρ.t 20)).map (·.zero) = some (some .nilIface)) (v22 : (P.info? (ρ.t 22)).map (·.zero) = some (some (.slice none 0 0))) : Lays8.n4 P ρ :=
  ⟨mixed, FB, t0, fun w => run_isAgg (by simp [isAggT, t0]) w, sizeOf_of z0, zero_of v0, t3, fun w => run_isAgg (by simp [isAggT, t3]) w, sizeOf_of z3, zero_of v3, t4, fun w => run_isAgg (by simp [isAggT, t4]) w, sizeOf_of z4, zero_of v4,
    t9, fun w => run_isAgg (by simp [isAggT, t9]) w, sizeOf_of z9, zero_of v9, t20, fun w => run_isAgg (by simp [isAggT, t20]) w, sizeOf_of z20, zero_of v20, t22, fun w => run_isAgg (by simp [isAggT, t22]) w, sizeOf_of z22, zero_of v22⟩
def growE {α : Type} (by_ : Nat) (n : Int) : Option (List α) := if 0 ≤ n ∧ n * by_ ≤ 140737488355328 ∧ n ≤ 4611686018427387904 then some [] else none
theorem growE_ok {P : Program} {ρ : Ren} {e : TypeId} {k by_ fi : Nat} {α : Type} (f : α → D) (hfi : ρ.f 4 = fi) (he : ρ.t 25 = e) (L : Lays8.n4 P ρ)
    (hq : (P.info? (ρ.t 25)).map (fun i => (i.size, i.bytes, i.zero.map (·.cells.size), i.zero.map (fun z => z.cells.all (·.oneCell')))) = some (k, by_, some k, some true)) (hk0 : 0 < k)
    (n : Int) (r : List α) (h : growE by_ n = some r) : ACall P fi [.nil, .d (D.i .i64 n)] [] (.row 0) [(0, .rw e k (r.map f))] := by
  obtain ⟨i, z, T, rfl, rfl⟩ := rowT_of L.t22 hq
  unfold growE at h
  split at h
  · rename_i hc
    obtain rfl := Option.some.inj h
    subst hfi; subst he
    obtain ⟨m, rfl⟩ : ∃ m : Nat, n = (m : Int) := ⟨n.toNat, by omega⟩
    exact AGrowN L T hk0 m (by have := hc.2.1; rw [← Int.natCast_mul] at this; omega) (by have := hc.2.2; omega)
  · cases h
end Go.Ac
