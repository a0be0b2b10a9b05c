/-
  The statement itself, joined of its parts; it holds for every input, as the given row says, with no further condition.
-/
import Derived.Test.YtclhiklmoenkeaaK1P6
import Derived.Test.YtclhiklmoenkeaaK1Wa2
import Derived.Test.YtclhiklmoenkeaaAc23
import Derived.Test.YtclhiklmoenkeaaRows
set_option linter.unusedVariables false
set_option linter.unusedSimpArgs false
namespace Go.Ac
open Go.Proofs
theorem i64_wf {n : Int} (h : (Lit.int .i64 n).wf = true) : I64 n := by simpa [Lit.wf, IntKind.min, IntKind.max, IntKind.signed, IntKind.bits, I64] using h
theorem law04_KeyCuts_plain {a0 : List UInt8} (_ : a0.length ≤ 9223372036854775807 ∧ ∀ x ∈ a0, (fun _ => True) x) : law04_KeyCuts a0 = some true := law04_KeyCuts_true a0
open Go.ChangeShapes Go.WideShapes Go.ChangeAt Go.RowKit
theorem law04_KeyCuts_own : ownKnob Try.prog.godebug = none := by kernel_rfl
set_option maxRecDepth 100000 in
theorem law04_KeyCuts_contract {H : Type} {enc : TypeId × Value → H} (W : World) (base : Nat) (args : Array Value) (ds gs : List (DataW H)) (before : List MemPlace)
    (hval : ∀ (j : Nat) t v, Try.f4.params[j]? = some t → args[j]? = some v → Value.okWide Try.prog W .any base t v)
    (hW : DataW.Whole enc Try.prog Try.f4.params.toList Go.Proofs.Ytclhiklmoenkeaa.Rows.keyCutsSpec.vars false W args.toList ds gs before) :
    Calls Try.prog 4 args W fun e W' => ∃ v, e = .returned v ∧ Go.Proofs.Ytclhiklmoenkeaa.Rows.keyCutsSpec.post enc Try.prog Try.f4 false true false false W args v W' := by
  refine law_contract (tb := 4) (by kernel_rfl) (by kernel_rfl) (by kernel_rfl) Try.underlying4 (by rfl) ?_ hW ?_
  · intro ds hd
    rw [Try.params4] at hd
    match ds, hd with
    | [d0], _ => rfl
  · obtain ⟨p, q, hA, _, _, _, _⟩ := hW
    rw [Try.params4] at hA hval
    have hA2 : DataW.TrodAll enc Try.prog W 0 (fun _ => true) true [25] args.toList ds p := hA
    obtain ⟨v0, vs0, d0, ds0, p0, q0, hargs0, rfl, rfl, h0, r0⟩ := trodAll_cons hA2
    obtain ⟨rfl, rfl, rfl⟩ := trodAll_nil r0
    obtain rfl : args = #[v0] := by cases args; simp_all
    obtain ⟨a0, ra0, wa0⟩ := arg_reads (reads_slice Try.underlying25 (by kernel_rfl) (reads_byte Try.underlying5)) h0 (fun a c => by intro h; cases h) (hval 0 25 v0 rfl rfl) (by kernel_rfl)
    refine ⟨[.d ((D.l dbyte) a0)], ?_, law04_KeyCuts_ok a0 true (law04_KeyCuts_plain wa0)⟩
    simp only [RAs, RA]
    exact ⟨v0, _, rfl, ra0, rfl⟩
set_option maxRecDepth 100000 in
theorem law04_KeyCuts_lifted (os : Os) (started : os.Started) (H : Type) (enc : TypeId × Value → H) :
    ReturnsInHanded {} Try.checked os 4 .any (Go.Proofs.Ytclhiklmoenkeaa.Rows.keyCutsSpec.pre6 enc Try.prog Try.f4 Go.Proofs.Ytclhiklmoenkeaa.Rows.keyCutsRow.domain false) (Go.Proofs.Ytclhiklmoenkeaa.Rows.keyCutsSpec.post enc Try.prog Try.f4 false true false false) := by
  refine returnsInHanded_of_change (C := Try.checked) law04_KeyCuts_own started (by kernel_rfl) Try.func4
    (ChangeSpec.witness6 (enc := enc) (C := Try.checked) false ⟨#[], #[.slice none 0 0], []⟩ 8 (by kernel_rfl) (by kernel_rfl) (by kernel_rfl) (by kernel_rfl)) ?_
  intro W base args ds gs before hval hW _ _
  exact law04_KeyCuts_contract W base args ds gs before hval hW
end Go.Ac
namespace Go.Proofs.Ytclhiklmoenkeaa
open Go.Ac
theorem KeyCutsSaid_holds : Rows.KeyCutsSaid :=
  OpenClaim.holds_of_wide 4 Try.f4 rfl rfl rfl rfl rfl rfl rfl ⟨rfl, rfl, rfl, rfl, rfl⟩ rfl rfl rfl rfl rfl (by kernel_rfl) Try.func4 (by kernel_rfl)
    (of_decide_eq_true (by kernel_rfl)) (by unfold Func.isWrapper; first | (rw [if_pos (by decide +kernel)]; kernel_rfl) | (rw [if_neg (by decide +kernel)]; exact ⟨rfl, rfl⟩))
    (fun os started H enc _ => law04_KeyCuts_lifted os started H enc)
end Go.Proofs.Ytclhiklmoenkeaa
