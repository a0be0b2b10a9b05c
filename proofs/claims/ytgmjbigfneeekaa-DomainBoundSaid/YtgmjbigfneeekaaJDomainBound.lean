/-
  The statement itself, joined of its parts; it holds for every input, as the given row says, with no further condition.
-/
import Derived.Test.YtgmjbigfneeekaaP20
import Derived.Test.YtgmjbigfneeekaaWa20x1
import Derived.Test.YtgmjbigfneeekaaAc23
import Derived.Test.YtgmjbigfneeekaaRows
set_option linter.unusedVariables false
set_option linter.unusedSimpArgs false
set_option linter.unusedVariables false
set_option linter.unusedSimpArgs false
namespace Go.Ac
open Go.Proofs
theorem i64_wf {n : Int} (h : (Lit.int .i64 n).wf = true) : -9223372036854775808 ≤ n ∧ n ≤ 9223372036854775807 := by simpa [Lit.wf, IntKind.min, IntKind.max, IntKind.signed, IntKind.bits] using h
theorem law20_DomainBound_plain {a0 a1 : Int} (_ : (Lit.int .i64 a0).wf = true) (_ : (Lit.int .i64 a1).wf = true) : law20_DomainBound a0 a1 = some true := law20_DomainBound_eq a0 a1
open Go.ChangeShapes Go.WideShapes Go.ChangeAt Go.RowKit
theorem law20_DomainBound_own : ownKnob Try.prog.godebug = none := by kernel_rfl
set_option maxRecDepth 100000 in
theorem law20_DomainBound_contract {H : Type} {enc : TypeId × Value → H} (W : World) (base : Nat) (args : Array Value) (ds gs : List (DataW H)) (before : List MemPlace)
    (hval : ∀ (j : Nat) t v, Try.f3.params[j]? = some t → args[j]? = some v → Value.okWide Try.prog W .any base t v)
    (hW : DataW.Whole enc Try.prog Try.f3.params.toList Go.Proofs.Ytgmjbigfneeekaa.Rows.domainBoundSpec.vars false W args.toList ds gs before) :
    Calls Try.prog 3 args W fun e W' => ∃ v, e = .returned v ∧ Go.Proofs.Ytgmjbigfneeekaa.Rows.domainBoundSpec.post enc Try.prog Try.f3 false true false false W args v W' := by
  refine law_contract (tb := 4) (by kernel_rfl) (by kernel_rfl) (by kernel_rfl) Try.underlying4 (by rfl) ?_ hW ?_
  · intro ds hd
    rw [Try.params3] at hd
    match ds, hd with
    | [d0, d1], _ => rfl
  · obtain ⟨p, q, hA, _, _, _, _⟩ := hW
    rw [Try.params3] at hA hval
    have hA2 : DataW.TrodAll enc Try.prog W 0 (fun _ => true) true [3, 3] args.toList ds p := hA
    obtain ⟨v0, vs0, d0, ds0, p0, q0, hargs0, rfl, rfl, h0, r0⟩ := trodAll_cons hA2
    obtain ⟨v1, vs1, d1, ds1, p1, q1, hargs1, rfl, rfl, h1, r1⟩ := trodAll_cons r0
    obtain ⟨rfl, rfl, rfl⟩ := trodAll_nil r1
    subst hargs1
    obtain rfl : args = #[v0, v1] := by cases args; simp_all
    obtain ⟨a0, ra0, wa0⟩ := arg_reads (reads_int Try.underlying3) h0 (fun a c => by intro h; cases h) (hval 0 3 v0 rfl rfl) (by kernel_rfl)
    obtain ⟨a1, ra1, wa1⟩ := arg_reads (reads_int Try.underlying3) h1 (fun a c => by intro h; cases h) (hval 1 3 v1 rfl rfl) (by kernel_rfl)
    refine ⟨[.d ((D.i .i64) a0), .d ((D.i .i64) a1)], ?_, law20_DomainBound_ok a0 a1 true (law20_DomainBound_plain wa0 wa1)⟩
    simp only [RAs, RA]
    exact ⟨v0, _, rfl, ra0, ⟨v1, _, rfl, ra1, rfl⟩⟩
set_option maxRecDepth 100000 in
theorem law20_DomainBound_lifted (os : Os) (started : os.Started) (H : Type) (enc : TypeId × Value → H) :
    ReturnsInHanded {} Try.checked os 3 .any (Go.Proofs.Ytgmjbigfneeekaa.Rows.domainBoundSpec.pre6 enc Try.prog Try.f3 Go.Proofs.Ytgmjbigfneeekaa.Rows.domainBoundRow.domain false) (Go.Proofs.Ytgmjbigfneeekaa.Rows.domainBoundSpec.post enc Try.prog Try.f3 false true false false) := by
  refine returnsInHanded_of_change (C := Try.checked) law20_DomainBound_own started (by kernel_rfl) Try.func3
    (ChangeSpec.witness6 (enc := enc) (C := Try.checked) false ⟨#[], #[.int .i64 0, .int .i64 0], []⟩ 8 (by kernel_rfl) (by kernel_rfl) (by kernel_rfl) (by kernel_rfl)) ?_
  intro W base args ds gs before hval hW _ _
  exact law20_DomainBound_contract W base args ds gs before hval hW
end Go.Ac
namespace Go.Proofs.Ytgmjbigfneeekaa
open Go.Ac
theorem DomainBoundSaid_holds : Rows.DomainBoundSaid :=
  OpenClaim.holds_of_wide 3 Try.f3 rfl rfl rfl rfl rfl rfl rfl ⟨rfl, rfl, rfl, rfl, rfl⟩ rfl rfl rfl rfl rfl (by kernel_rfl) Try.func3 (by kernel_rfl)
    (of_decide_eq_true (by kernel_rfl)) (by unfold Func.isWrapper; first | (rw [if_pos (by decide +kernel)]; kernel_rfl) | (rw [if_neg (by decide +kernel)]; exact ⟨rfl, rfl⟩))
    (fun os started H enc _ => law20_DomainBound_lifted os started H enc)
end Go.Proofs.Ytgmjbigfneeekaa
