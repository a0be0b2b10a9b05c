/-
  No cell of these rows narrows 'for every input' (looked for: loops, veiled, ifaces, maps, wideKeys, modest, calm, conditions, laid).
  DERIVED. THE GIVEN ROWS OF THIS SEAT. 3 by the template 'for every input the law returns true; each argument reads behind the call as it read before'; 0 by the template 'total and deterministic' (their statements: YtgmjbigfneeekaaTotals.lean).
  GIVEN WITH THE SEED: the statements are not yours to turn. If you find one false, say at which input.
  Laid BY PROGRAM, IN A SANDBOX (cutbox-rows.mjs): the forced cells as the released guide's own fill.sh prints them over the translation fa36ccfe08ca3b2c… (all of the seat's roots in one cut). By AI agents, Wed Nov 11 2026. No macro, syntax, notation, axiom, sorry.
-/
import Derived.Test.YtgmjbigfneeekaaChecked
import GoSem.Claim
import GoSem.ClaimJoined
import GoSem.ClaimMapViews
import Derived.JoinedTies
import Derived.KernelRfl
namespace Go.Proofs.Ytgmjbigfneeekaa
/- THE CELL 'sum', in the pinned program and in every row, IS THE sha256 OF THE DUMP (.gsa) THAT YtgmjbigfneeekaaProg.lean LOADS. Nothing in Lean hashes anything: it is a label: what it is worth is what the hold of that sum in a sandbox is worth. -/
noncomputable def Try.pinned : Pinned := { name := "ytgmjbigfneeekaa", sum := "fa36ccfe08ca3b2c73424a21f4937bd34e9c4d478c1c3031988e8ee261b1d91b", checked := Try.checked }
namespace Rows
def none {H : Type} : Left H := { results := [], args := [] }

/-- 'proctorlaw20.DomainBound': WHATEVER THE INPUT: true; the input reads as it did. -/
def domainBoundSpec : ChangeSpec := { name := "domainBound", fn := fun _ => fun
  | [d1, d2] => { results := [.lit (.bool true)], args := [d1, d2] }
  | _ => none }
def domainBoundRow : OpenClaim := { program := "ytgmjbigfneeekaa", sum := "fa36ccfe08ca3b2c73424a21f4937bd34e9c4d478c1c3031988e8ee261b1d91b", func := "proctor/proctorlaw20.DomainBound", spec := "domainBound", unfollowed := true, recurses := true, apart := false }
def DomainBoundSaid : Prop := domainBoundRow.holds Try.pinned (OpenSpec.ofChange domainBoundSpec)

/-- ITS FALSE NEIGHBOUR: 'it returns false'. Refute it at one input. -/
def domainBoundWrong : ChangeSpec := { name := "domainBound", fn := fun _ => fun
  | [d1, d2] => { results := [.lit (.bool false)], args := [d1, d2] }
  | _ => none }
def DomainBoundWrongFalsely : Prop := domainBoundRow.holds Try.pinned (OpenSpec.ofChange domainBoundWrong)

/-- 'proctorlaw20.DomainSets': WHATEVER THE INPUT: true; the input reads as it did. -/
def domainSetsSpec : ChangeSpec := { name := "domainSets", fn := fun _ => fun
  | [d] => { results := [.lit (.bool true)], args := [d] }
  | _ => none }
def domainSetsRow : OpenClaim := { program := "ytgmjbigfneeekaa", sum := "fa36ccfe08ca3b2c73424a21f4937bd34e9c4d478c1c3031988e8ee261b1d91b", func := "proctor/proctorlaw20.DomainSets", spec := "domainSets", inPlace := ["slices.overlaps[proctor/api.Value]", "slices.overlaps[int]"], unfollowed := true, recurses := true, apart := false }
def DomainSetsSaid : Prop := domainSetsRow.holds Try.pinned (OpenSpec.ofChange domainSetsSpec)

/-- ITS FALSE NEIGHBOUR: 'it returns false'. Refute it at one input. -/
def domainSetsWrong : ChangeSpec := { name := "domainSets", fn := fun _ => fun
  | [d] => { results := [.lit (.bool false)], args := [d] }
  | _ => none }
def DomainSetsWrongFalsely : Prop := domainSetsRow.holds Try.pinned (OpenSpec.ofChange domainSetsWrong)

/-- 'proctorlaw20.DomainOf': WHATEVER THE INPUT: true; the input reads as it did. -/
def domainOfSpec : ChangeSpec := { name := "domainOf", fn := fun _ => fun
  | [d1, d2] => { results := [.lit (.bool true)], args := [d1, d2] }
  | _ => none }
def domainOfRow : OpenClaim := { program := "ytgmjbigfneeekaa", sum := "fa36ccfe08ca3b2c73424a21f4937bd34e9c4d478c1c3031988e8ee261b1d91b", func := "proctor/proctorlaw20.DomainOf", spec := "domainOf", inPlace := ["slices.overlaps[proctor/api.Slot]", "slices.overlaps[proctor/api.Value]"], unfollowed := true, recurses := true, apart := false }
def DomainOfSaid : Prop := domainOfRow.holds Try.pinned (OpenSpec.ofChange domainOfSpec)

/-- ITS FALSE NEIGHBOUR: 'it returns false'. Refute it at one input. -/
def domainOfWrong : ChangeSpec := { name := "domainOf", fn := fun _ => fun
  | [d1, d2] => { results := [.lit (.bool false)], args := [d1, d2] }
  | _ => none }
def DomainOfWrongFalsely : Prop := domainOfRow.holds Try.pinned (OpenSpec.ofChange domainOfWrong)

/- THE SECOND FORM. 'bulk': how many values and letters a reading holds, each counted each time it is reached (what is shared counts as often as it is met; a slice's spare places count too). A statement '..UptoSaid' is the law's where the arguments, and the package variables that the reading takes, are together of bulk at most 1048576: NARROWER than '..Said'. Prove '..Said' where nothing that the law and all that it calls make is longer than what came in: it says more and counts as full. Else prove '..UptoSaid'. A law counts once. -/
mutual
def uptoBulk {H : Type} : DataW H → Nat
  | .lit (.string bytes) => bytes.length + 1
  | .lit _ => 1
  | .nil => 1
  | .ptr d => uptoBulk d + 1
  | .slice elems spare => uptoBulkAll elems + uptoBulkAll spare + 1
  | .agg parts => uptoBulkAll parts + 1
  | .iface _ d => uptoBulk d + 1
  | .map entries => uptoBulkEntries entries + 1
  | .held _ => 1
def uptoBulkAll {H : Type} : List (DataW H) → Nat
  | [] => 0
  | d :: r => uptoBulk d + uptoBulkAll r
def uptoBulkEntries {H : Type} : List (Lit × DataW H) → Nat
  | [] => 0
  | x :: r => uptoBulkEntry x + uptoBulkEntries r
def uptoBulkEntry {H : Type} : Lit × DataW H → Nat
  | (.string bytes, d) => bytes.length + uptoBulk d + 1
  | (_, d) => uptoBulk d + 1
 end
def uptoSmall : (H : Type) → List (DataW H) → Bool := fun _ ds => decide (uptoBulkAll ds ≤ 1048576)
def OpenSpec.upto (s : _root_.Go.ChangeSpec) : _root_.Go.OpenSpec := { _root_.Go.OpenSpec.ofChange s with cond := some uptoSmall }

/-- 'proctorlaw20.DomainBound', WHERE WHAT IT READS IS OF BULK AT MOST 1048576: true; the input reads as it did. -/
def domainBoundUptoRow : OpenClaim := { program := "ytgmjbigfneeekaa", sum := "fa36ccfe08ca3b2c73424a21f4937bd34e9c4d478c1c3031988e8ee261b1d91b", func := "proctor/proctorlaw20.DomainBound", spec := "domainBound", unfollowed := true, recurses := true, apart := false, narrowed := true }
def DomainBoundUptoSaid : Prop := domainBoundUptoRow.holds Try.pinned (OpenSpec.upto domainBoundSpec)

/-- 'proctorlaw20.DomainSets', WHERE WHAT IT READS IS OF BULK AT MOST 1048576: true; the input reads as it did. -/
def domainSetsUptoRow : OpenClaim := { program := "ytgmjbigfneeekaa", sum := "fa36ccfe08ca3b2c73424a21f4937bd34e9c4d478c1c3031988e8ee261b1d91b", func := "proctor/proctorlaw20.DomainSets", spec := "domainSets", inPlace := ["slices.overlaps[proctor/api.Value]", "slices.overlaps[int]"], unfollowed := true, recurses := true, apart := false, narrowed := true }
def DomainSetsUptoSaid : Prop := domainSetsUptoRow.holds Try.pinned (OpenSpec.upto domainSetsSpec)

/-- 'proctorlaw20.DomainOf', WHERE WHAT IT READS IS OF BULK AT MOST 1048576: true; the input reads as it did. -/
def domainOfUptoRow : OpenClaim := { program := "ytgmjbigfneeekaa", sum := "fa36ccfe08ca3b2c73424a21f4937bd34e9c4d478c1c3031988e8ee261b1d91b", func := "proctor/proctorlaw20.DomainOf", spec := "domainOf", inPlace := ["slices.overlaps[proctor/api.Slot]", "slices.overlaps[proctor/api.Value]"], unfollowed := true, recurses := true, apart := false, narrowed := true }
def DomainOfUptoSaid : Prop := domainOfUptoRow.holds Try.pinned (OpenSpec.upto domainOfSpec)

end Rows
end Go.Proofs.Ytgmjbigfneeekaa
