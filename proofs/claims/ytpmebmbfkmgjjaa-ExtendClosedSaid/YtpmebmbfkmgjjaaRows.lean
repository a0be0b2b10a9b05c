/-
  No cell of these rows narrows 'for every input' (looked for: loops, veiled, ifaces, maps, wideKeys, modest, calm, conditions, laid).
  DERIVED. THE GIVEN ROWS OF THIS SEAT. 4 by the template 'for every input the law returns true; each argument reads behind the call as it read before'; 0 by the template 'total and deterministic' (their statements: YtpmebmbfkmgjjaaTotals.lean).
  GIVEN WITH THE SEED: the statements are not yours to turn. If you find one false, say at which input.
  Laid BY PROGRAM, IN A SANDBOX (cutbox-rows.mjs): the forced cells as the released guide's own fill.sh prints them over the translation 014f462fd7ce658b… (all of the seat's roots in one cut). By AI agents, Wed Nov 11 2026. No macro, syntax, notation, axiom, sorry.
-/
import Derived.Test.YtpmebmbfkmgjjaaChecked
import GoSem.Claim
import GoSem.ClaimJoined
import GoSem.ClaimMapViews
import Derived.JoinedTies
import Derived.KernelRfl
namespace Go.Proofs.Ytpmebmbfkmgjjaa
/- THE CELL 'sum', in the pinned program and in every row, IS THE sha256 OF THE DUMP (.gsa) THAT YtpmebmbfkmgjjaaProg.lean LOADS. Nothing in Lean hashes anything: it is a label: what it is worth is what the hold of that sum in a sandbox is worth. -/
noncomputable def Try.pinned : Pinned := { name := "ytpmebmbfkmgjjaa", sum := "014f462fd7ce658bba931cb8beed3dec4967487f82040029042bc5b65482a8c0", checked := Try.checked }
namespace Rows
def none {H : Type} : Left H := { results := [], args := [] }

/-- 'proctorlaw26.ExtendGrows': WHATEVER THE INPUT: true; the input reads as it did. -/
def extendGrowsSpec : ChangeSpec := { name := "extendGrows", fn := fun _ => fun
  | [d1, d2, d3] => { results := [.lit (.bool true)], args := [d1, d2, d3] }
  | _ => none }
def extendGrowsRow : OpenClaim := { program := "ytpmebmbfkmgjjaa", sum := "014f462fd7ce658bba931cb8beed3dec4967487f82040029042bc5b65482a8c0", func := "proctor/proctorlaw26.ExtendGrows", spec := "extendGrows", inPlace := ["slices.overlaps[[]proctor/api.Slot]", "slices.overlaps[proctor/api.Slot]"], unfollowed := true, recurses := true, apart := false }
def ExtendGrowsSaid : Prop := extendGrowsRow.holds Try.pinned (OpenSpec.ofChange extendGrowsSpec)

/-- ITS FALSE NEIGHBOUR: 'it returns false'. Refute it at one input. -/
def extendGrowsWrong : ChangeSpec := { name := "extendGrows", fn := fun _ => fun
  | [d1, d2, d3] => { results := [.lit (.bool false)], args := [d1, d2, d3] }
  | _ => none }
def ExtendGrowsWrongFalsely : Prop := extendGrowsRow.holds Try.pinned (OpenSpec.ofChange extendGrowsWrong)

/-- 'proctorlaw26.ExtendCopies': WHATEVER THE INPUT: true; the input reads as it did. -/
def extendCopiesSpec : ChangeSpec := { name := "extendCopies", fn := fun _ => fun
  | [d1, d2] => { results := [.lit (.bool true)], args := [d1, d2] }
  | _ => none }
def extendCopiesRow : OpenClaim := { program := "ytpmebmbfkmgjjaa", sum := "014f462fd7ce658bba931cb8beed3dec4967487f82040029042bc5b65482a8c0", func := "proctor/proctorlaw26.ExtendCopies", spec := "extendCopies", inPlace := ["slices.overlaps[[]proctor/api.Slot]", "slices.overlaps[proctor/api.Slot]"], unfollowed := true, recurses := true, apart := false }
def ExtendCopiesSaid : Prop := extendCopiesRow.holds Try.pinned (OpenSpec.ofChange extendCopiesSpec)

/-- ITS FALSE NEIGHBOUR: 'it returns false'. Refute it at one input. -/
def extendCopiesWrong : ChangeSpec := { name := "extendCopies", fn := fun _ => fun
  | [d1, d2] => { results := [.lit (.bool false)], args := [d1, d2] }
  | _ => none }
def ExtendCopiesWrongFalsely : Prop := extendCopiesRow.holds Try.pinned (OpenSpec.ofChange extendCopiesWrong)

/-- 'proctorlaw26.ExtendNew': WHATEVER THE INPUT: true; the input reads as it did. -/
def extendNewSpec : ChangeSpec := { name := "extendNew", fn := fun _ => fun
  | [d1, d2] => { results := [.lit (.bool true)], args := [d1, d2] }
  | _ => none }
def extendNewRow : OpenClaim := { program := "ytpmebmbfkmgjjaa", sum := "014f462fd7ce658bba931cb8beed3dec4967487f82040029042bc5b65482a8c0", func := "proctor/proctorlaw26.ExtendNew", spec := "extendNew", inPlace := ["slices.overlaps[[]proctor/api.Slot]", "slices.overlaps[proctor/api.Slot]"], unfollowed := true, recurses := true, apart := false }
def ExtendNewSaid : Prop := extendNewRow.holds Try.pinned (OpenSpec.ofChange extendNewSpec)

/-- ITS FALSE NEIGHBOUR: 'it returns false'. Refute it at one input. -/
def extendNewWrong : ChangeSpec := { name := "extendNew", fn := fun _ => fun
  | [d1, d2] => { results := [.lit (.bool false)], args := [d1, d2] }
  | _ => none }
def ExtendNewWrongFalsely : Prop := extendNewRow.holds Try.pinned (OpenSpec.ofChange extendNewWrong)

/-- 'proctorlaw26.ExtendClosed': WHATEVER THE INPUT: true; the input reads as it did. -/
def extendClosedSpec : ChangeSpec := { name := "extendClosed", fn := fun _ => fun
  | [d1, d2] => { results := [.lit (.bool true)], args := [d1, d2] }
  | _ => none }
def extendClosedRow : OpenClaim := { program := "ytpmebmbfkmgjjaa", sum := "014f462fd7ce658bba931cb8beed3dec4967487f82040029042bc5b65482a8c0", func := "proctor/proctorlaw26.ExtendClosed", spec := "extendClosed", inPlace := ["slices.overlaps[[]proctor/api.Slot]", "slices.overlaps[proctor/api.Slot]"], unfollowed := true, recurses := true, apart := false }
def ExtendClosedSaid : Prop := extendClosedRow.holds Try.pinned (OpenSpec.ofChange extendClosedSpec)

/-- ITS FALSE NEIGHBOUR: 'it returns false'. Refute it at one input. -/
def extendClosedWrong : ChangeSpec := { name := "extendClosed", fn := fun _ => fun
  | [d1, d2] => { results := [.lit (.bool false)], args := [d1, d2] }
  | _ => none }
def ExtendClosedWrongFalsely : Prop := extendClosedRow.holds Try.pinned (OpenSpec.ofChange extendClosedWrong)

/- THE SECOND FORM. 'bulk': how many values and letters a reading holds, each counted each time it is reached (what is shared counts as often as it is met; a slice's spare places count too). A statement '..UptoSaid' is the law's where the arguments, and the package variables that the reading takes, are together of bulk at most 1048576: NARROWER than '..Said'. Prove '..Said' where nothing that the law and all that it calls make is longer than what came in: it says more and counts as full. Else prove '..UptoSaid'. A law counts once. -/
mutual
def uptoBulk {H : Type} : DataW H → Nat
  | .lit (.string bytes) => bytes.length + 1
  | .lit _ => 1
  | .nil => 1
  | .ptr d => uptoBulk d + 1
  | .slice elems spare => uptoBulkAll elems + uptoBulkAll spare + 1
  | .agg parts => uptoBulkAll parts + 1
  | .iface _ d => uptoBulk d + 1
  | .map entries => uptoBulkEntries entries + 1
  | .held _ => 1
def uptoBulkAll {H : Type} : List (DataW H) → Nat
  | [] => 0
  | d :: r => uptoBulk d + uptoBulkAll r
def uptoBulkEntries {H : Type} : List (Lit × DataW H) → Nat
  | [] => 0
  | x :: r => uptoBulkEntry x + uptoBulkEntries r
def uptoBulkEntry {H : Type} : Lit × DataW H → Nat
  | (.string bytes, d) => bytes.length + uptoBulk d + 1
  | (_, d) => uptoBulk d + 1
 end
def uptoSmall : (H : Type) → List (DataW H) → Bool := fun _ ds => decide (uptoBulkAll ds ≤ 1048576)
def OpenSpec.upto (s : _root_.Go.ChangeSpec) : _root_.Go.OpenSpec := { _root_.Go.OpenSpec.ofChange s with cond := some uptoSmall }

/-- 'proctorlaw26.ExtendGrows', WHERE WHAT IT READS IS OF BULK AT MOST 1048576: true; the input reads as it did. -/
def extendGrowsUptoRow : OpenClaim := { program := "ytpmebmbfkmgjjaa", sum := "014f462fd7ce658bba931cb8beed3dec4967487f82040029042bc5b65482a8c0", func := "proctor/proctorlaw26.ExtendGrows", spec := "extendGrows", inPlace := ["slices.overlaps[[]proctor/api.Slot]", "slices.overlaps[proctor/api.Slot]"], unfollowed := true, recurses := true, apart := false, narrowed := true }
def ExtendGrowsUptoSaid : Prop := extendGrowsUptoRow.holds Try.pinned (OpenSpec.upto extendGrowsSpec)

/-- 'proctorlaw26.ExtendCopies', WHERE WHAT IT READS IS OF BULK AT MOST 1048576: true; the input reads as it did. -/
def extendCopiesUptoRow : OpenClaim := { program := "ytpmebmbfkmgjjaa", sum := "014f462fd7ce658bba931cb8beed3dec4967487f82040029042bc5b65482a8c0", func := "proctor/proctorlaw26.ExtendCopies", spec := "extendCopies", inPlace := ["slices.overlaps[[]proctor/api.Slot]", "slices.overlaps[proctor/api.Slot]"], unfollowed := true, recurses := true, apart := false, narrowed := true }
def ExtendCopiesUptoSaid : Prop := extendCopiesUptoRow.holds Try.pinned (OpenSpec.upto extendCopiesSpec)

/-- 'proctorlaw26.ExtendNew', WHERE WHAT IT READS IS OF BULK AT MOST 1048576: true; the input reads as it did. -/
def extendNewUptoRow : OpenClaim := { program := "ytpmebmbfkmgjjaa", sum := "014f462fd7ce658bba931cb8beed3dec4967487f82040029042bc5b65482a8c0", func := "proctor/proctorlaw26.ExtendNew", spec := "extendNew", inPlace := ["slices.overlaps[[]proctor/api.Slot]", "slices.overlaps[proctor/api.Slot]"], unfollowed := true, recurses := true, apart := false, narrowed := true }
def ExtendNewUptoSaid : Prop := extendNewUptoRow.holds Try.pinned (OpenSpec.upto extendNewSpec)

/-- 'proctorlaw26.ExtendClosed', WHERE WHAT IT READS IS OF BULK AT MOST 1048576: true; the input reads as it did. -/
def extendClosedUptoRow : OpenClaim := { program := "ytpmebmbfkmgjjaa", sum := "014f462fd7ce658bba931cb8beed3dec4967487f82040029042bc5b65482a8c0", func := "proctor/proctorlaw26.ExtendClosed", spec := "extendClosed", inPlace := ["slices.overlaps[[]proctor/api.Slot]", "slices.overlaps[proctor/api.Slot]"], unfollowed := true, recurses := true, apart := false, narrowed := true }
def ExtendClosedUptoSaid : Prop := extendClosedUptoRow.holds Try.pinned (OpenSpec.upto extendClosedSpec)

end Rows
end Go.Proofs.Ytpmebmbfkmgjjaa
