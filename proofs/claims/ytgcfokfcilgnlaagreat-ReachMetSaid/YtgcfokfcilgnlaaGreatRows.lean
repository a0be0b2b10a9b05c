/-
  No cell of these rows narrows 'for every input' (looked for: loops, veiled, ifaces, maps, wideKeys, modest, calm, conditions, laid).
  DERIVED. THE GIVEN ROWS OF THIS SEAT. 5 by the template 'for every input the law returns true; each argument reads behind the call as it read before'; 0 by the template 'total and deterministic' (their statements: YtgcfokfcilgnlaaGreatTotals.lean).
  GIVEN WITH THE SEED: the statements are not yours to turn. If you find one false, say at which input.
  Laid BY PROGRAM, IN A SANDBOX (cutbox-rows.mjs): the forced cells as the released guide's own fill.sh prints them over the translation 90e6f4c54224cc9c… (all of the seat's roots in one cut). By AI agents, Wed Nov 11 2026. No macro, syntax, notation, axiom, sorry.
-/
import Derived.Test.YtgcfokfcilgnlaaGreatChecked
import GoSem.Claim
import GoSem.ClaimJoined
import GoSem.ClaimMapViews
import Derived.JoinedTies
import Derived.KernelRfl
namespace Go.Proofs.YtgcfokfcilgnlaaGreat
/- THE CELL 'sum', in the pinned program and in every row, IS THE sha256 OF THE DUMP (.gsa) THAT YtgcfokfcilgnlaaGreatProg.lean LOADS. Nothing in Lean hashes anything: it is a label: what it is worth is what the hold of that sum in a sandbox is worth. -/
noncomputable def Tryz.pinned : Pinned := { name := "ytgcfokfcilgnlaagreat", sum := "90e6f4c54224cc9c81daeaadf82379f8f69e6213ae3a68b0dc5052eab9c5b545", checked := Tryz.checked }
namespace Rows
def none {H : Type} : Left H := { results := [], args := [] }

/-- 'proctorlaw23.ReachAll': WHATEVER THE INPUT: true; the input reads as it did. -/
def reachAllSpec : ChangeSpec := { name := "reachAll", fn := fun _ => fun
  | [d1, d2, d3] => { results := [.lit (.bool true)], args := [d1, d2, d3] }
  | _ => none }
def reachAllRow : OpenClaim := { program := "ytgcfokfcilgnlaagreat", sum := "90e6f4c54224cc9c81daeaadf82379f8f69e6213ae3a68b0dc5052eab9c5b545", func := "proctor/proctorlaw23.ReachAll", spec := "reachAll", inPlace := ["slices.overlaps[proctor/api.Value]"], unfollowed := true, recurses := true, apart := false }
def ReachAllSaid : Prop := reachAllRow.holds Tryz.pinned (OpenSpec.ofChange reachAllSpec)

/-- ITS FALSE NEIGHBOUR: 'it returns false'. Refute it at one input. -/
def reachAllWrong : ChangeSpec := { name := "reachAll", fn := fun _ => fun
  | [d1, d2, d3] => { results := [.lit (.bool false)], args := [d1, d2, d3] }
  | _ => none }
def ReachAllWrongFalsely : Prop := reachAllRow.holds Tryz.pinned (OpenSpec.ofChange reachAllWrong)

/-- 'proctorlaw23.ReachKinds': WHATEVER THE INPUT: true; the input reads as it did. -/
def reachKindsSpec : ChangeSpec := { name := "reachKinds", fn := fun _ => fun
  | [d1, d2, d3] => { results := [.lit (.bool true)], args := [d1, d2, d3] }
  | _ => none }
def reachKindsRow : OpenClaim := { program := "ytgcfokfcilgnlaagreat", sum := "90e6f4c54224cc9c81daeaadf82379f8f69e6213ae3a68b0dc5052eab9c5b545", func := "proctor/proctorlaw23.ReachKinds", spec := "reachKinds", inPlace := ["slices.overlaps[proctor/api.Value]"], unfollowed := true, recurses := true, apart := false }
def ReachKindsSaid : Prop := reachKindsRow.holds Tryz.pinned (OpenSpec.ofChange reachKindsSpec)

/-- ITS FALSE NEIGHBOUR: 'it returns false'. Refute it at one input. -/
def reachKindsWrong : ChangeSpec := { name := "reachKinds", fn := fun _ => fun
  | [d1, d2, d3] => { results := [.lit (.bool false)], args := [d1, d2, d3] }
  | _ => none }
def ReachKindsWrongFalsely : Prop := reachKindsRow.holds Tryz.pinned (OpenSpec.ofChange reachKindsWrong)

/-- 'proctorlaw23.ReachPaths': WHATEVER THE INPUT: true; the input reads as it did. -/
def reachPathsSpec : ChangeSpec := { name := "reachPaths", fn := fun _ => fun
  | [d1, d2, d3, d4] => { results := [.lit (.bool true)], args := [d1, d2, d3, d4] }
  | _ => none }
def reachPathsRow : OpenClaim := { program := "ytgcfokfcilgnlaagreat", sum := "90e6f4c54224cc9c81daeaadf82379f8f69e6213ae3a68b0dc5052eab9c5b545", func := "proctor/proctorlaw23.ReachPaths", spec := "reachPaths", inPlace := ["slices.overlaps[proctor/api.Value]"], unfollowed := true, recurses := true, apart := false }
def ReachPathsSaid : Prop := reachPathsRow.holds Tryz.pinned (OpenSpec.ofChange reachPathsSpec)

/-- ITS FALSE NEIGHBOUR: 'it returns false'. Refute it at one input. -/
def reachPathsWrong : ChangeSpec := { name := "reachPaths", fn := fun _ => fun
  | [d1, d2, d3, d4] => { results := [.lit (.bool false)], args := [d1, d2, d3, d4] }
  | _ => none }
def ReachPathsWrongFalsely : Prop := reachPathsRow.holds Tryz.pinned (OpenSpec.ofChange reachPathsWrong)

/-- 'proctorlaw23.ReachSure': WHATEVER THE INPUT: true; the input reads as it did. -/
def reachSureSpec : ChangeSpec := { name := "reachSure", fn := fun _ => fun
  | [d1, d2, d3, d4] => { results := [.lit (.bool true)], args := [d1, d2, d3, d4] }
  | _ => none }
def reachSureRow : OpenClaim := { program := "ytgcfokfcilgnlaagreat", sum := "90e6f4c54224cc9c81daeaadf82379f8f69e6213ae3a68b0dc5052eab9c5b545", func := "proctor/proctorlaw23.ReachSure", spec := "reachSure", inPlace := ["slices.overlaps[proctor/api.Value]"], unfollowed := true, recurses := true, apart := false }
def ReachSureSaid : Prop := reachSureRow.holds Tryz.pinned (OpenSpec.ofChange reachSureSpec)

/-- ITS FALSE NEIGHBOUR: 'it returns false'. Refute it at one input. -/
def reachSureWrong : ChangeSpec := { name := "reachSure", fn := fun _ => fun
  | [d1, d2, d3, d4] => { results := [.lit (.bool false)], args := [d1, d2, d3, d4] }
  | _ => none }
def ReachSureWrongFalsely : Prop := reachSureRow.holds Tryz.pinned (OpenSpec.ofChange reachSureWrong)

/-- 'proctorlaw23.ReachMet': WHATEVER THE INPUT: true; the input reads as it did. -/
def reachMetSpec : ChangeSpec := { name := "reachMet", fn := fun _ => fun
  | [d1, d2, d3] => { results := [.lit (.bool true)], args := [d1, d2, d3] }
  | _ => none }
def reachMetRow : OpenClaim := { program := "ytgcfokfcilgnlaagreat", sum := "90e6f4c54224cc9c81daeaadf82379f8f69e6213ae3a68b0dc5052eab9c5b545", func := "proctor/proctorlaw23.ReachMet", spec := "reachMet", inPlace := ["slices.overlaps[proctor/api.Value]"], unfollowed := true, recurses := true, apart := false }
def ReachMetSaid : Prop := reachMetRow.holds Tryz.pinned (OpenSpec.ofChange reachMetSpec)

/-- ITS FALSE NEIGHBOUR: 'it returns false'. Refute it at one input. -/
def reachMetWrong : ChangeSpec := { name := "reachMet", fn := fun _ => fun
  | [d1, d2, d3] => { results := [.lit (.bool false)], args := [d1, d2, d3] }
  | _ => none }
def ReachMetWrongFalsely : Prop := reachMetRow.holds Tryz.pinned (OpenSpec.ofChange reachMetWrong)

/- THE SECOND FORM. 'bulk': how many values and letters a reading holds, each counted each time it is reached (what is shared counts as often as it is met; a slice's spare places count too). A statement '..UptoSaid' is the law's where the arguments, and the package variables that the reading takes, are together of bulk at most 1048576: NARROWER than '..Said'. Prove '..Said' where nothing that the law and all that it calls make is longer than what came in: it says more and counts as full. Else prove '..UptoSaid'. A law counts once. -/
mutual
def uptoBulk {H : Type} : DataW H → Nat
  | .lit (.string bytes) => bytes.length + 1
  | .lit _ => 1
  | .nil => 1
  | .ptr d => uptoBulk d + 1
  | .slice elems spare => uptoBulkAll elems + uptoBulkAll spare + 1
  | .agg parts => uptoBulkAll parts + 1
  | .iface _ d => uptoBulk d + 1
  | .map entries => uptoBulkEntries entries + 1
  | .held _ => 1
def uptoBulkAll {H : Type} : List (DataW H) → Nat
  | [] => 0
  | d :: r => uptoBulk d + uptoBulkAll r
def uptoBulkEntries {H : Type} : List (Lit × DataW H) → Nat
  | [] => 0
  | x :: r => uptoBulkEntry x + uptoBulkEntries r
def uptoBulkEntry {H : Type} : Lit × DataW H → Nat
  | (.string bytes, d) => bytes.length + uptoBulk d + 1
  | (_, d) => uptoBulk d + 1
 end
def uptoSmall : (H : Type) → List (DataW H) → Bool := fun _ ds => decide (uptoBulkAll ds ≤ 1048576)
def OpenSpec.upto (s : _root_.Go.ChangeSpec) : _root_.Go.OpenSpec := { _root_.Go.OpenSpec.ofChange s with cond := some uptoSmall }

/-- 'proctorlaw23.ReachAll', WHERE WHAT IT READS IS OF BULK AT MOST 1048576: true; the input reads as it did. -/
def reachAllUptoRow : OpenClaim := { program := "ytgcfokfcilgnlaagreat", sum := "90e6f4c54224cc9c81daeaadf82379f8f69e6213ae3a68b0dc5052eab9c5b545", func := "proctor/proctorlaw23.ReachAll", spec := "reachAll", inPlace := ["slices.overlaps[proctor/api.Value]"], unfollowed := true, recurses := true, apart := false, narrowed := true }
def ReachAllUptoSaid : Prop := reachAllUptoRow.holds Tryz.pinned (OpenSpec.upto reachAllSpec)

/-- 'proctorlaw23.ReachKinds', WHERE WHAT IT READS IS OF BULK AT MOST 1048576: true; the input reads as it did. -/
def reachKindsUptoRow : OpenClaim := { program := "ytgcfokfcilgnlaagreat", sum := "90e6f4c54224cc9c81daeaadf82379f8f69e6213ae3a68b0dc5052eab9c5b545", func := "proctor/proctorlaw23.ReachKinds", spec := "reachKinds", inPlace := ["slices.overlaps[proctor/api.Value]"], unfollowed := true, recurses := true, apart := false, narrowed := true }
def ReachKindsUptoSaid : Prop := reachKindsUptoRow.holds Tryz.pinned (OpenSpec.upto reachKindsSpec)

/-- 'proctorlaw23.ReachPaths', WHERE WHAT IT READS IS OF BULK AT MOST 1048576: true; the input reads as it did. -/
def reachPathsUptoRow : OpenClaim := { program := "ytgcfokfcilgnlaagreat", sum := "90e6f4c54224cc9c81daeaadf82379f8f69e6213ae3a68b0dc5052eab9c5b545", func := "proctor/proctorlaw23.ReachPaths", spec := "reachPaths", inPlace := ["slices.overlaps[proctor/api.Value]"], unfollowed := true, recurses := true, apart := false, narrowed := true }
def ReachPathsUptoSaid : Prop := reachPathsUptoRow.holds Tryz.pinned (OpenSpec.upto reachPathsSpec)

/-- 'proctorlaw23.ReachSure', WHERE WHAT IT READS IS OF BULK AT MOST 1048576: true; the input reads as it did. -/
def reachSureUptoRow : OpenClaim := { program := "ytgcfokfcilgnlaagreat", sum := "90e6f4c54224cc9c81daeaadf82379f8f69e6213ae3a68b0dc5052eab9c5b545", func := "proctor/proctorlaw23.ReachSure", spec := "reachSure", inPlace := ["slices.overlaps[proctor/api.Value]"], unfollowed := true, recurses := true, apart := false, narrowed := true }
def ReachSureUptoSaid : Prop := reachSureUptoRow.holds Tryz.pinned (OpenSpec.upto reachSureSpec)

/-- 'proctorlaw23.ReachMet', WHERE WHAT IT READS IS OF BULK AT MOST 1048576: true; the input reads as it did. -/
def reachMetUptoRow : OpenClaim := { program := "ytgcfokfcilgnlaagreat", sum := "90e6f4c54224cc9c81daeaadf82379f8f69e6213ae3a68b0dc5052eab9c5b545", func := "proctor/proctorlaw23.ReachMet", spec := "reachMet", inPlace := ["slices.overlaps[proctor/api.Value]"], unfollowed := true, recurses := true, apart := false, narrowed := true }
def ReachMetUptoSaid : Prop := reachMetUptoRow.holds Tryz.pinned (OpenSpec.upto reachMetSpec)

end Rows
end Go.Proofs.YtgcfokfcilgnlaaGreat
