/- Own work: the statement, joined of its parts; it holds for every input. -/
import Derived.Test.YthabonnegobedaaWa24nx1
import Derived.Test.YthabonnegobedaaP24n
import Derived.Test.YthabonnegobedaaAc23
import Derived.Test.YthabonnegobedaaRows
set_option linter.unusedVariables false
set_option linter.unusedSimpArgs false
set_option linter.unusedVariables false
set_option linter.unusedSimpArgs false
namespace Go.Ac
open Go.Proofs
theorem i64_wf {n : Int} (h : (Lit.int .i64 n).wf = true) : -9223372036854775808 ≤ n ∧ n ≤ 9223372036854775807 := by simpa [Lit.wf, IntKind.min, IntKind.max, IntKind.signed, IntKind.bits] using h
def TValue.Wf (v : TValue) : Prop := (fun n => (Lit.int .i64 n).wf = true) v.kind ∧ (fun n => (Lit.int .i64 n).wf = true) v.int ∧ (fun l => l.length ≤ 9223372036854775807) v.str ∧ True
def TSlot.Wf (v : TSlot) : Prop := (fun n => (Lit.int .i64 n).wf = true) v.var ∧ TValue.Wf v.value
def Tproctorlaw24_Act.Wf (v : Tproctorlaw24_Act) : Prop := (fun n => (Lit.int .i64 n).wf = true) v.kind ∧ (fun n => (Lit.int .i64 n).wf = true) v.iD ∧ (fun l => l.length ≤ 9223372036854775807 ∧ ∀ x ∈ l, TSlot.Wf x) v.bind ∧ (fun n => (Lit.int .i64 n).wf = true) v.state
theorem read_TValue_64 : ReadsAs Try.prog 64 TValue.D TValue.Wf := by
  refine reads_struct (n := 4) Try.underlying64 (by kernel_rfl) ?_
  intro H enc w sp held fuel cs hlen hf
  have hf2 := fun (i : Nat) (g : Field) h => hf g (List.mem_of_getElem? (i := i) h)
  have c0 : Try.prog.cellsOf 3 = 1 := by kernel_rfl
  obtain ⟨x0, h0⟩ : ∃ x, DataW.trod enc Try.prog w 0 sp held fuel 3 ((cs.drop 0).take (Try.prog.cellsOf 3)) = some x := hf2 0 _ rfl
  rw [c0] at h0
  obtain ⟨v0, r0, w0⟩ := (reads_int Try.underlying3) enc w sp held fuel _ _ h0
  have c1 : Try.prog.cellsOf 2 = 1 := by kernel_rfl
  obtain ⟨x1, h1⟩ : ∃ x, DataW.trod enc Try.prog w 0 sp held fuel 2 ((cs.drop 1).take (Try.prog.cellsOf 2)) = some x := hf2 1 _ rfl
  rw [c1] at h1
  obtain ⟨v1, r1, w1⟩ := (reads_int Try.underlying2) enc w sp held fuel _ _ h1
  have c2 : Try.prog.cellsOf 9 = 1 := by kernel_rfl
  obtain ⟨x2, h2⟩ : ∃ x, DataW.trod enc Try.prog w 0 sp held fuel 9 ((cs.drop 2).take (Try.prog.cellsOf 9)) = some x := hf2 2 _ rfl
  rw [c2] at h2
  obtain ⟨v2, r2, w2⟩ := (reads_string Try.underlying9) enc w sp held fuel _ _ h2
  have c3 : Try.prog.cellsOf 4 = 1 := by kernel_rfl
  obtain ⟨x3, h3⟩ : ∃ x, DataW.trod enc Try.prog w 0 sp held fuel 4 ((cs.drop 3).take (Try.prog.cellsOf 4)) = some x := hf2 3 _ rfl
  rw [c3] at h3
  obtain ⟨v3, r3, w3⟩ := (reads_bool Try.underlying4) enc w sp held fuel _ _ h3
  have hh := RDs_field (o := 0) (k := 1) r0 (RDs_field (o := 1) (k := 1) r1 (RDs_field (o := 2) (k := 1) r2 (RDs_field (o := 3) (k := 1) r3 (show RDs (hOf w) w [] (cs.drop 4) from by rw [List.drop_eq_nil_of_le (by omega)]; simp [RDs]))))
  refine ⟨⟨v0, v1, v2, v3⟩, ?_, w0, w1, w2, w3⟩
  simpa only [List.drop_zero, List.append_nil, List.append_assoc, List.cons_append, List.nil_append, TValue.D, cells_i, cells_b, cells_s, cells_y, cells_l, cells_agg] using hh
theorem read_TSlot_66 : ReadsAs Try.prog 66 TSlot.D TSlot.Wf := by
  refine reads_struct (n := 5) Try.underlying66 (by kernel_rfl) ?_
  intro H enc w sp held fuel cs hlen hf
  have hf2 := fun (i : Nat) (g : Field) h => hf g (List.mem_of_getElem? (i := i) h)
  have c0 : Try.prog.cellsOf 3 = 1 := by kernel_rfl
  obtain ⟨x0, h0⟩ : ∃ x, DataW.trod enc Try.prog w 0 sp held fuel 3 ((cs.drop 0).take (Try.prog.cellsOf 3)) = some x := hf2 0 _ rfl
  rw [c0] at h0
  obtain ⟨v0, r0, w0⟩ := (reads_int Try.underlying3) enc w sp held fuel _ _ h0
  have c1 : Try.prog.cellsOf 64 = 4 := by kernel_rfl
  obtain ⟨x1, h1⟩ : ∃ x, DataW.trod enc Try.prog w 0 sp held fuel 64 ((cs.drop 1).take (Try.prog.cellsOf 64)) = some x := hf2 1 _ rfl
  rw [c1] at h1
  obtain ⟨v1, r1, w1⟩ := read_TValue_64 enc w sp held fuel _ _ h1
  have hh := RDs_field (o := 0) (k := 1) r0 (RDs_field (o := 1) (k := 4) r1 (show RDs (hOf w) w [] (cs.drop 5) from by rw [List.drop_eq_nil_of_le (by omega)]; simp [RDs]))
  refine ⟨⟨v0, v1⟩, ?_, w0, w1⟩
  simpa only [List.drop_zero, List.append_nil, List.append_assoc, List.cons_append, List.nil_append, TSlot.D, cells_i, cells_b, cells_s, cells_y, cells_l, cells_agg] using hh
theorem read_Tproctorlaw24_Act_35 : ReadsAs Try.prog 35 Tproctorlaw24_Act.D Tproctorlaw24_Act.Wf := by
  refine reads_struct (n := 4) Try.underlying35 (by kernel_rfl) ?_
  intro H enc w sp held fuel cs hlen hf
  have hf2 := fun (i : Nat) (g : Field) h => hf g (List.mem_of_getElem? (i := i) h)
  have c0 : Try.prog.cellsOf 3 = 1 := by kernel_rfl
  obtain ⟨x0, h0⟩ : ∃ x, DataW.trod enc Try.prog w 0 sp held fuel 3 ((cs.drop 0).take (Try.prog.cellsOf 3)) = some x := hf2 0 _ rfl
  rw [c0] at h0
  obtain ⟨v0, r0, w0⟩ := (reads_int Try.underlying3) enc w sp held fuel _ _ h0
  have c1 : Try.prog.cellsOf 3 = 1 := by kernel_rfl
  obtain ⟨x1, h1⟩ : ∃ x, DataW.trod enc Try.prog w 0 sp held fuel 3 ((cs.drop 1).take (Try.prog.cellsOf 3)) = some x := hf2 1 _ rfl
  rw [c1] at h1
  obtain ⟨v1, r1, w1⟩ := (reads_int Try.underlying3) enc w sp held fuel _ _ h1
  have c2 : Try.prog.cellsOf 33 = 1 := by kernel_rfl
  obtain ⟨x2, h2⟩ : ∃ x, DataW.trod enc Try.prog w 0 sp held fuel 33 ((cs.drop 2).take (Try.prog.cellsOf 33)) = some x := hf2 2 _ rfl
  rw [c2] at h2
  obtain ⟨v2, r2, w2⟩ := (reads_slice Try.underlying33 (by kernel_rfl) read_TSlot_66) enc w sp held fuel _ _ h2
  have c3 : Try.prog.cellsOf 3 = 1 := by kernel_rfl
  obtain ⟨x3, h3⟩ : ∃ x, DataW.trod enc Try.prog w 0 sp held fuel 3 ((cs.drop 3).take (Try.prog.cellsOf 3)) = some x := hf2 3 _ rfl
  rw [c3] at h3
  obtain ⟨v3, r3, w3⟩ := (reads_int Try.underlying3) enc w sp held fuel _ _ h3
  have hh := RDs_field (o := 0) (k := 1) r0 (RDs_field (o := 1) (k := 1) r1 (RDs_field (o := 2) (k := 1) r2 (RDs_field (o := 3) (k := 1) r3 (show RDs (hOf w) w [] (cs.drop 4) from by rw [List.drop_eq_nil_of_le (by omega)]; simp [RDs]))))
  refine ⟨⟨v0, v1, v2, v3⟩, ?_, w0, w1, w2, w3⟩
  simpa only [List.drop_zero, List.append_nil, List.append_assoc, List.cons_append, List.nil_append, Tproctorlaw24_Act.D, cells_i, cells_b, cells_s, cells_y, cells_l, cells_agg] using hh
theorem law24_TableNone_plain {a0 : Tproctorlaw24_Act} (h : Tproctorlaw24_Act.Wf a0) : law24_TableNone a0 = some true := law24_TableNone_eq a0 h.2.2.1.1
open Go.ChangeShapes Go.WideShapes Go.ChangeAt Go.RowKit
theorem law24_TableNone_own : ownKnob Try.prog.godebug = none := by kernel_rfl
set_option maxRecDepth 100000 in
theorem law24_TableNone_contract {H : Type} {enc : TypeId × Value → H} (W : World) (base : Nat) (args : Array Value) (ds gs : List (DataW H)) (before : List MemPlace)
    (hval : ∀ (j : Nat) t v, Try.f4.params[j]? = some t → args[j]? = some v → Value.okWide Try.prog W .any base t v)
    (hW : DataW.Whole enc Try.prog Try.f4.params.toList Go.Proofs.Ythabonnegobedaa.Rows.tableNoneSpec.vars false W args.toList ds gs before) :
    Calls Try.prog 4 args W fun e W' => ∃ v, e = .returned v ∧ Go.Proofs.Ythabonnegobedaa.Rows.tableNoneSpec.post enc Try.prog Try.f4 false true false false W args v W' := by
  refine law_contract (tb := 4) (by kernel_rfl) (by kernel_rfl) (by kernel_rfl) Try.underlying4 (by rfl) ?_ hW ?_
  · intro ds hd
    rw [Try.params4] at hd
    match ds, hd with
    | [d0], _ => rfl
  · obtain ⟨p, q, hA, _, _, _, _⟩ := hW
    rw [Try.params4] at hA hval
    have hA2 : DataW.TrodAll enc Try.prog W 0 (fun _ => true) true [35] args.toList ds p := hA
    obtain ⟨v0, vs0, d0, ds0, p0, q0, hargs0, rfl, rfl, h0, r0⟩ := trodAll_cons hA2
    obtain ⟨rfl, rfl, rfl⟩ := trodAll_nil r0
    obtain rfl : args = #[v0] := by cases args; simp_all
    obtain ⟨a0, ra0, wa0⟩ := arg_readsS read_Tproctorlaw24_Act_35 h0 (fun a => ⟨_, rfl⟩) (hval 0 35 v0 rfl rfl) Try.underlying35
    refine ⟨[.d (Tproctorlaw24_Act.D a0)], ?_, law24_TableNone_ok a0 true (law24_TableNone_plain wa0)⟩
    simp only [RAs, RA]
    exact ⟨v0, _, rfl, ra0, rfl⟩
set_option maxRecDepth 100000 in
theorem law24_TableNone_lifted (os : Os) (started : os.Started) (H : Type) (enc : TypeId × Value → H) :
    ReturnsInHanded {} Try.checked os 4 .any (Go.Proofs.Ythabonnegobedaa.Rows.tableNoneSpec.pre6 enc Try.prog Try.f4 Go.Proofs.Ythabonnegobedaa.Rows.tableNoneRow.domain false) (Go.Proofs.Ythabonnegobedaa.Rows.tableNoneSpec.post enc Try.prog Try.f4 false true false false) := by
  refine returnsInHanded_of_change (C := Try.checked) law24_TableNone_own started (by kernel_rfl) Try.func4
    (ChangeSpec.witness6 (enc := enc) (C := Try.checked) false ⟨#[], #[.agg #[.int .i64 0, .int .i64 0, .slice none 0 0, .int .i64 0]], []⟩ 8 (by kernel_rfl) (by kernel_rfl) (by kernel_rfl) (by kernel_rfl)) ?_
  intro W base args ds gs before hval hW _ _
  exact law24_TableNone_contract W base args ds gs before hval hW
end Go.Ac
namespace Go.Proofs.Ythabonnegobedaa
open Go.Ac
theorem TableNoneSaid_holds : Rows.TableNoneSaid :=
  OpenClaim.holds_of_wide 4 Try.f4 rfl rfl rfl rfl rfl rfl rfl ⟨rfl, rfl, rfl, rfl, rfl⟩ rfl rfl rfl rfl rfl (by kernel_rfl) Try.func4 (by kernel_rfl)
    (of_decide_eq_true (by kernel_rfl)) (by unfold Func.isWrapper; first | (rw [if_pos (by decide +kernel)]; kernel_rfl) | (rw [if_neg (by decide +kernel)]; exact ⟨rfl, rfl⟩))
    (fun os started H enc _ => law24_TableNone_lifted os started H enc)
end Go.Proofs.Ythabonnegobedaa
