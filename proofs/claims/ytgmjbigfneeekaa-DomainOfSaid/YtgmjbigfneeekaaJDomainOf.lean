/- Own work: the statement, joined of its parts; it holds for every input. -/
import Derived.Test.YtgmjbigfneeekaaP20O
import Derived.Test.YtgmjbigfneeekaaWa20cx3
import Derived.Test.YtgmjbigfneeekaaAc23
import Derived.Test.YtgmjbigfneeekaaRows
set_option linter.unusedVariables false
set_option linter.unusedSimpArgs false
set_option linter.unusedVariables false
set_option linter.unusedSimpArgs false
namespace Go.Ac
open Go.Proofs
theorem i64_wf {n : Int} (h : (Lit.int .i64 n).wf = true) : -9223372036854775808 ≤ n ∧ n ≤ 9223372036854775807 := by simpa [Lit.wf, IntKind.min, IntKind.max, IntKind.signed, IntKind.bits] using h
def TDecl.Wf (v : TDecl) : Prop := (fun l => l.length ≤ 9223372036854775807) v.name ∧ (fun l => l.length ≤ 9223372036854775807 ∧ ∀ x ∈ l, (fun n => (Lit.int .i64 n).wf = true) x) v.types
def TQuant.Wf (v : TQuant) : Prop := True ∧ (fun l => l.length ≤ 9223372036854775807) v.name ∧ (fun n => (Lit.int .i64 n).wf = true) v.type
def TValue.Wf (v : TValue) : Prop := (fun n => (Lit.int .i64 n).wf = true) v.kind ∧ (fun n => (Lit.int .i64 n).wf = true) v.int ∧ (fun l => l.length ≤ 9223372036854775807) v.str ∧ True
def TFree.Wf (v : TFree) : Prop := (fun l => l.length ≤ 9223372036854775807) v.name ∧ TValue.Wf v.init_
def TState.Wf (v : TState) : Prop := (fun l => l.length ≤ 9223372036854775807) v.name ∧ True ∧ True
def TArg.Wf (v : TArg) : Prop := (fun n => (Lit.int .i64 n).wf = true) v.kind ∧ (fun n => (Lit.int .i64 n).wf = true) v.n ∧ TValue.Wf v.value
def TSymbol.Wf (v : TSymbol) : Prop := (fun n => (Lit.int .i64 n).wf = true) v.event ∧ (fun l => l.length ≤ 9223372036854775807 ∧ ∀ x ∈ l, TArg.Wf x) v.args
def TNode.Wf (v : TNode) : Prop := (fun n => (Lit.int .i64 n).wf = true) v.op ∧ (fun n => (Lit.int .i64 n).wf = true) v.a ∧ (fun n => (Lit.int .i64 n).wf = true) v.b ∧ TValue.Wf v.value
def TSet.Wf (v : TSet) : Prop := (fun n => (Lit.int .i64 n).wf = true) v.free ∧ (fun n => (Lit.int .i64 n).wf = true) v.expr
def TTrans.Wf (v : TTrans) : Prop := (fun n => (Lit.int .i64 n).wf = true) v.from_ ∧ (fun n => (Lit.int .i64 n).wf = true) v.symbol ∧ (fun n => (Lit.int .i64 n).wf = true) v.to ∧ (fun n => (Lit.int .i64 n).wf = true) v.guard ∧ (fun l => l.length ≤ 9223372036854775807 ∧ ∀ x ∈ l, TSet.Wf x) v.sets
def TQea.Wf (v : TQea) : Prop := (fun l => l.length ≤ 9223372036854775807) v.name ∧ (fun l => l.length ≤ 9223372036854775807 ∧ ∀ x ∈ l, TDecl.Wf x) v.decls ∧ (fun l => l.length ≤ 9223372036854775807 ∧ ∀ x ∈ l, TQuant.Wf x) v.quants ∧ (fun l => l.length ≤ 9223372036854775807 ∧ ∀ x ∈ l, TFree.Wf x) v.frees ∧ (fun l => l.length ≤ 9223372036854775807 ∧ ∀ x ∈ l, TState.Wf x) v.states ∧ (fun n => (Lit.int .i64 n).wf = true) v.start ∧ (fun l => l.length ≤ 9223372036854775807 ∧ ∀ x ∈ l, TSymbol.Wf x) v.symbols ∧ (fun l => l.length ≤ 9223372036854775807 ∧ ∀ x ∈ l, TNode.Wf x) v.nodes ∧ (fun l => l.length ≤ 9223372036854775807 ∧ ∀ x ∈ l, TTrans.Wf x) v.trans
def TEvent.Wf (v : TEvent) : Prop := (fun l => l.length ≤ 9223372036854775807) v.name ∧ (fun l => l.length ≤ 9223372036854775807 ∧ ∀ x ∈ l, TValue.Wf x) v.args
theorem read_TDecl_98 : ReadsAs Try.prog 98 TDecl.D TDecl.Wf := by
  refine reads_struct (n := 2) Try.underlying98 (by kernel_rfl) ?_
  intro H enc w sp held fuel cs hlen hf
  have hf2 := fun (i : Nat) (g : Field) h => hf g (List.mem_of_getElem? (i := i) h)
  have c0 : Try.prog.cellsOf 9 = 1 := by kernel_rfl
  obtain ⟨x0, h0⟩ : ∃ x, DataW.trod enc Try.prog w 0 sp held fuel 9 ((cs.drop 0).take (Try.prog.cellsOf 9)) = some x := hf2 0 _ rfl
  rw [c0] at h0
  obtain ⟨v0, r0, w0⟩ := (reads_string Try.underlying9) enc w sp held fuel _ _ h0
  have c1 : Try.prog.cellsOf 40 = 1 := by kernel_rfl
  obtain ⟨x1, h1⟩ : ∃ x, DataW.trod enc Try.prog w 0 sp held fuel 40 ((cs.drop 1).take (Try.prog.cellsOf 40)) = some x := hf2 1 _ rfl
  rw [c1] at h1
  obtain ⟨v1, r1, w1⟩ := (reads_slice Try.underlying40 (by kernel_rfl) (reads_int Try.underlying3)) enc w sp held fuel _ _ h1
  have hh := RDs_field (o := 0) (k := 1) r0 (RDs_field (o := 1) (k := 1) r1 (show RDs (hOf w) w [] (cs.drop 2) from by rw [List.drop_eq_nil_of_le (by omega)]; simp [RDs]))
  refine ⟨⟨v0, v1⟩, ?_, w0, w1⟩
  simpa only [List.drop_zero, List.append_nil, List.append_assoc, List.cons_append, List.nil_append, TDecl.D, cells_i, cells_b, cells_s, cells_y, cells_l, cells_agg] using hh
theorem read_TQuant_61 : ReadsAs Try.prog 61 TQuant.D TQuant.Wf := by
  refine reads_struct (n := 3) Try.underlying61 (by kernel_rfl) ?_
  intro H enc w sp held fuel cs hlen hf
  have hf2 := fun (i : Nat) (g : Field) h => hf g (List.mem_of_getElem? (i := i) h)
  have c0 : Try.prog.cellsOf 4 = 1 := by kernel_rfl
  obtain ⟨x0, h0⟩ : ∃ x, DataW.trod enc Try.prog w 0 sp held fuel 4 ((cs.drop 0).take (Try.prog.cellsOf 4)) = some x := hf2 0 _ rfl
  rw [c0] at h0
  obtain ⟨v0, r0, w0⟩ := (reads_bool Try.underlying4) enc w sp held fuel _ _ h0
  have c1 : Try.prog.cellsOf 9 = 1 := by kernel_rfl
  obtain ⟨x1, h1⟩ : ∃ x, DataW.trod enc Try.prog w 0 sp held fuel 9 ((cs.drop 1).take (Try.prog.cellsOf 9)) = some x := hf2 1 _ rfl
  rw [c1] at h1
  obtain ⟨v1, r1, w1⟩ := (reads_string Try.underlying9) enc w sp held fuel _ _ h1
  have c2 : Try.prog.cellsOf 3 = 1 := by kernel_rfl
  obtain ⟨x2, h2⟩ : ∃ x, DataW.trod enc Try.prog w 0 sp held fuel 3 ((cs.drop 2).take (Try.prog.cellsOf 3)) = some x := hf2 2 _ rfl
  rw [c2] at h2
  obtain ⟨v2, r2, w2⟩ := (reads_int Try.underlying3) enc w sp held fuel _ _ h2
  have hh := RDs_field (o := 0) (k := 1) r0 (RDs_field (o := 1) (k := 1) r1 (RDs_field (o := 2) (k := 1) r2 (show RDs (hOf w) w [] (cs.drop 3) from by rw [List.drop_eq_nil_of_le (by omega)]; simp [RDs])))
  refine ⟨⟨v0, v1, v2⟩, ?_, w0, w1, w2⟩
  simpa only [List.drop_zero, List.append_nil, List.append_assoc, List.cons_append, List.nil_append, TQuant.D, cells_i, cells_b, cells_s, cells_y, cells_l, cells_agg] using hh
theorem read_TValue_26 : ReadsAs Try.prog 26 TValue.D TValue.Wf := by
  refine reads_struct (n := 4) Try.underlying26 (by kernel_rfl) ?_
  intro H enc w sp held fuel cs hlen hf
  have hf2 := fun (i : Nat) (g : Field) h => hf g (List.mem_of_getElem? (i := i) h)
  have c0 : Try.prog.cellsOf 3 = 1 := by kernel_rfl
  obtain ⟨x0, h0⟩ : ∃ x, DataW.trod enc Try.prog w 0 sp held fuel 3 ((cs.drop 0).take (Try.prog.cellsOf 3)) = some x := hf2 0 _ rfl
  rw [c0] at h0
  obtain ⟨v0, r0, w0⟩ := (reads_int Try.underlying3) enc w sp held fuel _ _ h0
  have c1 : Try.prog.cellsOf 2 = 1 := by kernel_rfl
  obtain ⟨x1, h1⟩ : ∃ x, DataW.trod enc Try.prog w 0 sp held fuel 2 ((cs.drop 1).take (Try.prog.cellsOf 2)) = some x := hf2 1 _ rfl
  rw [c1] at h1
  obtain ⟨v1, r1, w1⟩ := (reads_int Try.underlying2) enc w sp held fuel _ _ h1
  have c2 : Try.prog.cellsOf 9 = 1 := by kernel_rfl
  obtain ⟨x2, h2⟩ : ∃ x, DataW.trod enc Try.prog w 0 sp held fuel 9 ((cs.drop 2).take (Try.prog.cellsOf 9)) = some x := hf2 2 _ rfl
  rw [c2] at h2
  obtain ⟨v2, r2, w2⟩ := (reads_string Try.underlying9) enc w sp held fuel _ _ h2
  have c3 : Try.prog.cellsOf 4 = 1 := by kernel_rfl
  obtain ⟨x3, h3⟩ : ∃ x, DataW.trod enc Try.prog w 0 sp held fuel 4 ((cs.drop 3).take (Try.prog.cellsOf 4)) = some x := hf2 3 _ rfl
  rw [c3] at h3
  obtain ⟨v3, r3, w3⟩ := (reads_bool Try.underlying4) enc w sp held fuel _ _ h3
  have hh := RDs_field (o := 0) (k := 1) r0 (RDs_field (o := 1) (k := 1) r1 (RDs_field (o := 2) (k := 1) r2 (RDs_field (o := 3) (k := 1) r3 (show RDs (hOf w) w [] (cs.drop 4) from by rw [List.drop_eq_nil_of_le (by omega)]; simp [RDs]))))
  refine ⟨⟨v0, v1, v2, v3⟩, ?_, w0, w1, w2, w3⟩
  simpa only [List.drop_zero, List.append_nil, List.append_assoc, List.cons_append, List.nil_append, TValue.D, cells_i, cells_b, cells_s, cells_y, cells_l, cells_agg] using hh
theorem read_TFree_105 : ReadsAs Try.prog 105 TFree.D TFree.Wf := by
  refine reads_struct (n := 5) Try.underlying105 (by kernel_rfl) ?_
  intro H enc w sp held fuel cs hlen hf
  have hf2 := fun (i : Nat) (g : Field) h => hf g (List.mem_of_getElem? (i := i) h)
  have c0 : Try.prog.cellsOf 9 = 1 := by kernel_rfl
  obtain ⟨x0, h0⟩ : ∃ x, DataW.trod enc Try.prog w 0 sp held fuel 9 ((cs.drop 0).take (Try.prog.cellsOf 9)) = some x := hf2 0 _ rfl
  rw [c0] at h0
  obtain ⟨v0, r0, w0⟩ := (reads_string Try.underlying9) enc w sp held fuel _ _ h0
  have c1 : Try.prog.cellsOf 26 = 4 := by kernel_rfl
  obtain ⟨x1, h1⟩ : ∃ x, DataW.trod enc Try.prog w 0 sp held fuel 26 ((cs.drop 1).take (Try.prog.cellsOf 26)) = some x := hf2 1 _ rfl
  rw [c1] at h1
  obtain ⟨v1, r1, w1⟩ := read_TValue_26 enc w sp held fuel _ _ h1
  have hh := RDs_field (o := 0) (k := 1) r0 (RDs_field (o := 1) (k := 4) r1 (show RDs (hOf w) w [] (cs.drop 5) from by rw [List.drop_eq_nil_of_le (by omega)]; simp [RDs]))
  refine ⟨⟨v0, v1⟩, ?_, w0, w1⟩
  simpa only [List.drop_zero, List.append_nil, List.append_assoc, List.cons_append, List.nil_append, TFree.D, cells_i, cells_b, cells_s, cells_y, cells_l, cells_agg] using hh
theorem read_TState_130 : ReadsAs Try.prog 130 TState.D TState.Wf := by
  refine reads_struct (n := 3) Try.underlying130 (by kernel_rfl) ?_
  intro H enc w sp held fuel cs hlen hf
  have hf2 := fun (i : Nat) (g : Field) h => hf g (List.mem_of_getElem? (i := i) h)
  have c0 : Try.prog.cellsOf 9 = 1 := by kernel_rfl
  obtain ⟨x0, h0⟩ : ∃ x, DataW.trod enc Try.prog w 0 sp held fuel 9 ((cs.drop 0).take (Try.prog.cellsOf 9)) = some x := hf2 0 _ rfl
  rw [c0] at h0
  obtain ⟨v0, r0, w0⟩ := (reads_string Try.underlying9) enc w sp held fuel _ _ h0
  have c1 : Try.prog.cellsOf 4 = 1 := by kernel_rfl
  obtain ⟨x1, h1⟩ : ∃ x, DataW.trod enc Try.prog w 0 sp held fuel 4 ((cs.drop 1).take (Try.prog.cellsOf 4)) = some x := hf2 1 _ rfl
  rw [c1] at h1
  obtain ⟨v1, r1, w1⟩ := (reads_bool Try.underlying4) enc w sp held fuel _ _ h1
  have c2 : Try.prog.cellsOf 4 = 1 := by kernel_rfl
  obtain ⟨x2, h2⟩ : ∃ x, DataW.trod enc Try.prog w 0 sp held fuel 4 ((cs.drop 2).take (Try.prog.cellsOf 4)) = some x := hf2 2 _ rfl
  rw [c2] at h2
  obtain ⟨v2, r2, w2⟩ := (reads_bool Try.underlying4) enc w sp held fuel _ _ h2
  have hh := RDs_field (o := 0) (k := 1) r0 (RDs_field (o := 1) (k := 1) r1 (RDs_field (o := 2) (k := 1) r2 (show RDs (hOf w) w [] (cs.drop 3) from by rw [List.drop_eq_nil_of_le (by omega)]; simp [RDs])))
  refine ⟨⟨v0, v1, v2⟩, ?_, w0, w1, w2⟩
  simpa only [List.drop_zero, List.append_nil, List.append_assoc, List.cons_append, List.nil_append, TState.D, cells_i, cells_b, cells_s, cells_y, cells_l, cells_agg] using hh
theorem read_TArg_103 : ReadsAs Try.prog 103 TArg.D TArg.Wf := by
  refine reads_struct (n := 6) Try.underlying103 (by kernel_rfl) ?_
  intro H enc w sp held fuel cs hlen hf
  have hf2 := fun (i : Nat) (g : Field) h => hf g (List.mem_of_getElem? (i := i) h)
  have c0 : Try.prog.cellsOf 3 = 1 := by kernel_rfl
  obtain ⟨x0, h0⟩ : ∃ x, DataW.trod enc Try.prog w 0 sp held fuel 3 ((cs.drop 0).take (Try.prog.cellsOf 3)) = some x := hf2 0 _ rfl
  rw [c0] at h0
  obtain ⟨v0, r0, w0⟩ := (reads_int Try.underlying3) enc w sp held fuel _ _ h0
  have c1 : Try.prog.cellsOf 3 = 1 := by kernel_rfl
  obtain ⟨x1, h1⟩ : ∃ x, DataW.trod enc Try.prog w 0 sp held fuel 3 ((cs.drop 1).take (Try.prog.cellsOf 3)) = some x := hf2 1 _ rfl
  rw [c1] at h1
  obtain ⟨v1, r1, w1⟩ := (reads_int Try.underlying3) enc w sp held fuel _ _ h1
  have c2 : Try.prog.cellsOf 26 = 4 := by kernel_rfl
  obtain ⟨x2, h2⟩ : ∃ x, DataW.trod enc Try.prog w 0 sp held fuel 26 ((cs.drop 2).take (Try.prog.cellsOf 26)) = some x := hf2 2 _ rfl
  rw [c2] at h2
  obtain ⟨v2, r2, w2⟩ := read_TValue_26 enc w sp held fuel _ _ h2
  have hh := RDs_field (o := 0) (k := 1) r0 (RDs_field (o := 1) (k := 1) r1 (RDs_field (o := 2) (k := 4) r2 (show RDs (hOf w) w [] (cs.drop 6) from by rw [List.drop_eq_nil_of_le (by omega)]; simp [RDs])))
  refine ⟨⟨v0, v1, v2⟩, ?_, w0, w1, w2⟩
  simpa only [List.drop_zero, List.append_nil, List.append_assoc, List.cons_append, List.nil_append, TArg.D, cells_i, cells_b, cells_s, cells_y, cells_l, cells_agg] using hh
theorem read_TSymbol_101 : ReadsAs Try.prog 101 TSymbol.D TSymbol.Wf := by
  refine reads_struct (n := 2) Try.underlying101 (by kernel_rfl) ?_
  intro H enc w sp held fuel cs hlen hf
  have hf2 := fun (i : Nat) (g : Field) h => hf g (List.mem_of_getElem? (i := i) h)
  have c0 : Try.prog.cellsOf 3 = 1 := by kernel_rfl
  obtain ⟨x0, h0⟩ : ∃ x, DataW.trod enc Try.prog w 0 sp held fuel 3 ((cs.drop 0).take (Try.prog.cellsOf 3)) = some x := hf2 0 _ rfl
  rw [c0] at h0
  obtain ⟨v0, r0, w0⟩ := (reads_int Try.underlying3) enc w sp held fuel _ _ h0
  have c1 : Try.prog.cellsOf 99 = 1 := by kernel_rfl
  obtain ⟨x1, h1⟩ : ∃ x, DataW.trod enc Try.prog w 0 sp held fuel 99 ((cs.drop 1).take (Try.prog.cellsOf 99)) = some x := hf2 1 _ rfl
  rw [c1] at h1
  obtain ⟨v1, r1, w1⟩ := (reads_slice Try.underlying99 (by kernel_rfl) read_TArg_103) enc w sp held fuel _ _ h1
  have hh := RDs_field (o := 0) (k := 1) r0 (RDs_field (o := 1) (k := 1) r1 (show RDs (hOf w) w [] (cs.drop 2) from by rw [List.drop_eq_nil_of_le (by omega)]; simp [RDs]))
  refine ⟨⟨v0, v1⟩, ?_, w0, w1⟩
  simpa only [List.drop_zero, List.append_nil, List.append_assoc, List.cons_append, List.nil_append, TSymbol.D, cells_i, cells_b, cells_s, cells_y, cells_l, cells_agg] using hh
theorem read_TNode_107 : ReadsAs Try.prog 107 TNode.D TNode.Wf := by
  refine reads_struct (n := 7) Try.underlying107 (by kernel_rfl) ?_
  intro H enc w sp held fuel cs hlen hf
  have hf2 := fun (i : Nat) (g : Field) h => hf g (List.mem_of_getElem? (i := i) h)
  have c0 : Try.prog.cellsOf 3 = 1 := by kernel_rfl
  obtain ⟨x0, h0⟩ : ∃ x, DataW.trod enc Try.prog w 0 sp held fuel 3 ((cs.drop 0).take (Try.prog.cellsOf 3)) = some x := hf2 0 _ rfl
  rw [c0] at h0
  obtain ⟨v0, r0, w0⟩ := (reads_int Try.underlying3) enc w sp held fuel _ _ h0
  have c1 : Try.prog.cellsOf 3 = 1 := by kernel_rfl
  obtain ⟨x1, h1⟩ : ∃ x, DataW.trod enc Try.prog w 0 sp held fuel 3 ((cs.drop 1).take (Try.prog.cellsOf 3)) = some x := hf2 1 _ rfl
  rw [c1] at h1
  obtain ⟨v1, r1, w1⟩ := (reads_int Try.underlying3) enc w sp held fuel _ _ h1
  have c2 : Try.prog.cellsOf 3 = 1 := by kernel_rfl
  obtain ⟨x2, h2⟩ : ∃ x, DataW.trod enc Try.prog w 0 sp held fuel 3 ((cs.drop 2).take (Try.prog.cellsOf 3)) = some x := hf2 2 _ rfl
  rw [c2] at h2
  obtain ⟨v2, r2, w2⟩ := (reads_int Try.underlying3) enc w sp held fuel _ _ h2
  have c3 : Try.prog.cellsOf 26 = 4 := by kernel_rfl
  obtain ⟨x3, h3⟩ : ∃ x, DataW.trod enc Try.prog w 0 sp held fuel 26 ((cs.drop 3).take (Try.prog.cellsOf 26)) = some x := hf2 3 _ rfl
  rw [c3] at h3
  obtain ⟨v3, r3, w3⟩ := read_TValue_26 enc w sp held fuel _ _ h3
  have hh := RDs_field (o := 0) (k := 1) r0 (RDs_field (o := 1) (k := 1) r1 (RDs_field (o := 2) (k := 1) r2 (RDs_field (o := 3) (k := 4) r3 (show RDs (hOf w) w [] (cs.drop 7) from by rw [List.drop_eq_nil_of_le (by omega)]; simp [RDs]))))
  refine ⟨⟨v0, v1, v2, v3⟩, ?_, w0, w1, w2, w3⟩
  simpa only [List.drop_zero, List.append_nil, List.append_assoc, List.cons_append, List.nil_append, TNode.D, cells_i, cells_b, cells_s, cells_y, cells_l, cells_agg] using hh
theorem read_TSet_133 : ReadsAs Try.prog 133 TSet.D TSet.Wf := by
  refine reads_struct (n := 2) Try.underlying133 (by kernel_rfl) ?_
  intro H enc w sp held fuel cs hlen hf
  have hf2 := fun (i : Nat) (g : Field) h => hf g (List.mem_of_getElem? (i := i) h)
  have c0 : Try.prog.cellsOf 3 = 1 := by kernel_rfl
  obtain ⟨x0, h0⟩ : ∃ x, DataW.trod enc Try.prog w 0 sp held fuel 3 ((cs.drop 0).take (Try.prog.cellsOf 3)) = some x := hf2 0 _ rfl
  rw [c0] at h0
  obtain ⟨v0, r0, w0⟩ := (reads_int Try.underlying3) enc w sp held fuel _ _ h0
  have c1 : Try.prog.cellsOf 3 = 1 := by kernel_rfl
  obtain ⟨x1, h1⟩ : ∃ x, DataW.trod enc Try.prog w 0 sp held fuel 3 ((cs.drop 1).take (Try.prog.cellsOf 3)) = some x := hf2 1 _ rfl
  rw [c1] at h1
  obtain ⟨v1, r1, w1⟩ := (reads_int Try.underlying3) enc w sp held fuel _ _ h1
  have hh := RDs_field (o := 0) (k := 1) r0 (RDs_field (o := 1) (k := 1) r1 (show RDs (hOf w) w [] (cs.drop 2) from by rw [List.drop_eq_nil_of_le (by omega)]; simp [RDs]))
  refine ⟨⟨v0, v1⟩, ?_, w0, w1⟩
  simpa only [List.drop_zero, List.append_nil, List.append_assoc, List.cons_append, List.nil_append, TSet.D, cells_i, cells_b, cells_s, cells_y, cells_l, cells_agg] using hh
theorem read_TTrans_110 : ReadsAs Try.prog 110 TTrans.D TTrans.Wf := by
  refine reads_struct (n := 5) Try.underlying110 (by kernel_rfl) ?_
  intro H enc w sp held fuel cs hlen hf
  have hf2 := fun (i : Nat) (g : Field) h => hf g (List.mem_of_getElem? (i := i) h)
  have c0 : Try.prog.cellsOf 3 = 1 := by kernel_rfl
  obtain ⟨x0, h0⟩ : ∃ x, DataW.trod enc Try.prog w 0 sp held fuel 3 ((cs.drop 0).take (Try.prog.cellsOf 3)) = some x := hf2 0 _ rfl
  rw [c0] at h0
  obtain ⟨v0, r0, w0⟩ := (reads_int Try.underlying3) enc w sp held fuel _ _ h0
  have c1 : Try.prog.cellsOf 3 = 1 := by kernel_rfl
  obtain ⟨x1, h1⟩ : ∃ x, DataW.trod enc Try.prog w 0 sp held fuel 3 ((cs.drop 1).take (Try.prog.cellsOf 3)) = some x := hf2 1 _ rfl
  rw [c1] at h1
  obtain ⟨v1, r1, w1⟩ := (reads_int Try.underlying3) enc w sp held fuel _ _ h1
  have c2 : Try.prog.cellsOf 3 = 1 := by kernel_rfl
  obtain ⟨x2, h2⟩ : ∃ x, DataW.trod enc Try.prog w 0 sp held fuel 3 ((cs.drop 2).take (Try.prog.cellsOf 3)) = some x := hf2 2 _ rfl
  rw [c2] at h2
  obtain ⟨v2, r2, w2⟩ := (reads_int Try.underlying3) enc w sp held fuel _ _ h2
  have c3 : Try.prog.cellsOf 3 = 1 := by kernel_rfl
  obtain ⟨x3, h3⟩ : ∃ x, DataW.trod enc Try.prog w 0 sp held fuel 3 ((cs.drop 3).take (Try.prog.cellsOf 3)) = some x := hf2 3 _ rfl
  rw [c3] at h3
  obtain ⟨v3, r3, w3⟩ := (reads_int Try.underlying3) enc w sp held fuel _ _ h3
  have c4 : Try.prog.cellsOf 108 = 1 := by kernel_rfl
  obtain ⟨x4, h4⟩ : ∃ x, DataW.trod enc Try.prog w 0 sp held fuel 108 ((cs.drop 4).take (Try.prog.cellsOf 108)) = some x := hf2 4 _ rfl
  rw [c4] at h4
  obtain ⟨v4, r4, w4⟩ := (reads_slice Try.underlying108 (by kernel_rfl) read_TSet_133) enc w sp held fuel _ _ h4
  have hh := RDs_field (o := 0) (k := 1) r0 (RDs_field (o := 1) (k := 1) r1 (RDs_field (o := 2) (k := 1) r2 (RDs_field (o := 3) (k := 1) r3 (RDs_field (o := 4) (k := 1) r4 (show RDs (hOf w) w [] (cs.drop 5) from by rw [List.drop_eq_nil_of_le (by omega)]; simp [RDs])))))
  refine ⟨⟨v0, v1, v2, v3, v4⟩, ?_, w0, w1, w2, w3, w4⟩
  simpa only [List.drop_zero, List.append_nil, List.append_assoc, List.cons_append, List.nil_append, TTrans.D, cells_i, cells_b, cells_s, cells_y, cells_l, cells_agg] using hh
theorem read_TQea_51 : ReadsAs Try.prog 51 TQea.D TQea.Wf := by
  refine reads_struct (n := 9) Try.underlying51 (by kernel_rfl) ?_
  intro H enc w sp held fuel cs hlen hf
  have hf2 := fun (i : Nat) (g : Field) h => hf g (List.mem_of_getElem? (i := i) h)
  have c0 : Try.prog.cellsOf 9 = 1 := by kernel_rfl
  obtain ⟨x0, h0⟩ : ∃ x, DataW.trod enc Try.prog w 0 sp held fuel 9 ((cs.drop 0).take (Try.prog.cellsOf 9)) = some x := hf2 0 _ rfl
  rw [c0] at h0
  obtain ⟨v0, r0, w0⟩ := (reads_string Try.underlying9) enc w sp held fuel _ _ h0
  have c1 : Try.prog.cellsOf 43 = 1 := by kernel_rfl
  obtain ⟨x1, h1⟩ : ∃ x, DataW.trod enc Try.prog w 0 sp held fuel 43 ((cs.drop 1).take (Try.prog.cellsOf 43)) = some x := hf2 1 _ rfl
  rw [c1] at h1
  obtain ⟨v1, r1, w1⟩ := (reads_slice Try.underlying43 (by kernel_rfl) read_TDecl_98) enc w sp held fuel _ _ h1
  have c2 : Try.prog.cellsOf 44 = 1 := by kernel_rfl
  obtain ⟨x2, h2⟩ : ∃ x, DataW.trod enc Try.prog w 0 sp held fuel 44 ((cs.drop 2).take (Try.prog.cellsOf 44)) = some x := hf2 2 _ rfl
  rw [c2] at h2
  obtain ⟨v2, r2, w2⟩ := (reads_slice Try.underlying44 (by kernel_rfl) read_TQuant_61) enc w sp held fuel _ _ h2
  have c3 : Try.prog.cellsOf 45 = 1 := by kernel_rfl
  obtain ⟨x3, h3⟩ : ∃ x, DataW.trod enc Try.prog w 0 sp held fuel 45 ((cs.drop 3).take (Try.prog.cellsOf 45)) = some x := hf2 3 _ rfl
  rw [c3] at h3
  obtain ⟨v3, r3, w3⟩ := (reads_slice Try.underlying45 (by kernel_rfl) read_TFree_105) enc w sp held fuel _ _ h3
  have c4 : Try.prog.cellsOf 46 = 1 := by kernel_rfl
  obtain ⟨x4, h4⟩ : ∃ x, DataW.trod enc Try.prog w 0 sp held fuel 46 ((cs.drop 4).take (Try.prog.cellsOf 46)) = some x := hf2 4 _ rfl
  rw [c4] at h4
  obtain ⟨v4, r4, w4⟩ := (reads_slice Try.underlying46 (by kernel_rfl) read_TState_130) enc w sp held fuel _ _ h4
  have c5 : Try.prog.cellsOf 3 = 1 := by kernel_rfl
  obtain ⟨x5, h5⟩ : ∃ x, DataW.trod enc Try.prog w 0 sp held fuel 3 ((cs.drop 5).take (Try.prog.cellsOf 3)) = some x := hf2 5 _ rfl
  rw [c5] at h5
  obtain ⟨v5, r5, w5⟩ := (reads_int Try.underlying3) enc w sp held fuel _ _ h5
  have c6 : Try.prog.cellsOf 47 = 1 := by kernel_rfl
  obtain ⟨x6, h6⟩ : ∃ x, DataW.trod enc Try.prog w 0 sp held fuel 47 ((cs.drop 6).take (Try.prog.cellsOf 47)) = some x := hf2 6 _ rfl
  rw [c6] at h6
  obtain ⟨v6, r6, w6⟩ := (reads_slice Try.underlying47 (by kernel_rfl) read_TSymbol_101) enc w sp held fuel _ _ h6
  have c7 : Try.prog.cellsOf 48 = 1 := by kernel_rfl
  obtain ⟨x7, h7⟩ : ∃ x, DataW.trod enc Try.prog w 0 sp held fuel 48 ((cs.drop 7).take (Try.prog.cellsOf 48)) = some x := hf2 7 _ rfl
  rw [c7] at h7
  obtain ⟨v7, r7, w7⟩ := (reads_slice Try.underlying48 (by kernel_rfl) read_TNode_107) enc w sp held fuel _ _ h7
  have c8 : Try.prog.cellsOf 49 = 1 := by kernel_rfl
  obtain ⟨x8, h8⟩ : ∃ x, DataW.trod enc Try.prog w 0 sp held fuel 49 ((cs.drop 8).take (Try.prog.cellsOf 49)) = some x := hf2 8 _ rfl
  rw [c8] at h8
  obtain ⟨v8, r8, w8⟩ := (reads_slice Try.underlying49 (by kernel_rfl) read_TTrans_110) enc w sp held fuel _ _ h8
  have hh := RDs_field (o := 0) (k := 1) r0 (RDs_field (o := 1) (k := 1) r1 (RDs_field (o := 2) (k := 1) r2 (RDs_field (o := 3) (k := 1) r3 (RDs_field (o := 4) (k := 1) r4 (RDs_field (o := 5) (k := 1) r5 (RDs_field (o := 6) (k := 1) r6 (RDs_field (o := 7) (k := 1) r7 (RDs_field (o := 8) (k := 1) r8 (show RDs (hOf w) w [] (cs.drop 9) from by rw [List.drop_eq_nil_of_le (by omega)]; simp [RDs])))))))))
  refine ⟨⟨v0, v1, v2, v3, v4, v5, v6, v7, v8⟩, ?_, w0, w1, w2, w3, w4, w5, w6, w7, w8⟩
  simpa only [List.drop_zero, List.append_nil, List.append_assoc, List.cons_append, List.nil_append, TQea.D, cells_i, cells_b, cells_s, cells_y, cells_l, cells_agg] using hh
theorem read_TEvent_57 : ReadsAs Try.prog 57 TEvent.D TEvent.Wf := by
  refine reads_struct (n := 2) Try.underlying57 (by kernel_rfl) ?_
  intro H enc w sp held fuel cs hlen hf
  have hf2 := fun (i : Nat) (g : Field) h => hf g (List.mem_of_getElem? (i := i) h)
  have c0 : Try.prog.cellsOf 9 = 1 := by kernel_rfl
  obtain ⟨x0, h0⟩ : ∃ x, DataW.trod enc Try.prog w 0 sp held fuel 9 ((cs.drop 0).take (Try.prog.cellsOf 9)) = some x := hf2 0 _ rfl
  rw [c0] at h0
  obtain ⟨v0, r0, w0⟩ := (reads_string Try.underlying9) enc w sp held fuel _ _ h0
  have c1 : Try.prog.cellsOf 24 = 1 := by kernel_rfl
  obtain ⟨x1, h1⟩ : ∃ x, DataW.trod enc Try.prog w 0 sp held fuel 24 ((cs.drop 1).take (Try.prog.cellsOf 24)) = some x := hf2 1 _ rfl
  rw [c1] at h1
  obtain ⟨v1, r1, w1⟩ := (reads_slice Try.underlying24 (by kernel_rfl) read_TValue_26) enc w sp held fuel _ _ h1
  have hh := RDs_field (o := 0) (k := 1) r0 (RDs_field (o := 1) (k := 1) r1 (show RDs (hOf w) w [] (cs.drop 2) from by rw [List.drop_eq_nil_of_le (by omega)]; simp [RDs]))
  refine ⟨⟨v0, v1⟩, ?_, w0, w1⟩
  simpa only [List.drop_zero, List.append_nil, List.append_assoc, List.cons_append, List.nil_append, TEvent.D, cells_i, cells_b, cells_s, cells_y, cells_l, cells_agg] using hh
theorem transW_wf {q : TQea} (h : TQea.Wf q) : ∀ t ∈ q.trans, TransW t := fun t ht =>
  have w : TTrans.Wf t := h.2.2.2.2.2.2.2.2.2 t ht
  ⟨i64_wf w.2.2.2.1, fun s hs => i64_wf (w.2.2.2.2.2 s hs).2⟩
theorem law20_DomainOf_plain {a0 : TQea} {a1 : List TEvent} (h0 : TQea.Wf a0) (_ : a1.length ≤ 9223372036854775807 ∧ ∀ x ∈ a1, TEvent.Wf x) : law20_DomainOf a0 a1 = some true := law20_DomainOf_eq a0 a1 (transW_wf h0)
open Go.ChangeShapes Go.WideShapes Go.ChangeAt Go.RowKit
theorem law20_DomainOf_own : ownKnob Try.prog.godebug = none := by kernel_rfl
set_option maxRecDepth 100000 in
theorem law20_DomainOf_contract {H : Type} {enc : TypeId × Value → H} (W : World) (base : Nat) (args : Array Value) (ds gs : List (DataW H)) (before : List MemPlace)
    (hval : ∀ (j : Nat) t v, Try.f5.params[j]? = some t → args[j]? = some v → Value.okWide Try.prog W .any base t v)
    (hW : DataW.Whole enc Try.prog Try.f5.params.toList Go.Proofs.Ytgmjbigfneeekaa.Rows.domainOfSpec.vars false W args.toList ds gs before) :
    Calls Try.prog 5 args W fun e W' => ∃ v, e = .returned v ∧ Go.Proofs.Ytgmjbigfneeekaa.Rows.domainOfSpec.post enc Try.prog Try.f5 false true false false W args v W' := by
  refine law_contract (tb := 4) (by kernel_rfl) (by kernel_rfl) (by kernel_rfl) Try.underlying4 (by rfl) ?_ hW ?_
  · intro ds hd
    rw [Try.params5] at hd
    match ds, hd with
    | [d0, d1], _ => rfl
  · obtain ⟨p, q, hA, _, _, _, _⟩ := hW
    rw [Try.params5] at hA hval
    have hA2 : DataW.TrodAll enc Try.prog W 0 (fun _ => true) true [51, 52] args.toList ds p := hA
    obtain ⟨v0, vs0, d0, ds0, p0, q0, hargs0, rfl, rfl, h0, r0⟩ := trodAll_cons hA2
    obtain ⟨v1, vs1, d1, ds1, p1, q1, hargs1, rfl, rfl, h1, r1⟩ := trodAll_cons r0
    obtain ⟨rfl, rfl, rfl⟩ := trodAll_nil r1
    subst hargs1
    obtain rfl : args = #[v0, v1] := by cases args; simp_all
    obtain ⟨a0, ra0, wa0⟩ := arg_readsS read_TQea_51 h0 (fun a => ⟨_, rfl⟩) (hval 0 51 v0 rfl rfl) Try.underlying51
    obtain ⟨a1, ra1, wa1⟩ := arg_reads (reads_slice Try.underlying52 (by kernel_rfl) read_TEvent_57) h1 (fun a c => by intro h; cases h) (hval 1 52 v1 rfl rfl) (by kernel_rfl)
    refine ⟨[.d (TQea.D a0), .d ((D.l TEvent.D) a1)], ?_, law20_DomainOf_ok a0 a1 true (law20_DomainOf_plain wa0 wa1)⟩
    simp only [RAs, RA]
    exact ⟨v0, _, rfl, ra0, ⟨v1, _, rfl, ra1, rfl⟩⟩
set_option maxRecDepth 100000 in
theorem law20_DomainOf_lifted (os : Os) (started : os.Started) (H : Type) (enc : TypeId × Value → H) :
    ReturnsInHanded {} Try.checked os 5 .any (Go.Proofs.Ytgmjbigfneeekaa.Rows.domainOfSpec.pre6 enc Try.prog Try.f5 Go.Proofs.Ytgmjbigfneeekaa.Rows.domainOfRow.domain false) (Go.Proofs.Ytgmjbigfneeekaa.Rows.domainOfSpec.post enc Try.prog Try.f5 false true false false) := by
  refine returnsInHanded_of_change (C := Try.checked) law20_DomainOf_own started (by kernel_rfl) Try.func5
    (ChangeSpec.witness6 (enc := enc) (C := Try.checked) false ⟨#[], #[.agg #[.string ⟨#[]⟩, .slice none 0 0, .slice none 0 0, .slice none 0 0, .slice none 0 0, .int .i64 0, .slice none 0 0, .slice none 0 0, .slice none 0 0], .slice none 0 0], []⟩ 8 (by kernel_rfl) (by kernel_rfl) (by kernel_rfl) (by kernel_rfl)) ?_
  intro W base args ds gs before hval hW _ _
  exact law20_DomainOf_contract W base args ds gs before hval hW
end Go.Ac
namespace Go.Proofs.Ytgmjbigfneeekaa
open Go.Ac
theorem DomainOfSaid_holds : Rows.DomainOfSaid :=
  OpenClaim.holds_of_wide 5 Try.f5 rfl rfl rfl rfl rfl rfl rfl ⟨rfl, rfl, rfl, rfl, rfl⟩ rfl rfl rfl rfl rfl (by kernel_rfl) Try.func5 (by kernel_rfl)
    (of_decide_eq_true (by kernel_rfl)) (by unfold Func.isWrapper; first | (rw [if_pos (by decide +kernel)]; kernel_rfl) | (rw [if_neg (by decide +kernel)]; exact ⟨rfl, rfl⟩))
    (fun os started H enc _ => law20_DomainOf_lifted os started H enc)
end Go.Proofs.Ytgmjbigfneeekaa
