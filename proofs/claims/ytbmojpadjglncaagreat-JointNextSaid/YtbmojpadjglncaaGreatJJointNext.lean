/- Own work: the statement, joined of its parts; it holds for every input. -/
import Derived.Test.YtbmojpadjglncaaGreatWa22znx2
import Derived.Test.YtbmojpadjglncaaGreatP22zn
import Derived.Test.YtbmojpadjglncaaGreatAc23
import Derived.Test.YtbmojpadjglncaaGreatRows
set_option linter.unusedVariables false
set_option linter.unusedSimpArgs false
set_option linter.unusedVariables false
set_option linter.unusedSimpArgs false
namespace Go.Ac
open Go.Proofs
theorem i64_wf {n : Int} (h : (Lit.int .i64 n).wf = true) : -9223372036854775808 ≤ n ∧ n ≤ 9223372036854775807 := by simpa [Lit.wf, IntKind.min, IntKind.max, IntKind.signed, IntKind.bits] using h
def TDecl.Wf (v : TDecl) : Prop := (fun l => l.length ≤ 9223372036854775807) v.name ∧ (fun l => l.length ≤ 9223372036854775807 ∧ ∀ x ∈ l, (fun n => (Lit.int .i64 n).wf = true) x) v.types
def TQuant.Wf (v : TQuant) : Prop := True ∧ (fun l => l.length ≤ 9223372036854775807) v.name ∧ (fun n => (Lit.int .i64 n).wf = true) v.type
def TValue.Wf (v : TValue) : Prop := (fun n => (Lit.int .i64 n).wf = true) v.kind ∧ (fun n => (Lit.int .i64 n).wf = true) v.int ∧ (fun l => l.length ≤ 9223372036854775807) v.str ∧ True
def TFree.Wf (v : TFree) : Prop := (fun l => l.length ≤ 9223372036854775807) v.name ∧ TValue.Wf v.init_
def TState.Wf (v : TState) : Prop := (fun l => l.length ≤ 9223372036854775807) v.name ∧ True ∧ True
def TArg.Wf (v : TArg) : Prop := (fun n => (Lit.int .i64 n).wf = true) v.kind ∧ (fun n => (Lit.int .i64 n).wf = true) v.n ∧ TValue.Wf v.value
def TSymbol.Wf (v : TSymbol) : Prop := (fun n => (Lit.int .i64 n).wf = true) v.event ∧ (fun l => l.length ≤ 9223372036854775807 ∧ ∀ x ∈ l, TArg.Wf x) v.args
def TNode.Wf (v : TNode) : Prop := (fun n => (Lit.int .i64 n).wf = true) v.op ∧ (fun n => (Lit.int .i64 n).wf = true) v.a ∧ (fun n => (Lit.int .i64 n).wf = true) v.b ∧ TValue.Wf v.value
def TSet.Wf (v : TSet) : Prop := (fun n => (Lit.int .i64 n).wf = true) v.free ∧ (fun n => (Lit.int .i64 n).wf = true) v.expr
def TTrans.Wf (v : TTrans) : Prop := (fun n => (Lit.int .i64 n).wf = true) v.from_ ∧ (fun n => (Lit.int .i64 n).wf = true) v.symbol ∧ (fun n => (Lit.int .i64 n).wf = true) v.to ∧ (fun n => (Lit.int .i64 n).wf = true) v.guard ∧ (fun l => l.length ≤ 9223372036854775807 ∧ ∀ x ∈ l, TSet.Wf x) v.sets
def TQea.Wf (v : TQea) : Prop := (fun l => l.length ≤ 9223372036854775807) v.name ∧ (fun l => l.length ≤ 9223372036854775807 ∧ ∀ x ∈ l, TDecl.Wf x) v.decls ∧ (fun l => l.length ≤ 9223372036854775807 ∧ ∀ x ∈ l, TQuant.Wf x) v.quants ∧ (fun l => l.length ≤ 9223372036854775807 ∧ ∀ x ∈ l, TFree.Wf x) v.frees ∧ (fun l => l.length ≤ 9223372036854775807 ∧ ∀ x ∈ l, TState.Wf x) v.states ∧ (fun n => (Lit.int .i64 n).wf = true) v.start ∧ (fun l => l.length ≤ 9223372036854775807 ∧ ∀ x ∈ l, TSymbol.Wf x) v.symbols ∧ (fun l => l.length ≤ 9223372036854775807 ∧ ∀ x ∈ l, TNode.Wf x) v.nodes ∧ (fun l => l.length ≤ 9223372036854775807 ∧ ∀ x ∈ l, TTrans.Wf x) v.trans
def TSlot.Wf (v : TSlot) : Prop := (fun n => (Lit.int .i64 n).wf = true) v.var ∧ TValue.Wf v.value
def TEvent.Wf (v : TEvent) : Prop := (fun l => l.length ≤ 9223372036854775807) v.name ∧ (fun l => l.length ≤ 9223372036854775807 ∧ ∀ x ∈ l, TValue.Wf x) v.args
theorem read_TDecl_63 : ReadsAs Tryz.prog 63 TDecl.D TDecl.Wf := by
  refine reads_struct (n := 2) Tryz.underlying63 (by kernel_rfl) ?_
  intro H enc w sp held fuel cs hlen hf
  have hf2 := fun (i : Nat) (g : Field) h => hf g (List.mem_of_getElem? (i := i) h)
  have c0 : Tryz.prog.cellsOf 9 = 1 := by kernel_rfl
  obtain ⟨x0, h0⟩ : ∃ x, DataW.trod enc Tryz.prog w 0 sp held fuel 9 ((cs.drop 0).take (Tryz.prog.cellsOf 9)) = some x := hf2 0 _ rfl
  rw [c0] at h0
  obtain ⟨v0, r0, w0⟩ := (reads_string Tryz.underlying9) enc w sp held fuel _ _ h0
  have c1 : Tryz.prog.cellsOf 61 = 1 := by kernel_rfl
  obtain ⟨x1, h1⟩ : ∃ x, DataW.trod enc Tryz.prog w 0 sp held fuel 61 ((cs.drop 1).take (Tryz.prog.cellsOf 61)) = some x := hf2 1 _ rfl
  rw [c1] at h1
  obtain ⟨v1, r1, w1⟩ := (reads_slice Tryz.underlying61 (by kernel_rfl) (reads_int Tryz.underlying3)) enc w sp held fuel _ _ h1
  have hh := RDs_field (o := 0) (k := 1) r0 (RDs_field (o := 1) (k := 1) r1 (show RDs (hOf w) w [] (cs.drop 2) from by rw [List.drop_eq_nil_of_le (by omega)]; simp [RDs]))
  refine ⟨⟨v0, v1⟩, ?_, w0, w1⟩
  simpa only [List.drop_zero, List.append_nil, List.append_assoc, List.cons_append, List.nil_append, TDecl.D, cells_i, cells_b, cells_s, cells_y, cells_l, cells_agg] using hh
theorem read_TQuant_69 : ReadsAs Tryz.prog 69 TQuant.D TQuant.Wf := by
  refine reads_struct (n := 3) Tryz.underlying69 (by kernel_rfl) ?_
  intro H enc w sp held fuel cs hlen hf
  have hf2 := fun (i : Nat) (g : Field) h => hf g (List.mem_of_getElem? (i := i) h)
  have c0 : Tryz.prog.cellsOf 4 = 1 := by kernel_rfl
  obtain ⟨x0, h0⟩ : ∃ x, DataW.trod enc Tryz.prog w 0 sp held fuel 4 ((cs.drop 0).take (Tryz.prog.cellsOf 4)) = some x := hf2 0 _ rfl
  rw [c0] at h0
  obtain ⟨v0, r0, w0⟩ := (reads_bool Tryz.underlying4) enc w sp held fuel _ _ h0
  have c1 : Tryz.prog.cellsOf 9 = 1 := by kernel_rfl
  obtain ⟨x1, h1⟩ : ∃ x, DataW.trod enc Tryz.prog w 0 sp held fuel 9 ((cs.drop 1).take (Tryz.prog.cellsOf 9)) = some x := hf2 1 _ rfl
  rw [c1] at h1
  obtain ⟨v1, r1, w1⟩ := (reads_string Tryz.underlying9) enc w sp held fuel _ _ h1
  have c2 : Tryz.prog.cellsOf 3 = 1 := by kernel_rfl
  obtain ⟨x2, h2⟩ : ∃ x, DataW.trod enc Tryz.prog w 0 sp held fuel 3 ((cs.drop 2).take (Tryz.prog.cellsOf 3)) = some x := hf2 2 _ rfl
  rw [c2] at h2
  obtain ⟨v2, r2, w2⟩ := (reads_int Tryz.underlying3) enc w sp held fuel _ _ h2
  have hh := RDs_field (o := 0) (k := 1) r0 (RDs_field (o := 1) (k := 1) r1 (RDs_field (o := 2) (k := 1) r2 (show RDs (hOf w) w [] (cs.drop 3) from by rw [List.drop_eq_nil_of_le (by omega)]; simp [RDs])))
  refine ⟨⟨v0, v1, v2⟩, ?_, w0, w1, w2⟩
  simpa only [List.drop_zero, List.append_nil, List.append_assoc, List.cons_append, List.nil_append, TQuant.D, cells_i, cells_b, cells_s, cells_y, cells_l, cells_agg] using hh
theorem read_TValue_54 : ReadsAs Tryz.prog 54 TValue.D TValue.Wf := by
  refine reads_struct (n := 4) Tryz.underlying54 (by kernel_rfl) ?_
  intro H enc w sp held fuel cs hlen hf
  have hf2 := fun (i : Nat) (g : Field) h => hf g (List.mem_of_getElem? (i := i) h)
  have c0 : Tryz.prog.cellsOf 3 = 1 := by kernel_rfl
  obtain ⟨x0, h0⟩ : ∃ x, DataW.trod enc Tryz.prog w 0 sp held fuel 3 ((cs.drop 0).take (Tryz.prog.cellsOf 3)) = some x := hf2 0 _ rfl
  rw [c0] at h0
  obtain ⟨v0, r0, w0⟩ := (reads_int Tryz.underlying3) enc w sp held fuel _ _ h0
  have c1 : Tryz.prog.cellsOf 2 = 1 := by kernel_rfl
  obtain ⟨x1, h1⟩ : ∃ x, DataW.trod enc Tryz.prog w 0 sp held fuel 2 ((cs.drop 1).take (Tryz.prog.cellsOf 2)) = some x := hf2 1 _ rfl
  rw [c1] at h1
  obtain ⟨v1, r1, w1⟩ := (reads_int Tryz.underlying2) enc w sp held fuel _ _ h1
  have c2 : Tryz.prog.cellsOf 9 = 1 := by kernel_rfl
  obtain ⟨x2, h2⟩ : ∃ x, DataW.trod enc Tryz.prog w 0 sp held fuel 9 ((cs.drop 2).take (Tryz.prog.cellsOf 9)) = some x := hf2 2 _ rfl
  rw [c2] at h2
  obtain ⟨v2, r2, w2⟩ := (reads_string Tryz.underlying9) enc w sp held fuel _ _ h2
  have c3 : Tryz.prog.cellsOf 4 = 1 := by kernel_rfl
  obtain ⟨x3, h3⟩ : ∃ x, DataW.trod enc Tryz.prog w 0 sp held fuel 4 ((cs.drop 3).take (Tryz.prog.cellsOf 4)) = some x := hf2 3 _ rfl
  rw [c3] at h3
  obtain ⟨v3, r3, w3⟩ := (reads_bool Tryz.underlying4) enc w sp held fuel _ _ h3
  have hh := RDs_field (o := 0) (k := 1) r0 (RDs_field (o := 1) (k := 1) r1 (RDs_field (o := 2) (k := 1) r2 (RDs_field (o := 3) (k := 1) r3 (show RDs (hOf w) w [] (cs.drop 4) from by rw [List.drop_eq_nil_of_le (by omega)]; simp [RDs]))))
  refine ⟨⟨v0, v1, v2, v3⟩, ?_, w0, w1, w2, w3⟩
  simpa only [List.drop_zero, List.append_nil, List.append_assoc, List.cons_append, List.nil_append, TValue.D, cells_i, cells_b, cells_s, cells_y, cells_l, cells_agg] using hh
theorem read_TFree_99 : ReadsAs Tryz.prog 99 TFree.D TFree.Wf := by
  refine reads_struct (n := 5) Tryz.underlying99 (by kernel_rfl) ?_
  intro H enc w sp held fuel cs hlen hf
  have hf2 := fun (i : Nat) (g : Field) h => hf g (List.mem_of_getElem? (i := i) h)
  have c0 : Tryz.prog.cellsOf 9 = 1 := by kernel_rfl
  obtain ⟨x0, h0⟩ : ∃ x, DataW.trod enc Tryz.prog w 0 sp held fuel 9 ((cs.drop 0).take (Tryz.prog.cellsOf 9)) = some x := hf2 0 _ rfl
  rw [c0] at h0
  obtain ⟨v0, r0, w0⟩ := (reads_string Tryz.underlying9) enc w sp held fuel _ _ h0
  have c1 : Tryz.prog.cellsOf 54 = 4 := by kernel_rfl
  obtain ⟨x1, h1⟩ : ∃ x, DataW.trod enc Tryz.prog w 0 sp held fuel 54 ((cs.drop 1).take (Tryz.prog.cellsOf 54)) = some x := hf2 1 _ rfl
  rw [c1] at h1
  obtain ⟨v1, r1, w1⟩ := read_TValue_54 enc w sp held fuel _ _ h1
  have hh := RDs_field (o := 0) (k := 1) r0 (RDs_field (o := 1) (k := 4) r1 (show RDs (hOf w) w [] (cs.drop 5) from by rw [List.drop_eq_nil_of_le (by omega)]; simp [RDs]))
  refine ⟨⟨v0, v1⟩, ?_, w0, w1⟩
  simpa only [List.drop_zero, List.append_nil, List.append_assoc, List.cons_append, List.nil_append, TFree.D, cells_i, cells_b, cells_s, cells_y, cells_l, cells_agg] using hh
theorem read_TState_71 : ReadsAs Tryz.prog 71 TState.D TState.Wf := by
  refine reads_struct (n := 3) Tryz.underlying71 (by kernel_rfl) ?_
  intro H enc w sp held fuel cs hlen hf
  have hf2 := fun (i : Nat) (g : Field) h => hf g (List.mem_of_getElem? (i := i) h)
  have c0 : Tryz.prog.cellsOf 9 = 1 := by kernel_rfl
  obtain ⟨x0, h0⟩ : ∃ x, DataW.trod enc Tryz.prog w 0 sp held fuel 9 ((cs.drop 0).take (Tryz.prog.cellsOf 9)) = some x := hf2 0 _ rfl
  rw [c0] at h0
  obtain ⟨v0, r0, w0⟩ := (reads_string Tryz.underlying9) enc w sp held fuel _ _ h0
  have c1 : Tryz.prog.cellsOf 4 = 1 := by kernel_rfl
  obtain ⟨x1, h1⟩ : ∃ x, DataW.trod enc Tryz.prog w 0 sp held fuel 4 ((cs.drop 1).take (Tryz.prog.cellsOf 4)) = some x := hf2 1 _ rfl
  rw [c1] at h1
  obtain ⟨v1, r1, w1⟩ := (reads_bool Tryz.underlying4) enc w sp held fuel _ _ h1
  have c2 : Tryz.prog.cellsOf 4 = 1 := by kernel_rfl
  obtain ⟨x2, h2⟩ : ∃ x, DataW.trod enc Tryz.prog w 0 sp held fuel 4 ((cs.drop 2).take (Tryz.prog.cellsOf 4)) = some x := hf2 2 _ rfl
  rw [c2] at h2
  obtain ⟨v2, r2, w2⟩ := (reads_bool Tryz.underlying4) enc w sp held fuel _ _ h2
  have hh := RDs_field (o := 0) (k := 1) r0 (RDs_field (o := 1) (k := 1) r1 (RDs_field (o := 2) (k := 1) r2 (show RDs (hOf w) w [] (cs.drop 3) from by rw [List.drop_eq_nil_of_le (by omega)]; simp [RDs])))
  refine ⟨⟨v0, v1, v2⟩, ?_, w0, w1, w2⟩
  simpa only [List.drop_zero, List.append_nil, List.append_assoc, List.cons_append, List.nil_append, TState.D, cells_i, cells_b, cells_s, cells_y, cells_l, cells_agg] using hh
theorem read_TArg_73 : ReadsAs Tryz.prog 73 TArg.D TArg.Wf := by
  refine reads_struct (n := 6) Tryz.underlying73 (by kernel_rfl) ?_
  intro H enc w sp held fuel cs hlen hf
  have hf2 := fun (i : Nat) (g : Field) h => hf g (List.mem_of_getElem? (i := i) h)
  have c0 : Tryz.prog.cellsOf 3 = 1 := by kernel_rfl
  obtain ⟨x0, h0⟩ : ∃ x, DataW.trod enc Tryz.prog w 0 sp held fuel 3 ((cs.drop 0).take (Tryz.prog.cellsOf 3)) = some x := hf2 0 _ rfl
  rw [c0] at h0
  obtain ⟨v0, r0, w0⟩ := (reads_int Tryz.underlying3) enc w sp held fuel _ _ h0
  have c1 : Tryz.prog.cellsOf 3 = 1 := by kernel_rfl
  obtain ⟨x1, h1⟩ : ∃ x, DataW.trod enc Tryz.prog w 0 sp held fuel 3 ((cs.drop 1).take (Tryz.prog.cellsOf 3)) = some x := hf2 1 _ rfl
  rw [c1] at h1
  obtain ⟨v1, r1, w1⟩ := (reads_int Tryz.underlying3) enc w sp held fuel _ _ h1
  have c2 : Tryz.prog.cellsOf 54 = 4 := by kernel_rfl
  obtain ⟨x2, h2⟩ : ∃ x, DataW.trod enc Tryz.prog w 0 sp held fuel 54 ((cs.drop 2).take (Tryz.prog.cellsOf 54)) = some x := hf2 2 _ rfl
  rw [c2] at h2
  obtain ⟨v2, r2, w2⟩ := read_TValue_54 enc w sp held fuel _ _ h2
  have hh := RDs_field (o := 0) (k := 1) r0 (RDs_field (o := 1) (k := 1) r1 (RDs_field (o := 2) (k := 4) r2 (show RDs (hOf w) w [] (cs.drop 6) from by rw [List.drop_eq_nil_of_le (by omega)]; simp [RDs])))
  refine ⟨⟨v0, v1, v2⟩, ?_, w0, w1, w2⟩
  simpa only [List.drop_zero, List.append_nil, List.append_assoc, List.cons_append, List.nil_append, TArg.D, cells_i, cells_b, cells_s, cells_y, cells_l, cells_agg] using hh
theorem read_TSymbol_76 : ReadsAs Tryz.prog 76 TSymbol.D TSymbol.Wf := by
  refine reads_struct (n := 2) Tryz.underlying76 (by kernel_rfl) ?_
  intro H enc w sp held fuel cs hlen hf
  have hf2 := fun (i : Nat) (g : Field) h => hf g (List.mem_of_getElem? (i := i) h)
  have c0 : Tryz.prog.cellsOf 3 = 1 := by kernel_rfl
  obtain ⟨x0, h0⟩ : ∃ x, DataW.trod enc Tryz.prog w 0 sp held fuel 3 ((cs.drop 0).take (Tryz.prog.cellsOf 3)) = some x := hf2 0 _ rfl
  rw [c0] at h0
  obtain ⟨v0, r0, w0⟩ := (reads_int Tryz.underlying3) enc w sp held fuel _ _ h0
  have c1 : Tryz.prog.cellsOf 74 = 1 := by kernel_rfl
  obtain ⟨x1, h1⟩ : ∃ x, DataW.trod enc Tryz.prog w 0 sp held fuel 74 ((cs.drop 1).take (Tryz.prog.cellsOf 74)) = some x := hf2 1 _ rfl
  rw [c1] at h1
  obtain ⟨v1, r1, w1⟩ := (reads_slice Tryz.underlying74 (by kernel_rfl) read_TArg_73) enc w sp held fuel _ _ h1
  have hh := RDs_field (o := 0) (k := 1) r0 (RDs_field (o := 1) (k := 1) r1 (show RDs (hOf w) w [] (cs.drop 2) from by rw [List.drop_eq_nil_of_le (by omega)]; simp [RDs]))
  refine ⟨⟨v0, v1⟩, ?_, w0, w1⟩
  simpa only [List.drop_zero, List.append_nil, List.append_assoc, List.cons_append, List.nil_append, TSymbol.D, cells_i, cells_b, cells_s, cells_y, cells_l, cells_agg] using hh
theorem read_TNode_101 : ReadsAs Tryz.prog 101 TNode.D TNode.Wf := by
  refine reads_struct (n := 7) Tryz.underlying101 (by kernel_rfl) ?_
  intro H enc w sp held fuel cs hlen hf
  have hf2 := fun (i : Nat) (g : Field) h => hf g (List.mem_of_getElem? (i := i) h)
  have c0 : Tryz.prog.cellsOf 3 = 1 := by kernel_rfl
  obtain ⟨x0, h0⟩ : ∃ x, DataW.trod enc Tryz.prog w 0 sp held fuel 3 ((cs.drop 0).take (Tryz.prog.cellsOf 3)) = some x := hf2 0 _ rfl
  rw [c0] at h0
  obtain ⟨v0, r0, w0⟩ := (reads_int Tryz.underlying3) enc w sp held fuel _ _ h0
  have c1 : Tryz.prog.cellsOf 3 = 1 := by kernel_rfl
  obtain ⟨x1, h1⟩ : ∃ x, DataW.trod enc Tryz.prog w 0 sp held fuel 3 ((cs.drop 1).take (Tryz.prog.cellsOf 3)) = some x := hf2 1 _ rfl
  rw [c1] at h1
  obtain ⟨v1, r1, w1⟩ := (reads_int Tryz.underlying3) enc w sp held fuel _ _ h1
  have c2 : Tryz.prog.cellsOf 3 = 1 := by kernel_rfl
  obtain ⟨x2, h2⟩ : ∃ x, DataW.trod enc Tryz.prog w 0 sp held fuel 3 ((cs.drop 2).take (Tryz.prog.cellsOf 3)) = some x := hf2 2 _ rfl
  rw [c2] at h2
  obtain ⟨v2, r2, w2⟩ := (reads_int Tryz.underlying3) enc w sp held fuel _ _ h2
  have c3 : Tryz.prog.cellsOf 54 = 4 := by kernel_rfl
  obtain ⟨x3, h3⟩ : ∃ x, DataW.trod enc Tryz.prog w 0 sp held fuel 54 ((cs.drop 3).take (Tryz.prog.cellsOf 54)) = some x := hf2 3 _ rfl
  rw [c3] at h3
  obtain ⟨v3, r3, w3⟩ := read_TValue_54 enc w sp held fuel _ _ h3
  have hh := RDs_field (o := 0) (k := 1) r0 (RDs_field (o := 1) (k := 1) r1 (RDs_field (o := 2) (k := 1) r2 (RDs_field (o := 3) (k := 4) r3 (show RDs (hOf w) w [] (cs.drop 7) from by rw [List.drop_eq_nil_of_le (by omega)]; simp [RDs]))))
  refine ⟨⟨v0, v1, v2, v3⟩, ?_, w0, w1, w2, w3⟩
  simpa only [List.drop_zero, List.append_nil, List.append_assoc, List.cons_append, List.nil_append, TNode.D, cells_i, cells_b, cells_s, cells_y, cells_l, cells_agg] using hh
theorem read_TSet_131 : ReadsAs Tryz.prog 131 TSet.D TSet.Wf := by
  refine reads_struct (n := 2) Tryz.underlying131 (by kernel_rfl) ?_
  intro H enc w sp held fuel cs hlen hf
  have hf2 := fun (i : Nat) (g : Field) h => hf g (List.mem_of_getElem? (i := i) h)
  have c0 : Tryz.prog.cellsOf 3 = 1 := by kernel_rfl
  obtain ⟨x0, h0⟩ : ∃ x, DataW.trod enc Tryz.prog w 0 sp held fuel 3 ((cs.drop 0).take (Tryz.prog.cellsOf 3)) = some x := hf2 0 _ rfl
  rw [c0] at h0
  obtain ⟨v0, r0, w0⟩ := (reads_int Tryz.underlying3) enc w sp held fuel _ _ h0
  have c1 : Tryz.prog.cellsOf 3 = 1 := by kernel_rfl
  obtain ⟨x1, h1⟩ : ∃ x, DataW.trod enc Tryz.prog w 0 sp held fuel 3 ((cs.drop 1).take (Tryz.prog.cellsOf 3)) = some x := hf2 1 _ rfl
  rw [c1] at h1
  obtain ⟨v1, r1, w1⟩ := (reads_int Tryz.underlying3) enc w sp held fuel _ _ h1
  have hh := RDs_field (o := 0) (k := 1) r0 (RDs_field (o := 1) (k := 1) r1 (show RDs (hOf w) w [] (cs.drop 2) from by rw [List.drop_eq_nil_of_le (by omega)]; simp [RDs]))
  refine ⟨⟨v0, v1⟩, ?_, w0, w1⟩
  simpa only [List.drop_zero, List.append_nil, List.append_assoc, List.cons_append, List.nil_append, TSet.D, cells_i, cells_b, cells_s, cells_y, cells_l, cells_agg] using hh
theorem read_TTrans_80 : ReadsAs Tryz.prog 80 TTrans.D TTrans.Wf := by
  refine reads_struct (n := 5) Tryz.underlying80 (by kernel_rfl) ?_
  intro H enc w sp held fuel cs hlen hf
  have hf2 := fun (i : Nat) (g : Field) h => hf g (List.mem_of_getElem? (i := i) h)
  have c0 : Tryz.prog.cellsOf 3 = 1 := by kernel_rfl
  obtain ⟨x0, h0⟩ : ∃ x, DataW.trod enc Tryz.prog w 0 sp held fuel 3 ((cs.drop 0).take (Tryz.prog.cellsOf 3)) = some x := hf2 0 _ rfl
  rw [c0] at h0
  obtain ⟨v0, r0, w0⟩ := (reads_int Tryz.underlying3) enc w sp held fuel _ _ h0
  have c1 : Tryz.prog.cellsOf 3 = 1 := by kernel_rfl
  obtain ⟨x1, h1⟩ : ∃ x, DataW.trod enc Tryz.prog w 0 sp held fuel 3 ((cs.drop 1).take (Tryz.prog.cellsOf 3)) = some x := hf2 1 _ rfl
  rw [c1] at h1
  obtain ⟨v1, r1, w1⟩ := (reads_int Tryz.underlying3) enc w sp held fuel _ _ h1
  have c2 : Tryz.prog.cellsOf 3 = 1 := by kernel_rfl
  obtain ⟨x2, h2⟩ : ∃ x, DataW.trod enc Tryz.prog w 0 sp held fuel 3 ((cs.drop 2).take (Tryz.prog.cellsOf 3)) = some x := hf2 2 _ rfl
  rw [c2] at h2
  obtain ⟨v2, r2, w2⟩ := (reads_int Tryz.underlying3) enc w sp held fuel _ _ h2
  have c3 : Tryz.prog.cellsOf 3 = 1 := by kernel_rfl
  obtain ⟨x3, h3⟩ : ∃ x, DataW.trod enc Tryz.prog w 0 sp held fuel 3 ((cs.drop 3).take (Tryz.prog.cellsOf 3)) = some x := hf2 3 _ rfl
  rw [c3] at h3
  obtain ⟨v3, r3, w3⟩ := (reads_int Tryz.underlying3) enc w sp held fuel _ _ h3
  have c4 : Tryz.prog.cellsOf 78 = 1 := by kernel_rfl
  obtain ⟨x4, h4⟩ : ∃ x, DataW.trod enc Tryz.prog w 0 sp held fuel 78 ((cs.drop 4).take (Tryz.prog.cellsOf 78)) = some x := hf2 4 _ rfl
  rw [c4] at h4
  obtain ⟨v4, r4, w4⟩ := (reads_slice Tryz.underlying78 (by kernel_rfl) read_TSet_131) enc w sp held fuel _ _ h4
  have hh := RDs_field (o := 0) (k := 1) r0 (RDs_field (o := 1) (k := 1) r1 (RDs_field (o := 2) (k := 1) r2 (RDs_field (o := 3) (k := 1) r3 (RDs_field (o := 4) (k := 1) r4 (show RDs (hOf w) w [] (cs.drop 5) from by rw [List.drop_eq_nil_of_le (by omega)]; simp [RDs])))))
  refine ⟨⟨v0, v1, v2, v3, v4⟩, ?_, w0, w1, w2, w3, w4⟩
  simpa only [List.drop_zero, List.append_nil, List.append_assoc, List.cons_append, List.nil_append, TTrans.D, cells_i, cells_b, cells_s, cells_y, cells_l, cells_agg] using hh
theorem read_TQea_30 : ReadsAs Tryz.prog 30 TQea.D TQea.Wf := by
  refine reads_struct (n := 9) Tryz.underlying30 (by kernel_rfl) ?_
  intro H enc w sp held fuel cs hlen hf
  have hf2 := fun (i : Nat) (g : Field) h => hf g (List.mem_of_getElem? (i := i) h)
  have c0 : Tryz.prog.cellsOf 9 = 1 := by kernel_rfl
  obtain ⟨x0, h0⟩ : ∃ x, DataW.trod enc Tryz.prog w 0 sp held fuel 9 ((cs.drop 0).take (Tryz.prog.cellsOf 9)) = some x := hf2 0 _ rfl
  rw [c0] at h0
  obtain ⟨v0, r0, w0⟩ := (reads_string Tryz.underlying9) enc w sp held fuel _ _ h0
  have c1 : Tryz.prog.cellsOf 22 = 1 := by kernel_rfl
  obtain ⟨x1, h1⟩ : ∃ x, DataW.trod enc Tryz.prog w 0 sp held fuel 22 ((cs.drop 1).take (Tryz.prog.cellsOf 22)) = some x := hf2 1 _ rfl
  rw [c1] at h1
  obtain ⟨v1, r1, w1⟩ := (reads_slice Tryz.underlying22 (by kernel_rfl) read_TDecl_63) enc w sp held fuel _ _ h1
  have c2 : Tryz.prog.cellsOf 23 = 1 := by kernel_rfl
  obtain ⟨x2, h2⟩ : ∃ x, DataW.trod enc Tryz.prog w 0 sp held fuel 23 ((cs.drop 2).take (Tryz.prog.cellsOf 23)) = some x := hf2 2 _ rfl
  rw [c2] at h2
  obtain ⟨v2, r2, w2⟩ := (reads_slice Tryz.underlying23 (by kernel_rfl) read_TQuant_69) enc w sp held fuel _ _ h2
  have c3 : Tryz.prog.cellsOf 24 = 1 := by kernel_rfl
  obtain ⟨x3, h3⟩ : ∃ x, DataW.trod enc Tryz.prog w 0 sp held fuel 24 ((cs.drop 3).take (Tryz.prog.cellsOf 24)) = some x := hf2 3 _ rfl
  rw [c3] at h3
  obtain ⟨v3, r3, w3⟩ := (reads_slice Tryz.underlying24 (by kernel_rfl) read_TFree_99) enc w sp held fuel _ _ h3
  have c4 : Tryz.prog.cellsOf 25 = 1 := by kernel_rfl
  obtain ⟨x4, h4⟩ : ∃ x, DataW.trod enc Tryz.prog w 0 sp held fuel 25 ((cs.drop 4).take (Tryz.prog.cellsOf 25)) = some x := hf2 4 _ rfl
  rw [c4] at h4
  obtain ⟨v4, r4, w4⟩ := (reads_slice Tryz.underlying25 (by kernel_rfl) read_TState_71) enc w sp held fuel _ _ h4
  have c5 : Tryz.prog.cellsOf 3 = 1 := by kernel_rfl
  obtain ⟨x5, h5⟩ : ∃ x, DataW.trod enc Tryz.prog w 0 sp held fuel 3 ((cs.drop 5).take (Tryz.prog.cellsOf 3)) = some x := hf2 5 _ rfl
  rw [c5] at h5
  obtain ⟨v5, r5, w5⟩ := (reads_int Tryz.underlying3) enc w sp held fuel _ _ h5
  have c6 : Tryz.prog.cellsOf 26 = 1 := by kernel_rfl
  obtain ⟨x6, h6⟩ : ∃ x, DataW.trod enc Tryz.prog w 0 sp held fuel 26 ((cs.drop 6).take (Tryz.prog.cellsOf 26)) = some x := hf2 6 _ rfl
  rw [c6] at h6
  obtain ⟨v6, r6, w6⟩ := (reads_slice Tryz.underlying26 (by kernel_rfl) read_TSymbol_76) enc w sp held fuel _ _ h6
  have c7 : Tryz.prog.cellsOf 27 = 1 := by kernel_rfl
  obtain ⟨x7, h7⟩ : ∃ x, DataW.trod enc Tryz.prog w 0 sp held fuel 27 ((cs.drop 7).take (Tryz.prog.cellsOf 27)) = some x := hf2 7 _ rfl
  rw [c7] at h7
  obtain ⟨v7, r7, w7⟩ := (reads_slice Tryz.underlying27 (by kernel_rfl) read_TNode_101) enc w sp held fuel _ _ h7
  have c8 : Tryz.prog.cellsOf 28 = 1 := by kernel_rfl
  obtain ⟨x8, h8⟩ : ∃ x, DataW.trod enc Tryz.prog w 0 sp held fuel 28 ((cs.drop 8).take (Tryz.prog.cellsOf 28)) = some x := hf2 8 _ rfl
  rw [c8] at h8
  obtain ⟨v8, r8, w8⟩ := (reads_slice Tryz.underlying28 (by kernel_rfl) read_TTrans_80) enc w sp held fuel _ _ h8
  have hh := RDs_field (o := 0) (k := 1) r0 (RDs_field (o := 1) (k := 1) r1 (RDs_field (o := 2) (k := 1) r2 (RDs_field (o := 3) (k := 1) r3 (RDs_field (o := 4) (k := 1) r4 (RDs_field (o := 5) (k := 1) r5 (RDs_field (o := 6) (k := 1) r6 (RDs_field (o := 7) (k := 1) r7 (RDs_field (o := 8) (k := 1) r8 (show RDs (hOf w) w [] (cs.drop 9) from by rw [List.drop_eq_nil_of_le (by omega)]; simp [RDs])))))))))
  refine ⟨⟨v0, v1, v2, v3, v4, v5, v6, v7, v8⟩, ?_, w0, w1, w2, w3, w4, w5, w6, w7, w8⟩
  simpa only [List.drop_zero, List.append_nil, List.append_assoc, List.cons_append, List.nil_append, TQea.D, cells_i, cells_b, cells_s, cells_y, cells_l, cells_agg] using hh
theorem read_TSlot_65 : ReadsAs Tryz.prog 65 TSlot.D TSlot.Wf := by
  refine reads_struct (n := 5) Tryz.underlying65 (by kernel_rfl) ?_
  intro H enc w sp held fuel cs hlen hf
  have hf2 := fun (i : Nat) (g : Field) h => hf g (List.mem_of_getElem? (i := i) h)
  have c0 : Tryz.prog.cellsOf 3 = 1 := by kernel_rfl
  obtain ⟨x0, h0⟩ : ∃ x, DataW.trod enc Tryz.prog w 0 sp held fuel 3 ((cs.drop 0).take (Tryz.prog.cellsOf 3)) = some x := hf2 0 _ rfl
  rw [c0] at h0
  obtain ⟨v0, r0, w0⟩ := (reads_int Tryz.underlying3) enc w sp held fuel _ _ h0
  have c1 : Tryz.prog.cellsOf 54 = 4 := by kernel_rfl
  obtain ⟨x1, h1⟩ : ∃ x, DataW.trod enc Tryz.prog w 0 sp held fuel 54 ((cs.drop 1).take (Tryz.prog.cellsOf 54)) = some x := hf2 1 _ rfl
  rw [c1] at h1
  obtain ⟨v1, r1, w1⟩ := read_TValue_54 enc w sp held fuel _ _ h1
  have hh := RDs_field (o := 0) (k := 1) r0 (RDs_field (o := 1) (k := 4) r1 (show RDs (hOf w) w [] (cs.drop 5) from by rw [List.drop_eq_nil_of_le (by omega)]; simp [RDs]))
  refine ⟨⟨v0, v1⟩, ?_, w0, w1⟩
  simpa only [List.drop_zero, List.append_nil, List.append_assoc, List.cons_append, List.nil_append, TSlot.D, cells_i, cells_b, cells_s, cells_y, cells_l, cells_agg] using hh
theorem read_TEvent_36 : ReadsAs Tryz.prog 36 TEvent.D TEvent.Wf := by
  refine reads_struct (n := 2) Tryz.underlying36 (by kernel_rfl) ?_
  intro H enc w sp held fuel cs hlen hf
  have hf2 := fun (i : Nat) (g : Field) h => hf g (List.mem_of_getElem? (i := i) h)
  have c0 : Tryz.prog.cellsOf 9 = 1 := by kernel_rfl
  obtain ⟨x0, h0⟩ : ∃ x, DataW.trod enc Tryz.prog w 0 sp held fuel 9 ((cs.drop 0).take (Tryz.prog.cellsOf 9)) = some x := hf2 0 _ rfl
  rw [c0] at h0
  obtain ⟨v0, r0, w0⟩ := (reads_string Tryz.underlying9) enc w sp held fuel _ _ h0
  have c1 : Tryz.prog.cellsOf 34 = 1 := by kernel_rfl
  obtain ⟨x1, h1⟩ : ∃ x, DataW.trod enc Tryz.prog w 0 sp held fuel 34 ((cs.drop 1).take (Tryz.prog.cellsOf 34)) = some x := hf2 1 _ rfl
  rw [c1] at h1
  obtain ⟨v1, r1, w1⟩ := (reads_slice Tryz.underlying34 (by kernel_rfl) read_TValue_54) enc w sp held fuel _ _ h1
  have hh := RDs_field (o := 0) (k := 1) r0 (RDs_field (o := 1) (k := 1) r1 (show RDs (hOf w) w [] (cs.drop 2) from by rw [List.drop_eq_nil_of_le (by omega)]; simp [RDs]))
  refine ⟨⟨v0, v1⟩, ?_, w0, w1⟩
  simpa only [List.drop_zero, List.append_nil, List.append_assoc, List.cons_append, List.nil_append, TEvent.D, cells_i, cells_b, cells_s, cells_y, cells_l, cells_agg] using hh
theorem transW_wf {q : TQea} (h : TQea.Wf q) : ∀ t ∈ q.trans, TransW t := fun t ht =>
  have w : TTrans.Wf t := h.2.2.2.2.2.2.2.2.2 t ht
  ⟨i64_wf w.2.2.2.1, fun s hs => i64_wf (w.2.2.2.2.2 s hs).2⟩
theorem u32_wf {n : Int} (h : (Lit.int .u32 n).wf = true) : ∃ S : Nat, n = (S : Int) ∧ S < 4294967296 := by
  have : 0 ≤ n ∧ n ≤ 4294967295 := by simpa [Lit.wf, IntKind.min, IntKind.max, IntKind.signed, IntKind.bits] using h
  exact ⟨n.toNat, by omega, by omega⟩
theorem u64_wf {n : Int} (h : (Lit.int .u64 n).wf = true) : ∃ S : Nat, n = (S : Int) ∧ S < 18446744073709551616 := by
  have : 0 ≤ n ∧ n ≤ 18446744073709551615 := by simpa [Lit.wf, IntKind.min, IntKind.max, IntKind.signed, IntKind.bits] using h
  exact ⟨n.toNat, by omega, by omega⟩
theorem law22_JointNext_plain {a0 : TQea} {a1 : List TSlot} {a2 a3 : Int} {a4 : TEvent} (h0 : TQea.Wf a0) (h1 : a1.length ≤ 9223372036854775807 ∧ ∀ x ∈ a1, TSlot.Wf x) (h2 : (Lit.int .u32 a2).wf = true) (h3 : (Lit.int .u64 a3).wf = true) (h4 : TEvent.Wf a4) : law22_JointNext a0 a1 a2 a3 a4 = some true := by
  obtain ⟨S, rfl, hS⟩ := u32_wf h2
  obtain ⟨M, rfl, hM⟩ := u64_wf h3
  exact law22_JointNext_eq a0 a1 S M a4 (transW_wf h0) h1.1 h4.2.1 hS hM
open Go.ChangeShapes Go.WideShapes Go.ChangeAt Go.RowKit
theorem law22_JointNext_own : ownKnob Tryz.prog.godebug = none := by kernel_rfl
set_option maxRecDepth 100000 in
theorem law22_JointNext_contract {H : Type} {enc : TypeId × Value → H} (W : World) (base : Nat) (args : Array Value) (ds gs : List (DataW H)) (before : List MemPlace)
    (hval : ∀ (j : Nat) t v, Tryz.f3.params[j]? = some t → args[j]? = some v → Value.okWide Tryz.prog W .any base t v)
    (hW : DataW.Whole enc Tryz.prog Tryz.f3.params.toList Go.Proofs.YtbmojpadjglncaaGreat.Rows.jointNextSpec.vars false W args.toList ds gs before) :
    Calls Tryz.prog 3 args W fun e W' => ∃ v, e = .returned v ∧ Go.Proofs.YtbmojpadjglncaaGreat.Rows.jointNextSpec.post enc Tryz.prog Tryz.f3 false true false false W args v W' := by
  refine law_contract (tb := 4) (by kernel_rfl) (by kernel_rfl) (by kernel_rfl) Tryz.underlying4 (by rfl) ?_ hW ?_
  · intro ds hd
    rw [Tryz.params3] at hd
    match ds, hd with
    | [d0, d1, d2, d3, d4], _ => rfl
  · obtain ⟨p, q, hA, _, _, _, _⟩ := hW
    rw [Tryz.params3] at hA hval
    have hA2 : DataW.TrodAll enc Tryz.prog W 0 (fun _ => true) true [30, 31, 32, 33, 36] args.toList ds p := hA
    obtain ⟨v0, vs0, d0, ds0, p0, q0, hargs0, rfl, rfl, h0, r0⟩ := trodAll_cons hA2
    obtain ⟨v1, vs1, d1, ds1, p1, q1, hargs1, rfl, rfl, h1, r1⟩ := trodAll_cons r0
    obtain ⟨v2, vs2, d2, ds2, p2, q2, hargs2, rfl, rfl, h2, r2⟩ := trodAll_cons r1
    obtain ⟨v3, vs3, d3, ds3, p3, q3, hargs3, rfl, rfl, h3, r3⟩ := trodAll_cons r2
    obtain ⟨v4, vs4, d4, ds4, p4, q4, hargs4, rfl, rfl, h4, r4⟩ := trodAll_cons r3
    obtain ⟨rfl, rfl, rfl⟩ := trodAll_nil r4
    subst hargs4
    subst hargs3
    subst hargs2
    subst hargs1
    obtain rfl : args = #[v0, v1, v2, v3, v4] := by cases args; simp_all
    obtain ⟨a0, ra0, wa0⟩ := arg_readsS read_TQea_30 h0 (fun a => ⟨_, rfl⟩) (hval 0 30 v0 rfl rfl) Tryz.underlying30
    obtain ⟨a1, ra1, wa1⟩ := arg_reads (reads_slice Tryz.underlying31 (by kernel_rfl) read_TSlot_65) h1 (fun a c => by intro h; cases h) (hval 1 31 v1 rfl rfl) (by kernel_rfl)
    obtain ⟨a2, ra2, wa2⟩ := arg_reads (reads_int Tryz.underlying32) h2 (fun a c => by intro h; cases h) (hval 2 32 v2 rfl rfl) (by kernel_rfl)
    obtain ⟨a3, ra3, wa3⟩ := arg_reads (reads_int Tryz.underlying33) h3 (fun a c => by intro h; cases h) (hval 3 33 v3 rfl rfl) (by kernel_rfl)
    obtain ⟨a4, ra4, wa4⟩ := arg_readsS read_TEvent_36 h4 (fun a => ⟨_, rfl⟩) (hval 4 36 v4 rfl rfl) Tryz.underlying36
    refine ⟨[.d (TQea.D a0), .d ((D.l TSlot.D) a1), .d ((D.i .u32) a2), .d ((D.i .u64) a3), .d (TEvent.D a4)], ?_, law22_JointNext_ok (law22_JointNext_plain wa0 wa1 wa2 wa3 wa4)⟩
    simp only [RAs, RA]
    exact ⟨v0, _, rfl, ra0, ⟨v1, _, rfl, ra1, ⟨v2, _, rfl, ra2, ⟨v3, _, rfl, ra3, ⟨v4, _, rfl, ra4, rfl⟩⟩⟩⟩⟩
set_option maxRecDepth 100000 in
theorem law22_JointNext_lifted (os : Os) (started : os.Started) (H : Type) (enc : TypeId × Value → H) :
    ReturnsInHanded {} Tryz.checked os 3 .any (Go.Proofs.YtbmojpadjglncaaGreat.Rows.jointNextSpec.pre6 enc Tryz.prog Tryz.f3 Go.Proofs.YtbmojpadjglncaaGreat.Rows.jointNextRow.domain false) (Go.Proofs.YtbmojpadjglncaaGreat.Rows.jointNextSpec.post enc Tryz.prog Tryz.f3 false true false false) := by
  refine returnsInHanded_of_change (C := Tryz.checked) law22_JointNext_own started (by kernel_rfl) Tryz.func3
    (ChangeSpec.witness6 (enc := enc) (C := Tryz.checked) false ⟨#[], #[.agg #[.string ⟨#[]⟩, .slice none 0 0, .slice none 0 0, .slice none 0 0, .slice none 0 0, .int .i64 0, .slice none 0 0, .slice none 0 0, .slice none 0 0], .slice none 0 0, .int .u32 0, .int .u64 0, .agg #[.string ⟨#[]⟩, .slice none 0 0]], []⟩ 8 (by kernel_rfl) (by kernel_rfl) (by kernel_rfl) (by kernel_rfl)) ?_
  intro W base args ds gs before hval hW _ _
  exact law22_JointNext_contract W base args ds gs before hval hW
end Go.Ac
namespace Go.Proofs.YtbmojpadjglncaaGreat
open Go.Ac
theorem JointNextSaid_holds : Rows.JointNextSaid :=
  OpenClaim.holds_of_wide 3 Tryz.f3 rfl rfl rfl rfl rfl rfl rfl ⟨rfl, rfl, rfl, rfl, rfl⟩ rfl rfl rfl rfl rfl (by kernel_rfl) Tryz.func3 (by kernel_rfl)
    (of_decide_eq_true (by kernel_rfl)) (by unfold Func.isWrapper; first | (rw [if_pos (by decide +kernel)]; kernel_rfl) | (rw [if_neg (by decide +kernel)]; exact ⟨rfl, rfl⟩))
    (fun os started H enc _ => law22_JointNext_lifted os started H enc)
end Go.Proofs.YtbmojpadjglncaaGreat
