/- Own work: the statement, joined of its parts; it holds for every input. -/
import Derived.Test.YtbmojpadjglncaaGreatWa22zsx2
import Derived.Test.YtbmojpadjglncaaGreatP22zsy
import Derived.Test.YtbmojpadjglncaaGreatAcC
import Derived.Test.YtbmojpadjglncaaGreatRows
set_option linter.unusedVariables false
set_option linter.unusedSimpArgs false
namespace Go.Ac
open Go.Proofs
theorem aHd {n : Int} (h : (Lit.int .i64 n).wf = true) : -9223372036854775808 ≤ n ∧ n ≤ 9223372036854775807 := by simpa [Lit.wf, IntKind.min, IntKind.max, IntKind.signed, IntKind.bits] using h
def X6.Wf (v : X6) : Prop := (fun l => l.length ≤ 9223372036854775807) v.name ∧ (fun l => l.length ≤ 9223372036854775807 ∧ ∀ x ∈ l, (fun n => (Lit.int .i64 n).wf = true) x) v.types
def Y4.Wf (v : Y4) : Prop := True ∧ (fun l => l.length ≤ 9223372036854775807) v.name ∧ (fun n => (Lit.int .i64 n).wf = true) v.type
def X0.Wf (v : X0) : Prop := (fun n => (Lit.int .i64 n).wf = true) v.kind ∧ (fun n => (Lit.int .i64 n).wf = true) v.int ∧ (fun l => l.length ≤ 9223372036854775807) v.str ∧ True
def Ya.Wf (v : Ya) : Prop := (fun l => l.length ≤ 9223372036854775807) v.name ∧ X0.Wf v.init_
def Yh.Wf (v : Yh) : Prop := (fun l => l.length ≤ 9223372036854775807) v.name ∧ True ∧ True
def Av.Wf (v : Av) : Prop := (fun n => (Lit.int .i64 n).wf = true) v.kind ∧ (fun n => (Lit.int .i64 n).wf = true) v.n ∧ X0.Wf v.value
def X5.Wf (v : X5) : Prop := (fun n => (Lit.int .i64 n).wf = true) v.event ∧ (fun l => l.length ≤ 9223372036854775807 ∧ ∀ x ∈ l, Av.Wf x) v.args
def Ym.Wf (v : Ym) : Prop := (fun n => (Lit.int .i64 n).wf = true) v.op ∧ (fun n => (Lit.int .i64 n).wf = true) v.a ∧ (fun n => (Lit.int .i64 n).wf = true) v.b ∧ X0.Wf v.value
def EG.Wf (v : EG) : Prop := (fun n => (Lit.int .i64 n).wf = true) v.free ∧ (fun n => (Lit.int .i64 n).wf = true) v.expr
def Xm.Wf (v : Xm) : Prop := (fun n => (Lit.int .i64 n).wf = true) v.from_ ∧ (fun n => (Lit.int .i64 n).wf = true) v.symbol ∧ (fun n => (Lit.int .i64 n).wf = true) v.to ∧ (fun n => (Lit.int .i64 n).wf = true) v.guard ∧ (fun l => l.length ≤ 9223372036854775807 ∧ ∀ x ∈ l, EG.Wf x) v.sets
def AE.Wf (v : AE) : Prop := (fun l => l.length ≤ 9223372036854775807) v.name ∧ (fun l => l.length ≤ 9223372036854775807 ∧ ∀ x ∈ l, X6.Wf x) v.decls ∧ (fun l => l.length ≤ 9223372036854775807 ∧ ∀ x ∈ l, Y4.Wf x) v.quants ∧ (fun l => l.length ≤ 9223372036854775807 ∧ ∀ x ∈ l, Ya.Wf x) v.frees ∧ (fun l => l.length ≤ 9223372036854775807 ∧ ∀ x ∈ l, Yh.Wf x) v.states ∧ (fun n => (Lit.int .i64 n).wf = true) v.start ∧ (fun l => l.length ≤ 9223372036854775807 ∧ ∀ x ∈ l, X5.Wf x) v.symbols ∧ (fun l => l.length ≤ 9223372036854775807 ∧ ∀ x ∈ l, Ym.Wf x) v.nodes ∧ (fun l => l.length ≤ 9223372036854775807 ∧ ∀ x ∈ l, Xm.Wf x) v.trans
def X2.Wf (v : X2) : Prop := (fun n => (Lit.int .i64 n).wf = true) v.var ∧ X0.Wf v.value
def X3.Wf (v : X3) : Prop := (fun l => l.length ≤ 9223372036854775807) v.name ∧ (fun l => l.length ≤ 9223372036854775807 ∧ ∀ x ∈ l, X0.Wf x) v.args
theorem J0 : BQ Tryz.prog 63 X6.D X6.Wf := by
 refine Ax (n := 2) Tryz.underlying63 (by kernel_rfl) ?_
 intro H enc w sp held fuel cs hlen hf
 have hf2 := fun (i : Nat) (g : Field) h => hf g (List.mem_of_getElem? (i := i) h)
 have c0 : Tryz.prog.cellsOf 9 = 1 := by kernel_rfl
 obtain ⟨x0, h0⟩ : ∃ x, DataW.trod enc Tryz.prog w 0 sp held fuel 9 ((cs.drop 0).take (Tryz.prog.cellsOf 9)) = some x := hf2 0 _ rfl
 rw [c0] at h0
 obtain ⟨v0, r0, w0⟩ := (Bp Tryz.underlying9) enc w sp held fuel _ _ h0
 have c1 : Tryz.prog.cellsOf 61 = 1 := by kernel_rfl
 obtain ⟨x1, h1⟩ : ∃ x, DataW.trod enc Tryz.prog w 0 sp held fuel 61 ((cs.drop 1).take (Tryz.prog.cellsOf 61)) = some x := hf2 1 _ rfl
 rw [c1] at h1
 obtain ⟨v1, r1, w1⟩ := (BG Tryz.underlying61 (by kernel_rfl) (A7 Tryz.underlying3)) enc w sp held fuel _ _ h1
 have hh := AT (o := 0) (k := 1) r0 (AT (o := 1) (k := 1) r1 (show RDs (hOf w) w [] (cs.drop 2) from by rw [List.drop_eq_nil_of_le (by omega)]; simp [RDs]))
 refine ⟨⟨v0, v1⟩, ?_, w0, w1⟩
 simpa only [List.drop_zero, List.append_nil, List.append_assoc, List.cons_append, List.nil_append, X6.D, CK, CJ, CM, CN, CL, BV] using hh
theorem IT : BQ Tryz.prog 69 Y4.D Y4.Wf := by
 refine Ax (n := 3) Tryz.underlying69 (by kernel_rfl) ?_
 intro H enc w sp held fuel cs hlen hf
 have hf2 := fun (i : Nat) (g : Field) h => hf g (List.mem_of_getElem? (i := i) h)
 have c0 : Tryz.prog.cellsOf 4 = 1 := by kernel_rfl
 obtain ⟨x0, h0⟩ : ∃ x, DataW.trod enc Tryz.prog w 0 sp held fuel 4 ((cs.drop 0).take (Tryz.prog.cellsOf 4)) = some x := hf2 0 _ rfl
 rw [c0] at h0
 obtain ⟨v0, r0, w0⟩ := (D5 Tryz.underlying4) enc w sp held fuel _ _ h0
 have c1 : Tryz.prog.cellsOf 9 = 1 := by kernel_rfl
 obtain ⟨x1, h1⟩ : ∃ x, DataW.trod enc Tryz.prog w 0 sp held fuel 9 ((cs.drop 1).take (Tryz.prog.cellsOf 9)) = some x := hf2 1 _ rfl
 rw [c1] at h1
 obtain ⟨v1, r1, w1⟩ := (Bp Tryz.underlying9) enc w sp held fuel _ _ h1
 have c2 : Tryz.prog.cellsOf 3 = 1 := by kernel_rfl
 obtain ⟨x2, h2⟩ : ∃ x, DataW.trod enc Tryz.prog w 0 sp held fuel 3 ((cs.drop 2).take (Tryz.prog.cellsOf 3)) = some x := hf2 2 _ rfl
 rw [c2] at h2
 obtain ⟨v2, r2, w2⟩ := (A7 Tryz.underlying3) enc w sp held fuel _ _ h2
 have hh := AT (o := 0) (k := 1) r0 (AT (o := 1) (k := 1) r1 (AT (o := 2) (k := 1) r2 (show RDs (hOf w) w [] (cs.drop 3) from by rw [List.drop_eq_nil_of_le (by omega)]; simp [RDs])))
 refine ⟨⟨v0, v1, v2⟩, ?_, w0, w1, w2⟩
 simpa only [List.drop_zero, List.append_nil, List.append_assoc, List.cons_append, List.nil_append, Y4.D, CK, CJ, CM, CN, CL, BV] using hh
theorem Bw : BQ Tryz.prog 54 X0.D X0.Wf := by
 refine Ax (n := 4) Tryz.underlying54 (by kernel_rfl) ?_
 intro H enc w sp held fuel cs hlen hf
 have hf2 := fun (i : Nat) (g : Field) h => hf g (List.mem_of_getElem? (i := i) h)
 have c0 : Tryz.prog.cellsOf 3 = 1 := by kernel_rfl
 obtain ⟨x0, h0⟩ : ∃ x, DataW.trod enc Tryz.prog w 0 sp held fuel 3 ((cs.drop 0).take (Tryz.prog.cellsOf 3)) = some x := hf2 0 _ rfl
 rw [c0] at h0
 obtain ⟨v0, r0, w0⟩ := (A7 Tryz.underlying3) enc w sp held fuel _ _ h0
 have c1 : Tryz.prog.cellsOf 2 = 1 := by kernel_rfl
 obtain ⟨x1, h1⟩ : ∃ x, DataW.trod enc Tryz.prog w 0 sp held fuel 2 ((cs.drop 1).take (Tryz.prog.cellsOf 2)) = some x := hf2 1 _ rfl
 rw [c1] at h1
 obtain ⟨v1, r1, w1⟩ := (A7 Tryz.underlying2) enc w sp held fuel _ _ h1
 have c2 : Tryz.prog.cellsOf 9 = 1 := by kernel_rfl
 obtain ⟨x2, h2⟩ : ∃ x, DataW.trod enc Tryz.prog w 0 sp held fuel 9 ((cs.drop 2).take (Tryz.prog.cellsOf 9)) = some x := hf2 2 _ rfl
 rw [c2] at h2
 obtain ⟨v2, r2, w2⟩ := (Bp Tryz.underlying9) enc w sp held fuel _ _ h2
 have c3 : Tryz.prog.cellsOf 4 = 1 := by kernel_rfl
 obtain ⟨x3, h3⟩ : ∃ x, DataW.trod enc Tryz.prog w 0 sp held fuel 4 ((cs.drop 3).take (Tryz.prog.cellsOf 4)) = some x := hf2 3 _ rfl
 rw [c3] at h3
 obtain ⟨v3, r3, w3⟩ := (D5 Tryz.underlying4) enc w sp held fuel _ _ h3
 have hh := AT (o := 0) (k := 1) r0 (AT (o := 1) (k := 1) r1 (AT (o := 2) (k := 1) r2 (AT (o := 3) (k := 1) r3 (show RDs (hOf w) w [] (cs.drop 4) from by rw [List.drop_eq_nil_of_le (by omega)]; simp [RDs]))))
 refine ⟨⟨v0, v1, v2, v3⟩, ?_, w0, w1, w2, w3⟩
 simpa only [List.drop_zero, List.append_nil, List.append_assoc, List.cons_append, List.nil_append, X0.D, CK, CJ, CM, CN, CL, BV] using hh
theorem J1 : BQ Tryz.prog 99 Ya.D Ya.Wf := by
 refine Ax (n := 5) Tryz.underlying99 (by kernel_rfl) ?_
 intro H enc w sp held fuel cs hlen hf
 have hf2 := fun (i : Nat) (g : Field) h => hf g (List.mem_of_getElem? (i := i) h)
 have c0 : Tryz.prog.cellsOf 9 = 1 := by kernel_rfl
 obtain ⟨x0, h0⟩ : ∃ x, DataW.trod enc Tryz.prog w 0 sp held fuel 9 ((cs.drop 0).take (Tryz.prog.cellsOf 9)) = some x := hf2 0 _ rfl
 rw [c0] at h0
 obtain ⟨v0, r0, w0⟩ := (Bp Tryz.underlying9) enc w sp held fuel _ _ h0
 have c1 : Tryz.prog.cellsOf 54 = 4 := by kernel_rfl
 obtain ⟨x1, h1⟩ : ∃ x, DataW.trod enc Tryz.prog w 0 sp held fuel 54 ((cs.drop 1).take (Tryz.prog.cellsOf 54)) = some x := hf2 1 _ rfl
 rw [c1] at h1
 obtain ⟨v1, r1, w1⟩ := Bw enc w sp held fuel _ _ h1
 have hh := AT (o := 0) (k := 1) r0 (AT (o := 1) (k := 4) r1 (show RDs (hOf w) w [] (cs.drop 5) from by rw [List.drop_eq_nil_of_le (by omega)]; simp [RDs]))
 refine ⟨⟨v0, v1⟩, ?_, w0, w1⟩
 simpa only [List.drop_zero, List.append_nil, List.append_assoc, List.cons_append, List.nil_append, Ya.D, CK, CJ, CM, CN, CL, BV] using hh
theorem IU : BQ Tryz.prog 71 Yh.D Yh.Wf := by
 refine Ax (n := 3) Tryz.underlying71 (by kernel_rfl) ?_
 intro H enc w sp held fuel cs hlen hf
 have hf2 := fun (i : Nat) (g : Field) h => hf g (List.mem_of_getElem? (i := i) h)
 have c0 : Tryz.prog.cellsOf 9 = 1 := by kernel_rfl
 obtain ⟨x0, h0⟩ : ∃ x, DataW.trod enc Tryz.prog w 0 sp held fuel 9 ((cs.drop 0).take (Tryz.prog.cellsOf 9)) = some x := hf2 0 _ rfl
 rw [c0] at h0
 obtain ⟨v0, r0, w0⟩ := (Bp Tryz.underlying9) enc w sp held fuel _ _ h0
 have c1 : Tryz.prog.cellsOf 4 = 1 := by kernel_rfl
 obtain ⟨x1, h1⟩ : ∃ x, DataW.trod enc Tryz.prog w 0 sp held fuel 4 ((cs.drop 1).take (Tryz.prog.cellsOf 4)) = some x := hf2 1 _ rfl
 rw [c1] at h1
 obtain ⟨v1, r1, w1⟩ := (D5 Tryz.underlying4) enc w sp held fuel _ _ h1
 have c2 : Tryz.prog.cellsOf 4 = 1 := by kernel_rfl
 obtain ⟨x2, h2⟩ : ∃ x, DataW.trod enc Tryz.prog w 0 sp held fuel 4 ((cs.drop 2).take (Tryz.prog.cellsOf 4)) = some x := hf2 2 _ rfl
 rw [c2] at h2
 obtain ⟨v2, r2, w2⟩ := (D5 Tryz.underlying4) enc w sp held fuel _ _ h2
 have hh := AT (o := 0) (k := 1) r0 (AT (o := 1) (k := 1) r1 (AT (o := 2) (k := 1) r2 (show RDs (hOf w) w [] (cs.drop 3) from by rw [List.drop_eq_nil_of_le (by omega)]; simp [RDs])))
 refine ⟨⟨v0, v1, v2⟩, ?_, w0, w1, w2⟩
 simpa only [List.drop_zero, List.append_nil, List.append_assoc, List.cons_append, List.nil_append, Yh.D, CK, CJ, CM, CN, CL, BV] using hh
theorem LA : BQ Tryz.prog 73 Av.D Av.Wf := by
 refine Ax (n := 6) Tryz.underlying73 (by kernel_rfl) ?_
 intro H enc w sp held fuel cs hlen hf
 have hf2 := fun (i : Nat) (g : Field) h => hf g (List.mem_of_getElem? (i := i) h)
 have c0 : Tryz.prog.cellsOf 3 = 1 := by kernel_rfl
 obtain ⟨x0, h0⟩ : ∃ x, DataW.trod enc Tryz.prog w 0 sp held fuel 3 ((cs.drop 0).take (Tryz.prog.cellsOf 3)) = some x := hf2 0 _ rfl
 rw [c0] at h0
 obtain ⟨v0, r0, w0⟩ := (A7 Tryz.underlying3) enc w sp held fuel _ _ h0
 have c1 : Tryz.prog.cellsOf 3 = 1 := by kernel_rfl
 obtain ⟨x1, h1⟩ : ∃ x, DataW.trod enc Tryz.prog w 0 sp held fuel 3 ((cs.drop 1).take (Tryz.prog.cellsOf 3)) = some x := hf2 1 _ rfl
 rw [c1] at h1
 obtain ⟨v1, r1, w1⟩ := (A7 Tryz.underlying3) enc w sp held fuel _ _ h1
 have c2 : Tryz.prog.cellsOf 54 = 4 := by kernel_rfl
 obtain ⟨x2, h2⟩ : ∃ x, DataW.trod enc Tryz.prog w 0 sp held fuel 54 ((cs.drop 2).take (Tryz.prog.cellsOf 54)) = some x := hf2 2 _ rfl
 rw [c2] at h2
 obtain ⟨v2, r2, w2⟩ := Bw enc w sp held fuel _ _ h2
 have hh := AT (o := 0) (k := 1) r0 (AT (o := 1) (k := 1) r1 (AT (o := 2) (k := 4) r2 (show RDs (hOf w) w [] (cs.drop 6) from by rw [List.drop_eq_nil_of_le (by omega)]; simp [RDs])))
 refine ⟨⟨v0, v1, v2⟩, ?_, w0, w1, w2⟩
 simpa only [List.drop_zero, List.append_nil, List.append_assoc, List.cons_append, List.nil_append, Av.D, CK, CJ, CM, CN, CL, BV] using hh
theorem H5 : BQ Tryz.prog 76 X5.D X5.Wf := by
 refine Ax (n := 2) Tryz.underlying76 (by kernel_rfl) ?_
 intro H enc w sp held fuel cs hlen hf
 have hf2 := fun (i : Nat) (g : Field) h => hf g (List.mem_of_getElem? (i := i) h)
 have c0 : Tryz.prog.cellsOf 3 = 1 := by kernel_rfl
 obtain ⟨x0, h0⟩ : ∃ x, DataW.trod enc Tryz.prog w 0 sp held fuel 3 ((cs.drop 0).take (Tryz.prog.cellsOf 3)) = some x := hf2 0 _ rfl
 rw [c0] at h0
 obtain ⟨v0, r0, w0⟩ := (A7 Tryz.underlying3) enc w sp held fuel _ _ h0
 have c1 : Tryz.prog.cellsOf 74 = 1 := by kernel_rfl
 obtain ⟨x1, h1⟩ : ∃ x, DataW.trod enc Tryz.prog w 0 sp held fuel 74 ((cs.drop 1).take (Tryz.prog.cellsOf 74)) = some x := hf2 1 _ rfl
 rw [c1] at h1
 obtain ⟨v1, r1, w1⟩ := (BG Tryz.underlying74 (by kernel_rfl) LA) enc w sp held fuel _ _ h1
 have hh := AT (o := 0) (k := 1) r0 (AT (o := 1) (k := 1) r1 (show RDs (hOf w) w [] (cs.drop 2) from by rw [List.drop_eq_nil_of_le (by omega)]; simp [RDs]))
 refine ⟨⟨v0, v1⟩, ?_, w0, w1⟩
 simpa only [List.drop_zero, List.append_nil, List.append_assoc, List.cons_append, List.nil_append, X5.D, CK, CJ, CM, CN, CL, BV] using hh
theorem IS : BQ Tryz.prog 101 Ym.D Ym.Wf := by
 refine Ax (n := 7) Tryz.underlying101 (by kernel_rfl) ?_
 intro H enc w sp held fuel cs hlen hf
 have hf2 := fun (i : Nat) (g : Field) h => hf g (List.mem_of_getElem? (i := i) h)
 have c0 : Tryz.prog.cellsOf 3 = 1 := by kernel_rfl
 obtain ⟨x0, h0⟩ : ∃ x, DataW.trod enc Tryz.prog w 0 sp held fuel 3 ((cs.drop 0).take (Tryz.prog.cellsOf 3)) = some x := hf2 0 _ rfl
 rw [c0] at h0
 obtain ⟨v0, r0, w0⟩ := (A7 Tryz.underlying3) enc w sp held fuel _ _ h0
 have c1 : Tryz.prog.cellsOf 3 = 1 := by kernel_rfl
 obtain ⟨x1, h1⟩ : ∃ x, DataW.trod enc Tryz.prog w 0 sp held fuel 3 ((cs.drop 1).take (Tryz.prog.cellsOf 3)) = some x := hf2 1 _ rfl
 rw [c1] at h1
 obtain ⟨v1, r1, w1⟩ := (A7 Tryz.underlying3) enc w sp held fuel _ _ h1
 have c2 : Tryz.prog.cellsOf 3 = 1 := by kernel_rfl
 obtain ⟨x2, h2⟩ : ∃ x, DataW.trod enc Tryz.prog w 0 sp held fuel 3 ((cs.drop 2).take (Tryz.prog.cellsOf 3)) = some x := hf2 2 _ rfl
 rw [c2] at h2
 obtain ⟨v2, r2, w2⟩ := (A7 Tryz.underlying3) enc w sp held fuel _ _ h2
 have c3 : Tryz.prog.cellsOf 54 = 4 := by kernel_rfl
 obtain ⟨x3, h3⟩ : ∃ x, DataW.trod enc Tryz.prog w 0 sp held fuel 54 ((cs.drop 3).take (Tryz.prog.cellsOf 54)) = some x := hf2 3 _ rfl
 rw [c3] at h3
 obtain ⟨v3, r3, w3⟩ := Bw enc w sp held fuel _ _ h3
 have hh := AT (o := 0) (k := 1) r0 (AT (o := 1) (k := 1) r1 (AT (o := 2) (k := 1) r2 (AT (o := 3) (k := 4) r3 (show RDs (hOf w) w [] (cs.drop 7) from by rw [List.drop_eq_nil_of_le (by omega)]; simp [RDs]))))
 refine ⟨⟨v0, v1, v2, v3⟩, ?_, w0, w1, w2, w3⟩
 simpa only [List.drop_zero, List.append_nil, List.append_assoc, List.cons_append, List.nil_append, Ym.D, CK, CJ, CM, CN, CL, BV] using hh
theorem J2 : BQ Tryz.prog 131 EG.D EG.Wf := by
 refine Ax (n := 2) Tryz.underlying131 (by kernel_rfl) ?_
 intro H enc w sp held fuel cs hlen hf
 have hf2 := fun (i : Nat) (g : Field) h => hf g (List.mem_of_getElem? (i := i) h)
 have c0 : Tryz.prog.cellsOf 3 = 1 := by kernel_rfl
 obtain ⟨x0, h0⟩ : ∃ x, DataW.trod enc Tryz.prog w 0 sp held fuel 3 ((cs.drop 0).take (Tryz.prog.cellsOf 3)) = some x := hf2 0 _ rfl
 rw [c0] at h0
 obtain ⟨v0, r0, w0⟩ := (A7 Tryz.underlying3) enc w sp held fuel _ _ h0
 have c1 : Tryz.prog.cellsOf 3 = 1 := by kernel_rfl
 obtain ⟨x1, h1⟩ : ∃ x, DataW.trod enc Tryz.prog w 0 sp held fuel 3 ((cs.drop 1).take (Tryz.prog.cellsOf 3)) = some x := hf2 1 _ rfl
 rw [c1] at h1
 obtain ⟨v1, r1, w1⟩ := (A7 Tryz.underlying3) enc w sp held fuel _ _ h1
 have hh := AT (o := 0) (k := 1) r0 (AT (o := 1) (k := 1) r1 (show RDs (hOf w) w [] (cs.drop 2) from by rw [List.drop_eq_nil_of_le (by omega)]; simp [RDs]))
 refine ⟨⟨v0, v1⟩, ?_, w0, w1⟩
 simpa only [List.drop_zero, List.append_nil, List.append_assoc, List.cons_append, List.nil_append, EG.D, CK, CJ, CM, CN, CL, BV] using hh
theorem IV : BQ Tryz.prog 80 Xm.D Xm.Wf := by
 refine Ax (n := 5) Tryz.underlying80 (by kernel_rfl) ?_
 intro H enc w sp held fuel cs hlen hf
 have hf2 := fun (i : Nat) (g : Field) h => hf g (List.mem_of_getElem? (i := i) h)
 have c0 : Tryz.prog.cellsOf 3 = 1 := by kernel_rfl
 obtain ⟨x0, h0⟩ : ∃ x, DataW.trod enc Tryz.prog w 0 sp held fuel 3 ((cs.drop 0).take (Tryz.prog.cellsOf 3)) = some x := hf2 0 _ rfl
 rw [c0] at h0
 obtain ⟨v0, r0, w0⟩ := (A7 Tryz.underlying3) enc w sp held fuel _ _ h0
 have c1 : Tryz.prog.cellsOf 3 = 1 := by kernel_rfl
 obtain ⟨x1, h1⟩ : ∃ x, DataW.trod enc Tryz.prog w 0 sp held fuel 3 ((cs.drop 1).take (Tryz.prog.cellsOf 3)) = some x := hf2 1 _ rfl
 rw [c1] at h1
 obtain ⟨v1, r1, w1⟩ := (A7 Tryz.underlying3) enc w sp held fuel _ _ h1
 have c2 : Tryz.prog.cellsOf 3 = 1 := by kernel_rfl
 obtain ⟨x2, h2⟩ : ∃ x, DataW.trod enc Tryz.prog w 0 sp held fuel 3 ((cs.drop 2).take (Tryz.prog.cellsOf 3)) = some x := hf2 2 _ rfl
 rw [c2] at h2
 obtain ⟨v2, r2, w2⟩ := (A7 Tryz.underlying3) enc w sp held fuel _ _ h2
 have c3 : Tryz.prog.cellsOf 3 = 1 := by kernel_rfl
 obtain ⟨x3, h3⟩ : ∃ x, DataW.trod enc Tryz.prog w 0 sp held fuel 3 ((cs.drop 3).take (Tryz.prog.cellsOf 3)) = some x := hf2 3 _ rfl
 rw [c3] at h3
 obtain ⟨v3, r3, w3⟩ := (A7 Tryz.underlying3) enc w sp held fuel _ _ h3
 have c4 : Tryz.prog.cellsOf 78 = 1 := by kernel_rfl
 obtain ⟨x4, h4⟩ : ∃ x, DataW.trod enc Tryz.prog w 0 sp held fuel 78 ((cs.drop 4).take (Tryz.prog.cellsOf 78)) = some x := hf2 4 _ rfl
 rw [c4] at h4
 obtain ⟨v4, r4, w4⟩ := (BG Tryz.underlying78 (by kernel_rfl) J2) enc w sp held fuel _ _ h4
 have hh := AT (o := 0) (k := 1) r0 (AT (o := 1) (k := 1) r1 (AT (o := 2) (k := 1) r2 (AT (o := 3) (k := 1) r3 (AT (o := 4) (k := 1) r4 (show RDs (hOf w) w [] (cs.drop 5) from by rw [List.drop_eq_nil_of_le (by omega)]; simp [RDs])))))
 refine ⟨⟨v0, v1, v2, v3, v4⟩, ?_, w0, w1, w2, w3, w4⟩
 simpa only [List.drop_zero, List.append_nil, List.append_assoc, List.cons_append, List.nil_append, Xm.D, CK, CJ, CM, CN, CL, BV] using hh
theorem LB : BQ Tryz.prog 30 AE.D AE.Wf := by
 refine Ax (n := 9) Tryz.underlying30 (by kernel_rfl) ?_
 intro H enc w sp held fuel cs hlen hf
 have hf2 := fun (i : Nat) (g : Field) h => hf g (List.mem_of_getElem? (i := i) h)
 have c0 : Tryz.prog.cellsOf 9 = 1 := by kernel_rfl
 obtain ⟨x0, h0⟩ : ∃ x, DataW.trod enc Tryz.prog w 0 sp held fuel 9 ((cs.drop 0).take (Tryz.prog.cellsOf 9)) = some x := hf2 0 _ rfl
 rw [c0] at h0
 obtain ⟨v0, r0, w0⟩ := (Bp Tryz.underlying9) enc w sp held fuel _ _ h0
 have c1 : Tryz.prog.cellsOf 22 = 1 := by kernel_rfl
 obtain ⟨x1, h1⟩ : ∃ x, DataW.trod enc Tryz.prog w 0 sp held fuel 22 ((cs.drop 1).take (Tryz.prog.cellsOf 22)) = some x := hf2 1 _ rfl
 rw [c1] at h1
 obtain ⟨v1, r1, w1⟩ := (BG Tryz.underlying22 (by kernel_rfl) J0) enc w sp held fuel _ _ h1
 have c2 : Tryz.prog.cellsOf 23 = 1 := by kernel_rfl
 obtain ⟨x2, h2⟩ : ∃ x, DataW.trod enc Tryz.prog w 0 sp held fuel 23 ((cs.drop 2).take (Tryz.prog.cellsOf 23)) = some x := hf2 2 _ rfl
 rw [c2] at h2
 obtain ⟨v2, r2, w2⟩ := (BG Tryz.underlying23 (by kernel_rfl) IT) enc w sp held fuel _ _ h2
 have c3 : Tryz.prog.cellsOf 24 = 1 := by kernel_rfl
 obtain ⟨x3, h3⟩ : ∃ x, DataW.trod enc Tryz.prog w 0 sp held fuel 24 ((cs.drop 3).take (Tryz.prog.cellsOf 24)) = some x := hf2 3 _ rfl
 rw [c3] at h3
 obtain ⟨v3, r3, w3⟩ := (BG Tryz.underlying24 (by kernel_rfl) J1) enc w sp held fuel _ _ h3
 have c4 : Tryz.prog.cellsOf 25 = 1 := by kernel_rfl
 obtain ⟨x4, h4⟩ : ∃ x, DataW.trod enc Tryz.prog w 0 sp held fuel 25 ((cs.drop 4).take (Tryz.prog.cellsOf 25)) = some x := hf2 4 _ rfl
 rw [c4] at h4
 obtain ⟨v4, r4, w4⟩ := (BG Tryz.underlying25 (by kernel_rfl) IU) enc w sp held fuel _ _ h4
 have c5 : Tryz.prog.cellsOf 3 = 1 := by kernel_rfl
 obtain ⟨x5, h5⟩ : ∃ x, DataW.trod enc Tryz.prog w 0 sp held fuel 3 ((cs.drop 5).take (Tryz.prog.cellsOf 3)) = some x := hf2 5 _ rfl
 rw [c5] at h5
 obtain ⟨v5, r5, w5⟩ := (A7 Tryz.underlying3) enc w sp held fuel _ _ h5
 have c6 : Tryz.prog.cellsOf 26 = 1 := by kernel_rfl
 obtain ⟨x6, h6⟩ : ∃ x, DataW.trod enc Tryz.prog w 0 sp held fuel 26 ((cs.drop 6).take (Tryz.prog.cellsOf 26)) = some x := hf2 6 _ rfl
 rw [c6] at h6
 obtain ⟨v6, r6, w6⟩ := (BG Tryz.underlying26 (by kernel_rfl) H5) enc w sp held fuel _ _ h6
 have c7 : Tryz.prog.cellsOf 27 = 1 := by kernel_rfl
 obtain ⟨x7, h7⟩ : ∃ x, DataW.trod enc Tryz.prog w 0 sp held fuel 27 ((cs.drop 7).take (Tryz.prog.cellsOf 27)) = some x := hf2 7 _ rfl
 rw [c7] at h7
 obtain ⟨v7, r7, w7⟩ := (BG Tryz.underlying27 (by kernel_rfl) IS) enc w sp held fuel _ _ h7
 have c8 : Tryz.prog.cellsOf 28 = 1 := by kernel_rfl
 obtain ⟨x8, h8⟩ : ∃ x, DataW.trod enc Tryz.prog w 0 sp held fuel 28 ((cs.drop 8).take (Tryz.prog.cellsOf 28)) = some x := hf2 8 _ rfl
 rw [c8] at h8
 obtain ⟨v8, r8, w8⟩ := (BG Tryz.underlying28 (by kernel_rfl) IV) enc w sp held fuel _ _ h8
 have hh := AT (o := 0) (k := 1) r0 (AT (o := 1) (k := 1) r1 (AT (o := 2) (k := 1) r2 (AT (o := 3) (k := 1) r3 (AT (o := 4) (k := 1) r4 (AT (o := 5) (k := 1) r5 (AT (o := 6) (k := 1) r6 (AT (o := 7) (k := 1) r7 (AT (o := 8) (k := 1) r8 (show RDs (hOf w) w [] (cs.drop 9) from by rw [List.drop_eq_nil_of_le (by omega)]; simp [RDs])))))))))
 refine ⟨⟨v0, v1, v2, v3, v4, v5, v6, v7, v8⟩, ?_, w0, w1, w2, w3, w4, w5, w6, w7, w8⟩
 simpa only [List.drop_zero, List.append_nil, List.append_assoc, List.cons_append, List.nil_append, AE.D, CK, CJ, CM, CN, CL, BV] using hh
theorem J3 : BQ Tryz.prog 65 X2.D X2.Wf := by
 refine Ax (n := 5) Tryz.underlying65 (by kernel_rfl) ?_
 intro H enc w sp held fuel cs hlen hf
 have hf2 := fun (i : Nat) (g : Field) h => hf g (List.mem_of_getElem? (i := i) h)
 have c0 : Tryz.prog.cellsOf 3 = 1 := by kernel_rfl
 obtain ⟨x0, h0⟩ : ∃ x, DataW.trod enc Tryz.prog w 0 sp held fuel 3 ((cs.drop 0).take (Tryz.prog.cellsOf 3)) = some x := hf2 0 _ rfl
 rw [c0] at h0
 obtain ⟨v0, r0, w0⟩ := (A7 Tryz.underlying3) enc w sp held fuel _ _ h0
 have c1 : Tryz.prog.cellsOf 54 = 4 := by kernel_rfl
 obtain ⟨x1, h1⟩ : ∃ x, DataW.trod enc Tryz.prog w 0 sp held fuel 54 ((cs.drop 1).take (Tryz.prog.cellsOf 54)) = some x := hf2 1 _ rfl
 rw [c1] at h1
 obtain ⟨v1, r1, w1⟩ := Bw enc w sp held fuel _ _ h1
 have hh := AT (o := 0) (k := 1) r0 (AT (o := 1) (k := 4) r1 (show RDs (hOf w) w [] (cs.drop 5) from by rw [List.drop_eq_nil_of_le (by omega)]; simp [RDs]))
 refine ⟨⟨v0, v1⟩, ?_, w0, w1⟩
 simpa only [List.drop_zero, List.append_nil, List.append_assoc, List.cons_append, List.nil_append, X2.D, CK, CJ, CM, CN, CL, BV] using hh
theorem IR : BQ Tryz.prog 36 X3.D X3.Wf := by
 refine Ax (n := 2) Tryz.underlying36 (by kernel_rfl) ?_
 intro H enc w sp held fuel cs hlen hf
 have hf2 := fun (i : Nat) (g : Field) h => hf g (List.mem_of_getElem? (i := i) h)
 have c0 : Tryz.prog.cellsOf 9 = 1 := by kernel_rfl
 obtain ⟨x0, h0⟩ : ∃ x, DataW.trod enc Tryz.prog w 0 sp held fuel 9 ((cs.drop 0).take (Tryz.prog.cellsOf 9)) = some x := hf2 0 _ rfl
 rw [c0] at h0
 obtain ⟨v0, r0, w0⟩ := (Bp Tryz.underlying9) enc w sp held fuel _ _ h0
 have c1 : Tryz.prog.cellsOf 34 = 1 := by kernel_rfl
 obtain ⟨x1, h1⟩ : ∃ x, DataW.trod enc Tryz.prog w 0 sp held fuel 34 ((cs.drop 1).take (Tryz.prog.cellsOf 34)) = some x := hf2 1 _ rfl
 rw [c1] at h1
 obtain ⟨v1, r1, w1⟩ := (BG Tryz.underlying34 (by kernel_rfl) Bw) enc w sp held fuel _ _ h1
 have hh := AT (o := 0) (k := 1) r0 (AT (o := 1) (k := 1) r1 (show RDs (hOf w) w [] (cs.drop 2) from by rw [List.drop_eq_nil_of_le (by omega)]; simp [RDs]))
 refine ⟨⟨v0, v1⟩, ?_, w0, w1⟩
 simpa only [List.drop_zero, List.append_nil, List.append_assoc, List.cons_append, List.nil_append, X3.D, CK, CJ, CM, CN, CL, BV] using hh
theorem Ww {q : AE} (h : AE.Wf q) : ∀ t ∈ q.trans, KJ t := fun t ht =>
 have w : Xm.Wf t := h.2.2.2.2.2.2.2.2.2 t ht
 ⟨aHd w.2.2.2.1, fun s hs => aHd (w.2.2.2.2.2 s hs).2⟩
theorem aB5 {a0 : AE} {a1 : List X2} {a2 : X3} (h0 : AE.Wf a0) (h1 : a1.length ≤ 9223372036854775807 ∧ ∀ x ∈ a1, X2.Wf x) (h2 : X3.Wf a2) : Xy a0 a1 a2 = some true :=
 aQp a0 a1 a2 (Ww h0) h1.1 h2.2.1
open Go.ChangeShapes Go.WideShapes Go.ChangeAt Go.RowKit
theorem aLx : ownKnob Tryz.prog.godebug = none := by kernel_rfl
set_option maxRecDepth 100000 in
theorem MD {H : Type} {enc : TypeId × Value → H} (W : World) (base : Nat) (args : Array Value) (ds gs : List (DataW H)) (before : List MemPlace)
 (hval : ∀ (j : Nat) t v, Tryz.f4.params[j]? = some t → args[j]? = some v → Value.okWide Tryz.prog W .any base t v)
 (hW : DataW.Whole enc Tryz.prog Tryz.f4.params.toList Go.Proofs.YtbmojpadjglncaaGreat.Rows.jointSetsSpec.vars false W args.toList ds gs before) :
 Calls Tryz.prog 4 args W fun e W' => ∃ v, e = .returned v ∧ Go.Proofs.YtbmojpadjglncaaGreat.Rows.jointSetsSpec.post enc Tryz.prog Tryz.f4 false true false false W args v W' := by
 refine Kw (tb := 4) (by kernel_rfl) (by kernel_rfl) (by kernel_rfl) Tryz.underlying4 (by rfl) ?_ hW ?_
 ·intro ds hd
  rw [Tryz.params4] at hd
  match ds, hd with
  | [d0, d1, d2], _ => rfl
 ·obtain ⟨p, q, hA, _, _, _, _⟩ := hW
  rw [Tryz.params4] at hA hval
  have hA2 : DataW.TrodAll enc Tryz.prog W 0 (fun _ => true) true [30, 31, 36] args.toList ds p := hA
  obtain ⟨v0, vs0, d0, ds0, p0, q0, hargs0, rfl, rfl, h0, r0⟩ := trodAll_cons hA2
  obtain ⟨v1, vs1, d1, ds1, p1, q1, hargs1, rfl, rfl, h1, r1⟩ := trodAll_cons r0
  obtain ⟨v2, vs2, d2, ds2, p2, q2, hargs2, rfl, rfl, h2, r2⟩ := trodAll_cons r1
  obtain ⟨rfl, rfl, rfl⟩ := trodAll_nil r2
  subst hargs2
  subst hargs1
  obtain rfl : args = #[v0, v1, v2] := by cases args; simp_all
  obtain ⟨a0, ra0, wa0⟩ := Ih LB h0 (fun a => ⟨_, rfl⟩) (hval 0 30 v0 rfl rfl) Tryz.underlying30
  obtain ⟨a1, ra1, wa1⟩ := Vf (BG Tryz.underlying31 (by kernel_rfl) J3) h1 (fun a c => by intro h; cases h) (hval 1 31 v1 rfl rfl) (by kernel_rfl)
  obtain ⟨a2, ra2, wa2⟩ := Ih IR h2 (fun a => ⟨_, rfl⟩) (hval 2 36 v2 rfl rfl) Tryz.underlying36
  refine ⟨[.d (AE.D a0), .d ((D.l X2.D) a1), .d (X3.D a2)], ?_, aQq (aB5 wa0 wa1 wa2)⟩
  simp only [RAs, RA]
  exact ⟨v0, _, rfl, ra0, ⟨v1, _, rfl, ra1, ⟨v2, _, rfl, ra2, rfl⟩⟩⟩
set_option maxRecDepth 100000 in
theorem TW (os : Os) (started : os.Started) (H : Type) (enc : TypeId × Value → H) :
 ReturnsInHanded {} Tryz.checked os 4 .any (Go.Proofs.YtbmojpadjglncaaGreat.Rows.jointSetsSpec.pre6 enc Tryz.prog Tryz.f4 Go.Proofs.YtbmojpadjglncaaGreat.Rows.jointSetsRow.domain false) (Go.Proofs.YtbmojpadjglncaaGreat.Rows.jointSetsSpec.post enc Tryz.prog Tryz.f4 false true false false) := by
 refine returnsInHanded_of_change (C := Tryz.checked) aLx started (by kernel_rfl) Tryz.func4
  (ChangeSpec.witness6 (enc := enc) (C := Tryz.checked) false ⟨#[], #[.agg #[.string ⟨#[]⟩, .slice none 0 0, .slice none 0 0, .slice none 0 0, .slice none 0 0, .int .i64 0, .slice none 0 0, .slice none 0 0, .slice none 0 0], .slice none 0 0, .agg #[.string ⟨#[]⟩, .slice none 0 0]], []⟩ 8 (by kernel_rfl) (by kernel_rfl) (by kernel_rfl) (by kernel_rfl)) ?_
 intro W base args ds gs before hval hW _ _
 exact MD W base args ds gs before hval hW
end Go.Ac
namespace Go.Proofs.YtbmojpadjglncaaGreat
open Go.Ac
theorem JointSetsSaid_holds : Rows.JointSetsSaid :=
 OpenClaim.holds_of_wide 4 Tryz.f4 rfl rfl rfl rfl rfl rfl rfl ⟨rfl, rfl, rfl, rfl, rfl⟩ rfl rfl rfl rfl rfl (by kernel_rfl) Tryz.func4 (by kernel_rfl)
  (of_decide_eq_true (by kernel_rfl)) (by unfold Func.isWrapper; first | (rw [if_pos (by decide +kernel)]; kernel_rfl) | (rw [if_neg (by decide +kernel)]; exact ⟨rfl, rfl⟩))
  (fun os started H enc _ => TW os started H enc)
end Go.Proofs.YtbmojpadjglncaaGreat
