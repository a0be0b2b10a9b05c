/- Own work: the statement, joined of its parts; it holds for every input. -/
import Derived.Test.YtgcfokfcilgnlaaGreatWa23mx3
import Derived.Test.YtgcfokfcilgnlaaGreatP23my
import Derived.Test.YtgcfokfcilgnlaaGreatAcC
import Derived.Test.YtgcfokfcilgnlaaGreatRows
set_option linter.unusedVariables false
set_option linter.unusedSimpArgs false
namespace Go.Ac
open Go.Proofs
theorem aLr{n:Int}(h:(Lit.int .i64 n).wf=true): -9223372036854775808<=n/\n<=9223372036854775807:=by simpa[Lit.wf,IntKind.min,IntKind.max,IntKind.signed,IntKind.bits]using h
def Xe.Wf(v:Xe):Prop:=(fun l=>l.length<=9223372036854775807) v.name/\(fun l=>l.length<=9223372036854775807/\∀x∈l,(fun n=>(Lit.int .i64 n).wf=true) x) v.types
def Ye.Wf(v:Ye):Prop:=True/\(fun l=>l.length<=9223372036854775807) v.name/\(fun n=>(Lit.int .i64 n).wf=true) v.type
def X0.Wf(v:X0):Prop:=(fun n=>(Lit.int .i64 n).wf=true) v.kind/\(fun n=>(Lit.int .i64 n).wf=true) v.int/\(fun l=>l.length<=9223372036854775807) v.str/\True
def Yg.Wf(v:Yg):Prop:=(fun l=>l.length<=9223372036854775807) v.name/\X0.Wf v.init_
def Xc.Wf(v:Xc):Prop:=(fun l=>l.length<=9223372036854775807) v.name/\True/\True
def BW.Wf(v:BW):Prop:=(fun n=>(Lit.int .i64 n).wf=true) v.kind/\(fun n=>(Lit.int .i64 n).wf=true) v.n/\X0.Wf v.value
def X3.Wf(v:X3):Prop:=(fun n=>(Lit.int .i64 n).wf=true) v.event/\(fun l=>l.length<=9223372036854775807/\∀x∈l,BW.Wf x) v.args
def Ym.Wf(v:Ym):Prop:=(fun n=>(Lit.int .i64 n).wf=true) v.op/\(fun n=>(Lit.int .i64 n).wf=true) v.a/\(fun n=>(Lit.int .i64 n).wf=true) v.b/\X0.Wf v.value
def Fi.Wf(v:Fi):Prop:=(fun n=>(Lit.int .i64 n).wf=true) v.free/\(fun n=>(Lit.int .i64 n).wf=true) v.expr
def Xd.Wf(v:Xd):Prop:=(fun n=>(Lit.int .i64 n).wf=true) v.from_/\(fun n=>(Lit.int .i64 n).wf=true) v.symbol/\(fun n=>(Lit.int .i64 n).wf=true) v.to/\(fun n=>(Lit.int .i64 n).wf=true) v.guard/\(fun l=>l.length<=9223372036854775807/\∀x∈l,Fi.Wf x) v.sets
def AD.Wf(v:AD):Prop:=(fun l=>l.length<=9223372036854775807) v.name/\(fun l=>l.length<=9223372036854775807/\∀x∈l,Xe.Wf x) v.decls/\(fun l=>l.length<=9223372036854775807/\∀x∈l,Ye.Wf x) v.quants/\(fun l=>l.length<=9223372036854775807/\∀x∈l,Yg.Wf x) v.frees/\(fun l=>l.length<=9223372036854775807/\∀x∈l,Xc.Wf x) v.states/\(fun n=>(Lit.int .i64 n).wf=true) v.start/\(fun l=>l.length<=9223372036854775807/\∀x∈l,X3.Wf x) v.symbols/\(fun l=>l.length<=9223372036854775807/\∀x∈l,Ym.Wf x) v.nodes/\(fun l=>l.length<=9223372036854775807/\∀x∈l,Xd.Wf x) v.trans
def X2.Wf(v:X2):Prop:=(fun n=>(Lit.int .i64 n).wf=true) v.var/\X0.Wf v.value
theorem La:CS Tryz.prog 89 Xe.D Xe.Wf:=by
 refine BU (n:=2) Tryz.underlying89 (by kernel_rfl) ?_;intro H enc w sp held fuel cs hlen hf;have hf2:=fun(i:Nat) (g:Field) h=>hf g (List.mem_of_getElem? (i:=i) h);have c0:Tryz.prog.cellsOf 9=1:=by kernel_rfl
 obtain⟨x0,h0⟩:∃x,DataW.trod enc Tryz.prog w 0 sp held fuel 9 ((cs.drop 0).take (Tryz.prog.cellsOf 9))=some x:=hf2 0 _ rfl;rw[c0]at h0;obtain⟨v0,r0,w0⟩:=(DT Tryz.underlying9) enc w sp held fuel _ _ h0;have c1:Tryz.prog.cellsOf 40=1:=by kernel_rfl
 obtain⟨x1,h1⟩:∃x,DataW.trod enc Tryz.prog w 0 sp held fuel 40 ((cs.drop 1).take (Tryz.prog.cellsOf 40))=some x:=hf2 1 _ rfl;rw[c1]at h1;obtain⟨v1,r1,w1⟩:=(B1 Tryz.underlying40 (by kernel_rfl) (BH Tryz.underlying3)) enc w sp held fuel _ _ h1;have hh:=AV (o:=0) (k:=1) r0 (AV (o:=1) (k:=1) r1 (show RDs (hOf w) w [] (cs.drop 2)from by rw[List.drop_eq_nil_of_le (by omega)];simp[RDs]));refine⟨⟨v0,v1⟩,?_,w0,w1⟩;simpa only[List.drop_zero,List.append_nil,List.append_assoc,List.cons_append,List.nil_append,Xe.D,D7,D6,D9,EA,D8,Cg]using hh
theorem J7:CS Tryz.prog 66 Ye.D Ye.Wf:=by
 refine BU (n:=3) Tryz.underlying66 (by kernel_rfl) ?_;intro H enc w sp held fuel cs hlen hf;have hf2:=fun(i:Nat) (g:Field) h=>hf g (List.mem_of_getElem? (i:=i) h);have c0:Tryz.prog.cellsOf 4=1:=by kernel_rfl
 obtain⟨x0,h0⟩:∃x,DataW.trod enc Tryz.prog w 0 sp held fuel 4 ((cs.drop 0).take (Tryz.prog.cellsOf 4))=some x:=hf2 0 _ rfl;rw[c0]at h0;obtain⟨v0,r0,w0⟩:=(FX Tryz.underlying4) enc w sp held fuel _ _ h0;have c1:Tryz.prog.cellsOf 9=1:=by kernel_rfl
 obtain⟨x1,h1⟩:∃x,DataW.trod enc Tryz.prog w 0 sp held fuel 9 ((cs.drop 1).take (Tryz.prog.cellsOf 9))=some x:=hf2 1 _ rfl;rw[c1]at h1;obtain⟨v1,r1,w1⟩:=(DT Tryz.underlying9) enc w sp held fuel _ _ h1;have c2:Tryz.prog.cellsOf 3=1:=by kernel_rfl
 obtain⟨x2,h2⟩:∃x,DataW.trod enc Tryz.prog w 0 sp held fuel 3 ((cs.drop 2).take (Tryz.prog.cellsOf 3))=some x:=hf2 2 _ rfl;rw[c2]at h2;obtain⟨v2,r2,w2⟩:=(BH Tryz.underlying3) enc w sp held fuel _ _ h2;have hh:=AV (o:=0) (k:=1) r0 (AV (o:=1) (k:=1) r1 (AV (o:=2) (k:=1) r2 (show RDs (hOf w) w [] (cs.drop 3)from by rw[List.drop_eq_nil_of_le (by omega)];simp[RDs])));refine⟨⟨v0,v1,v2⟩,?_,w0,w1,w2⟩;simpa only[List.drop_zero,List.append_nil,List.append_assoc,List.cons_append,List.nil_append,Ye.D,D7,D6,D9,EA,D8,Cg]using hh
theorem Dz:CS Tryz.prog 62 X0.D X0.Wf:=by
 refine BU (n:=4) Tryz.underlying62 (by kernel_rfl) ?_;intro H enc w sp held fuel cs hlen hf;have hf2:=fun(i:Nat) (g:Field) h=>hf g (List.mem_of_getElem? (i:=i) h);have c0:Tryz.prog.cellsOf 3=1:=by kernel_rfl
 obtain⟨x0,h0⟩:∃x,DataW.trod enc Tryz.prog w 0 sp held fuel 3 ((cs.drop 0).take (Tryz.prog.cellsOf 3))=some x:=hf2 0 _ rfl;rw[c0]at h0;obtain⟨v0,r0,w0⟩:=(BH Tryz.underlying3) enc w sp held fuel _ _ h0;have c1:Tryz.prog.cellsOf 2=1:=by kernel_rfl
 obtain⟨x1,h1⟩:∃x,DataW.trod enc Tryz.prog w 0 sp held fuel 2 ((cs.drop 1).take (Tryz.prog.cellsOf 2))=some x:=hf2 1 _ rfl;rw[c1]at h1;obtain⟨v1,r1,w1⟩:=(BH Tryz.underlying2) enc w sp held fuel _ _ h1;have c2:Tryz.prog.cellsOf 9=1:=by kernel_rfl
 obtain⟨x2,h2⟩:∃x,DataW.trod enc Tryz.prog w 0 sp held fuel 9 ((cs.drop 2).take (Tryz.prog.cellsOf 9))=some x:=hf2 2 _ rfl;rw[c2]at h2;obtain⟨v2,r2,w2⟩:=(DT Tryz.underlying9) enc w sp held fuel _ _ h2;have c3:Tryz.prog.cellsOf 4=1:=by kernel_rfl
 obtain⟨x3,h3⟩:∃x,DataW.trod enc Tryz.prog w 0 sp held fuel 4 ((cs.drop 3).take (Tryz.prog.cellsOf 4))=some x:=hf2 3 _ rfl;rw[c3]at h3;obtain⟨v3,r3,w3⟩:=(FX Tryz.underlying4) enc w sp held fuel _ _ h3;have hh:=AV (o:=0) (k:=1) r0 (AV (o:=1) (k:=1) r1 (AV (o:=2) (k:=1) r2 (AV (o:=3) (k:=1) r3 (show RDs (hOf w) w [] (cs.drop 4)from by rw[List.drop_eq_nil_of_le (by omega)];simp[RDs]))));refine⟨⟨v0,v1,v2,v3⟩,?_,w0,w1,w2,w3⟩;simpa only[List.drop_zero,List.append_nil,List.append_assoc,List.cons_append,List.nil_append,X0.D,D7,D6,D9,EA,D8,Cg]using hh
theorem Lb:CS Tryz.prog 93 Yg.D Yg.Wf:=by
 refine BU (n:=5) Tryz.underlying93 (by kernel_rfl) ?_;intro H enc w sp held fuel cs hlen hf;have hf2:=fun(i:Nat) (g:Field) h=>hf g (List.mem_of_getElem? (i:=i) h);have c0:Tryz.prog.cellsOf 9=1:=by kernel_rfl
 obtain⟨x0,h0⟩:∃x,DataW.trod enc Tryz.prog w 0 sp held fuel 9 ((cs.drop 0).take (Tryz.prog.cellsOf 9))=some x:=hf2 0 _ rfl;rw[c0]at h0;obtain⟨v0,r0,w0⟩:=(DT Tryz.underlying9) enc w sp held fuel _ _ h0;have c1:Tryz.prog.cellsOf 62=4:=by kernel_rfl
 obtain⟨x1,h1⟩:∃x,DataW.trod enc Tryz.prog w 0 sp held fuel 62 ((cs.drop 1).take (Tryz.prog.cellsOf 62))=some x:=hf2 1 _ rfl;rw[c1]at h1;obtain⟨v1,r1,w1⟩:=Dz enc w sp held fuel _ _ h1;have hh:=AV (o:=0) (k:=1) r0 (AV (o:=1) (k:=4) r1 (show RDs (hOf w) w [] (cs.drop 5)from by rw[List.drop_eq_nil_of_le (by omega)];simp[RDs]));refine⟨⟨v0,v1⟩,?_,w0,w1⟩;simpa only[List.drop_zero,List.append_nil,List.append_assoc,List.cons_append,List.nil_append,Yg.D,D7,D6,D9,EA,D8,Cg]using hh
theorem J8:CS Tryz.prog 78 Xc.D Xc.Wf:=by
 refine BU (n:=3) Tryz.underlying78 (by kernel_rfl) ?_;intro H enc w sp held fuel cs hlen hf;have hf2:=fun(i:Nat) (g:Field) h=>hf g (List.mem_of_getElem? (i:=i) h);have c0:Tryz.prog.cellsOf 9=1:=by kernel_rfl
 obtain⟨x0,h0⟩:∃x,DataW.trod enc Tryz.prog w 0 sp held fuel 9 ((cs.drop 0).take (Tryz.prog.cellsOf 9))=some x:=hf2 0 _ rfl;rw[c0]at h0;obtain⟨v0,r0,w0⟩:=(DT Tryz.underlying9) enc w sp held fuel _ _ h0;have c1:Tryz.prog.cellsOf 4=1:=by kernel_rfl
 obtain⟨x1,h1⟩:∃x,DataW.trod enc Tryz.prog w 0 sp held fuel 4 ((cs.drop 1).take (Tryz.prog.cellsOf 4))=some x:=hf2 1 _ rfl;rw[c1]at h1;obtain⟨v1,r1,w1⟩:=(FX Tryz.underlying4) enc w sp held fuel _ _ h1;have c2:Tryz.prog.cellsOf 4=1:=by kernel_rfl
 obtain⟨x2,h2⟩:∃x,DataW.trod enc Tryz.prog w 0 sp held fuel 4 ((cs.drop 2).take (Tryz.prog.cellsOf 4))=some x:=hf2 2 _ rfl;rw[c2]at h2;obtain⟨v2,r2,w2⟩:=(FX Tryz.underlying4) enc w sp held fuel _ _ h2;have hh:=AV (o:=0) (k:=1) r0 (AV (o:=1) (k:=1) r1 (AV (o:=2) (k:=1) r2 (show RDs (hOf w) w [] (cs.drop 3)from by rw[List.drop_eq_nil_of_le (by omega)];simp[RDs])));refine⟨⟨v0,v1,v2⟩,?_,w0,w1,w2⟩;simpa only[List.drop_zero,List.append_nil,List.append_assoc,List.cons_append,List.nil_append,Xc.D,D7,D6,D9,EA,D8,Cg]using hh
theorem LZ:CS Tryz.prog 123 BW.D BW.Wf:=by
 refine BU (n:=6) Tryz.underlying123 (by kernel_rfl) ?_;intro H enc w sp held fuel cs hlen hf;have hf2:=fun(i:Nat) (g:Field) h=>hf g (List.mem_of_getElem? (i:=i) h);have c0:Tryz.prog.cellsOf 3=1:=by kernel_rfl
 obtain⟨x0,h0⟩:∃x,DataW.trod enc Tryz.prog w 0 sp held fuel 3 ((cs.drop 0).take (Tryz.prog.cellsOf 3))=some x:=hf2 0 _ rfl;rw[c0]at h0;obtain⟨v0,r0,w0⟩:=(BH Tryz.underlying3) enc w sp held fuel _ _ h0;have c1:Tryz.prog.cellsOf 3=1:=by kernel_rfl
 obtain⟨x1,h1⟩:∃x,DataW.trod enc Tryz.prog w 0 sp held fuel 3 ((cs.drop 1).take (Tryz.prog.cellsOf 3))=some x:=hf2 1 _ rfl;rw[c1]at h1;obtain⟨v1,r1,w1⟩:=(BH Tryz.underlying3) enc w sp held fuel _ _ h1;have c2:Tryz.prog.cellsOf 62=4:=by kernel_rfl
 obtain⟨x2,h2⟩:∃x,DataW.trod enc Tryz.prog w 0 sp held fuel 62 ((cs.drop 2).take (Tryz.prog.cellsOf 62))=some x:=hf2 2 _ rfl;rw[c2]at h2;obtain⟨v2,r2,w2⟩:=Dz enc w sp held fuel _ _ h2;have hh:=AV (o:=0) (k:=1) r0 (AV (o:=1) (k:=1) r1 (AV (o:=2) (k:=4) r2 (show RDs (hOf w) w [] (cs.drop 6)from by rw[List.drop_eq_nil_of_le (by omega)];simp[RDs])));refine⟨⟨v0,v1,v2⟩,?_,w0,w1,w2⟩;simpa only[List.drop_zero,List.append_nil,List.append_assoc,List.cons_append,List.nil_append,BW.D,D7,D6,D9,EA,D8,Cg]using hh
theorem HT:CS Tryz.prog 121 X3.D X3.Wf:=by
 refine BU (n:=2) Tryz.underlying121 (by kernel_rfl) ?_;intro H enc w sp held fuel cs hlen hf;have hf2:=fun(i:Nat) (g:Field) h=>hf g (List.mem_of_getElem? (i:=i) h);have c0:Tryz.prog.cellsOf 3=1:=by kernel_rfl
 obtain⟨x0,h0⟩:∃x,DataW.trod enc Tryz.prog w 0 sp held fuel 3 ((cs.drop 0).take (Tryz.prog.cellsOf 3))=some x:=hf2 0 _ rfl;rw[c0]at h0;obtain⟨v0,r0,w0⟩:=(BH Tryz.underlying3) enc w sp held fuel _ _ h0;have c1:Tryz.prog.cellsOf 119=1:=by kernel_rfl
 obtain⟨x1,h1⟩:∃x,DataW.trod enc Tryz.prog w 0 sp held fuel 119 ((cs.drop 1).take (Tryz.prog.cellsOf 119))=some x:=hf2 1 _ rfl;rw[c1]at h1;obtain⟨v1,r1,w1⟩:=(B1 Tryz.underlying119 (by kernel_rfl) LZ) enc w sp held fuel _ _ h1;have hh:=AV (o:=0) (k:=1) r0 (AV (o:=1) (k:=1) r1 (show RDs (hOf w) w [] (cs.drop 2)from by rw[List.drop_eq_nil_of_le (by omega)];simp[RDs]));refine⟨⟨v0,v1⟩,?_,w0,w1⟩;simpa only[List.drop_zero,List.append_nil,List.append_assoc,List.cons_append,List.nil_append,X3.D,D7,D6,D9,EA,D8,Cg]using hh
theorem J6:CS Tryz.prog 125 Ym.D Ym.Wf:=by
 refine BU (n:=7) Tryz.underlying125 (by kernel_rfl) ?_;intro H enc w sp held fuel cs hlen hf;have hf2:=fun(i:Nat) (g:Field) h=>hf g (List.mem_of_getElem? (i:=i) h);have c0:Tryz.prog.cellsOf 3=1:=by kernel_rfl
 obtain⟨x0,h0⟩:∃x,DataW.trod enc Tryz.prog w 0 sp held fuel 3 ((cs.drop 0).take (Tryz.prog.cellsOf 3))=some x:=hf2 0 _ rfl;rw[c0]at h0;obtain⟨v0,r0,w0⟩:=(BH Tryz.underlying3) enc w sp held fuel _ _ h0;have c1:Tryz.prog.cellsOf 3=1:=by kernel_rfl
 obtain⟨x1,h1⟩:∃x,DataW.trod enc Tryz.prog w 0 sp held fuel 3 ((cs.drop 1).take (Tryz.prog.cellsOf 3))=some x:=hf2 1 _ rfl;rw[c1]at h1;obtain⟨v1,r1,w1⟩:=(BH Tryz.underlying3) enc w sp held fuel _ _ h1;have c2:Tryz.prog.cellsOf 3=1:=by kernel_rfl
 obtain⟨x2,h2⟩:∃x,DataW.trod enc Tryz.prog w 0 sp held fuel 3 ((cs.drop 2).take (Tryz.prog.cellsOf 3))=some x:=hf2 2 _ rfl;rw[c2]at h2;obtain⟨v2,r2,w2⟩:=(BH Tryz.underlying3) enc w sp held fuel _ _ h2;have c3:Tryz.prog.cellsOf 62=4:=by kernel_rfl
 obtain⟨x3,h3⟩:∃x,DataW.trod enc Tryz.prog w 0 sp held fuel 62 ((cs.drop 3).take (Tryz.prog.cellsOf 62))=some x:=hf2 3 _ rfl;rw[c3]at h3;obtain⟨v3,r3,w3⟩:=Dz enc w sp held fuel _ _ h3;have hh:=AV (o:=0) (k:=1) r0 (AV (o:=1) (k:=1) r1 (AV (o:=2) (k:=1) r2 (AV (o:=3) (k:=4) r3 (show RDs (hOf w) w [] (cs.drop 7)from by rw[List.drop_eq_nil_of_le (by omega)];simp[RDs]))));refine⟨⟨v0,v1,v2,v3⟩,?_,w0,w1,w2,w3⟩;simpa only[List.drop_zero,List.append_nil,List.append_assoc,List.cons_append,List.nil_append,Ym.D,D7,D6,D9,EA,D8,Cg]using hh
theorem Lc:CS Tryz.prog 165 Fi.D Fi.Wf:=by
 refine BU (n:=2) Tryz.underlying165 (by kernel_rfl) ?_;intro H enc w sp held fuel cs hlen hf;have hf2:=fun(i:Nat) (g:Field) h=>hf g (List.mem_of_getElem? (i:=i) h);have c0:Tryz.prog.cellsOf 3=1:=by kernel_rfl
 obtain⟨x0,h0⟩:∃x,DataW.trod enc Tryz.prog w 0 sp held fuel 3 ((cs.drop 0).take (Tryz.prog.cellsOf 3))=some x:=hf2 0 _ rfl;rw[c0]at h0;obtain⟨v0,r0,w0⟩:=(BH Tryz.underlying3) enc w sp held fuel _ _ h0;have c1:Tryz.prog.cellsOf 3=1:=by kernel_rfl
 obtain⟨x1,h1⟩:∃x,DataW.trod enc Tryz.prog w 0 sp held fuel 3 ((cs.drop 1).take (Tryz.prog.cellsOf 3))=some x:=hf2 1 _ rfl;rw[c1]at h1;obtain⟨v1,r1,w1⟩:=(BH Tryz.underlying3) enc w sp held fuel _ _ h1;have hh:=AV (o:=0) (k:=1) r0 (AV (o:=1) (k:=1) r1 (show RDs (hOf w) w [] (cs.drop 2)from by rw[List.drop_eq_nil_of_le (by omega)];simp[RDs]));refine⟨⟨v0,v1⟩,?_,w0,w1⟩;simpa only[List.drop_zero,List.append_nil,List.append_assoc,List.cons_append,List.nil_append,Fi.D,D7,D6,D9,EA,D8,Cg]using hh
theorem Jk:CS Tryz.prog 107 Xd.D Xd.Wf:=by
 refine BU (n:=5) Tryz.underlying107 (by kernel_rfl) ?_;intro H enc w sp held fuel cs hlen hf;have hf2:=fun(i:Nat) (g:Field) h=>hf g (List.mem_of_getElem? (i:=i) h);have c0:Tryz.prog.cellsOf 3=1:=by kernel_rfl
 obtain⟨x0,h0⟩:∃x,DataW.trod enc Tryz.prog w 0 sp held fuel 3 ((cs.drop 0).take (Tryz.prog.cellsOf 3))=some x:=hf2 0 _ rfl;rw[c0]at h0;obtain⟨v0,r0,w0⟩:=(BH Tryz.underlying3) enc w sp held fuel _ _ h0;have c1:Tryz.prog.cellsOf 3=1:=by kernel_rfl
 obtain⟨x1,h1⟩:∃x,DataW.trod enc Tryz.prog w 0 sp held fuel 3 ((cs.drop 1).take (Tryz.prog.cellsOf 3))=some x:=hf2 1 _ rfl;rw[c1]at h1;obtain⟨v1,r1,w1⟩:=(BH Tryz.underlying3) enc w sp held fuel _ _ h1;have c2:Tryz.prog.cellsOf 3=1:=by kernel_rfl
 obtain⟨x2,h2⟩:∃x,DataW.trod enc Tryz.prog w 0 sp held fuel 3 ((cs.drop 2).take (Tryz.prog.cellsOf 3))=some x:=hf2 2 _ rfl;rw[c2]at h2;obtain⟨v2,r2,w2⟩:=(BH Tryz.underlying3) enc w sp held fuel _ _ h2;have c3:Tryz.prog.cellsOf 3=1:=by kernel_rfl
 obtain⟨x3,h3⟩:∃x,DataW.trod enc Tryz.prog w 0 sp held fuel 3 ((cs.drop 3).take (Tryz.prog.cellsOf 3))=some x:=hf2 3 _ rfl;rw[c3]at h3;obtain⟨v3,r3,w3⟩:=(BH Tryz.underlying3) enc w sp held fuel _ _ h3;have c4:Tryz.prog.cellsOf 105=1:=by kernel_rfl
 obtain⟨x4,h4⟩:∃x,DataW.trod enc Tryz.prog w 0 sp held fuel 105 ((cs.drop 4).take (Tryz.prog.cellsOf 105))=some x:=hf2 4 _ rfl;rw[c4]at h4;obtain⟨v4,r4,w4⟩:=(B1 Tryz.underlying105 (by kernel_rfl) Lc) enc w sp held fuel _ _ h4;have hh:=AV (o:=0) (k:=1) r0 (AV (o:=1) (k:=1) r1 (AV (o:=2) (k:=1) r2 (AV (o:=3) (k:=1) r3 (AV (o:=4) (k:=1) r4 (show RDs (hOf w) w [] (cs.drop 5)from by rw[List.drop_eq_nil_of_le (by omega)];simp[RDs])))));refine⟨⟨v0,v1,v2,v3,v4⟩,?_,w0,w1,w2,w3,w4⟩;simpa only[List.drop_zero,List.append_nil,List.append_assoc,List.cons_append,List.nil_append,Xd.D,D7,D6,D9,EA,D8,Cg]using hh
theorem Mw:CS Tryz.prog 30 AD.D AD.Wf:=by
 refine BU (n:=9) Tryz.underlying30 (by kernel_rfl) ?_;intro H enc w sp held fuel cs hlen hf;have hf2:=fun(i:Nat) (g:Field) h=>hf g (List.mem_of_getElem? (i:=i) h);have c0:Tryz.prog.cellsOf 9=1:=by kernel_rfl
 obtain⟨x0,h0⟩:∃x,DataW.trod enc Tryz.prog w 0 sp held fuel 9 ((cs.drop 0).take (Tryz.prog.cellsOf 9))=some x:=hf2 0 _ rfl;rw[c0]at h0;obtain⟨v0,r0,w0⟩:=(DT Tryz.underlying9) enc w sp held fuel _ _ h0;have c1:Tryz.prog.cellsOf 22=1:=by kernel_rfl
 obtain⟨x1,h1⟩:∃x,DataW.trod enc Tryz.prog w 0 sp held fuel 22 ((cs.drop 1).take (Tryz.prog.cellsOf 22))=some x:=hf2 1 _ rfl;rw[c1]at h1;obtain⟨v1,r1,w1⟩:=(B1 Tryz.underlying22 (by kernel_rfl) La) enc w sp held fuel _ _ h1;have c2:Tryz.prog.cellsOf 23=1:=by kernel_rfl
 obtain⟨x2,h2⟩:∃x,DataW.trod enc Tryz.prog w 0 sp held fuel 23 ((cs.drop 2).take (Tryz.prog.cellsOf 23))=some x:=hf2 2 _ rfl;rw[c2]at h2;obtain⟨v2,r2,w2⟩:=(B1 Tryz.underlying23 (by kernel_rfl) J7) enc w sp held fuel _ _ h2;have c3:Tryz.prog.cellsOf 24=1:=by kernel_rfl
 obtain⟨x3,h3⟩:∃x,DataW.trod enc Tryz.prog w 0 sp held fuel 24 ((cs.drop 3).take (Tryz.prog.cellsOf 24))=some x:=hf2 3 _ rfl;rw[c3]at h3;obtain⟨v3,r3,w3⟩:=(B1 Tryz.underlying24 (by kernel_rfl) Lb) enc w sp held fuel _ _ h3;have c4:Tryz.prog.cellsOf 25=1:=by kernel_rfl
 obtain⟨x4,h4⟩:∃x,DataW.trod enc Tryz.prog w 0 sp held fuel 25 ((cs.drop 4).take (Tryz.prog.cellsOf 25))=some x:=hf2 4 _ rfl;rw[c4]at h4;obtain⟨v4,r4,w4⟩:=(B1 Tryz.underlying25 (by kernel_rfl) J8) enc w sp held fuel _ _ h4;have c5:Tryz.prog.cellsOf 3=1:=by kernel_rfl
 obtain⟨x5,h5⟩:∃x,DataW.trod enc Tryz.prog w 0 sp held fuel 3 ((cs.drop 5).take (Tryz.prog.cellsOf 3))=some x:=hf2 5 _ rfl;rw[c5]at h5;obtain⟨v5,r5,w5⟩:=(BH Tryz.underlying3) enc w sp held fuel _ _ h5;have c6:Tryz.prog.cellsOf 26=1:=by kernel_rfl
 obtain⟨x6,h6⟩:∃x,DataW.trod enc Tryz.prog w 0 sp held fuel 26 ((cs.drop 6).take (Tryz.prog.cellsOf 26))=some x:=hf2 6 _ rfl;rw[c6]at h6;obtain⟨v6,r6,w6⟩:=(B1 Tryz.underlying26 (by kernel_rfl) HT) enc w sp held fuel _ _ h6;have c7:Tryz.prog.cellsOf 27=1:=by kernel_rfl
 obtain⟨x7,h7⟩:∃x,DataW.trod enc Tryz.prog w 0 sp held fuel 27 ((cs.drop 7).take (Tryz.prog.cellsOf 27))=some x:=hf2 7 _ rfl;rw[c7]at h7;obtain⟨v7,r7,w7⟩:=(B1 Tryz.underlying27 (by kernel_rfl) J6) enc w sp held fuel _ _ h7;have c8:Tryz.prog.cellsOf 28=1:=by kernel_rfl
 obtain⟨x8,h8⟩:∃x,DataW.trod enc Tryz.prog w 0 sp held fuel 28 ((cs.drop 8).take (Tryz.prog.cellsOf 28))=some x:=hf2 8 _ rfl;rw[c8]at h8;obtain⟨v8,r8,w8⟩:=(B1 Tryz.underlying28 (by kernel_rfl) Jk) enc w sp held fuel _ _ h8;have hh:=AV (o:=0) (k:=1) r0 (AV (o:=1) (k:=1) r1 (AV (o:=2) (k:=1) r2 (AV (o:=3) (k:=1) r3 (AV (o:=4) (k:=1) r4 (AV (o:=5) (k:=1) r5 (AV (o:=6) (k:=1) r6 (AV (o:=7) (k:=1) r7 (AV (o:=8) (k:=1) r8 (show RDs (hOf w) w [] (cs.drop 9)from by rw[List.drop_eq_nil_of_le (by omega)];simp[RDs])))))))));refine⟨⟨v0,v1,v2,v3,v4,v5,v6,v7,v8⟩,?_,w0,w1,w2,w3,w4,w5,w6,w7,w8⟩;simpa only[List.drop_zero,List.append_nil,List.append_assoc,List.cons_append,List.nil_append,AD.D,D7,D6,D9,EA,D8,Cg]using hh
theorem Ld:CS Tryz.prog 64 X2.D X2.Wf:=by
 refine BU (n:=5) Tryz.underlying64 (by kernel_rfl) ?_;intro H enc w sp held fuel cs hlen hf;have hf2:=fun(i:Nat) (g:Field) h=>hf g (List.mem_of_getElem? (i:=i) h);have c0:Tryz.prog.cellsOf 3=1:=by kernel_rfl
 obtain⟨x0,h0⟩:∃x,DataW.trod enc Tryz.prog w 0 sp held fuel 3 ((cs.drop 0).take (Tryz.prog.cellsOf 3))=some x:=hf2 0 _ rfl;rw[c0]at h0;obtain⟨v0,r0,w0⟩:=(BH Tryz.underlying3) enc w sp held fuel _ _ h0;have c1:Tryz.prog.cellsOf 62=4:=by kernel_rfl
 obtain⟨x1,h1⟩:∃x,DataW.trod enc Tryz.prog w 0 sp held fuel 62 ((cs.drop 1).take (Tryz.prog.cellsOf 62))=some x:=hf2 1 _ rfl;rw[c1]at h1;obtain⟨v1,r1,w1⟩:=Dz enc w sp held fuel _ _ h1;have hh:=AV (o:=0) (k:=1) r0 (AV (o:=1) (k:=4) r1 (show RDs (hOf w) w [] (cs.drop 5)from by rw[List.drop_eq_nil_of_le (by omega)];simp[RDs]));refine⟨⟨v0,v1⟩,?_,w0,w1⟩;simpa only[List.drop_zero,List.append_nil,List.append_assoc,List.cons_append,List.nil_append,X2.D,D7,D6,D9,EA,D8,Cg]using hh
theorem aA7{q:AD}(h:AD.Wf q):∀t∈q.trans,KC t:=fun t ht=>
 have w:Xd.Wf t:=h.2.2.2.2.2.2.2.2.2 t ht
 ⟨aLr w.2.2.2.1,fun s hs=>aLr (w.2.2.2.2.2 s hs).2⟩
theorem aTl{n:Int}(h:(Lit.int .u32 n).wf=true):0<=n:=by
 have:0<=n/\n<=4294967295:=by simpa[Lit.wf,IntKind.min,IntKind.max,IntKind.signed,IntKind.bits]using h
 exact this.1
theorem aFz{a0:AD}{a1:List X2}{a2:Int}(h0:AD.Wf a0)(h1:a1.length<=9223372036854775807/\∀x∈a1,X2.Wf x)(h2:(Lit.int .u32 a2).wf=true):Y1 a0 a1 a2=some true:=aV2 a0 a1 a2 (aA7 h0) h1.1 (aTl h2)
open Go.ChangeShapes Go.WideShapes Go.ChangeAt Go.RowKit
theorem aR2:ownKnob Tryz.prog.godebug=none:=by kernel_rfl
set_option maxRecDepth 100000 in
theorem Nd{H:Type}{enc:TypeId×Value->H}(W:World)(base:Nat)(args:Array Value)(ds gs:List (DataW H))(before:List MemPlace)
 (hval:∀(j:Nat) t v,Tryz.f7.params[j]? =some t->args[j]? =some v->Value.okWide Tryz.prog W .any base t v)
 (hW:DataW.Whole enc Tryz.prog Tryz.f7.params.toList Go.Proofs.YtgcfokfcilgnlaaGreat.Rows.reachMetSpec.vars false W args.toList ds gs before):
 Calls Tryz.prog 7 args W fun e W'=>∃v,e=.returned v/\Go.Proofs.YtgcfokfcilgnlaaGreat.Rows.reachMetSpec.post enc Tryz.prog Tryz.f7 false true false false W args v W':=by
 refine Mf (tb:=4) (by kernel_rfl) (by kernel_rfl) (by kernel_rfl) Tryz.underlying4 (by rfl) ?_ hW ?_
 intro ds hd
 rw[Tryz.params7]at hd
 match ds,hd with
 |[d0,d1,d2],_=>rfl
 obtain⟨p,q,hA,_,_,_,_⟩:=hW
 rw[Tryz.params7]at hA hval
 have hA2:DataW.TrodAll enc Tryz.prog W 0 (fun _=>true) true [30,31,32] args.toList ds p:=hA
 obtain⟨v0,vs0,d0,ds0,p0,q0,hargs0,rfl,rfl,h0,r0⟩:=trodAll_cons hA2
 obtain⟨v1,vs1,d1,ds1,p1,q1,hargs1,rfl,rfl,h1,r1⟩:=trodAll_cons r0
 obtain⟨v2,vs2,d2,ds2,p2,q2,hargs2,rfl,rfl,h2,r2⟩:=trodAll_cons r1
 obtain⟨rfl,rfl,rfl⟩:=trodAll_nil r2
 subst hargs2
 subst hargs1
 obtain rfl:args= #[v0,v1,v2]:=by cases args;simp_all
 obtain⟨a0,ra0,wa0⟩:=RN Mw h0 (fun a=>⟨_,rfl⟩) (hval 0 30 v0 rfl rfl) Tryz.underlying30
 obtain⟨a1,ra1,wa1⟩:=MC (B1 Tryz.underlying31 (by kernel_rfl) Ld) h1 (fun a c=>by intro h;cases h) (hval 1 31 v1 rfl rfl) (by kernel_rfl)
 obtain⟨a2,ra2,wa2⟩:=MC (BH Tryz.underlying32) h2 (fun a c=>by intro h;cases h) (hval 2 32 v2 rfl rfl) (by kernel_rfl)
 refine⟨[.d (AD.D a0),.d ((D.l X2.D) a1),.d ((D.i .u32) a2)],?_,aV3 (aFz wa0 wa1 wa2)⟩
 simp only[RAs,RA]
 exact⟨v0,_,rfl,ra0,⟨v1,_,rfl,ra1,⟨v2,_,rfl,ra2,rfl⟩⟩⟩
set_option maxRecDepth 100000 in
theorem VH(os:Os)(started:os.Started)(H:Type)(enc:TypeId×Value->H):
 ReturnsInHanded {} Tryz.checked os 7 .any (Go.Proofs.YtgcfokfcilgnlaaGreat.Rows.reachMetSpec.pre6 enc Tryz.prog Tryz.f7 Go.Proofs.YtgcfokfcilgnlaaGreat.Rows.reachMetRow.domain false) (Go.Proofs.YtgcfokfcilgnlaaGreat.Rows.reachMetSpec.post enc Tryz.prog Tryz.f7 false true false false):=by
 refine returnsInHanded_of_change (C:=Tryz.checked) aR2 started (by kernel_rfl) Tryz.func7
  (ChangeSpec.witness6 (enc:=enc) (C:=Tryz.checked) false ⟨#[],#[.agg #[.string ⟨#[]⟩,.slice none 0 0,.slice none 0 0,.slice none 0 0,.slice none 0 0,.int .i64 0,.slice none 0 0,.slice none 0 0,.slice none 0 0],.slice none 0 0,.int .u32 0],[]⟩ 8 (by kernel_rfl) (by kernel_rfl) (by kernel_rfl) (by kernel_rfl)) ?_
 intro W base args ds gs before hval hW _ _
 exact Nd W base args ds gs before hval hW
end Go.Ac
namespace Go.Proofs.YtgcfokfcilgnlaaGreat
open Go.Ac
theorem ReachMetSaid_holds:Rows.ReachMetSaid:=
 OpenClaim.holds_of_wide 7 Tryz.f7 rfl rfl rfl rfl rfl rfl rfl ⟨rfl,rfl,rfl,rfl,rfl⟩ rfl rfl rfl rfl rfl (by kernel_rfl) Tryz.func7 (by kernel_rfl)
  (of_decide_eq_true (by kernel_rfl)) (by unfold Func.isWrapper;first|(rw[if_pos (by decide+kernel)];kernel_rfl)|(rw[if_neg (by decide+kernel)];exact⟨rfl,rfl⟩))
  (fun os started H enc _=>VH os started H enc)
end Go.Proofs.YtgcfokfcilgnlaaGreat
