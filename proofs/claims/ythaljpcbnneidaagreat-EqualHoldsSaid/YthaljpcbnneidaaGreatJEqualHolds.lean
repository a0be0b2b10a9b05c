/- Own work: the statement, joined of its parts; it holds for every input. -/
import Derived.Test.YthaljpcbnneidaaGreatWa37hx2
import Derived.Test.YthaljpcbnneidaaGreatP37hy
import Derived.Test.YthaljpcbnneidaaGreatAcC
import Derived.Test.YthaljpcbnneidaaGreatRows
set_option linter.unusedVariables false
set_option linter.unusedSimpArgs false
namespace Go.Ac
open Go.Proofs
theorem aD0{n:Int}(h:(Lit.int .i64 n).wf=true): -9223372036854775808<=n/\n<=9223372036854775807:=by simpa[Lit.wf,IntKind.min,IntKind.max,IntKind.signed,IntKind.bits]using h
def X7.Wf(v:X7):Prop:=(fun l=>l.length<=9223372036854775807) v.name/\(fun l=>l.length<=9223372036854775807/\∀x∈l,(fun n=>(Lit.int .i64 n).wf=true) x) v.types
def Xq.Wf(v:Xq):Prop:=True/\(fun l=>l.length<=9223372036854775807) v.name/\(fun n=>(Lit.int .i64 n).wf=true) v.type
def X0.Wf(v:X0):Prop:=(fun n=>(Lit.int .i64 n).wf=true) v.kind/\(fun n=>(Lit.int .i64 n).wf=true) v.int/\(fun l=>l.length<=9223372036854775807) v.str/\True
def Xt.Wf(v:Xt):Prop:=(fun l=>l.length<=9223372036854775807) v.name/\X0.Wf v.init_
def Xd.Wf(v:Xd):Prop:=(fun l=>l.length<=9223372036854775807) v.name/\True/\True
def BQ.Wf(v:BQ):Prop:=(fun n=>(Lit.int .i64 n).wf=true) v.kind/\(fun n=>(Lit.int .i64 n).wf=true) v.n/\X0.Wf v.value
def X8.Wf(v:X8):Prop:=(fun n=>(Lit.int .i64 n).wf=true) v.event/\(fun l=>l.length<=9223372036854775807/\∀x∈l,BQ.Wf x) v.args
def Y7.Wf(v:Y7):Prop:=(fun n=>(Lit.int .i64 n).wf=true) v.op/\(fun n=>(Lit.int .i64 n).wf=true) v.a/\(fun n=>(Lit.int .i64 n).wf=true) v.b/\X0.Wf v.value
def DN.Wf(v:DN):Prop:=(fun n=>(Lit.int .i64 n).wf=true) v.free/\(fun n=>(Lit.int .i64 n).wf=true) v.expr
def Xe.Wf(v:Xe):Prop:=(fun n=>(Lit.int .i64 n).wf=true) v.from_/\(fun n=>(Lit.int .i64 n).wf=true) v.symbol/\(fun n=>(Lit.int .i64 n).wf=true) v.to/\(fun n=>(Lit.int .i64 n).wf=true) v.guard/\(fun l=>l.length<=9223372036854775807/\∀x∈l,DN.Wf x) v.sets
def AA.Wf(v:AA):Prop:=(fun l=>l.length<=9223372036854775807) v.name/\(fun l=>l.length<=9223372036854775807/\∀x∈l,X7.Wf x) v.decls/\(fun l=>l.length<=9223372036854775807/\∀x∈l,Xq.Wf x) v.quants/\(fun l=>l.length<=9223372036854775807/\∀x∈l,Xt.Wf x) v.frees/\(fun l=>l.length<=9223372036854775807/\∀x∈l,Xd.Wf x) v.states/\(fun n=>(Lit.int .i64 n).wf=true) v.start/\(fun l=>l.length<=9223372036854775807/\∀x∈l,X8.Wf x) v.symbols/\(fun l=>l.length<=9223372036854775807/\∀x∈l,Y7.Wf x) v.nodes/\(fun l=>l.length<=9223372036854775807/\∀x∈l,Xe.Wf x) v.trans
def X3.Wf(v:X3):Prop:=(fun l=>l.length<=9223372036854775807) v.name/\(fun l=>l.length<=9223372036854775807/\∀x∈l,X0.Wf x) v.args
theorem Jr:BK Tryz.prog 50 X7.D X7.Wf:=by
 refine Aw (n:=2) Tryz.underlying50 (by kernel_rfl) ?_;intro H enc w sp held fuel cs hlen hf;have hf2:=fun(i:Nat) (g:Field) h=>hf g (List.mem_of_getElem? (i:=i) h);have c0:Tryz.prog.cellsOf 9=1:=by kernel_rfl
 obtain⟨x0,h0⟩:∃x,DataW.trod enc Tryz.prog w 0 sp held fuel 9 ((cs.drop 0).take (Tryz.prog.cellsOf 9))=some x:=hf2 0 _ rfl;rw[c0]at h0;obtain⟨v0,r0,w0⟩:=(Bn Tryz.underlying9) enc w sp held fuel _ _ h0;have c1:Tryz.prog.cellsOf 48=1:=by kernel_rfl
 obtain⟨x1,h1⟩:∃x,DataW.trod enc Tryz.prog w 0 sp held fuel 48 ((cs.drop 1).take (Tryz.prog.cellsOf 48))=some x:=hf2 1 _ rfl;rw[c1]at h1;obtain⟨v1,r1,w1⟩:=(A9 Tryz.underlying48 (by kernel_rfl) (Az Tryz.underlying3)) enc w sp held fuel _ _ h1;have hh:=AT (o:=0) (k:=1) r0 (AT (o:=1) (k:=1) r1 (show RDs (hOf w) w [] (cs.drop 2)from by rw[List.drop_eq_nil_of_le (by omega)];simp[RDs]));refine⟨⟨v0,v1⟩,?_,w0,w1⟩;simpa only[List.drop_zero,List.append_nil,List.append_assoc,List.cons_append,List.nil_append,X7.D,CR,CQ,CT,CU,CS,Ba]using hh
theorem Hc:BK Tryz.prog 115 Xq.D Xq.Wf:=by
 refine Aw (n:=3) Tryz.underlying115 (by kernel_rfl) ?_;intro H enc w sp held fuel cs hlen hf;have hf2:=fun(i:Nat) (g:Field) h=>hf g (List.mem_of_getElem? (i:=i) h);have c0:Tryz.prog.cellsOf 4=1:=by kernel_rfl
 obtain⟨x0,h0⟩:∃x,DataW.trod enc Tryz.prog w 0 sp held fuel 4 ((cs.drop 0).take (Tryz.prog.cellsOf 4))=some x:=hf2 0 _ rfl;rw[c0]at h0;obtain⟨v0,r0,w0⟩:=(D8 Tryz.underlying4) enc w sp held fuel _ _ h0;have c1:Tryz.prog.cellsOf 9=1:=by kernel_rfl
 obtain⟨x1,h1⟩:∃x,DataW.trod enc Tryz.prog w 0 sp held fuel 9 ((cs.drop 1).take (Tryz.prog.cellsOf 9))=some x:=hf2 1 _ rfl;rw[c1]at h1;obtain⟨v1,r1,w1⟩:=(Bn Tryz.underlying9) enc w sp held fuel _ _ h1;have c2:Tryz.prog.cellsOf 3=1:=by kernel_rfl
 obtain⟨x2,h2⟩:∃x,DataW.trod enc Tryz.prog w 0 sp held fuel 3 ((cs.drop 2).take (Tryz.prog.cellsOf 3))=some x:=hf2 2 _ rfl;rw[c2]at h2;obtain⟨v2,r2,w2⟩:=(Az Tryz.underlying3) enc w sp held fuel _ _ h2;have hh:=AT (o:=0) (k:=1) r0 (AT (o:=1) (k:=1) r1 (AT (o:=2) (k:=1) r2 (show RDs (hOf w) w [] (cs.drop 3)from by rw[List.drop_eq_nil_of_le (by omega)];simp[RDs])));refine⟨⟨v0,v1,v2⟩,?_,w0,w1,w2⟩;simpa only[List.drop_zero,List.append_nil,List.append_assoc,List.cons_append,List.nil_append,Xq.D,CR,CQ,CT,CU,CS,Ba]using hh
theorem CJ:BK Tryz.prog 81 X0.D X0.Wf:=by
 refine Aw (n:=4) Tryz.underlying81 (by kernel_rfl) ?_;intro H enc w sp held fuel cs hlen hf;have hf2:=fun(i:Nat) (g:Field) h=>hf g (List.mem_of_getElem? (i:=i) h);have c0:Tryz.prog.cellsOf 3=1:=by kernel_rfl
 obtain⟨x0,h0⟩:∃x,DataW.trod enc Tryz.prog w 0 sp held fuel 3 ((cs.drop 0).take (Tryz.prog.cellsOf 3))=some x:=hf2 0 _ rfl;rw[c0]at h0;obtain⟨v0,r0,w0⟩:=(Az Tryz.underlying3) enc w sp held fuel _ _ h0;have c1:Tryz.prog.cellsOf 2=1:=by kernel_rfl
 obtain⟨x1,h1⟩:∃x,DataW.trod enc Tryz.prog w 0 sp held fuel 2 ((cs.drop 1).take (Tryz.prog.cellsOf 2))=some x:=hf2 1 _ rfl;rw[c1]at h1;obtain⟨v1,r1,w1⟩:=(Az Tryz.underlying2) enc w sp held fuel _ _ h1;have c2:Tryz.prog.cellsOf 9=1:=by kernel_rfl
 obtain⟨x2,h2⟩:∃x,DataW.trod enc Tryz.prog w 0 sp held fuel 9 ((cs.drop 2).take (Tryz.prog.cellsOf 9))=some x:=hf2 2 _ rfl;rw[c2]at h2;obtain⟨v2,r2,w2⟩:=(Bn Tryz.underlying9) enc w sp held fuel _ _ h2;have c3:Tryz.prog.cellsOf 4=1:=by kernel_rfl
 obtain⟨x3,h3⟩:∃x,DataW.trod enc Tryz.prog w 0 sp held fuel 4 ((cs.drop 3).take (Tryz.prog.cellsOf 4))=some x:=hf2 3 _ rfl;rw[c3]at h3;obtain⟨v3,r3,w3⟩:=(D8 Tryz.underlying4) enc w sp held fuel _ _ h3;have hh:=AT (o:=0) (k:=1) r0 (AT (o:=1) (k:=1) r1 (AT (o:=2) (k:=1) r2 (AT (o:=3) (k:=1) r3 (show RDs (hOf w) w [] (cs.drop 4)from by rw[List.drop_eq_nil_of_le (by omega)];simp[RDs]))));refine⟨⟨v0,v1,v2,v3⟩,?_,w0,w1,w2,w3⟩;simpa only[List.drop_zero,List.append_nil,List.append_assoc,List.cons_append,List.nil_append,X0.D,CR,CQ,CT,CU,CS,Ba]using hh
theorem Js:BK Tryz.prog 92 Xt.D Xt.Wf:=by
 refine Aw (n:=5) Tryz.underlying92 (by kernel_rfl) ?_;intro H enc w sp held fuel cs hlen hf;have hf2:=fun(i:Nat) (g:Field) h=>hf g (List.mem_of_getElem? (i:=i) h);have c0:Tryz.prog.cellsOf 9=1:=by kernel_rfl
 obtain⟨x0,h0⟩:∃x,DataW.trod enc Tryz.prog w 0 sp held fuel 9 ((cs.drop 0).take (Tryz.prog.cellsOf 9))=some x:=hf2 0 _ rfl;rw[c0]at h0;obtain⟨v0,r0,w0⟩:=(Bn Tryz.underlying9) enc w sp held fuel _ _ h0;have c1:Tryz.prog.cellsOf 81=4:=by kernel_rfl
 obtain⟨x1,h1⟩:∃x,DataW.trod enc Tryz.prog w 0 sp held fuel 81 ((cs.drop 1).take (Tryz.prog.cellsOf 81))=some x:=hf2 1 _ rfl;rw[c1]at h1;obtain⟨v1,r1,w1⟩:=CJ enc w sp held fuel _ _ h1;have hh:=AT (o:=0) (k:=1) r0 (AT (o:=1) (k:=4) r1 (show RDs (hOf w) w [] (cs.drop 5)from by rw[List.drop_eq_nil_of_le (by omega)];simp[RDs]));refine⟨⟨v0,v1⟩,?_,w0,w1⟩;simpa only[List.drop_zero,List.append_nil,List.append_assoc,List.cons_append,List.nil_append,Xt.D,CR,CQ,CT,CU,CS,Ba]using hh
theorem IA:BK Tryz.prog 52 Xd.D Xd.Wf:=by
 refine Aw (n:=3) Tryz.underlying52 (by kernel_rfl) ?_;intro H enc w sp held fuel cs hlen hf;have hf2:=fun(i:Nat) (g:Field) h=>hf g (List.mem_of_getElem? (i:=i) h);have c0:Tryz.prog.cellsOf 9=1:=by kernel_rfl
 obtain⟨x0,h0⟩:∃x,DataW.trod enc Tryz.prog w 0 sp held fuel 9 ((cs.drop 0).take (Tryz.prog.cellsOf 9))=some x:=hf2 0 _ rfl;rw[c0]at h0;obtain⟨v0,r0,w0⟩:=(Bn Tryz.underlying9) enc w sp held fuel _ _ h0;have c1:Tryz.prog.cellsOf 4=1:=by kernel_rfl
 obtain⟨x1,h1⟩:∃x,DataW.trod enc Tryz.prog w 0 sp held fuel 4 ((cs.drop 1).take (Tryz.prog.cellsOf 4))=some x:=hf2 1 _ rfl;rw[c1]at h1;obtain⟨v1,r1,w1⟩:=(D8 Tryz.underlying4) enc w sp held fuel _ _ h1;have c2:Tryz.prog.cellsOf 4=1:=by kernel_rfl
 obtain⟨x2,h2⟩:∃x,DataW.trod enc Tryz.prog w 0 sp held fuel 4 ((cs.drop 2).take (Tryz.prog.cellsOf 4))=some x:=hf2 2 _ rfl;rw[c2]at h2;obtain⟨v2,r2,w2⟩:=(D8 Tryz.underlying4) enc w sp held fuel _ _ h2;have hh:=AT (o:=0) (k:=1) r0 (AT (o:=1) (k:=1) r1 (AT (o:=2) (k:=1) r2 (show RDs (hOf w) w [] (cs.drop 3)from by rw[List.drop_eq_nil_of_le (by omega)];simp[RDs])));refine⟨⟨v0,v1,v2⟩,?_,w0,w1,w2⟩;simpa only[List.drop_zero,List.append_nil,List.append_assoc,List.cons_append,List.nil_append,Xd.D,CR,CQ,CT,CU,CS,Ba]using hh
theorem Ks:BK Tryz.prog 90 BQ.D BQ.Wf:=by
 refine Aw (n:=6) Tryz.underlying90 (by kernel_rfl) ?_;intro H enc w sp held fuel cs hlen hf;have hf2:=fun(i:Nat) (g:Field) h=>hf g (List.mem_of_getElem? (i:=i) h);have c0:Tryz.prog.cellsOf 3=1:=by kernel_rfl
 obtain⟨x0,h0⟩:∃x,DataW.trod enc Tryz.prog w 0 sp held fuel 3 ((cs.drop 0).take (Tryz.prog.cellsOf 3))=some x:=hf2 0 _ rfl;rw[c0]at h0;obtain⟨v0,r0,w0⟩:=(Az Tryz.underlying3) enc w sp held fuel _ _ h0;have c1:Tryz.prog.cellsOf 3=1:=by kernel_rfl
 obtain⟨x1,h1⟩:∃x,DataW.trod enc Tryz.prog w 0 sp held fuel 3 ((cs.drop 1).take (Tryz.prog.cellsOf 3))=some x:=hf2 1 _ rfl;rw[c1]at h1;obtain⟨v1,r1,w1⟩:=(Az Tryz.underlying3) enc w sp held fuel _ _ h1;have c2:Tryz.prog.cellsOf 81=4:=by kernel_rfl
 obtain⟨x2,h2⟩:∃x,DataW.trod enc Tryz.prog w 0 sp held fuel 81 ((cs.drop 2).take (Tryz.prog.cellsOf 81))=some x:=hf2 2 _ rfl;rw[c2]at h2;obtain⟨v2,r2,w2⟩:=CJ enc w sp held fuel _ _ h2;have hh:=AT (o:=0) (k:=1) r0 (AT (o:=1) (k:=1) r1 (AT (o:=2) (k:=4) r2 (show RDs (hOf w) w [] (cs.drop 6)from by rw[List.drop_eq_nil_of_le (by omega)];simp[RDs])));refine⟨⟨v0,v1,v2⟩,?_,w0,w1,w2⟩;simpa only[List.drop_zero,List.append_nil,List.append_assoc,List.cons_append,List.nil_append,BQ.D,CR,CQ,CT,CU,CS,Ba]using hh
theorem Hd:BK Tryz.prog 88 X8.D X8.Wf:=by
 refine Aw (n:=2) Tryz.underlying88 (by kernel_rfl) ?_;intro H enc w sp held fuel cs hlen hf;have hf2:=fun(i:Nat) (g:Field) h=>hf g (List.mem_of_getElem? (i:=i) h);have c0:Tryz.prog.cellsOf 3=1:=by kernel_rfl
 obtain⟨x0,h0⟩:∃x,DataW.trod enc Tryz.prog w 0 sp held fuel 3 ((cs.drop 0).take (Tryz.prog.cellsOf 3))=some x:=hf2 0 _ rfl;rw[c0]at h0;obtain⟨v0,r0,w0⟩:=(Az Tryz.underlying3) enc w sp held fuel _ _ h0;have c1:Tryz.prog.cellsOf 86=1:=by kernel_rfl
 obtain⟨x1,h1⟩:∃x,DataW.trod enc Tryz.prog w 0 sp held fuel 86 ((cs.drop 1).take (Tryz.prog.cellsOf 86))=some x:=hf2 1 _ rfl;rw[c1]at h1;obtain⟨v1,r1,w1⟩:=(A9 Tryz.underlying86 (by kernel_rfl) Ks) enc w sp held fuel _ _ h1;have hh:=AT (o:=0) (k:=1) r0 (AT (o:=1) (k:=1) r1 (show RDs (hOf w) w [] (cs.drop 2)from by rw[List.drop_eq_nil_of_le (by omega)];simp[RDs]));refine⟨⟨v0,v1⟩,?_,w0,w1⟩;simpa only[List.drop_zero,List.append_nil,List.append_assoc,List.cons_append,List.nil_append,X8.D,CR,CQ,CT,CU,CS,Ba]using hh
theorem Jt:BK Tryz.prog 94 Y7.D Y7.Wf:=by
 refine Aw (n:=7) Tryz.underlying94 (by kernel_rfl) ?_;intro H enc w sp held fuel cs hlen hf;have hf2:=fun(i:Nat) (g:Field) h=>hf g (List.mem_of_getElem? (i:=i) h);have c0:Tryz.prog.cellsOf 3=1:=by kernel_rfl
 obtain⟨x0,h0⟩:∃x,DataW.trod enc Tryz.prog w 0 sp held fuel 3 ((cs.drop 0).take (Tryz.prog.cellsOf 3))=some x:=hf2 0 _ rfl;rw[c0]at h0;obtain⟨v0,r0,w0⟩:=(Az Tryz.underlying3) enc w sp held fuel _ _ h0;have c1:Tryz.prog.cellsOf 3=1:=by kernel_rfl
 obtain⟨x1,h1⟩:∃x,DataW.trod enc Tryz.prog w 0 sp held fuel 3 ((cs.drop 1).take (Tryz.prog.cellsOf 3))=some x:=hf2 1 _ rfl;rw[c1]at h1;obtain⟨v1,r1,w1⟩:=(Az Tryz.underlying3) enc w sp held fuel _ _ h1;have c2:Tryz.prog.cellsOf 3=1:=by kernel_rfl
 obtain⟨x2,h2⟩:∃x,DataW.trod enc Tryz.prog w 0 sp held fuel 3 ((cs.drop 2).take (Tryz.prog.cellsOf 3))=some x:=hf2 2 _ rfl;rw[c2]at h2;obtain⟨v2,r2,w2⟩:=(Az Tryz.underlying3) enc w sp held fuel _ _ h2;have c3:Tryz.prog.cellsOf 81=4:=by kernel_rfl
 obtain⟨x3,h3⟩:∃x,DataW.trod enc Tryz.prog w 0 sp held fuel 81 ((cs.drop 3).take (Tryz.prog.cellsOf 81))=some x:=hf2 3 _ rfl;rw[c3]at h3;obtain⟨v3,r3,w3⟩:=CJ enc w sp held fuel _ _ h3;have hh:=AT (o:=0) (k:=1) r0 (AT (o:=1) (k:=1) r1 (AT (o:=2) (k:=1) r2 (AT (o:=3) (k:=4) r3 (show RDs (hOf w) w [] (cs.drop 7)from by rw[List.drop_eq_nil_of_le (by omega)];simp[RDs]))));refine⟨⟨v0,v1,v2,v3⟩,?_,w0,w1,w2,w3⟩;simpa only[List.drop_zero,List.append_nil,List.append_assoc,List.cons_append,List.nil_append,Y7.D,CR,CQ,CT,CU,CS,Ba]using hh
theorem Ju:BK Tryz.prog 124 DN.D DN.Wf:=by
 refine Aw (n:=2) Tryz.underlying124 (by kernel_rfl) ?_;intro H enc w sp held fuel cs hlen hf;have hf2:=fun(i:Nat) (g:Field) h=>hf g (List.mem_of_getElem? (i:=i) h);have c0:Tryz.prog.cellsOf 3=1:=by kernel_rfl
 obtain⟨x0,h0⟩:∃x,DataW.trod enc Tryz.prog w 0 sp held fuel 3 ((cs.drop 0).take (Tryz.prog.cellsOf 3))=some x:=hf2 0 _ rfl;rw[c0]at h0;obtain⟨v0,r0,w0⟩:=(Az Tryz.underlying3) enc w sp held fuel _ _ h0;have c1:Tryz.prog.cellsOf 3=1:=by kernel_rfl
 obtain⟨x1,h1⟩:∃x,DataW.trod enc Tryz.prog w 0 sp held fuel 3 ((cs.drop 1).take (Tryz.prog.cellsOf 3))=some x:=hf2 1 _ rfl;rw[c1]at h1;obtain⟨v1,r1,w1⟩:=(Az Tryz.underlying3) enc w sp held fuel _ _ h1;have hh:=AT (o:=0) (k:=1) r0 (AT (o:=1) (k:=1) r1 (show RDs (hOf w) w [] (cs.drop 2)from by rw[List.drop_eq_nil_of_le (by omega)];simp[RDs]));refine⟨⟨v0,v1⟩,?_,w0,w1⟩;simpa only[List.drop_zero,List.append_nil,List.append_assoc,List.cons_append,List.nil_append,DN.D,CR,CQ,CT,CU,CS,Ba]using hh
theorem IB:BK Tryz.prog 97 Xe.D Xe.Wf:=by
 refine Aw (n:=5) Tryz.underlying97 (by kernel_rfl) ?_;intro H enc w sp held fuel cs hlen hf;have hf2:=fun(i:Nat) (g:Field) h=>hf g (List.mem_of_getElem? (i:=i) h);have c0:Tryz.prog.cellsOf 3=1:=by kernel_rfl
 obtain⟨x0,h0⟩:∃x,DataW.trod enc Tryz.prog w 0 sp held fuel 3 ((cs.drop 0).take (Tryz.prog.cellsOf 3))=some x:=hf2 0 _ rfl;rw[c0]at h0;obtain⟨v0,r0,w0⟩:=(Az Tryz.underlying3) enc w sp held fuel _ _ h0;have c1:Tryz.prog.cellsOf 3=1:=by kernel_rfl
 obtain⟨x1,h1⟩:∃x,DataW.trod enc Tryz.prog w 0 sp held fuel 3 ((cs.drop 1).take (Tryz.prog.cellsOf 3))=some x:=hf2 1 _ rfl;rw[c1]at h1;obtain⟨v1,r1,w1⟩:=(Az Tryz.underlying3) enc w sp held fuel _ _ h1;have c2:Tryz.prog.cellsOf 3=1:=by kernel_rfl
 obtain⟨x2,h2⟩:∃x,DataW.trod enc Tryz.prog w 0 sp held fuel 3 ((cs.drop 2).take (Tryz.prog.cellsOf 3))=some x:=hf2 2 _ rfl;rw[c2]at h2;obtain⟨v2,r2,w2⟩:=(Az Tryz.underlying3) enc w sp held fuel _ _ h2;have c3:Tryz.prog.cellsOf 3=1:=by kernel_rfl
 obtain⟨x3,h3⟩:∃x,DataW.trod enc Tryz.prog w 0 sp held fuel 3 ((cs.drop 3).take (Tryz.prog.cellsOf 3))=some x:=hf2 3 _ rfl;rw[c3]at h3;obtain⟨v3,r3,w3⟩:=(Az Tryz.underlying3) enc w sp held fuel _ _ h3;have c4:Tryz.prog.cellsOf 95=1:=by kernel_rfl
 obtain⟨x4,h4⟩:∃x,DataW.trod enc Tryz.prog w 0 sp held fuel 95 ((cs.drop 4).take (Tryz.prog.cellsOf 95))=some x:=hf2 4 _ rfl;rw[c4]at h4;obtain⟨v4,r4,w4⟩:=(A9 Tryz.underlying95 (by kernel_rfl) Ju) enc w sp held fuel _ _ h4;have hh:=AT (o:=0) (k:=1) r0 (AT (o:=1) (k:=1) r1 (AT (o:=2) (k:=1) r2 (AT (o:=3) (k:=1) r3 (AT (o:=4) (k:=1) r4 (show RDs (hOf w) w [] (cs.drop 5)from by rw[List.drop_eq_nil_of_le (by omega)];simp[RDs])))));refine⟨⟨v0,v1,v2,v3,v4⟩,?_,w0,w1,w2,w3,w4⟩;simpa only[List.drop_zero,List.append_nil,List.append_assoc,List.cons_append,List.nil_append,Xe.D,CR,CQ,CT,CU,CS,Ba]using hh
theorem Fe:BK Tryz.prog 30 AA.D AA.Wf:=by
 refine Aw (n:=9) Tryz.underlying30 (by kernel_rfl) ?_;intro H enc w sp held fuel cs hlen hf;have hf2:=fun(i:Nat) (g:Field) h=>hf g (List.mem_of_getElem? (i:=i) h);have c0:Tryz.prog.cellsOf 9=1:=by kernel_rfl
 obtain⟨x0,h0⟩:∃x,DataW.trod enc Tryz.prog w 0 sp held fuel 9 ((cs.drop 0).take (Tryz.prog.cellsOf 9))=some x:=hf2 0 _ rfl;rw[c0]at h0;obtain⟨v0,r0,w0⟩:=(Bn Tryz.underlying9) enc w sp held fuel _ _ h0;have c1:Tryz.prog.cellsOf 22=1:=by kernel_rfl
 obtain⟨x1,h1⟩:∃x,DataW.trod enc Tryz.prog w 0 sp held fuel 22 ((cs.drop 1).take (Tryz.prog.cellsOf 22))=some x:=hf2 1 _ rfl;rw[c1]at h1;obtain⟨v1,r1,w1⟩:=(A9 Tryz.underlying22 (by kernel_rfl) Jr) enc w sp held fuel _ _ h1;have c2:Tryz.prog.cellsOf 23=1:=by kernel_rfl
 obtain⟨x2,h2⟩:∃x,DataW.trod enc Tryz.prog w 0 sp held fuel 23 ((cs.drop 2).take (Tryz.prog.cellsOf 23))=some x:=hf2 2 _ rfl;rw[c2]at h2;obtain⟨v2,r2,w2⟩:=(A9 Tryz.underlying23 (by kernel_rfl) Hc) enc w sp held fuel _ _ h2;have c3:Tryz.prog.cellsOf 24=1:=by kernel_rfl
 obtain⟨x3,h3⟩:∃x,DataW.trod enc Tryz.prog w 0 sp held fuel 24 ((cs.drop 3).take (Tryz.prog.cellsOf 24))=some x:=hf2 3 _ rfl;rw[c3]at h3;obtain⟨v3,r3,w3⟩:=(A9 Tryz.underlying24 (by kernel_rfl) Js) enc w sp held fuel _ _ h3;have c4:Tryz.prog.cellsOf 25=1:=by kernel_rfl
 obtain⟨x4,h4⟩:∃x,DataW.trod enc Tryz.prog w 0 sp held fuel 25 ((cs.drop 4).take (Tryz.prog.cellsOf 25))=some x:=hf2 4 _ rfl;rw[c4]at h4;obtain⟨v4,r4,w4⟩:=(A9 Tryz.underlying25 (by kernel_rfl) IA) enc w sp held fuel _ _ h4;have c5:Tryz.prog.cellsOf 3=1:=by kernel_rfl
 obtain⟨x5,h5⟩:∃x,DataW.trod enc Tryz.prog w 0 sp held fuel 3 ((cs.drop 5).take (Tryz.prog.cellsOf 3))=some x:=hf2 5 _ rfl;rw[c5]at h5;obtain⟨v5,r5,w5⟩:=(Az Tryz.underlying3) enc w sp held fuel _ _ h5;have c6:Tryz.prog.cellsOf 26=1:=by kernel_rfl
 obtain⟨x6,h6⟩:∃x,DataW.trod enc Tryz.prog w 0 sp held fuel 26 ((cs.drop 6).take (Tryz.prog.cellsOf 26))=some x:=hf2 6 _ rfl;rw[c6]at h6;obtain⟨v6,r6,w6⟩:=(A9 Tryz.underlying26 (by kernel_rfl) Hd) enc w sp held fuel _ _ h6;have c7:Tryz.prog.cellsOf 27=1:=by kernel_rfl
 obtain⟨x7,h7⟩:∃x,DataW.trod enc Tryz.prog w 0 sp held fuel 27 ((cs.drop 7).take (Tryz.prog.cellsOf 27))=some x:=hf2 7 _ rfl;rw[c7]at h7;obtain⟨v7,r7,w7⟩:=(A9 Tryz.underlying27 (by kernel_rfl) Jt) enc w sp held fuel _ _ h7;have c8:Tryz.prog.cellsOf 28=1:=by kernel_rfl
 obtain⟨x8,h8⟩:∃x,DataW.trod enc Tryz.prog w 0 sp held fuel 28 ((cs.drop 8).take (Tryz.prog.cellsOf 28))=some x:=hf2 8 _ rfl;rw[c8]at h8;obtain⟨v8,r8,w8⟩:=(A9 Tryz.underlying28 (by kernel_rfl) IB) enc w sp held fuel _ _ h8;have hh:=AT (o:=0) (k:=1) r0 (AT (o:=1) (k:=1) r1 (AT (o:=2) (k:=1) r2 (AT (o:=3) (k:=1) r3 (AT (o:=4) (k:=1) r4 (AT (o:=5) (k:=1) r5 (AT (o:=6) (k:=1) r6 (AT (o:=7) (k:=1) r7 (AT (o:=8) (k:=1) r8 (show RDs (hOf w) w [] (cs.drop 9)from by rw[List.drop_eq_nil_of_le (by omega)];simp[RDs])))))))));refine⟨⟨v0,v1,v2,v3,v4,v5,v6,v7,v8⟩,?_,w0,w1,w2,w3,w4,w5,w6,w7,w8⟩;simpa only[List.drop_zero,List.append_nil,List.append_assoc,List.cons_append,List.nil_append,AA.D,CR,CQ,CT,CU,CS,Ba]using hh
theorem H9:BK Tryz.prog 44 X3.D X3.Wf:=by
 refine Aw (n:=2) Tryz.underlying44 (by kernel_rfl) ?_;intro H enc w sp held fuel cs hlen hf;have hf2:=fun(i:Nat) (g:Field) h=>hf g (List.mem_of_getElem? (i:=i) h);have c0:Tryz.prog.cellsOf 9=1:=by kernel_rfl
 obtain⟨x0,h0⟩:∃x,DataW.trod enc Tryz.prog w 0 sp held fuel 9 ((cs.drop 0).take (Tryz.prog.cellsOf 9))=some x:=hf2 0 _ rfl;rw[c0]at h0;obtain⟨v0,r0,w0⟩:=(Bn Tryz.underlying9) enc w sp held fuel _ _ h0;have c1:Tryz.prog.cellsOf 42=1:=by kernel_rfl
 obtain⟨x1,h1⟩:∃x,DataW.trod enc Tryz.prog w 0 sp held fuel 42 ((cs.drop 1).take (Tryz.prog.cellsOf 42))=some x:=hf2 1 _ rfl;rw[c1]at h1;obtain⟨v1,r1,w1⟩:=(A9 Tryz.underlying42 (by kernel_rfl) CJ) enc w sp held fuel _ _ h1;have hh:=AT (o:=0) (k:=1) r0 (AT (o:=1) (k:=1) r1 (show RDs (hOf w) w [] (cs.drop 2)from by rw[List.drop_eq_nil_of_le (by omega)];simp[RDs]));refine⟨⟨v0,v1⟩,?_,w0,w1⟩;simpa only[List.drop_zero,List.append_nil,List.append_assoc,List.cons_append,List.nil_append,X3.D,CR,CQ,CT,CU,CS,Ba]using hh
theorem Kz{q:AA}(h:AA.Wf q):∀t∈q.trans,IH t:=fun t ht=>
 have w:Xe.Wf t:=h.2.2.2.2.2.2.2.2.2 t ht
 ⟨aD0 w.2.2.2.1,fun s hs=>aD0 (w.2.2.2.2.2 s hs).2⟩
theorem ZZ{a0 a1:AA}{a2:List X3}(h0:AA.Wf a0)(h1:AA.Wf a1)(_:a2.length<=9223372036854775807/\∀x∈a2,X3.Wf x):Yl a0 a1 a2=some true:=aNm a0 a1 a2 (Kz h0) (Kz h1)
open Go.ChangeShapes Go.WideShapes Go.ChangeAt Go.RowKit
theorem aJh:ownKnob Tryz.prog.godebug=none:=by kernel_rfl
set_option maxRecDepth 100000 in
theorem Lf{H:Type}{enc:TypeId×Value->H}(W:World)(base:Nat)(args:Array Value)(ds gs:List (DataW H))(before:List MemPlace)
 (hval:∀(j:Nat) t v,Tryz.f4.params[j]? =some t->args[j]? =some v->Value.okWide Tryz.prog W .any base t v)
 (hW:DataW.Whole enc Tryz.prog Tryz.f4.params.toList Go.Proofs.YthaljpcbnneidaaGreat.Rows.equalHoldsSpec.vars false W args.toList ds gs before):
 Calls Tryz.prog 4 args W fun e W'=>∃v,e=.returned v/\Go.Proofs.YthaljpcbnneidaaGreat.Rows.equalHoldsSpec.post enc Tryz.prog Tryz.f4 false true false false W args v W':=by
 refine Kg (tb:=4) (by kernel_rfl) (by kernel_rfl) (by kernel_rfl) Tryz.underlying4 (by rfl) ?_ hW ?_
 intro ds hd
 rw[Tryz.params4]at hd
 match ds,hd with
 |[d0,d1,d2],_=>rfl
 obtain⟨p,q,hA,_,_,_,_⟩:=hW
 rw[Tryz.params4]at hA hval
 have hA2:DataW.TrodAll enc Tryz.prog W 0 (fun _=>true) true [30,30,33] args.toList ds p:=hA
 obtain⟨v0,vs0,d0,ds0,p0,q0,hargs0,rfl,rfl,h0,r0⟩:=trodAll_cons hA2
 obtain⟨v1,vs1,d1,ds1,p1,q1,hargs1,rfl,rfl,h1,r1⟩:=trodAll_cons r0
 obtain⟨v2,vs2,d2,ds2,p2,q2,hargs2,rfl,rfl,h2,r2⟩:=trodAll_cons r1
 obtain⟨rfl,rfl,rfl⟩:=trodAll_nil r2
 subst hargs2
 subst hargs1
 obtain rfl:args= #[v0,v1,v2]:=by cases args;simp_all
 obtain⟨a0,ra0,wa0⟩:=IR Fe h0 (fun a=>⟨_,rfl⟩) (hval 0 30 v0 rfl rfl) Tryz.underlying30
 obtain⟨a1,ra1,wa1⟩:=IR Fe h1 (fun a=>⟨_,rfl⟩) (hval 1 30 v1 rfl rfl) Tryz.underlying30
 obtain⟨a2,ra2,wa2⟩:=UC (A9 Tryz.underlying33 (by kernel_rfl) H9) h2 (fun a c=>by intro h;cases h) (hval 2 33 v2 rfl rfl) (by kernel_rfl)
 refine⟨[.d (AA.D a0),.d (AA.D a1),.d ((D.l X3.D) a2)],?_,aNn (ZZ wa0 wa1 wa2)⟩
 simp only[RAs,RA]
 exact⟨v0,_,rfl,ra0,⟨v1,_,rfl,ra1,⟨v2,_,rfl,ra2,rfl⟩⟩⟩
set_option maxRecDepth 100000 in
theorem Su(os:Os)(started:os.Started)(H:Type)(enc:TypeId×Value->H):
 ReturnsInHanded {} Tryz.checked os 4 .any (Go.Proofs.YthaljpcbnneidaaGreat.Rows.equalHoldsSpec.pre6 enc Tryz.prog Tryz.f4 Go.Proofs.YthaljpcbnneidaaGreat.Rows.equalHoldsRow.domain false) (Go.Proofs.YthaljpcbnneidaaGreat.Rows.equalHoldsSpec.post enc Tryz.prog Tryz.f4 false true false false):=by
 refine returnsInHanded_of_change (C:=Tryz.checked) aJh started (by kernel_rfl) Tryz.func4
  (ChangeSpec.witness6 (enc:=enc) (C:=Tryz.checked) false ⟨#[],#[.agg #[.string ⟨#[]⟩,.slice none 0 0,.slice none 0 0,.slice none 0 0,.slice none 0 0,.int .i64 0,.slice none 0 0,.slice none 0 0,.slice none 0 0],.agg #[.string ⟨#[]⟩,.slice none 0 0,.slice none 0 0,.slice none 0 0,.slice none 0 0,.int .i64 0,.slice none 0 0,.slice none 0 0,.slice none 0 0],.slice none 0 0],[]⟩ 8 (by kernel_rfl) (by kernel_rfl) (by kernel_rfl) (by kernel_rfl)) ?_
 intro W base args ds gs before hval hW _ _
 exact Lf W base args ds gs before hval hW
end Go.Ac
namespace Go.Proofs.YthaljpcbnneidaaGreat
open Go.Ac
theorem EqualHoldsSaid_holds:Rows.EqualHoldsSaid:=
 OpenClaim.holds_of_wide 4 Tryz.f4 rfl rfl rfl rfl rfl rfl rfl ⟨rfl,rfl,rfl,rfl,rfl⟩ rfl rfl rfl rfl rfl (by kernel_rfl) Tryz.func4 (by kernel_rfl)
  (of_decide_eq_true (by kernel_rfl)) (by unfold Func.isWrapper;first|(rw[if_pos (by decide+kernel)];kernel_rfl)|(rw[if_neg (by decide+kernel)];exact⟨rfl,rfl⟩))
  (fun os started H enc _=>Su os started H enc)
end Go.Proofs.YthaljpcbnneidaaGreat
