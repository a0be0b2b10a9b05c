/- Own work: the statement, joined of its parts; it holds for every input. -/
import Derived.Test.YthaljpcbnneidaaGreatWa37tx2
import Derived.Test.YthaljpcbnneidaaGreatP37ty
import Derived.Test.YthaljpcbnneidaaGreatAcC
import Derived.Test.YthaljpcbnneidaaGreatRows
set_option linter.unusedVariables false
set_option linter.unusedSimpArgs false
namespace Go.Ac
open Go.Proofs
theorem aFw{n:Int}(h:(Lit.int .i64 n).wf=true): -9223372036854775808<=n/\n<=9223372036854775807:=by simpa[Lit.wf,IntKind.min,IntKind.max,IntKind.signed,IntKind.bits]using h
def X7.Wf(v:X7):Prop:=(fun l=>l.length<=9223372036854775807) v.name/\(fun l=>l.length<=9223372036854775807/\∀x∈l,(fun n=>(Lit.int .i64 n).wf=true) x) v.types
def Xt.Wf(v:Xt):Prop:=True/\(fun l=>l.length<=9223372036854775807) v.name/\(fun n=>(Lit.int .i64 n).wf=true) v.type
def X0.Wf(v:X0):Prop:=(fun n=>(Lit.int .i64 n).wf=true) v.kind/\(fun n=>(Lit.int .i64 n).wf=true) v.int/\(fun l=>l.length<=9223372036854775807) v.str/\True
def Xw.Wf(v:Xw):Prop:=(fun l=>l.length<=9223372036854775807) v.name/\X0.Wf v.init_
def Xd.Wf(v:Xd):Prop:=(fun l=>l.length<=9223372036854775807) v.name/\True/\True
def BJ.Wf(v:BJ):Prop:=(fun n=>(Lit.int .i64 n).wf=true) v.kind/\(fun n=>(Lit.int .i64 n).wf=true) v.n/\X0.Wf v.value
def X8.Wf(v:X8):Prop:=(fun n=>(Lit.int .i64 n).wf=true) v.event/\(fun l=>l.length<=9223372036854775807/\∀x∈l,BJ.Wf x) v.args
def Yc.Wf(v:Yc):Prop:=(fun n=>(Lit.int .i64 n).wf=true) v.op/\(fun n=>(Lit.int .i64 n).wf=true) v.a/\(fun n=>(Lit.int .i64 n).wf=true) v.b/\X0.Wf v.value
def DN.Wf(v:DN):Prop:=(fun n=>(Lit.int .i64 n).wf=true) v.free/\(fun n=>(Lit.int .i64 n).wf=true) v.expr
def Xe.Wf(v:Xe):Prop:=(fun n=>(Lit.int .i64 n).wf=true) v.from_/\(fun n=>(Lit.int .i64 n).wf=true) v.symbol/\(fun n=>(Lit.int .i64 n).wf=true) v.to/\(fun n=>(Lit.int .i64 n).wf=true) v.guard/\(fun l=>l.length<=9223372036854775807/\∀x∈l,DN.Wf x) v.sets
def AA.Wf(v:AA):Prop:=(fun l=>l.length<=9223372036854775807) v.name/\(fun l=>l.length<=9223372036854775807/\∀x∈l,X7.Wf x) v.decls/\(fun l=>l.length<=9223372036854775807/\∀x∈l,Xt.Wf x) v.quants/\(fun l=>l.length<=9223372036854775807/\∀x∈l,Xw.Wf x) v.frees/\(fun l=>l.length<=9223372036854775807/\∀x∈l,Xd.Wf x) v.states/\(fun n=>(Lit.int .i64 n).wf=true) v.start/\(fun l=>l.length<=9223372036854775807/\∀x∈l,X8.Wf x) v.symbols/\(fun l=>l.length<=9223372036854775807/\∀x∈l,Yc.Wf x) v.nodes/\(fun l=>l.length<=9223372036854775807/\∀x∈l,Xe.Wf x) v.trans
theorem Jr:Bc Tryz.prog 50 X7.D X7.Wf:=by
 refine Az (n:=2) Tryz.underlying50 (by kernel_rfl) ?_;intro H enc w sp held fuel cs hlen hf;have hf2:=fun(i:Nat) (g:Field) h=>hf g (List.mem_of_getElem? (i:=i) h);have c0:Tryz.prog.cellsOf 9=1:=by kernel_rfl
 obtain⟨x0,h0⟩:∃x,DataW.trod enc Tryz.prog w 0 sp held fuel 9 ((cs.drop 0).take (Tryz.prog.cellsOf 9))=some x:=hf2 0 _ rfl;rw[c0]at h0;obtain⟨v0,r0,w0⟩:=(B0 Tryz.underlying9) enc w sp held fuel _ _ h0;have c1:Tryz.prog.cellsOf 48=1:=by kernel_rfl
 obtain⟨x1,h1⟩:∃x,DataW.trod enc Tryz.prog w 0 sp held fuel 48 ((cs.drop 1).take (Tryz.prog.cellsOf 48))=some x:=hf2 1 _ rfl;rw[c1]at h1;obtain⟨v1,r1,w1⟩:=(BH Tryz.underlying48 (by kernel_rfl) (Ay Tryz.underlying3)) enc w sp held fuel _ _ h1;have hh:=AU (o:=0) (k:=1) r0 (AU (o:=1) (k:=1) r1 (show RDs (hOf w) w [] (cs.drop 2)from by rw[List.drop_eq_nil_of_le (by omega)];simp[RDs]));refine⟨⟨v0,v1⟩,?_,w0,w1⟩;simpa only[List.drop_zero,List.append_nil,List.append_assoc,List.cons_append,List.nil_append,X7.D,Cb,Ca,Cd,Ce,Cc,Bl]using hh
theorem Hm:Bc Tryz.prog 115 Xt.D Xt.Wf:=by
 refine Az (n:=3) Tryz.underlying115 (by kernel_rfl) ?_;intro H enc w sp held fuel cs hlen hf;have hf2:=fun(i:Nat) (g:Field) h=>hf g (List.mem_of_getElem? (i:=i) h);have c0:Tryz.prog.cellsOf 4=1:=by kernel_rfl
 obtain⟨x0,h0⟩:∃x,DataW.trod enc Tryz.prog w 0 sp held fuel 4 ((cs.drop 0).take (Tryz.prog.cellsOf 4))=some x:=hf2 0 _ rfl;rw[c0]at h0;obtain⟨v0,r0,w0⟩:=(D9 Tryz.underlying4) enc w sp held fuel _ _ h0;have c1:Tryz.prog.cellsOf 9=1:=by kernel_rfl
 obtain⟨x1,h1⟩:∃x,DataW.trod enc Tryz.prog w 0 sp held fuel 9 ((cs.drop 1).take (Tryz.prog.cellsOf 9))=some x:=hf2 1 _ rfl;rw[c1]at h1;obtain⟨v1,r1,w1⟩:=(B0 Tryz.underlying9) enc w sp held fuel _ _ h1;have c2:Tryz.prog.cellsOf 3=1:=by kernel_rfl
 obtain⟨x2,h2⟩:∃x,DataW.trod enc Tryz.prog w 0 sp held fuel 3 ((cs.drop 2).take (Tryz.prog.cellsOf 3))=some x:=hf2 2 _ rfl;rw[c2]at h2;obtain⟨v2,r2,w2⟩:=(Ay Tryz.underlying3) enc w sp held fuel _ _ h2;have hh:=AU (o:=0) (k:=1) r0 (AU (o:=1) (k:=1) r1 (AU (o:=2) (k:=1) r2 (show RDs (hOf w) w [] (cs.drop 3)from by rw[List.drop_eq_nil_of_le (by omega)];simp[RDs])));refine⟨⟨v0,v1,v2⟩,?_,w0,w1,w2⟩;simpa only[List.drop_zero,List.append_nil,List.append_assoc,List.cons_append,List.nil_append,Xt.D,Cb,Ca,Cd,Ce,Cc,Bl]using hh
theorem DC:Bc Tryz.prog 81 X0.D X0.Wf:=by
 refine Az (n:=4) Tryz.underlying81 (by kernel_rfl) ?_;intro H enc w sp held fuel cs hlen hf;have hf2:=fun(i:Nat) (g:Field) h=>hf g (List.mem_of_getElem? (i:=i) h);have c0:Tryz.prog.cellsOf 3=1:=by kernel_rfl
 obtain⟨x0,h0⟩:∃x,DataW.trod enc Tryz.prog w 0 sp held fuel 3 ((cs.drop 0).take (Tryz.prog.cellsOf 3))=some x:=hf2 0 _ rfl;rw[c0]at h0;obtain⟨v0,r0,w0⟩:=(Ay Tryz.underlying3) enc w sp held fuel _ _ h0;have c1:Tryz.prog.cellsOf 2=1:=by kernel_rfl
 obtain⟨x1,h1⟩:∃x,DataW.trod enc Tryz.prog w 0 sp held fuel 2 ((cs.drop 1).take (Tryz.prog.cellsOf 2))=some x:=hf2 1 _ rfl;rw[c1]at h1;obtain⟨v1,r1,w1⟩:=(Ay Tryz.underlying2) enc w sp held fuel _ _ h1;have c2:Tryz.prog.cellsOf 9=1:=by kernel_rfl
 obtain⟨x2,h2⟩:∃x,DataW.trod enc Tryz.prog w 0 sp held fuel 9 ((cs.drop 2).take (Tryz.prog.cellsOf 9))=some x:=hf2 2 _ rfl;rw[c2]at h2;obtain⟨v2,r2,w2⟩:=(B0 Tryz.underlying9) enc w sp held fuel _ _ h2;have c3:Tryz.prog.cellsOf 4=1:=by kernel_rfl
 obtain⟨x3,h3⟩:∃x,DataW.trod enc Tryz.prog w 0 sp held fuel 4 ((cs.drop 3).take (Tryz.prog.cellsOf 4))=some x:=hf2 3 _ rfl;rw[c3]at h3;obtain⟨v3,r3,w3⟩:=(D9 Tryz.underlying4) enc w sp held fuel _ _ h3;have hh:=AU (o:=0) (k:=1) r0 (AU (o:=1) (k:=1) r1 (AU (o:=2) (k:=1) r2 (AU (o:=3) (k:=1) r3 (show RDs (hOf w) w [] (cs.drop 4)from by rw[List.drop_eq_nil_of_le (by omega)];simp[RDs]))));refine⟨⟨v0,v1,v2,v3⟩,?_,w0,w1,w2,w3⟩;simpa only[List.drop_zero,List.append_nil,List.append_assoc,List.cons_append,List.nil_append,X0.D,Cb,Ca,Cd,Ce,Cc,Bl]using hh
theorem Js:Bc Tryz.prog 92 Xw.D Xw.Wf:=by
 refine Az (n:=5) Tryz.underlying92 (by kernel_rfl) ?_;intro H enc w sp held fuel cs hlen hf;have hf2:=fun(i:Nat) (g:Field) h=>hf g (List.mem_of_getElem? (i:=i) h);have c0:Tryz.prog.cellsOf 9=1:=by kernel_rfl
 obtain⟨x0,h0⟩:∃x,DataW.trod enc Tryz.prog w 0 sp held fuel 9 ((cs.drop 0).take (Tryz.prog.cellsOf 9))=some x:=hf2 0 _ rfl;rw[c0]at h0;obtain⟨v0,r0,w0⟩:=(B0 Tryz.underlying9) enc w sp held fuel _ _ h0;have c1:Tryz.prog.cellsOf 81=4:=by kernel_rfl
 obtain⟨x1,h1⟩:∃x,DataW.trod enc Tryz.prog w 0 sp held fuel 81 ((cs.drop 1).take (Tryz.prog.cellsOf 81))=some x:=hf2 1 _ rfl;rw[c1]at h1;obtain⟨v1,r1,w1⟩:=DC enc w sp held fuel _ _ h1;have hh:=AU (o:=0) (k:=1) r0 (AU (o:=1) (k:=4) r1 (show RDs (hOf w) w [] (cs.drop 5)from by rw[List.drop_eq_nil_of_le (by omega)];simp[RDs]));refine⟨⟨v0,v1⟩,?_,w0,w1⟩;simpa only[List.drop_zero,List.append_nil,List.append_assoc,List.cons_append,List.nil_append,Xw.D,Cb,Ca,Cd,Ce,Cc,Bl]using hh
theorem IM:Bc Tryz.prog 52 Xd.D Xd.Wf:=by
 refine Az (n:=3) Tryz.underlying52 (by kernel_rfl) ?_;intro H enc w sp held fuel cs hlen hf;have hf2:=fun(i:Nat) (g:Field) h=>hf g (List.mem_of_getElem? (i:=i) h);have c0:Tryz.prog.cellsOf 9=1:=by kernel_rfl
 obtain⟨x0,h0⟩:∃x,DataW.trod enc Tryz.prog w 0 sp held fuel 9 ((cs.drop 0).take (Tryz.prog.cellsOf 9))=some x:=hf2 0 _ rfl;rw[c0]at h0;obtain⟨v0,r0,w0⟩:=(B0 Tryz.underlying9) enc w sp held fuel _ _ h0;have c1:Tryz.prog.cellsOf 4=1:=by kernel_rfl
 obtain⟨x1,h1⟩:∃x,DataW.trod enc Tryz.prog w 0 sp held fuel 4 ((cs.drop 1).take (Tryz.prog.cellsOf 4))=some x:=hf2 1 _ rfl;rw[c1]at h1;obtain⟨v1,r1,w1⟩:=(D9 Tryz.underlying4) enc w sp held fuel _ _ h1;have c2:Tryz.prog.cellsOf 4=1:=by kernel_rfl
 obtain⟨x2,h2⟩:∃x,DataW.trod enc Tryz.prog w 0 sp held fuel 4 ((cs.drop 2).take (Tryz.prog.cellsOf 4))=some x:=hf2 2 _ rfl;rw[c2]at h2;obtain⟨v2,r2,w2⟩:=(D9 Tryz.underlying4) enc w sp held fuel _ _ h2;have hh:=AU (o:=0) (k:=1) r0 (AU (o:=1) (k:=1) r1 (AU (o:=2) (k:=1) r2 (show RDs (hOf w) w [] (cs.drop 3)from by rw[List.drop_eq_nil_of_le (by omega)];simp[RDs])));refine⟨⟨v0,v1,v2⟩,?_,w0,w1,w2⟩;simpa only[List.drop_zero,List.append_nil,List.append_assoc,List.cons_append,List.nil_append,Xd.D,Cb,Ca,Cd,Ce,Cc,Bl]using hh
theorem Kq:Bc Tryz.prog 90 BJ.D BJ.Wf:=by
 refine Az (n:=6) Tryz.underlying90 (by kernel_rfl) ?_;intro H enc w sp held fuel cs hlen hf;have hf2:=fun(i:Nat) (g:Field) h=>hf g (List.mem_of_getElem? (i:=i) h);have c0:Tryz.prog.cellsOf 3=1:=by kernel_rfl
 obtain⟨x0,h0⟩:∃x,DataW.trod enc Tryz.prog w 0 sp held fuel 3 ((cs.drop 0).take (Tryz.prog.cellsOf 3))=some x:=hf2 0 _ rfl;rw[c0]at h0;obtain⟨v0,r0,w0⟩:=(Ay Tryz.underlying3) enc w sp held fuel _ _ h0;have c1:Tryz.prog.cellsOf 3=1:=by kernel_rfl
 obtain⟨x1,h1⟩:∃x,DataW.trod enc Tryz.prog w 0 sp held fuel 3 ((cs.drop 1).take (Tryz.prog.cellsOf 3))=some x:=hf2 1 _ rfl;rw[c1]at h1;obtain⟨v1,r1,w1⟩:=(Ay Tryz.underlying3) enc w sp held fuel _ _ h1;have c2:Tryz.prog.cellsOf 81=4:=by kernel_rfl
 obtain⟨x2,h2⟩:∃x,DataW.trod enc Tryz.prog w 0 sp held fuel 81 ((cs.drop 2).take (Tryz.prog.cellsOf 81))=some x:=hf2 2 _ rfl;rw[c2]at h2;obtain⟨v2,r2,w2⟩:=DC enc w sp held fuel _ _ h2;have hh:=AU (o:=0) (k:=1) r0 (AU (o:=1) (k:=1) r1 (AU (o:=2) (k:=4) r2 (show RDs (hOf w) w [] (cs.drop 6)from by rw[List.drop_eq_nil_of_le (by omega)];simp[RDs])));refine⟨⟨v0,v1,v2⟩,?_,w0,w1,w2⟩;simpa only[List.drop_zero,List.append_nil,List.append_assoc,List.cons_append,List.nil_append,BJ.D,Cb,Ca,Cd,Ce,Cc,Bl]using hh
theorem Hn:Bc Tryz.prog 88 X8.D X8.Wf:=by
 refine Az (n:=2) Tryz.underlying88 (by kernel_rfl) ?_;intro H enc w sp held fuel cs hlen hf;have hf2:=fun(i:Nat) (g:Field) h=>hf g (List.mem_of_getElem? (i:=i) h);have c0:Tryz.prog.cellsOf 3=1:=by kernel_rfl
 obtain⟨x0,h0⟩:∃x,DataW.trod enc Tryz.prog w 0 sp held fuel 3 ((cs.drop 0).take (Tryz.prog.cellsOf 3))=some x:=hf2 0 _ rfl;rw[c0]at h0;obtain⟨v0,r0,w0⟩:=(Ay Tryz.underlying3) enc w sp held fuel _ _ h0;have c1:Tryz.prog.cellsOf 86=1:=by kernel_rfl
 obtain⟨x1,h1⟩:∃x,DataW.trod enc Tryz.prog w 0 sp held fuel 86 ((cs.drop 1).take (Tryz.prog.cellsOf 86))=some x:=hf2 1 _ rfl;rw[c1]at h1;obtain⟨v1,r1,w1⟩:=(BH Tryz.underlying86 (by kernel_rfl) Kq) enc w sp held fuel _ _ h1;have hh:=AU (o:=0) (k:=1) r0 (AU (o:=1) (k:=1) r1 (show RDs (hOf w) w [] (cs.drop 2)from by rw[List.drop_eq_nil_of_le (by omega)];simp[RDs]));refine⟨⟨v0,v1⟩,?_,w0,w1⟩;simpa only[List.drop_zero,List.append_nil,List.append_assoc,List.cons_append,List.nil_append,X8.D,Cb,Ca,Cd,Ce,Cc,Bl]using hh
theorem Jt:Bc Tryz.prog 94 Yc.D Yc.Wf:=by
 refine Az (n:=7) Tryz.underlying94 (by kernel_rfl) ?_;intro H enc w sp held fuel cs hlen hf;have hf2:=fun(i:Nat) (g:Field) h=>hf g (List.mem_of_getElem? (i:=i) h);have c0:Tryz.prog.cellsOf 3=1:=by kernel_rfl
 obtain⟨x0,h0⟩:∃x,DataW.trod enc Tryz.prog w 0 sp held fuel 3 ((cs.drop 0).take (Tryz.prog.cellsOf 3))=some x:=hf2 0 _ rfl;rw[c0]at h0;obtain⟨v0,r0,w0⟩:=(Ay Tryz.underlying3) enc w sp held fuel _ _ h0;have c1:Tryz.prog.cellsOf 3=1:=by kernel_rfl
 obtain⟨x1,h1⟩:∃x,DataW.trod enc Tryz.prog w 0 sp held fuel 3 ((cs.drop 1).take (Tryz.prog.cellsOf 3))=some x:=hf2 1 _ rfl;rw[c1]at h1;obtain⟨v1,r1,w1⟩:=(Ay Tryz.underlying3) enc w sp held fuel _ _ h1;have c2:Tryz.prog.cellsOf 3=1:=by kernel_rfl
 obtain⟨x2,h2⟩:∃x,DataW.trod enc Tryz.prog w 0 sp held fuel 3 ((cs.drop 2).take (Tryz.prog.cellsOf 3))=some x:=hf2 2 _ rfl;rw[c2]at h2;obtain⟨v2,r2,w2⟩:=(Ay Tryz.underlying3) enc w sp held fuel _ _ h2;have c3:Tryz.prog.cellsOf 81=4:=by kernel_rfl
 obtain⟨x3,h3⟩:∃x,DataW.trod enc Tryz.prog w 0 sp held fuel 81 ((cs.drop 3).take (Tryz.prog.cellsOf 81))=some x:=hf2 3 _ rfl;rw[c3]at h3;obtain⟨v3,r3,w3⟩:=DC enc w sp held fuel _ _ h3;have hh:=AU (o:=0) (k:=1) r0 (AU (o:=1) (k:=1) r1 (AU (o:=2) (k:=1) r2 (AU (o:=3) (k:=4) r3 (show RDs (hOf w) w [] (cs.drop 7)from by rw[List.drop_eq_nil_of_le (by omega)];simp[RDs]))));refine⟨⟨v0,v1,v2,v3⟩,?_,w0,w1,w2,w3⟩;simpa only[List.drop_zero,List.append_nil,List.append_assoc,List.cons_append,List.nil_append,Yc.D,Cb,Ca,Cd,Ce,Cc,Bl]using hh
theorem Ju:Bc Tryz.prog 124 DN.D DN.Wf:=by
 refine Az (n:=2) Tryz.underlying124 (by kernel_rfl) ?_;intro H enc w sp held fuel cs hlen hf;have hf2:=fun(i:Nat) (g:Field) h=>hf g (List.mem_of_getElem? (i:=i) h);have c0:Tryz.prog.cellsOf 3=1:=by kernel_rfl
 obtain⟨x0,h0⟩:∃x,DataW.trod enc Tryz.prog w 0 sp held fuel 3 ((cs.drop 0).take (Tryz.prog.cellsOf 3))=some x:=hf2 0 _ rfl;rw[c0]at h0;obtain⟨v0,r0,w0⟩:=(Ay Tryz.underlying3) enc w sp held fuel _ _ h0;have c1:Tryz.prog.cellsOf 3=1:=by kernel_rfl
 obtain⟨x1,h1⟩:∃x,DataW.trod enc Tryz.prog w 0 sp held fuel 3 ((cs.drop 1).take (Tryz.prog.cellsOf 3))=some x:=hf2 1 _ rfl;rw[c1]at h1;obtain⟨v1,r1,w1⟩:=(Ay Tryz.underlying3) enc w sp held fuel _ _ h1;have hh:=AU (o:=0) (k:=1) r0 (AU (o:=1) (k:=1) r1 (show RDs (hOf w) w [] (cs.drop 2)from by rw[List.drop_eq_nil_of_le (by omega)];simp[RDs]));refine⟨⟨v0,v1⟩,?_,w0,w1⟩;simpa only[List.drop_zero,List.append_nil,List.append_assoc,List.cons_append,List.nil_append,DN.D,Cb,Ca,Cd,Ce,Cc,Bl]using hh
theorem IN:Bc Tryz.prog 97 Xe.D Xe.Wf:=by
 refine Az (n:=5) Tryz.underlying97 (by kernel_rfl) ?_;intro H enc w sp held fuel cs hlen hf;have hf2:=fun(i:Nat) (g:Field) h=>hf g (List.mem_of_getElem? (i:=i) h);have c0:Tryz.prog.cellsOf 3=1:=by kernel_rfl
 obtain⟨x0,h0⟩:∃x,DataW.trod enc Tryz.prog w 0 sp held fuel 3 ((cs.drop 0).take (Tryz.prog.cellsOf 3))=some x:=hf2 0 _ rfl;rw[c0]at h0;obtain⟨v0,r0,w0⟩:=(Ay Tryz.underlying3) enc w sp held fuel _ _ h0;have c1:Tryz.prog.cellsOf 3=1:=by kernel_rfl
 obtain⟨x1,h1⟩:∃x,DataW.trod enc Tryz.prog w 0 sp held fuel 3 ((cs.drop 1).take (Tryz.prog.cellsOf 3))=some x:=hf2 1 _ rfl;rw[c1]at h1;obtain⟨v1,r1,w1⟩:=(Ay Tryz.underlying3) enc w sp held fuel _ _ h1;have c2:Tryz.prog.cellsOf 3=1:=by kernel_rfl
 obtain⟨x2,h2⟩:∃x,DataW.trod enc Tryz.prog w 0 sp held fuel 3 ((cs.drop 2).take (Tryz.prog.cellsOf 3))=some x:=hf2 2 _ rfl;rw[c2]at h2;obtain⟨v2,r2,w2⟩:=(Ay Tryz.underlying3) enc w sp held fuel _ _ h2;have c3:Tryz.prog.cellsOf 3=1:=by kernel_rfl
 obtain⟨x3,h3⟩:∃x,DataW.trod enc Tryz.prog w 0 sp held fuel 3 ((cs.drop 3).take (Tryz.prog.cellsOf 3))=some x:=hf2 3 _ rfl;rw[c3]at h3;obtain⟨v3,r3,w3⟩:=(Ay Tryz.underlying3) enc w sp held fuel _ _ h3;have c4:Tryz.prog.cellsOf 95=1:=by kernel_rfl
 obtain⟨x4,h4⟩:∃x,DataW.trod enc Tryz.prog w 0 sp held fuel 95 ((cs.drop 4).take (Tryz.prog.cellsOf 95))=some x:=hf2 4 _ rfl;rw[c4]at h4;obtain⟨v4,r4,w4⟩:=(BH Tryz.underlying95 (by kernel_rfl) Ju) enc w sp held fuel _ _ h4;have hh:=AU (o:=0) (k:=1) r0 (AU (o:=1) (k:=1) r1 (AU (o:=2) (k:=1) r2 (AU (o:=3) (k:=1) r3 (AU (o:=4) (k:=1) r4 (show RDs (hOf w) w [] (cs.drop 5)from by rw[List.drop_eq_nil_of_le (by omega)];simp[RDs])))));refine⟨⟨v0,v1,v2,v3,v4⟩,?_,w0,w1,w2,w3,w4⟩;simpa only[List.drop_zero,List.append_nil,List.append_assoc,List.cons_append,List.nil_append,Xe.D,Cb,Ca,Cd,Ce,Cc,Bl]using hh
theorem Fh:Bc Tryz.prog 30 AA.D AA.Wf:=by
 refine Az (n:=9) Tryz.underlying30 (by kernel_rfl) ?_;intro H enc w sp held fuel cs hlen hf;have hf2:=fun(i:Nat) (g:Field) h=>hf g (List.mem_of_getElem? (i:=i) h);have c0:Tryz.prog.cellsOf 9=1:=by kernel_rfl
 obtain⟨x0,h0⟩:∃x,DataW.trod enc Tryz.prog w 0 sp held fuel 9 ((cs.drop 0).take (Tryz.prog.cellsOf 9))=some x:=hf2 0 _ rfl;rw[c0]at h0;obtain⟨v0,r0,w0⟩:=(B0 Tryz.underlying9) enc w sp held fuel _ _ h0;have c1:Tryz.prog.cellsOf 22=1:=by kernel_rfl
 obtain⟨x1,h1⟩:∃x,DataW.trod enc Tryz.prog w 0 sp held fuel 22 ((cs.drop 1).take (Tryz.prog.cellsOf 22))=some x:=hf2 1 _ rfl;rw[c1]at h1;obtain⟨v1,r1,w1⟩:=(BH Tryz.underlying22 (by kernel_rfl) Jr) enc w sp held fuel _ _ h1;have c2:Tryz.prog.cellsOf 23=1:=by kernel_rfl
 obtain⟨x2,h2⟩:∃x,DataW.trod enc Tryz.prog w 0 sp held fuel 23 ((cs.drop 2).take (Tryz.prog.cellsOf 23))=some x:=hf2 2 _ rfl;rw[c2]at h2;obtain⟨v2,r2,w2⟩:=(BH Tryz.underlying23 (by kernel_rfl) Hm) enc w sp held fuel _ _ h2;have c3:Tryz.prog.cellsOf 24=1:=by kernel_rfl
 obtain⟨x3,h3⟩:∃x,DataW.trod enc Tryz.prog w 0 sp held fuel 24 ((cs.drop 3).take (Tryz.prog.cellsOf 24))=some x:=hf2 3 _ rfl;rw[c3]at h3;obtain⟨v3,r3,w3⟩:=(BH Tryz.underlying24 (by kernel_rfl) Js) enc w sp held fuel _ _ h3;have c4:Tryz.prog.cellsOf 25=1:=by kernel_rfl
 obtain⟨x4,h4⟩:∃x,DataW.trod enc Tryz.prog w 0 sp held fuel 25 ((cs.drop 4).take (Tryz.prog.cellsOf 25))=some x:=hf2 4 _ rfl;rw[c4]at h4;obtain⟨v4,r4,w4⟩:=(BH Tryz.underlying25 (by kernel_rfl) IM) enc w sp held fuel _ _ h4;have c5:Tryz.prog.cellsOf 3=1:=by kernel_rfl
 obtain⟨x5,h5⟩:∃x,DataW.trod enc Tryz.prog w 0 sp held fuel 3 ((cs.drop 5).take (Tryz.prog.cellsOf 3))=some x:=hf2 5 _ rfl;rw[c5]at h5;obtain⟨v5,r5,w5⟩:=(Ay Tryz.underlying3) enc w sp held fuel _ _ h5;have c6:Tryz.prog.cellsOf 26=1:=by kernel_rfl
 obtain⟨x6,h6⟩:∃x,DataW.trod enc Tryz.prog w 0 sp held fuel 26 ((cs.drop 6).take (Tryz.prog.cellsOf 26))=some x:=hf2 6 _ rfl;rw[c6]at h6;obtain⟨v6,r6,w6⟩:=(BH Tryz.underlying26 (by kernel_rfl) Hn) enc w sp held fuel _ _ h6;have c7:Tryz.prog.cellsOf 27=1:=by kernel_rfl
 obtain⟨x7,h7⟩:∃x,DataW.trod enc Tryz.prog w 0 sp held fuel 27 ((cs.drop 7).take (Tryz.prog.cellsOf 27))=some x:=hf2 7 _ rfl;rw[c7]at h7;obtain⟨v7,r7,w7⟩:=(BH Tryz.underlying27 (by kernel_rfl) Jt) enc w sp held fuel _ _ h7;have c8:Tryz.prog.cellsOf 28=1:=by kernel_rfl
 obtain⟨x8,h8⟩:∃x,DataW.trod enc Tryz.prog w 0 sp held fuel 28 ((cs.drop 8).take (Tryz.prog.cellsOf 28))=some x:=hf2 8 _ rfl;rw[c8]at h8;obtain⟨v8,r8,w8⟩:=(BH Tryz.underlying28 (by kernel_rfl) IN) enc w sp held fuel _ _ h8;have hh:=AU (o:=0) (k:=1) r0 (AU (o:=1) (k:=1) r1 (AU (o:=2) (k:=1) r2 (AU (o:=3) (k:=1) r3 (AU (o:=4) (k:=1) r4 (AU (o:=5) (k:=1) r5 (AU (o:=6) (k:=1) r6 (AU (o:=7) (k:=1) r7 (AU (o:=8) (k:=1) r8 (show RDs (hOf w) w [] (cs.drop 9)from by rw[List.drop_eq_nil_of_le (by omega)];simp[RDs])))))))));refine⟨⟨v0,v1,v2,v3,v4,v5,v6,v7,v8⟩,?_,w0,w1,w2,w3,w4,w5,w6,w7,w8⟩;simpa only[List.drop_zero,List.append_nil,List.append_assoc,List.cons_append,List.nil_append,AA.D,Cb,Ca,Cd,Ce,Cc,Bl]using hh
theorem Kx{q:AA}(h:AA.Wf q):∀t∈q.trans,IT t:=fun t ht=>
 have w:Xe.Wf t:=h.2.2.2.2.2.2.2.2.2 t ht
 ⟨aFw w.2.2.2.1,fun s hs=>aFw (w.2.2.2.2.2 s hs).2⟩
theorem aB2{a0 a1:AA}(h0:AA.Wf a0)(h1:AA.Wf a1):Yn a0 a1=some true:=aO9 a0 a1 (Kx h0) (Kx h1)
open Go.ChangeShapes Go.WideShapes Go.ChangeAt Go.RowKit
theorem aK5:ownKnob Tryz.prog.godebug=none:=by kernel_rfl
set_option maxRecDepth 100000 in
theorem Lf{H:Type}{enc:TypeId×Value->H}(W:World)(base:Nat)(args:Array Value)(ds gs:List (DataW H))(before:List MemPlace)
 (hval:∀(j:Nat) t v,Tryz.f3.params[j]? =some t->args[j]? =some v->Value.okWide Tryz.prog W .any base t v)
 (hW:DataW.Whole enc Tryz.prog Tryz.f3.params.toList Go.Proofs.YthaljpcbnneidaaGreat.Rows.equalTellsSpec.vars false W args.toList ds gs before):
 Calls Tryz.prog 3 args W fun e W'=>∃v,e=.returned v/\Go.Proofs.YthaljpcbnneidaaGreat.Rows.equalTellsSpec.post enc Tryz.prog Tryz.f3 false true false false W args v W':=by
 refine Ke (tb:=4) (by kernel_rfl) (by kernel_rfl) (by kernel_rfl) Tryz.underlying4 (by rfl) ?_ hW ?_
 intro ds hd
 rw[Tryz.params3]at hd
 match ds,hd with
 |[d0,d1],_=>rfl
 obtain⟨p,q,hA,_,_,_,_⟩:=hW
 rw[Tryz.params3]at hA hval
 have hA2:DataW.TrodAll enc Tryz.prog W 0 (fun _=>true) true [30,30] args.toList ds p:=hA
 obtain⟨v0,vs0,d0,ds0,p0,q0,hargs0,rfl,rfl,h0,r0⟩:=trodAll_cons hA2
 obtain⟨v1,vs1,d1,ds1,p1,q1,hargs1,rfl,rfl,h1,r1⟩:=trodAll_cons r0
 obtain⟨rfl,rfl,rfl⟩:=trodAll_nil r1
 subst hargs1
 obtain rfl:args= #[v0,v1]:=by cases args;simp_all
 obtain⟨a0,ra0,wa0⟩:=Id Fh h0 (fun a=>⟨_,rfl⟩) (hval 0 30 v0 rfl rfl) Tryz.underlying30
 obtain⟨a1,ra1,wa1⟩:=Id Fh h1 (fun a=>⟨_,rfl⟩) (hval 1 30 v1 rfl rfl) Tryz.underlying30
 refine⟨[.d (AA.D a0),.d (AA.D a1)],?_,aPa (aB2 wa0 wa1)⟩
 simp only[RAs,RA]
 exact⟨v0,_,rfl,ra0,⟨v1,_,rfl,ra1,rfl⟩⟩
set_option maxRecDepth 100000 in
theorem TS(os:Os)(started:os.Started)(H:Type)(enc:TypeId×Value->H):
 ReturnsInHanded {} Tryz.checked os 3 .any (Go.Proofs.YthaljpcbnneidaaGreat.Rows.equalTellsSpec.pre6 enc Tryz.prog Tryz.f3 Go.Proofs.YthaljpcbnneidaaGreat.Rows.equalTellsRow.domain false) (Go.Proofs.YthaljpcbnneidaaGreat.Rows.equalTellsSpec.post enc Tryz.prog Tryz.f3 false true false false):=by
 refine returnsInHanded_of_change (C:=Tryz.checked) aK5 started (by kernel_rfl) Tryz.func3
  (ChangeSpec.witness6 (enc:=enc) (C:=Tryz.checked) false ⟨#[],#[.agg #[.string ⟨#[]⟩,.slice none 0 0,.slice none 0 0,.slice none 0 0,.slice none 0 0,.int .i64 0,.slice none 0 0,.slice none 0 0,.slice none 0 0],.agg #[.string ⟨#[]⟩,.slice none 0 0,.slice none 0 0,.slice none 0 0,.slice none 0 0,.int .i64 0,.slice none 0 0,.slice none 0 0,.slice none 0 0]],[]⟩ 8 (by kernel_rfl) (by kernel_rfl) (by kernel_rfl) (by kernel_rfl)) ?_
 intro W base args ds gs before hval hW _ _
 exact Lf W base args ds gs before hval hW
end Go.Ac
namespace Go.Proofs.YthaljpcbnneidaaGreat
open Go.Ac
theorem EqualTellsSaid_holds:Rows.EqualTellsSaid:=
 OpenClaim.holds_of_wide 3 Tryz.f3 rfl rfl rfl rfl rfl rfl rfl ⟨rfl,rfl,rfl,rfl,rfl⟩ rfl rfl rfl rfl rfl (by kernel_rfl) Tryz.func3 (by kernel_rfl)
  (of_decide_eq_true (by kernel_rfl)) (by unfold Func.isWrapper;first|(rw[if_pos (by decide+kernel)];kernel_rfl)|(rw[if_neg (by decide+kernel)];exact⟨rfl,rfl⟩))
  (fun os started H enc _=>TS os started H enc)
end Go.Proofs.YthaljpcbnneidaaGreat
