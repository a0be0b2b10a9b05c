/- Own work: the statement, joined of its parts; it holds for every input. -/
import Derived.Test.YtgcfokfcilgnlaaGreatWa23sx3
import Derived.Test.YtgcfokfcilgnlaaGreatP23sy
import Derived.Test.YtgcfokfcilgnlaaGreatAcC
import Derived.Test.YtgcfokfcilgnlaaGreatRows
set_option linter.unusedVariables false
set_option linter.unusedSimpArgs false
namespace Go.Ac
open Go.Proofs
theorem aQz{n:Int}(h:(Lit.int .i64 n).wf=true): -9223372036854775808<=n/\n<=9223372036854775807:=by simpa[Lit.wf,IntKind.min,IntKind.max,IntKind.signed,IntKind.bits]using h
def Xf.Wf(v:Xf):Prop:=(fun l=>l.length<=9223372036854775807) v.name/\(fun l=>l.length<=9223372036854775807/\∀x∈l,(fun n=>(Lit.int .i64 n).wf=true) x) v.types
def Yg.Wf(v:Yg):Prop:=True/\(fun l=>l.length<=9223372036854775807) v.name/\(fun n=>(Lit.int .i64 n).wf=true) v.type
def X0.Wf(v:X0):Prop:=(fun n=>(Lit.int .i64 n).wf=true) v.kind/\(fun n=>(Lit.int .i64 n).wf=true) v.int/\(fun l=>l.length<=9223372036854775807) v.str/\True
def Yh.Wf(v:Yh):Prop:=(fun l=>l.length<=9223372036854775807) v.name/\X0.Wf v.init_
def Xc.Wf(v:Xc):Prop:=(fun l=>l.length<=9223372036854775807) v.name/\True/\True
def CN.Wf(v:CN):Prop:=(fun n=>(Lit.int .i64 n).wf=true) v.kind/\(fun n=>(Lit.int .i64 n).wf=true) v.n/\X0.Wf v.value
def X5.Wf(v:X5):Prop:=(fun n=>(Lit.int .i64 n).wf=true) v.event/\(fun l=>l.length<=9223372036854775807/\∀x∈l,CN.Wf x) v.args
def Yp.Wf(v:Yp):Prop:=(fun n=>(Lit.int .i64 n).wf=true) v.op/\(fun n=>(Lit.int .i64 n).wf=true) v.a/\(fun n=>(Lit.int .i64 n).wf=true) v.b/\X0.Wf v.value
def Es.Wf(v:Es):Prop:=(fun n=>(Lit.int .i64 n).wf=true) v.free/\(fun n=>(Lit.int .i64 n).wf=true) v.expr
def X6.Wf(v:X6):Prop:=(fun n=>(Lit.int .i64 n).wf=true) v.from_/\(fun n=>(Lit.int .i64 n).wf=true) v.symbol/\(fun n=>(Lit.int .i64 n).wf=true) v.to/\(fun n=>(Lit.int .i64 n).wf=true) v.guard/\(fun l=>l.length<=9223372036854775807/\∀x∈l,Es.Wf x) v.sets
def AD.Wf(v:AD):Prop:=(fun l=>l.length<=9223372036854775807) v.name/\(fun l=>l.length<=9223372036854775807/\∀x∈l,Xf.Wf x) v.decls/\(fun l=>l.length<=9223372036854775807/\∀x∈l,Yg.Wf x) v.quants/\(fun l=>l.length<=9223372036854775807/\∀x∈l,Yh.Wf x) v.frees/\(fun l=>l.length<=9223372036854775807/\∀x∈l,Xc.Wf x) v.states/\(fun n=>(Lit.int .i64 n).wf=true) v.start/\(fun l=>l.length<=9223372036854775807/\∀x∈l,X5.Wf x) v.symbols/\(fun l=>l.length<=9223372036854775807/\∀x∈l,Yp.Wf x) v.nodes/\(fun l=>l.length<=9223372036854775807/\∀x∈l,X6.Wf x) v.trans
def X2.Wf(v:X2):Prop:=(fun n=>(Lit.int .i64 n).wf=true) v.var/\X0.Wf v.value
def X3.Wf(v:X3):Prop:=(fun n=>(Lit.int .i64 n).wf=true) v.state/\(fun l=>l.length<=9223372036854775807/\∀x∈l,X0.Wf x) v.vals
def X4.Wf(v:X4):Prop:=(fun l=>l.length<=9223372036854775807) v.name/\(fun l=>l.length<=9223372036854775807/\∀x∈l,X0.Wf x) v.args
theorem MO:CM Tryz.prog 89 Xf.D Xf.Wf:=by
 refine BE (n:=2) Tryz.underlying89 (by kernel_rfl) ?_;intro H enc w sp held fuel cs hlen hf;have hf2:=fun(i:Nat) (g:Field) h=>hf g (List.mem_of_getElem? (i:=i) h);have c0:Tryz.prog.cellsOf 9=1:=by kernel_rfl
 obtain⟨x0,h0⟩:∃x,DataW.trod enc Tryz.prog w 0 sp held fuel 9 ((cs.drop 0).take (Tryz.prog.cellsOf 9))=some x:=hf2 0 _ rfl;rw[c0]at h0;obtain⟨v0,r0,w0⟩:=(C5 Tryz.underlying9) enc w sp held fuel _ _ h0;have c1:Tryz.prog.cellsOf 40=1:=by kernel_rfl
 obtain⟨x1,h1⟩:∃x,DataW.trod enc Tryz.prog w 0 sp held fuel 40 ((cs.drop 1).take (Tryz.prog.cellsOf 40))=some x:=hf2 1 _ rfl;rw[c1]at h1;obtain⟨v1,r1,w1⟩:=(BJ Tryz.underlying40 (by kernel_rfl) (BL Tryz.underlying3)) enc w sp held fuel _ _ h1;have hh:=AW (o:=0) (k:=1) r0 (AW (o:=1) (k:=1) r1 (show RDs (hOf w) w [] (cs.drop 2)from by rw[List.drop_eq_nil_of_le (by omega)];simp[RDs]));refine⟨⟨v0,v1⟩,?_,w0,w1⟩;simpa only[List.drop_zero,List.append_nil,List.append_assoc,List.cons_append,List.nil_append,Xf.D,Dl,Dk,Dn,Do,Dm,CO]using hh
theorem Kk:CM Tryz.prog 66 Yg.D Yg.Wf:=by
 refine BE (n:=3) Tryz.underlying66 (by kernel_rfl) ?_;intro H enc w sp held fuel cs hlen hf;have hf2:=fun(i:Nat) (g:Field) h=>hf g (List.mem_of_getElem? (i:=i) h);have c0:Tryz.prog.cellsOf 4=1:=by kernel_rfl
 obtain⟨x0,h0⟩:∃x,DataW.trod enc Tryz.prog w 0 sp held fuel 4 ((cs.drop 0).take (Tryz.prog.cellsOf 4))=some x:=hf2 0 _ rfl;rw[c0]at h0;obtain⟨v0,r0,w0⟩:=(Ft Tryz.underlying4) enc w sp held fuel _ _ h0;have c1:Tryz.prog.cellsOf 9=1:=by kernel_rfl
 obtain⟨x1,h1⟩:∃x,DataW.trod enc Tryz.prog w 0 sp held fuel 9 ((cs.drop 1).take (Tryz.prog.cellsOf 9))=some x:=hf2 1 _ rfl;rw[c1]at h1;obtain⟨v1,r1,w1⟩:=(C5 Tryz.underlying9) enc w sp held fuel _ _ h1;have c2:Tryz.prog.cellsOf 3=1:=by kernel_rfl
 obtain⟨x2,h2⟩:∃x,DataW.trod enc Tryz.prog w 0 sp held fuel 3 ((cs.drop 2).take (Tryz.prog.cellsOf 3))=some x:=hf2 2 _ rfl;rw[c2]at h2;obtain⟨v2,r2,w2⟩:=(BL Tryz.underlying3) enc w sp held fuel _ _ h2;have hh:=AW (o:=0) (k:=1) r0 (AW (o:=1) (k:=1) r1 (AW (o:=2) (k:=1) r2 (show RDs (hOf w) w [] (cs.drop 3)from by rw[List.drop_eq_nil_of_le (by omega)];simp[RDs])));refine⟨⟨v0,v1,v2⟩,?_,w0,w1,w2⟩;simpa only[List.drop_zero,List.append_nil,List.append_assoc,List.cons_append,List.nil_append,Yg.D,Dl,Dk,Dn,Do,Dm,CO]using hh
theorem Ct:CM Tryz.prog 62 X0.D X0.Wf:=by
 refine BE (n:=4) Tryz.underlying62 (by kernel_rfl) ?_;intro H enc w sp held fuel cs hlen hf;have hf2:=fun(i:Nat) (g:Field) h=>hf g (List.mem_of_getElem? (i:=i) h);have c0:Tryz.prog.cellsOf 3=1:=by kernel_rfl
 obtain⟨x0,h0⟩:∃x,DataW.trod enc Tryz.prog w 0 sp held fuel 3 ((cs.drop 0).take (Tryz.prog.cellsOf 3))=some x:=hf2 0 _ rfl;rw[c0]at h0;obtain⟨v0,r0,w0⟩:=(BL Tryz.underlying3) enc w sp held fuel _ _ h0;have c1:Tryz.prog.cellsOf 2=1:=by kernel_rfl
 obtain⟨x1,h1⟩:∃x,DataW.trod enc Tryz.prog w 0 sp held fuel 2 ((cs.drop 1).take (Tryz.prog.cellsOf 2))=some x:=hf2 1 _ rfl;rw[c1]at h1;obtain⟨v1,r1,w1⟩:=(BL Tryz.underlying2) enc w sp held fuel _ _ h1;have c2:Tryz.prog.cellsOf 9=1:=by kernel_rfl
 obtain⟨x2,h2⟩:∃x,DataW.trod enc Tryz.prog w 0 sp held fuel 9 ((cs.drop 2).take (Tryz.prog.cellsOf 9))=some x:=hf2 2 _ rfl;rw[c2]at h2;obtain⟨v2,r2,w2⟩:=(C5 Tryz.underlying9) enc w sp held fuel _ _ h2;have c3:Tryz.prog.cellsOf 4=1:=by kernel_rfl
 obtain⟨x3,h3⟩:∃x,DataW.trod enc Tryz.prog w 0 sp held fuel 4 ((cs.drop 3).take (Tryz.prog.cellsOf 4))=some x:=hf2 3 _ rfl;rw[c3]at h3;obtain⟨v3,r3,w3⟩:=(Ft Tryz.underlying4) enc w sp held fuel _ _ h3;have hh:=AW (o:=0) (k:=1) r0 (AW (o:=1) (k:=1) r1 (AW (o:=2) (k:=1) r2 (AW (o:=3) (k:=1) r3 (show RDs (hOf w) w [] (cs.drop 4)from by rw[List.drop_eq_nil_of_le (by omega)];simp[RDs]))));refine⟨⟨v0,v1,v2,v3⟩,?_,w0,w1,w2,w3⟩;simpa only[List.drop_zero,List.append_nil,List.append_assoc,List.cons_append,List.nil_append,X0.D,Dl,Dk,Dn,Do,Dm,CO]using hh
theorem MQ:CM Tryz.prog 93 Yh.D Yh.Wf:=by
 refine BE (n:=5) Tryz.underlying93 (by kernel_rfl) ?_;intro H enc w sp held fuel cs hlen hf;have hf2:=fun(i:Nat) (g:Field) h=>hf g (List.mem_of_getElem? (i:=i) h);have c0:Tryz.prog.cellsOf 9=1:=by kernel_rfl
 obtain⟨x0,h0⟩:∃x,DataW.trod enc Tryz.prog w 0 sp held fuel 9 ((cs.drop 0).take (Tryz.prog.cellsOf 9))=some x:=hf2 0 _ rfl;rw[c0]at h0;obtain⟨v0,r0,w0⟩:=(C5 Tryz.underlying9) enc w sp held fuel _ _ h0;have c1:Tryz.prog.cellsOf 62=4:=by kernel_rfl
 obtain⟨x1,h1⟩:∃x,DataW.trod enc Tryz.prog w 0 sp held fuel 62 ((cs.drop 1).take (Tryz.prog.cellsOf 62))=some x:=hf2 1 _ rfl;rw[c1]at h1;obtain⟨v1,r1,w1⟩:=Ct enc w sp held fuel _ _ h1;have hh:=AW (o:=0) (k:=1) r0 (AW (o:=1) (k:=4) r1 (show RDs (hOf w) w [] (cs.drop 5)from by rw[List.drop_eq_nil_of_le (by omega)];simp[RDs]));refine⟨⟨v0,v1⟩,?_,w0,w1⟩;simpa only[List.drop_zero,List.append_nil,List.append_assoc,List.cons_append,List.nil_append,Yh.D,Dl,Dk,Dn,Do,Dm,CO]using hh
theorem Kl:CM Tryz.prog 78 Xc.D Xc.Wf:=by
 refine BE (n:=3) Tryz.underlying78 (by kernel_rfl) ?_;intro H enc w sp held fuel cs hlen hf;have hf2:=fun(i:Nat) (g:Field) h=>hf g (List.mem_of_getElem? (i:=i) h);have c0:Tryz.prog.cellsOf 9=1:=by kernel_rfl
 obtain⟨x0,h0⟩:∃x,DataW.trod enc Tryz.prog w 0 sp held fuel 9 ((cs.drop 0).take (Tryz.prog.cellsOf 9))=some x:=hf2 0 _ rfl;rw[c0]at h0;obtain⟨v0,r0,w0⟩:=(C5 Tryz.underlying9) enc w sp held fuel _ _ h0;have c1:Tryz.prog.cellsOf 4=1:=by kernel_rfl
 obtain⟨x1,h1⟩:∃x,DataW.trod enc Tryz.prog w 0 sp held fuel 4 ((cs.drop 1).take (Tryz.prog.cellsOf 4))=some x:=hf2 1 _ rfl;rw[c1]at h1;obtain⟨v1,r1,w1⟩:=(Ft Tryz.underlying4) enc w sp held fuel _ _ h1;have c2:Tryz.prog.cellsOf 4=1:=by kernel_rfl
 obtain⟨x2,h2⟩:∃x,DataW.trod enc Tryz.prog w 0 sp held fuel 4 ((cs.drop 2).take (Tryz.prog.cellsOf 4))=some x:=hf2 2 _ rfl;rw[c2]at h2;obtain⟨v2,r2,w2⟩:=(Ft Tryz.underlying4) enc w sp held fuel _ _ h2;have hh:=AW (o:=0) (k:=1) r0 (AW (o:=1) (k:=1) r1 (AW (o:=2) (k:=1) r2 (show RDs (hOf w) w [] (cs.drop 3)from by rw[List.drop_eq_nil_of_le (by omega)];simp[RDs])));refine⟨⟨v0,v1,v2⟩,?_,w0,w1,w2⟩;simpa only[List.drop_zero,List.append_nil,List.append_assoc,List.cons_append,List.nil_append,Xc.D,Dl,Dk,Dn,Do,Dm,CO]using hh
theorem MN:CM Tryz.prog 123 CN.D CN.Wf:=by
 refine BE (n:=6) Tryz.underlying123 (by kernel_rfl) ?_;intro H enc w sp held fuel cs hlen hf;have hf2:=fun(i:Nat) (g:Field) h=>hf g (List.mem_of_getElem? (i:=i) h);have c0:Tryz.prog.cellsOf 3=1:=by kernel_rfl
 obtain⟨x0,h0⟩:∃x,DataW.trod enc Tryz.prog w 0 sp held fuel 3 ((cs.drop 0).take (Tryz.prog.cellsOf 3))=some x:=hf2 0 _ rfl;rw[c0]at h0;obtain⟨v0,r0,w0⟩:=(BL Tryz.underlying3) enc w sp held fuel _ _ h0;have c1:Tryz.prog.cellsOf 3=1:=by kernel_rfl
 obtain⟨x1,h1⟩:∃x,DataW.trod enc Tryz.prog w 0 sp held fuel 3 ((cs.drop 1).take (Tryz.prog.cellsOf 3))=some x:=hf2 1 _ rfl;rw[c1]at h1;obtain⟨v1,r1,w1⟩:=(BL Tryz.underlying3) enc w sp held fuel _ _ h1;have c2:Tryz.prog.cellsOf 62=4:=by kernel_rfl
 obtain⟨x2,h2⟩:∃x,DataW.trod enc Tryz.prog w 0 sp held fuel 62 ((cs.drop 2).take (Tryz.prog.cellsOf 62))=some x:=hf2 2 _ rfl;rw[c2]at h2;obtain⟨v2,r2,w2⟩:=Ct enc w sp held fuel _ _ h2;have hh:=AW (o:=0) (k:=1) r0 (AW (o:=1) (k:=1) r1 (AW (o:=2) (k:=4) r2 (show RDs (hOf w) w [] (cs.drop 6)from by rw[List.drop_eq_nil_of_le (by omega)];simp[RDs])));refine⟨⟨v0,v1,v2⟩,?_,w0,w1,w2⟩;simpa only[List.drop_zero,List.append_nil,List.append_assoc,List.cons_append,List.nil_append,CN.D,Dl,Dk,Dn,Do,Dm,CO]using hh
theorem H0:CM Tryz.prog 121 X5.D X5.Wf:=by
 refine BE (n:=2) Tryz.underlying121 (by kernel_rfl) ?_;intro H enc w sp held fuel cs hlen hf;have hf2:=fun(i:Nat) (g:Field) h=>hf g (List.mem_of_getElem? (i:=i) h);have c0:Tryz.prog.cellsOf 3=1:=by kernel_rfl
 obtain⟨x0,h0⟩:∃x,DataW.trod enc Tryz.prog w 0 sp held fuel 3 ((cs.drop 0).take (Tryz.prog.cellsOf 3))=some x:=hf2 0 _ rfl;rw[c0]at h0;obtain⟨v0,r0,w0⟩:=(BL Tryz.underlying3) enc w sp held fuel _ _ h0;have c1:Tryz.prog.cellsOf 119=1:=by kernel_rfl
 obtain⟨x1,h1⟩:∃x,DataW.trod enc Tryz.prog w 0 sp held fuel 119 ((cs.drop 1).take (Tryz.prog.cellsOf 119))=some x:=hf2 1 _ rfl;rw[c1]at h1;obtain⟨v1,r1,w1⟩:=(BJ Tryz.underlying119 (by kernel_rfl) MN) enc w sp held fuel _ _ h1;have hh:=AW (o:=0) (k:=1) r0 (AW (o:=1) (k:=1) r1 (show RDs (hOf w) w [] (cs.drop 2)from by rw[List.drop_eq_nil_of_le (by omega)];simp[RDs]));refine⟨⟨v0,v1⟩,?_,w0,w1⟩;simpa only[List.drop_zero,List.append_nil,List.append_assoc,List.cons_append,List.nil_append,X5.D,Dl,Dk,Dn,Do,Dm,CO]using hh
theorem Kj:CM Tryz.prog 125 Yp.D Yp.Wf:=by
 refine BE (n:=7) Tryz.underlying125 (by kernel_rfl) ?_;intro H enc w sp held fuel cs hlen hf;have hf2:=fun(i:Nat) (g:Field) h=>hf g (List.mem_of_getElem? (i:=i) h);have c0:Tryz.prog.cellsOf 3=1:=by kernel_rfl
 obtain⟨x0,h0⟩:∃x,DataW.trod enc Tryz.prog w 0 sp held fuel 3 ((cs.drop 0).take (Tryz.prog.cellsOf 3))=some x:=hf2 0 _ rfl;rw[c0]at h0;obtain⟨v0,r0,w0⟩:=(BL Tryz.underlying3) enc w sp held fuel _ _ h0;have c1:Tryz.prog.cellsOf 3=1:=by kernel_rfl
 obtain⟨x1,h1⟩:∃x,DataW.trod enc Tryz.prog w 0 sp held fuel 3 ((cs.drop 1).take (Tryz.prog.cellsOf 3))=some x:=hf2 1 _ rfl;rw[c1]at h1;obtain⟨v1,r1,w1⟩:=(BL Tryz.underlying3) enc w sp held fuel _ _ h1;have c2:Tryz.prog.cellsOf 3=1:=by kernel_rfl
 obtain⟨x2,h2⟩:∃x,DataW.trod enc Tryz.prog w 0 sp held fuel 3 ((cs.drop 2).take (Tryz.prog.cellsOf 3))=some x:=hf2 2 _ rfl;rw[c2]at h2;obtain⟨v2,r2,w2⟩:=(BL Tryz.underlying3) enc w sp held fuel _ _ h2;have c3:Tryz.prog.cellsOf 62=4:=by kernel_rfl
 obtain⟨x3,h3⟩:∃x,DataW.trod enc Tryz.prog w 0 sp held fuel 62 ((cs.drop 3).take (Tryz.prog.cellsOf 62))=some x:=hf2 3 _ rfl;rw[c3]at h3;obtain⟨v3,r3,w3⟩:=Ct enc w sp held fuel _ _ h3;have hh:=AW (o:=0) (k:=1) r0 (AW (o:=1) (k:=1) r1 (AW (o:=2) (k:=1) r2 (AW (o:=3) (k:=4) r3 (show RDs (hOf w) w [] (cs.drop 7)from by rw[List.drop_eq_nil_of_le (by omega)];simp[RDs]))));refine⟨⟨v0,v1,v2,v3⟩,?_,w0,w1,w2,w3⟩;simpa only[List.drop_zero,List.append_nil,List.append_assoc,List.cons_append,List.nil_append,Yp.D,Dl,Dk,Dn,Do,Dm,CO]using hh
theorem MR:CM Tryz.prog 165 Es.D Es.Wf:=by
 refine BE (n:=2) Tryz.underlying165 (by kernel_rfl) ?_;intro H enc w sp held fuel cs hlen hf;have hf2:=fun(i:Nat) (g:Field) h=>hf g (List.mem_of_getElem? (i:=i) h);have c0:Tryz.prog.cellsOf 3=1:=by kernel_rfl
 obtain⟨x0,h0⟩:∃x,DataW.trod enc Tryz.prog w 0 sp held fuel 3 ((cs.drop 0).take (Tryz.prog.cellsOf 3))=some x:=hf2 0 _ rfl;rw[c0]at h0;obtain⟨v0,r0,w0⟩:=(BL Tryz.underlying3) enc w sp held fuel _ _ h0;have c1:Tryz.prog.cellsOf 3=1:=by kernel_rfl
 obtain⟨x1,h1⟩:∃x,DataW.trod enc Tryz.prog w 0 sp held fuel 3 ((cs.drop 1).take (Tryz.prog.cellsOf 3))=some x:=hf2 1 _ rfl;rw[c1]at h1;obtain⟨v1,r1,w1⟩:=(BL Tryz.underlying3) enc w sp held fuel _ _ h1;have hh:=AW (o:=0) (k:=1) r0 (AW (o:=1) (k:=1) r1 (show RDs (hOf w) w [] (cs.drop 2)from by rw[List.drop_eq_nil_of_le (by omega)];simp[RDs]));refine⟨⟨v0,v1⟩,?_,w0,w1⟩;simpa only[List.drop_zero,List.append_nil,List.append_assoc,List.cons_append,List.nil_append,Es.D,Dl,Dk,Dn,Do,Dm,CO]using hh
theorem KH:CM Tryz.prog 107 X6.D X6.Wf:=by
 refine BE (n:=5) Tryz.underlying107 (by kernel_rfl) ?_;intro H enc w sp held fuel cs hlen hf;have hf2:=fun(i:Nat) (g:Field) h=>hf g (List.mem_of_getElem? (i:=i) h);have c0:Tryz.prog.cellsOf 3=1:=by kernel_rfl
 obtain⟨x0,h0⟩:∃x,DataW.trod enc Tryz.prog w 0 sp held fuel 3 ((cs.drop 0).take (Tryz.prog.cellsOf 3))=some x:=hf2 0 _ rfl;rw[c0]at h0;obtain⟨v0,r0,w0⟩:=(BL Tryz.underlying3) enc w sp held fuel _ _ h0;have c1:Tryz.prog.cellsOf 3=1:=by kernel_rfl
 obtain⟨x1,h1⟩:∃x,DataW.trod enc Tryz.prog w 0 sp held fuel 3 ((cs.drop 1).take (Tryz.prog.cellsOf 3))=some x:=hf2 1 _ rfl;rw[c1]at h1;obtain⟨v1,r1,w1⟩:=(BL Tryz.underlying3) enc w sp held fuel _ _ h1;have c2:Tryz.prog.cellsOf 3=1:=by kernel_rfl
 obtain⟨x2,h2⟩:∃x,DataW.trod enc Tryz.prog w 0 sp held fuel 3 ((cs.drop 2).take (Tryz.prog.cellsOf 3))=some x:=hf2 2 _ rfl;rw[c2]at h2;obtain⟨v2,r2,w2⟩:=(BL Tryz.underlying3) enc w sp held fuel _ _ h2;have c3:Tryz.prog.cellsOf 3=1:=by kernel_rfl
 obtain⟨x3,h3⟩:∃x,DataW.trod enc Tryz.prog w 0 sp held fuel 3 ((cs.drop 3).take (Tryz.prog.cellsOf 3))=some x:=hf2 3 _ rfl;rw[c3]at h3;obtain⟨v3,r3,w3⟩:=(BL Tryz.underlying3) enc w sp held fuel _ _ h3;have c4:Tryz.prog.cellsOf 105=1:=by kernel_rfl
 obtain⟨x4,h4⟩:∃x,DataW.trod enc Tryz.prog w 0 sp held fuel 105 ((cs.drop 4).take (Tryz.prog.cellsOf 105))=some x:=hf2 4 _ rfl;rw[c4]at h4;obtain⟨v4,r4,w4⟩:=(BJ Tryz.underlying105 (by kernel_rfl) MR) enc w sp held fuel _ _ h4;have hh:=AW (o:=0) (k:=1) r0 (AW (o:=1) (k:=1) r1 (AW (o:=2) (k:=1) r2 (AW (o:=3) (k:=1) r3 (AW (o:=4) (k:=1) r4 (show RDs (hOf w) w [] (cs.drop 5)from by rw[List.drop_eq_nil_of_le (by omega)];simp[RDs])))));refine⟨⟨v0,v1,v2,v3,v4⟩,?_,w0,w1,w2,w3,w4⟩;simpa only[List.drop_zero,List.append_nil,List.append_assoc,List.cons_append,List.nil_append,X6.D,Dl,Dk,Dn,Do,Dm,CO]using hh
theorem Np:CM Tryz.prog 30 AD.D AD.Wf:=by
 refine BE (n:=9) Tryz.underlying30 (by kernel_rfl) ?_;intro H enc w sp held fuel cs hlen hf;have hf2:=fun(i:Nat) (g:Field) h=>hf g (List.mem_of_getElem? (i:=i) h);have c0:Tryz.prog.cellsOf 9=1:=by kernel_rfl
 obtain⟨x0,h0⟩:∃x,DataW.trod enc Tryz.prog w 0 sp held fuel 9 ((cs.drop 0).take (Tryz.prog.cellsOf 9))=some x:=hf2 0 _ rfl;rw[c0]at h0;obtain⟨v0,r0,w0⟩:=(C5 Tryz.underlying9) enc w sp held fuel _ _ h0;have c1:Tryz.prog.cellsOf 22=1:=by kernel_rfl
 obtain⟨x1,h1⟩:∃x,DataW.trod enc Tryz.prog w 0 sp held fuel 22 ((cs.drop 1).take (Tryz.prog.cellsOf 22))=some x:=hf2 1 _ rfl;rw[c1]at h1;obtain⟨v1,r1,w1⟩:=(BJ Tryz.underlying22 (by kernel_rfl) MO) enc w sp held fuel _ _ h1;have c2:Tryz.prog.cellsOf 23=1:=by kernel_rfl
 obtain⟨x2,h2⟩:∃x,DataW.trod enc Tryz.prog w 0 sp held fuel 23 ((cs.drop 2).take (Tryz.prog.cellsOf 23))=some x:=hf2 2 _ rfl;rw[c2]at h2;obtain⟨v2,r2,w2⟩:=(BJ Tryz.underlying23 (by kernel_rfl) Kk) enc w sp held fuel _ _ h2;have c3:Tryz.prog.cellsOf 24=1:=by kernel_rfl
 obtain⟨x3,h3⟩:∃x,DataW.trod enc Tryz.prog w 0 sp held fuel 24 ((cs.drop 3).take (Tryz.prog.cellsOf 24))=some x:=hf2 3 _ rfl;rw[c3]at h3;obtain⟨v3,r3,w3⟩:=(BJ Tryz.underlying24 (by kernel_rfl) MQ) enc w sp held fuel _ _ h3;have c4:Tryz.prog.cellsOf 25=1:=by kernel_rfl
 obtain⟨x4,h4⟩:∃x,DataW.trod enc Tryz.prog w 0 sp held fuel 25 ((cs.drop 4).take (Tryz.prog.cellsOf 25))=some x:=hf2 4 _ rfl;rw[c4]at h4;obtain⟨v4,r4,w4⟩:=(BJ Tryz.underlying25 (by kernel_rfl) Kl) enc w sp held fuel _ _ h4;have c5:Tryz.prog.cellsOf 3=1:=by kernel_rfl
 obtain⟨x5,h5⟩:∃x,DataW.trod enc Tryz.prog w 0 sp held fuel 3 ((cs.drop 5).take (Tryz.prog.cellsOf 3))=some x:=hf2 5 _ rfl;rw[c5]at h5;obtain⟨v5,r5,w5⟩:=(BL Tryz.underlying3) enc w sp held fuel _ _ h5;have c6:Tryz.prog.cellsOf 26=1:=by kernel_rfl
 obtain⟨x6,h6⟩:∃x,DataW.trod enc Tryz.prog w 0 sp held fuel 26 ((cs.drop 6).take (Tryz.prog.cellsOf 26))=some x:=hf2 6 _ rfl;rw[c6]at h6;obtain⟨v6,r6,w6⟩:=(BJ Tryz.underlying26 (by kernel_rfl) H0) enc w sp held fuel _ _ h6;have c7:Tryz.prog.cellsOf 27=1:=by kernel_rfl
 obtain⟨x7,h7⟩:∃x,DataW.trod enc Tryz.prog w 0 sp held fuel 27 ((cs.drop 7).take (Tryz.prog.cellsOf 27))=some x:=hf2 7 _ rfl;rw[c7]at h7;obtain⟨v7,r7,w7⟩:=(BJ Tryz.underlying27 (by kernel_rfl) Kj) enc w sp held fuel _ _ h7;have c8:Tryz.prog.cellsOf 28=1:=by kernel_rfl
 obtain⟨x8,h8⟩:∃x,DataW.trod enc Tryz.prog w 0 sp held fuel 28 ((cs.drop 8).take (Tryz.prog.cellsOf 28))=some x:=hf2 8 _ rfl;rw[c8]at h8;obtain⟨v8,r8,w8⟩:=(BJ Tryz.underlying28 (by kernel_rfl) KH) enc w sp held fuel _ _ h8;have hh:=AW (o:=0) (k:=1) r0 (AW (o:=1) (k:=1) r1 (AW (o:=2) (k:=1) r2 (AW (o:=3) (k:=1) r3 (AW (o:=4) (k:=1) r4 (AW (o:=5) (k:=1) r5 (AW (o:=6) (k:=1) r6 (AW (o:=7) (k:=1) r7 (AW (o:=8) (k:=1) r8 (show RDs (hOf w) w [] (cs.drop 9)from by rw[List.drop_eq_nil_of_le (by omega)];simp[RDs])))))))));refine⟨⟨v0,v1,v2,v3,v4,v5,v6,v7,v8⟩,?_,w0,w1,w2,w3,w4,w5,w6,w7,w8⟩;simpa only[List.drop_zero,List.append_nil,List.append_assoc,List.cons_append,List.nil_append,AD.D,Dl,Dk,Dn,Do,Dm,CO]using hh
theorem MT:CM Tryz.prog 64 X2.D X2.Wf:=by
 refine BE (n:=5) Tryz.underlying64 (by kernel_rfl) ?_;intro H enc w sp held fuel cs hlen hf;have hf2:=fun(i:Nat) (g:Field) h=>hf g (List.mem_of_getElem? (i:=i) h);have c0:Tryz.prog.cellsOf 3=1:=by kernel_rfl
 obtain⟨x0,h0⟩:∃x,DataW.trod enc Tryz.prog w 0 sp held fuel 3 ((cs.drop 0).take (Tryz.prog.cellsOf 3))=some x:=hf2 0 _ rfl;rw[c0]at h0;obtain⟨v0,r0,w0⟩:=(BL Tryz.underlying3) enc w sp held fuel _ _ h0;have c1:Tryz.prog.cellsOf 62=4:=by kernel_rfl
 obtain⟨x1,h1⟩:∃x,DataW.trod enc Tryz.prog w 0 sp held fuel 62 ((cs.drop 1).take (Tryz.prog.cellsOf 62))=some x:=hf2 1 _ rfl;rw[c1]at h1;obtain⟨v1,r1,w1⟩:=Ct enc w sp held fuel _ _ h1;have hh:=AW (o:=0) (k:=1) r0 (AW (o:=1) (k:=4) r1 (show RDs (hOf w) w [] (cs.drop 5)from by rw[List.drop_eq_nil_of_le (by omega)];simp[RDs]));refine⟨⟨v0,v1⟩,?_,w0,w1⟩;simpa only[List.drop_zero,List.append_nil,List.append_assoc,List.cons_append,List.nil_append,X2.D,Dl,Dk,Dn,Do,Dm,CO]using hh
theorem KG:CM Tryz.prog 46 X3.D X3.Wf:=by
 refine BE (n:=2) Tryz.underlying46 (by kernel_rfl) ?_;intro H enc w sp held fuel cs hlen hf;have hf2:=fun(i:Nat) (g:Field) h=>hf g (List.mem_of_getElem? (i:=i) h);have c0:Tryz.prog.cellsOf 3=1:=by kernel_rfl
 obtain⟨x0,h0⟩:∃x,DataW.trod enc Tryz.prog w 0 sp held fuel 3 ((cs.drop 0).take (Tryz.prog.cellsOf 3))=some x:=hf2 0 _ rfl;rw[c0]at h0;obtain⟨v0,r0,w0⟩:=(BL Tryz.underlying3) enc w sp held fuel _ _ h0;have c1:Tryz.prog.cellsOf 44=1:=by kernel_rfl
 obtain⟨x1,h1⟩:∃x,DataW.trod enc Tryz.prog w 0 sp held fuel 44 ((cs.drop 1).take (Tryz.prog.cellsOf 44))=some x:=hf2 1 _ rfl;rw[c1]at h1;obtain⟨v1,r1,w1⟩:=(BJ Tryz.underlying44 (by kernel_rfl) Ct) enc w sp held fuel _ _ h1;have hh:=AW (o:=0) (k:=1) r0 (AW (o:=1) (k:=1) r1 (show RDs (hOf w) w [] (cs.drop 2)from by rw[List.drop_eq_nil_of_le (by omega)];simp[RDs]));refine⟨⟨v0,v1⟩,?_,w0,w1⟩;simpa only[List.drop_zero,List.append_nil,List.append_assoc,List.cons_append,List.nil_append,X3.D,Dl,Dk,Dn,Do,Dm,CO]using hh
theorem Ki:CM Tryz.prog 70 X4.D X4.Wf:=by
 refine BE (n:=2) Tryz.underlying70 (by kernel_rfl) ?_;intro H enc w sp held fuel cs hlen hf;have hf2:=fun(i:Nat) (g:Field) h=>hf g (List.mem_of_getElem? (i:=i) h);have c0:Tryz.prog.cellsOf 9=1:=by kernel_rfl
 obtain⟨x0,h0⟩:∃x,DataW.trod enc Tryz.prog w 0 sp held fuel 9 ((cs.drop 0).take (Tryz.prog.cellsOf 9))=some x:=hf2 0 _ rfl;rw[c0]at h0;obtain⟨v0,r0,w0⟩:=(C5 Tryz.underlying9) enc w sp held fuel _ _ h0;have c1:Tryz.prog.cellsOf 44=1:=by kernel_rfl
 obtain⟨x1,h1⟩:∃x,DataW.trod enc Tryz.prog w 0 sp held fuel 44 ((cs.drop 1).take (Tryz.prog.cellsOf 44))=some x:=hf2 1 _ rfl;rw[c1]at h1;obtain⟨v1,r1,w1⟩:=(BJ Tryz.underlying44 (by kernel_rfl) Ct) enc w sp held fuel _ _ h1;have hh:=AW (o:=0) (k:=1) r0 (AW (o:=1) (k:=1) r1 (show RDs (hOf w) w [] (cs.drop 2)from by rw[List.drop_eq_nil_of_le (by omega)];simp[RDs]));refine⟨⟨v0,v1⟩,?_,w0,w1⟩;simpa only[List.drop_zero,List.append_nil,List.append_assoc,List.cons_append,List.nil_append,X4.D,Dl,Dk,Dn,Do,Dm,CO]using hh
theorem aFl{q:AD}(h:AD.Wf q):∀t∈q.trans,Mu t:=fun t ht=>
 have w:X6.Wf t:=h.2.2.2.2.2.2.2.2.2 t ht
 ⟨aQz w.2.2.2.1,fun s hs=>aQz (w.2.2.2.2.2 s hs).2⟩
theorem aG4{a0:AD}{a1:List X2}{a2:List X3}{a3:List X4}(h0:AD.Wf a0)(h1:a1.length<=9223372036854775807/\∀x∈a1,X2.Wf x)(_:a2.length<=9223372036854775807/\∀x∈a2,X3.Wf x)(h3:a3.length<=9223372036854775807/\∀x∈a3,X4.Wf x):X9 a0 a1 a2 a3=some true:=bA2 a0 a1 a2 a3 (aFl h0) h1.1 fun e he=>by have w:X4.Wf e:=h3.2 e he;exact w.2.1
open Go.ChangeShapes Go.WideShapes Go.ChangeAt Go.RowKit
theorem aXa:ownKnob Tryz.prog.godebug=none:=by kernel_rfl
set_option maxRecDepth 100000 in
theorem ON{H:Type}{enc:TypeId×Value->H}(W:World)(base:Nat)(args:Array Value)(ds gs:List (DataW H))(before:List MemPlace)
 (hval:∀(j:Nat) t v,Tryz.f6.params[j]? =some t->args[j]? =some v->Value.okWide Tryz.prog W .any base t v)
 (hW:DataW.Whole enc Tryz.prog Tryz.f6.params.toList Go.Proofs.YtgcfokfcilgnlaaGreat.Rows.reachSureSpec.vars false W args.toList ds gs before):
 Calls Tryz.prog 6 args W fun e W'=>∃v,e=.returned v/\Go.Proofs.YtgcfokfcilgnlaaGreat.Rows.reachSureSpec.post enc Tryz.prog Tryz.f6 false true false false W args v W':=by
 refine NZ (tb:=4) (by kernel_rfl) (by kernel_rfl) (by kernel_rfl) Tryz.underlying4 (by rfl) ?_ hW ?_
 intro ds hd
 rw[Tryz.params6]at hd
 match ds,hd with
 |[d0,d1,d2,d3],_=>rfl
 obtain⟨p,q,hA,_,_,_,_⟩:=hW
 rw[Tryz.params6]at hA hval
 have hA2:DataW.TrodAll enc Tryz.prog W 0 (fun _=>true) true [30,31,43,60] args.toList ds p:=hA
 obtain⟨v0,vs0,d0,ds0,p0,q0,hargs0,rfl,rfl,h0,r0⟩:=trodAll_cons hA2
 obtain⟨v1,vs1,d1,ds1,p1,q1,hargs1,rfl,rfl,h1,r1⟩:=trodAll_cons r0
 obtain⟨v2,vs2,d2,ds2,p2,q2,hargs2,rfl,rfl,h2,r2⟩:=trodAll_cons r1
 obtain⟨v3,vs3,d3,ds3,p3,q3,hargs3,rfl,rfl,h3,r3⟩:=trodAll_cons r2
 obtain⟨rfl,rfl,rfl⟩:=trodAll_nil r3
 subst hargs3
 subst hargs2
 subst hargs1
 obtain rfl:args= #[v0,v1,v2,v3]:=by cases args;simp_all
 obtain⟨a0,ra0,wa0⟩:=Si Np h0 (fun a=>⟨_,rfl⟩) (hval 0 30 v0 rfl rfl) Tryz.underlying30
 obtain⟨a1,ra1,wa1⟩:=Jj (BJ Tryz.underlying31 (by kernel_rfl) MT) h1 (fun a c=>by intro h;cases h) (hval 1 31 v1 rfl rfl) (by kernel_rfl)
 obtain⟨a2,ra2,wa2⟩:=Jj (BJ Tryz.underlying43 (by kernel_rfl) KG) h2 (fun a c=>by intro h;cases h) (hval 2 43 v2 rfl rfl) (by kernel_rfl)
 obtain⟨a3,ra3,wa3⟩:=Jj (BJ Tryz.underlying60 (by kernel_rfl) Ki) h3 (fun a c=>by intro h;cases h) (hval 3 60 v3 rfl rfl) (by kernel_rfl)
 refine⟨[.d (AD.D a0),.d ((D.l X2.D) a1),.d ((D.l X3.D) a2),.d ((D.l X4.D) a3)],?_,bA3 (aG4 wa0 wa1 wa2 wa3)⟩
 simp only[RAs,RA]
 exact⟨v0,_,rfl,ra0,⟨v1,_,rfl,ra1,⟨v2,_,rfl,ra2,⟨v3,_,rfl,ra3,rfl⟩⟩⟩⟩
set_option maxRecDepth 100000 in
theorem UQ(os:Os)(started:os.Started)(H:Type)(enc:TypeId×Value->H):
 ReturnsInHanded {} Tryz.checked os 6 .any (Go.Proofs.YtgcfokfcilgnlaaGreat.Rows.reachSureSpec.pre6 enc Tryz.prog Tryz.f6 Go.Proofs.YtgcfokfcilgnlaaGreat.Rows.reachSureRow.domain false) (Go.Proofs.YtgcfokfcilgnlaaGreat.Rows.reachSureSpec.post enc Tryz.prog Tryz.f6 false true false false):=by
 refine returnsInHanded_of_change (C:=Tryz.checked) aXa started (by kernel_rfl) Tryz.func6
  (ChangeSpec.witness6 (enc:=enc) (C:=Tryz.checked) false ⟨#[],#[.agg #[.string ⟨#[]⟩,.slice none 0 0,.slice none 0 0,.slice none 0 0,.slice none 0 0,.int .i64 0,.slice none 0 0,.slice none 0 0,.slice none 0 0],.slice none 0 0,.slice none 0 0,.slice none 0 0],[]⟩ 8 (by kernel_rfl) (by kernel_rfl) (by kernel_rfl) (by kernel_rfl)) ?_
 intro W base args ds gs before hval hW _ _
 exact ON W base args ds gs before hval hW
end Go.Ac
namespace Go.Proofs.YtgcfokfcilgnlaaGreat
open Go.Ac
theorem ReachSureSaid_holds:Rows.ReachSureSaid:=
 OpenClaim.holds_of_wide 6 Tryz.f6 rfl rfl rfl rfl rfl rfl rfl ⟨rfl,rfl,rfl,rfl,rfl⟩ rfl rfl rfl rfl rfl (by kernel_rfl) Tryz.func6 (by kernel_rfl)
  (of_decide_eq_true (by kernel_rfl)) (by unfold Func.isWrapper;first|(rw[if_pos (by decide+kernel)];kernel_rfl)|(rw[if_neg (by decide+kernel)];exact⟨rfl,rfl⟩))
  (fun os started H enc _=>UQ os started H enc)
end Go.Proofs.YtgcfokfcilgnlaaGreat
