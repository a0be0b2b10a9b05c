/- Own work: the statement, joined of its parts; it holds for every input. -/
import Derived.Test.YtnjgfcpccmiglaaGreatDoorWa25px2
import Derived.Test.YtnjgfcpccmiglaaGreatDoorP25Z
import Derived.Test.YtnjgfcpccmiglaaGreatDoorAcD
import Derived.Test.YtnjgfcpccmiglaaGreatDoorRows
import Derived.Test.YtnjgfcpccmiglaaGreatDoorCards
import Derived.Test.YtnjgfcpccmiglaaGreatDoorTie
import Derived.FnData
import Derived.OpenShut
import Derived.LaidLaws
import Derived.LaidHandle
import Derived.Stop.Joined
set_option linter.unusedVariables false
set_option linter.unusedSimpArgs false
namespace Go.Ac
open Go.Proofs
theorem aK2{n:Int}(h:(Lit.int .i64 n).wf=true): -9223372036854775808<=n/\n<=9223372036854775807:=by simpa[Lit.wf,IntKind.min,IntKind.max,IntKind.signed,IntKind.bits]using h
def X8.Wf(v:X8):Prop:=(fun l=>l.length<=9223372036854775807) v.name/\(fun l=>l.length<=9223372036854775807/\∀x∈l,(fun n=>(Lit.int .i64 n).wf=true) x) v.types
def Xd.Wf(v:Xd):Prop:=True/\(fun l=>l.length<=9223372036854775807) v.name/\(fun n=>(Lit.int .i64 n).wf=true) v.type
def X3.Wf(v:X3):Prop:=(fun n=>(Lit.int .i64 n).wf=true) v.kind/\(fun n=>(Lit.int .i64 n).wf=true) v.int/\(fun l=>l.length<=9223372036854775807) v.str/\True
def Xi.Wf(v:Xi):Prop:=(fun l=>l.length<=9223372036854775807) v.name/\X3.Wf v.init_
def Yc.Wf(v:Yc):Prop:=(fun l=>l.length<=9223372036854775807) v.name/\True/\True
def AX.Wf(v:AX):Prop:=(fun n=>(Lit.int .i64 n).wf=true) v.kind/\(fun n=>(Lit.int .i64 n).wf=true) v.n/\X3.Wf v.value
def X2.Wf(v:X2):Prop:=(fun n=>(Lit.int .i64 n).wf=true) v.event/\(fun l=>l.length<=9223372036854775807/\∀x∈l,AX.Wf x) v.args
def Xb.Wf(v:Xb):Prop:=(fun n=>(Lit.int .i64 n).wf=true) v.op/\(fun n=>(Lit.int .i64 n).wf=true) v.a/\(fun n=>(Lit.int .i64 n).wf=true) v.b/\X3.Wf v.value
def A9.Wf(v:A9):Prop:=(fun n=>(Lit.int .i64 n).wf=true) v.free/\(fun n=>(Lit.int .i64 n).wf=true) v.expr
def X5.Wf(v:X5):Prop:=(fun n=>(Lit.int .i64 n).wf=true) v.from_/\(fun n=>(Lit.int .i64 n).wf=true) v.symbol/\(fun n=>(Lit.int .i64 n).wf=true) v.to/\(fun n=>(Lit.int .i64 n).wf=true) v.guard/\(fun l=>l.length<=9223372036854775807/\∀x∈l,A9.Wf x) v.sets
def AA.Wf(v:AA):Prop:=(fun l=>l.length<=9223372036854775807) v.name/\(fun l=>l.length<=9223372036854775807/\∀x∈l,X8.Wf x) v.decls/\(fun l=>l.length<=9223372036854775807/\∀x∈l,Xd.Wf x) v.quants/\(fun l=>l.length<=9223372036854775807/\∀x∈l,Xi.Wf x) v.frees/\(fun l=>l.length<=9223372036854775807/\∀x∈l,Yc.Wf x) v.states/\(fun n=>(Lit.int .i64 n).wf=true) v.start/\(fun l=>l.length<=9223372036854775807/\∀x∈l,X2.Wf x) v.symbols/\(fun l=>l.length<=9223372036854775807/\∀x∈l,Xb.Wf x) v.nodes/\(fun l=>l.length<=9223372036854775807/\∀x∈l,X5.Wf x) v.trans
def X0.Wf(v:X0):Prop:=(fun n=>(Lit.int .i64 n).wf=true) v.var/\X3.Wf v.value
def Xg.Wf(v:Xg):Prop:=(fun n=>(Lit.int .i64 n).wf=true) v.kind/\(fun n=>(Lit.int .i64 n).wf=true) v.iD/\(fun l=>l.length<=9223372036854775807/\∀x∈l,X0.Wf x) v.bind
def Xm.Wf(v:Xm):Prop:=(fun l=>l.length<=9223372036854775807) v.name/\(fun l=>l.length<=9223372036854775807/\∀x∈l,X3.Wf x) v.args
theorem Kn:BK Tryz.prog 73 X8.D X8.Wf:=by
 refine Ay (n:=2) Tryz.underlying73 (by kernel_rfl) ?_;intro H enc w sp held fuel cs hlen hf;have hf2:=fun(i:Nat) (g:Field) h=>hf g (List.mem_of_getElem? (i:=i) h);have c0:Tryz.prog.cellsOf 9=1:=by kernel_rfl
 obtain⟨x0,h0⟩:∃x,DataW.trod enc Tryz.prog w 0 sp held fuel 9 ((cs.drop 0).take (Tryz.prog.cellsOf 9))=some x:=hf2 0 _ rfl;rw[c0]at h0;obtain⟨v0,r0,w0⟩:=(Br Tryz.underlying9) enc w sp held fuel _ _ h0;have c1:Tryz.prog.cellsOf 52=1:=by kernel_rfl
 obtain⟨x1,h1⟩:∃x,DataW.trod enc Tryz.prog w 0 sp held fuel 52 ((cs.drop 1).take (Tryz.prog.cellsOf 52))=some x:=hf2 1 _ rfl;rw[c1]at h1;obtain⟨v1,r1,w1⟩:=(BC Tryz.underlying52 (by kernel_rfl) (A3 Tryz.underlying3)) enc w sp held fuel _ _ h1;have hh:=AT (o:=0) (k:=1) r0 (AT (o:=1) (k:=1) r1 (show RDs (hOf w) w [] (cs.drop 2)from by rw[List.drop_eq_nil_of_le (by omega)];simp[RDs]));refine⟨⟨v0,v1⟩,?_,w0,w1⟩;simpa only[List.drop_zero,List.append_nil,List.append_assoc,List.cons_append,List.nil_append,X8.D,CE,CD,CG,CH,CF,BS]using hh
theorem IZ:BK Tryz.prog 70 Xd.D Xd.Wf:=by
 refine Ay (n:=3) Tryz.underlying70 (by kernel_rfl) ?_;intro H enc w sp held fuel cs hlen hf;have hf2:=fun(i:Nat) (g:Field) h=>hf g (List.mem_of_getElem? (i:=i) h);have c0:Tryz.prog.cellsOf 4=1:=by kernel_rfl
 obtain⟨x0,h0⟩:∃x,DataW.trod enc Tryz.prog w 0 sp held fuel 4 ((cs.drop 0).take (Tryz.prog.cellsOf 4))=some x:=hf2 0 _ rfl;rw[c0]at h0;obtain⟨v0,r0,w0⟩:=(Dm Tryz.underlying4) enc w sp held fuel _ _ h0;have c1:Tryz.prog.cellsOf 9=1:=by kernel_rfl
 obtain⟨x1,h1⟩:∃x,DataW.trod enc Tryz.prog w 0 sp held fuel 9 ((cs.drop 1).take (Tryz.prog.cellsOf 9))=some x:=hf2 1 _ rfl;rw[c1]at h1;obtain⟨v1,r1,w1⟩:=(Br Tryz.underlying9) enc w sp held fuel _ _ h1;have c2:Tryz.prog.cellsOf 3=1:=by kernel_rfl
 obtain⟨x2,h2⟩:∃x,DataW.trod enc Tryz.prog w 0 sp held fuel 3 ((cs.drop 2).take (Tryz.prog.cellsOf 3))=some x:=hf2 2 _ rfl;rw[c2]at h2;obtain⟨v2,r2,w2⟩:=(A3 Tryz.underlying3) enc w sp held fuel _ _ h2;have hh:=AT (o:=0) (k:=1) r0 (AT (o:=1) (k:=1) r1 (AT (o:=2) (k:=1) r2 (show RDs (hOf w) w [] (cs.drop 3)from by rw[List.drop_eq_nil_of_le (by omega)];simp[RDs])));refine⟨⟨v0,v1,v2⟩,?_,w0,w1,w2⟩;simpa only[List.drop_zero,List.append_nil,List.append_assoc,List.cons_append,List.nil_append,Xd.D,CE,CD,CG,CH,CF,BS]using hh
theorem B3:BK Tryz.prog 66 X3.D X3.Wf:=by
 refine Ay (n:=4) Tryz.underlying66 (by kernel_rfl) ?_;intro H enc w sp held fuel cs hlen hf;have hf2:=fun(i:Nat) (g:Field) h=>hf g (List.mem_of_getElem? (i:=i) h);have c0:Tryz.prog.cellsOf 3=1:=by kernel_rfl
 obtain⟨x0,h0⟩:∃x,DataW.trod enc Tryz.prog w 0 sp held fuel 3 ((cs.drop 0).take (Tryz.prog.cellsOf 3))=some x:=hf2 0 _ rfl;rw[c0]at h0;obtain⟨v0,r0,w0⟩:=(A3 Tryz.underlying3) enc w sp held fuel _ _ h0;have c1:Tryz.prog.cellsOf 2=1:=by kernel_rfl
 obtain⟨x1,h1⟩:∃x,DataW.trod enc Tryz.prog w 0 sp held fuel 2 ((cs.drop 1).take (Tryz.prog.cellsOf 2))=some x:=hf2 1 _ rfl;rw[c1]at h1;obtain⟨v1,r1,w1⟩:=(A3 Tryz.underlying2) enc w sp held fuel _ _ h1;have c2:Tryz.prog.cellsOf 9=1:=by kernel_rfl
 obtain⟨x2,h2⟩:∃x,DataW.trod enc Tryz.prog w 0 sp held fuel 9 ((cs.drop 2).take (Tryz.prog.cellsOf 9))=some x:=hf2 2 _ rfl;rw[c2]at h2;obtain⟨v2,r2,w2⟩:=(Br Tryz.underlying9) enc w sp held fuel _ _ h2;have c3:Tryz.prog.cellsOf 4=1:=by kernel_rfl
 obtain⟨x3,h3⟩:∃x,DataW.trod enc Tryz.prog w 0 sp held fuel 4 ((cs.drop 3).take (Tryz.prog.cellsOf 4))=some x:=hf2 3 _ rfl;rw[c3]at h3;obtain⟨v3,r3,w3⟩:=(Dm Tryz.underlying4) enc w sp held fuel _ _ h3;have hh:=AT (o:=0) (k:=1) r0 (AT (o:=1) (k:=1) r1 (AT (o:=2) (k:=1) r2 (AT (o:=3) (k:=1) r3 (show RDs (hOf w) w [] (cs.drop 4)from by rw[List.drop_eq_nil_of_le (by omega)];simp[RDs]))));refine⟨⟨v0,v1,v2,v3⟩,?_,w0,w1,w2,w3⟩;simpa only[List.drop_zero,List.append_nil,List.append_assoc,List.cons_append,List.nil_append,X3.D,CE,CD,CG,CH,CF,BS]using hh
theorem IX:BK Tryz.prog 105 Xi.D Xi.Wf:=by
 refine Ay (n:=5) Tryz.underlying105 (by kernel_rfl) ?_;intro H enc w sp held fuel cs hlen hf;have hf2:=fun(i:Nat) (g:Field) h=>hf g (List.mem_of_getElem? (i:=i) h);have c0:Tryz.prog.cellsOf 9=1:=by kernel_rfl
 obtain⟨x0,h0⟩:∃x,DataW.trod enc Tryz.prog w 0 sp held fuel 9 ((cs.drop 0).take (Tryz.prog.cellsOf 9))=some x:=hf2 0 _ rfl;rw[c0]at h0;obtain⟨v0,r0,w0⟩:=(Br Tryz.underlying9) enc w sp held fuel _ _ h0;have c1:Tryz.prog.cellsOf 66=4:=by kernel_rfl
 obtain⟨x1,h1⟩:∃x,DataW.trod enc Tryz.prog w 0 sp held fuel 66 ((cs.drop 1).take (Tryz.prog.cellsOf 66))=some x:=hf2 1 _ rfl;rw[c1]at h1;obtain⟨v1,r1,w1⟩:=B3 enc w sp held fuel _ _ h1;have hh:=AT (o:=0) (k:=1) r0 (AT (o:=1) (k:=4) r1 (show RDs (hOf w) w [] (cs.drop 5)from by rw[List.drop_eq_nil_of_le (by omega)];simp[RDs]));refine⟨⟨v0,v1⟩,?_,w0,w1⟩;simpa only[List.drop_zero,List.append_nil,List.append_assoc,List.cons_append,List.nil_append,Xi.D,CE,CD,CG,CH,CF,BS]using hh
theorem Ia:BK Tryz.prog 76 Yc.D Yc.Wf:=by
 refine Ay (n:=3) Tryz.underlying76 (by kernel_rfl) ?_;intro H enc w sp held fuel cs hlen hf;have hf2:=fun(i:Nat) (g:Field) h=>hf g (List.mem_of_getElem? (i:=i) h);have c0:Tryz.prog.cellsOf 9=1:=by kernel_rfl
 obtain⟨x0,h0⟩:∃x,DataW.trod enc Tryz.prog w 0 sp held fuel 9 ((cs.drop 0).take (Tryz.prog.cellsOf 9))=some x:=hf2 0 _ rfl;rw[c0]at h0;obtain⟨v0,r0,w0⟩:=(Br Tryz.underlying9) enc w sp held fuel _ _ h0;have c1:Tryz.prog.cellsOf 4=1:=by kernel_rfl
 obtain⟨x1,h1⟩:∃x,DataW.trod enc Tryz.prog w 0 sp held fuel 4 ((cs.drop 1).take (Tryz.prog.cellsOf 4))=some x:=hf2 1 _ rfl;rw[c1]at h1;obtain⟨v1,r1,w1⟩:=(Dm Tryz.underlying4) enc w sp held fuel _ _ h1;have c2:Tryz.prog.cellsOf 4=1:=by kernel_rfl
 obtain⟨x2,h2⟩:∃x,DataW.trod enc Tryz.prog w 0 sp held fuel 4 ((cs.drop 2).take (Tryz.prog.cellsOf 4))=some x:=hf2 2 _ rfl;rw[c2]at h2;obtain⟨v2,r2,w2⟩:=(Dm Tryz.underlying4) enc w sp held fuel _ _ h2;have hh:=AT (o:=0) (k:=1) r0 (AT (o:=1) (k:=1) r1 (AT (o:=2) (k:=1) r2 (show RDs (hOf w) w [] (cs.drop 3)from by rw[List.drop_eq_nil_of_le (by omega)];simp[RDs])));refine⟨⟨v0,v1,v2⟩,?_,w0,w1,w2⟩;simpa only[List.drop_zero,List.append_nil,List.append_assoc,List.cons_append,List.nil_append,Yc.D,CE,CD,CG,CH,CF,BS]using hh
theorem MD:BK Tryz.prog 78 AX.D AX.Wf:=by
 refine Ay (n:=6) Tryz.underlying78 (by kernel_rfl) ?_;intro H enc w sp held fuel cs hlen hf;have hf2:=fun(i:Nat) (g:Field) h=>hf g (List.mem_of_getElem? (i:=i) h);have c0:Tryz.prog.cellsOf 3=1:=by kernel_rfl
 obtain⟨x0,h0⟩:∃x,DataW.trod enc Tryz.prog w 0 sp held fuel 3 ((cs.drop 0).take (Tryz.prog.cellsOf 3))=some x:=hf2 0 _ rfl;rw[c0]at h0;obtain⟨v0,r0,w0⟩:=(A3 Tryz.underlying3) enc w sp held fuel _ _ h0;have c1:Tryz.prog.cellsOf 3=1:=by kernel_rfl
 obtain⟨x1,h1⟩:∃x,DataW.trod enc Tryz.prog w 0 sp held fuel 3 ((cs.drop 1).take (Tryz.prog.cellsOf 3))=some x:=hf2 1 _ rfl;rw[c1]at h1;obtain⟨v1,r1,w1⟩:=(A3 Tryz.underlying3) enc w sp held fuel _ _ h1;have c2:Tryz.prog.cellsOf 66=4:=by kernel_rfl
 obtain⟨x2,h2⟩:∃x,DataW.trod enc Tryz.prog w 0 sp held fuel 66 ((cs.drop 2).take (Tryz.prog.cellsOf 66))=some x:=hf2 2 _ rfl;rw[c2]at h2;obtain⟨v2,r2,w2⟩:=B3 enc w sp held fuel _ _ h2;have hh:=AT (o:=0) (k:=1) r0 (AT (o:=1) (k:=1) r1 (AT (o:=2) (k:=4) r2 (show RDs (hOf w) w [] (cs.drop 6)from by rw[List.drop_eq_nil_of_le (by omega)];simp[RDs])));refine⟨⟨v0,v1,v2⟩,?_,w0,w1,w2⟩;simpa only[List.drop_zero,List.append_nil,List.append_assoc,List.cons_append,List.nil_append,AX.D,CE,CD,CG,CH,CF,BS]using hh
theorem Hz:BK Tryz.prog 81 X2.D X2.Wf:=by
 refine Ay (n:=2) Tryz.underlying81 (by kernel_rfl) ?_;intro H enc w sp held fuel cs hlen hf;have hf2:=fun(i:Nat) (g:Field) h=>hf g (List.mem_of_getElem? (i:=i) h);have c0:Tryz.prog.cellsOf 3=1:=by kernel_rfl
 obtain⟨x0,h0⟩:∃x,DataW.trod enc Tryz.prog w 0 sp held fuel 3 ((cs.drop 0).take (Tryz.prog.cellsOf 3))=some x:=hf2 0 _ rfl;rw[c0]at h0;obtain⟨v0,r0,w0⟩:=(A3 Tryz.underlying3) enc w sp held fuel _ _ h0;have c1:Tryz.prog.cellsOf 79=1:=by kernel_rfl
 obtain⟨x1,h1⟩:∃x,DataW.trod enc Tryz.prog w 0 sp held fuel 79 ((cs.drop 1).take (Tryz.prog.cellsOf 79))=some x:=hf2 1 _ rfl;rw[c1]at h1;obtain⟨v1,r1,w1⟩:=(BC Tryz.underlying79 (by kernel_rfl) MD) enc w sp held fuel _ _ h1;have hh:=AT (o:=0) (k:=1) r0 (AT (o:=1) (k:=1) r1 (show RDs (hOf w) w [] (cs.drop 2)from by rw[List.drop_eq_nil_of_le (by omega)];simp[RDs]));refine⟨⟨v0,v1⟩,?_,w0,w1⟩;simpa only[List.drop_zero,List.append_nil,List.append_assoc,List.cons_append,List.nil_append,X2.D,CE,CD,CG,CH,CF,BS]using hh
theorem IY:BK Tryz.prog 107 Xb.D Xb.Wf:=by
 refine Ay (n:=7) Tryz.underlying107 (by kernel_rfl) ?_;intro H enc w sp held fuel cs hlen hf;have hf2:=fun(i:Nat) (g:Field) h=>hf g (List.mem_of_getElem? (i:=i) h);have c0:Tryz.prog.cellsOf 3=1:=by kernel_rfl
 obtain⟨x0,h0⟩:∃x,DataW.trod enc Tryz.prog w 0 sp held fuel 3 ((cs.drop 0).take (Tryz.prog.cellsOf 3))=some x:=hf2 0 _ rfl;rw[c0]at h0;obtain⟨v0,r0,w0⟩:=(A3 Tryz.underlying3) enc w sp held fuel _ _ h0;have c1:Tryz.prog.cellsOf 3=1:=by kernel_rfl
 obtain⟨x1,h1⟩:∃x,DataW.trod enc Tryz.prog w 0 sp held fuel 3 ((cs.drop 1).take (Tryz.prog.cellsOf 3))=some x:=hf2 1 _ rfl;rw[c1]at h1;obtain⟨v1,r1,w1⟩:=(A3 Tryz.underlying3) enc w sp held fuel _ _ h1;have c2:Tryz.prog.cellsOf 3=1:=by kernel_rfl
 obtain⟨x2,h2⟩:∃x,DataW.trod enc Tryz.prog w 0 sp held fuel 3 ((cs.drop 2).take (Tryz.prog.cellsOf 3))=some x:=hf2 2 _ rfl;rw[c2]at h2;obtain⟨v2,r2,w2⟩:=(A3 Tryz.underlying3) enc w sp held fuel _ _ h2;have c3:Tryz.prog.cellsOf 66=4:=by kernel_rfl
 obtain⟨x3,h3⟩:∃x,DataW.trod enc Tryz.prog w 0 sp held fuel 66 ((cs.drop 3).take (Tryz.prog.cellsOf 66))=some x:=hf2 3 _ rfl;rw[c3]at h3;obtain⟨v3,r3,w3⟩:=B3 enc w sp held fuel _ _ h3;have hh:=AT (o:=0) (k:=1) r0 (AT (o:=1) (k:=1) r1 (AT (o:=2) (k:=1) r2 (AT (o:=3) (k:=4) r3 (show RDs (hOf w) w [] (cs.drop 7)from by rw[List.drop_eq_nil_of_le (by omega)];simp[RDs]))));refine⟨⟨v0,v1,v2,v3⟩,?_,w0,w1,w2,w3⟩;simpa only[List.drop_zero,List.append_nil,List.append_assoc,List.cons_append,List.nil_append,Xb.D,CE,CD,CG,CH,CF,BS]using hh
theorem Ko:BK Tryz.prog 134 A9.D A9.Wf:=by
 refine Ay (n:=2) Tryz.underlying134 (by kernel_rfl) ?_;intro H enc w sp held fuel cs hlen hf;have hf2:=fun(i:Nat) (g:Field) h=>hf g (List.mem_of_getElem? (i:=i) h);have c0:Tryz.prog.cellsOf 3=1:=by kernel_rfl
 obtain⟨x0,h0⟩:∃x,DataW.trod enc Tryz.prog w 0 sp held fuel 3 ((cs.drop 0).take (Tryz.prog.cellsOf 3))=some x:=hf2 0 _ rfl;rw[c0]at h0;obtain⟨v0,r0,w0⟩:=(A3 Tryz.underlying3) enc w sp held fuel _ _ h0;have c1:Tryz.prog.cellsOf 3=1:=by kernel_rfl
 obtain⟨x1,h1⟩:∃x,DataW.trod enc Tryz.prog w 0 sp held fuel 3 ((cs.drop 1).take (Tryz.prog.cellsOf 3))=some x:=hf2 1 _ rfl;rw[c1]at h1;obtain⟨v1,r1,w1⟩:=(A3 Tryz.underlying3) enc w sp held fuel _ _ h1;have hh:=AT (o:=0) (k:=1) r0 (AT (o:=1) (k:=1) r1 (show RDs (hOf w) w [] (cs.drop 2)from by rw[List.drop_eq_nil_of_le (by omega)];simp[RDs]));refine⟨⟨v0,v1⟩,?_,w0,w1⟩;simpa only[List.drop_zero,List.append_nil,List.append_assoc,List.cons_append,List.nil_append,A9.D,CE,CD,CG,CH,CF,BS]using hh
theorem H0:BK Tryz.prog 110 X5.D X5.Wf:=by
 refine Ay (n:=5) Tryz.underlying110 (by kernel_rfl) ?_;intro H enc w sp held fuel cs hlen hf;have hf2:=fun(i:Nat) (g:Field) h=>hf g (List.mem_of_getElem? (i:=i) h);have c0:Tryz.prog.cellsOf 3=1:=by kernel_rfl
 obtain⟨x0,h0⟩:∃x,DataW.trod enc Tryz.prog w 0 sp held fuel 3 ((cs.drop 0).take (Tryz.prog.cellsOf 3))=some x:=hf2 0 _ rfl;rw[c0]at h0;obtain⟨v0,r0,w0⟩:=(A3 Tryz.underlying3) enc w sp held fuel _ _ h0;have c1:Tryz.prog.cellsOf 3=1:=by kernel_rfl
 obtain⟨x1,h1⟩:∃x,DataW.trod enc Tryz.prog w 0 sp held fuel 3 ((cs.drop 1).take (Tryz.prog.cellsOf 3))=some x:=hf2 1 _ rfl;rw[c1]at h1;obtain⟨v1,r1,w1⟩:=(A3 Tryz.underlying3) enc w sp held fuel _ _ h1;have c2:Tryz.prog.cellsOf 3=1:=by kernel_rfl
 obtain⟨x2,h2⟩:∃x,DataW.trod enc Tryz.prog w 0 sp held fuel 3 ((cs.drop 2).take (Tryz.prog.cellsOf 3))=some x:=hf2 2 _ rfl;rw[c2]at h2;obtain⟨v2,r2,w2⟩:=(A3 Tryz.underlying3) enc w sp held fuel _ _ h2;have c3:Tryz.prog.cellsOf 3=1:=by kernel_rfl
 obtain⟨x3,h3⟩:∃x,DataW.trod enc Tryz.prog w 0 sp held fuel 3 ((cs.drop 3).take (Tryz.prog.cellsOf 3))=some x:=hf2 3 _ rfl;rw[c3]at h3;obtain⟨v3,r3,w3⟩:=(A3 Tryz.underlying3) enc w sp held fuel _ _ h3;have c4:Tryz.prog.cellsOf 108=1:=by kernel_rfl
 obtain⟨x4,h4⟩:∃x,DataW.trod enc Tryz.prog w 0 sp held fuel 108 ((cs.drop 4).take (Tryz.prog.cellsOf 108))=some x:=hf2 4 _ rfl;rw[c4]at h4;obtain⟨v4,r4,w4⟩:=(BC Tryz.underlying108 (by kernel_rfl) Ko) enc w sp held fuel _ _ h4;have hh:=AT (o:=0) (k:=1) r0 (AT (o:=1) (k:=1) r1 (AT (o:=2) (k:=1) r2 (AT (o:=3) (k:=1) r3 (AT (o:=4) (k:=1) r4 (show RDs (hOf w) w [] (cs.drop 5)from by rw[List.drop_eq_nil_of_le (by omega)];simp[RDs])))));refine⟨⟨v0,v1,v2,v3,v4⟩,?_,w0,w1,w2,w3,w4⟩;simpa only[List.drop_zero,List.append_nil,List.append_assoc,List.cons_append,List.nil_append,X5.D,CE,CD,CG,CH,CF,BS]using hh
theorem ME:BK Tryz.prog 30 AA.D AA.Wf:=by
 refine Ay (n:=9) Tryz.underlying30 (by kernel_rfl) ?_;intro H enc w sp held fuel cs hlen hf;have hf2:=fun(i:Nat) (g:Field) h=>hf g (List.mem_of_getElem? (i:=i) h);have c0:Tryz.prog.cellsOf 9=1:=by kernel_rfl
 obtain⟨x0,h0⟩:∃x,DataW.trod enc Tryz.prog w 0 sp held fuel 9 ((cs.drop 0).take (Tryz.prog.cellsOf 9))=some x:=hf2 0 _ rfl;rw[c0]at h0;obtain⟨v0,r0,w0⟩:=(Br Tryz.underlying9) enc w sp held fuel _ _ h0;have c1:Tryz.prog.cellsOf 22=1:=by kernel_rfl
 obtain⟨x1,h1⟩:∃x,DataW.trod enc Tryz.prog w 0 sp held fuel 22 ((cs.drop 1).take (Tryz.prog.cellsOf 22))=some x:=hf2 1 _ rfl;rw[c1]at h1;obtain⟨v1,r1,w1⟩:=(BC Tryz.underlying22 (by kernel_rfl) Kn) enc w sp held fuel _ _ h1;have c2:Tryz.prog.cellsOf 23=1:=by kernel_rfl
 obtain⟨x2,h2⟩:∃x,DataW.trod enc Tryz.prog w 0 sp held fuel 23 ((cs.drop 2).take (Tryz.prog.cellsOf 23))=some x:=hf2 2 _ rfl;rw[c2]at h2;obtain⟨v2,r2,w2⟩:=(BC Tryz.underlying23 (by kernel_rfl) IZ) enc w sp held fuel _ _ h2;have c3:Tryz.prog.cellsOf 24=1:=by kernel_rfl
 obtain⟨x3,h3⟩:∃x,DataW.trod enc Tryz.prog w 0 sp held fuel 24 ((cs.drop 3).take (Tryz.prog.cellsOf 24))=some x:=hf2 3 _ rfl;rw[c3]at h3;obtain⟨v3,r3,w3⟩:=(BC Tryz.underlying24 (by kernel_rfl) IX) enc w sp held fuel _ _ h3;have c4:Tryz.prog.cellsOf 25=1:=by kernel_rfl
 obtain⟨x4,h4⟩:∃x,DataW.trod enc Tryz.prog w 0 sp held fuel 25 ((cs.drop 4).take (Tryz.prog.cellsOf 25))=some x:=hf2 4 _ rfl;rw[c4]at h4;obtain⟨v4,r4,w4⟩:=(BC Tryz.underlying25 (by kernel_rfl) Ia) enc w sp held fuel _ _ h4;have c5:Tryz.prog.cellsOf 3=1:=by kernel_rfl
 obtain⟨x5,h5⟩:∃x,DataW.trod enc Tryz.prog w 0 sp held fuel 3 ((cs.drop 5).take (Tryz.prog.cellsOf 3))=some x:=hf2 5 _ rfl;rw[c5]at h5;obtain⟨v5,r5,w5⟩:=(A3 Tryz.underlying3) enc w sp held fuel _ _ h5;have c6:Tryz.prog.cellsOf 26=1:=by kernel_rfl
 obtain⟨x6,h6⟩:∃x,DataW.trod enc Tryz.prog w 0 sp held fuel 26 ((cs.drop 6).take (Tryz.prog.cellsOf 26))=some x:=hf2 6 _ rfl;rw[c6]at h6;obtain⟨v6,r6,w6⟩:=(BC Tryz.underlying26 (by kernel_rfl) Hz) enc w sp held fuel _ _ h6;have c7:Tryz.prog.cellsOf 27=1:=by kernel_rfl
 obtain⟨x7,h7⟩:∃x,DataW.trod enc Tryz.prog w 0 sp held fuel 27 ((cs.drop 7).take (Tryz.prog.cellsOf 27))=some x:=hf2 7 _ rfl;rw[c7]at h7;obtain⟨v7,r7,w7⟩:=(BC Tryz.underlying27 (by kernel_rfl) IY) enc w sp held fuel _ _ h7;have c8:Tryz.prog.cellsOf 28=1:=by kernel_rfl
 obtain⟨x8,h8⟩:∃x,DataW.trod enc Tryz.prog w 0 sp held fuel 28 ((cs.drop 8).take (Tryz.prog.cellsOf 28))=some x:=hf2 8 _ rfl;rw[c8]at h8;obtain⟨v8,r8,w8⟩:=(BC Tryz.underlying28 (by kernel_rfl) H0) enc w sp held fuel _ _ h8;have hh:=AT (o:=0) (k:=1) r0 (AT (o:=1) (k:=1) r1 (AT (o:=2) (k:=1) r2 (AT (o:=3) (k:=1) r3 (AT (o:=4) (k:=1) r4 (AT (o:=5) (k:=1) r5 (AT (o:=6) (k:=1) r6 (AT (o:=7) (k:=1) r7 (AT (o:=8) (k:=1) r8 (show RDs (hOf w) w [] (cs.drop 9)from by rw[List.drop_eq_nil_of_le (by omega)];simp[RDs])))))))));refine⟨⟨v0,v1,v2,v3,v4,v5,v6,v7,v8⟩,?_,w0,w1,w2,w3,w4,w5,w6,w7,w8⟩;simpa only[List.drop_zero,List.append_nil,List.append_assoc,List.cons_append,List.nil_append,AA.D,CE,CD,CG,CH,CF,BS]using hh
theorem Kp:BK Tryz.prog 68 X0.D X0.Wf:=by
 refine Ay (n:=5) Tryz.underlying68 (by kernel_rfl) ?_;intro H enc w sp held fuel cs hlen hf;have hf2:=fun(i:Nat) (g:Field) h=>hf g (List.mem_of_getElem? (i:=i) h);have c0:Tryz.prog.cellsOf 3=1:=by kernel_rfl
 obtain⟨x0,h0⟩:∃x,DataW.trod enc Tryz.prog w 0 sp held fuel 3 ((cs.drop 0).take (Tryz.prog.cellsOf 3))=some x:=hf2 0 _ rfl;rw[c0]at h0;obtain⟨v0,r0,w0⟩:=(A3 Tryz.underlying3) enc w sp held fuel _ _ h0;have c1:Tryz.prog.cellsOf 66=4:=by kernel_rfl
 obtain⟨x1,h1⟩:∃x,DataW.trod enc Tryz.prog w 0 sp held fuel 66 ((cs.drop 1).take (Tryz.prog.cellsOf 66))=some x:=hf2 1 _ rfl;rw[c1]at h1;obtain⟨v1,r1,w1⟩:=B3 enc w sp held fuel _ _ h1;have hh:=AT (o:=0) (k:=1) r0 (AT (o:=1) (k:=4) r1 (show RDs (hOf w) w [] (cs.drop 5)from by rw[List.drop_eq_nil_of_le (by omega)];simp[RDs]));refine⟨⟨v0,v1⟩,?_,w0,w1⟩;simpa only[List.drop_zero,List.append_nil,List.append_assoc,List.cons_append,List.nil_append,X0.D,CE,CD,CG,CH,CF,BS]using hh
theorem C8:BK Tryz.prog 47 Xg.D Xg.Wf:=by
 refine Ay (n:=3) Tryz.underlying47 (by kernel_rfl) ?_;intro H enc w sp held fuel cs hlen hf;have hf2:=fun(i:Nat) (g:Field) h=>hf g (List.mem_of_getElem? (i:=i) h);have c0:Tryz.prog.cellsOf 3=1:=by kernel_rfl
 obtain⟨x0,h0⟩:∃x,DataW.trod enc Tryz.prog w 0 sp held fuel 3 ((cs.drop 0).take (Tryz.prog.cellsOf 3))=some x:=hf2 0 _ rfl;rw[c0]at h0;obtain⟨v0,r0,w0⟩:=(A3 Tryz.underlying3) enc w sp held fuel _ _ h0;have c1:Tryz.prog.cellsOf 3=1:=by kernel_rfl
 obtain⟨x1,h1⟩:∃x,DataW.trod enc Tryz.prog w 0 sp held fuel 3 ((cs.drop 1).take (Tryz.prog.cellsOf 3))=some x:=hf2 1 _ rfl;rw[c1]at h1;obtain⟨v1,r1,w1⟩:=(A3 Tryz.underlying3) enc w sp held fuel _ _ h1;have c2:Tryz.prog.cellsOf 45=1:=by kernel_rfl
 obtain⟨x2,h2⟩:∃x,DataW.trod enc Tryz.prog w 0 sp held fuel 45 ((cs.drop 2).take (Tryz.prog.cellsOf 45))=some x:=hf2 2 _ rfl;rw[c2]at h2;obtain⟨v2,r2,w2⟩:=(BC Tryz.underlying45 (by kernel_rfl) Kp) enc w sp held fuel _ _ h2;have hh:=AT (o:=0) (k:=1) r0 (AT (o:=1) (k:=1) r1 (AT (o:=2) (k:=1) r2 (show RDs (hOf w) w [] (cs.drop 3)from by rw[List.drop_eq_nil_of_le (by omega)];simp[RDs])));refine⟨⟨v0,v1,v2⟩,?_,w0,w1,w2⟩;simpa only[List.drop_zero,List.append_nil,List.append_assoc,List.cons_append,List.nil_append,Xg.D,CE,CD,CG,CH,CF,BS]using hh
theorem IW:BK Tryz.prog 34 Xm.D Xm.Wf:=by
 refine Ay (n:=2) Tryz.underlying34 (by kernel_rfl) ?_;intro H enc w sp held fuel cs hlen hf;have hf2:=fun(i:Nat) (g:Field) h=>hf g (List.mem_of_getElem? (i:=i) h);have c0:Tryz.prog.cellsOf 9=1:=by kernel_rfl
 obtain⟨x0,h0⟩:∃x,DataW.trod enc Tryz.prog w 0 sp held fuel 9 ((cs.drop 0).take (Tryz.prog.cellsOf 9))=some x:=hf2 0 _ rfl;rw[c0]at h0;obtain⟨v0,r0,w0⟩:=(Br Tryz.underlying9) enc w sp held fuel _ _ h0;have c1:Tryz.prog.cellsOf 32=1:=by kernel_rfl
 obtain⟨x1,h1⟩:∃x,DataW.trod enc Tryz.prog w 0 sp held fuel 32 ((cs.drop 1).take (Tryz.prog.cellsOf 32))=some x:=hf2 1 _ rfl;rw[c1]at h1;obtain⟨v1,r1,w1⟩:=(BC Tryz.underlying32 (by kernel_rfl) B3) enc w sp held fuel _ _ h1;have hh:=AT (o:=0) (k:=1) r0 (AT (o:=1) (k:=1) r1 (show RDs (hOf w) w [] (cs.drop 2)from by rw[List.drop_eq_nil_of_le (by omega)];simp[RDs]));refine⟨⟨v0,v1⟩,?_,w0,w1⟩;simpa only[List.drop_zero,List.append_nil,List.append_assoc,List.cons_append,List.nil_append,Xm.D,CE,CD,CG,CH,CF,BS]using hh
theorem aE4{a0:AA}{a1:List Xg}{a2:Xm}(_:AA.Wf a0)(h1:a1.length<=9223372036854775807/\∀x∈a1,Xg.Wf x)(h2:Xm.Wf a2):Xq a0 a1 a2=some true:=
 aWw a0 a1 a2 (fun a ha=>⟨(h1.2 a ha).2.2.1,fun s hs=>aK2 ((h1.2 a ha).2.2.2 s hs).2.2.1⟩) ⟨h2.2.1,fun v hv=>aK2 (h2.2.2 v hv).2.1⟩
open Go.ChangeShapes Go.WideShapes Go.ChangeAt Go.RowKit
theorem ST{H:Type}:(Go.Proofs.YtnjgfcpccmiglaaGreatDoor.Rows.laid_proctor_schema_words:DataW H)=.agg (By.map fun c=>.lit (.string c)):=rfl
theorem Lk{W:World}(h:laidMetH Tryz.prog [("proctor/schema.words",Go.Proofs.YtnjgfcpccmiglaaGreatDoor.Rows.laid_proctor_schema_words)] W):GOk (hOf W) W:=by
 have h':laidMet Tryz.prog [("proctor/schema.words",Go.Proofs.YtnjgfcpccmiglaaGreatDoor.Rows.laid_proctor_schema_words)] W:=h;obtain⟨ps,⟨g,t,cs,fuel,p,q,e1,e2,e3,e4,_⟩,_⟩:=h';obtain rfl:(0:Nat)=g:=Option.some.inj ((show Tryz.prog.globalNamed "proctor/schema.words" =some 0 by kernel_rfl).symm.trans e1);obtain rfl:215=t:=Option.some.inj ((show(Tryz.prog.globals[0]?).map (·.type)=some 215 by kernel_rfl).symm.trans e2)
 obtain⟨xs,m,rfl,e5,e6,e7,e8⟩:=DataW.trod_array (show Tryz.prog.underlying 215=some (.array 22 9) by kernel_rfl) e4;rw[show Tryz.prog.cellsOf 9=1 by kernel_rfl]at e8;rw[show Tryz.prog.cellsOf 215=22 by kernel_rfl]at e6;rw[ST]at e5;have e9:By.map (fun c=>(.lit (.string c):DataW Unit))=xs.map (·.1):=by have:=congrArg Prod.fst e5;simpa only[DataW.agg.injEq]using this
 intro i c hc;have hi:i<22:=(List.getElem?_eq_some_iff.1 hc).1;obtain⟨x,hx,_⟩:=A8 (l:=xs) (i:=i) (by rw[e7];exact hi);have hx1:x.1=.lit (.string c):=by have h1:=congrArg (fun l:List (DataW Unit)=>l[i]?) e9;simp only[List.getElem?_map,hc,hx,Option.map_some,Option.some.injEq]at h1;exact h1.symm
 obtain⟨v,hv,hv2⟩:=A8 (l:=cs.toList) (i:=i) (by rw[e6];exact hi);have h8:=e8 i hi;rw[Nat.mul_one,hv2,List.take_succ_cons,List.take_zero,hx]at h8;have hs:v=.string ⟨⟨c⟩⟩:=by
  cases m with
  |zero=>cases h8
  |succ m=>
   unfold DataW.trod at h8
   rw[show Tryz.prog.underlying 9=some .string by kernel_rfl]at h8
   cases v<;>simp at h8
   rename_i s
   obtain⟨_,rfl⟩:=h8
   simp only[DataW.lit.injEq,Lit.string.injEq]at hx1
   rw[<-hx1]
 subst hs;have hcell:W.cell? ⟨0,i,none⟩=some (.string ⟨⟨c⟩⟩):=by rw[World.var?_cell e1 e3 i];simpa using hv
 exact⟨hcell,aK1 hcell⟩
noncomputable def Lt(os:Os):World:=
 let w0:=World.holding Tryz.prog os ⟨#[],#[],[]⟩
 {w0 with heap:=w0.heap.modify 0 fun
  | .cells _ t frozen=>.cells (By.map fun c=>Value.string ⟨⟨c⟩⟩).toArray t frozen
  |o=>o}
theorem Kd(os:Os)(args:Array Value):laidMetH Tryz.prog [("proctor/schema.words",Go.Proofs.YtnjgfcpccmiglaaGreatDoor.Rows.laid_proctor_schema_words)] ((Lt os).forCall (fun _ _=>0) ⟨#[],args,[]⟩).memory:=
 laidMetH_of_parts (laidMet_of_run' 8 (by kernel_rfl) (by kernel_rfl)) (by kernel_rfl)
theorem aQs:ownKnob Tryz.prog.godebug=none:=by kernel_rfl
set_option maxRecDepth 100000 in
theorem M0{H:Type}{enc:TypeId×Value->H}(W:World)(base:Nat)(args:Array Value)(ds gs:List (DataW H))(before:List MemPlace)
 (hval:∀(j:Nat) t v,Tryz.f3.params[j]? =some t->args[j]? =some v->Value.okWide Tryz.prog W .any base t v)
 (hW:DataW.Whole enc Tryz.prog Tryz.f3.params.toList Go.Proofs.YtnjgfcpccmiglaaGreatDoor.Rows.indexPlaysSpec.vars false W args.toList ds gs before) (hL:laidMetH Tryz.prog [("proctor/schema.words",Go.Proofs.YtnjgfcpccmiglaaGreatDoor.Rows.laid_proctor_schema_words)] W):
 Calls Tryz.prog 3 args W fun e W'=>∃v,e=.returned v/\Go.Proofs.YtnjgfcpccmiglaaGreatDoor.Rows.indexPlaysSpec.post enc Tryz.prog Tryz.f3 false true false false W args v W':=by
 refine Ly (tb:=4) (by kernel_rfl) (by kernel_rfl) (by kernel_rfl) Tryz.underlying4 (by rfl) ?_ hW ?_ (Lk hL)
 intro ds hd
 rw[Tryz.params3]at hd
 match ds,hd with
 |[d0,d1,d2],_=>rfl
 obtain⟨p,q,hA,_,_,_,_⟩:=hW
 rw[Tryz.params3]at hA hval
 have hA2:DataW.TrodAll enc Tryz.prog W 0 (fun _=>true) true [30,31,34] args.toList ds p:=hA
 obtain⟨v0,vs0,d0,ds0,p0,q0,hargs0,rfl,rfl,h0,r0⟩:=trodAll_cons hA2
 obtain⟨v1,vs1,d1,ds1,p1,q1,hargs1,rfl,rfl,h1,r1⟩:=trodAll_cons r0
 obtain⟨v2,vs2,d2,ds2,p2,q2,hargs2,rfl,rfl,h2,r2⟩:=trodAll_cons r1
 obtain⟨rfl,rfl,rfl⟩:=trodAll_nil r2
 subst hargs2
 subst hargs1
 obtain rfl:args= #[v0,v1,v2]:=by cases args;simp_all
 obtain⟨a0,ra0,wa0⟩:=JA ME h0 (fun a=>⟨_,rfl⟩) (hval 0 30 v0 rfl rfl) Tryz.underlying30
 obtain⟨a1,ra1,wa1⟩:=ZI (BC Tryz.underlying31 (by kernel_rfl) C8) h1 (fun a c=>by intro h;cases h) (hval 1 31 v1 rfl rfl) (by kernel_rfl)
 obtain⟨a2,ra2,wa2⟩:=JA IW h2 (fun a=>⟨_,rfl⟩) (hval 2 34 v2 rfl rfl) Tryz.underlying34
 refine⟨[.d (AA.D a0),.d ((D.l Xg.D) a1),.d (Xm.D a2)],?_,aWx (aE4 wa0 wa1 wa2)⟩
 simp only[RAs,RA]
 exact⟨v0,_,rfl,ra0,⟨v1,_,rfl,ra1,⟨v2,_,rfl,ra2,rfl⟩⟩⟩
set_option maxRecDepth 100000 in
theorem Ux(os:Os)(started:os.Started)(H:Type)(enc:TypeId×Value->H):
 ReturnsInHanded {} Tryz.checked os 3 .any (fun w args=>(Go.Proofs.YtnjgfcpccmiglaaGreatDoor.Rows.indexPlaysSpec.pre enc Tryz.prog Tryz.f3 Go.Proofs.YtnjgfcpccmiglaaGreatDoor.Rows.indexPlaysRow.domain false w args/\laidMetH Tryz.prog [("proctor/schema.words",Go.Proofs.YtnjgfcpccmiglaaGreatDoor.Rows.laid_proctor_schema_words)] w)/\sizedMet enc Tryz.prog Tryz.f3 (OpenSpec.ofChange Go.Proofs.YtnjgfcpccmiglaaGreatDoor.Rows.indexPlaysSpec) false w args)
  (Go.Proofs.YtnjgfcpccmiglaaGreatDoor.Rows.indexPlaysSpec.post enc Tryz.prog Tryz.f3 false true false false):=by
 refine returnsInHanded_of_change_and (C:=Tryz.checked) (X:=fun w _=>laidMetH Tryz.prog [("proctor/schema.words",Go.Proofs.YtnjgfcpccmiglaaGreatDoor.Rows.laid_proctor_schema_words)] w) (fun _ _ _ hh h=>h.of_heap hh) aQs started (by kernel_rfl) Tryz.func3
  (ChangeSpec.witness_at (enc:=enc) (C:=Tryz.checked) (os:=os) (X:=fun w _=>laidMetH Tryz.prog [("proctor/schema.words",Go.Proofs.YtnjgfcpccmiglaaGreatDoor.Rows.laid_proctor_schema_words)] w) false (Lt os) #[.agg #[.string ⟨#[]⟩,.slice none 0 0,.slice none 0 0,.slice none 0 0,.slice none 0 0,.int .i64 0,.slice none 0 0,.slice none 0 0,.slice none 0 0],.slice none 0 0,.agg #[.string ⟨#[]⟩,.slice none 0 0]] 8 rfl (by kernel_rfl) (by kernel_rfl) (by kernel_rfl) (by kernel_rfl) (by kernel_rfl) (Kd os _)) ?_
 intro W base args ds gs before hval hW _ _ hL _
 exact M0 W base args ds gs before hval hW hL
end Go.Ac
namespace Go.Proofs.YtnjgfcpccmiglaaGreatDoor
open Go.Ac
theorem IndexPlaysSaid_holds:Rows.IndexPlaysSaid:=
 OpenClaim.holds_of_wide 3 Tryz.f3 rfl rfl rfl rfl rfl rfl rfl ⟨rfl,rfl,rfl,rfl,rfl⟩ rfl rfl rfl rfl rfl (by kernel_rfl) Tryz.func3 (by kernel_rfl)
  (of_decide_eq_true (by kernel_rfl)) (by unfold Func.isWrapper;first|(rw[if_pos (by decide+kernel)];kernel_rfl)|(rw[if_neg (by decide+kernel)];exact⟨rfl,rfl⟩))
  (fun os started H enc _=>Ux os started H enc)
theorem IndexPlaysCardSaid_holds:Rows.IndexPlaysCardSaid:=
 Claim7.holds_tied_plain_at .later [] [.widerDeep] true (true, "3a3add8efe6261910aaf62e7965edc2fbca974ffef92f7f9edef7f05bdd46b5a") false
  IndexPlaysSaid_holds (fun _ h=>by cases h) (by kernel_rfl) (fun _ h=>by cases h) indexPlays_row_tie rfl ⟨rfl,rfl⟩ (by kernel_rfl) rfl
  (fun f fn hf hfn=>by
   obtain rfl:f=3:=Option.some.inj ((show Tryz.prog.funcNamed "proctor/proctorlaw25.IndexPlays" =some 3 by kernel_rfl).symm.trans hf)|>.symm;obtain rfl:fn=Tryz.f3:=(Option.some.inj (Tryz.func3.symm.trans hfn)).symm;exact⟨by kernel_rfl,fun j t ht=>by
    rw[Tryz.params3]at ht;have h3:t=30\/t=31\/t=34:=by have:=List.mem_of_getElem? (l:=[30,31,34]) (i:=j) (by simpa using ht);simpa using this
    rcases h3 with rfl|rfl|rfl
    exact(show Tryz.prog.wantsStandIn 30=false by kernel_rfl);exact(show Tryz.prog.wantsStandIn 31=false by kernel_rfl);exact(show Tryz.prog.wantsStandIn 34=false by kernel_rfl)⟩)
  (by kernel_rfl)
end Go.Proofs.YtnjgfcpccmiglaaGreatDoor
