/- Own work: the statement, joined of its parts; it holds for every input. -/
import Derived.Test.YtaacajciajkodaaGreatWa36cx3
import Derived.Test.YtaacajciajkodaaGreatP36cy
import Derived.Test.YtaacajciajkodaaGreatAcC
import Derived.Test.YtaacajciajkodaaGreatRows
set_option linter.unusedVariables false
set_option linter.unusedSimpArgs false
namespace Go.Ac
open Go.Proofs
theorem aPz{n:Int}(h:(Lit.int .i64 n).wf=true): -9223372036854775808<=n/\n<=9223372036854775807:=by simpa[Lit.wf,IntKind.min,IntKind.max,IntKind.signed,IntKind.bits]using h
def Xm.Wf(v:Xm):Prop:=(fun l=>l.length<=9223372036854775807) v.name/\(fun l=>l.length<=9223372036854775807/\∀x∈l,(fun n=>(Lit.int .i64 n).wf=true) x) v.types
def Yo.Wf(v:Yo):Prop:=True/\(fun l=>l.length<=9223372036854775807) v.name/\(fun n=>(Lit.int .i64 n).wf=true) v.type
def X0.Wf(v:X0):Prop:=(fun n=>(Lit.int .i64 n).wf=true) v.kind/\(fun n=>(Lit.int .i64 n).wf=true) v.int/\(fun l=>l.length<=9223372036854775807) v.str/\True
def Yq.Wf(v:Yq):Prop:=(fun l=>l.length<=9223372036854775807) v.name/\X0.Wf v.init_
def Xg.Wf(v:Xg):Prop:=(fun l=>l.length<=9223372036854775807) v.name/\True/\True
def B0.Wf(v:B0):Prop:=(fun n=>(Lit.int .i64 n).wf=true) v.kind/\(fun n=>(Lit.int .i64 n).wf=true) v.n/\X0.Wf v.value
def X5.Wf(v:X5):Prop:=(fun n=>(Lit.int .i64 n).wf=true) v.event/\(fun l=>l.length<=9223372036854775807/\∀x∈l,B0.Wf x) v.args
def Yw.Wf(v:Yw):Prop:=(fun n=>(Lit.int .i64 n).wf=true) v.op/\(fun n=>(Lit.int .i64 n).wf=true) v.a/\(fun n=>(Lit.int .i64 n).wf=true) v.b/\X0.Wf v.value
def Fq.Wf(v:Fq):Prop:=(fun n=>(Lit.int .i64 n).wf=true) v.free/\(fun n=>(Lit.int .i64 n).wf=true) v.expr
def Xr.Wf(v:Xr):Prop:=(fun n=>(Lit.int .i64 n).wf=true) v.from_/\(fun n=>(Lit.int .i64 n).wf=true) v.symbol/\(fun n=>(Lit.int .i64 n).wf=true) v.to/\(fun n=>(Lit.int .i64 n).wf=true) v.guard/\(fun l=>l.length<=9223372036854775807/\∀x∈l,Fq.Wf x) v.sets
def AD.Wf(v:AD):Prop:=(fun l=>l.length<=9223372036854775807) v.name/\(fun l=>l.length<=9223372036854775807/\∀x∈l,Xm.Wf x) v.decls/\(fun l=>l.length<=9223372036854775807/\∀x∈l,Yo.Wf x) v.quants/\(fun l=>l.length<=9223372036854775807/\∀x∈l,Yq.Wf x) v.frees/\(fun l=>l.length<=9223372036854775807/\∀x∈l,Xg.Wf x) v.states/\(fun n=>(Lit.int .i64 n).wf=true) v.start/\(fun l=>l.length<=9223372036854775807/\∀x∈l,X5.Wf x) v.symbols/\(fun l=>l.length<=9223372036854775807/\∀x∈l,Yw.Wf x) v.nodes/\(fun l=>l.length<=9223372036854775807/\∀x∈l,Xr.Wf x) v.trans
def X2.Wf(v:X2):Prop:=(fun n=>(Lit.int .i64 n).wf=true) v.var/\X0.Wf v.value
theorem L3:CY Tryz.prog 55 Xm.D Xm.Wf:=by
 refine BZ (n:=2) Tryz.underlying55 (by kernel_rfl) ?_;intro H enc w sp held fuel cs hlen hf;have hf2:=fun(i:Nat) (g:Field) h=>hf g (List.mem_of_getElem? (i:=i) h);have c0:Tryz.prog.cellsOf 9=1:=by kernel_rfl
 obtain⟨x0,h0⟩:∃x,DataW.trod enc Tryz.prog w 0 sp held fuel 9 ((cs.drop 0).take (Tryz.prog.cellsOf 9))=some x:=hf2 0 _ rfl;rw[c0]at h0;obtain⟨v0,r0,w0⟩:=(DV Tryz.underlying9) enc w sp held fuel _ _ h0;have c1:Tryz.prog.cellsOf 37=1:=by kernel_rfl
 obtain⟨x1,h1⟩:∃x,DataW.trod enc Tryz.prog w 0 sp held fuel 37 ((cs.drop 1).take (Tryz.prog.cellsOf 37))=some x:=hf2 1 _ rfl;rw[c1]at h1;obtain⟨v1,r1,w1⟩:=(B3 Tryz.underlying37 (by kernel_rfl) (BL Tryz.underlying3)) enc w sp held fuel _ _ h1;have hh:=AX (o:=0) (k:=1) r0 (AX (o:=1) (k:=1) r1 (show RDs (hOf w) w [] (cs.drop 2)from by rw[List.drop_eq_nil_of_le (by omega)];simp[RDs]));refine⟨⟨v0,v1⟩,?_,w0,w1⟩;simpa only[List.drop_zero,List.append_nil,List.append_assoc,List.cons_append,List.nil_append,Xm.D,D9,D8,EB,EC,EA,Cj]using hh
theorem J6:CY Tryz.prog 107 Yo.D Yo.Wf:=by
 refine BZ (n:=3) Tryz.underlying107 (by kernel_rfl) ?_;intro H enc w sp held fuel cs hlen hf;have hf2:=fun(i:Nat) (g:Field) h=>hf g (List.mem_of_getElem? (i:=i) h);have c0:Tryz.prog.cellsOf 4=1:=by kernel_rfl
 obtain⟨x0,h0⟩:∃x,DataW.trod enc Tryz.prog w 0 sp held fuel 4 ((cs.drop 0).take (Tryz.prog.cellsOf 4))=some x:=hf2 0 _ rfl;rw[c0]at h0;obtain⟨v0,r0,w0⟩:=(Fd Tryz.underlying4) enc w sp held fuel _ _ h0;have c1:Tryz.prog.cellsOf 9=1:=by kernel_rfl
 obtain⟨x1,h1⟩:∃x,DataW.trod enc Tryz.prog w 0 sp held fuel 9 ((cs.drop 1).take (Tryz.prog.cellsOf 9))=some x:=hf2 1 _ rfl;rw[c1]at h1;obtain⟨v1,r1,w1⟩:=(DV Tryz.underlying9) enc w sp held fuel _ _ h1;have c2:Tryz.prog.cellsOf 3=1:=by kernel_rfl
 obtain⟨x2,h2⟩:∃x,DataW.trod enc Tryz.prog w 0 sp held fuel 3 ((cs.drop 2).take (Tryz.prog.cellsOf 3))=some x:=hf2 2 _ rfl;rw[c2]at h2;obtain⟨v2,r2,w2⟩:=(BL Tryz.underlying3) enc w sp held fuel _ _ h2;have hh:=AX (o:=0) (k:=1) r0 (AX (o:=1) (k:=1) r1 (AX (o:=2) (k:=1) r2 (show RDs (hOf w) w [] (cs.drop 3)from by rw[List.drop_eq_nil_of_le (by omega)];simp[RDs])));refine⟨⟨v0,v1,v2⟩,?_,w0,w1,w2⟩;simpa only[List.drop_zero,List.append_nil,List.append_assoc,List.cons_append,List.nil_append,Yo.D,D9,D8,EB,EC,EA,Cj]using hh
theorem Dz:CY Tryz.prog 57 X0.D X0.Wf:=by
 refine BZ (n:=4) Tryz.underlying57 (by kernel_rfl) ?_;intro H enc w sp held fuel cs hlen hf;have hf2:=fun(i:Nat) (g:Field) h=>hf g (List.mem_of_getElem? (i:=i) h);have c0:Tryz.prog.cellsOf 3=1:=by kernel_rfl
 obtain⟨x0,h0⟩:∃x,DataW.trod enc Tryz.prog w 0 sp held fuel 3 ((cs.drop 0).take (Tryz.prog.cellsOf 3))=some x:=hf2 0 _ rfl;rw[c0]at h0;obtain⟨v0,r0,w0⟩:=(BL Tryz.underlying3) enc w sp held fuel _ _ h0;have c1:Tryz.prog.cellsOf 2=1:=by kernel_rfl
 obtain⟨x1,h1⟩:∃x,DataW.trod enc Tryz.prog w 0 sp held fuel 2 ((cs.drop 1).take (Tryz.prog.cellsOf 2))=some x:=hf2 1 _ rfl;rw[c1]at h1;obtain⟨v1,r1,w1⟩:=(BL Tryz.underlying2) enc w sp held fuel _ _ h1;have c2:Tryz.prog.cellsOf 9=1:=by kernel_rfl
 obtain⟨x2,h2⟩:∃x,DataW.trod enc Tryz.prog w 0 sp held fuel 9 ((cs.drop 2).take (Tryz.prog.cellsOf 9))=some x:=hf2 2 _ rfl;rw[c2]at h2;obtain⟨v2,r2,w2⟩:=(DV Tryz.underlying9) enc w sp held fuel _ _ h2;have c3:Tryz.prog.cellsOf 4=1:=by kernel_rfl
 obtain⟨x3,h3⟩:∃x,DataW.trod enc Tryz.prog w 0 sp held fuel 4 ((cs.drop 3).take (Tryz.prog.cellsOf 4))=some x:=hf2 3 _ rfl;rw[c3]at h3;obtain⟨v3,r3,w3⟩:=(Fd Tryz.underlying4) enc w sp held fuel _ _ h3;have hh:=AX (o:=0) (k:=1) r0 (AX (o:=1) (k:=1) r1 (AX (o:=2) (k:=1) r2 (AX (o:=3) (k:=1) r3 (show RDs (hOf w) w [] (cs.drop 4)from by rw[List.drop_eq_nil_of_le (by omega)];simp[RDs]))));refine⟨⟨v0,v1,v2,v3⟩,?_,w0,w1,w2,w3⟩;simpa only[List.drop_zero,List.append_nil,List.append_assoc,List.cons_append,List.nil_append,X0.D,D9,D8,EB,EC,EA,Cj]using hh
theorem L4:CY Tryz.prog 99 Yq.D Yq.Wf:=by
 refine BZ (n:=5) Tryz.underlying99 (by kernel_rfl) ?_;intro H enc w sp held fuel cs hlen hf;have hf2:=fun(i:Nat) (g:Field) h=>hf g (List.mem_of_getElem? (i:=i) h);have c0:Tryz.prog.cellsOf 9=1:=by kernel_rfl
 obtain⟨x0,h0⟩:∃x,DataW.trod enc Tryz.prog w 0 sp held fuel 9 ((cs.drop 0).take (Tryz.prog.cellsOf 9))=some x:=hf2 0 _ rfl;rw[c0]at h0;obtain⟨v0,r0,w0⟩:=(DV Tryz.underlying9) enc w sp held fuel _ _ h0;have c1:Tryz.prog.cellsOf 57=4:=by kernel_rfl
 obtain⟨x1,h1⟩:∃x,DataW.trod enc Tryz.prog w 0 sp held fuel 57 ((cs.drop 1).take (Tryz.prog.cellsOf 57))=some x:=hf2 1 _ rfl;rw[c1]at h1;obtain⟨v1,r1,w1⟩:=Dz enc w sp held fuel _ _ h1;have hh:=AX (o:=0) (k:=1) r0 (AX (o:=1) (k:=4) r1 (show RDs (hOf w) w [] (cs.drop 5)from by rw[List.drop_eq_nil_of_le (by omega)];simp[RDs]));refine⟨⟨v0,v1⟩,?_,w0,w1⟩;simpa only[List.drop_zero,List.append_nil,List.append_assoc,List.cons_append,List.nil_append,Yq.D,D9,D8,EB,EC,EA,Cj]using hh
theorem KU:CY Tryz.prog 61 Xg.D Xg.Wf:=by
 refine BZ (n:=3) Tryz.underlying61 (by kernel_rfl) ?_;intro H enc w sp held fuel cs hlen hf;have hf2:=fun(i:Nat) (g:Field) h=>hf g (List.mem_of_getElem? (i:=i) h);have c0:Tryz.prog.cellsOf 9=1:=by kernel_rfl
 obtain⟨x0,h0⟩:∃x,DataW.trod enc Tryz.prog w 0 sp held fuel 9 ((cs.drop 0).take (Tryz.prog.cellsOf 9))=some x:=hf2 0 _ rfl;rw[c0]at h0;obtain⟨v0,r0,w0⟩:=(DV Tryz.underlying9) enc w sp held fuel _ _ h0;have c1:Tryz.prog.cellsOf 4=1:=by kernel_rfl
 obtain⟨x1,h1⟩:∃x,DataW.trod enc Tryz.prog w 0 sp held fuel 4 ((cs.drop 1).take (Tryz.prog.cellsOf 4))=some x:=hf2 1 _ rfl;rw[c1]at h1;obtain⟨v1,r1,w1⟩:=(Fd Tryz.underlying4) enc w sp held fuel _ _ h1;have c2:Tryz.prog.cellsOf 4=1:=by kernel_rfl
 obtain⟨x2,h2⟩:∃x,DataW.trod enc Tryz.prog w 0 sp held fuel 4 ((cs.drop 2).take (Tryz.prog.cellsOf 4))=some x:=hf2 2 _ rfl;rw[c2]at h2;obtain⟨v2,r2,w2⟩:=(Fd Tryz.underlying4) enc w sp held fuel _ _ h2;have hh:=AX (o:=0) (k:=1) r0 (AX (o:=1) (k:=1) r1 (AX (o:=2) (k:=1) r2 (show RDs (hOf w) w [] (cs.drop 3)from by rw[List.drop_eq_nil_of_le (by omega)];simp[RDs])));refine⟨⟨v0,v1,v2⟩,?_,w0,w1,w2⟩;simpa only[List.drop_zero,List.append_nil,List.append_assoc,List.cons_append,List.nil_append,Xg.D,D9,D8,EB,EC,EA,Cj]using hh
theorem NJ:CY Tryz.prog 97 B0.D B0.Wf:=by
 refine BZ (n:=6) Tryz.underlying97 (by kernel_rfl) ?_;intro H enc w sp held fuel cs hlen hf;have hf2:=fun(i:Nat) (g:Field) h=>hf g (List.mem_of_getElem? (i:=i) h);have c0:Tryz.prog.cellsOf 3=1:=by kernel_rfl
 obtain⟨x0,h0⟩:∃x,DataW.trod enc Tryz.prog w 0 sp held fuel 3 ((cs.drop 0).take (Tryz.prog.cellsOf 3))=some x:=hf2 0 _ rfl;rw[c0]at h0;obtain⟨v0,r0,w0⟩:=(BL Tryz.underlying3) enc w sp held fuel _ _ h0;have c1:Tryz.prog.cellsOf 3=1:=by kernel_rfl
 obtain⟨x1,h1⟩:∃x,DataW.trod enc Tryz.prog w 0 sp held fuel 3 ((cs.drop 1).take (Tryz.prog.cellsOf 3))=some x:=hf2 1 _ rfl;rw[c1]at h1;obtain⟨v1,r1,w1⟩:=(BL Tryz.underlying3) enc w sp held fuel _ _ h1;have c2:Tryz.prog.cellsOf 57=4:=by kernel_rfl
 obtain⟨x2,h2⟩:∃x,DataW.trod enc Tryz.prog w 0 sp held fuel 57 ((cs.drop 2).take (Tryz.prog.cellsOf 57))=some x:=hf2 2 _ rfl;rw[c2]at h2;obtain⟨v2,r2,w2⟩:=Dz enc w sp held fuel _ _ h2;have hh:=AX (o:=0) (k:=1) r0 (AX (o:=1) (k:=1) r1 (AX (o:=2) (k:=4) r2 (show RDs (hOf w) w [] (cs.drop 6)from by rw[List.drop_eq_nil_of_le (by omega)];simp[RDs])));refine⟨⟨v0,v1,v2⟩,?_,w0,w1,w2⟩;simpa only[List.drop_zero,List.append_nil,List.append_assoc,List.cons_append,List.nil_append,B0.D,D9,D8,EB,EC,EA,Cj]using hh
theorem J7:CY Tryz.prog 95 X5.D X5.Wf:=by
 refine BZ (n:=2) Tryz.underlying95 (by kernel_rfl) ?_;intro H enc w sp held fuel cs hlen hf;have hf2:=fun(i:Nat) (g:Field) h=>hf g (List.mem_of_getElem? (i:=i) h);have c0:Tryz.prog.cellsOf 3=1:=by kernel_rfl
 obtain⟨x0,h0⟩:∃x,DataW.trod enc Tryz.prog w 0 sp held fuel 3 ((cs.drop 0).take (Tryz.prog.cellsOf 3))=some x:=hf2 0 _ rfl;rw[c0]at h0;obtain⟨v0,r0,w0⟩:=(BL Tryz.underlying3) enc w sp held fuel _ _ h0;have c1:Tryz.prog.cellsOf 93=1:=by kernel_rfl
 obtain⟨x1,h1⟩:∃x,DataW.trod enc Tryz.prog w 0 sp held fuel 93 ((cs.drop 1).take (Tryz.prog.cellsOf 93))=some x:=hf2 1 _ rfl;rw[c1]at h1;obtain⟨v1,r1,w1⟩:=(B3 Tryz.underlying93 (by kernel_rfl) NJ) enc w sp held fuel _ _ h1;have hh:=AX (o:=0) (k:=1) r0 (AX (o:=1) (k:=1) r1 (show RDs (hOf w) w [] (cs.drop 2)from by rw[List.drop_eq_nil_of_le (by omega)];simp[RDs]));refine⟨⟨v0,v1⟩,?_,w0,w1⟩;simpa only[List.drop_zero,List.append_nil,List.append_assoc,List.cons_append,List.nil_append,X5.D,D9,D8,EB,EC,EA,Cj]using hh
theorem KT:CY Tryz.prog 101 Yw.D Yw.Wf:=by
 refine BZ (n:=7) Tryz.underlying101 (by kernel_rfl) ?_;intro H enc w sp held fuel cs hlen hf;have hf2:=fun(i:Nat) (g:Field) h=>hf g (List.mem_of_getElem? (i:=i) h);have c0:Tryz.prog.cellsOf 3=1:=by kernel_rfl
 obtain⟨x0,h0⟩:∃x,DataW.trod enc Tryz.prog w 0 sp held fuel 3 ((cs.drop 0).take (Tryz.prog.cellsOf 3))=some x:=hf2 0 _ rfl;rw[c0]at h0;obtain⟨v0,r0,w0⟩:=(BL Tryz.underlying3) enc w sp held fuel _ _ h0;have c1:Tryz.prog.cellsOf 3=1:=by kernel_rfl
 obtain⟨x1,h1⟩:∃x,DataW.trod enc Tryz.prog w 0 sp held fuel 3 ((cs.drop 1).take (Tryz.prog.cellsOf 3))=some x:=hf2 1 _ rfl;rw[c1]at h1;obtain⟨v1,r1,w1⟩:=(BL Tryz.underlying3) enc w sp held fuel _ _ h1;have c2:Tryz.prog.cellsOf 3=1:=by kernel_rfl
 obtain⟨x2,h2⟩:∃x,DataW.trod enc Tryz.prog w 0 sp held fuel 3 ((cs.drop 2).take (Tryz.prog.cellsOf 3))=some x:=hf2 2 _ rfl;rw[c2]at h2;obtain⟨v2,r2,w2⟩:=(BL Tryz.underlying3) enc w sp held fuel _ _ h2;have c3:Tryz.prog.cellsOf 57=4:=by kernel_rfl
 obtain⟨x3,h3⟩:∃x,DataW.trod enc Tryz.prog w 0 sp held fuel 57 ((cs.drop 3).take (Tryz.prog.cellsOf 57))=some x:=hf2 3 _ rfl;rw[c3]at h3;obtain⟨v3,r3,w3⟩:=Dz enc w sp held fuel _ _ h3;have hh:=AX (o:=0) (k:=1) r0 (AX (o:=1) (k:=1) r1 (AX (o:=2) (k:=1) r2 (AX (o:=3) (k:=4) r3 (show RDs (hOf w) w [] (cs.drop 7)from by rw[List.drop_eq_nil_of_le (by omega)];simp[RDs]))));refine⟨⟨v0,v1,v2,v3⟩,?_,w0,w1,w2,w3⟩;simpa only[List.drop_zero,List.append_nil,List.append_assoc,List.cons_append,List.nil_append,Yw.D,D9,D8,EB,EC,EA,Cj]using hh
theorem L5:CY Tryz.prog 135 Fq.D Fq.Wf:=by
 refine BZ (n:=2) Tryz.underlying135 (by kernel_rfl) ?_;intro H enc w sp held fuel cs hlen hf;have hf2:=fun(i:Nat) (g:Field) h=>hf g (List.mem_of_getElem? (i:=i) h);have c0:Tryz.prog.cellsOf 3=1:=by kernel_rfl
 obtain⟨x0,h0⟩:∃x,DataW.trod enc Tryz.prog w 0 sp held fuel 3 ((cs.drop 0).take (Tryz.prog.cellsOf 3))=some x:=hf2 0 _ rfl;rw[c0]at h0;obtain⟨v0,r0,w0⟩:=(BL Tryz.underlying3) enc w sp held fuel _ _ h0;have c1:Tryz.prog.cellsOf 3=1:=by kernel_rfl
 obtain⟨x1,h1⟩:∃x,DataW.trod enc Tryz.prog w 0 sp held fuel 3 ((cs.drop 1).take (Tryz.prog.cellsOf 3))=some x:=hf2 1 _ rfl;rw[c1]at h1;obtain⟨v1,r1,w1⟩:=(BL Tryz.underlying3) enc w sp held fuel _ _ h1;have hh:=AX (o:=0) (k:=1) r0 (AX (o:=1) (k:=1) r1 (show RDs (hOf w) w [] (cs.drop 2)from by rw[List.drop_eq_nil_of_le (by omega)];simp[RDs]));refine⟨⟨v0,v1⟩,?_,w0,w1⟩;simpa only[List.drop_zero,List.append_nil,List.append_assoc,List.cons_append,List.nil_append,Fq.D,D9,D8,EB,EC,EA,Cj]using hh
theorem KV:CY Tryz.prog 92 Xr.D Xr.Wf:=by
 refine BZ (n:=5) Tryz.underlying92 (by kernel_rfl) ?_;intro H enc w sp held fuel cs hlen hf;have hf2:=fun(i:Nat) (g:Field) h=>hf g (List.mem_of_getElem? (i:=i) h);have c0:Tryz.prog.cellsOf 3=1:=by kernel_rfl
 obtain⟨x0,h0⟩:∃x,DataW.trod enc Tryz.prog w 0 sp held fuel 3 ((cs.drop 0).take (Tryz.prog.cellsOf 3))=some x:=hf2 0 _ rfl;rw[c0]at h0;obtain⟨v0,r0,w0⟩:=(BL Tryz.underlying3) enc w sp held fuel _ _ h0;have c1:Tryz.prog.cellsOf 3=1:=by kernel_rfl
 obtain⟨x1,h1⟩:∃x,DataW.trod enc Tryz.prog w 0 sp held fuel 3 ((cs.drop 1).take (Tryz.prog.cellsOf 3))=some x:=hf2 1 _ rfl;rw[c1]at h1;obtain⟨v1,r1,w1⟩:=(BL Tryz.underlying3) enc w sp held fuel _ _ h1;have c2:Tryz.prog.cellsOf 3=1:=by kernel_rfl
 obtain⟨x2,h2⟩:∃x,DataW.trod enc Tryz.prog w 0 sp held fuel 3 ((cs.drop 2).take (Tryz.prog.cellsOf 3))=some x:=hf2 2 _ rfl;rw[c2]at h2;obtain⟨v2,r2,w2⟩:=(BL Tryz.underlying3) enc w sp held fuel _ _ h2;have c3:Tryz.prog.cellsOf 3=1:=by kernel_rfl
 obtain⟨x3,h3⟩:∃x,DataW.trod enc Tryz.prog w 0 sp held fuel 3 ((cs.drop 3).take (Tryz.prog.cellsOf 3))=some x:=hf2 3 _ rfl;rw[c3]at h3;obtain⟨v3,r3,w3⟩:=(BL Tryz.underlying3) enc w sp held fuel _ _ h3;have c4:Tryz.prog.cellsOf 90=1:=by kernel_rfl
 obtain⟨x4,h4⟩:∃x,DataW.trod enc Tryz.prog w 0 sp held fuel 90 ((cs.drop 4).take (Tryz.prog.cellsOf 90))=some x:=hf2 4 _ rfl;rw[c4]at h4;obtain⟨v4,r4,w4⟩:=(B3 Tryz.underlying90 (by kernel_rfl) L5) enc w sp held fuel _ _ h4;have hh:=AX (o:=0) (k:=1) r0 (AX (o:=1) (k:=1) r1 (AX (o:=2) (k:=1) r2 (AX (o:=3) (k:=1) r3 (AX (o:=4) (k:=1) r4 (show RDs (hOf w) w [] (cs.drop 5)from by rw[List.drop_eq_nil_of_le (by omega)];simp[RDs])))));refine⟨⟨v0,v1,v2,v3,v4⟩,?_,w0,w1,w2,w3,w4⟩;simpa only[List.drop_zero,List.append_nil,List.append_assoc,List.cons_append,List.nil_append,Xr.D,D9,D8,EB,EC,EA,Cj]using hh
theorem NK:CY Tryz.prog 30 AD.D AD.Wf:=by
 refine BZ (n:=9) Tryz.underlying30 (by kernel_rfl) ?_;intro H enc w sp held fuel cs hlen hf;have hf2:=fun(i:Nat) (g:Field) h=>hf g (List.mem_of_getElem? (i:=i) h);have c0:Tryz.prog.cellsOf 9=1:=by kernel_rfl
 obtain⟨x0,h0⟩:∃x,DataW.trod enc Tryz.prog w 0 sp held fuel 9 ((cs.drop 0).take (Tryz.prog.cellsOf 9))=some x:=hf2 0 _ rfl;rw[c0]at h0;obtain⟨v0,r0,w0⟩:=(DV Tryz.underlying9) enc w sp held fuel _ _ h0;have c1:Tryz.prog.cellsOf 22=1:=by kernel_rfl
 obtain⟨x1,h1⟩:∃x,DataW.trod enc Tryz.prog w 0 sp held fuel 22 ((cs.drop 1).take (Tryz.prog.cellsOf 22))=some x:=hf2 1 _ rfl;rw[c1]at h1;obtain⟨v1,r1,w1⟩:=(B3 Tryz.underlying22 (by kernel_rfl) L3) enc w sp held fuel _ _ h1;have c2:Tryz.prog.cellsOf 23=1:=by kernel_rfl
 obtain⟨x2,h2⟩:∃x,DataW.trod enc Tryz.prog w 0 sp held fuel 23 ((cs.drop 2).take (Tryz.prog.cellsOf 23))=some x:=hf2 2 _ rfl;rw[c2]at h2;obtain⟨v2,r2,w2⟩:=(B3 Tryz.underlying23 (by kernel_rfl) J6) enc w sp held fuel _ _ h2;have c3:Tryz.prog.cellsOf 24=1:=by kernel_rfl
 obtain⟨x3,h3⟩:∃x,DataW.trod enc Tryz.prog w 0 sp held fuel 24 ((cs.drop 3).take (Tryz.prog.cellsOf 24))=some x:=hf2 3 _ rfl;rw[c3]at h3;obtain⟨v3,r3,w3⟩:=(B3 Tryz.underlying24 (by kernel_rfl) L4) enc w sp held fuel _ _ h3;have c4:Tryz.prog.cellsOf 25=1:=by kernel_rfl
 obtain⟨x4,h4⟩:∃x,DataW.trod enc Tryz.prog w 0 sp held fuel 25 ((cs.drop 4).take (Tryz.prog.cellsOf 25))=some x:=hf2 4 _ rfl;rw[c4]at h4;obtain⟨v4,r4,w4⟩:=(B3 Tryz.underlying25 (by kernel_rfl) KU) enc w sp held fuel _ _ h4;have c5:Tryz.prog.cellsOf 3=1:=by kernel_rfl
 obtain⟨x5,h5⟩:∃x,DataW.trod enc Tryz.prog w 0 sp held fuel 3 ((cs.drop 5).take (Tryz.prog.cellsOf 3))=some x:=hf2 5 _ rfl;rw[c5]at h5;obtain⟨v5,r5,w5⟩:=(BL Tryz.underlying3) enc w sp held fuel _ _ h5;have c6:Tryz.prog.cellsOf 26=1:=by kernel_rfl
 obtain⟨x6,h6⟩:∃x,DataW.trod enc Tryz.prog w 0 sp held fuel 26 ((cs.drop 6).take (Tryz.prog.cellsOf 26))=some x:=hf2 6 _ rfl;rw[c6]at h6;obtain⟨v6,r6,w6⟩:=(B3 Tryz.underlying26 (by kernel_rfl) J7) enc w sp held fuel _ _ h6;have c7:Tryz.prog.cellsOf 27=1:=by kernel_rfl
 obtain⟨x7,h7⟩:∃x,DataW.trod enc Tryz.prog w 0 sp held fuel 27 ((cs.drop 7).take (Tryz.prog.cellsOf 27))=some x:=hf2 7 _ rfl;rw[c7]at h7;obtain⟨v7,r7,w7⟩:=(B3 Tryz.underlying27 (by kernel_rfl) KT) enc w sp held fuel _ _ h7;have c8:Tryz.prog.cellsOf 28=1:=by kernel_rfl
 obtain⟨x8,h8⟩:∃x,DataW.trod enc Tryz.prog w 0 sp held fuel 28 ((cs.drop 8).take (Tryz.prog.cellsOf 28))=some x:=hf2 8 _ rfl;rw[c8]at h8;obtain⟨v8,r8,w8⟩:=(B3 Tryz.underlying28 (by kernel_rfl) KV) enc w sp held fuel _ _ h8;have hh:=AX (o:=0) (k:=1) r0 (AX (o:=1) (k:=1) r1 (AX (o:=2) (k:=1) r2 (AX (o:=3) (k:=1) r3 (AX (o:=4) (k:=1) r4 (AX (o:=5) (k:=1) r5 (AX (o:=6) (k:=1) r6 (AX (o:=7) (k:=1) r7 (AX (o:=8) (k:=1) r8 (show RDs (hOf w) w [] (cs.drop 9)from by rw[List.drop_eq_nil_of_le (by omega)];simp[RDs])))))))));refine⟨⟨v0,v1,v2,v3,v4,v5,v6,v7,v8⟩,?_,w0,w1,w2,w3,w4,w5,w6,w7,w8⟩;simpa only[List.drop_zero,List.append_nil,List.append_assoc,List.cons_append,List.nil_append,AD.D,D9,D8,EB,EC,EA,Cj]using hh
theorem L6:CY Tryz.prog 59 X2.D X2.Wf:=by
 refine BZ (n:=5) Tryz.underlying59 (by kernel_rfl) ?_;intro H enc w sp held fuel cs hlen hf;have hf2:=fun(i:Nat) (g:Field) h=>hf g (List.mem_of_getElem? (i:=i) h);have c0:Tryz.prog.cellsOf 3=1:=by kernel_rfl
 obtain⟨x0,h0⟩:∃x,DataW.trod enc Tryz.prog w 0 sp held fuel 3 ((cs.drop 0).take (Tryz.prog.cellsOf 3))=some x:=hf2 0 _ rfl;rw[c0]at h0;obtain⟨v0,r0,w0⟩:=(BL Tryz.underlying3) enc w sp held fuel _ _ h0;have c1:Tryz.prog.cellsOf 57=4:=by kernel_rfl
 obtain⟨x1,h1⟩:∃x,DataW.trod enc Tryz.prog w 0 sp held fuel 57 ((cs.drop 1).take (Tryz.prog.cellsOf 57))=some x:=hf2 1 _ rfl;rw[c1]at h1;obtain⟨v1,r1,w1⟩:=Dz enc w sp held fuel _ _ h1;have hh:=AX (o:=0) (k:=1) r0 (AX (o:=1) (k:=4) r1 (show RDs (hOf w) w [] (cs.drop 5)from by rw[List.drop_eq_nil_of_le (by omega)];simp[RDs]));refine⟨⟨v0,v1⟩,?_,w0,w1⟩;simpa only[List.drop_zero,List.append_nil,List.append_assoc,List.cons_append,List.nil_append,X2.D,D9,D8,EB,EC,EA,Cj]using hh
theorem aEq{q:AD}(h:AD.Wf q):∀t∈q.trans,MO t:=fun t ht=>
 have w:Xr.Wf t:=h.2.2.2.2.2.2.2.2.2 t ht
 ⟨aPz w.2.2.2.1,fun s hs=>aPz (w.2.2.2.2.2 s hs).2⟩
theorem aXe{n:Int}(h:(Lit.int .u32 n).wf=true):0<=n:=by
 have:0<=n/\n<=4294967295:=by simpa[Lit.wf,IntKind.min,IntKind.max,IntKind.signed,IntKind.bits]using h
 exact this.1
theorem aKw{a0:AD}{a1:List X2}{a2:Int}(h0:AD.Wf a0)(h1:a1.length<=9223372036854775807/\∀x∈a1,X2.Wf x)(h2:(Lit.int .u32 a2).wf=true):Ya a0 a1 a2=some true:=aZ4 a0 a1 a2 (aEq h0) h1.1 (aXe h2)
open Go.ChangeShapes Go.WideShapes Go.ChangeAt Go.RowKit
theorem aVl:ownKnob Tryz.prog.godebug=none:=by kernel_rfl
set_option maxRecDepth 100000 in
theorem Oq{H:Type}{enc:TypeId×Value->H}(W:World)(base:Nat)(args:Array Value)(ds gs:List (DataW H))(before:List MemPlace)
 (hval:∀(j:Nat) t v,Tryz.f3.params[j]? =some t->args[j]? =some v->Value.okWide Tryz.prog W .any base t v)
 (hW:DataW.Whole enc Tryz.prog Tryz.f3.params.toList Go.Proofs.YtaacajciajkodaaGreat.Rows.minimalClassesSpec.vars false W args.toList ds gs before):
 Calls Tryz.prog 3 args W fun e W'=>∃v,e=.returned v/\Go.Proofs.YtaacajciajkodaaGreat.Rows.minimalClassesSpec.post enc Tryz.prog Tryz.f3 false true false false W args v W':=by
 refine M2 (tb:=4) (by kernel_rfl) (by kernel_rfl) (by kernel_rfl) Tryz.underlying4 (by rfl) ?_ hW ?_
 intro ds hd
 rw[Tryz.params3]at hd
 match ds,hd with
 |[d0,d1,d2],_=>rfl
 obtain⟨p,q,hA,_,_,_,_⟩:=hW
 rw[Tryz.params3]at hA hval
 have hA2:DataW.TrodAll enc Tryz.prog W 0 (fun _=>true) true [30,31,32] args.toList ds p:=hA
 obtain⟨v0,vs0,d0,ds0,p0,q0,hargs0,rfl,rfl,h0,r0⟩:=trodAll_cons hA2
 obtain⟨v1,vs1,d1,ds1,p1,q1,hargs1,rfl,rfl,h1,r1⟩:=trodAll_cons r0
 obtain⟨v2,vs2,d2,ds2,p2,q2,hargs2,rfl,rfl,h2,r2⟩:=trodAll_cons r1
 obtain⟨rfl,rfl,rfl⟩:=trodAll_nil r2
 subst hargs2
 subst hargs1
 obtain rfl:args= #[v0,v1,v2]:=by cases args;simp_all
 obtain⟨a0,ra0,wa0⟩:=TU NK h0 (fun a=>⟨_,rfl⟩) (hval 0 30 v0 rfl rfl) Tryz.underlying30
 obtain⟨a1,ra1,wa1⟩:=Mc (B3 Tryz.underlying31 (by kernel_rfl) L6) h1 (fun a c=>by intro h;cases h) (hval 1 31 v1 rfl rfl) (by kernel_rfl)
 obtain⟨a2,ra2,wa2⟩:=Mc (BL Tryz.underlying32) h2 (fun a c=>by intro h;cases h) (hval 2 32 v2 rfl rfl) (by kernel_rfl)
 refine⟨[.d (AD.D a0),.d ((D.l X2.D) a1),.d ((D.i .u32) a2)],?_,aZ5 (aKw wa0 wa1 wa2)⟩
 simp only[RAs,RA]
 exact⟨v0,_,rfl,ra0,⟨v1,_,rfl,ra1,⟨v2,_,rfl,ra2,rfl⟩⟩⟩
set_option maxRecDepth 100000 in
theorem YH(os:Os)(started:os.Started)(H:Type)(enc:TypeId×Value->H):
 ReturnsInHanded {} Tryz.checked os 3 .any (Go.Proofs.YtaacajciajkodaaGreat.Rows.minimalClassesSpec.pre6 enc Tryz.prog Tryz.f3 Go.Proofs.YtaacajciajkodaaGreat.Rows.minimalClassesRow.domain false) (Go.Proofs.YtaacajciajkodaaGreat.Rows.minimalClassesSpec.post enc Tryz.prog Tryz.f3 false true false false):=by
 refine returnsInHanded_of_change (C:=Tryz.checked) aVl started (by kernel_rfl) Tryz.func3
  (ChangeSpec.witness6 (enc:=enc) (C:=Tryz.checked) false ⟨#[],#[.agg #[.string ⟨#[]⟩,.slice none 0 0,.slice none 0 0,.slice none 0 0,.slice none 0 0,.int .i64 0,.slice none 0 0,.slice none 0 0,.slice none 0 0],.slice none 0 0,.int .u32 0],[]⟩ 8 (by kernel_rfl) (by kernel_rfl) (by kernel_rfl) (by kernel_rfl)) ?_
 intro W base args ds gs before hval hW _ _
 exact Oq W base args ds gs before hval hW
end Go.Ac
namespace Go.Proofs.YtaacajciajkodaaGreat
open Go.Ac
theorem MinimalClassesSaid_holds:Rows.MinimalClassesSaid:=
 OpenClaim.holds_of_wide 3 Tryz.f3 rfl rfl rfl rfl rfl rfl rfl ⟨rfl,rfl,rfl,rfl,rfl⟩ rfl rfl rfl rfl rfl (by kernel_rfl) Tryz.func3 (by kernel_rfl)
  (of_decide_eq_true (by kernel_rfl)) (by unfold Func.isWrapper;first|(rw[if_pos (by decide+kernel)];kernel_rfl)|(rw[if_neg (by decide+kernel)];exact⟨rfl,rfl⟩))
  (fun os started H enc _=>YH os started H enc)
end Go.Proofs.YtaacajciajkodaaGreat
