/- Own work: the statement, joined of its parts; it holds for every input. -/
import Derived.Test.YthabonnegobedaaWa24px2
import Derived.Test.YthabonnegobedaaP24p
import Derived.Test.YthabonnegobedaaAcC
import Derived.Test.YthabonnegobedaaRows
set_option linter.unusedVariables false
set_option linter.unusedSimpArgs false
namespace Go.Ac
open Go.Proofs
theorem XH{n:Int}(h:(Lit.int .i64 n).wf=true): -9223372036854775808<=n/\n<=9223372036854775807:=by simpa[Lit.wf,IntKind.min,IntKind.max,IntKind.signed,IntKind.bits]using h
def X5.Wf(v:X5):Prop:=(fun n=>(Lit.int .i64 n).wf=true) v.kind/\(fun n=>(Lit.int .i64 n).wf=true) v.int/\(fun l=>l.length<=9223372036854775807) v.str/\True
def X0.Wf(v:X0):Prop:=(fun n=>(Lit.int .i64 n).wf=true) v.var/\X5.Wf v.value
def Xf.Wf(v:Xf):Prop:=(fun n=>(Lit.int .i64 n).wf=true) v.kind/\(fun n=>(Lit.int .i64 n).wf=true) v.iD/\(fun l=>l.length<=9223372036854775807/\∀x∈l,X0.Wf x) v.bind/\(fun n=>(Lit.int .i64 n).wf=true) v.state
theorem F9:CH Try.prog 64 X5.D X5.Wf:=by
 refine Cs (n:=4) Try.underlying64 (by kernel_rfl) ?_;intro H enc w sp held fuel cs hlen hf;have hf2:=fun(i:Nat) (g:Field) h=>hf g (List.mem_of_getElem? (i:=i) h);have c0:Try.prog.cellsOf 3=1:=by kernel_rfl
 obtain⟨x0,h0⟩:∃x,DataW.trod enc Try.prog w 0 sp held fuel 3 ((cs.drop 0).take (Try.prog.cellsOf 3))=some x:=hf2 0 _ rfl;rw[c0]at h0;obtain⟨v0,r0,w0⟩:=(B5 Try.underlying3) enc w sp held fuel _ _ h0;have c1:Try.prog.cellsOf 2=1:=by kernel_rfl
 obtain⟨x1,h1⟩:∃x,DataW.trod enc Try.prog w 0 sp held fuel 2 ((cs.drop 1).take (Try.prog.cellsOf 2))=some x:=hf2 1 _ rfl;rw[c1]at h1;obtain⟨v1,r1,w1⟩:=(B5 Try.underlying2) enc w sp held fuel _ _ h1;have c2:Try.prog.cellsOf 9=1:=by kernel_rfl
 obtain⟨x2,h2⟩:∃x,DataW.trod enc Try.prog w 0 sp held fuel 9 ((cs.drop 2).take (Try.prog.cellsOf 9))=some x:=hf2 2 _ rfl;rw[c2]at h2;obtain⟨v2,r2,w2⟩:=(Ie Try.underlying9) enc w sp held fuel _ _ h2;have c3:Try.prog.cellsOf 4=1:=by kernel_rfl
 obtain⟨x3,h3⟩:∃x,DataW.trod enc Try.prog w 0 sp held fuel 4 ((cs.drop 3).take (Try.prog.cellsOf 4))=some x:=hf2 3 _ rfl;rw[c3]at h3;obtain⟨v3,r3,w3⟩:=(Lt Try.underlying4) enc w sp held fuel _ _ h3;have hh:=Bb (o:=0) (k:=1) r0 (Bb (o:=1) (k:=1) r1 (Bb (o:=2) (k:=1) r2 (Bb (o:=3) (k:=1) r3 (show RDs (hOf w) w [] (cs.drop 4)from by rw[List.drop_eq_nil_of_le (by omega)];simp[RDs]))));refine⟨⟨v0,v1,v2,v3⟩,?_,w0,w1,w2,w3⟩;simpa only[List.drop_zero,List.append_nil,List.append_assoc,List.cons_append,List.nil_append,X5.D,Ja,JZ,Jc,Je,Jb,FM]using hh
theorem Hg:CH Try.prog 66 X0.D X0.Wf:=by
 refine Cs (n:=5) Try.underlying66 (by kernel_rfl) ?_;intro H enc w sp held fuel cs hlen hf;have hf2:=fun(i:Nat) (g:Field) h=>hf g (List.mem_of_getElem? (i:=i) h);have c0:Try.prog.cellsOf 3=1:=by kernel_rfl
 obtain⟨x0,h0⟩:∃x,DataW.trod enc Try.prog w 0 sp held fuel 3 ((cs.drop 0).take (Try.prog.cellsOf 3))=some x:=hf2 0 _ rfl;rw[c0]at h0;obtain⟨v0,r0,w0⟩:=(B5 Try.underlying3) enc w sp held fuel _ _ h0;have c1:Try.prog.cellsOf 64=4:=by kernel_rfl
 obtain⟨x1,h1⟩:∃x,DataW.trod enc Try.prog w 0 sp held fuel 64 ((cs.drop 1).take (Try.prog.cellsOf 64))=some x:=hf2 1 _ rfl;rw[c1]at h1;obtain⟨v1,r1,w1⟩:=F9 enc w sp held fuel _ _ h1;have hh:=Bb (o:=0) (k:=1) r0 (Bb (o:=1) (k:=4) r1 (show RDs (hOf w) w [] (cs.drop 5)from by rw[List.drop_eq_nil_of_le (by omega)];simp[RDs]));refine⟨⟨v0,v1⟩,?_,w0,w1⟩;simpa only[List.drop_zero,List.append_nil,List.append_assoc,List.cons_append,List.nil_append,X0.D,Ja,JZ,Jc,Je,Jb,FM]using hh
theorem CN:CH Try.prog 35 Xf.D Xf.Wf:=by
 refine Cs (n:=4) Try.underlying35 (by kernel_rfl) ?_;intro H enc w sp held fuel cs hlen hf;have hf2:=fun(i:Nat) (g:Field) h=>hf g (List.mem_of_getElem? (i:=i) h);have c0:Try.prog.cellsOf 3=1:=by kernel_rfl
 obtain⟨x0,h0⟩:∃x,DataW.trod enc Try.prog w 0 sp held fuel 3 ((cs.drop 0).take (Try.prog.cellsOf 3))=some x:=hf2 0 _ rfl;rw[c0]at h0;obtain⟨v0,r0,w0⟩:=(B5 Try.underlying3) enc w sp held fuel _ _ h0;have c1:Try.prog.cellsOf 3=1:=by kernel_rfl
 obtain⟨x1,h1⟩:∃x,DataW.trod enc Try.prog w 0 sp held fuel 3 ((cs.drop 1).take (Try.prog.cellsOf 3))=some x:=hf2 1 _ rfl;rw[c1]at h1;obtain⟨v1,r1,w1⟩:=(B5 Try.underlying3) enc w sp held fuel _ _ h1;have c2:Try.prog.cellsOf 33=1:=by kernel_rfl
 obtain⟨x2,h2⟩:∃x,DataW.trod enc Try.prog w 0 sp held fuel 33 ((cs.drop 2).take (Try.prog.cellsOf 33))=some x:=hf2 2 _ rfl;rw[c2]at h2;obtain⟨v2,r2,w2⟩:=(Fo Try.underlying33 (by kernel_rfl) Hg) enc w sp held fuel _ _ h2;have c3:Try.prog.cellsOf 3=1:=by kernel_rfl
 obtain⟨x3,h3⟩:∃x,DataW.trod enc Try.prog w 0 sp held fuel 3 ((cs.drop 3).take (Try.prog.cellsOf 3))=some x:=hf2 3 _ rfl;rw[c3]at h3;obtain⟨v3,r3,w3⟩:=(B5 Try.underlying3) enc w sp held fuel _ _ h3;have hh:=Bb (o:=0) (k:=1) r0 (Bb (o:=1) (k:=1) r1 (Bb (o:=2) (k:=1) r2 (Bb (o:=3) (k:=1) r3 (show RDs (hOf w) w [] (cs.drop 4)from by rw[List.drop_eq_nil_of_le (by omega)];simp[RDs]))));refine⟨⟨v0,v1,v2,v3⟩,?_,w0,w1,w2,w3⟩;simpa only[List.drop_zero,List.append_nil,List.append_assoc,List.cons_append,List.nil_append,Xf.D,Ja,JZ,Jc,Je,Jb,FM]using hh
theorem R4{a0:Int}{a1:List Xf}(_:(Lit.int .i64 a0).wf=true)(h1:a1.length<=9223372036854775807/\∀x∈a1,Xf.Wf x):Xi a0 a1=some true:=
 ZD a0 a1 h1.1 fun a ha=>⟨(h1.2 a ha).2.2.1.1,fun s hs=>XH ((h1.2 a ha).2.2.1.2 s hs).2.2.1⟩
open Go.ChangeShapes Go.WideShapes Go.ChangeAt Go.RowKit
theorem Wo:ownKnob Try.prog.godebug=none:=by kernel_rfl
set_option maxRecDepth 100000 in
theorem JC{H:Type}{enc:TypeId×Value->H}(W:World)(base:Nat)(args:Array Value)(ds gs:List (DataW H))(before:List MemPlace)
 (hval:∀(j:Nat) t v,Try.f3.params[j]? =some t->args[j]? =some v->Value.okWide Try.prog W .any base t v)
 (hW:DataW.Whole enc Try.prog Try.f3.params.toList Go.Proofs.Ythabonnegobedaa.Rows.tablePlaysSpec.vars false W args.toList ds gs before):
 Calls Try.prog 3 args W fun e W'=>∃v,e=.returned v/\Go.Proofs.Ythabonnegobedaa.Rows.tablePlaysSpec.post enc Try.prog Try.f3 false true false false W args v W':=by
 refine IR (tb:=4) (by kernel_rfl) (by kernel_rfl) (by kernel_rfl) Try.underlying4 (by rfl) ?_ hW ?_
 intro ds hd
 rw[Try.params3]at hd
 match ds,hd with
 |[d0,d1],_=>rfl
 obtain⟨p,q,hA,_,_,_,_⟩:=hW
 rw[Try.params3]at hA hval
 have hA2:DataW.TrodAll enc Try.prog W 0 (fun _=>true) true [3,22] args.toList ds p:=hA
 obtain⟨v0,vs0,d0,ds0,p0,q0,hargs0,rfl,rfl,h0,r0⟩:=trodAll_cons hA2
 obtain⟨v1,vs1,d1,ds1,p1,q1,hargs1,rfl,rfl,h1,r1⟩:=trodAll_cons r0
 obtain⟨rfl,rfl,rfl⟩:=trodAll_nil r1
 subst hargs1
 obtain rfl:args= #[v0,v1]:=by cases args;simp_all
 obtain⟨a0,ra0,wa0⟩:=H3 (B5 Try.underlying3) h0 (fun a c=>by intro h;cases h) (hval 0 3 v0 rfl rfl) (by kernel_rfl)
 obtain⟨a1,ra1,wa1⟩:=H3 (Fo Try.underlying22 (by kernel_rfl) CN) h1 (fun a c=>by intro h;cases h) (hval 1 22 v1 rfl rfl) (by kernel_rfl)
 refine⟨[.d ((D.i .i64) a0),.d ((D.l Xf.D) a1)],?_,ZE (R4 wa0 wa1)⟩
 simp only[RAs,RA]
 exact⟨v0,_,rfl,ra0,⟨v1,_,rfl,ra1,rfl⟩⟩
set_option maxRecDepth 100000 in
theorem Ng(os:Os)(started:os.Started)(H:Type)(enc:TypeId×Value->H):
 ReturnsInHanded {} Try.checked os 3 .any (Go.Proofs.Ythabonnegobedaa.Rows.tablePlaysSpec.pre6 enc Try.prog Try.f3 Go.Proofs.Ythabonnegobedaa.Rows.tablePlaysRow.domain false) (Go.Proofs.Ythabonnegobedaa.Rows.tablePlaysSpec.post enc Try.prog Try.f3 false true false false):=by
 refine returnsInHanded_of_change (C:=Try.checked) Wo started (by kernel_rfl) Try.func3
  (ChangeSpec.witness6 (enc:=enc) (C:=Try.checked) false ⟨#[],#[.int .i64 0,.slice none 0 0],[]⟩ 8 (by kernel_rfl) (by kernel_rfl) (by kernel_rfl) (by kernel_rfl)) ?_
 intro W base args ds gs before hval hW _ _
 exact JC W base args ds gs before hval hW
end Go.Ac
namespace Go.Proofs.Ythabonnegobedaa
open Go.Ac
theorem TablePlaysSaid_holds:Rows.TablePlaysSaid:=
 OpenClaim.holds_of_wide 3 Try.f3 rfl rfl rfl rfl rfl rfl rfl ⟨rfl,rfl,rfl,rfl,rfl⟩ rfl rfl rfl rfl rfl (by kernel_rfl) Try.func3 (by kernel_rfl)
  (of_decide_eq_true (by kernel_rfl)) (by unfold Func.isWrapper;first|(rw[if_pos (by decide+kernel)];kernel_rfl)|(rw[if_neg (by decide+kernel)];exact⟨rfl,rfl⟩))
  (fun os started H enc _=>Ng os started H enc)
end Go.Proofs.Ythabonnegobedaa
