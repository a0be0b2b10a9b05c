/- Own work: how calls of the model run over plain data. -/
import Derived.Test.YtnjgfcpccmiglaaGreatDoorAcC
import Derived.Shelf.Spec.SlicesGrow
import Derived.Shelf.Strings.FuncGrows
import Derived.Shelf.SlicesE.Compact
import Derived.Lib.OwnBridge
import Derived.Shelf.Slices.In.SortNone
import Derived.Sort.Grow
import Derived.ProofKit
import Derived.OpenShut
import Derived.JoinedCond
import Derived.Carry
set_option linter.unusedVariables false
set_option linter.unusedSimpArgs false
namespace Go.Ac
open Go.MapKept
structure MP(K V:Type) where
 clk:Nat
 es:List (Nat×K×V)
section
variable {K V:Type}
def MP.dl(fk:K->D)(fv:V->D)(m:MP K V):List (Nat×D×D):=m.es.map fun x=>(x.1,fk x.2.1,fv x.2.2)
def Ce:MP K V:=⟨0,[]⟩
structure Ja(P:Program)(kt:TypeId)(fk:K->D):Prop where
 ok:∀a,KOk P kt (fk a)
 inj:∀a b,fk a=fk b->a=b
variable {P:Program} {kt:TypeId} {fk:K->D} {fv:V->D}
abbrev dl(fk:K->D)(fv:V->D)(l:List (Nat×K×V)):List (Nat×D×D):=l.map fun x=>(x.1,fk x.2.1,fv x.2.2)
theorem aN3(T:Ja P kt fk)(l:List (Nat×K×V)):∀x∈dl fk fv l,KOk P kt x.2.1:=fun x hx=>by obtain⟨y,_,rfl⟩:=mm.1 hx;exact T.ok _
theorem aOe(fk:K->D)(fv:V->D)(m:MP K V)(h:(m.es.length:Int)<=4611686018427387904):aZ9 (MP.dl fk fv m) (m.es.length:Int):=⟨by simp[MP.dl],h⟩
variable [DecidableEq K]
def He(z:V)(k:K):List (Nat×K×V)->V×Bool
 |[]=>(z,false)
 |x::xs=>if x.2.1=k then(x.2.2,true)else He z k xs
def IV(clk:Nat)(k:K)(v:V):List (Nat×K×V)->Nat×List (Nat×K×V)
 |[]=>(clk+1,[(clk,k,v)])
 |x::xs=>if x.2.1=k then(clk,(x.1,x.2.1,v)::xs)else((IV clk k v xs).1,x::(IV clk k v xs).2)
def SP(k:K):List (Nat×K×V)->List (Nat×K×V)
 |[]=> []
 |x::xs=>if x.2.1=k then xs else x::SP k xs
def A5(z:V)(m:MP K V)(k:K):V×Bool:=He z k m.es
def CJ(m:MP K V)(k:K)(v:V):MP K V:=⟨(IV m.clk k v m.es).1,(IV m.clk k v m.es).2⟩
def Dp(m:MP K V)(k:K):MP K V:=⟨m.clk,SP k m.es⟩
theorem aAq(T:Ja P kt fk)(z:V)(k:K):∀l:List (Nat×K×V),((He z k l).2=true/\∃(pre:List (Nat×D×D)) (s:Nat) (post:List (Nat×D×D)),dl fk fv l=pre++(s,fk k,fv (He z k l).1)::post/\∀x∈pre,x.2.1≠fk k)\/((He z k l).2=false/\fv (He z k l).1=fv z/\∀x∈dl fk fv l,x.2.1≠fk k)
 |[]=>.inr ⟨rfl,rfl,by simp⟩
 |x::xs=>by
  rw[He];split;rename_i h;exact .inl ⟨rfl,[],x.1,dl fk fv xs,by rw[<-h];rfl,by simp⟩;rename_i h;have hne:fk x.2.1≠fk k:=fun e=>h (T.inj _ _ e);rcases aAq T z k xs with⟨h1,pre,s,post,h2,h3⟩|⟨h1,h2,h3⟩
  refine .inl ⟨h1,(x.1,fk x.2.1,fv x.2.2)::pre,s,post,by rw[List.cons_append,<-h2];rfl,fun y hy=>?_⟩;rcases mc.1 hy with rfl|hy
  exact hne;exact h3 y hy;refine .inr ⟨h1,h2,fun y hy=>?_⟩;rcases mc.1 hy with rfl|hy
  exact hne;exact h3 y hy
theorem aBj(T:Ja P kt fk)(fv:V->D)(z:V)(m:MP K V)(k:K):aUb P kt (fv z) (MP.dl fk fv m) (fk k) (fv (A5 z m k).1) (A5 z m k).2:=⟨aN3 T m.es,T.ok k,aAq T z k m.es⟩
theorem aBx(T:Ja P kt fk)(clk:Nat)(k:K)(v:V):∀l:List (Nat×K×V),((IV clk k v l).1=clk/\∃(pre:List (Nat×D×D)) (s:Nat) (v0:D) (post:List (Nat×D×D)),dl fk fv l=pre++(s,fk k,v0)::post/\(∀x∈pre,x.2.1≠fk k)/\dl fk fv (IV clk k v l).2=pre++(s,fk k,fv v)::post)\/((IV clk k v l).1=clk+1/\dl fk fv (IV clk k v l).2=dl fk fv l++[(clk,fk k,fv v)]/\∀x∈dl fk fv l,x.2.1≠fk k)
 |[]=>.inr ⟨rfl,rfl,by simp⟩
 |x::xs=>by
  rw[IV];split;rename_i h;exact .inl ⟨rfl,[],x.1,fv x.2.2,dl fk fv xs,by rw[<-h];rfl,by simp,by rw[<-h];rfl⟩;rename_i h;have hne:fk x.2.1≠fk k:=fun e=>h (T.inj _ _ e);rcases aBx T clk k v xs with⟨h1,pre,s,v0,post,h2,h3,h4⟩|⟨h1,h2,h3⟩
  refine .inl ⟨h1,(x.1,fk x.2.1,fv x.2.2)::pre,s,v0,post,by rw[List.cons_append,<-h2];rfl,fun y hy=>?_,by rw[List.cons_append,<-h4];rfl⟩;rcases mc.1 hy with rfl|hy
  exact hne;exact h3 y hy;refine .inr ⟨h1,?_,fun y hy=>?_⟩;show(x.1,fk x.2.1,fv x.2.2)::dl fk fv (IV clk k v xs).2=_;rw[h2];rfl;rcases mc.1 hy with rfl|hy
  exact hne;exact h3 y hy
theorem aOg(T:Ja P kt fk)(fv:V->D)(m:MP K V)(k:K)(v:V):aPi P kt (MP.dl fk fv m) (fk k) (fv v) m.clk (MP.dl fk fv (CJ m k v)) (CJ m k v).clk:=⟨aN3 T m.es,T.ok k,aBx T m.clk k v m.es⟩
theorem aAi(T:Ja P kt fk)(k:K):∀l:List (Nat×K×V),(∃(pre:List (Nat×D×D)) (s:Nat) (v0:D) (post:List (Nat×D×D)),dl fk fv l=pre++(s,fk k,v0)::post/\(∀x∈pre,x.2.1≠fk k)/\dl fk fv (SP k l)=pre++post)\/(dl fk fv (SP k l)=dl fk fv l/\∀x∈dl fk fv l,x.2.1≠fk k)
 |[]=>.inr ⟨rfl,by simp⟩
 |x::xs=>by
  rw[SP];split;rename_i h;exact .inl ⟨[],x.1,fv x.2.2,dl fk fv xs,by rw[<-h];rfl,by simp,rfl⟩;rename_i h;have hne:fk x.2.1≠fk k:=fun e=>h (T.inj _ _ e);rcases aAi T k xs with⟨pre,s,v0,post,h2,h3,h4⟩|⟨h2,h3⟩
  refine .inl ⟨(x.1,fk x.2.1,fv x.2.2)::pre,s,v0,post,by rw[List.cons_append,<-h2];rfl,fun y hy=>?_,by rw[List.cons_append,<-h4];rfl⟩;rcases mc.1 hy with rfl|hy
  exact hne;exact h3 y hy;refine .inr ⟨?_,fun y hy=>?_⟩;show(x.1,fk x.2.1,fv x.2.2)::dl fk fv (SP k xs)=_;rw[h2];rfl;rcases mc.1 hy with rfl|hy
  exact hne;exact h3 y hy
theorem aOd(T:Ja P kt fk)(fv:V->D)(m:MP K V)(k:K):aUa P kt (MP.dl fk fv m) (fk k) (MP.dl fk fv (Dp m k)):=⟨aN3 T m.es,T.ok k,aAi T k m.es⟩
end
theorem aT4{P:Program}{kt:TypeId}{k:IntKind}(hu:P.underlying kt=some (.int k)):Ja P kt (D.i k):=⟨fun a=>⟨.int k a,rfl,.inl ⟨.int k,hu,rfl⟩⟩,fun a b e=>by simpa[D.i]using e⟩
theorem S1{P:Program}{kt:TypeId}(hu:P.underlying kt=some .string):Ja P kt D.s:=⟨fun a=>⟨.string ⟨⟨a⟩⟩,rfl,.inl ⟨.string,hu,trivial⟩⟩,fun a b e=>by simpa[D.s]using e⟩
end Go.Ac
namespace Go.Ac
theorem Wk.bagw{s:St}{n:Nat}{e:TypeId}{k:Nat}{xs ys:List D}(hl:lk s.B n=some (.rw e k xs))(hp:xs.Perm ys):Wk s {s with B:=BG s.B n (.bag e k ys)}:=
 Wk.redesc hl rfl fun _ _ _ _ _ hr=>by obtain⟨us,a,b,c⟩:=hr;exact⟨xs,us,hp,a,b,c⟩
def ACN(P:Program)(rd:Option Nat)(ops:Array Oper)(rest:Code)(s:St)(Ψ:Ex->St->Prop):Prop:=
 ∀h w val a,Holds s h w val a->∀Q:Exit->Act->World->Prop,
  (∀e s' h' w' val' a',Ψ e s'->Holds s' h' w' val' a'->Nx s h w val s' h' w' val'->Q e.toExit a' w')->wpOpsIn (fc rd) 0 P ops (Exit.then (rest.wpIn (fc rd) 0 P Q) Q) (List.range' 1 (ops.size-1)) a w
theorem ACN.run{P:Program}{rd:Option Nat}{ops:Array Oper}{rest:Code}{s s1:St}{ws:List (Nat×W)}{Φ:Ob}{L:Lp}{Ψ:Ex->St->Prop}(h1:aIl P ops ws (ops.toList.drop 1) s=some (Φ,s1))(hΦ:Φ.ok P L)(h2:AC P rd rest s1 Ψ):ACN P rd ops rest s Ψ:=by
 intro h w val a H Q hQ;have hlen:(ops.toList.drop 1).length=ops.size-1:=by simp
 rw[<-hlen];refine KH (ops.toList.drop 1) 1 s s1 Φ (fun j=>by simp[List.getElem?_drop,Nat.add_comm]) h1 hΦ h w val a H fun h' w' val' a' H' n'=>?_;exact h2 h' w' val' a' H' Q fun e s2 h2 w2 v2 a2 hΨ H2 n2=>hQ e s2 h2 w2 v2 a2 hΨ H2 (n'.trans n2)
theorem ACN.post{P:Program}{rd:Option Nat}{ops:Array Oper}{rest:Code}{s:St}{Ψ Ψ':Ex->St->Prop}(h:ACN P rd ops rest s Ψ)(hp:∀e s1,Ψ e s1->Ψ' e s1):ACN P rd ops rest s Ψ':=
 fun h' w val a H Q hQ=>h h' w val a H Q fun e s1 h1 w1 v1 a1 hΨ H1 n1=>hQ e s1 h1 w1 v1 a1 (hp e s1 hΨ) H1 n1
theorem AC.next{P:Program}{rd:Option Nat}{id:Nat}{ops:Array Oper}{rest:Code}{s:St}{Ψ:Ex->St->Prop}{o:Oper}{it:Operand}{t d n clk:Nat}{es:List (Nat×D×D)}{seen:List Nat}
 (ho:ops[0]? =some o) (hop:o.op=.next it false) (hg:o.guard=none) (hd:o.dst=some t) (hit:s.ev it=.box d 0) (h1:lk s.B d=some (.mit n clk seen)) (h2:lk s.B n=some (.map clk es))
 (hA:(es.map (·.1)).Nodup->∀e∈es,e.1∉seen->ACN P rd ops rest ({s with B:=BG s.B d (.mit n clk (seen++[e.1]))}.put (some t) (.tup [bo true,.d e.2.1,.d e.2.2])) Ψ)
 (hB:(es.map (·.1)).Nodup->(∀e∈es,e.1∈seen)->ACN P rd ops rest (s.put (some t) (.tup [bo false])) Ψ):AC P rd (.seq (.region id ops false) rest) s Ψ:=by
 intro h w val a H Q hQ
 refine wpIn_seq (wpIn_region ?_)
 have hsz:0<ops.size:=(Array.getElem?_eq_some_iff.1 ho).1
 rw[List.range_eq_range',show ops.size=ops.size-1+1 by omega,List.range'_succ,wpOpsIn_cons]
 obtain⟨r,b,e1,e2,e3⟩:=H.inv.rep _ (ml_ _ (Ag h1))
 obtain⟨b',l,g1,g2,g3,g4,g5,g6,g7⟩:=H.inv.rep _ (ml_ _ (Ag h2))
 simp only at e1 e2 g1
 have hb:b=b':=by rw[e2]at g1;cases g1;rfl
 subst hb
 have hi:=H.ev it
 rw[hit]at hi
 simp only[RA]at hi
 obtain⟨r',i1,i2⟩:=hi
 have hr':r'=r:=by rw[e1]at i1;cases i1;rfl
 subst hr'
 unfold wpOpIn
 rw[ho]
 have hw:Region.wanted o (yielded ops a.tmps)=true:=by unfold Region.wanted;rw[hg]
 simp only[hw,if_true]
 have hnd:DU o.op=true:=by rw[hop];rfl
 refine CA hnd ?_
 have hborn:=REs.born g3
 rcases run_next_at (P:=P) w o.type r' b clk clk ⟨seen⟩ ⟨l⟩ clk e3 g2 (fun x hx=>by obtain⟨y,hy,q,_⟩:=REs.mem g3 x hx;rw[q];exact g4 y hy) (Nat.le_refl _)with⟨h0,hrun⟩|⟨e,he,w1,hw1,hrun⟩
 refine AQ (u:=.tuple #[.bool false]) (w':=w) (by simp[execOp,hop,i2,hrun]) ?_
 have hall:∀e∈es,e.1∈seen:=fun x hx=>by
  obtain⟨e,he,q,_⟩:=REs.mem' g3 x hx;have hz:(leftOf ⟨l⟩ ⟨seen⟩).toList=[]:=by have:(leftOf ⟨l⟩ ⟨seen⟩)= #[]:=Array.eq_empty_of_size_eq_zero h0;rw[this]
  cases hc:decide (x.1∈seen)with
  |true=>exact of_decide_eq_true hc
  |false=>
   exfalso
   have:e∈(leftOf ⟨l⟩ ⟨seen⟩).toList:=by unfold leftOf;simp only[Array.toList_filter,List.mem_filter];refine⟨he,?_⟩;have hns:x.1∉seen:=of_decide_eq_false hc;simp[q,hns]
   rw[hz]at this;simp at this
 have hR:RA h w val (.tup [bo false]) (.tuple #[.bool false]):=by simp only[RA,RAs,bo];exact⟨[.bool false],rfl,.bool false,[],rfl,by simp[RD,Value.oneCell'],rfl⟩
 have H':=H.put o.dst hR
 rw[hd]at H'
 have:=hB g5 hall h w val _ H' Q fun e2 s2 h2 w2 v2 a2 hΨ H2 n2=>hQ e2 s2 h2 w2 v2 a2 hΨ H2 (((Nx.refl s h w val rfl).put (some t) _).trans n2)
 rw[hd];exact this
 have hel:e∈l/\e.born∉seen:=by unfold leftOf at he;simp only[Array.toList_filter,List.mem_filter]at he;refine⟨he.1,?_⟩;simpa using he.2
 obtain⟨x,hx,q1,q2,q3⟩:=REs.mem g3 e hel.1
 have hkM:∀M,BI M h w h w1:=fun M=>by
  rcases hw1 with rfl|rfl
  exact BI.refl _ _ _;exact BI.drew M h w
 have hk1:BI [] h w h w1:=hkM []
 have hh1:w1.heap=w.heap:=by rcases hw1 with rfl|rfl<;>rfl
 have H1:=H.quiet hk1
 have hvb:vblk (val d)=some r':=by rw[e1];rfl
 obtain⟨f1,f2⟩:=aNt H1 h1 rfl (bk':=.mit n clk (seen++[x.1])) (o0:=.mapIter (some b) clk ⟨seen⟩ clk) (o':=.mapIter (some b) clk ⟨seen++[x.1]⟩ clk) rfl hvb (by rw[hh1];exact e3) (by simp)
  ⟨r',b,e1,e2,Hi (by rw[hh1];exact e3)⟩
 refine AQ (u:=.tuple #[.bool true,e.key,e.val]) (w':={w1 with heap:=w1.heap.setIfInBounds r' (.mapIter (some b) clk ⟨seen++[x.1]⟩ clk)}) ?_ ?_
 simp only[execOp,hop,i2,Sem.run_bind,hrun,Result.andThen_ok,Sem.run_pure]
 have:(⟨seen⟩:Array Nat).push e.born=⟨seen++[x.1]⟩:=by rw[aBn,q1]
 rw[this];rfl
 have hst:=f2.keep.stays
 have hR:RA h {w1 with heap:=w1.heap.setIfInBounds r' (.mapIter (some b) clk ⟨seen++[x.1]⟩ clk)} val (.tup [bo true,.d x.2.1,.d x.2.2]) (.tuple #[.bool true,e.key,e.val]):=by simp only[RA,RAs,bo];exact⟨[.bool true,e.key,e.val],rfl,.bool true,[e.key,e.val],rfl,by simp[RD,Value.oneCell'],e.key,[e.val],rfl,RD.stays hst _ _ (RD.stays hk1.stays _ _ q2),e.val,[],rfl,RD.stays hst _ _ (RD.stays hk1.stays _ _ q3),rfl⟩
 have H':=f1.put o.dst hR
 rw[hd]at H'
 have hn1:Nx s h w val {s with B:=BG s.B d (.mit n clk (seen++[x.1]))} h {w1 with heap:=w1.heap.setIfInBounds r' (.mapIter (some b) clk ⟨seen++[x.1]⟩ clk)} val:=
  Nx.trans (s1:=s) ⟨hkM _,fun _ _=>rfl,fun b hb=>.inl hb⟩ f2
 have:=hA g5 x hx (by rw[<-q1];exact hel.2) h _ val _ H' Q fun e2 s2 h2 w2 v2 a2 hΨ H2 n2=>hQ e2 s2 h2 w2 v2 a2 hΨ H2 ((hn1.put (some t) _).trans n2)
 rw[hd];exact this
end Go.Ac
namespace Go.Ac
section
variable {α σ τ:Type}
def DC(step:α->σ->Option σ):σ->List α->Option σ
 |s,[]=>some s
 |s,x::l=>AG (step x s) fun s'=>DC step s' l
theorem Cx(step:α->σ->Option σ):∀(l m:List α) (s:σ),DC step s (l++m)=AG (DC step s l) fun s'=>DC step s' m
 |[],m,s=>rfl
 |x::l,m,s=>by
  simp only[List.cons_append,DC];cases step x s with
  |none=>rfl
  |some s'=>exact Cx step l m s'
open Classical in
noncomputable def Fi(c:σ->τ)(xs:List α)(step:α->σ->Option σ)(s:σ):Option τ:=
 if h:∃r,∀p:List α,p.Perm xs->∃s',DC step s p=some s'/\c s'=r then some (Classical.choose h)else none
theorem Nz{c:σ->τ}{xs:List α}{step:α->σ->Option σ}{s:σ}{r:τ}(h:Fi c xs step s=some r):∀p:List α,p.Perm xs->∃s',DC step s p=some s'/\c s'=r:=by unfold Fi at h;split at h;rename_i hh;have:=Classical.choose_spec hh;simp only[oe]at h;rw[h]at this;exact this;cases h
theorem Hb{c:σ->τ}{xs:List α}{step:α->σ->Option σ}{s:σ}{r:τ}(h:∀p:List α,p.Perm xs->∃s',DC step s p=some s'/\c s'=r):Fi c xs step s=some r:=by have hh:∃r,∀p:List α,p.Perm xs->∃s',DC step s p=some s'/\c s'=r:=⟨r,h⟩;unfold Fi;rw[dif_pos hh];obtain⟨s1,h1,h2⟩:=Classical.choose_spec hh xs (List.Perm.refl _);obtain⟨s2,h3,h4⟩:=h xs (List.Perm.refl _);rw[h1,oe]at h3;rw[<-h2,<-h4,h3]
open Classical in
noncomputable def bagE(f:List α->Option τ)(xs:List α):Option τ:=
 if h:∃r,∀p:List α,p.Perm xs->f p=some r then some (Classical.choose h)else none
theorem ZN{f:List α->Option τ}{xs:List α}{r:τ}(h:bagE f xs=some r):∀p:List α,p.Perm xs->f p=some r:=by unfold bagE at h;split at h;rename_i hh;have:=Classical.choose_spec hh;simp only[oe]at h;rw[h]at this;exact this;cases h
theorem No{f:List α->Option τ}{xs:List α}{r:τ}(h:∀p:List α,p.Perm xs->f p=some r):bagE f xs=some r:=by have hh:∃r,∀p:List α,p.Perm xs->f p=some r:=⟨r,h⟩;unfold bagE;rw[dif_pos hh,<-Classical.choose_spec hh xs (List.Perm.refl _),h xs (List.Perm.refl _)]
end
theorem MA{α β:Type}(f:α->β):∀{l:List β} {S:List α},l.Perm (S.map f)->∃T:List α,T.Perm S/\l=T.map f:=by
 intro l S h;generalize hm:S.map f=m at h;induction h generalizing S with
 |nil=>
  cases S with
  |nil=>exact⟨[],List.Perm.refl _,rfl⟩
  |cons a S=>cases hm
 | @cons x l1 l2 h ih=>
  cases S with
  |nil=>cases hm
  |cons a S=>
   rw[List.map_cons,List.cons.injEq]at hm
   obtain⟨T,h1,h2⟩:=ih hm.2
   exact⟨a::T,h1.cons a,by rw[List.map_cons,hm.1,h2]⟩
 |swap x y l=>
  cases S with
  |nil=>cases hm
  |cons a S=>
   cases S with
   |nil=>cases hm
   |cons b S=>
    simp only[List.map_cons,List.cons.injEq]at hm
    exact⟨b::a::S,List.Perm.swap a b S,by rw[List.map_cons,List.map_cons,hm.1,hm.2.1,hm.2.2]⟩
 |trans h1 h2 ih1 ih2=>
  obtain⟨T2,p2,e2⟩:=ih2 hm
  obtain⟨T1,p1,e1⟩:=ih1 e2.symm
  exact⟨T1,p1.trans p2,e1⟩
section
variable {K V:Type}
abbrev ms(fk:K->D)(fv:V->D)(S:List (K×V)):List (D×D):=S.map fun x=>(fk x.1,fv x.2)
end
def Sc:Code->Array Oper
 | .loop (.seq (.region _ ops _) _)=>ops
 |_=> #[]
def aO2(P:Program)(rd:Option Nat)(root:Code)(ws:List (Nat×W))(lw:List Lw)(q:List Nat)(l:List Ws)(s:St)(e:Ex)(s':St):Prop:=
 match aIl P (Sc (Av root q)) ws ((Sc (Av root q)).toList.drop 1) s with
 |some (Φ0,s0)=>match CR P ws lw (1::0::q) (Av root (1::0::q)) s0 with
  |some (Φ,e1,s1)=>match wks l s1 with
   |some s2=>Φ0.okK P (EL P rd root) (Φ.okK P (EL P rd root) True)/\(e1=e/\s2=s')
   |none=>False
  |none=>False
 |none=>False
theorem aO2.acn{P:Program}{rd:Option Nat}{root:Code}{ws:List (Nat×W)}{lw:List Lw}{q:List Nat}{l:List Ws}{s s':St}{e:Ex}(hm:P.follows .mixedOrders=true)
 (h:aO2 P rd root ws lw q l s e s'):ACN P rd (Sc (Av root q)) (Av root (1::0::q)) s fun e1 s1=>e1=e/\Wk s1 s':=by
 unfold aO2 at h
 split at h
 rename_i Φ0 s0 h0
 split at h
 rename_i Φ e1 s1 h1
 split at h
 rename_i s2 h2
 obtain⟨hΦ,rfl,rfl⟩:=h
 have hΦ0:=(Ob.okK_iff _ _).1 hΦ
 have hΦ1:=((Ob.okK_iff _ _).1 hΦ0.2).1
 exact ACN.run h0 hΦ0.1 ((Fz hm _ _ _ _ _ _ rfl h1 hΦ1).mono fun e1 s1' hh=>⟨hh.1,by rw[hh.2];exact JY h2⟩)
 exact h.elim
 exact h.elim
 exact h.elim
attribute [irreducible] aO2
def Sz(P:Program)(rd:Option Nat)(root:Code)(q:List Nat)(s:St)(Ψ:Ex->St->Prop):Prop:=ACN P rd (Sc (Av root q)) (Av root (1::0::q)) s Ψ
theorem Sz.wk{P:Program}{rd:Option Nat}{root:Code}{q:List Nat}{s s1 s2:St}{e:Ex}(h:Sz P rd root q s fun e1 s'=>e1=e/\Wk s' s1)(hw:Wk s1 s2):Sz P rd root q s fun e1 s'=>e1=e/\Wk s' s2:=
 ACN.post h fun _ _ hh=>⟨hh.1,hh.2.trans hw⟩
def aZ1(x t:Nat):Code->Bool
 | .loop (.seq (.region _ ops false) _)=>match ops[0]? with
  |some o=>match o.op,o.guard,o.dst with
   | .next (.tmp y) false,none,some d=>Nat.beq y x&&Nat.beq d t
   |_,_,_=>false
  |none=>false
 |_=>false
theorem aBb{root:Code}{p:List Nat}{x t:Nat}(h:aZ1 x t (Av root p)=true):∃(i:Nat) (o:Oper),Av root p=.loop (.seq (.region i (Sc (Av root p)) false) (Av root (1::0::p)))/\
 (Sc (Av root p))[0]? =some o/\o.op=.next (.tmp x) false/\o.guard=none/\o.dst=some t:=by
 have hcd:Av root (1::0::p)=Av (Av root p) [1,0]:=rfl
 rw[hcd]
 generalize Av root p=c at h⊢
 unfold aZ1 at h
 split at h
 rename_i i ops rest
 split at h
 rename_i o ho
 split at h
 rename_i y d h1 h2 h3
 simp only[ba]at h
 have e1:=Nat.eq_of_beq_eq_true h.1
 have e2:=Nat.eq_of_beq_eq_true h.2
 subst e1;subst e2
 exact⟨i,o,rfl,ho,h1,h2,h3⟩
 cases h
 cases h
 cases h
theorem F8{P:Program}{rd:Option Nat}{root:Code}(hm:P.follows .mixedOrders=true)(ws:List (Nat×W))(lw:List Lw){q:List Nat}(l:List Ws){s s':St}{e:Ex}{p:Prop}(h:p)
 (he:(p/\(e=e/\s'=s'))=aO2 P rd root ws lw q l s e s'):Sz P rd root q s fun e1 s1=>e1=e/\Wk s1 s':=aO2.acn (ws:=ws) (lw:=lw) (l:=l) hm (he.mp ⟨h,rfl,rfl⟩)
theorem aBi{K V:Type}{fk:K->D}{fv:V->D}{clk:Nat}{es:List (Nat×K×V)}{sn:List Nat}{st:Nat}{k:K}{v:V}(h:(st,k,v)∈es):aZ8 clk clk (dl fk fv es) (sn++[st]) (fk k) (fv v):=
 ⟨rfl,sn,st,rfl,mm.2 ⟨_,h,rfl⟩⟩
theorem aBd{P:Program}{rd:Option Nat}{root:Code}{p:List Nat}{K V σ τ:Type}{fk:K->D}{fv:V->D}(x t d n clk:Nat)(es:List (Nat×K×V)){S:List (K×V)}
 {c:σ->τ} {step:K×V->σ->Option σ} {s0:σ} {r:τ} (J:List Nat->σ->St) (O:τ->Ex×St) (hk:aZ1 x t (Av root p)=true)
 (hO:(O r).1≠ .normal)
 (hit:∀sn a,(J sn a).ev (.tmp x)=.box d 0) (h1:∀sn a,lk (J sn a).B d=some (.mit n clk sn)) (h2:∀sn a,lk (J sn a).B n=some (.map clk (dl fk fv es)))
 (hp:(es.map (·.2)).Perm S)
 (hA:∀sn a k v st a',(st,k,v)∈es->step (k,v) a=some a'->Sz P rd root p ({J sn a with B:=BG (J sn a).B d (.mit n clk (sn++[st]))}.put (some t) (.tup [bo true,.d (fk k),.d (fv v)])) fun e s1=>e=.normal/\Wk s1 (J (sn++[st]) a'))
 (hB:∀sn a,c a=r->Sz P rd root p ((J sn a).put (some t) (.tup [bo false])) fun e s1=>e=(O r).1/\Wk s1 (O r).2)
 (h:Fi c S step s0=some r):EL P rd root p (J [] s0) (O r).1 (O r).2:=by
 have hx:=Nz h
 obtain⟨i0,o,hc,ho,hop,hg,hd⟩:=aBb hk
 suffices hs:AC P rd (Av root p) (J [] s0) fun e1 s1=>e1=(O r).1/\Wk s1 (O r).2 from
  AC.post hs fun _ _ hh=>⟨(O r).2,hh.2,hh.1,rfl⟩
 rw[hc]
 let ι:={x:List (Nat×K×V)×σ//(∃rest,(x.1++rest).Perm es)/\DC step s0 (x.1.map (·.2))=some x.2}
 refine AC.loop (ι:=ι) (fun i=>J (i.1.1.map (·.1)) i.1.2) (fun i=>es.length-i.1.1.length) (fun _ e1 s1=>e1=(O r).1/\Wk s1 (O r).2) ?_ ⟨([],s0),⟨es,List.Perm.refl _⟩,rfl⟩
 rintro⟨⟨done,a⟩,⟨rest,hr⟩,hf⟩
 simp only at hf
 have hb:dl fk fv es=es.map fun x=>(x.1,fk x.2.1,fv x.2.2):=rfl
 have hb1:(dl fk fv es).map (·.1)=es.map (·.1):=by simp[dl,Function.comp_def]
 refine AC.next ho hop hg hd (hit _ _) (h1 _ _) (h2 _ _) ?_ ?_
 intro hn e he hns
 obtain⟨⟨st,k,v⟩,hm,rfl⟩:=mm.1 he
 simp only at hns⊢
 have hm':(st,k,v)∈rest:=by
  rcases ma.1 (hr.mem_iff.2 hm)with h|h
  exact absurd (mm.2 ⟨_,h,rfl⟩) hns;exact h
 obtain⟨r1,r2,rfl⟩:=List.append_of_mem hm'
 have hr2:((done++[(st,k,v)])++(r1++r2)).Perm es:=by refine List.Perm.trans ?_ hr;rw[List.append_assoc];exact List.Perm.append_left done (show((st,k,v)::(r1++r2)).Perm (r1++(st,k,v)::r2)from List.perm_middle.symm)
 obtain⟨a2,ha2,_⟩:=hx _ ((hr2.map (·.2)).trans hp)
 rw[List.map_append,Cx,List.map_append,Cx,hf]at ha2
 simp only[AG,List.map_cons,List.map_nil,DC]at ha2
 cases hs:step (k,v) a with
 |none=>rw[hs]at ha2;cases ha2
 |some a'=>
  refine ACN.post (hA _ a k v st a' hm hs) ?_
  rintro e1 s1 ⟨rfl,hw⟩
  refine⟨⟨(done++[(st,k,v)],a'),⟨_,hr2⟩,?_⟩,?_,?_,fun _ _ x=>x⟩
  simp only[List.map_append,Cx,hf,AG,List.map_cons,List.map_nil,DC,hs]
  have:=hr2.length_eq
  simp only[List.length_append,List.length_cons,List.length_nil]at this⊢
  omega
  simpa only[List.map_append,List.map_cons,List.map_nil]using hw
 intro hn hall
 have hrest:rest=[]:=by
  cases rest with
  |nil=>rfl
  |cons x rest=>
   exfalso
   have hxm:x∈es:=hr.mem_iff.1 (by simp)
   have hseen:x.1∈done.map (·.1):=hall (x.1,fk x.2.1,fv x.2.2) (mm.2 ⟨x,hxm,rfl⟩)
   rw[hb1]at hn
   have hn2:=(hr.map (·.1)).nodup_iff.2 hn
   rw[List.map_append,List.nodup_append]at hn2
   exact hn2.2.2 _ hseen _ (by simp) rfl
 subst hrest
 rw[List.append_nil]at hr
 obtain⟨a2,ha2,hc2⟩:=hx _ ((hr.map (·.2)).trans hp)
 rw[hf,oe]at ha2
 subst ha2
 refine ACN.post (hB _ a hc2) ?_
 rintro e1 s1 ⟨h1,hw⟩
 subst h1
 cases he:(O r).1 with
 |normal=>exact absurd he hO
 |exit id=>exact⟨rfl,hw⟩
 |ret=>exact⟨rfl,hw⟩
end Go.Ac
namespace Go.Ac
open Go.MapKept
section
variable {α:Type}
def N6(le:α->α->Bool)(x:α):List α->List α
 |[]=> [x]
 |y::l=>match le x y with
  |true=>x::y::l
  |false=>y::N6 le x l
def MQ(le:α->α->Bool):List α->List α
 |[]=> []
 |x::l=>N6 le x (MQ le l)
theorem FR(le:α->α->Bool)(x:α):∀l,(N6 le x l).Perm (x::l)
 |[]=>List.Perm.refl _
 |y::l=>by
  rw[N6];split;exact List.Perm.refl _;exact((FR le x l).cons y).trans (List.Perm.swap x y l)
theorem H8(le:α->α->Bool):∀l,(MQ le l).Perm l
 |[]=>List.Perm.refl _
 |x::l=>(FR le x _).trans ((H8 le l).cons x)
noncomputable def aOp{α:Type}(l:List α):List α:=Classical.epsilon fun m:List α=>m.Perm l
theorem ML{α:Type}(l:List α):(aOp l).Perm l:=Classical.epsilon_spec (p:=fun m:List α=>m.Perm l) ⟨l,List.Perm.refl l⟩
theorem aOq{α:Type}{l m:List α}(h:l.Perm m):aOp l=aOp m:=by unfold aOp;congr 1;funext x;exact propext ⟨fun g=>g.trans h,fun g=>g.trans h.symm⟩
def aLh(xs:List Int):List Int:=MQ (fun a b=>decide (a<=b)) xs
theorem DX(xs:List Int):(aLh xs).Perm xs:=H8 _ xs
theorem Wk.canB{α:Type}{s s':St}(n:Nat){e k:Nat}{fd:α->D}{xs ys:List α}(hp:xs.Perm ys)(hl:lk s.B n=some (.rw e k (xs.map fd)))(hs:{s with B:=BG s.B n (.bag e k (ys.map fd))}=s'):Wk s s':=
 hs▸Wk.bagw hl (hp.map _)
end
theorem AM.bag{α:Type}{P:Program}{f:FuncId}{args:List A}{e k:Nat}{fd:α->D}{xs:List α}{r:A}{X':Bx}(h:∀ys:List α,ys.Perm xs->AM P f args [(0,.rw e k (ys.map fd))] r X'):AM P f args [(0,.bag e k (xs.map fd))] r X':=by intro hh w val vs H hr;obtain⟨ys,us,hp,h1,h2,h3⟩:=H.rep _ (List.mem_singleton.2 rfl);obtain⟨zs,hz,rfl⟩:=MA _ hp;refine h zs hz hh w val vs ⟨fun p hp=>?_,H.nms,H.bks,H.glob⟩ hr;rw[List.mem_singleton.1 hp];exact⟨us,h1,h2,h3⟩
theorem AM.bagE{α τ:Type}{P:Program}{f:FuncId}{args:List A}{e k:Nat}{fd:α->D}{xs:List α}{F:List α->Option τ}{R:τ->A}{X':τ->Bx}(hF:∀(ys:List α) (r:τ),F ys=some r->AM P f args [(0,.rw e k (ys.map fd))] (R r) (X' r))(r:τ)(h:Ac.bagE F xs=some r):AM P f args [(0,.bag e k (xs.map fd))] (R r) (X' r):=
 AM.bag fun ys hp=>hF ys r (ZN h ys hp)
end Go.Ac
namespace Go.Ac
section
variable {K α:Type}
def ksR(fk:K->D)(m:MP K (List α)):List (Nat×D):=m.es.map fun x=>(x.1,fk x.2.1)
variable {P:Program} {kt:TypeId} {fk:K->D}
theorem aA4(T:Ja P kt fk)(m:MP K (List α)):∀x∈ksR fk m,KOk P kt x.2:=fun x hx=>by obtain⟨y,_,rfl⟩:=mm.1 hx;exact T.ok _
theorem Fj(T:Ja P kt fk){k:K}{l:List (Nat×K×List α)}(h:∀x∈l,x.2.1≠k):∀x∈l.map (fun x=>(x.1,fk x.2.1)),x.2≠fk k:=fun x hx e=>by obtain⟨y,hy,rfl⟩:=mm.1 hx;exact h y hy (T.inj _ _ e)
end
section
variable {K α:Type} [DecidableEq K]
def Sq{β:Type}(k:K):List (Nat×K×List α)->List (Option β)->List (Option β)
 |x::es,o::os=>if x.2.1=k then none::os else o::Sq k es os
 |_,os=>os
def xsR(f:α->D)(m:MP K (List α)):List K->List (Option (List D))
 |[]=>m.es.map fun x=>some (x.2.2.map f)
 |k::ko=>Sq k m.es (xsR f m ko)
theorem RR{β:Type}(k:K):∀(es:List (Nat×K×List α)) (os:List (Option β)),(Sq k es os).length=os.length
 |[],os=>by cases os<;>rfl
 |x::es,[]=>rfl
 |x::es,o::os=>by
  rw[Sq];split;rfl;simp[RR k es os]
theorem aCr(f:α->D)(m:MP K (List α)):∀ko:List K,(xsR f m ko).length=m.es.length
 |[]=>by simp[xsR]
 |k::ko=>by rw[xsR,RR,aCr f m ko]
theorem DS(k:K):∀es:List (Nat×K×List α),(∃pre s v post,es=pre++(s,k,v)::post/\(∀x∈pre,x.2.1≠k)/\He [] k es=(v,true))\/((∀x∈es,x.2.1≠k)/\He [] k es=([],false))
 |[]=>.inr ⟨by simp,rfl⟩
 |x::es=>by
  by_cases h:x.2.1=k;exact .inl ⟨[],x.1,x.2.2,es,by rw[<-h];rfl,by simp,by rw[He,if_pos h]⟩;rcases DS k es with⟨pre,s,v,post,e,hne,hg⟩|⟨hne,hg⟩
  refine .inl ⟨x::pre,s,v,post,by rw[e];rfl,fun y hy=>?_,by rw[He,if_neg h,hg]⟩;rcases mc.1 hy with rfl|hy
  exact h;exact hne y hy;refine .inr ⟨fun y hy=>?_,by rw[He,if_neg h,hg]⟩;rcases mc.1 hy with rfl|hy
  exact h;exact hne y hy
theorem H5{β:Type}{k:K}{s:Nat}{v:List α}{post:List (Nat×K×List α)}:∀{pre:List (Nat×K×List α)} {o1:List (Option β)} {o:Option β} {o2:List (Option β)},(∀x∈pre,x.2.1≠k)->o1.length=pre.length->Sq k (pre++(s,k,v)::post) (o1++o::o2)=o1++none::o2
 |[],o1,o,o2,_,hl=>by
  have:o1=[]:=List.eq_nil_of_length_eq_zero hl;subst this;simp[Sq]
 |x::pre,[],o,o2,_,hl=>by simp at hl
 |x::pre,p::o1,o,o2,hne,hl=>by
  rw[List.cons_append,List.cons_append,Sq,if_neg (hne x (.head _)),H5 (fun y hy=>hne y (.tail _ hy)) (by simpa using hl)];rfl
theorem H6{β:Type}{k:K}:∀{es:List (Nat×K×List α)} {os:List (Option β)},(∀x∈es,x.2.1≠k)->Sq k es os=os
 |[],os,_=>by cases os<;>rfl
 |x::es,[],_=>rfl
 |x::es,o::os,h=>by rw[Sq,if_neg (h x (.head _)),H6 fun y hy=>h y (.tail _ hy)]
theorem aCq(f:α->D){m:MP K (List α)}{k:K}{s:Nat}{v:List α}{pre post:List (Nat×K×List α)}(e:m.es=pre++(s,k,v)::post)(hne:∀x∈pre,x.2.1≠k):
 ∀ko:List K,k∉ko->∃p1 p2,xsR f m ko=p1++some (v.map f)::p2/\p1.length=pre.length
 |[],_=>⟨pre.map fun x=>some (x.2.2.map f),post.map fun x=>some (x.2.2.map f),by simp[xsR,e],by simp⟩
 |k'::ko,hk=>by
  obtain⟨p1,p2,h1,h2⟩:=aCq f e hne ko fun h=>hk (.tail _ h);have hkk:k≠k':=fun h=>hk (h▸ .head _);rw[xsR,h1,e]
  --the other key stands ahead,or behind,or nowhere
  have hlen:p2.length=post.length:=by have:=aCr f m ko;rw[h1,e]at this;simp at this;omega
  clear h1 hk e;induction pre generalizing p1 with
  |nil=>
   have:p1=[]:=List.eq_nil_of_length_eq_zero h2
   subst this
   refine⟨[],Sq k' post p2,?_,rfl⟩
   simp[Sq,hkk]
  |cons x pre ih=>
   cases p1 with
   |nil=>simp at h2
   |cons o p1=>
    by_cases hx:x.2.1=k'
    exact⟨none::p1,p2,by simp[Sq,hx],by simpa using h2⟩
    obtain⟨q1,q2,g1,g2⟩:=ih (fun y hy=>hne y (.tail _ hy)) p1 (by simpa using h2)
    refine⟨o::q1,q2,?_,by simp[g2]⟩
    rw[List.cons_append,List.cons_append,Sq,if_neg hx,g1];rfl
variable {P:Program} {kt:TypeId} {fk:K->D}
theorem aBm(T:Ja P kt fk)(f:α->D)(m:MP K (List α))(k:K)(ko:List K)(n g e:Nat)(outs:List (D×Nat))(hk:k∉ko)(ho:∀p∈outs,p.1≠fk k):
 aO1 P kt ⟨n,g,m.clk,ksR fk m,outs,e,xsR f m ko⟩ (fk k) ((A5 [] m k).1.map f) (xsR f m (k::ko)):=by
 refine⟨aA4 T m,T.ok k,ho,?_⟩
 unfold A5
 rcases DS k m.es with⟨pre,s,v,post,e,hne,hg⟩|⟨hne,hg⟩
 obtain⟨p1,p2,h1,h2⟩:=aCq f e hne ko hk
 refine .inl ⟨pre.map fun x=>(x.1,fk x.2.1),s,post.map fun x=>(x.1,fk x.2.1),p1,p2,by simp[ksR,e],Fj T hne,by rw[hg];exact h1,by simpa using h2,?_⟩
 rw[xsR,h1,e,H5 hne h2]
 exact .inr ⟨by rw[hg];rfl,by rw[xsR,H6 hne],Fj T hne⟩
theorem aOf(T:Ja P kt fk)(f:α->D)(m:MP K (List α))(k:K)(n g e:Nat):aO1 P kt ⟨n,g,m.clk,ksR fk m,[],e,xsR f m []⟩ (fk k) ((A5 [] m k).1.map f) (xsR f m [k]):=
 aBm T f m k [] n g e [] (by simp) (by simp)
theorem aZ3(T:Ja P kt fk)(f:α->D)(m:MP K (List α))(k k1:K)(n g e m1:Nat)(h:k1≠k):aO1 P kt ⟨n,g,m.clk,ksR fk m,[(fk k1,m1)],e,xsR f m [k1]⟩ (fk k) ((A5 [] m k).1.map f) (xsR f m [k,k1]):=
 aBm T f m k [k1] n g e _ (by simp[h.symm]) (by intro p hp;rw[List.mem_singleton.1 hp];exact fun e=>h (T.inj _ _ e))
theorem aBv{k:K}{s clk:Nat}{v v0:List α}{post:List (Nat×K×List α)}:∀{pre:List (Nat×K×List α)},(∀x∈pre,x.2.1≠k)->IV clk k v (pre++(s,k,v0)::post)=(clk,pre++(s,k,v)::post)
 |[],_=>by simp[IV]
 |x::pre,h=>by rw[List.cons_append,IV,if_neg (h x (.head _)),aBv fun y hy=>h y (.tail _ hy)];rfl
theorem aBw{k:K}{clk:Nat}{v:List α}:∀{es:List (Nat×K×List α)},(∀x∈es,x.2.1≠k)->IV clk k v es=(clk+1,es++[(clk,k,v)])
 |[],_=>rfl
 |x::es,h=>by rw[IV,if_neg (h x (.head _)),aBw fun y hy=>h y (.tail _ hy)];rfl
theorem aAg{k:K}{s:Nat}{v0:List α}{post:List (Nat×K×List α)}:∀{pre:List (Nat×K×List α)},(∀x∈pre,x.2.1≠k)->SP k (pre++(s,k,v0)::post)=pre++post
 |[],_=>by simp[SP]
 |x::pre,h=>by rw[List.cons_append,SP,if_neg (h x (.head _)),aAg fun y hy=>h y (.tail _ hy)];rfl
theorem aAh{k:K}:∀{es:List (Nat×K×List α)},(∀x∈es,x.2.1≠k)->SP k es=es
 |[],_=>rfl
 |x::es,h=>by rw[SP,if_neg (h x (.head _)),aAh fun y hy=>h y (.tail _ hy)]
theorem aK9(T:Ja P kt fk)(f:α->D)(m:MP K (List α))(k:K)(v:List α)(n g e m0:Nat):
 MIn P kt ⟨n,g,m.clk,ksR fk m,[(fk k,m0)],e,xsR f m [k]⟩ (fk k) (fk k) [] (v.map f) (CJ m k v).clk (ksR fk (CJ m k v)) (xsR f (CJ m k v) []):=by
 refine⟨aA4 T m,T.ok k,rfl,by simp,?_⟩
 unfold CJ
 rcases DS k m.es with⟨pre,s,v0,post,e,hne,hg⟩|⟨hne,hg⟩
 rw[e,aBv hne]
 refine .inl ⟨rfl,by simp[ksR,e],pre.map fun x=>(x.1,fk x.2.1),s,post.map fun x=>(x.1,fk x.2.1),pre.map fun x=>some (x.2.2.map f),post.map fun x=>some (x.2.2.map f),by simp[ksR,e],Fj T hne,?_,by simp,by simp[xsR]⟩
 simp only[xsR,e,List.map_append,List.map_cons]
 exact H5 hne (by simp)
 rw[aBw hne]
 exact .inr ⟨rfl,by simp[ksR],by simp[xsR,H6 hne],Fj T hne⟩
theorem aS1(T:Ja P kt fk)(f:α->D)(m:MP K (List α))(k:K)(n g e m0:Nat):
 MDl P kt ⟨n,g,m.clk,ksR fk m,[(fk k,m0)],e,xsR f m [k]⟩ (fk k) (fk k) [] (ksR fk (Dp m k)) (xsR f (Dp m k) []):=by
 refine⟨aA4 T m,T.ok k,rfl,by simp,?_⟩
 unfold Dp
 rcases DS k m.es with⟨pre,s,v0,post,e,hne,hg⟩|⟨hne,hg⟩
 rw[e,aAg hne]
 refine .inl ⟨pre.map fun x=>(x.1,fk x.2.1),s,post.map fun x=>(x.1,fk x.2.1),pre.map fun x=>some (x.2.2.map f),post.map fun x=>some (x.2.2.map f),by simp[ksR,e],Fj T hne,?_,by simp,by simp[ksR],by simp[xsR]⟩
 simp only[xsR,e,List.map_append,List.map_cons]
 exact H5 hne (by simp)
 rw[aAh hne]
 exact .inr ⟨rfl,by simp[xsR,H6 hne],Fj T hne⟩
theorem aK8(T:Ja P kt fk)(f:α->D)(m:MP K (List α))(k:K)(ko:List K)(n g e q:Nat)(outs0:List (D×Nat))(hk:k∉ko)(ho:∀p∈outs0,p.1≠fk k):
 MBk ⟨n,g,m.clk,ksR fk m,(fk k,q)::outs0,e,xsR f m (k::ko)⟩ (fk k) outs0 ((A5 [] m k).1.map f) (xsR f m ko):=by
 refine⟨ho,?_⟩
 unfold A5
 rcases DS k m.es with⟨pre,s,v,post,e,hne,hg⟩|⟨hne,hg⟩
 obtain⟨p1,p2,h1,h2⟩:=aCq f e hne ko hk
 refine .inl ⟨pre.map fun x=>(x.1,fk x.2.1),s,post.map fun x=>(x.1,fk x.2.1),p1,p2,by simp[ksR,e],Fj T hne,?_,by simpa using h2,by rw[hg];exact h1⟩
 simp only[xsR]
 rw[h1,e,H5 hne h2]
 refine .inr ⟨?_,Fj T hne⟩
 simp only[xsR];rw[H6 hne]
theorem aZ2(T:Ja P kt fk)(f:α->D)(m:MP K (List α))(k:K)(n g e q:Nat):MBk ⟨n,g,m.clk,ksR fk m,[(fk k,q)],e,xsR f m [k]⟩ (fk k) [] ((A5 [] m k).1.map f) (xsR f m []):=
 aK8 T f m k [] n g e q [] (by simp) (by simp)
theorem bAi(T:Ja P kt fk)(f:α->D)(m:MP K (List α))(k k1:K)(n g e q m1:Nat)(h:k1≠k):MBk ⟨n,g,m.clk,ksR fk m,[(fk k,q),(fk k1,m1)],e,xsR f m [k,k1]⟩ (fk k) [(fk k1,m1)] ((A5 [] m k).1.map f) (xsR f m [k1]):=
 aK8 T f m k [k1] n g e q _ (by simp[h.symm]) (by intro p hp;rw[List.mem_singleton.1 hp];exact fun e=>h (T.inj _ _ e))
theorem aS2(fk:K->D)(f:α->D)(m:MP K (List α))(n g e:Nat):MFz ⟨n,g,m.clk,ksR fk m,[],e,xsR f m []⟩ (MP.dl fk (D.l f) m):=
 ⟨rfl,m.es.map fun x=>(x.1,fk x.2.1,x.2.2.map f),by simp[ksR],by simp[xsR],by simp[MP.dl,D.l]⟩
end
end Go.Ac
namespace Go.Ac
open Go.Proofs Go.Shelf Go.RowKit Go.Lib
end Go.Ac
namespace Go.Ac
open Go.Proofs Go.Shelf Go.RowKit Go.Lib
def aKk{α β:Type}(x:Option α)(y:Option β):Option (α⊕β):=match x with
 |some a=>some (.inl a)
 |none=>match y with
  |some b=>some (.inr b)
  |none=>none
theorem bAc{α β:Type}{x:Option α}{y:Option β}{a:α}(h:aKk x y=some (.inl a)):x=some a:=by
 unfold aKk at h;cases x with
 |some a'=>simp only[oe,Sum.inl.injEq]at h;rw[h]
 |none=>cases y<;>simp at h
theorem bAd{α β:Type}{x:Option α}{y:Option β}{b:β}(h:aKk x y=some (.inr b)):y=some b:=by
 unfold aKk at h;cases x with
 |some a'=>simp at h
 |none=>cases y with
  |none=>simp at h
  |some b'=>simp only[oe,Sum.inr.injEq]at h;rw[h]
open Classical in
noncomputable def aI6(f:Int->Option Bool)(s:List UInt8):Option Int:=
 if∀r:Nat,r<=1114111->(f (r:Int)).isSome=true then some (Lib.idxFunc (fun r=>(f (r:Int)).getD false) true ⟨⟨s⟩⟩)else none
theorem BI.of_below{h:Hw}{w w':World}(hb:Below w.heap.size w w'):BI [] h w h w':=
 ⟨hb.os,hb.tape,hb.output,hb.size,fun b i v _ hc=>by have hlt:=Cj hc;rw[World.cell?_of_block (w:=w) (a:=⟨b,i,none⟩) (hb.block b hlt)];exact hc,fun _ _=>Nat.le_refl _,fun b hlt _=>⟨hb.block b hlt,rfl⟩⟩
theorem IQ{h h':Hw}{w w':World}(k:BI [] h w h' w'):Below w.heap.size w w':=
 ⟨k.os,k.tape,k.output,k.size,fun b hb=>(k.far b hb (by simp)).1⟩
theorem aI7{P:Program}{ρ:Ren}(L:LaysGw.n15 P ρ){g:Nat}(eg:∀args w,(callFunc g args).run P w=.ok (.enter g args) w){f:Int->Option Bool}
 (hf:∀(r:Int) (b:Bool),f r=some b->AM P g [.d (D.i .i32 r)] [] (.d (D.b b)) []) {s:List UInt8} {r:Int} (h:aI6 f s=some r):
 AM P (ρ.f 15) [.d (D.s s),.clo (.func g) [] []] [] (.d (D.i .i64 r)) []:=by
 unfold aI6 at h
 split at h
 rename_i hall
 simp only[oe]at h
 subst h
 intro hh w val vs hI hA
 simp only[RAs,RA,RD,D.s]at hA
 obtain⟨u,_,rfl,⟨rfl,_⟩,u2,_,rfl,⟨us,vs,rfl,h1,h2⟩,rfl⟩:=hA
 subst h1;subst h2
 refine(Any.strings_IndexFunc_grows L g #[] eg (fun r=>(f (r:Int)).getD false) ⟨⟨s⟩⟩ w ?_).mono ?_
 intro W x hx hb
 have h1:=hall x hx
 obtain⟨b,hb2⟩:=Option.isSome_iff_exists.1 h1
 have hg:GOk hh W:=hI.glob.stays (BI.of_below (hb)).stays
 have:=hf x b hb2 hh W (fun _=>default) [.int .i32 x] (Inv.nil hg _) (by simp[RAs,RA,RD,D.i,Value.cells,Value.oneCell'])
 refine Calls.mono this ?_
 rintro e w' ⟨h',val',u,rfl,_,hr,hk,_,_⟩
 simp only[RA,RD,D.b]at hr
 obtain⟨rfl,_⟩:=hr
 refine⟨by simp only[hb2];rfl,IQ hk⟩
 rintro e w' ⟨rfl,hb⟩
 exact⟨hh,val,_,rfl,Inv.nil (hI.glob.stays (BI.of_below hb).stays) _,by simp[RA,RD,D.i,Value.cells,Value.oneCell'],BI.of_below hb,fun n _=>rfl,fun b hb=>by simp[Aa]at hb⟩
 cases h
theorem SW{P:Program}{t:TypeId}{z:Option Value}{s b:Nat}(h:(P.info? t).map (fun i=>(i.zero,i.size,i.bytes))=some (z,s,b)):(P.info? t).map (·.size)=some s:=by
 cases hi:P.info? t with
 |none=>rw[hi]at h;cases h
 |some i=>rw[hi]at h;simp only[Option.map_some,oe,pe]at h⊢;exact h.2.1
theorem SU{P:Program}{t:TypeId}{z:Option Value}{s b:Nat}(h:(P.info? t).map (fun i=>(i.zero,i.size,i.bytes))=some (z,s,b)):(P.info? t).map (·.zero)=some z:=by
 cases hi:P.info? t with
 |none=>rw[hi]at h;cases h
 |some i=>rw[hi]at h;simp only[Option.map_some,oe,pe]at h⊢;exact h.1
theorem aOw{P:Program}{ρ:Ren}(mixed:P.follows .mixedOrders=true)(f15:P.funcs[ρ.f 15]? =some (BodyGw.n15 ρ))(f20:P.funcs[ρ.f 20]? =some (BodyGw.n20 ρ))
 (t0:P.underlying (ρ.t 0)=some (.tuple #[])) (t3:P.underlying (ρ.t 3)=some (.int .i64)) (t4:P.underlying (ρ.t 4)=some .bool) (t9:P.underlying (ρ.t 9)=some .string) (t21:P.underlying (ρ.t 21)=some (.int .i32)) (t23:P.underlying (ρ.t 23)=some (.func #[ρ.t 21] #[ρ.t 4] false))
 (i0:(P.info? (ρ.t 0)).map (fun i=>(i.zero,i.size,i.bytes))=some (some (.tuple #[]),1,0)) (i3:(P.info? (ρ.t 3)).map (fun i=>(i.zero,i.size,i.bytes))=some (some (.int .i64 0),1,8))
 (i4:(P.info? (ρ.t 4)).map (fun i=>(i.zero,i.size,i.bytes))=some (some (.bool false),1,1)) (i9:(P.info? (ρ.t 9)).map (fun i=>(i.zero,i.size,i.bytes))=some (some (.string {data:= #[]}),1,16))
 (i21:(P.info? (ρ.t 21)).map (fun i=>(i.zero,i.size,i.bytes))=some (some (.int .i32 0),1,4)) (i23:(P.info? (ρ.t 23)).map (fun i=>(i.zero,i.size,i.bytes))=some (some .nilFunc,1,8)):LaysGw.n15 P ρ:=
 ⟨mixed,f15,f20,t0,fun w=>Ao (by simp[Bd,t0]) w,CU (SW i0),Dc (SU i0),i0,t3,fun w=>Ao (by simp[Bd,t3]) w,CU (SW i3),Dc (SU i3),i3,
  t4,fun w=>Ao (by simp[Bd,t4]) w,CU (SW i4),Dc (SU i4),i4,t9,fun w=>Ao (by simp[Bd,t9]) w,CU (SW i9),Dc (SU i9),i9,
  t21,fun w=>Ao (by simp[Bd,t21]) w,CU (SW i21),Dc (SU i21),i21,t23,fun w=>Ao (by simp[Bd,t23]) w,CU (SW i23),Dc (SU i23),i23⟩
end Go.Ac
namespace Go.Ac
open Go.Proofs Go.Shelf Go.RowKit Go.Lib Go.Sort
theorem K9{h:Hw}{w:World}{k:IntKind}:∀{xs:List Int} {us:List Value},Ah h w 1 (xs.map (D.i k)) us->us=xs.map (Value.int k)
 |[],us,hr=>by simpa only[List.map_nil,Ah]using hr
 |x::xs,us,hr=>by
  simp only[List.map_cons,Ah,D.i]at hr;obtain⟨u,us',rfl,_,_,hd,_,hr'⟩:=hr;simp only[RD]at hd;obtain⟨rfl,_⟩:=hd;rw[K9 hr'];rfl
theorem Lo{h:Hw}{w:World}{k:IntKind}:∀(xs:List Int),Ah h w 1 (xs.map (D.i k)) (xs.map (Value.int k))
 |[]=>by simp only[List.map_nil,Ah]
 |x::xs=>by
  simp only[List.map_cons,Ah,D.i];exact⟨.int k x,xs.map (Value.int k),rfl,rfl,rfl,by simp only[RD];exact⟨trivial,rfl⟩,by simp[Value.cells,Value.oneCell'],Lo xs⟩
end Go.Ac
namespace Go.Ac
open Go.Proofs Go.Shelf Go.RowKit Go.Lib Go.Sort
theorem aJj{m:Nat}{e:TypeId}{k:Nat}{xs ys:List D}{h:Hw}{w:World}{val:Val}{w':World}{us':List Value}(hI:Inv h w val [(m,.rw e k xs)])
 (hown':w'.ownsRow 0 e k (val m) ys.length us') (hrow':Ah h w k ys us') (hgrow:w.grownBy w' (val m).ownBlock):
 ∃h' val' u,Ending.returned (Value.tuple #[])=.returned u/\Inv h' w' val' [(m,.rw e k ys)]/\RA h' w' val' (.tup []) u/\BI (Aa val [(m,.rw e k xs)]) h w h' w'/\
  (∀n,(n∈AK [(m,Bk.rw e k ys)]->n∈AK [(m,Bk.rw e k xs)])->val' n=val n)/\∀b∈Aa val' [(m,.rw e k ys)],b∈Aa val [(m,.rw e k xs)]\/w.heap.size<=b:=by
 obtain⟨us,hown,hrow,hh⟩:=hI.rep (m,.rw e k xs) (by simp)
 simp only at hown hh
 have hkeep0:BI (val m).ownBlock.toList h w h w':=by refine⟨hgrow.os,hgrow.tape,hgrow.output,hgrow.size,fun b j x hj hcx=>?_,fun b hb=>Nat.le_refl _,fun b hb hn=>⟨hgrow.block b hb fun e=>hn (by rw[<-e];simp),rfl⟩⟩;by_cases hvb:some b=(val m).ownBlock;rw[hh b hvb.symm]at hj;exact absurd hj (Nat.not_lt_zero _);rw[World.cell?_of_block (w:=w) (a:=⟨b,j,none⟩) (hgrow.block b (Cj hcx) hvb)];exact hcx
 have hb1:Aa val [(m,Bk.rw e k xs)]=(val m).ownBlock.toList:=by rw[Aj,CQ rfl,BV hown];exact List.append_nil _
 have hb2:Aa val [(m,Bk.rw e k ys)]=(val m).ownBlock.toList:=by rw[Aj,CQ rfl,BV hown];exact List.append_nil _
 refine⟨h,val,_,rfl,⟨?_,by simp[AK],?_,hI.glob.stays hkeep0.stays⟩,?_,by rw[hb1];exact hkeep0,fun _ _=>rfl,fun b hb=>.inl (by rw[hb1];rw[hb2]at hb;exact hb)⟩
 intro p hp
 simp only[List.mem_singleton]at hp
 subst hp
 exact⟨us',hown',Ah.stays hkeep0.stays _ _ _ hrow',hh⟩
 rw[hb2];cases(val m).ownBlock<;>simp
 simp only[RA]
 exact⟨[],rfl,by simp only[RAs]⟩
theorem N3{α:Type} [Inhabited α]{enc:α->Value}{w:World}{g n:Nat}{os:Array Obj}(d:Array α):w.grownBy (grow (putRow enc (Sort.ahead w n) g 0 d) os) (some g):=by refine⟨rfl,rfl,rfl,by simp,fun k hk hne=>?_⟩;rw[heap_grow_old _ _ (by simpa using hk)];have:g≠k:=fun e=>hne (by rw[e]);simp[putRow,mapBlock,Sort.ahead,Array.getElem?_modify,this]
theorem Sh{w:World}{os:Array Obj}{b:Nat}{e:TypeId}{k:Nat}{v:Value}{n:Nat}{xs:List Value}(h:w.ownsRow b e k v n xs):(grow w os).ownsRow b e k v n xs:=by refine⟨h.1,h.2.imp id ?_⟩;rintro⟨g,cap,cur,rfl,hb,hg,rest⟩;exact⟨g,cap,cur,rfl,hb,by rw[heap_grow_old _ _ (Array.getElem?_eq_some_iff.1 hg).1];exact hg,rest⟩
theorem aPb{α:Type} [Inhabited α]{P:Program}{fi:FuncId}{e:TypeId}{enc:α->Value}{f:α->D}{srt:List α->List α}(hlen:∀xs,(srt xs).length=xs.length)
 (hto:∀{h w us} {xs:List α},Ah h w 1 (xs.map f) us->us=xs.map enc) (hfrom:∀{h w} (xs:List α),Ah h w 1 (xs.map f) (xs.map enc))
 (hnil:∀w,Calls P fi #[.slice none 0 0] w fun e w'=>e=.returned (.tuple #[])/\w'=w)
 (hc:∀(g cap:Nat) (xs:List α) (w:World),Go.Sort.Holds enc w g 0 xs.toArray->g<w.heap.size->xs.length<4611686018427387904->Calls P fi #[.slice (some ⟨g,0,none⟩) xs.length cap] w fun e w'=>e=.returned (.tuple #[])/\∃n os,w'=grow (putRow enc (Sort.ahead w n) g 0 (srt xs).toArray) os)
 (xs:List α) (hsz:xs.length<4611686018427387904):AM P fi [.row 0] [(0,.rw e 1 (xs.map f))] (.tup []) [(0,.rw e 1 ((srt xs).map f))]:=by
 intro h w val vs hI hA
 simp only[RAs,RA]at hA
 obtain⟨u,_,rfl,⟨hu,_⟩,rfl⟩:=hA
 obtain⟨us,hown,hrow,hh⟩:=hI.rep (0,.rw e 1 (xs.map f)) (by simp)
 have hus:=hto hrow
 simp only at hown
 subst hu
 rw[List.length_map,hus]at hown
 have hgo:∀w',w'.ownsRow 0 e 1 (val 0) ((srt xs).map f).length ((srt xs).map enc)->w.grownBy w' (val 0).ownBlock->_:=fun w' h1 h2=>aJj (ys:=(srt xs).map f) hI h1 (hfrom _) h2
 by_cases hv:val 0=.slice none 0 0
 have hx:xs=[]:=by
  rcases hown.2 with⟨_,h0⟩|⟨g,cap,cur,e1,_⟩
  exact List.eq_nil_of_length_eq_zero h0;rw[hv]at e1;cases e1
 have hs:srt xs=[]:=List.eq_nil_of_length_eq_zero (by rw[hlen,hx];rfl)
 have hcn:Calls P fi #[val 0] w fun e w'=>e=.returned (.tuple #[])/\w'=w:=by rw[hv];exact hnil w
 refine hcn.mono ?_
 rintro ex w' ⟨rfl,rfl⟩
 refine hgo _ ?_ ⟨rfl,rfl,rfl,Nat.le_refl _,fun _ _ _=>rfl⟩
 rw[hs];rw[hx]at hown;exact hown
 obtain⟨g,cap,e1,_,hgl,hn,hcp,_,hH⟩:=holds_of_ownsRow hown hv
 have hcn:=hc g cap xs w hH hgl hsz
 rw[<-e1]at hcn
 refine hcn.mono ?_
 rintro ex w' ⟨rfl,q,os,rfl⟩
 rw[e1]at hown
 have ho:=ownsRow_putRow (q:=q) (k:=xs.length) (ys:=srt xs) hown (hlen xs) (Nat.le_refl _)
 rw[List.take_of_length_le (by rw[hlen];exact Nat.le_refl _)]at ho
 refine hgo _ ?_ (by rw[e1];exact N3 _)
 rw[e1,List.length_map,hlen]
 exact Sh ho
def Ku(xs:List Int):List Int:=xs.mergeSort fun x y=>decide (x<=y)
def aJ0(xs:List (List UInt8)):List (List UInt8):=xs.mergeSort fun x y=>decide (x<=y)
def RS(xs:List Int):Option (List Int):=if xs.length<4611686018427387904 then some (Ku xs)else none
def RT(xs:List (List UInt8)):Option (List (List UInt8)):=if xs.length<4611686018427387904 then some (aJ0 xs)else none
theorem LA{h:Hw}{w:World}:∀{xs:List (List UInt8)} {us:List Value},Ah h w 1 (xs.map D.s) us->us=xs.map encStr
 |[],us,hr=>by simpa only[List.map_nil,Ah]using hr
 |x::xs,us,hr=>by
  simp only[List.map_cons,Ah,D.s]at hr;obtain⟨u,us',rfl,_,_,hd,_,hr'⟩:=hr;simp only[RD]at hd;obtain⟨rfl,_⟩:=hd;rw[LA hr'];rfl
theorem MS{h:Hw}{w:World}:∀(xs:List (List UInt8)),Ah h w 1 (xs.map D.s) (xs.map encStr)
 |[]=>by simp only[List.map_nil,Ah]
 |x::xs=>by
  simp only[List.map_cons,Ah,D.s];exact⟨encStr x,xs.map encStr,rfl,rfl,rfl,by simp only[RD];exact⟨trivial,rfl⟩,by simp[encStr,Value.cells,Value.oneCell'],MS xs⟩
theorem aJz{P:Program}{ρ:Ren}{e:TypeId}{fi:Nat}(hfi:ρ.f 189=fi)(L:Lays.n189 P ρ)(l r:List Int)(h:RS l=some r):
 AM P fi [.row 0] [(0,.rw e 1 (l.map (D.i .i64)))] (.tup []) [(0,.rw e 1 (r.map (D.i .i64)))]:=by
 unfold RS at h
 split at h
 rename_i hl
 obtain rfl:=Option.some.inj h
 subst hfi
 exact aPb (enc:=Value.int .i64) (srt:=Ku) (fun xs=>List.length_mergeSort _) K9 Lo (fun w=>Any.slices_Sort_int_none L none 0 w)
  (fun g cap xs w hH hb hs=>calls_of_every_depth fun D=>AnyS.slices_Sort_int_in L D g 0 cap xs w hH hb hs) l hl
 cases h
theorem aJ2{P:Program}{ρ:Ren}{e:TypeId}{fi:Nat}(hfi:ρ.f 190=fi)(L:Lays.n190 P ρ)(l r:List (List UInt8))(h:RT l=some r):
 AM P fi [.row 0] [(0,.rw e 1 (l.map D.s))] (.tup []) [(0,.rw e 1 (r.map D.s))]:=by
 unfold RT at h
 split at h
 rename_i hl
 obtain rfl:=Option.some.inj h
 subst hfi
 exact aPb (enc:=encStr) (srt:=aJ0) (fun xs=>List.length_mergeSort _) LA MS (fun w=>Any.slices_Sort_string_none L none 0 w)
  (fun g cap xs w hH hb hs=>calls_of_every_depth fun D=>AnyS.slices_Sort_string_in L D g 0 cap xs w hH hb hs) l hl
 cases h
end Go.Ac
namespace Go.Ac
section
variable {α β σ τ:Type}
def H3(body:Nat->β->α->β⊕τ)(fin:β->τ):Nat->List α->β->τ
 |_,[],w=>fin w
 |i,x::xs,w=>match body i w x with
  | .inl w'=>H3 body fin (i+1) xs w'
  | .inr t=>t
theorem CT{step:σ->Option (σ⊕τ)}(l:List α)(mk:Nat->β->σ)(body:Nat->β->α->β⊕τ)(fin:β->τ)(I:Nat->β->Prop)
 (h1:∀i x w,l[i]? =some x->I i w->step (mk i w)=some (match body i w x with| .inl w'=>.inl (mk (i+1) w')| .inr t=>.inr t)/\∀w',body i w x=.inl w'->I (i+1) w')
 (h2:∀w,I l.length w->step (mk l.length w)=some (.inr (fin w))):∀(n i:Nat) (w:β),l.length-i<n->i<=l.length->I i w->AZ step (mk i w)=some (H3 body fin i (l.drop i) w):=by
 intro n
 induction n with
 |zero=>intro i w h;omega
 |succ n ih=>
  intro i w hn hi hI
  rw[Au]
  by_cases he:i=l.length
  subst he
  rw[h2 w hI,DN,List.drop_length]
  rfl
  obtain⟨x,hx,hd⟩:=A8 (l:=l) (i:=i) (by omega)
  obtain⟨a1,a2⟩:=h1 i x w hx hI
  rw[a1,hd,H3]
  cases hb:body i w x with
  |inl w'=>simp only[A4];exact ih (i+1) w' (by omega) (by omega) (a2 w' hb)
  |inr t=>simp only[DN]
theorem QY{step:Int->Option (Int⊕τ)}(l:List α)(p:α->Bool)(t f:τ)
 (h1:∀(i:Nat) x,l[i]? =some x->step i=some (if p x=true then .inl ((i+1:Nat):Int)else .inr f)) (h2:step l.length=some (.inr t)) (i:Nat) (hi:i<=l.length):
 AZ step i=some (if(l.drop i).all p=true then t else f):=by
 rw[CT l (fun i (_:Unit)=>(i:Int)) (fun _ _ x=>if p x=true then .inl ()else .inr f) (fun _=>t) (fun _ _=>True) (fun i x w hx _=>⟨by rw[h1 i x hx];cases p x<;>rfl,fun _ _=>trivial⟩) (fun _ _=>h2) (l.length-i+1) i () (by omega) hi trivial]
 congr 1
 generalize l.drop i=l'
 clear h1 h2 hi
 revert i
 induction l' with
 |nil=>intro i;rfl
 |cons x xs ih=>
  intro i
  rw[H3,List.all_cons]
  cases hp:p x with
  |true=>simp only[if_true,Bool.true_and];exact ih (i+1)
  |false=>simp
theorem A0{step:Int->Option (Int⊕τ)}(l:List α)(p:α->Bool)(t f:τ)
 (h1:∀(i:Nat) x,l[i]? =some x->step i=some (if p x=true then .inl ((i+1:Nat):Int)else .inr f)) (h2:step l.length=some (.inr t)):
 AZ step 0=some (if l.all p=true then t else f):=by
 have h:=QY l p t f h1 h2 0 (by omega)
 rw[List.drop_zero]at h
 exact h
def Fr(g:Nat->α->Option τ):Nat->Unit->α->Unit⊕τ:=fun i _ x=>match g i x with
 |none=>.inl ()
 |some t=>.inr t
theorem Ee{step:Int->Option (Int⊕τ)}(l:List α)(g:Nat->α->Option τ)(t:τ)
 (h1:∀(i:Nat) x,l[i]? =some x->step i=some (match g i x with|none=>.inl ((i+1:Nat):Int)|some t=>.inr t)) (h2:step l.length=some (.inr t)):
 AZ step 0=some (H3 (Fr g) (fun _=>t) 0 l ()):=
 CT l (fun i (_:Unit)=>(i:Int)) (Fr g) (fun _=>t) (fun _ _=>True)
  (fun i x w hx _=>⟨by rw[h1 i x hx];unfold Fr;cases g i x<;>rfl,fun _ _=>trivial⟩) (fun _ _=>h2) (l.length+1) 0 () (by omega) (by omega) trivial
theorem Cf(g:α->Option τ)(t:τ):∀(l:List α) (i:Nat),H3 (Fr fun _=>g) (fun _=>t) i l ()=(l.findSome? g).getD t
 |[],i=>rfl
 |x::xs,i=>by
  rw[H3,List.findSome?_cons];cases hg:g x with
  |none=>
   have e:Fr (fun _=>g) i () x=.inl ():=by simp[Fr,hg]
   rw[e];exact Cf g t xs (i+1)
  |some y=>
   have e:Fr (fun _=>g) i () x=.inr y:=by simp[Fr,hg]
   rw[e];rfl
theorem JT(p:α->Bool):∀(l:List α) (i:Nat),H3 (Fr fun i x=>if p x=true then some (Sum.inr (i:Int):Unit⊕Int)else none) (fun _=>.inl ()) i l ()=if l.any p=true then .inr ((i+l.findIdx p:Nat):Int)else .inl ()
 |[],i=>rfl
 |x::xs,i=>by
  have ih:=JT p xs (i+1);rw[H3,List.any_cons,List.findIdx_cons];cases hp:p x with
  |true=>simp[Fr,hp]
  |false=>
   have e:Fr (fun i x=>if p x=true then some (Sum.inr (i:Int):Unit⊕Int)else none) i () x=.inl ():=by simp[Fr,hp]
   rw[e]
   simp only[Bool.false_or,cond_false]
   rw[ih,Nat.add_assoc,Nat.add_comm 1]
theorem Bj{step:Int->Option (Int⊕(Unit⊕Int))}(l:List α)(p:α->Bool)
 (h1:∀(i:Nat) x,l[i]? =some x->step i=some (if p x=true then .inr (.inr (i:Int))else .inl ((i+1:Nat):Int))) (h2:step l.length=some (.inr (.inl ()))):
 AZ step 0=some (if l.any p=true then .inr ((l.findIdx p:Nat):Int)else .inl ()):=by
 rw[Ee l (fun i x=>if p x=true then some (Sum.inr (i:Int):Unit⊕Int)else none) (.inl ()) (fun i x hx=>by rw[h1 i x hx];cases p x<;>rfl) h2,JT,Nat.zero_add]
theorem DF{step:Int×β->Option (Int×β⊕τ)}(l:List α)(f:β->α->β)(fin:β->τ)(I:Nat->β->Prop)
 (h1:∀(i:Nat) x w,l[i]? =some x->I i w->step (i,w)=some (.inl (((i+1:Nat):Int),f w x))/\I (i+1) (f w x))
 (h2:∀w,I l.length w->step (l.length,w)=some (.inr (fin w))) (w:β) (h0:I 0 w):AZ step (0,w)=some (fin (l.foldl f w)):=by
 have h:=CT (step:=step) l (fun i w=>((i:Int),w)) (fun _ w x=>(.inl (f w x):β⊕τ)) fin I (fun i x w hx hI=>⟨(h1 i x w hx hI).1,fun w' hw=>by cases hw;exact(h1 i x w hx hI).2⟩) h2 (l.length+1) 0 w (by omega) (by omega) h0
 rw[show((0:Int),w)=(((0:Nat):Int),w)from rfl,h,List.drop_zero]
 congr 1
 clear h h1 h2 h0
 generalize 0=i
 revert i w
 induction l with
 |nil=>intro w i;rfl
 |cons x xs ih=>intro w i;rw[H3];exact ih _ _
theorem EV(g:α->β):∀(l:List α) (w:List β),l.foldl (fun w x=>w++[g x]) w=w++l.map g
 |[],w=>by simp
 |x::xs,w=>by
  rw[List.foldl_cons,EV g xs];simp
theorem Fe{a:List α}{b:List β}{i:Nat}{z:α×β}(h:(a.zip b)[i]? =some z):a[i]? =some z.1/\b[i]? =some z.2:=by rw[List.getElem?_zip_eq_some]at h;exact h
theorem JZ [DecidableEq α]:∀{a b:List α},a.length=b.length->(a.zip b).all (fun z=>decide (z.1=z.2))=decide (a=b)
 |[],[],_=>by simp
 |x::a,y::b,h=>by
  rw[List.zip_cons_cons,List.all_cons,JZ (a:=a) (b:=b) (by simpa using h)];by_cases hx:x=y<;>by_cases hy:a=b<;>simp[hx,hy]
 |[],_::_,h=>by simp at h
 |_::_,[],h=>by simp at h
theorem FT(a b:Nat):decide ((a:Int)=(b:Int))=decide (a=b):=by
 by_cases h:a=b;simp[h];have:¬(a:Int)=(b:Int):=by omega
 simp[h,this]
theorem L4 [DecidableEq α]{step:Int->Option (Int⊕τ)}(a b:List α)(t f:τ)(hl:a.length=b.length)
 (h1:∀(i:Nat) x y,a[i]? =some x->b[i]? =some y->step i=some (if decide (x=y)=true then .inl ((i+1:Nat):Int)else .inr f)) (h2:step a.length=some (.inr t)):
 AZ step 0=some (if decide (a=b)=true then t else f):=by
 have hz:(a.zip b).length=a.length:=by simp[hl]
 have h:=A0 (step:=step) (a.zip b) (fun z=>decide (z.1=z.2)) t f (fun i z hz=>h1 i z.1 z.2 (Fe hz).1 (Fe hz).2) (by rw[hz];exact h2)
 rw[JZ hl]at h
 exact h
end
theorem aA9{τ:Type}{step:Int->Option (Int⊕τ)}(n i0:Nat)(P:Nat->Prop)(Q:τ->Prop)(hi:i0<=n)
 (h1:∀i:Nat,i0<=i->i<n->(step i=some (.inl ((i+1:Nat):Int))/\P i)\/∃t,step i=some (.inr t)/\Q t)
 (h2:(∀j,i0<=j->j<n->P j)->∃t,step n=some (.inr t)/\Q t):∃t,AZ step i0=some t/\Q t:=by
 refine Eb (fun s=>∃i:Nat,s=(i:Int)/\i0<=i/\i<=n/\∀j,i0<=j->j<i->P j) (fun s=>(n-s).toNat) Q ?_ (i0:Int) ⟨i0,rfl,Nat.le_refl _,hi,fun j a b=>by omega⟩
 rintro s ⟨i,rfl,a,b,c⟩
 by_cases he:i=n
 subst he
 exact .inl (h2 c)
 rcases h1 i a (by omega)with⟨d,e⟩|d
 refine .inr ⟨_,d,⟨i+1,rfl,by omega,by omega,fun j f g=>?_⟩,by omega⟩
 rcases Nat.lt_or_ge j i with h|h
 exact c j f h
 have:j=i:=by omega
 subst this;exact e
 exact .inl d
theorem Bu{τ:Type}{step:Int->Option (Int⊕τ)}(n:Nat)(P:Nat->Prop)(Q:τ->Prop)
 (h1:∀i:Nat,i<n->(step i=some (.inl ((i+1:Nat):Int))/\P i)\/∃t,step i=some (.inr t)/\Q t)
 (h2:(∀j,j<n->P j)->∃t,step n=some (.inr t)/\Q t):∃t,AZ step 0=some t/\Q t:=
 aA9 (step:=step) n 0 P Q (Nat.zero_le _) (fun i _ hi=>h1 i hi) (fun h=>h2 fun j hj=>h j (Nat.zero_le _) hj)
theorem Aq{α:Type}{n:Nat}{l:List α}{x:α}(h:l[n]? =some x)(hl:l.length<=9223372036854775807):AB .add .i64 (n:Int) 1=((n+1:Nat):Int):=by have:=(List.getElem?_eq_some_iff.1 h).1;exact IA (by omega)
theorem ltD{α:Type}{n:Nat}{l:List α}{x:α}(h:l[n]? =some x):decide ((n:Int)<(l.length:Int))=true:=by have:=(List.getElem?_eq_some_iff.1 h).1;simp;omega
theorem ltI(n:Nat):decide ((n:Int)<(n:Int))=false:=by simp
theorem CX{β:Type}(p:Prop) [Decidable p](a b:Option β):AE (decide p) a b=if p then a else b:=by by_cases h:p<;>simp[h,AE]
theorem BM{α:Type}{n:Nat}{l:List α}{x:α}(h:l[n]? =some x):n<l.length:=(List.getElem?_eq_some_iff.1 h).1
end Go.Ac
namespace Go.Ac
def Le{α:Type}(a b:Option α):Prop:=∀r,a=some r->b=some r
section
variable {α β γ σ τ:Type}
theorem Le.refl(a:Option α):Le a a:=fun _ h=>h
theorem AF{a b:Option α}{k k':α->Option β}(h:Le a b)(hk:∀x,Le (k x) (k' x)):Le (AG a k) (AG b k'):=fun r e=>by
 cases a with
 |none=>cases e
 |some x=>rw[h x rfl];exact hk x r e
theorem AO{c:Bool}{a b a' b':Option β}(h1:Le a a')(h2:Le b b'):Le (AE c a b) (AE c a' b'):=by cases c;exact h2;exact h1
theorem Ba{p:Prop} [Decidable p]{k k':Option β}(h:Le k k'):Le (Az p k) (Az p k'):=fun r e=>by unfold Az at e⊢;split at e;rename_i hp;rw[if_pos hp];exact h r e;cases e
theorem Af{xs:List α}{i:Int}{k k':α->Option β}(h:∀x,Le (k x) (k' x)):Le (Ab xs i k) (Ab xs i k'):=fun r e=>by unfold Ab at e⊢;split at e;rename_i hp;rw[if_pos hp];split at e;rename_i hx;exact h _ r e;cases e;cases e
theorem Ap{o:α⊕β}{f f':α->Option γ}{g g':β->Option γ}(h1:∀x,Le (f x) (f' x))(h2:∀x,Le (g x) (g' x)):Le (As o f g) (As o f' g'):=by
 cases o with
 |inl x=>exact h1 x
 |inr x=>exact h2 x
theorem aK4{step step':σ->Option (σ⊕τ)}(h:∀s,Le (step s) (step' s)):∀(n:Nat) (s:σ),Le (itE step n s) (itE step' n s)
 |0,s=>Le.refl _
 |n+1,s=>fun r e=>by
  simp only[itE]at e⊢;split at e;cases e;rename_i s' hs;rw[h s _ hs];exact aK4 h n s' r e;rename_i t hs;rw[h s _ hs];exact e
theorem AS{step step':σ->Option (σ⊕τ)}(h:∀s,Le (step s) (step' s))(n:Nat)(s:σ):Le (itE step n s) (AZ step' s):=fun r e=>Ec.2 ⟨n,aK4 h n s r e⟩
theorem QQ{step step':α->σ->Option σ}(h:∀x s,Le (step x s) (step' x s)):∀(l:List α) (s:σ),Le (DC step s l) (DC step' s l)
 |[],s=>Le.refl _
 |x::l,s=>AF (h x s) fun s'=>QQ h l s'
def FM(x:α):List α->List (List α)
 |[]=> [[x]]
 |y::l=>(x::y::l)::(FM x l).map (y:: ·)
def FW:List α->List (List α)
 |[]=> [[]]
 |x::l=>((FW l).map (FM x)).flatten
theorem Ha(x:α):∀(a b:List α),a++x::b∈FM x (a++b)
 |[],[]=>by simp[FM]
 |[],y::b=>by simp[FM]
 |y::a,b=>by
  simp only[List.cons_append,FM,mc,mm];exact .inr ⟨_,Ha x a b,rfl⟩
theorem EI:∀{xs p:List α},p.Perm xs->p∈FW xs
 |[],p,h=>by rw[h.eq_nil];simp[FW]
 |x::xs,p,h=>by
  obtain⟨a,b,rfl⟩:=List.append_of_mem (h.mem_iff.2 (List.mem_cons_self (a:=x) (l:=xs)));have hp:(a++b).Perm xs:=(List.perm_middle.symm.trans h).cons_inv;simp only[FW,List.mem_flatten,mm];exact⟨_,⟨_,EI hp,rfl⟩,Ha x a b⟩
def aAp [DecidableEq τ](c:σ->τ)(xs:List α)(step:α->σ->Option σ)(s:σ):Option τ:=
 AG (DC step s xs) fun s1=>if((FW xs).all fun p=>match DC step s p with
  |some s2=>decide (c s2=c s1)
  |none=>false)=true then some (c s1)else none
theorem QJ [DecidableEq τ]{c:σ->τ}{xs:List α}{step step':α->σ->Option σ}{s:σ}(h:∀x s,Le (step x s) (step' x s)):Le (aAp c xs step s) (Fi c xs step' s):=fun r e=>by
 unfold aAp at e;cases h1:DC step s xs with
 |none=>rw[h1]at e;cases e
 |some s1=>
  rw[h1,AD]at e
  split at e
  rename_i ha
  simp only[oe]at e
  subst e
  refine Hb fun p hp=>?_
  have:=List.all_eq_true.1 ha p (EI hp)
  split at this
  rename_i s2 h2
  exact⟨s2,QQ h p s _ h2,of_decide_eq_true this⟩
  cases this
  cases e
def aZs [DecidableEq τ](f:List α->Option τ)(xs:List α):Option τ:=
 AG (f xs) fun r=>if((FW xs).all fun p=>decide (f p=some r))=true then some r else none
theorem aKm [DecidableEq τ]{f f':List α->Option τ}{xs:List α}(h:∀xs,Le (f xs) (f' xs)):Le (aZs f xs) (bagE f' xs):=fun r e=>by
 unfold aZs at e;cases h1:f xs with
 |none=>rw[h1]at e;cases e
 |some r1=>
  rw[h1,AD]at e
  split at e
  rename_i ha
  simp only[oe]at e
  subst e
  refine No fun p hp=>?_
  have:=List.all_eq_true.1 ha p (EI hp)
  exact h p _ (of_decide_eq_true this)
  cases e
end
end Go.Ac
namespace Go.Ac
open Go.ChangeShapes Go.WideShapes Go.ChangeAt Go.RowKit

def hOf(w:World):Hw:=fun b=>match w.heap[b]? with
 |some (.cells cs _ _)=>cs.size
 |_=>0
theorem aK1{w:World}{a:Addr}{v:Value}(h:w.cell? a=some v):a.off<hOf w a.block:=by
 have hs:=LU h;obtain⟨b,o,sp⟩:=a;simp only at hs;subst hs;unfold World.cell? at h;unfold hOf;simp only at h⊢;cases hb:w.heap[b]? with
 |none=>simp[hb]at h
 |some ob=>
  cases ob with
  |cells cs t fr=>
   simp[hb]at h
   exact(Array.getElem?_eq_some_iff.1 h).1
  |_=>simp[hb]at h
def BK{α:Type}(P:Program)(t:TypeId)(f:α->D)(R:α->Prop):Prop:=
 ∀{H:Type} (enc:TypeId×Value->H) (w:World) (sp:Nat->Bool) (held:Bool) (fuel:Nat) (cs:List Value) (x:DataW H×List MemPlace),DataW.trod enc P w 0 sp held fuel t cs=some x->
  ∃v:α,RDs (hOf w) w (f v).cells cs/\R v
theorem A3{P:Program}{t:TypeId}{k:IntKind}(ht:P.underlying t=some (.int k)):BK P t (D.i k) (fun n=>(Lit.int k n).wf=true):=by
 intro H enc w sp held fuel cs x h;cases fuel with
 |zero=>simp[DataW.trod]at h
 |succ fuel=>
  unfold DataW.trod at h
  rw[ht]at h
  match cs,h with
  |[.int k' n],h=>
   simp only at h
   split at h
   rename_i hc
   obtain⟨rfl,hw⟩:=hc
   exact⟨n,by simp only[D.i,D.cells,RDs,RD];exact⟨_,[],rfl,⟨rfl,rfl⟩,rfl,rfl⟩,hw⟩
   cases h
theorem Dm{P:Program}{t:TypeId}(ht:P.underlying t=some .bool):BK P t D.b (fun _=>True):=by
 intro H enc w sp held fuel cs x h;cases fuel with
 |zero=>simp[DataW.trod]at h
 |succ fuel=>
  unfold DataW.trod at h
  rw[ht]at h
  match cs,h with
  |[.bool b],h=>exact⟨b,by simp only[D.b,D.cells,RDs,RD];exact⟨_,[],rfl,⟨rfl,rfl⟩,rfl,rfl⟩,trivial⟩
theorem Br{P:Program}{t:TypeId}(ht:P.underlying t=some .string):BK P t D.s (fun l=>l.length<=9223372036854775807):=by
 intro H enc w sp held fuel cs x h;cases fuel with
 |zero=>simp[DataW.trod]at h
 |succ fuel=>
  unfold DataW.trod at h
  rw[ht]at h
  match cs,h with
  |[.string s],h=>
   simp only at h
   split at h
   rename_i hc
   exact⟨s.data.toList,by simp only[D.s,D.cells,RDs,RD];exact⟨_,[],rfl,⟨rfl,rfl⟩,rfl,rfl⟩,by simpa[maxLen]using hc⟩
   cases h
theorem AT{h:Hw}{w:World}{A B:List D}{cs:List Value}{o k:Nat}(h1:RDs h w A ((cs.drop o).take k))(h2:RDs h w B (cs.drop (o+k))):RDs h w (A++B) (cs.drop o):=by have:=RDs.append h1 h2;rwa [<-List.drop_drop,List.take_append_drop]at this
theorem IC{H:Type}{enc:TypeId×Value->H}{P:Program}{w:World}{sp:Nat->Bool}{held:Bool}{fuel:Nat}{cs:List Value}:∀{l:List Field} {xs:List (DataW H×List MemPlace)},
 l.mapM (fun f=>DataW.trod enc P w 0 sp held fuel f.type ((cs.drop f.offset).take (P.cellsOf f.type)))=some xs->∀f∈l,∃x,DataW.trod enc P w 0 sp held fuel f.type ((cs.drop f.offset).take (P.cellsOf f.type))=some x
 |[],xs,_,f,hf=>by cases hf
 |g::l,xs,h,f,hf=>by
  simp only[List.mapM_cons]at h;cases h1:DataW.trod enc P w 0 sp held fuel g.type ((cs.drop g.offset).take (P.cellsOf g.type))with
  |none=>simp[h1]at h
  |some y=>
   rcases mc.1 hf with rfl|hf
   exact⟨y,h1⟩
   cases h2:l.mapM (fun f=>DataW.trod enc P w 0 sp held fuel f.type ((cs.drop f.offset).take (P.cellsOf f.type)))with
   |none=>simp[h1,h2]at h
   |some ys=>exact IC h2 f hf
theorem Ay{P:Program}{t:TypeId}{fs:Array Field}{n:Nat}{α:Type}{f:α->D}{R:α->Prop}(ht:P.underlying t=some (.struct fs))(hn:P.cellsOf t=n)
 (key:∀{H:Type} (enc:TypeId×Value->H) (w:World) (sp:Nat->Bool) (held:Bool) (fuel:Nat) (cs:List Value),cs.length=n->
  (∀g∈fs.toList,∃x,DataW.trod enc P w 0 sp held fuel g.type ((cs.drop g.offset).take (P.cellsOf g.type))=some x)->∃v:α,RDs (hOf w) w (f v).cells cs/\R v):BK P t f R:=by
 intro H enc w sp held fuel cs x h
 cases fuel with
 |zero=>simp[DataW.trod]at h
 |succ fuel=>
  unfold DataW.trod at h
  rw[ht]at h
  simp only at h
  split at h
  rename_i hc
  simp only[om]at h
  obtain⟨xs,hx,_⟩:=h
  exact key enc w sp held fuel cs (by rw[hc,hn]) (IC hx)
  cases h

theorem SJ{w:World}{a:Addr}{n:Nat}{cs:List Value}(h:w.cells? 0 a n=some cs):cs.length=n/\∀j v,cs[j]? =some v->w.cell? (a.add j)=some v:=by
 unfold World.cells? at h;simp only[Nat.zero_le,if_true]at h;have key:∀(l:List Nat) (cs:List Value),l.mapM (fun i=>w.cell? (a.add i))=some cs->cs.length=l.length/\∀(j i:Nat) (v:Value),l[j]? =some i->cs[j]? =some v->w.cell? (a.add i)=some v:=by
  intro l;induction l with
  |nil=>intro cs h;simp at h;subst h;simp
  |cons x l ih=>
   intro cs h
   simp only[List.mapM_cons]at h
   cases h1:w.cell? (a.add x)with
   |none=>simp[h1]at h
   |some y=>
    cases h2:l.mapM (fun i=>w.cell? (a.add i))with
    |none=>simp[h1,h2]at h
    |some ys=>
     simp[h1,h2]at h
     subst h
     obtain⟨g1,g2⟩:=ih ys h2
     refine⟨by simp[g1],fun j i v hj hv=>?_⟩
     cases j with
     |zero=>simp at hj hv;subst hj;subst hv;exact h1
     |succ j=>exact g2 j i v (by simpa using hj) (by simpa using hv)
 obtain⟨h1,h2⟩:=key _ _ h;rw[List.length_range]at h1;refine⟨h1,fun j v hj=>h2 j j v ?_ hj⟩;have:j<n:=by rw[<-h1];exact(List.getElem?_eq_some_iff.1 hj).1
 rw[List.getElem?_range this]
theorem Ns{h:Hw}{w:World}{x:D}{cs:List Value}(hr:RDs h w x.cells cs):∃u:Value,u.cells.toList=cs/\RD h w x u:=by
 cases x with
 |agg l=>
  refine⟨.agg ⟨cs⟩,rfl,?_⟩
  simp only[RD]
  exact⟨cs,rfl,hr⟩
 |v x=>
  simp only[D.cells,RDs]at hr
  obtain⟨u,us',rfl,h1,h2,rfl⟩:=hr
  have hc:u.cells= #[u]:=by cases u<;>first|rfl|(simp[Value.oneCell']at h2)
  exact⟨u,by rw[hc],h1⟩
 |sl xs=>
  simp only[D.cells,RDs]at hr
  obtain⟨u,us',rfl,h1,h2,rfl⟩:=hr
  have hc:u.cells= #[u]:=by cases u<;>first|rfl|(simp[Value.oneCell']at h2)
  exact⟨u,by rw[hc],h1⟩
 |ptr xs=>
  simp only[D.cells,RDs]at hr
  obtain⟨u,us',rfl,h1,h2,rfl⟩:=hr
  have hc:u.cells= #[u]:=by cases u<;>first|rfl|(simp[Value.oneCell']at h2)
  exact⟨u,by rw[hc],h1⟩
theorem BC{P:Program}{t e:TypeId}{α:Type}{f:α->D}{R:α->Prop}{k:Nat} [hk:Bz f k](ht:P.underlying t=some (.slice e))(hc:P.cellsOf e=k)(he:BK P e f R):
 BK P t (D.l f) (fun l=>l.length<=9223372036854775807/\∀x∈l,R x):=by
 intro H enc w sp held fuel cs x h
 cases fuel with
 |zero=>simp[DataW.trod]at h
 |succ fuel=>
  unfold DataW.trod at h
  rw[ht]at h
  match cs,h with
  |[.slice none 0 0],_=>
   exact⟨[],by simp only[D.l,List.map_nil,D.cells,RDs];exact⟨_,[],rfl,Id _ _,rfl,rfl⟩,by simp⟩
  |[.slice (some a) len cap],h=>
   simp only at h
   split at h
   rename_i hh
   simp only[Option.bind_eq_some_iff]at h
   obtain⟨elems,hel,_⟩:=h
   have key:∀(n:Nat) (ys:List (DataW H×List MemPlace)),(List.range n).mapM (fun i=>(w.cells? 0 (a.add (i*P.cellsOf e)) (P.cellsOf e)).bind (DataW.trod enc P w 0 sp held fuel e))=some ys->
    ∃(vs:List α) (us:List Value),vs.length=n/\Ah (hOf w) w k (vs.map f) us/\(∀x∈vs,R x)/\∀j v,us[j]? =some v->w.cell? (a.add j)=some v:=by
    intro n
    induction n with
    |zero=>intro ys _;exact⟨[],[],rfl,by simp[Ah],by simp,by simp⟩
    |succ n ih=>
     intro ys h
     rw[List.range_succ,List.mapM_append]at h
     cases h1:(List.range n).mapM (fun i=>(w.cells? 0 (a.add (i*P.cellsOf e)) (P.cellsOf e)).bind (DataW.trod enc P w 0 sp held fuel e))with
     |none=>simp[h1]at h
     |some zs=>
      obtain⟨vs,us,g1,g2,g3,g4⟩:=ih zs h1
      cases h2:w.cells? 0 (a.add (n*P.cellsOf e)) (P.cellsOf e)with
      |none=>simp[h1,h2]at h
      |some cs'=>
       cases h3:DataW.trod enc P w 0 sp held fuel e cs' with
       |none=>simp[h1,h2,h3]at h
       |some y=>
        obtain⟨v,r1,r2⟩:=he enc w sp held fuel cs' y h3
        obtain⟨u,e1,r3⟩:=Ns r1
        obtain⟨c1,c2⟩:=SJ h2
        have hul:=Ah.length g2
        rw[List.length_map,g1]at hul
        have hn:(f v).nc=k:=Bz.h v
        refine⟨vs++[v],us++cs',by simp[g1],?_,?_,?_⟩
        rw[List.map_append]
        refine g2.append ?_
        simp only[List.map_cons,List.map_nil,Ah]
        refine⟨u,[],by simp[e1],?_,hn,r3,?_,rfl⟩
        rw[RD.size r3,hn]
        exact(RD.cells r3).2
        intro x hx
        rcases ma.1 hx with hx|hx
        exact g3 x hx
        simp at hx;subst hx;exact r2
        intro j v' hj
        rcases Nat.lt_or_ge j us.length with hlt|hge
        rw[List.getElem?_append_left hlt]at hj
        exact g4 j v' hj
        rw[List.getElem?_append_right hge]at hj
        have:=c2 _ _ hj
        rw[HL,hul,hc]at this
        rw[show n*k+(j-n*k)=j by omega]at this
        exact this
   obtain⟨vs,us,g1,g2,g3,g4⟩:=key len elems hel
   refine⟨vs,?_,by rw[g1];have:=hh.2.1;have:=hh.2.2;simp[maxLen]at this;omega,g3⟩
   simp only[D.l,D.cells,RDs]
   refine⟨_,[],rfl,?_,rfl,rfl⟩
   simp only[RD]
   refine⟨some a,cap,k,us,by rw[List.length_map,g1],by rw[List.length_map,g1];exact hh.2.1,hh.2.2,g2,fun _=>⟨a,rfl,fun j v hj=>?_⟩⟩
   have:=g4 j v hj
   refine⟨this,?_⟩
   have h5:=aK1 this
   rw[Bo,C2]at h5
   exact h5
   cases h

theorem KJ{h h':Hw}{w w':World}(k:BI [] h w h' w'):Below w.heap.size w w':=
 ⟨k.os,k.tape,k.output,k.size,fun b hb=>(k.far b hb (by simp)).1⟩
section
variable {H:Type} {enc:TypeId×Value->H} {P:Program}
theorem Km{f:Func}{s:ChangeSpec}{apart fresh handsOn again:Bool}{W W':World}{args:Array Value}{v:Value}{ds gs:List (DataW H)}{before pa pv:List MemPlace}
 (hW:DataW.Whole enc P f.params.toList s.vars apart W args.toList ds gs before)
 (hres:∀(b:Nat) (sp:Nat->Bool) (hd:Bool),DataW.TrodAll enc P W' b sp hd f.resultTypes.toList (v.resultList f.resultTypes.size) (s.fn H (ds++gs)).results [])
 (hargs:∀sp:Nat->Bool,(∀p∈before,sp p.block=true)->DataW.TrodAll enc P W' 0 sp true f.params.toList args.toList (s.fn H (ds++gs)).args pa)
 (hvars:∀sp:Nat->Bool,(∀p∈before,sp p.block=true)->DataW.TrodVars enc P W' sp s.vars (s.fn H (ds++gs)).vars pv)
 (hps:before=pa++pv) (hb:Below W.heap.size W W')
 (hok:∀(j:Nat) (t:TypeId) (r:Value),f.resultTypes[j]? =some t->(v.resultList f.resultTypes.size)[j]? =some r->Value.okWide P W' .any 0 t r):
 s.post enc P f apart fresh handsOn again W args v W':=by
 have hlt:∀p∈before,p.block<W.heap.size:=fun p hp=>hW.lt p hp
 have hold:∀p∈before,(fun b=>decide (b<W.heap.size)) p.block=true:=fun p hp=>by simpa using hlt p hp
 refine⟨ds,gs,before,[],pa,pv,hW,hres _ _ _,hargs _ hold,hvars _ hold,World.keptBut_mono (fun p hp=>⟨hp,?_⟩) (hb.frame (· ∈before)),fun _=>?_⟩
 rw[hps,ma]at hp
 exact Or.inr hp
 obtain⟨_,_,_,_,_,hz,hn⟩:=hW
 refine⟨hok,_,_,([]++pa)++pv,⟨[]++pa,pv,trodAll_append (hargs _ (fun _ _=>rfl)) (hres _ _ _),hvars _ (fun _ _=>rfl),rfl,?_,?_⟩,?_⟩
 intro b off hp
 have hin:MemPlace.cell b off∈before:=by rw[hps];simpa using hp
 rw[hb.frozen (hlt _ hin)]
 exact hz b off hin
 intro ha
 have:=hn ha
 rw[hps]at this
 simpa using this
 intro p hp _
 rw[hps]
 simpa using hp
end
theorem Ep{H:Type}{enc:TypeId×Value->H}{P:Program}(hl:laidOutB P=true){W W':World}(hb:Below W.heap.size W W'):∀{ts:List TypeId} {vs:List Value} {ds:List (DataW H)} {ps:List MemPlace},
 (ts.all fun t=>P.readableRec t&&decide (t<P.types.size))=true->DataW.TrodAll enc P W 0 (fun _=>true) true ts vs ds ps->(∀x∈ps,x.block<W.heap.size)->∀sp:Nat->Bool,(∀p∈ps,sp p.block=true)->
 DataW.TrodAll enc P W' 0 sp true ts vs ds ps
 |[],[],[],ps,_,h,_,sp,_=>h
 |t::ts,v::vs,d::ds,ps,ht,h,hlt,sp,hsp=>by
  obtain⟨p,q,h1,h2,rfl⟩:=h;simp only[List.all_cons,ba,decide_eq_true_eq]at ht;exact⟨p,q,WideElems.Trod_stays hl ht.1.1 ht.1.2 h1 (fun x hx=>hb.same (hlt x (ml_ _ hx))) (fun x hx=>hsp x (ml_ _ hx)),
   Ep hl hb ht.2 h2 (fun x hx=>hlt x (mr_ _ hx)) sp (fun x hx=>hsp x (mr_ _ hx)),rfl⟩
 |[],_::_,_,_,_,h,_,_,_=>h.elim
 |[],[],_::_,_,_,h,_,_,_=>h.elim
 |_::_,[],_,_,_,h,_,_,_=>h.elim
 |_::_,_::_,[],_,_,h,_,_,_=>h.elim
theorem Ly{P:Program}{F:FuncId}{f:Func}{s:ChangeSpec}{H:Type}{enc:TypeId×Value->H}{W:World}{args:Array Value}{ds gs:List (DataW H)}{before:List MemPlace}{tb:TypeId}
 (hl:laidOutB P=true) (hts:(f.params.toList.all fun t=>P.readableRec t&&decide (t<P.types.size))=true) (hr:f.resultTypes= #[tb]) (htb:P.underlying tb=some .bool) (hvs:s.vars=[])
 (hfn:∀ds:List (DataW H),ds.length=f.params.size->s.fn H ds={results:=[.lit (.bool true)],args:=ds,vars:=[]})
 (hW:DataW.Whole enc P f.params.toList s.vars false W args.toList ds gs before)
 (hcall:∃as':List A,RAs (hOf W) W (fun _=>.bool true) as' args.toList/\AM P F as' [] (bo true) []) (hglob:GOk (hOf W) W):
 Calls P F args W fun e W'=>∃v,e=.returned v/\s.post enc P f false true false false W args v W':=by
 have hW':=hW
 obtain⟨p,q,hA,hV,rfl,hfz,hnd⟩:=hW
 have hlt:∀x∈p++q,x.block<W.heap.size:=fun x hx=>hW'.lt x hx
 rw[hvs]at hV
 have hg:gs=[]/\q=[]:=by
  cases gs with
  |nil=>exact⟨rfl,by simpa[DataW.TrodVars]using hV⟩
  |cons g gs=>simp[DataW.TrodVars]at hV
 obtain⟨rfl,rfl⟩:=hg
 have hlen:∀{ts:List TypeId} {vs:List Value} {ds:List (DataW H)} {ps:List MemPlace},DataW.TrodAll enc P W 0 (fun _=>true) true ts vs ds ps->ds.length=ts.length:=by
  intro ts;induction ts with
  |nil=>
   intro vs ds ps h
   cases vs<;>cases ds<;>first|rfl|exact h.elim
  |cons t ts ih=>
   intro vs ds ps h
   cases vs<;>cases ds<;>first|exact h.elim|(obtain⟨_,_,_,h2,_⟩:=h;simp[ih h2])
 have hd:ds.length=f.params.size:=by rw[hlen hA];simp
 obtain⟨as',hra,hc⟩:=hcall
 refine(hc (hOf W) W (fun _=>.bool true) args.toList (Inv.nil hglob _) hra).mono fun e W' hh=>?_
 obtain⟨h',val',u,rfl,_,hu,hk,_,_⟩:=hh
 have hb:=KJ hk
 simp only[bo,RA,RD]at hu
 obtain⟨rfl,_⟩:=hu
 have hsf:s.fn H (ds++[])={results:=[.lit (.bool true)],args:=ds,vars:=[]}:=by rw[List.append_nil];exact hfn ds hd
 simp only[List.append_nil]at hlt hW'
 refine⟨_,rfl,Km (pa:=p) (pv:=[]) (ds:=ds) (gs:=[]) (before:=p) hW' ?_ ?_ ?_ (by simp) hb ?_⟩
 intro b sp hd
 rw[hsf,hr]
 exact trodAll_mk1 (shut_bool htb _)
 intro sp hsp
 rw[hsf]
 exact Ep hl hb hts hA hlt sp hsp
 intro sp _
 rw[hsf,hvs];rfl
 exact ok_one hr rfl (okWide_bool_mk htb _)

theorem Kj{P:Program}{w:World}{base:Nat}{t:TypeId}{v:Value}(h:Value.okWide P w .any base t v)
 (ht:(match P.underlying t with|some (.int _)|some .bool|some .string|some (.slice _)=>true|_=>false)=true):∀cs,v≠ .agg cs:=by
 intro cs e
 subst e
 unfold Value.okWide at h
 split at ht<;>first|cases ht|skip
 all_goals (rename_i hu;simp only[hu,Cell.okWide,Cell.ok]at h)
theorem aNm{h:Hw}{w:World}{x:D}{v:Value}(hr:RDs h w x.cells v.cells.toList)(hx:∀c,x≠ .agg c)(hv:∀cs,v≠ .agg cs):RD h w x v:=by
 have e:v.cells= #[v]:=by cases v<;>first|rfl|exact absurd rfl (hv _)
 rw[e]at hr;have e2:x.cells=[x]:=by cases x<;>first|rfl|exact absurd rfl (hx _)
 rw[e2]at hr;simp only[RDs]at hr;obtain⟨u,us',h1,h2,_⟩:=hr;simp at h1;rw[h1.1];exact h2
theorem aNl{h:Hw}{w:World}{cs:List D}{v:Value}(hr:RDs h w cs v.cells.toList)(hv:∃us,v=.agg us):RD h w (.agg cs) v:=by obtain⟨us,rfl⟩:=hv;simp only[RD];exact⟨us.toList,rfl,hr⟩
theorem KA{P:Program}{w:World}{base:Nat}{t:TypeId}{v:Value}{fs:Array Field}(h:Value.okWide P w .any base t v)(ht:P.underlying t=some (.struct fs)):∃us,v=.agg us:=by unfold Value.okWide at h;rw[ht]at h;obtain⟨cs,rfl,_⟩:=h;exact⟨cs,rfl⟩
theorem ZI{α:Type}{P:Program}{t:TypeId}{f:α->D}{R:α->Prop}(hR:BK P t f R){H:Type}{enc:TypeId×Value->H}{W:World}{v:Value}{d:DataW H}{p:List MemPlace}{base:Nat}{sp:Nat->Bool}
 (h:DataW.Trod enc P W 0 sp true t v d p) (hx:∀a c,f a≠ .agg c) (hok:Value.okWide P W .any base t v)
 (ht:(match P.underlying t with|some (.int _)|some .bool|some .string|some (.slice _)=>true|_=>false)=true):∃x:α,RD (hOf W) W (f x) v/\R x:=by
 obtain⟨fuel,h⟩:=h
 obtain⟨x,h1,h2⟩:=hR enc W _ _ _ _ _ h
 exact⟨x,aNm h1 (hx x) (Kj hok ht),h2⟩
theorem JA{α:Type}{P:Program}{t:TypeId}{f:α->D}{R:α->Prop}(hR:BK P t f R){H:Type}{enc:TypeId×Value->H}{W:World}{v:Value}{d:DataW H}{p:List MemPlace}{base:Nat}{sp:Nat->Bool}{fs:Array Field}
 (h:DataW.Trod enc P W 0 sp true t v d p) (hx:∀a,∃c,f a=.agg c) (hok:Value.okWide P W .any base t v)
 (ht:P.underlying t=some (.struct fs)):∃x:α,RD (hOf W) W (f x) v/\R x:=by
 obtain⟨fuel,h⟩:=h
 obtain⟨x,h1,h2⟩:=hR enc W _ _ _ _ _ h
 obtain⟨c,hc⟩:=hx x
 refine⟨x,?_,h2⟩
 rw[hc]at h1⊢
 exact aNl h1 (KA hok ht)
end Go.Ac
namespace Go.Ac
theorem CE(k:IntKind)(n:Int):(D.i k n).cells=[D.i k n]:=rfl
theorem CD(b:Bool):(D.b b).cells=[D.b b]:=rfl
theorem CG(l:List UInt8):(D.s l).cells=[D.s l]:=rfl
theorem CH(c:UInt8):(AY c).cells=[AY c]:=rfl
theorem CF{α:Type}(f:α->D)(l:List α):(D.l f l).cells=[D.l f l]:=rfl
theorem BS(l:List D):(D.agg l).cells=l:=rfl
end Go.Ac
