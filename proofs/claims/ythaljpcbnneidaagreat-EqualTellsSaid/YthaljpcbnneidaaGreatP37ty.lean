/- Own work: the plain law. -/
import Derived.Test.YthaljpcbnneidaaGreatP37tx
set_option linter.unusedVariables false
set_option linter.unusedSimpArgs false
namespace Go.Ac
noncomputable section
theorem aDl(n:Nat)(p:Nat->Bool):Jc n p<2^n:=Nat.lt_pow_two_of_testBit _ fun i hi=>by
 cases h:(Jc n p).testBit i with
 |false=>rfl
 |true=>have:=(KM n p i).1 h;omega
theorem Jd{a b:Nat}(h:∀k,a.testBit k=true↔b.testBit k=true):a=b:=Nat.eq_of_testBit_eq fun i=>by rw[Bool.eq_iff_iff];exact h i
def Ft(b:List X2)(a:BJ)(x:X0):Bool:=if a.kind=1 then decide (a.value=x)else if a.kind=2 then decide (B4 b a.n=(x,true))else true
theorem Kz{w b:List X2}(h:BI w b=true){s:X2}(hs:s∈w):B4 b s.var=(s.value,true):=by unfold BI at h;have:=(List.all_eq_true.1 h) s hs;simpa using this
theorem WE{w b:List X2}{x:X2}:BI (K4 w x) b=true↔B4 b x.var=(x.value,true)/\BI w b=true:=by unfold BI;simp only[List.all_eq_true,decide_eq_true_eq,Cx];constructor;intro h;exact⟨h x (.inl rfl),fun s hs=>h s (.inr hs)⟩;rintro⟨h1,h2⟩ s (rfl|hs);exact h1;exact h2 s hs
theorem Nf(b:List X2):∀(al:List BJ) (xs:List X0) (bd f:List X2),al.length=xs.length->(∀a∈al,a.kind≠3)->
 ((∃p,D1 al xs bd f=some p/\BI p.1 b=true)↔BI bd b=true/\∀z∈al.zip xs,Ft b z.1 z.2=true)
 |[],[],bd,f,_,_=>by simp[D1]
 |[],x::xs,bd,f,h,_=>by simp at h
 |a::al,[],bd,f,h,_=>by simp at h
 |a::al,x::xs,bd,f,hl,hk=>by
  have hl':al.length=xs.length:=by simpa using hl
  have hk':∀a∈al,a.kind≠3:=fun y hy=>hk y (List.mem_cons_of_mem _ hy);have h3:=hk a (by simp);have ih:=fun bd f=>Nf b al xs bd f hl' hk';rw[D1,List.zip_cons_cons];simp only[List.forall_mem_cons];unfold Ft;by_cases k1:a.kind=1;rw[if_pos k1,if_pos k1];by_cases hv:a.value=x;rw[if_pos hv,ih];simp[hv,Ft];rw[if_neg hv];simp[hv];rw[if_neg k1,if_neg k1];by_cases k2:a.kind=2;rw[if_pos k2,if_pos k2];unfold IL;by_cases hg:(B4 bd a.n).2=true;simp only[hg,if_true];have hge:B4 bd a.n=((B4 bd a.n).1,true):=by rw[<-hg]
  by_cases hv:(B4 bd a.n).1=x;simp only[hv,if_true];rw[ih];constructor;rintro⟨u,z⟩;have:=Kz u (Cw hge);simp only[hv]at this;exact⟨u,by simp[this],z⟩;rintro⟨u,_,z⟩;exact⟨u,z⟩;simp only[hv,if_false];constructor;rintro⟨p,hp,_⟩;cases hp;rintro⟨u,z,_⟩;have:=Kz u (Cw hge);simp only[decide_eq_true_eq]at z;rw[z]at this;exact absurd (by simpa using this.symm) hv;simp only[hg,if_false,Bool.false_eq_true];rw[ih,WE];simp only[decide_eq_true_eq];constructor;rintro⟨⟨h1,h2⟩,z⟩;exact⟨h2,h1,z⟩;rintro⟨h2,h1,z⟩;exact⟨⟨h1,h2⟩,z⟩;rw[if_neg k2,if_neg h3,if_neg k2,ih];simp[Ft]
def aDx(q:AA)(b:List X2)(d:Nat)(args:List X0)(i:Nat):Bool:=match q.symbols[i]? with
 |some s=>decide (s.event=(d:Int))&&(s.args.zip args).all fun z=>Ft b z.1 z.2
 |none=>false
def mkM(q:AA)(b:List X2)(d:Nat)(args:List X0):Nat:=Jc q.symbols.length (aDx q b d args)
theorem PC{q:AA}(hR:Ad q)(hS:Bg q){s:X8}(hs:s∈q.symbols):∀a∈s.args,a.kind≠3:=fun a ha h=>by have:=((hR.symbols s hs).args a ha).three h;rw[hS.frees]at this;simp at this;omega
theorem VJ{q:AA}(hR:Ad q){i j:Nat}{d d':X7}(h1:q.decls[i]? =some d)(h2:q.decls[j]? =some d')(hn:d.name=d'.name):i=j:=by have a1:=hR.decls i d h1;have a2:=hR.decls j d' h2;rw[hn,a2]at a1;exact(Option.some.inj a1).symm
theorem VT{q:AA}(hR:Ad q)(hS:Bg q)(b:List X2){e:X3}{d i:Nat}{dd:X7}(hd:q.decls[d]? =some dd)(hn:e.name=dd.name)(hl:e.args.length=dd.types.length):
 (∃h,DV q i e=some h/\BI h.bind b=true)↔aDx q b d e.args i=true:=by
 unfold DV aDx
 cases hs:q.symbols[i]? with
 |none=>simp
 |some s=>
  have hsm:=List.mem_of_getElem? hs
  obtain⟨d',hd',hlen⟩:=(hR.symbols s hsm).decl
  have h0:=(hR.symbols s hsm).event
  simp only[hd',ba,decide_eq_true_eq]
  by_cases he:s.event=(d:Int)
  have:s.event.toNat=d:=by omega
  rw[this,hd]at hd'
  cases hd'
  rw[if_pos ⟨hn.symm,by omega⟩]
  have:=Nf b s.args e.args [] [] (by omega) (PC hR hS hsm)
  rw[List.all_eq_true]
  constructor
  rintro⟨h,hh,hu⟩
  obtain⟨p,hp,rfl⟩:=om.1 hh
  exact⟨he,(this.1 ⟨p,hp,hu⟩).2⟩
  rintro⟨_,hz⟩
  obtain⟨p,hp,hu⟩:=this.2 ⟨by simp[BI],hz⟩
  exact⟨_,by rw[hp];rfl,hu⟩
  constructor
  rintro⟨h,hh,_⟩
  split at hh
  rename_i hc
  have:=VJ hR hd' hd (by rw[hc.1,hn])
  omega
  cases hh
  rintro⟨h,_⟩;exact absurd h he
theorem aI3{q:AA}(hF:CS q)(hR:Ad q)(hS:Bg q)(b:List X2){e:X3}{d:Nat}{dd:X7}(hd:q.decls[d]? =some dd)(hn:e.name=dd.name)(hl:e.args.length=dd.types.length):
 Yz (((List.range q.symbols.length).filterMap fun i=>DV q i e).filter fun h=>BI h.bind b)=some ((mkM q b d e.args:Nat):Int):=by
 obtain⟨M,hM,_,hb⟩:=K9 hF.symbols (FK hF hR hS e b)
 rw[hM]
 congr 2
 apply Jd
 intro k
 rw[hb]
 unfold mkM
 rw[KM]
 simp only[List.mem_filter,List.mem_filterMap,List.mem_range]
 constructor
 rintro⟨h,⟨⟨i,hi,hh⟩,hu⟩,hk⟩
 have hik:i=k:=by have:=(Ip hh).1;omega
 subst hik
 exact⟨hi,(VT hR hS b hd hn hl).1 ⟨h,hh,hu⟩⟩
 rintro⟨hk,hf⟩
 obtain⟨h,hh,hu⟩:=(VT hR hS b hd hn hl).2 hf
 exact⟨h,⟨⟨k,hk,hh⟩,hu⟩,(Ip hh).1⟩
theorem aE7{k:Int}(hk:k=1\/k=2){l w:List X0}(hl:l.length<=800)(hw:SW w)(hwl:w.length<=900)(hm:∀v,v.kind=k->(v∈w↔v∈l)):∃v,Xz k l=some (v,true)/\Y7 k w=some v/\v∉l/\v.kind=k/\vR v=true:=by
 have hex:∃i,0<=i/\i<0+(l.length+1)/\Es k i∉l:=by apply Classical.byContradiction;intro hn;have:=aF5 (Es k) (fun i j h=>aEf h) (l.length+1) l (fun i hi=>Classical.byContradiction fun h=>hn ⟨i,by omega,by omega,h⟩);omega
 obtain⟨i,_,hi,hni,a4,a5⟩:=Ns hk (by omega) hw hwl hm (X0.mk 0 0 [] false) (l.length+1) 0 (by omega) hex;have h0:Es k 0=X0.mk k 0 [] false:=by unfold Es;split<;>rfl
 rw[h0]at a4 a5;refine⟨Es k i,?_,?_,hni,Ki k i,Vl hk (by omega)⟩;unfold Xz;rcases hk with rfl|rfl
 simp only[decide_true,Bool.not_true,AF,a4,AD];simp only[show¬(2:Int)=1 by decide,decide_false,decide_true,Bool.not_false,Bool.not_true,AG,AF,a4,AD];unfold Y7;rw[a5,AD]
theorem HP{q:AA}{k:Int}{v:X0}:v∈FC q k↔(k=3/\(v=⟨3,0,[],false⟩\/v=⟨3,0,[],true⟩))\/∃s∈q.symbols,∃a∈s.args,a.kind=1/\a.value.kind=k/\v=a.value:=by
 have h1:∀(l:List BJ) (w:List X0),v∈l.foldl (K2 k) w↔v∈w\/∃a∈l,a.kind=1/\a.value.kind=k/\v=a.value:=by
  intro l;induction l with
  |nil=>intro w;simp
  |cons a l ih=>
   intro w
   rw[List.foldl_cons,ih]
   have:v∈K2 k w a↔v∈w\/(a.kind=1/\a.value.kind=k/\v=a.value):=by unfold K2;split;rename_i h;rw[Ej];simp[h.1,h.2,or_comm];rename_i h;constructor;exact .inl;rintro(h2|⟨a1,a2,_⟩);exact h2;exact absurd ⟨a1,a2⟩ h
   rw[this]
   constructor
   rintro((h|h)|⟨b,hb,h⟩)
   exact .inl h
   exact .inr ⟨a,by simp,h⟩
   exact .inr ⟨b,List.mem_cons_of_mem _ hb,h⟩
   rintro(h|⟨b,hb,h⟩)
   exact .inl (.inl h)
   rcases mc.1 hb with rfl|hb
   exact .inl (.inr h)
   exact .inr ⟨b,hb,h⟩
 have h2:∀(l:List X8) (w:List X0),v∈l.foldl (fun w s=>s.args.foldl (K2 k) w) w↔v∈w\/∃s∈l,∃a∈s.args,a.kind=1/\a.value.kind=k/\v=a.value:=by
  intro l;induction l with
  |nil=>intro w;simp
  |cons a l ih=>
   intro w
   rw[List.foldl_cons,ih,h1]
   constructor
   rintro((h|h)|⟨b,hb,h⟩)
   exact .inl h
   exact .inr ⟨a,by simp,h⟩
   exact .inr ⟨b,List.mem_cons_of_mem _ hb,h⟩
   rintro(h|⟨b,hb,h⟩)
   exact .inl (.inl h)
   rcases mc.1 hb with rfl|hb
   exact .inl (.inr h)
   exact .inr ⟨b,hb,h⟩
 unfold FC;rw[h2];by_cases hk:k=3;simp[hk];simp[hk]
theorem Oz{q:AA}{k:Int}{v:X0}(h:v∈FC q k):v.kind=k:=by
 rcases HP.1 h with⟨rfl,rfl|rfl⟩|⟨s,_,a,_,_,hk,rfl⟩
 rfl;rfl;exact hk
theorem vR3{v:X0}(hv:vR v=true)(hk:v.kind=3):v=⟨3,0,[],false⟩\/v=⟨3,0,[],true⟩:=by
 obtain⟨k,i,s,b⟩:=v;simp only at hk;subst hk;rcases Eq hv with h|h|h
 simp at h;simp at h;obtain⟨_,h2,h3⟩:=h;simp only at h2 h3;subst h2;subst h3;cases b<;>simp
theorem aD2{q:AA}(hF:CS q)(hR:Ad q){i:Nat}{e:X3}{h:AL}(hh:DV q i e=some h):h.bind.length<=12:=by unfold DV at hh;split at hh;cases hh;rename_i s hs;split at hh;cases hh;split at hh;have hsm:=List.mem_of_getElem? hs;obtain⟨p,hp,rfl⟩:=om.1 hh;have:=FI s.args e.args [] [] p (aMp hF hR hsm) ⟨List.Pairwise.nil,by simp⟩ ⟨List.Pairwise.nil,by simp⟩ (fun s hs=>by simp at hs) hp;have h12:=hF.args s hsm;have:=this.2.2.2.1;simp at this;simp only;omega;cases hh
theorem aFs{q:AA}(hF:CS q)(hR:Ad q)(hS:Bg q){b:List X2}(hB:BR b){d:Nat}{dd:X7}(hd:q.decls[d]? =some dd)(args:List X0)(hl:args.length=dd.types.length):
 ∃l1 l2,Xy q (X3.mk dd.name args)=some l1/\Y4 l1 b=some l2/\Yz l2=some ((mkM q b d args:Nat):Int):=by
 have hsy:=hF.symbols
 have hbl:=aJr hB
 have hlen:((List.range q.symbols.length).filterMap fun i=>DV q i (X3.mk dd.name args)).length<=1000:=by have h2:=List.length_filterMap_le (fun i=>DV q i (X3.mk dd.name args)) (List.range q.symbols.length);rw[List.length_range]at h2;omega
 have hbind:∀h∈(List.range q.symbols.length).filterMap (fun i=>DV q i (X3.mk dd.name args)),h.bind.length<=9223372036854775807:=fun h hh=>by obtain⟨i,hi,hh2⟩:=List.mem_filterMap.1 hh;have:=aD2 hF hR hh2;omega
 exact⟨_,_,aAb hF hR,aHa hlen hbind (by omega),aI3 hF hR hS b hd rfl hl⟩
theorem Eg{σ τ:Type}{step:σ->Option (σ⊕τ)}{I:σ->Prop}(hI:∀s s',I s->step s=some (.inl s')->I s'){s:σ}{t:τ}(h0:I s)(h:AT step s=some t):∃s',I s'/\step s'=some (.inr t):=by
 obtain⟨n,hn⟩:=Dk.1 h;clear h;induction n generalizing s with
 |zero=>simp[itE]at hn
 |succ n ih=>
  simp only[itE]at hn
  split at hn
  cases hn
  rename_i s' hs;exact ih (hI s s' h0 hs) hn
  rename_i t' hs;cases hn;exact⟨s,h0,hs⟩
theorem aLy{l:List X7}{i:Nat}{x:X7}(hx:l[i]? =some x)(hl:x.types.length<=8)(h:ZS l (i:Int) 0=some (.inl ())):∀t∈x.types,1<=t/\t<=3:=by
 have hstep:∀n:Nat,Da l (i:Int) (n:Int)=match x.types[n]? with
  |some t=>if t<1\/3<t then some (.inr (.inr ()))else some (.inl ((n+1:Nat):Int))
  |none=>some (.inr (.inl ())):=fun n=>by
  unfold Da
  rw[AK hx]
  cases ht:x.types[n]? with
  |none=>
   have:=List.getElem?_eq_none_iff.1 ht
   rw[decide_eq_false (by omega),AF]
  |some t=>
   simp only[ltD ht,AG,AK hx,AK ht,Af ht (show x.types.length<=9223372036854775807 by omega),Cy]
   by_cases h1:t<1
   simp[h1]
   by_cases h2:3<t
   simp[h1,h2]
   simp[h1,h2]
 obtain⟨s',⟨n,rfl,hn⟩,hs⟩:=Eg (step:=fun s=>Da l (i:Int) s) (I:=fun s=>∃n:Nat,s=(n:Int)/\∀j t,j<n->x.types[j]? =some t->1<=t/\t<=3)
  (by
   rintro s s' ⟨n,rfl,hn⟩ hs;rw[hstep]at hs;cases ht:x.types[n]? with
   |none=>rw[ht]at hs;cases hs
   |some t=>
    rw[ht]at hs
    simp only at hs
    split at hs
    cases hs
    rename_i hc
    cases hs
    refine⟨n+1,rfl,fun j u hj hu=>?_⟩
    by_cases hjn:j=n
    subst hjn;rw[ht]at hu;cases hu;omega
    exact hn j u (by omega) hu) ⟨0,rfl,fun j t hj=>by omega⟩ h
 rw[hstep]at hs;intro t ht;obtain⟨j,hj⟩:=List.mem_iff_getElem?.1 ht;refine hn j t ?_ hj;cases hx2:x.types[n]? with
 |none=>
  have h1:=List.getElem?_eq_none_iff.1 hx2
  have h2:=(List.getElem?_eq_some_iff.1 hj).1
  omega
 |some u=>
  rw[hx2]at hs
  simp only at hs
  split at hs<;>cases hs
theorem aLx{l:List X7}(hl:l.length<=1000){o:Unit⊕(Int×Int)}(h:ZQ l 0=some o)(ho:∀r,o=.inr r->r.1=0):∀d∈l,∀t∈d.types,1<=t/\t<=3:=by
 have fwd:∀(n:Nat) (y:Int⊕(Unit⊕(Int×Int))),DZ l (n:Int)=some y->(y=.inr (.inl ())/\l.length<=n)\/(y=.inl ((n+1:Nat):Int)/\∀d,l[n]? =some d->∀t∈d.types,1<=t/\t<=3)\/∃r,y=.inr (.inr r)/\r.1≠0:=by
  intro n y hy;unfold DZ at hy;rcases iS hy with⟨h1,hy⟩|⟨h1,hy⟩
  have hlt:n<l.length:=by have:=of_decide_eq_true h1;omega
  obtain⟨x,hx,_⟩:=AP hlt;rw[AK hx]at hy;obtain⟨r2,_,hy⟩:=bS hy;rcases iS hy with⟨_,hy⟩|⟨_,hy⟩
  cases hy;exact .inr (.inr ⟨_,rfl,by simp⟩);rw[AK hx]at hy;obtain⟨r4,_,hy⟩:=bS hy;rcases iS hy with⟨_,hy⟩|⟨_,hy⟩
  cases hy;exact .inr (.inr ⟨_,rfl,by simp⟩);rw[AK hx]at hy;rcases iS hy with⟨_,hy⟩|⟨h8,hy⟩
  cases hy;exact .inr (.inr ⟨_,rfl,by simp⟩);have h8:=of_decide_eq_false h8;obtain⟨o11,h2,hy⟩:=bS hy;cases o11 with
  |inl u=>
   cases hy
   refine .inr (.inl ⟨by rw[J0 (by omega)],fun d hd=>?_⟩)
   rw[hx]at hd;cases hd
   exact aLy hx (by omega) h2
  |inr u=>cases hy;exact .inr (.inr ⟨_,rfl,by simp⟩)
  cases hy;have:=of_decide_eq_false h1;exact .inl ⟨rfl,by omega⟩
 obtain⟨s',⟨n,rfl,hn⟩,hs⟩:=Eg (step:=fun s=>DZ l s) (I:=fun s=>∃n:Nat,s=(n:Int)/\∀j d,j<n->l[j]? =some d->∀t∈d.types,1<=t/\t<=3)
  (by
   rintro s s' ⟨n,rfl,hn⟩ hs;rcases fwd n _ hs with⟨h1,_⟩|⟨h1,h2⟩|⟨r,h1,_⟩
   cases h1;cases h1;refine⟨n+1,rfl,fun j d hj hd=>?_⟩;by_cases hjn:j=n;subst hjn;exact h2 d hd;exact hn j d (by omega) hd;cases h1) ⟨0,rfl,fun j d hj=>by omega⟩ h
 rcases fwd n _ hs with⟨h1,h2⟩|⟨h1,h2⟩|⟨r,h1,h2⟩
 intro d hd;obtain⟨j,hj⟩:=List.mem_iff_getElem?.1 hd;exact hn j d (by have:=(List.getElem?_eq_some_iff.1 hj).1;omega) hj;cases h1;cases h1;exact absurd (ho r rfl) h2
theorem LC{q:AA}(hF:CS q)(h:Yo q=some true):∀d∈q.decls,∀t∈d.types,(1:Int)<=t/\t<=3:=by
 unfold Yo at h;obtain⟨r1,h1,h⟩:=bS h;rcases iS h with⟨_,h⟩|⟨h2,h⟩
 cases h;have hr:r1.1=0:=by simpa using h2
 unfold Xu at h1;rcases iS h1 with⟨_,h1⟩|⟨_,h1⟩
 cases h1;simp at hr;obtain⟨o14,h3,h1⟩:=bS h1;have hd:=hF.decls;refine aLx (by omega) h3 fun r hr2=>?_;subst hr2;cases h1;exact hr
theorem aDh{a:List X0}{t:List Int}(h:IF a t=true):a.length=t.length/\∀(j:Nat) v u,a[j]? =some v->t[j]? =some u->v.kind=u/\vR v=true:=by unfold IF at h;simp only[ba,decide_eq_true_eq,List.all_eq_true]at h;exact⟨h.1,fun j v u hv hu=>h.2 (v,u) (List.mem_of_getElem? (i:=j) (List.getElem?_zip_eq_some.2 ⟨hv,hu⟩))⟩
theorem aIw{l:List X7}{e:X3}(h:eR l e=true):∃(d:Nat) (dd:X7),l[d]? =some dd/\dd.name=e.name/\IF e.args dd.types=true:=by unfold eR at h;split at h;cases h;rename_i i hi;split at h;cases h;rename_i d hd;refine⟨i,d,hd,?_,h⟩;unfold EB at hi;split at hi;rename_i hany;cases hi;have h1:=List.findIdx_lt_length_of_exists (List.any_eq_true.1 hany);have h2:=List.findIdx_getElem (w:=h1);have h3:=(List.getElem?_eq_some_iff.1 hd).2;rw[h3]at h2;simpa using h2;cases hi
theorem Wd{q:AA}(hf:q.frees.length<=1000):Ze q=some [X4.mk q.start (q.frees.map (·.init_))]:=by
 obtain⟨o,ho,h1⟩:=Am (step:=fun s:Int×List X0=>G9 q q.start s.1 s.2)
  (fun s=>∃i:Nat,s.1=(i:Int)/\i<=q.frees.length/\s.2=(q.frees.take i).map (·.init_)) (fun s=>(q.frees.length-s.1).toNat) (fun o=>o=q.frees.map (·.init_))
  (by
   rintro⟨n,w⟩ ⟨i,rfl,hi,ha⟩;simp only at ha;subst ha;by_cases he:i=q.frees.length;subst he;exact .inl ⟨q.frees.map (·.init_),by simp only[G9,ltI,AF,List.take_length],rfl⟩
   obtain⟨c,hc,_⟩:=AP (l:=q.frees) (i:=i) (by omega);refine .inr ⟨((i+1:Nat),(q.frees.take i).map (·.init_)++[c.init_]),?_,⟨i+1,rfl,by omega,?_⟩,by simp only;omega⟩
   simp only[G9,ltD hc,AG,AK hc,Af hc (show q.frees.length<=9223372036854775807 by omega)];rw[DO (by simp;omega) (by decide)];simp only;rw[List.take_add_one,hc];simp)
  ((0:Int),[]) ⟨0,rfl,by omega,by simp⟩
 subst h1;have ho':aH8 q q.start 0 []=some (q.frees.map (·.init_)):=ho
 unfold Ze;rw[ho',AD]
section
variable {K V:Type} [DecidableEq K]
theorem Jg(z:V)(c:Nat)(k:K)(v:V)(k':K):∀l:List (Nat×K×V),K3 z k' (O8 c k v l).2=if k=k' then(v,true)else K3 z k' l
 |[]=>by
  simp only[O8,K3]
 |x::xs=>by
  rw[O8];split;rename_i h;by_cases e:k=k';rw[if_pos e,K3,if_pos (h.trans e)];rw[if_neg e,K3,K3,if_neg (by rw[h];exact e),if_neg (by rw[h];exact e)];rename_i h;by_cases e:k=k';rw[if_pos e,K3,if_neg (by rw[<-e];exact h),Jg z c k v k' xs,if_pos e];rw[if_neg e,K3,K3,Jg z c k v k' xs,if_neg e]
theorem D8(z:V)(m:MP K V)(k:K)(v:V)(k':K):BB z (Cs m k v) k'=if k=k' then(v,true)else BB z m k':=Jg z _ _ _ _ _
theorem Np(z:V)(k:K):BB z (Ek:MP K V) k=(z,false):=rfl
end
theorem aEg{q:AA}(hR:Ad q)(S M:Nat):IJ q S M<2^q.states.length:=by apply Nat.lt_pow_two_of_testBit;intro k hk;rw[<-Bool.not_eq_true,Kk];rintro⟨s,hs,_,hf⟩;unfold WN at hf;split at hf;rw[Nat.testBit_two_pow]at hf;have:=of_decide_eq_true hf;omega;obtain⟨t,ht,_,he⟩:=(Hy q M s k).1 hf;have:=(hR.ends t ht).2.2;omega
def PM(S:Nat)(i:Nat)(st:Xd):Option (Unit⊕Unit):=if st.accept=true/\S.testBit i=true then some (.inr ())else none
def PK(q:AA)(S:Nat):Bool:=match Ix (DA (PM S)) (fun _=>.inl ()) 0 q.states ()with
 | .inl _=>false
 | .inr _=>true
theorem OL{q:AA}(hF:CS q){S:Nat}(hS:S<4294967296):Yy q (S:Int)=some (PK q S):=by
 have h8:=hF.states;have h:aHu (S:Int) q 0=_:=Cl (step:=fun s=>Gx (S:Int) q s) q.states (PM S) (.inl ())
  (fun i st hi=>by
   have hil:=At hi;have h1:=A4 (n:=i) (by omega);simp only[Gx,ltD hi,AG,AK hi,Af hi (show q.states.length<=9223372036854775807 by omega),h1,MZ (k:=.u32) (n:=S) (s:=i) (show i<32 by omega),aQu,L2,PM];rw[An (by omega)];cases hb:S.testBit i with
   |false=>simp[AE]
   |true=>
    simp only[if_true]
    rw[show decide (((1:Nat):Int)=1)=true from rfl,AG]
    cases st.accept<;>simp[AE])
  (by simp only[Gx,ltI,AF])
 unfold Yy PK;rw[h,AD];cases Ix (DA (PM S)) (fun _=>.inl ()) 0 q.states ()<;>rfl
def PN(q:AA)(x:Int):Bool:=PK q x.toNat
def nx(q:AA)(x m:Int):Int:=((IJ q x.toNat m.toNat:Nat):Int)
def SL(v:X0):Prop:=v.str.length<=4096
theorem aQv{v:X0}(h:vR v=true):SL v:=by
 rcases Eq h with⟨_,h,_⟩|⟨_,_,_,h⟩|⟨_,_,h⟩
 unfold SL;rw[h];exact Nat.zero_le _;exact h;unfold SL;rw[h];exact Nat.zero_le _
structure HR(q:AA)(h:AL):Prop where
 bind:h.bind.length<=1000
 bs:∀s∈h.bind,SL s.value
 fl:h.frees.length<=1000
 fs:∀s∈h.frees,(0<=s.var/\s.var<q.frees.length)/\SL s.value
theorem KV:∀(al:List BJ) (xs:List X0) (b f:List X2) (p:List X2×List X2),D1 al xs b f=some p->∀s∈p.2,s∈f\/(s.value∈xs/\∃a∈al,a.kind=3/\s.var=a.n)
 |[],xs,b,f,p,h=>by simp only[D1]at h;cases h;exact fun s hs=>.inl hs
 |a::al,[],b,f,p,h=>by simp only[D1]at h;cases h;exact fun s hs=>.inl hs
 |a::al,x::xs,b,f,p,h=>by
  simp only[D1]at h;have go:∀b f,D1 al xs b f=some p->∀s∈p.2,s∈f\/(s.value∈x::xs/\∃a'∈a::al,a'.kind=3/\s.var=a'.n):=fun b f h s hs=>(KV al xs b f p h s hs).imp id fun⟨h1,a',h2,h3⟩=>⟨List.mem_cons_of_mem _ h1,a',List.mem_cons_of_mem _ h2,h3⟩;split at h;split at h;exact go b f h;cases h;split at h;split at h;cases h;exact go _ f h;split at h;rename_i h3;split at h;cases h;rename_i f' hp;intro s hs;rcases go b f' h s hs with g|g
  rcases N4 hp g with rfl|g
  exact .inr ⟨by simp,a,by simp,h3,rfl⟩;exact .inl g;exact .inr g;exact go b f h
theorem aIz{q:AA}(hF:CS q)(hR:Ad q){e:X3}(hE:eR q.decls e=true){i:Nat}{h:AL}(hi:i<q.symbols.length)(hh:DV q i e=some h):HR q h:=by
 have hmem:h∈EC q e:=by unfold EC;rw[hE,if_pos rfl];exact List.mem_filterMap.2 ⟨i,List.mem_range.2 hi,hh⟩
 obtain⟨_,_,h1,h2,_⟩:=VU hF hR hmem;obtain⟨d,dd,_,_,ha⟩:=aIw hE;have hv:∀v∈e.args,SL v:=fun v hv=>by obtain⟨j,hj⟩:=List.mem_iff_getElem?.1 hv;obtain⟨g1,g2⟩:=aDh ha;obtain⟨u,hu,_⟩:=AP (l:=dd.types) (i:=j) (by rw[<-g1];exact At hj);exact aQv (g2 j v u hj hu).2
 refine⟨by omega,fun s hs=>hv _ ((Ip hh).2 s hs),by omega,fun s hs=>?_⟩;unfold DV at hh;split at hh;cases hh;rename_i sy hsy;split at hh;cases hh;split at hh;rw[om]at hh;obtain⟨p,hp,rfl⟩:=hh;rcases KV _ _ _ _ _ hp s hs with g|⟨g,a,ha,h3,hn⟩
 simp at g;have:=((hR.symbols sy (List.mem_of_getElem? hsy)).args a ha).three h3;exact⟨by omega,hv _ g⟩;cases hh
def MB(q:AA)(b:List X2)(e:X3):List AL:=((List.range q.symbols.length).filterMap fun i=>DV q i e).filter fun h=>BI h.bind b
theorem Pl{q:AA}(hF:CS q)(hR:Ad q){b:List X2}(hb:b.length<=1000){e:X3}(hE:eR q.decls e=true):∃l1,Xy q e=some l1/\Y4 l1 b=some (MB q b e)/\(∀h∈MB q b e,HR q h)/\(MB q b e).length<=12:=by
 have hsy:=hF.symbols;have hlen:((List.range q.symbols.length).filterMap fun i=>DV q i e).length<=q.symbols.length:=by have h2:=List.length_filterMap_le (fun i=>DV q i e) (List.range q.symbols.length);rw[List.length_range]at h2;exact h2
 have hHR:∀h∈(List.range q.symbols.length).filterMap (fun i=>DV q i e),HR q h:=fun h hh=>by obtain⟨i,hi,hh⟩:=List.mem_filterMap.1 hh;exact aIz hF hR hE (List.mem_range.1 hi) hh
 refine⟨_,aAb hF hR,aHa (by omega) (fun h hh=>by have:=(hHR h hh).bind;omega) (by omega),fun h hh=>hHR h (List.mem_filter.1 hh).1,?_⟩;have:=List.length_filter_le (fun h:AL=>BI h.bind b) ((List.range q.symbols.length).filterMap fun i=>DV q i e);unfold MB;omega
def aC9(q:AA)(c:X4):Bool:=match q.states[c.state.toNat]? with
 |some st=>st.accept
 |none=>false
theorem J6{q:AA}{set:List X4}(hs:∀c∈set,0<=c.state/\c.state<q.states.length)(hsl:set.length<=1000):Zf q set=some (set.any (aC9 q)):=by
 have h:aH9 set q 0=some (if set.any (aC9 q)=true then .inr ()else .inl ()):=by
  have:=Bm (step:=fun s=>HA set q s) set (fun c=> !aC9 q c) (.inl ():Unit⊕Unit) (.inr ())
   (fun i c hc=>by obtain⟨h0,h1⟩:=hs c (List.mem_of_getElem? hc);obtain⟨st,hst,_⟩:=O3 h0 h1;simp only[HA,ltD hc,AG,AK hc,CO hst h0,Af hc (show set.length<=9223372036854775807 by omega),aC9,hst];cases st.accept<;>simp[AE])
   (by simp only[HA,ltI,AF])
  refine this.trans ?_;rw[List.all_eq_not_any_not];simp only[Bool.not_not];cases set.any (aC9 q)<;>rfl
 unfold Zf;rw[h,AD];cases set.any (aC9 q)<;>rfl
theorem N9{α:Type}(g:Nat->α->Option (Unit⊕Unit))(hg:∀i x y,g i x=some y->y=.inr ()):∀(l:List α) (i:Nat),(Ix (DA g) (fun _=>(.inl ():Unit⊕Unit)) i l ()=.inr ())↔ ∃j x,l[j]? =some x/\g (i+j) x=some (.inr ())
 |[],i=>by simp[Ix]
 |x::l,i=>by
  rw[Ix];cases h:g i x with
  |none=>
   have e:DA g i () x=.inl ():=by simp[DA,h]
   rw[e]
   simp only
   rw[N9 g hg l (i+1)]
   constructor
   rintro⟨j,y,h1,h2⟩
   exact⟨j+1,y,by simpa using h1,by rw[<-h2];congr 1;omega⟩
   rintro⟨j,y,h1,h2⟩
   cases j with
   |zero=>simp at h1;subst h1;rw[Nat.add_zero,h]at h2;cases h2
   |succ j=>exact⟨j,y,by simpa using h1,by rw[<-h2];congr 1;omega⟩
  |some y=>
   have hy:=hg i x y h
   subst hy
   have e:DA g i () x=.inr (.inr ()):=by simp[DA,h]
   rw[e]
   exact⟨fun _=>⟨0,x,rfl,by simpa using h⟩,fun _=>rfl⟩
theorem aC8(q:AA)(S:Nat):PK q S=true↔ ∃(i:Nat) (st:Xd),q.states[i]? =some st/\st.accept=true/\S.testBit i=true:=by
 have h:=N9 (PM S) (fun i x y hy=>by unfold PM at hy;split at hy<;>cases hy;rfl) q.states 0;have h2:PK q S=true↔Ix (DA (PM S)) (fun _=>(.inl ():Unit⊕Unit)) 0 q.states ()=.inr ():=by unfold PK;split;rename_i e;rw[e];simp;rename_i e;rw[e];simp
 rw[h2,h];constructor;rintro⟨j,x,h1,h2⟩;rw[Nat.zero_add]at h2;unfold PM at h2;split at h2;rename_i hc;exact⟨j,x,h1,hc⟩;cases h2;rintro⟨i,st,h1,h2⟩;exact⟨i,st,h1,by rw[Nat.zero_add];unfold PM;rw[if_pos h2]⟩
def okA(dd:X7)(args:List X0):Prop:=args.length=dd.types.length/\∀(j:Nat) v t,args[j]? =some v->dd.types[j]? =some t->v.kind=t/\vR v=true
theorem Vs{dd:X7}{args:List X0}(h:okA dd args):IF args dd.types=true:=by unfold IF;rw[ba];refine⟨decide_eq_true h.1,List.all_eq_true.2 fun z hz=>?_⟩;obtain⟨j,hj⟩:=List.mem_iff_getElem?.1 hz;rw[List.getElem?_zip_eq_some]at hj;obtain⟨a,b⟩:=h.2 j z.1 z.2 hj.1 hj.2;rw[decide_eq_true a,b];rfl
theorem aIx{q:AA}(hR:Ad q){d:Nat}{dd:X7}(hd:q.decls[d]? =some dd){args:List X0}(h:okA dd args):eR q.decls (X3.mk dd.name args)=true:=by unfold eR;rw[hR.decls d dd hd];simp only[hd];exact Vs h
theorem WS{q:AA}(hF:CS q)(hR:Ad q)(hS:Bg q){d:Nat}{dd:X7}(hd:q.decls[d]? =some dd){args:List X0}(ha:okA dd args)(h12:args.length<=12):
 Yx q [] (X3.mk dd.name args)=some ((mkM q [] d args:Nat):Int)/\Qk q [] (X3.mk dd.name args)=some ((mkM q [] d args:Nat):Int):=by
 have hsy:=hF.symbols
 have hd12:=hF.decls
 have hB:BR []:=⟨List.Pairwise.nil,by simp⟩
 have hE:=aIx hR hd ha
 obtain⟨l1,l2,m1,m2,m3⟩:=aFs hF hR hS hB hd args ha.1
 have hOf:∀(l:List AL) (n:Nat),(Qd (EC q (X3.mk dd.name args)) []=some l)->Pb q.symbols.length l->Yz l=some (n:Int)->Yx q [] (X3.mk dd.name args)=some (n:Int):=fun l n h1 h2 h3=>by
  obtain⟨M,hM,hM64,hMb⟩:=K9 hsy h2;rw[h3]at hM;have hnM:n=M:=by have:=Option.some.inj hM;omega
  subst hnM;have hln:=h2.len;obtain⟨o,ho,V,rfl,hQ⟩:=Am (step:=fun s:Int×Int=>Gw l (l.length:Int) s.1 s.2)
   (fun s=>∃(j v:Nat),s=((v:Int),(j:Int))/\j<=l.length/\v<4096/\∀k:Nat,v.testBit k=true↔ ∃x∈l.take j,x.symbol=(k:Int))
   (fun s=>(l.length-s.2).toNat)
   (fun o=>∃V:Nat,o=(V:Int)/\∀k:Nat,V.testBit k=true↔ ∃x∈l,x.symbol=(k:Int))
   (by
    rintro s ⟨j,v,rfl,hj,hv,hm⟩;by_cases he:j=l.length;subst he;exact .inl ⟨(v:Int),by simp only[Gw,ltI,AF],v,rfl,fun k=>by rw[hm k,List.take_length]⟩;right;obtain⟨y,hy,_⟩:=AP (l:=l) (i:=j) (by omega);have hsy2:=h2.sym y (List.mem_of_getElem? hy);obtain⟨z,hz⟩:∃z:Nat,y.symbol=(z:Int):=⟨y.symbol.toNat,by omega⟩;have hz12:z<12:=by omega
    have hwz2:IntKind.wrap .u64 (z:Int)=(z:Int):=A4 (by omega);have hp:2^z<2^12:=Nat.pow_lt_pow_right (by decide) hz12;have htake:l.take (j+1)=l.take j++[y]:=by rw[List.take_add_one,hy];rfl
    refine⟨(((v|||2^z:Nat):Int),((j+1:Nat):Int)),?_,⟨j+1,v|||2^z,rfl,by omega,Nat.or_lt_two_pow (n:=12) hv hp,fun k=>?_⟩,by simp only;omega⟩;simp only[Gw,ltD hy,AG,AK hy,hz,hwz2,An (show(0:Int)<=(z:Int) by omega),Af hy (show l.length<=9223372036854775807 by omega)];rw[aJe (by omega),orU (by omega) (by omega)];rw[Nat.testBit_or,Nat.testBit_two_pow,Bool.or_eq_true,decide_eq_true_eq,hm k,htake];constructor;rintro(⟨x,hx,a⟩|h);exact⟨x,ml _ hx,a⟩;exact⟨y,by simp,by rw[hz,h]⟩;rintro⟨x,hx,a⟩;rcases ma.1 hx with g|g
    exact .inl ⟨x,g,a⟩;rw[List.mem_singleton.1 g]at a;exact .inr (by omega))
    ((0:Int),(0:Int)) ⟨0,0,rfl,by omega,by decide,fun k=>by simp⟩
  have hVM:V=n:=Jd fun k=>by rw[hQ k,hMb k]
  unfold Yx aHt;rw[aM9 hF hR h12,AD,h1,AD,ho,AD,hVM]
 have hh:EC q (X3.mk dd.name args)=(List.range q.symbols.length).filterMap fun i=>DV q i (X3.mk dd.name args):=by unfold EC;rw[hE,if_pos rfl]
 have hl1:l1=EC q (X3.mk dd.name args):=by rw[aAb hF hR]at m1;rw[hh];exact(Option.some.inj m1).symm
 have hlen1:(EC q (X3.mk dd.name args)).length<=1000:=by rw[hh];have h2:=List.length_filterMap_le (fun i=>DV q i (X3.mk dd.name args)) (List.range q.symbols.length);rw[List.length_range]at h2;omega
 have hbind:∀h∈EC q (X3.mk dd.name args),h.bind.length<=9223372036854775807:=fun h hm=>by have:=(VU hF hR hm).2.2.1;omega
 refine⟨?_,?_⟩
 have hU:=aMz hlen1 hbind (b:=[]) (by simp)
 rw[hl1]at m2
 have hl2:l2=(EC q (X3.mk dd.name args)).filter fun h=>BI h.bind []:=by rw[aHa hlen1 hbind (by simp)]at m2;exact(Option.some.inj m2).symm
 refine hOf l2 _ (by rw[hU,hl2]) ?_ m3
 rw[hl2,hh]
 exact FK hF hR hS _ []
 unfold Qk
 rw[aHo _ _ (by omega) (by show args.length<=_;omega),AD,hE,Bool.not_true,AF,m1,AD,m2,AD,m3,AD]
theorem aEd{q:AA}{d:Nat}{xs ys:List X0}(hl:xs.length=ys.length)
 (h:∀s∈q.symbols,s.event=(d:Int)->∀(j:Nat) a v v',s.args[j]? =some a->xs[j]? =some v->ys[j]? =some v'->Ft [] a v=Ft [] a v'):mkM q [] d xs=mkM q [] d ys:=by
 unfold mkM
 congr 1
 funext i
 unfold aDx
 cases hs:q.symbols[i]? with
 |none=>rfl
 |some s=>
  simp only
  by_cases he:s.event=(d:Int)
  rw[decide_eq_true he,Bool.true_and,Bool.true_and]
  have hsm:=List.mem_of_getElem? hs
  have go:∀(xs ys:List X0),xs.length=ys.length->(∀(j:Nat) a v v',s.args[j]? =some a->xs[j]? =some v->ys[j]? =some v'->Ft [] a v=Ft [] a v')->(∀z∈s.args.zip xs,Ft [] z.1 z.2=true)->∀z∈s.args.zip ys,Ft [] z.1 z.2=true:=fun xs ys hxy hj h z hz=>by obtain⟨j,hzj⟩:=List.mem_iff_getElem?.1 hz;rw[List.getElem?_zip_eq_some]at hzj;obtain⟨h1,h2⟩:=hzj;obtain⟨x,hx,_⟩:=AP (l:=xs) (i:=j) (by have:=At h2;omega);have:=h (z.1,x) (List.mem_of_getElem? (i:=j) (List.getElem?_zip_eq_some.2 ⟨h1,hx⟩));rw[<-hj j z.1 x z.2 h1 hx h2];exact this
  rw[Bool.eq_iff_iff,List.all_eq_true,List.all_eq_true]
  exact⟨go xs ys hl fun j a v v'=>h s hsm he j a v v',go ys xs hl.symm fun j a v v' ha hv hv'=>(h s hsm he j a v' v ha hv' hv).symm⟩
  rw[decide_eq_false he,Bool.false_and,Bool.false_and]
structure EqP(p q:AA):Prop where
 fp:CS p
 rp:Ad p
 sp:Bg p
 tp:Yo p=some true
 fq:CS q
 rq:Ad q
 sq:Bg q
 tq:Yo q=some true
 qp:p.quants=[]
 qq:q.quants=[]
 de:q.decls=p.decls
 d3:∀d∈p.decls,d.types.length<=3
 ty:∀d∈p.decls,∀t∈d.types,(1:Int)<=t/\t<=3
def PX(q:AA)(d k:Nat)(v:X0):Prop:=∃s∈q.symbols,s.event=(d:Int)/\∃a,s.args[k]? =some a/\a.kind=1/\a.value=v
theorem Nd{a:BJ}{v v':X0}(h:a.kind=1->(a.value=v↔a.value=v'))(h2:a.kind≠2):Ft [] a v=Ft [] a v':=by unfold Ft;by_cases h1:a.kind=1;rw[if_pos h1,if_pos h1];have:=h h1;by_cases hv:a.value=v;rw[decide_eq_true hv,decide_eq_true (this.1 hv)];rw[decide_eq_false hv,decide_eq_false fun e=>hv (this.2 e)];rw[if_neg h1,if_neg h1,if_neg h2,if_neg h2]
theorem aF2{q:AA}(hR:Ad q)(hq:q.quants=[]){s:X8}(hs:s∈q.symbols){a:BJ}(ha:a∈s.args):a.kind≠2:=fun h=>by have:=((hR.symbols s hs).args a ha).two h;rw[hq]at this;simp at this;omega
structure PlV(p q:AA)(d k:Nat)(t:Int)(l:List X0):Prop where
 len:l.length<=401
 right:∀v∈l,v.kind=t/\vR v=true
 whole:∀v,v.kind=t->vR v=true->∃v'∈l,(∀s∈p.symbols,s.event=(d:Int)->∀a,s.args[k]? =some a->Ft [] a v'=Ft [] a v)/\∀s∈q.symbols,s.event=(d:Int)->∀a,s.args[k]? =some a->Ft [] a v'=Ft [] a v
theorem N1{p q:AA}(E:EqP p q){d k:Nat}{t:Int}{l:List X0}(hl:l.length<=401)(hr:∀v∈l,v.kind=t/\vR v=true)
 (hw:∀v,v.kind=t->vR v=true->v∈l\/(¬PX p d k v/\¬PX q d k v/\∃w∈l,¬PX p d k w/\¬PX q d k w)):PlV p q d k t l:=by
 refine⟨hl,hr,fun v h1 h2=>?_⟩
 rcases hw v h1 h2 with h|⟨c1,c2,w,hwl,c3,c4⟩
 exact⟨v,h,fun _ _ _ _ _=>rfl,fun _ _ _ _ _=>rfl⟩
 refine⟨w,hwl,fun s hs he a ha=>Nd (fun hk=>⟨fun e=>absurd ⟨s,hs,he,a,ha,hk,e⟩ c3,fun e=>absurd ⟨s,hs,he,a,ha,hk,e⟩ c1⟩) (aF2 E.rp E.qp hs (List.mem_of_getElem? ha)),fun s hs he a ha=>Nd (fun hk=>⟨fun e=>absurd ⟨s,hs,he,a,ha,hk,e⟩ c4,fun e=>absurd ⟨s,hs,he,a,ha,hk,e⟩ c2⟩) (aF2 E.rq E.qq hs (List.mem_of_getElem? ha))⟩
theorem FA{q:AA}(hR:Ad q){d k:Nat}{dd:X7}{t:Int}(hd:q.decls[d]? =some dd)(ht:dd.types[k]? =some t){v:X0}(h:PX q d k v):v.kind=t/\vR v=true:=by
 obtain⟨s,hs,he,a,ha,hk,rfl⟩:=h;have hO:=hR.symbols s hs;have hd':q.decls[s.event.toNat]? =some dd:=by rw[he];exact hd
 exact⟨hO.kinds dd hd' k a t ha ht hk,(hO.args a (List.mem_of_getElem? ha)).one hk⟩
def Dq(d:Int)(k:Nat)(w:List X0)(s:X8):List X0:=if s.event=d then(match s.args[k]? with
 |some a=>if a.kind=1/\a.value∉w then w++[a.value]else w
 |none=>w)else w
theorem Fw(d:Int)(k:Nat):∀(l:List X8) (w:List X0),(l.foldl (Dq d k) w).length<=w.length+l.length
 |[],w=>by simp
 |s::l,w=>by
  rw[List.foldl_cons,List.length_cons];have h1:(Dq d k w s).length<=w.length+1:=by unfold Dq;split;split;split;simp;omega;omega;omega
  have:=Fw d k l (Dq d k w s);omega
theorem J4(d:Int)(k:Nat)(v:X0):∀(l:List X8) (w:List X0),v∈l.foldl (Dq d k) w↔v∈w\/∃s∈l,s.event=d/\∃a,s.args[k]? =some a/\a.kind=1/\a.value=v
 |[],w=>by simp
 |s::l,w=>by
  rw[List.foldl_cons,J4 d k v l];have h1:v∈Dq d k w s↔v∈w\/(s.event=d/\∃a,s.args[k]? =some a/\a.kind=1/\a.value=v):=by
   unfold Dq;by_cases he:s.event=d;rw[if_pos he];cases ha:s.args[k]? with
   |none=>simp
   |some a=>
    simp only
    by_cases hk:a.kind=1
    by_cases hm:a.value∈w
    rw[if_neg fun h=>h.2 hm]
    constructor
    exact .inl
    rintro(h|⟨_,a',e,_,rfl⟩)
    exact h
    cases e;exact hm
    rw[if_pos ⟨hk,hm⟩,ma,List.mem_singleton]
    constructor
    rintro(h|rfl)
    exact .inl h
    exact .inr ⟨he,a,rfl,hk,rfl⟩
    rintro(h|⟨_,a',e,_,rfl⟩)
    exact .inl h
    cases e;exact .inr rfl
    rw[if_neg fun h=>hk h.1]
    constructor
    exact .inl
    rintro(h|⟨_,a',e,h',_⟩)
    exact h
    cases e;exact absurd h' hk
   rw[if_neg he];constructor;exact .inl;rintro(h|⟨h,_⟩);exact h;exact absurd h he
  rw[h1];constructor;rintro((h|h)|⟨s',hs',h⟩);exact .inl h;exact .inr ⟨s,.head _,h⟩;exact .inr ⟨s',.tail _ hs',h⟩;rintro(h|⟨s',hs',h⟩);exact .inl (.inl h);rcases mc.1 hs' with rfl|hs'
  exact .inl (.inr h);exact .inr ⟨s',hs',h⟩
theorem WI{q:AA}(hF:CS q)(hR:Ad q){d k:Nat}{dd:X7}(hd:q.decls[d]? =some dd)(hk:k<dd.types.length)(w0:List X0)(hw:w0.length<=100):
 SF (d:Int) (k:Int) q.symbols (q.symbols.length:Int) 0 w0=some (q.symbols.foldl (Dq (d:Int) k) w0):=by
 have h12:=hF.symbols
 refine Dl (step:=fun s:Int×List X0=>Ey (d:Int) (k:Int) q.symbols (q.symbols.length:Int) s.1 s.2) q.symbols (Dq (d:Int) k) id (fun i w=>w.length<=100+i) (fun i s w hs hw=>?_) (fun w _=>by simp only[Ey,ltI,AF];rfl) w0 (by omega)
 have hi:=At hs
 have hlen:(Dq (d:Int) k w s).length<=100+(i+1):=by have:=Fw (d:Int) k [s] w;simp only[List.foldl_cons,List.foldl_nil,List.length_cons,List.length_nil]at this;omega
 refine⟨?_,hlen⟩
 simp only[Ey,ltD hs,AG,OU,AK hs,Af hs (show q.symbols.length<=9223372036854775807 by omega)]
 unfold Dq
 by_cases he:s.event=(d:Int)
 obtain⟨d',hd',hlen'⟩:=(hR.symbols s (List.mem_of_getElem? hs)).decl
 have hdn:s.event.toNat=d:=by omega
 rw[hdn,hd]at hd';cases hd'
 obtain⟨a,ha,_⟩:=AP (l:=s.args) (i:=k) (by omega)
 rw[decide_eq_true he,AG,if_pos he,ha,AK ha]
 by_cases hk1:a.kind=1
 rw[decide_eq_true hk1,AG,AK ha,Fz w a.value (by omega),AD,IC]
 by_cases hm:a.value∈w
 simp only[hm,decide_true,Bool.not_true,AF,AD]
 rw[if_neg fun h=>h.2 trivial]
 simp only[hm,decide_false,Bool.not_false,AG,AK ha]
 rw[DO (by simp;omega) (by decide),AD,AD,if_pos ⟨hk1,fun h=>h⟩]
 rw[decide_eq_false hk1,AF,IC,AF,AD,AD]
 simp only
 rw[if_neg fun h=>hk1 h.1]
 rw[decide_eq_false he,AF,if_neg he,IC,AF,AD,AD]
theorem aJg:∀(l w:List X0),(∀v∈l,vR v=true)->SW w->SW (l.foldl Hl w)/\(l.foldl Hl w).length<=w.length+l.length/\∀v,v∈l.foldl Hl w↔v∈w\/v∈l
 |[],w,_,hw=>⟨hw,by simp,by simp⟩
 |x::l,w,hl,hw=>by
  obtain⟨h1,h2⟩:=KB hw (hl x (.head _));obtain⟨a,b,c⟩:=aJg l (Hl w x) (fun v hv=>hl v (.tail _ hv)) h1;refine⟨a,?_,fun v=>?_⟩;rw[List.foldl_cons,List.length_cons];have:(Hl w x).length<=w.length+1:=by rw[h2];split<;>omega
  omega;rw[List.foldl_cons,c v,Ej,mc];constructor;rintro((h|h)|h);exact .inr (.inl h);exact .inl h;exact .inr (.inr h);rintro(h|h|h);exact .inl (.inr h);exact .inl (.inl h);exact .inr h
theorem aKa:SW []:=⟨List.Pairwise.nil,by simp⟩
def C3(t:Int)(U:List X0):List X0:=if t=3 then [X0.mk 3 0 [] false,X0.mk 3 0 [] true]else U
theorem aEn{p q:AA}(E:EqP p q){d k:Nat}{dd:X7}{t:Int}(hd:p.decls[d]? =some dd)(ht:dd.types[k]? =some t):
 ∃U V:List X0,Xv q (d:Int) (k:Int)=some V/\Zp p (d:Int) (k:Int) V=some U/\U.length<=24/\(t=3/\Xz t (C3 t U)=some (zV,false)/\PlV p q d k t (C3 t U)\/
  t≠3/\∃x,Xz t (C3 t U)=some (x,true)/\PlV p q d k t (C3 t U++[x])):=by
 have hkl:=At ht
 have hdq:q.decls[d]? =some dd:=by rw[E.de];exact hd
 have hp12:=E.fp.symbols;have hq12:=E.fq.symbols
 have e1:=WI E.fq E.rq hdq hkl [] (by simp)
 have l1:=Fw (d:Int) k q.symbols []
 rw[List.length_nil]at l1
 have e2:=WI E.fp E.rp hd hkl (q.symbols.foldl (Dq (d:Int) k) []) (by omega)
 have l2:=Fw (d:Int) k p.symbols (q.symbols.foldl (Dq (d:Int) k) [])
 have hm:∀v,v∈p.symbols.foldl (Dq (d:Int) k) (q.symbols.foldl (Dq (d:Int) k) [])↔PX q d k v\/PX p d k v:=fun v=>by rw[J4,J4];simp only[List.not_mem_nil,false_or,PX]
 refine⟨_,_,by unfold Xv;rw[e1];rfl,by unfold Zp;rw[e2];rfl,by omega,?_⟩
 generalize p.symbols.foldl (Dq (d:Int) k) (q.symbols.foldl (Dq (d:Int) k) [])=U at hm l2
 have hU:U.length<=24:=by omega
 have h13:=E.ty dd (List.mem_of_getElem? hd) t (List.mem_of_getElem? ht)
 have hUr:∀v∈U,v.kind=t/\vR v=true:=fun v hv=>by
  rcases(hm v).1 hv with h|h
  exact FA E.rq hdq ht h;exact FA E.rp hd ht h
 by_cases h3:t=3
 left
 subst h3
 refine⟨rfl,rfl,N1 E (by simp[C3]) (fun v hv=>?_) (fun v hk hv=>.inl ?_)⟩
 simp only[C3,if_true,mc,List.not_mem_nil,or_false]at hv
 rcases hv with rfl|rfl<;>exact⟨rfl,rfl⟩
 simp only[C3,if_true,mc,List.not_mem_nil,or_false]
 exact vR3 hv hk
 right
 obtain⟨s1,s2,s3⟩:=aJg U [] (fun v hv=>(hUr v hv).2) aKa
 have s2':(U.foldl Hl []).length<=U.length:=by simpa using s2
 obtain⟨x,hx1,_,hx3,hx4,hx5⟩:=aE7 (k:=t) (by omega) (l:=U) (w:=U.foldl Hl []) (by omega) s1 (by omega) (fun v _=>by rw[s3 v];simp)
 have hpl:C3 t U=U:=if_neg h3
 refine⟨h3,x,by rw[hpl];exact hx1,?_⟩
 rw[hpl]
 refine N1 E (by simp;omega) (fun v hv=>?_) (fun v hk hv=>?_)
 rcases ma.1 hv with h|h
 exact hUr v h
 rw[List.mem_singleton.1 h];exact⟨hx4,hx5⟩
 by_cases hvU:v∈U
 exact .inl (ml _ hvU)
 refine .inr ⟨fun h=>hvU ((hm v).2 (.inr h)),fun h=>hvU ((hm v).2 (.inl h)),x,by simp,fun h=>hx3 ((hm x).2 (.inr h)),fun h=>hx3 ((hm x).2 (.inl h))⟩
abbrev BY:=MP X5 X3
abbrev MT:=BY×List X5
def zE:X3:=X3.mk [] []
def sP(p q:AA)(d:Nat)(args:List X0):X5:=⟨((mkM p [] d args:Nat):Int),((mkM q [] d args:Nat):Int)⟩
structure MvI(p q:AA)(t:MT):Prop where
 nd:t.2.Nodup
 key:∀s,(BB zE t.1 s).2=decide (s∈t.2)
 val:∀s∈t.2,∃(d:Nat) (dd:X7) (args:List X0),p.decls[d]? =some dd/\okA dd args/\s=sP p q d args/\(BB zE t.1 s).1=X3.mk dd.name args
def Cov(p q:AA)(d:Nat)(dd:X7)(L:List X5)(args:List X0):Prop:=∀tail,okA dd (args++tail)->sP p q d (args++tail)∈L
theorem Cov.mono{p q:AA}{d:Nat}{dd:X7}{L M:List X5}{args:List X0}(h:Cov p q d dd L args)(hs:∀s∈L,s∈M):Cov p q d dd M args:=fun tail ht=>hs _ (h tail ht)
theorem Nq{q:AA}(hS:Bg q)(d:Nat)(args:List X0):mkM q [] d args<256:=Nat.lt_of_lt_of_le (aDl _ _) (show 2^q.symbols.length<=2^8 from Nat.pow_le_pow_right (by decide) hS.symbols)
theorem MvI.len{p q:AA}(E:EqP p q){t:MT}(h:MvI p q t):t.2.length<=65536:=by
 have hsm:∀s∈t.2,∃a b:Nat,s.p=(a:Int)/\s.q=(b:Int)/\a<256/\b<256:=fun s hs=>by obtain⟨d,dd,args,_,_,rfl,_⟩:=h.val s hs;exact⟨_,_,rfl,rfl,Nq E.sp _ _,Nq E.sq _ _⟩
 have hinj:(t.2.map fun z:X5=>z.p*256+z.q).Nodup:=by unfold List.Nodup;rw[List.pairwise_map];refine List.Pairwise.imp_of_mem (fun{a b} ha hb hab he=>hab ?_) h.nd;obtain⟨n1,n2,e1,e2,l1,l2⟩:=hsm a ha;obtain⟨n3,n4,e3,e4,l3,l4⟩:=hsm b hb;obtain⟨ap,aq⟩:=a;obtain⟨bp,bq⟩:=b;simp only at e1 e2 e3 e4 he;congr 1<;>omega
 have:=hinj.length_le_of_subset (l₂:=(List.range 65536).map (fun n:Nat=>(n:Int))) fun x hx=>by obtain⟨z,hz,rfl⟩:=mm.1 hx;obtain⟨n1,n2,e1,e2,l1,l2⟩:=hsm z hz;exact mm.2 ⟨n1*256+n2,List.mem_range.2 (by omega),by rw[e1,e2];simp⟩
 simpa using this
theorem MvI.init(p q:AA):MvI p q ((Ek:BY),[]):=⟨List.nodup_nil,fun s=>by rw[Np];simp,fun s hs=>by cases hs⟩
theorem NX{α:Type}(l:List α)(hl:l.length<=1000):Fa 40 l=some l:=by unfold Fa;have:=DO (a:=0) (b:=l.length) (n:=40) (by omega) (by decide) (some l);exact this
theorem aI2{p q:AA}(E:EqP p q){d:Nat}{dd:X7}(hd:p.decls[d]? =some dd){args:List X0}(ha:okA dd args){t:MT}(hI:MvI p q t):
 ∃t':MT,Q0 args dd p q t.1 t.2=some t'/\MvI p q t'/\(∀s∈t.2,s∈t'.2)/\sP p q d args∈t'.2:=by
 have hdq:q.decls[d]? =some dd:=by rw[E.de];exact hd
 have h3:=E.d3 dd (List.mem_of_getElem? hd)
 have hal:args.length<=3:=by rw[ha.1];exact h3
 have o1:=(WS E.fp E.rp E.sp hd ha (by omega)).1
 have o2:=(WS E.fq E.rq E.sq hdq ha (by omega)).1
 have hlen:=hI.len E
 have hk:=hI.key (sP p q d args)
 unfold Q0
 rw[show U7 args=some args from NX args (by omega),AD,o1,AD,o2,AD]
 have hk':(BB (X3.mk ([]:List UInt8) ([]:List X0)) t.1 (X5.mk ((mkM p [] d args:Nat):Int) ((mkM q [] d args:Nat):Int))).2=decide (sP p q d args∈t.2):=hk
 rw[hk',WT]
 by_cases hm:sP p q d args∈t.2
 rw[decide_eq_true hm,Bool.not_true,AF,AD]
 exact⟨t,rfl,hI,fun _ h=>h,hm⟩
 rw[decide_eq_false hm,Bool.not_false,AG,DO (by simp;omega) (by decide),AD]
 refine⟨(Cs t.1 (sP p q d args) (X3.mk dd.name args),t.2++[sP p q d args]),rfl,⟨?_,fun s=>?_,fun s hs=>?_⟩,fun s hs=>ml _ hs,by simp⟩
 refine List.nodup_append.2 ⟨hI.nd,by simp,fun x hx y hy e=>?_⟩
 rw[List.mem_singleton.1 hy]at e
 exact hm (by rw[<-e];exact hx)
 show(BB zE (Cs t.1 _ _) s).2=decide (s∈t.2++[sP p q d args])
 rw[D8]
 by_cases he:sP p q d args=s
 subst he;simp
 rw[if_neg he,hI.key s]
 simp[Ne.symm he]
 show∃d' dd' args',_/\_/\_/\(BB zE (Cs t.1 _ _) s).1=_
 rw[D8]
 rcases ma.1 hs with h|h
 rw[if_neg fun e:sP p q d args=s=>hm (by rw[e];exact h)]
 exact hI.val s h
 rw[List.mem_singleton.1 h,if_pos rfl]
 exact⟨d,dd,args,hd,ha,rfl,rfl⟩
theorem V7{p q:AA}{d:Nat}{dd:X7}{args tail:List X0}{v v':X0}
 (h1:∀s∈p.symbols,s.event=(d:Int)->∀a,s.args[args.length]? =some a->Ft [] a v'=Ft [] a v) (h2:∀s∈q.symbols,s.event=(d:Int)->∀a,s.args[args.length]? =some a->Ft [] a v'=Ft [] a v):
 sP p q d (args++v'::tail)=sP p q d (args++v::tail):=by
 have key:∀(r:AA),(∀s∈r.symbols,s.event=(d:Int)->∀a,s.args[args.length]? =some a->Ft [] a v'=Ft [] a v)->mkM r [] d (args++v'::tail)=mkM r [] d (args++v::tail):=fun r hr=>by
  refine aEd (by simp) fun s hs he j a x y ha hx hy=>?_;by_cases hj:j=args.length;subst hj;rw[List.getElem?_append_right (Nat.le_refl _),Nat.sub_self,List.getElem?_cons_zero,oe]at hx hy;subst hx;subst hy;exact hr s hs he a ha;have:(args++v'::tail)[j]? =(args++v::tail)[j]? :=by
   rcases Nat.lt_or_ge j args.length with h|h
   rw[List.getElem?_append_left h,List.getElem?_append_left h];rw[List.getElem?_append_right h,List.getElem?_append_right h];obtain⟨m,hm⟩:∃m,j-args.length=m+1:=⟨j-args.length-1,by omega⟩;rw[hm,List.getElem?_cons_succ,List.getElem?_cons_succ]
  rw[this,hy,oe]at hx;rw[hx]
 unfold sP
 rw[key p h1,key q h2]
def okP(dd:X7)(args:List X0):Prop:=∀(j:Nat) v t,args[j]? =some v->dd.types[j]? =some t->v.kind=t/\vR v=true
theorem Nw{dd:X7}{args:List X0}(h:okP dd args){v:X0}{t:Int}(ht:dd.types[args.length]? =some t)(hv:v.kind=t/\vR v=true):okP dd (args++[v]):=fun j w u hj hu=>by
 rcases Nat.lt_or_ge j args.length with hlt|hge
 rw[List.getElem?_append_left hlt]at hj;exact h j w u hj hu;have hl:=At hj;rw[List.length_append,List.length_singleton]at hl;have:j=args.length:=by omega
 subst this;rw[List.getElem?_append_right (Nat.le_refl _),Nat.sub_self,List.getElem?_cons_zero,oe]at hj;rw[ht,oe]at hu;subst hj;subst hu;exact hv
theorem Nv{dd:X7}{args tail:List X0}{v v':X0}{t:Int}(ht:dd.types[args.length]? =some t)(h:okA dd (args++v::tail))(hv:v'.kind=t/\vR v'=true):okA dd (args++v'::tail):=by
 refine⟨by have:=h.1;simpa using this,fun j w u hj hu=>?_⟩;by_cases hja:j=args.length;subst hja;rw[List.getElem?_append_right (Nat.le_refl _),Nat.sub_self,List.getElem?_cons_zero,oe]at hj;rw[ht,oe]at hu;subst hj;subst hu;exact hv;refine h.2 j w u ?_ hu;rw[<-hj];rcases Nat.lt_or_ge j args.length with h'|h'
 rw[List.getElem?_append_left h',List.getElem?_append_left h'];rw[List.getElem?_append_right h',List.getElem?_append_right h'];obtain⟨m,hm⟩:∃m,j-args.length=m+1:=⟨j-args.length-1,by omega⟩;rw[hm,List.getElem?_cons_succ,List.getElem?_cons_succ]
theorem aF3{dd:X7}{args tail:List X0}{v:X0}{t:Int}(ht:dd.types[args.length]? =some t)(h:okA dd (args++v::tail)):v.kind=t/\vR v=true:=
 h.2 args.length v t (by rw[List.getElem?_append_right (Nat.le_refl _),Nat.sub_self,List.getElem?_cons_zero]) ht
theorem Cov.step{p q:AA}{d:Nat}{dd:X7}{L:List X5}{args l:List X0}{t:Int}(ht:dd.types[args.length]? =some t)(hV:PlV p q d args.length t l)(h:∀v∈l,Cov p q d dd L (args++[v])):Cov p q d dd L args:=fun tail htl=>by
 cases tail with
 |nil=>
  have:=htl.1
  rw[List.append_nil]at this
  have h2:=At ht
  omega
 |cons v tail=>
  obtain⟨hk,hv⟩:=aF3 ht htl
  obtain⟨v',hv',w1,w2⟩:=hV.whole v hk hv
  have hr:=hV.right v' hv'
  have:=h v' hv' tail (by rw[List.append_assoc];exact Nv ht htl hr)
  rw[List.append_assoc]at this
  rw[<-V7 (dd:=dd) w1 w2]
  exact this
theorem VM{p q:AA}(E:EqP p q){d:Nat}{dd:X7}(hd:p.decls[d]? =some dd):∀(n r:Nat) (args:List X0) (t:MT),r<n->args.length+r=dd.types.length->okP dd args->MvI p q t->
 ∃t':MT,PJ n p q (d:Int) args dd p q t.1 t.2=some t'/\MvI p q t'/\(∀s∈t.2,s∈t'.2)/\Cov p q d dd t'.2 args
 |0,r,args,t,hr,_,_,_=>by omega
 |n+1,r,args,t,hr,hl,hp,hI=>by
  have h3:=E.d3 dd (List.mem_of_getElem? hd);show∃t':MT,aKo (PJ n) p q (d:Int) args dd p q t.1 t.2=some t'/\_;unfold aKo;rw[AK hd];cases r with
  |zero=>
   have hok:okA dd args:=⟨by omega,hp⟩
   obtain⟨t',e,h1,h2,h4⟩:=aI2 E hd hok hI
   rw[decide_eq_true (by omega),AG,e,AD]
   refine⟨t',rfl,h1,h2,fun tail ht=>?_⟩
   have:tail=[]:=by have:=ht.1;rw[List.length_append]at this;exact List.length_eq_zero_iff.1 (by omega)
   subst this
   rw[List.append_nil];exact h4
  |succ r=>
   obtain⟨ty,hty,_⟩:=AP (l:=dd.types) (i:=args.length) (by omega)
   obtain⟨U,V,u1,u2,u3,hc⟩:=aEn E hd hty
   rw[decide_eq_false (by omega),AF,AK hd,AK hty,u1,AD,u2,AD]
   have hb1:Rw (PJ n) (d:Int) args dd p q ty (decide (ty=3)) p q U t.1 t.2 dd p q=some (C3 ty U):=by unfold Rw C3;by_cases h:ty=3;rw[decide_eq_true h,AG,if_pos h];rw[decide_eq_false h,AF,if_neg h]
   rw[hb1,AD]
   have hmain:∀(l:List X0),PlV p q d args.length ty l->∃t':MT,(AH (ZG (PJ n) (d:Int) args dd p q (l.length:Int) p q l dd p q 0 t.1 t.2) fun o13=>some (o13.1,o13.2))=some t'/\MvI p q t'/\(∀s∈t.2,s∈t'.2)/\Cov p q d dd t'.2 args:=fun l hV=>by
    have hll:=hV.len;obtain⟨o,h1,h2⟩:=Am (step:=fun s:Int×BY×List X5=>GZ (PJ n) (d:Int) args dd p q (l.length:Int) p q l dd p q s.1 s.2.1 s.2.2)
     (fun s=>∃i:Nat,s.1=(i:Int)/\i<=l.length/\MvI p q s.2/\(∀x∈t.2,x∈s.2.2)/\∀j v,j<i->l[j]? =some v->Cov p q d dd s.2.2 (args++[v]))
     (fun s=>(l.length-s.1).toNat) (fun o:MT=>MvI p q o/\(∀x∈t.2,x∈o.2)/\∀v∈l,Cov p q d dd o.2 (args++[v]))
     (by rintro⟨a,by_,L⟩ ⟨i,ha,hi,b1,b2,b3⟩;simp only at ha b1 b2 b3;subst ha;by_cases he:i=l.length;subst he;refine .inl ⟨(by_,L),by simp only[GZ,ltI,AF],b1,b2,fun v hv=>?_⟩;obtain⟨j,hj⟩:=List.getElem?_of_mem hv;exact b3 j v (At hj) hj;right;obtain⟨v,hv,_⟩:=AP (l:=l) (i:=i) (by omega);have hvr:=hV.right v (List.mem_of_getElem? hv);obtain⟨t',e,c1,c2,c3⟩:=VM E hd n r (args++[v]) (by_,L) (by omega) (by simp;omega) (Nw hp hty hvr) b1;simp only at e c2;refine⟨(((i+1:Nat):Int),t'.1,t'.2),?_,⟨i+1,rfl,by omega,c1,fun x hx=>c2 x (b2 x hx),fun j w hj hw=>?_⟩,by simp only;omega⟩;simp only[GZ,ltD hv,AG,AK hv,Af hv (show l.length<=9223372036854775807 by omega)];rw[An (by have:=At hv;omega),show U8 args=some args from NX args (by omega),AD,DO (by simp;omega) (by decide),e,AD];by_cases hji:j=i;subst hji;rw[hv,oe]at hw;subst hw;exact c3;exact(b3 j w (by omega) hw).mono c2)
     ((0:Int),t.1,t.2) ⟨0,rfl,Nat.zero_le _,hI,fun _ h=>h,fun j v hj=>by omega⟩
    have h1':ZG (PJ n) (d:Int) args dd p q (l.length:Int) p q l dd p q 0 t.1 t.2=some o:=h1;rw[h1',AD];exact⟨o,rfl,h2.1,h2.2.1,Cov.step hty hV h2.2.2⟩
   rcases hc with⟨h,n1,hV⟩|⟨h,x,n1,hV⟩
   rw[n1,AD]
   have hb2:Rx (PJ n) (d:Int) args dd p q (zV,false).2 p q (C3 ty U) (zV,false).1 t.1 t.2 dd p q=some (C3 ty U):=rfl
   rw[hb2,AD]
   exact hmain _ hV
   rw[n1,AD]
   have hb2:Rx (PJ n) (d:Int) args dd p q (x,true).2 p q (C3 ty U) (x,true).1 t.1 t.2 dd p q=some (C3 ty U++[x]):=by have hlp:=hV.len;rw[List.length_append,List.length_singleton]at hlp;show Ai _ _=_;rw[DO (by simp;omega) (by decide)]
   rw[hb2,AD]
   exact hmain _ hV
theorem aEe{p q:AA}(E:EqP p q):∃(L:List X5) (M:BY),Ya p q=some (L,M)/\MvI p q (M,L)/\∀(d:Nat) dd,p.decls[d]? =some dd->Cov p q d dd L []:=by
 have h12:=E.fp.decls;obtain⟨o,h1,h2⟩:=Am (step:=fun s:Int×BY×List X5=>E4 p q p.decls (p.decls.length:Int) s.1 s.2.1 s.2.2)
  (fun s=>∃i:Nat,s.1=(i:Int)/\i<=p.decls.length/\MvI p q s.2/\∀(d:Nat) dd,d<i->p.decls[d]? =some dd->Cov p q d dd s.2.2 [])
  (fun s=>(p.decls.length-s.1).toNat) (fun o:MT=>MvI p q o/\∀(d:Nat) dd,p.decls[d]? =some dd->Cov p q d dd o.2 [])
  (by rintro⟨a,by_,L⟩ ⟨i,ha,hi,b1,b3⟩;simp only at ha b1 b3;subst ha;by_cases he:i=p.decls.length;subst he;exact .inl ⟨(by_,L),by simp only[E4,ltI,AF],b1,fun d dd hd=>b3 d dd (At hd) hd⟩;right;obtain⟨x,hx,_⟩:=AP (l:=p.decls) (i:=i) (by omega);have h3:=E.d3 x (List.mem_of_getElem? hx);obtain⟨t',e,c1,c2,c3⟩:=VM E hx 100000 x.types.length [] (by_,L) (by omega) (by simp) (fun j v t hj=>by simp at hj) b1;have e':Xq p q (i:Int) [] x p q by_ L=some t':=e;simp only at c2;refine⟨(((i+1:Nat):Int),t'.1,t'.2),?_,⟨i+1,rfl,by omega,c1,fun j w hj hw=>?_⟩,by simp only;omega⟩;simp only[E4,ltD hx,AG,AK hx,Af hx (show p.decls.length<=9223372036854775807 by omega)];rw[e',AD];by_cases hji:j=i;subst hji;rw[hx,oe]at hw;subst hw;exact c3;exact(b3 j w (by omega) hw).mono c2)
  ((0:Int),(Ek:BY),[]) ⟨0,rfl,Nat.zero_le _,MvI.init p q,fun d dd hd=>by omega⟩
 have h1':Ss p q p.decls (p.decls.length:Int) 0 (Ek:BY) []=some o:=h1;exact⟨o.2,o.1,by unfold Ya;rw[h1',AD],h2.1,h2.2⟩
theorem aEy{a b:List X0}(ha:SW a)(hb:∀v∈b,vR v=true)(hl:a.length+b.length<=800):Zb a b=some (b.foldl Hl a):=by
 have h:aH5 b a 0=some (b.foldl Hl a):=by refine FN (step:=fun s:List X0×Int=>G6 b s.1 s.2) b Hl id (fun i w=>SW w/\w.length<=a.length+i) (fun i x w hx hw=>?_) (fun w _=>by simp only[G6,ltI,AF];rfl) a ⟨ha,by omega⟩;have hi:=At hx;have hxr:=hb x (List.mem_of_getElem? hx);obtain⟨s1,s2⟩:=KB hw.1 hxr;refine⟨?_,s1,by rw[s2];have:=hw.2;split<;>omega⟩;simp only[G6,ltD hx,AG,AK hx,aBp hw.1 hxr (show w.length<=900 by have:=hw.2;omega),AD,Af hx (show b.length<=9223372036854775807 by omega)]
 unfold Zb;rw[h];rfl
theorem Ij{q:AA}(hF:CS q)(hR:Ad q)(t:Int):∀v∈FC q t,v.kind=t/\vR v=true:=fun v hv=>⟨Oz hv,(cons_inv hF hR t).1.2 v hv⟩
theorem NZ{q:AA}(hR:Ad q){d k:Nat}{dd:X7}{t:Int}(hd:q.decls[d]? =some dd)(ht:dd.types[k]? =some t){v:X0}(h:PX q d k v):v∈FC q t:=by have hk:=(FA hR hd ht h).1;obtain⟨s,hs,he,a,ha,hk1,rfl⟩:=h;exact HP.2 (.inr ⟨s,hs,a,List.mem_of_getElem? ha,hk1,hk,rfl⟩)
theorem WJ{p q:AA}(E:EqP p q){d k:Nat}{dd:X7}{t:Int}(hd:p.decls[d]? =some dd)(ht:dd.types[k]? =some t):∃l,Q3 p q t=some l/\PlV p q d k t l:=by
 have hdq:q.decls[d]? =some dd:=by rw[E.de];exact hd
 have h13:=E.ty dd (List.mem_of_getElem? hd) t (List.mem_of_getElem? ht);obtain⟨p1,p2⟩:=cons_inv E.fp E.rp t;obtain⟨q1,q2⟩:=cons_inv E.fq E.rq t;obtain⟨s1,s2,s3⟩:=aJg (FC q t) (FC p t) q1.2 p1;unfold Q3;rw[aKm E.fp E.rp,AD,aKm E.fq E.rq,AD,aEy p1 q1.2 (by omega),AD];generalize (FC q t).foldl Hl (FC p t)=U at s1 s2 s3;have hUr:∀v∈U,v.kind=t/\vR v=true:=fun v hv=>by
  rcases(s3 v).1 hv with h|h
  exact Ij E.fp E.rp t v h;exact Ij E.fq E.rq t v h
 have hC:∀v,v∉U->¬PX p d k v/\¬PX q d k v:=fun v hv=>⟨fun h=>hv ((s3 v).2 (.inl (NZ E.rp hd ht h))),fun h=>hv ((s3 v).2 (.inr (NZ E.rq hdq ht h)))⟩;unfold WV;by_cases h3:t=3;rw[decide_eq_true h3,Bool.not_true,AF,AD];refine⟨U,rfl,N1 E (by omega) hUr (fun v hk hv=>.inl ((s3 v).2 (.inl (HP.2 (.inl ⟨h3,?_⟩)))))⟩;have:=vR3 hv (hk.trans h3);exact this;obtain⟨x,_,hx2,hx3,hx4,hx5⟩:=aE7 (k:=t) (by omega) (l:=U) (w:=U) (by omega) s1 (by omega) (fun v _=>Iff.rfl);rw[decide_eq_false h3,Bool.not_false,AG,hx2,AD,aBp s1 hx5 (by omega),AD,AD];obtain⟨_,g2⟩:=KB s1 hx5;refine⟨Hl U x,rfl,N1 E (by rw[g2];split<;>omega) (fun v hv=>?_) (fun v hk hv=>?_)⟩;rcases Ej.1 hv with rfl|h
 exact⟨hx4,hx5⟩;exact hUr v h;by_cases hvU:v∈U;exact .inl (Ej.2 (.inr hvU));exact .inr ⟨(hC v hvU).1,(hC v hvU).2,x,Ej.2 (.inl rfl),(hC x hx3).1,(hC x hx3).2⟩
def aMv(p:AA)(d:Nat)(dd:X7)(l:List X3):Prop:=∀e∈l,∃args,okA dd args/\e=X3.mk dd.name args
def aGi(p q:AA)(d:Nat)(dd:X7)(l:List X3)(args:List X0):Prop:=∀tail,okA dd (args++tail)->∃args',okA dd args'/\X3.mk dd.name args'∈l/\sP p q d args'=sP p q d (args++tail)
theorem aGi.step{p q:AA}{d:Nat}{dd:X7}{L:List X3}{args l:List X0}{t:Int}(ht:dd.types[args.length]? =some t)(hV:PlV p q d args.length t l)(h:∀v∈l,aGi p q d dd L (args++[v])):aGi p q d dd L args:=fun tail htl=>by
 cases tail with
 |nil=>
  have:=htl.1
  rw[List.append_nil]at this
  have h2:=At ht
  omega
 |cons v tail=>
  obtain⟨hk,hv⟩:=aF3 ht htl
  obtain⟨v',hv',w1,w2⟩:=hV.whole v hk hv
  have hr:=hV.right v' hv'
  obtain⟨args',a1,a2,a3⟩:=h v' hv' tail (by rw[List.append_assoc];exact Nv ht htl hr)
  rw[List.append_assoc]at a3
  exact⟨args',a1,a2,by rw[a3];exact V7 (dd:=dd) w1 w2⟩
theorem Vv{r:Nat}(h:r<=3):401^r<=64481201:=by have:401^r<=401^3:=Nat.pow_le_pow_right (by decide) h;exact this
theorem aFt{p q:AA}(E:EqP p q){d:Nat}{dd:X7}(hd:p.decls[d]? =some dd):∀(n r:Nat) (args:List X0),r<n->args.length+r=dd.types.length->okP dd args->
 ∃l,aFc n p q (d:Int) args=some l/\aMv p d dd l/\aGi p q d dd l args/\l.length<=401^r
 |0,r,args,hr,_,_=>by omega
 |n+1,r,args,hr,hl,hp=>by
  have h3:=E.d3 dd (List.mem_of_getElem? hd);show∃l,aKy (aFc n) p q (d:Int) args=some l/\_;unfold aKy;rw[AK hd];cases r with
  |zero=>
   have hok:okA dd args:=⟨by omega,hp⟩
   rw[decide_eq_true (by omega),AG,AK hd]
   refine⟨_,rfl,fun e he=>⟨args,hok,List.mem_singleton.1 he⟩,fun tail ht=>?_,by simp⟩
   have:tail=[]:=by have:=ht.1;rw[List.length_append]at this;exact List.length_eq_zero_iff.1 (by omega)
   subst this
   rw[List.append_nil]
   exact⟨args,hok,by simp,rfl⟩
  |succ r=>
   obtain⟨ty,hty,_⟩:=AP (l:=dd.types) (i:=args.length) (by omega)
   obtain⟨l,v1,hV⟩:=WJ E hd hty
   have hll:=hV.len
   have hpw:=Vv (r:=r) (by omega)
   have hpw2:=Vv (r:=r+1) (by omega)
   rw[decide_eq_false (by omega),AF,AK hd,AK hty,v1,AD]
   obtain⟨o,h1,h2⟩:=Am (step:=fun s:Int×List X3=>Gi (aFc n) (d:Int) args l p q s.1 s.2)
    (fun s=>∃i:Nat,s.1=(i:Int)/\i<=l.length/\aMv p d dd s.2/\(∀j v,j<i->l[j]? =some v->aGi p q d dd s.2 (args++[v]))/\s.2.length<=i*401^r)
    (fun s=>(l.length-s.1).toNat) (fun o=>aMv p d dd o/\(∀v∈l,aGi p q d dd o (args++[v]))/\o.length<=l.length*401^r)
    (by
     rintro⟨a,w⟩ ⟨i,ha,hi,b1,b2,b3⟩;simp only at ha b1 b2 b3;subst ha;by_cases he:i=l.length;subst he;refine .inl ⟨w,by simp only[Gi,ltI,AF],b1,fun v hv=>?_,b3⟩;obtain⟨j,hj⟩:=List.getElem?_of_mem hv;exact b2 j v (At hj) hj;right;obtain⟨v,hv,_⟩:=AP (l:=l) (i:=i) (by omega);have hvr:=hV.right v (List.mem_of_getElem? hv);obtain⟨m,e,c1,c2,c3⟩:=aFt E hd n r (args++[v]) (by omega) (by simp;omega) (Nw hp hty hvr);have hwl:w.length+m.length<=(i+1)*401^r:=by rw[Nat.add_mul];omega
     have hwl2:(i+1)*401^r<=401*401^r:=Nat.mul_le_mul_right _ (by omega);have hwl3:401*401^r=401^(r+1):=by rw[Nat.pow_succ,Nat.mul_comm]
     refine⟨(((i+1:Nat):Int),w++m),?_,⟨i+1,rfl,by omega,fun e he=>?_,fun j x hj hx=>?_,by simp only[List.length_append];exact hwl⟩,by simp only;omega⟩;simp only[Gi,ltD hv,AG,AK hv,Af hv (show l.length<=9223372036854775807 by omega)];rw[DO (by simp;omega) (by decide),DO (by simp;omega) (by decide),List.nil_append,e,AD,DO (by omega) (by decide)];rcases ma.1 he with h|h
     exact b1 e h;exact c1 e h;by_cases hji:j=i;subst hji;rw[hv,oe]at hx;subst hx;intro tail ht;obtain⟨args',g1,g2,g3⟩:=c2 tail ht;exact⟨args',g1,mr _ g2,g3⟩;intro tail ht;obtain⟨args',g1,g2,g3⟩:=b2 j x (by omega) hx tail ht;exact⟨args',g1,ml _ g2,g3⟩)
    ((0:Int),[]) ⟨0,rfl,Nat.zero_le _,(fun e he=>by cases he),(fun j v hj=>by omega),by simp⟩
   have h1':aHd (aFc n) (d:Int) args l p q 0 []=some o:=h1
   rw[h1',AD]
   refine⟨o,rfl,h2.1,aGi.step hty hV h2.2.1,Nat.le_trans h2.2.2 ?_⟩
   rw[Nat.pow_succ,Nat.mul_comm (401^r)]
   exact Nat.mul_le_mul_right _ hll
structure aMj(p q:AA)(all:List X3):Prop where
 len:all.length<=773774412
 right:∀e∈all,∃(d:Nat) (dd:X7) (args:List X0),p.decls[d]? =some dd/\okA dd args/\e=X3.mk dd.name args
 cov:∀(d:Nat) dd args,p.decls[d]? =some dd->okA dd args->∃args',okA dd args'/\X3.mk dd.name args'∈all/\sP p q d args'=sP p q d args
theorem aLs{p q:AA}(E:EqP p q):∃all,aGx p q 0 []=some all/\aMj p q all:=by
 have h12:=E.fp.decls;obtain⟨o,h1,h2,h3,h4⟩:=Am (step:=fun s:Int×List X3=>GN p q s.1 s.2)
  (fun s=>∃i:Nat,s.1=(i:Int)/\i<=p.decls.length/\s.2.length<=i*64481201/\(∀e∈s.2,∃(d:Nat) (dd:X7) (args:List X0),p.decls[d]? =some dd/\okA dd args/\e=X3.mk dd.name args)/\
   ∀(d:Nat) dd args,d<i->p.decls[d]? =some dd->okA dd args->∃args',okA dd args'/\X3.mk dd.name args'∈s.2/\sP p q d args'=sP p q d args)
  (fun s=>(p.decls.length-s.1).toNat) (fun o=>o.length<=p.decls.length*64481201/\(∀e∈o,∃(d:Nat) (dd:X7) (args:List X0),p.decls[d]? =some dd/\okA dd args/\e=X3.mk dd.name args)/\
   ∀(d:Nat) dd args,p.decls[d]? =some dd->okA dd args->∃args',okA dd args'/\X3.mk dd.name args'∈o/\sP p q d args'=sP p q d args)
  (by
   rintro⟨a,w⟩ ⟨i,ha,hi,b0,b1,b2⟩;simp only at ha b0 b1 b2;subst ha;by_cases he:i=p.decls.length;subst he;exact .inl ⟨w,by simp only[GN,ltI,AF],b0,b1,fun d dd args hd ha=>b2 d dd args (At hd) hd ha⟩;right;obtain⟨x,hx,_⟩:=AP (l:=p.decls) (i:=i) (by omega);have h3:=E.d3 x (List.mem_of_getElem? hx);obtain⟨m,e,c1,c2,c3⟩:=aFt E hx 100000 x.types.length [] (by omega) (by simp) (fun j v t hj=>by simp at hj);have e':Yb p q (i:Int) []=some m:=e;have hm:m.length<=64481201:=Nat.le_trans c3 (Vv h3);refine⟨(((i+1:Nat):Int),w++m),?_,⟨i+1,rfl,by omega,by simp only[List.length_append];omega,fun e he=>?_,fun j dd args hj hdd ha=>?_⟩,by simp only;omega⟩;simp only[GN,ltD hx,AG,Af hx (show p.decls.length<=9223372036854775807 by omega)];rw[e',AD,DO (by omega) (by decide)];rcases ma.1 he with h|h
   exact b1 e h;obtain⟨args,g1,g2⟩:=c1 e h;exact⟨i,x,args,hx,g1,g2⟩;by_cases hji:j=i;subst hji;rw[hx,oe]at hdd;subst hdd;obtain⟨args',g1,g2,g3⟩:=c2 args ha;exact⟨args',g1,mr _ g2,g3⟩;obtain⟨args',g1,g2,g3⟩:=b2 j dd args (by omega) hdd ha;exact⟨args',g1,ml _ g2,g3⟩)
  ((0:Int),[]) ⟨0,rfl,Nat.zero_le _,by simp,(fun e he=>by cases he),fun d dd args hd=>by omega⟩
 exact⟨o,h1,by omega,h3,h4⟩
section
variable {α β:Type}
inductive IB(nxt:α->β->α)(ms:List β)(s:α):Nat->α->Prop
 |nil:IB nxt ms s 0 s
 |snoc {k:Nat} {x:α} {m:β}:IB nxt ms s k x->m∈ms->IB nxt ms s (k+1) (nxt x m)
def bfS [DecidableEq α](nxt:α->β->α)(x:α)(a:Nat)(t:List α×List Nat)(m:β):List α×List Nat:=if nxt x m∈t.1 then t else(t.1++[nxt x m],t.2++[a+1])
structure BM(nxt:α->β->α)(ms:List β)(s:α)(i:Nat)(x:α)(a:Nat)(dn:β->Prop)(t:List α×List Nat):Prop where
 len:t.2.length=t.1.length
 nd:t.1.Nodup
 hd:t.1[0]? =some s
 f0:t.2[0]? =some 0
 at':t.1[i]? =some x
 fa:t.2[i]? =some a
 mono:∀(j k b c:Nat),j<=k->t.2[j]? =some b->t.2[k]? =some c->b<=c
 low:∀(j b:Nat),t.2[j]? =some b->b<=j
 top:∀b∈t.2,b<=a+1
 cl:∀(j:Nat) y (b:Nat),j<i->t.1[j]? =some y->t.2[j]? =some b->∀m∈ms,∃k c:Nat,t.1[k]? =some (nxt y m)/\t.2[k]? =some c/\c<=b+1
 rc:∀(j:Nat) y (b:Nat),t.1[j]? =some y->t.2[j]? =some b->IB nxt ms s b y
 dn:∀m,dn m->∃k c:Nat,t.1[k]? =some (nxt x m)/\t.2[k]? =some c/\c<=a+1
structure BF(nxt:α->β->α)(ms:List β)(s:α)(i:Nat)(t:List α×List Nat):Prop where
 len:t.2.length=t.1.length
 nd:t.1.Nodup
 hd:t.1[0]? =some s
 f0:t.2[0]? =some 0
 le:i<=t.1.length
 mono:∀(j k b c:Nat),j<=k->t.2[j]? =some b->t.2[k]? =some c->b<=c
 low:∀(j b:Nat),t.2[j]? =some b->b<=j
 top:∀a,t.2[i]? =some a->∀b∈t.2,b<=a+1
 cl:∀(j:Nat) y (b:Nat),j<i->t.1[j]? =some y->t.2[j]? =some b->∀m∈ms,∃k c:Nat,t.1[k]? =some (nxt y m)/\t.2[k]? =some c/\c<=b+1
 rc:∀(j:Nat) y (b:Nat),t.1[j]? =some y->t.2[j]? =some b->IB nxt ms s b y
variable {nxt:α->β->α} {ms:List β} {s:α}
theorem BF.init:BF nxt ms s 0 ([s],[0]):=by
 have one:∀{γ:Type} {x y:γ} {j:Nat},[x][j]? =some y->j=0/\x=y:=fun{γ x y j} h=>by
  have:=At h;rw[List.length_singleton]at this;have:j=0:=by omega
  subst this;exact⟨rfl,by simpa using h⟩
 refine⟨rfl,by simp,rfl,rfl,Nat.zero_le _,fun j k b c _ h1 h2=>?_,fun j b h1=>?_,fun a _ b hb=>?_,fun j y b hj=>by omega,fun j y b h1 h2=>?_⟩;rw[<-(one h1).2,<-(one h2).2];exact Nat.le_refl _;rw[<-(one h1).2];exact Nat.zero_le _;rw[List.mem_singleton.1 hb];omega;rw[<-(one h1).2,<-(one h2).2];exact .nil
theorem BF.enter{i:Nat}{t:List α×List Nat}(h:BF nxt ms s i t){x:α}(hx:t.1[i]? =some x):∃a,t.2[i]? =some a/\BM nxt ms s i x a (fun _=>False) t:=by obtain⟨a,ha,_⟩:=AP (l:=t.2) (i:=i) (by rw[h.len];exact At hx);exact⟨a,ha,h.len,h.nd,h.hd,h.f0,hx,ha,h.mono,h.low,h.top a ha,h.cl,h.rc,fun _ h=>h.elim⟩
theorem BM.step [DecidableEq α]{i:Nat}{x:α}{a:Nat}{dn:β->Prop}{t:List α×List Nat}(h:BM nxt ms s i x a dn t){m:β}(hm:m∈ms):BM nxt ms s i x a (fun m'=>dn m'\/m'=m) (bfS nxt x a t m):=by
 unfold bfS;split;rename_i hin;refine⟨h.len,h.nd,h.hd,h.f0,h.at',h.fa,h.mono,h.low,h.top,h.cl,h.rc,fun m' hm'=>?_⟩;rcases hm' with hm'|rfl
 exact h.dn m' hm';obtain⟨k,hk⟩:=List.getElem?_of_mem hin;obtain⟨c,hc,_⟩:=AP (l:=t.2) (i:=k) (by rw[h.len];exact At hk);exact⟨k,c,hk,hc,h.top c (List.mem_of_getElem? hc)⟩;rename_i hin;have h0:=At h.hd;have u1:∀{j:Nat} {y:α},t.1[j]? =some y->(t.1++[nxt x m])[j]? =some y:=fun hj=>by rw[List.getElem?_append_left (At hj)];exact hj
 have u2:∀{j:Nat} {b:Nat},t.2[j]? =some b->(t.2++[a+1])[j]? =some b:=fun hj=>by rw[List.getElem?_append_left (At hj)];exact hj
 have w1:∀{j:Nat} {y:α},(t.1++[nxt x m])[j]? =some y->t.1[j]? =some y\/(j=t.1.length/\y=nxt x m):=fun{j y} hj=>by
  rcases Nat.lt_or_ge j t.1.length with hlt|hge
  rw[List.getElem?_append_left hlt]at hj;exact .inl hj;have hl:=At hj;rw[List.length_append,List.length_singleton]at hl;have:j=t.1.length:=by omega
  subst this;rw[List.getElem?_append_right (Nat.le_refl _),Nat.sub_self,List.getElem?_cons_zero,oe]at hj;exact .inr ⟨rfl,hj.symm⟩
 have w2:∀{j:Nat} {b:Nat},(t.2++[a+1])[j]? =some b->t.2[j]? =some b\/(j=t.1.length/\b=a+1):=fun{j b} hj=>by
  rcases Nat.lt_or_ge j t.2.length with hlt|hge
  rw[List.getElem?_append_left hlt]at hj;exact .inl hj;have hl:=At hj;rw[List.length_append,List.length_singleton]at hl;have:j=t.2.length:=by omega
  subst this;rw[List.getElem?_append_right (Nat.le_refl _),Nat.sub_self,List.getElem?_cons_zero,oe]at hj;exact .inr ⟨h.len,hj.symm⟩
 have hlast:(t.1++[nxt x m])[t.1.length]? =some (nxt x m):=by rw[List.getElem?_append_right (Nat.le_refl _),Nat.sub_self];rfl
 have hlast2:(t.2++[a+1])[t.1.length]? =some (a+1):=by rw[<-h.len,List.getElem?_append_right (Nat.le_refl _),Nat.sub_self];rfl
 refine⟨by simp[h.len],List.nodup_append.2 ⟨h.nd,by simp,fun y hy z hz e=>hin (by rw[List.mem_singleton.1 hz]at e;exact e▸hy)⟩,u1 h.hd,u2 h.f0,u1 h.at',u2 h.fa,fun j k b c hjk hb hc=>?_,fun j b hb=>?_,fun b hb=>?_,fun j y b hj hy hb m' hm'=>?_,fun j y b hy hb=>?_,fun m' hm'=>?_⟩;rcases w2 hb with hb|⟨rfl,rfl⟩
 rcases w2 hc with hc|⟨rfl,rfl⟩
 exact h.mono j k b c hjk hb hc;exact h.top b (List.mem_of_getElem? hb);rcases w2 hc with hc|⟨rfl,rfl⟩
 have:=At hc;rw[h.len]at this;omega;exact Nat.le_refl _;rcases w2 hb with hb|⟨rfl,rfl⟩
 exact h.low j b hb;have:=h.low i a h.fa;have:=At h.at';omega;rcases ma.1 hb with hb|hb
 exact h.top b hb;rw[List.mem_singleton.1 hb];exact Nat.le_refl _;have hil:=At h.at';rcases w1 hy with hy|⟨rfl,_⟩
 rcases w2 hb with hb|⟨rfl,_⟩
 obtain⟨k,c,c1,c2,c3⟩:=h.cl j y b hj hy hb m' hm';exact⟨k,c,u1 c1,u2 c2,c3⟩;omega;omega;rcases w1 hy with hy|⟨rfl,rfl⟩
 rcases w2 hb with hb|⟨rfl,_⟩
 exact h.rc j y b hy hb;exact absurd (At hy) (Nat.lt_irrefl _);rcases w2 hb with hb|⟨_,rfl⟩
 have:=At hb;rw[h.len]at this;exact absurd this (Nat.lt_irrefl _);exact(h.rc i x a h.at' h.fa).snoc hm;rcases hm' with hm'|rfl
 obtain⟨k,c,c1,c2,c3⟩:=h.dn m' hm';exact⟨k,c,u1 c1,u2 c2,c3⟩;exact⟨_,_,hlast,hlast2,Nat.le_refl _⟩
theorem BM.leave{i:Nat}{x:α}{a:Nat}{dn:β->Prop}{t:List α×List Nat}(h:BM nxt ms s i x a dn t)(hd:∀m∈ms,dn m):BF nxt ms s (i+1) t:=by refine⟨h.len,h.nd,h.hd,h.f0,At h.at',h.mono,h.low,fun b hb c hc=>?_,fun j y b hj hy hb m hm=>?_,h.rc⟩;have h1:=h.top c hc;have h2:=h.mono i (i+1) a b (by omega) h.fa hb;omega;by_cases hji:j=i;subst hji;rw[h.at',oe]at hy;rw[h.fa,oe]at hb;subst hy;subst hb;exact h.dn m (hd m hm);exact h.cl j y b (by omega) hy hb m hm
theorem BF.cover{i:Nat}{t:List α×List Nat}(h:BF nxt ms s i t){k:Nat}{y:α}(hw:IB nxt ms s k y):(∀a,t.2[i]? =some a->k<=a)->∃j b:Nat,t.1[j]? =some y/\t.2[j]? =some b/\b<=k:=by
 induction hw with
 |nil=>exact fun _=>⟨0,0,h.hd,h.f0,Nat.le_refl _⟩
 |snoc hw hm ih=>
  rename_i k x m
  intro hc
  obtain⟨j,b,h1,h2,h3⟩:=ih fun a ha=>Nat.le_of_succ_le (hc a ha)
  have hj:j<i:=by
   rcases Nat.lt_or_ge j i with hji|hji
   exact hji;exfalso;obtain⟨a,ha,_⟩:=AP (l:=t.2) (i:=i) (Nat.lt_of_le_of_lt hji (At h2));have:=h.mono i j a b hji ha h2;have:=hc a ha;omega
  obtain⟨k',c,c1,c2,c3⟩:=h.cl j x b hj h1 h2 m hm
  exact⟨k',c,c1,c2,by omega⟩
theorem BF.short{i:Nat}{t:List α×List Nat}(h:BF nxt ms s i t){P:α->Bool}(hP:∀(j:Nat) y,j<i->t.1[j]? =some y->P y=false){a:Nat}(ha:t.2[i]? =some a){k:Nat}{y:α}(hw:IB nxt ms s k y)(hy:P y=true):a<=k:=by
 rcases Nat.lt_or_ge k a with hk|hk
 exfalso;obtain⟨j,b,h1,h2,h3⟩:=h.cover hw fun a' ha'=>by rw[ha,oe]at ha';omega
 have hj:j<i:=by
  rcases Nat.lt_or_ge j i with hji|hji
  exact hji;have:=h.mono i j a b hji ha h2;omega
 rw[hP j y hj h1]at hy;cases hy;exact hk
theorem BF.none{i:Nat}{t:List α×List Nat}(h:BF nxt ms s i t){P:α->Bool}(hP:∀(j:Nat) y,j<i->t.1[j]? =some y->P y=false)(hi:i=t.1.length){k:Nat}{y:α}(hw:IB nxt ms s k y):P y=false:=by
 obtain⟨j,b,h1,_⟩:=h.cover hw fun a ha=>by have:=At ha;rw[h.len]at this;omega
 exact hP j y (by rw[hi];exact At h1) h1
theorem Ux [DecidableEq α]{i:Nat}{x:α}{a:Nat}:∀(l:List β) {dn:β->Prop} {t:List α×List Nat},(∀m∈l,m∈ms)->BM nxt ms s i x a dn t->BM nxt ms s i x a (fun m=>dn m\/m∈l) (l.foldl (bfS nxt x a) t)
 |[],dn,t,_,h=>by
  have:(fun m=>dn m\/m∈([]:List β))=dn:=by funext m;simp
  rw[this];exact h
 |m::l,dn,t,hl,h=>by
  have h1:=Ux l (fun m' hm'=>hl m' (.tail _ hm')) (h.step (hl m (.head _)));have:(fun m'=>(dn m'\/m'=m)\/m'∈l)=fun m'=>dn m'\/m'∈m::l:=by funext m';simp[or_assoc]
  rw[this]at h1;exact h1
theorem BF.round [DecidableEq α]{i:Nat}{t:List α×List Nat}(h:BF nxt ms s i t){x:α}{a:Nat}(hx:t.1[i]? =some x)(ha:t.2[i]? =some a):BF nxt ms s (i+1) (ms.foldl (bfS nxt x a) t):=by obtain⟨a',ha',hB⟩:=h.enter hx;rw[ha,oe]at ha';subst ha';exact(Ux ms (fun _ h=>h) hB).leave fun m hm=>.inr hm
theorem Uw [DecidableEq α]{x:α}{a:Nat}{t:List α×List Nat}{m:β}{i:Nat}{y:α}(h:t.1[i]? =some y):(bfS nxt x a t m).1[i]? =some y:=by unfold bfS;split;exact h;rw[List.getElem?_append_left (At h)];exact h
theorem IB.inv{P:α->Prop}(hs:P s)(hn:∀x m,P x->m∈ms->P (nxt x m)){k:Nat}{y:α}(h:IB nxt ms s k y):P y:=by
 induction h with
 |nil=>exact hs
 |snoc _ hm ih=>exact hn _ _ ih hm
theorem IB.other{γ:Type}{nxt':α->γ->α}{ms':List γ}(hn:∀x m,m∈ms->∃m'∈ms',nxt' x m'=nxt x m){k:Nat}{y:α}(h:IB nxt ms s k y):IB nxt' ms' s k y:=by
 induction h with
 |nil=>exact .nil
 |snoc _ hm ih=>
  obtain⟨m',h1,h2⟩:=hn _ _ hm
  rw[<-h2]
  exact ih.snoc h1
end
abbrev PP:=Int×Int
def SmI(x:Int):Prop:=∃n:Nat,x=(n:Int)/\n<256
def SmS(s:X5):Prop:=SmI s.p/\SmI s.q
def mv(p q:AA)(z:PP)(s:X5):PP:=(if s.p=0 then z.1 else nx p z.1 s.p,if s.q=0 then z.2 else nx q z.2 s.q)
theorem aL6{q:AA}(hR:Ad q)(hS:Bg q)(x m:Int):SmI (nx q x m):=⟨_,rfl,Nat.lt_of_lt_of_le (aEg hR _ _) (show 2^q.states.length<=2^8 from Nat.pow_le_pow_right (by decide) hS.states)⟩
theorem Fv{q:AA}(hF:CS q)(hR:Ad q){x m:Int}(hx:SmI x)(hm:SmI m):Xa q x m=some (nx q x m)/\Xi q x m=some (nx q x m):=by obtain⟨n,rfl,hn⟩:=hx;obtain⟨k,rfl,hk⟩:=hm;refine⟨?_,?_⟩;rw[aN1 hF hR (show n<4294967296 by omega) (show k<18446744073709551616 by omega)];rfl;rw[aN8 hF hR (show n<4294967296 by omega) (show k<18446744073709551616 by omega)];rfl
def SmP(z:PP):Prop:=SmI z.1/\SmI z.2
theorem aI5{p q:AA}(E:EqP p q){z:PP}(hz:SmP z)(s:X5):SmP (mv p q z s):=by
 unfold mv;refine⟨?_,?_⟩;show SmI (if s.p=0 then _ else _)
 split;exact hz.1;exact aL6 E.rp E.sp _ _;show SmI (if s.q=0 then _ else _)
 split;exact hz.2;exact aL6 E.rq E.sq _ _
theorem aJd{p q:AA}(E:EqP p q)(d:Nat)(args:List X0):SmS (sP p q d args):=⟨⟨_,rfl,Nq E.sp _ _⟩,⟨_,rfl,Nq E.sq _ _⟩⟩
theorem N3{o:List PP}(h1:o.Nodup)(h2:∀z∈o,SmP z):o.length<=65536:=by
 have hinj:(o.map fun z:PP=>z.1*256+z.2).Nodup:=by unfold List.Nodup;rw[List.pairwise_map];refine List.Pairwise.imp_of_mem (fun{a b} ha hb hab he=>hab ?_) h1;obtain⟨⟨n1,e1,l1⟩,⟨n2,e2,l2⟩⟩:=h2 a ha;obtain⟨⟨n3,e3,l3⟩,⟨n4,e4,l4⟩⟩:=h2 b hb;apply Prod.ext<;>omega
 have:=hinj.length_le_of_subset (l₂:=(List.range 65536).map (fun n:Nat=>(n:Int))) fun x hx=>by obtain⟨z,hz,rfl⟩:=mm.1 hx;obtain⟨⟨n1,e1,l1⟩,⟨n2,e2,l2⟩⟩:=h2 z hz;exact mm.2 ⟨n1*256+n2,List.mem_range.2 (by omega),by rw[e1,e2];simp⟩
 simpa using this
def Dc(p q:AA)(z:PP):Bool:= !(PN p z.1==PN q z.2)
theorem KI{q:AA}(hF:CS q){S:Nat}(hS:S<4294967296):Y1 q (S:Int)=some (PK q S):=by
 have h8:=hF.states;have h:SR (S:Int) q.states (q.states.length:Int) 0=_:=Cl (step:=fun s=>Ez (S:Int) q.states (q.states.length:Int) s) q.states (PM S) (.inl ())
  (fun i st hi=>by
   have hil:=At hi;have h1:=A4 (n:=i) (by omega);have h2:=aFi (n:=S) (m:=2^i) hS (Nat.lt_of_lt_of_le (Nat.pow_lt_pow_right (by decide) (show i<32 by omega)) (by decide));simp only[Ez,ltD hi,AG,AK hi,Af hi (show q.states.length<=9223372036854775807 by omega),h1,Ku (show i<32 by omega),h2,PM];rw[An (by omega)];have h3:((S&&&2^i:Nat):Int)=0↔S.testBit i=false:=by rw[<-L1];omega
   cases st.accept with
   |false=>simp[AE]
   |true=>
    rw[AG]
    cases hb:S.testBit i with
    |false=>rw[decide_eq_true (h3.2 hb)];simp[AE]
    |true=>rw[decide_eq_false (by rw[h3,hb];simp)];simp[AE])
  (by simp only[Ez,ltI,AF])
 unfold Y1 PK;rw[h,AD];cases Ix (DA (PM S)) (fun _=>.inl ()) 0 q.states ()<;>rfl
theorem aC7{q:AA}(hF:CS q){x:Int}(h:SmI x):Y1 q x=some (PN q x)/\Yy q x=some (PN q x):=by obtain⟨n,rfl,hn⟩:=h;refine⟨?_,?_⟩;rw[KI hF (by omega),PN,Int.toNat_natCast];rw[OL hF (by omega),PN,Int.toNat_natCast]
def mkR(z:PP):Xf:=⟨z.1,z.2⟩
theorem aI4{a b:PP}(h:mkR a=mkR b):a=b:=by unfold mkR at h;simp only[Xf.mk.injEq]at h;exact Prod.ext h.1 h.2
theorem Xf.eqb_dec(a b:Xf):Xf.eqb a b=decide (a=b):=by rw[Bool.eq_iff_iff,Xf.eqb_iff];simp
theorem aD1(o:List PP)(z:PP)(hl:o.length<=9223372036854775807):Zc (o.map mkR) (mkR z)=some (decide (z∈o)):=by
 have hl':(o.map mkR).length<=9223372036854775807:=by rw[List.length_map];exact hl
 have h:aH6 (o.map mkR) (mkR z) 0=some (if(o.map mkR).all (fun y=> !decide (y=mkR z))=true then .inl ()else .inr ()):=Bm (step:=fun s=>G7 (o.map mkR) (mkR z) s) (o.map mkR) (fun y=> !decide (y=mkR z)) (.inl ()) (.inr ())
  (fun i y hy=>by simp only[G7,ltD hy,AG,AK hy,Af hy hl',Xf.eqb_dec,Cy];by_cases h:y=mkR z<;>simp[h])
  (by simp only[G7,ltI,AF])
 unfold Zc;rw[h,AD];by_cases hz:z∈o;rw[if_neg,DL,decide_eq_true hz];rw[List.all_eq_true];intro h;have:=h (mkR z) (List.mem_map_of_mem hz);simp at this;rw[if_pos,Bo,decide_eq_false hz];rw[List.all_eq_true];intro y hy;obtain⟨w,hw,rfl⟩:=mm.1 hy;have:¬mkR w=mkR z:=fun e=>hz (aI4 e▸hw);simp[this]
def ofE(p q:AA)(e:X3):X5:=match EB p.decls e.name with
 |some d=>sP p q d e.args
 |none=>⟨0,0⟩
theorem Vr{p q:AA}(E:EqP p q){d:Nat}{dd:X7}(hd:p.decls[d]? =some dd)(args:List X0):ofE p q (X3.mk dd.name args)=sP p q d args:=by unfold ofE;rw[E.rp.decls d dd hd]
theorem aGm{p q:AA}(E:EqP p q){d:Nat}{dd:X7}(hd:p.decls[d]? =some dd){args:List X0}(ha:okA dd args){z:PP}(hz:SmP z):Zo p q (mkR z) (X3.mk dd.name args)=some (mkR (mv p q z (ofE p q (X3.mk dd.name args)))):=by
 have hdq:q.decls[d]? =some dd:=by rw[E.de];exact hd
 have h3:=E.d3 dd (List.mem_of_getElem? hd);have hal:args.length<=3:=by rw[ha.1];exact h3
 have o1:=(WS E.fp E.rp E.sp hd ha (by omega)).2;have o2:=(WS E.fq E.rq E.sq hdq ha (by omega)).2;have n1:=(Fv E.fp E.rp (x:=(mkR z).p) hz.1 (aJd E d args).1).2;have n2:=(Fv E.fq E.rq (x:=(mkR z).q) hz.2 (aJd E d args).2).2;rw[Vr E hd];unfold Zo mv;rw[o1,AD,o2,AD,aC1];have e1:(sP p q d args).p=((mkM p [] d args:Nat):Int):=rfl;have e2:(sP p q d args).q=((mkM q [] d args:Nat):Int):=rfl;rw[e1]at n1⊢;rw[e2]at n2⊢;by_cases c1:((mkM p [] d args:Nat):Int)=0;rw[decide_eq_true c1,Bool.not_true,AF,AD,UX,if_pos c1];by_cases c2:((mkM q [] d args:Nat):Int)=0;rw[decide_eq_true c2,Bool.not_true,AF,AD,if_pos c2];rw[decide_eq_false c2,Bool.not_false,AG,n2,AD,AD,if_neg c2];rfl;rw[decide_eq_false c1,Bool.not_false,AG,n1,AD,AD,UX,if_neg c1];by_cases c2:((mkM q [] d args:Nat):Int)=0;rw[decide_eq_true c2,Bool.not_true,AF,AD,if_pos c2];rfl;rw[decide_eq_false c2,Bool.not_false,AG];simp only;rw[n2,AD,AD,if_neg c2];rfl
def fI(l:List Nat):List Int:=l.map fun n:Nat=>(n:Int)
noncomputable abbrev nxE(p q:AA):PP->X3->PP:=fun z e=>mv p q z (ofE p q e)
theorem aFu{l:List Nat}{i a:Nat}(h:l[i]? =some a):(fI l)[i]? =some (a:Int):=by unfold fI;rw[List.getElem?_map,h];rfl
theorem Wg{p q:AA}(E:EqP p q){s0:PP}{all:List X3}(hA:aMj p q all)(i:Nat){z:PP}(hz:SmP z){a:Nat}(ha:a<=100000){t:List PP×List Nat}(hB:BM (nxE p q) all s0 i z a (fun _=>False) t)(hsm:∀z∈t.1,SmP z):
 RG (i:Int) p q all 0 (t.1.map mkR) (fI t.2)=some ((all.foldl (bfS (nxE p q) z a) t).1.map mkR,fI (all.foldl (bfS (nxE p q) z a) t).2)/\∀y∈(all.foldl (bfS (nxE p q) z a) t).1,SmP y:=by
 have hal:=hA.len
 obtain⟨o,h1,h2,h3,h4⟩:=Am (step:=fun s:Int×List Xf×List Int=>GO (i:Int) p q all s.1 s.2.1 s.2.2)
  (fun s=>∃j:Nat,s=((j:Int),((all.take j).foldl (bfS (nxE p q) z a) t).1.map mkR,fI ((all.take j).foldl (bfS (nxE p q) z a) t).2)/\j<=all.length/\BM (nxE p q) all s0 i z a (fun m=>False\/m∈all.take j) ((all.take j).foldl (bfS (nxE p q) z a) t)/\∀y∈((all.take j).foldl (bfS (nxE p q) z a) t).1,SmP y)
  (fun s=>(all.length-s.1).toNat) (fun o=>o.1=(all.foldl (bfS (nxE p q) z a) t).1.map mkR/\o.2=fI (all.foldl (bfS (nxE p q) z a) t).2/\∀y∈(all.foldl (bfS (nxE p q) z a) t).1,SmP y)
  (by
   rintro st ⟨j,rfl,hj,hB',hs'⟩;by_cases he:j=all.length;subst he;rw[List.take_length]at hB' hs'⊢;exact .inl ⟨((all.foldl (bfS (nxE p q) z a) t).1.map mkR,fI (all.foldl (bfS (nxE p q) z a) t).2),by simp only[GO,ltI,AF],rfl,rfl,hs'⟩;right;obtain⟨e,hej,_⟩:=AP (l:=all) (i:=j) (by omega);have hem:=List.mem_of_getElem? hej;obtain⟨d,dd,args,g1,g2,g3⟩:=hA.right e hem;have hst:=aGm E g1 g2 hz;rw[<-g3]at hst;have htake:all.take (j+1)=all.take j++[e]:=by rw[List.take_add_one,hej];rfl
   have hfold:(all.take (j+1)).foldl (bfS (nxE p q) z a) t=bfS (nxE p q) z a ((all.take j).foldl (bfS (nxE p q) z a) t) e:=by rw[htake,List.foldl_append];rfl
   have hB2:=hB'.step hem;generalize (all.take j).foldl (bfS (nxE p q) z a) t=u at hB' hs' hB2 hfold;have hul:=N3 hB'.nd hs';have hui:(u.1.map mkR)[i]? =some (mkR z):=by rw[List.getElem?_map,hB'.at'];rfl
   have huf:=aFu hB'.fa;refine⟨(((j+1:Nat):Int),(bfS (nxE p q) z a u e).1.map mkR,fI (bfS (nxE p q) z a u e).2),?_,⟨j+1,by rw[hfold],by omega,?_,?_⟩,by simp only;omega⟩;simp only[GO,ltD hej,AG,XR,AK hui,AK hej,Af hej (show all.length<=9223372036854775807 by omega)];rw[hst,AD,aD1 u.1 _ (by omega),AD,XT];unfold bfS;by_cases hm:nxE p q z e∈u.1;have hm':mv p q z (ofE p q e)∈u.1:=hm;rw[decide_eq_true hm',Bool.not_true,AF,AD,AD,if_pos hm];have hm':¬mv p q z (ofE p q e)∈u.1:=hm;rw[decide_eq_false hm',Bool.not_false,AG,DO (by simp;omega) (by decide),AK huf,DO (by have:=hB'.len;simp[fI];omega) (by decide),AD,AD,if_neg hm,J0 (by omega)];simp only[List.map_append,List.map_cons,List.map_nil,fI];rw[hfold];have:(fun m=>False\/m∈all.take (j+1))=fun m=>(False\/m∈all.take j)\/m=e:=by funext m;rw[htake];simp
   rw[this];exact hB2;rw[hfold];unfold bfS;split;exact hs';intro y hy;rcases ma.1 hy with h|h
   exact hs' y h;rw[List.mem_singleton.1 h];exact aI5 E hz _)
  ((0:Int),t.1.map mkR,fI t.2) ⟨0,by simp,Nat.zero_le _,by simpa using hB,by simpa using hsm⟩
 have h1':RG (i:Int) p q all 0 (t.1.map mkR) (fI t.2)=some o:=h1
 exact⟨by rw[h1',<-h2,<-h3],h4⟩
theorem aGd{p q:AA}(E:EqP p q){all:List X3}{s:PP}(hs:SmP s){k:Nat}{y:PP}(h:IB (nxE p q) all s k y):SmP y:=h.inv hs fun x m hx _=>aI5 E hx _
theorem aIr{p q:AA}(E:EqP p q){all:List X3}{s:PP}(hs:SmP s){i:Nat}{t:List PP×List Nat}(h:BF (nxE p q) all s i t):∀z∈t.1,SmP z:=fun z hz=>by obtain⟨j,hj⟩:=List.getElem?_of_mem hz;obtain⟨a,ha,_⟩:=AP (l:=t.2) (i:=j) (by rw[h.len];exact At hj);exact aGd E hs (h.rc j z a hj ha)
def Ht(p q:AA)(s:PP):Prop:=∃a b:Nat,p.start=(a:Int)/\q.start=(b:Int)/\a<8/\b<8/\s=(((2^a:Nat):Int),((2^b:Nat):Int))
theorem aF6{a:Nat}(h:a<8):SmI ((2^a:Nat):Int):=⟨_,rfl,Nat.lt_of_lt_of_le (Nat.pow_lt_pow_right (by decide) h) (by decide)⟩
theorem Ht.sm{p q:AA}{s:PP}(h:Ht p q s):SmP s:=by obtain⟨a,b,_,_,h1,h2,rfl⟩:=h;exact⟨aF6 h1,aF6 h2⟩
theorem Ht.eqs{p q:AA}{s:PP}(h:Ht p q s):(0<=IntKind.wrap .u64 p.start)/\(0<=IntKind.wrap .u64 q.start)/\AB .shl .u32 1 (IntKind.wrap .u64 p.start)=s.1/\AB .shl .u32 1 (IntKind.wrap .u64 q.start)=s.2:=by obtain⟨a,b,e1,e2,h1,h2,rfl⟩:=h;rw[e1,e2,A4 (by omega),A4 (by omega),Ku (by omega),Ku (by omega)];exact⟨by omega,by omega,rfl,rfl⟩
def Pd(p q:AA)(all:List X3)(s:PP):Prop:=∀k y,IB (nxE p q) all s k y->Dc p q y=false
def K8(p q:AA)(all:List X3)(s:PP)(a:Nat):Prop:=(∃z,IB (nxE p q) all s a z/\Dc p q z=true)/\∀k y,IB (nxE p q) all s k y->Dc p q y=true->a<=k
theorem We{p q:AA}(E:EqP p q){s:PP}(hs:Ht p q s):∃all,aMj p q all/\((Xj p q=some (-1)/\Pd p q all s)\/∃a:Nat,Xj p q=some (a:Int)/\K8 p q all s a):=by
 obtain⟨all,hall,hA⟩:=aLs E;have hsm:=hs.sm;obtain⟨c1,c2,c3,c4⟩:=hs.eqs;refine⟨all,hA,?_⟩;obtain⟨o,h1,h2⟩:=Am (step:=fun u:Int×List Xf×List Int=>Ew p q all u.1 u.2.1 u.2.2)
  (fun u=>∃(i:Nat) (t:List PP×List Nat),u=((i:Int),t.1.map mkR,fI t.2)/\BF (nxE p q) all s i t/\∀(j:Nat) y,j<i->t.1[j]? =some y->Dc p q y=false)
  (fun u=>(65537-u.1).toNat) (fun o=>(o=.inl ()/\Pd p q all s)\/∃a:Nat,o=.inr (a:Int)/\K8 p q all s a)
  (by
   rintro u ⟨i,t,rfl,hB,hP⟩;have htl:=N3 hB.nd (aIr E hsm hB);by_cases he:i=t.1.length;have e:(i:Int)=((t.1.map mkR).length:Int):=by rw[List.length_map,he]
   refine .inl ⟨.inl (),by simp only[Ew];rw[decide_eq_false (by omega),AF],.inl ⟨rfl,fun k y hw=>hB.none hP he hw⟩⟩;obtain⟨z,hz,_⟩:=AP (l:=t.1) (i:=i) (by have:=hB.le;omega);obtain⟨a,ha,hM⟩:=hB.enter hz;have hzs:=aIr E hsm hB z (List.mem_of_getElem? hz);have hui:(t.1.map mkR)[i]? =some (mkR z):=by rw[List.getElem?_map,hz];rfl
   have a1:=(aC7 E.fp (x:=(mkR z).p) hzs.1).2;have a2:=(aC7 E.fq (x:=(mkR z).q) hzs.2).2;have hlow:=hB.low i a ha;have hil:=At hz;have hstep:Ew p q all (i:Int) (t.1.map mkR) (fI t.2)=AE (Dc p q z) (some (.inr (.inr (a:Int)))) (AH (RG (i:Int) p q all 0 (t.1.map mkR) (fI t.2)) fun o16=>some (.inl (((i+1:Nat):Int),o16.1,o16.2))):=by simp only[Ew,ltD hui,AG,AK hui,a1,a2,AD,AK (aFu ha),Af hui (show(t.1.map mkR).length<=9223372036854775807 by rw[List.length_map];omega)];rfl
   cases hap:Dc p q z with
   |true=>
    refine .inl ⟨.inr (a:Int),by simp only[hstep,hap,AG],.inr ⟨a,rfl,⟨z,hB.rc i z a hz ha,hap⟩,fun k y hw hy=>hB.short hP ha hw hy⟩⟩
   |false=>
    right
    obtain⟨e3,_⟩:=Wg E hA i hzs (by omega) hM (aIr E hsm hB)
    have hB2:=hB.round hz ha
    refine⟨(((i+1:Nat):Int),_,_),by simp only[hstep,hap,AF];rw[e3,AD],⟨i+1,_,rfl,hB2,fun j y hj hy=>?_⟩,by simp only;omega⟩
    have keep:∀(l:List X3) (t:List PP×List Nat) (j:Nat) (y:PP),t.1[j]? =some y->(l.foldl (bfS (nxE p q) z a) t).1[j]? =some y:=by
     intro l;induction l with
     |nil=>intro t j y h;exact h
     |cons m l ih=>intro t j y h;exact ih _ j y (Uw h)
    obtain⟨y',hy',_⟩:=AP (l:=t.1) (i:=j) (by omega)
    rw[keep all t j y' hy',oe]at hy
    subst hy
    by_cases hji:j=i
    subst hji
    rw[hz,oe]at hy'
    subst hy';exact hap
    exact hP j y' (by omega) hy')
  ((0:Int),[mkR s],[(0:Int)]) ⟨0,([s],[0]),rfl,BF.init,fun j y hj=>by omega⟩
 have h1':aGy p q all 0 [mkR s] [0]=some o:=h1;have hm:Xf.mk s.1 s.2=mkR s:=rfl;have hS:Xj p q=Ax o (fun _=>some (-1)) (fun o19=>some o19):=by unfold Xj;rw[hall,AD,An c1,An c2,c3,c4,hm,h1',AD]
 rw[hS];rcases h2 with⟨rfl,h⟩|⟨a,rfl,h⟩
 exact .inl ⟨rfl,h⟩;exact .inr ⟨a,rfl,h⟩
abbrev CM:=MP X6 Xc
def mkC(z:PP):X6:=⟨z.1,z.2⟩
theorem Jo{a b:PP}(h:mkC a=mkC b):a=b:=by unfold mkC at h;simp only[X6.mk.injEq]at h;exact Prod.ext h.1 h.2
theorem X6.eqb_dec(a b:X6):X6.eqb a b=decide (a=b):=by rw[Bool.eq_iff_iff,X6.eqb_iff];simp
def z0:Xc:=⟨⟨0,0⟩,⟨0,0⟩⟩
theorem aI8{p q:AA}(E:EqP p q){z:PP}(hz:SmP z){m:X5}(hm:SmS m):Y0 p q (mkC z) m=some (mkC (mv p q z m)):=by have n1:=(Fv E.fp E.rp (x:=(mkC z).p) hz.1 hm.1).1;have n2:=(Fv E.fq E.rq (x:=(mkC z).q) hz.2 hm.2).1;unfold Y0 mv;rw[OW];by_cases c1:m.p=0;rw[decide_eq_true c1,Bool.not_true,AF,AD,LV,if_pos c1];by_cases c2:m.q=0;rw[decide_eq_true c2,Bool.not_true,AF,AD,if_pos c2];rw[decide_eq_false c2,Bool.not_false,AG,n2,AD,AD,if_neg c2];rfl;rw[decide_eq_false c1,Bool.not_false,AG,n1,AD,AD,LV,if_neg c1];by_cases c2:m.q=0;rw[decide_eq_true c2,Bool.not_true,AF,AD,if_pos c2];rfl;rw[decide_eq_false c2,Bool.not_false,AG];simp only;rw[n2,AD,AD,if_neg c2];rfl
abbrev nxS(p q:AA):PP->X5->PP:=mv p q
structure CI(p q:AA)(L:List X5)(s:PP)(t:List PP×List Nat)(cm:CM):Prop where
 key:∀z,(BB z0 cm (mkC z)).2=decide (z∈t.1)
 par:∀(j:Nat) z,0<j->t.1[j]? =some z->∃(pj:Nat) (x:PP) (m:X5) (b:Nat),pj<j/\t.1[pj]? =some x/\t.2[pj]? =some b/\t.2[j]? =some (b+1)/\m∈L/\z=mv p q x m/\(BB z0 cm (mkC z)).1=⟨mkC x,m⟩
theorem CI.init(p q:AA)(L:List X5)(s:PP):CI p q L s ([s],[0]) (Cs (Ek:CM) (mkC s) z0):=by refine⟨fun z=>?_,fun j z hj hz=>?_⟩;rw[D8];by_cases h:z=s;subst h;simp;rw[if_neg fun e=>h (Jo e).symm];simp[h,Np];have:=At hz;rw[List.length_singleton]at this;omega
def cmS(p q:AA)(x:PP)(a:Nat)(u:(List PP×List Nat)×CM)(m:X5):(List PP×List Nat)×CM:=(bfS (nxS p q) x a u.1 m,if nxS p q x m∈u.1.1 then u.2 else Cs u.2 (mkC (nxS p q x m)) ⟨mkC x,m⟩)
theorem CI.step{p q:AA}{L:List X5}{s:PP}{t:List PP×List Nat}{cm:CM}(h:CI p q L s t cm){i:Nat}{x:PP}{a:Nat}{dn:X5->Prop}(hB:BM (nxS p q) L s i x a dn t){m:X5}(hm:m∈L):CI p q L s (cmS p q x a (t,cm) m).1 (cmS p q x a (t,cm) m).2:=by
 unfold cmS bfS;simp only;split;exact h;rename_i hn;refine⟨fun z=>?_,fun j z hj hz=>?_⟩;show(BB z0 (Cs cm _ _) (mkC z)).2=decide (z∈t.1++[nxS p q x m]);rw[D8];by_cases hz:z=nxS p q x m;subst hz;simp;rw[if_neg fun e=>hz (Jo e).symm,h.key z];simp[hz];show∃pj x' m' b,pj<j/\(t.1++[nxS p q x m])[pj]? =some x'/\(t.2++[a+1])[pj]? =some b/\(t.2++[a+1])[j]? =some (b+1)/\m'∈L/\z=mv p q x' m'/\(BB z0 (Cs cm _ _) (mkC z)).1=⟨mkC x',m'⟩;have hz':(t.1++[nxS p q x m])[j]? =some z:=hz;have hl:=At hz';rw[List.length_append,List.length_singleton]at hl;by_cases hj2:j<t.1.length;rw[List.getElem?_append_left hj2]at hz';obtain⟨pj,x',m',b,a1,a2,a3,a4,a5,a6,a7⟩:=h.par j z hj hz';refine⟨pj,x',m',b,a1,by rw[List.getElem?_append_left (At a2)];exact a2,by rw[List.getElem?_append_left (At a3)];exact a3,by rw[List.getElem?_append_left (At a4)];exact a4,a5,a6,?_⟩;rw[D8,if_neg fun e=>hn (by rw[Jo e];exact List.mem_of_getElem? hz')];exact a7;have he:j=t.1.length:=by omega
 subst he;rw[List.getElem?_append_right (Nat.le_refl _),Nat.sub_self,List.getElem?_cons_zero,oe]at hz';subst hz';refine⟨i,x,m,a,At hB.at',by rw[List.getElem?_append_left (At hB.at')];exact hB.at',by rw[List.getElem?_append_left (At hB.fa)];exact hB.fa,by rw[<-hB.len,List.getElem?_append_right (Nat.le_refl _),Nat.sub_self];rfl,hm,rfl,?_⟩;rw[D8,if_pos rfl]
theorem PZ{p q:AA}(E:EqP p q){L:List X5}{M:BY}(hL:L.length<=65536)(hLs:∀m∈L,SmS m)(i:Nat){s z:PP}(hz:SmP z){a:Nat}{t:List PP×List Nat}{cm:CM}(hB:BM (nxS p q) L s i z a (fun _=>False) t)(hsm:∀z∈t.1,SmP z)(hC:CI p q L s t cm)(w8:X6):
 ∃cm',LH (i:Int) (L.length:Int) p q L M w8 (mkC z) 0 (t.1.map mkC) cm=some ((L.foldl (bfS (nxS p q) z a) t).1.map mkC,cm')/\CI p q L s (L.foldl (bfS (nxS p q) z a) t) cm':=by
 obtain⟨o,h1,h2,h3⟩:=Am (step:=fun u:Int×List X6×CM=>EI (i:Int) (L.length:Int) p q L M w8 (mkC z) u.1 u.2.1 u.2.2)
  (fun u=>∃j:Nat,u.1=(j:Int)/\j<=L.length/\u.2.1=((L.take j).foldl (bfS (nxS p q) z a) t).1.map mkC/\CI p q L s ((L.take j).foldl (bfS (nxS p q) z a) t) u.2.2/\BM (nxS p q) L s i z a (fun m=>False\/m∈L.take j) ((L.take j).foldl (bfS (nxS p q) z a) t)/\∀y∈((L.take j).foldl (bfS (nxS p q) z a) t).1,SmP y)
  (fun u=>(L.length-u.1).toNat) (fun o=>o.1=(L.foldl (bfS (nxS p q) z a) t).1.map mkC/\CI p q L s (L.foldl (bfS (nxS p q) z a) t) o.2)
  (by
   rintro⟨u1,u2,u3⟩ ⟨j,e1,hj,e2,hC',hB',hs'⟩;simp only at e1 e2 hC';subst e1;subst e2;by_cases he:j=L.length;subst he;rw[List.take_length]at hC';refine .inl ⟨((L.foldl (bfS (nxS p q) z a) t).1.map mkC,u3),?_,rfl,hC'⟩;simp only[EI,ltI,AF,List.take_length];right;obtain⟨m,hmj,_⟩:=AP (l:=L) (i:=j) (by omega);have hmm:=List.mem_of_getElem? hmj;have hst:=aI8 E hz (hLs m hmm);have htake:L.take (j+1)=L.take j++[m]:=by rw[List.take_add_one,hmj];rfl
   have hfold:(L.take (j+1)).foldl (bfS (nxS p q) z a) t=bfS (nxS p q) z a ((L.take j).foldl (bfS (nxS p q) z a) t) m:=by rw[htake,List.foldl_append];rfl
   have hB2:=hB'.step hmm;have hC2:=hC'.step hB' hmm;generalize (L.take j).foldl (bfS (nxS p q) z a) t=u at hB' hs' hB2 hfold hC' hC2;have hul:=N3 hB'.nd hs';have hkey:=hC'.key (mv p q z m);refine⟨(((j+1:Nat):Int),(bfS (nxS p q) z a u m).1.map mkC,(cmS p q z a (u,u3) m).2),?_,⟨j+1,rfl,by omega,by simp only[hfold],by rw[hfold];exact hC2,?_,?_⟩,by simp only;omega⟩;simp only[EI,ltD hmj,AG,OP,AK hmj,Af hmj (show L.length<=9223372036854775807 by omega)];have hkey':(BB (Xc.mk (X6.mk 0 0) (X5.mk 0 0)) u3 (mkC (mv p q z m))).2=decide (mv p q z m∈u.1):=hkey;rw[An (by have:=At hmj;omega),hst,AD,hkey',Pm];unfold cmS bfS;by_cases hm:mv p q z m∈u.1;have hm':nxS p q z m∈u.1:=hm;rw[decide_eq_true hm,Bool.not_true,AF,AD,AD];simp only[if_pos hm'];have hm':¬nxS p q z m∈u.1:=hm;rw[decide_eq_false hm,Bool.not_false,AG,DO (by simp;omega) (by decide),AD,AD];simp only[if_neg hm',List.map_append,List.map_cons,List.map_nil];rw[hfold];have:(fun m'=>False\/m'∈L.take (j+1))=fun m'=>(False\/m'∈L.take j)\/m'=m:=by funext m';rw[htake];simp
   rw[this];exact hB2;rw[hfold];unfold bfS;split;exact hs';intro y hy;rcases ma.1 hy with h|h
   exact hs' y h;rw[List.mem_singleton.1 h];exact aI5 E hz _)
  ((0:Int),t.1.map mkC,cm) ⟨0,rfl,Nat.zero_le _,by simp,by simpa using hC,by simpa using hB,by simpa using hsm⟩
 have h1':LH (i:Int) (L.length:Int) p q L M w8 (mkC z) 0 (t.1.map mkC) cm=some o:=h1
 exact⟨o.2,by rw[h1',<-h2],h3⟩
inductive EvW(p q:AA):PP->List X3->PP->Prop
 |nil {x:PP}:EvW p q x [] x
 |cons {x y:PP} {d:Nat} {dd:X7} {args:List X0} {es:List X3}:p.decls[d]? =some dd->okA dd args->EvW p q (mv p q x (sP p q d args)) es y->EvW p q x (X3.mk dd.name args::es) y
theorem EvW.snoc{p q:AA}{x y:PP}{es:List X3}(h:EvW p q x es y){d:Nat}{dd:X7}{args:List X0}(hd:p.decls[d]? =some dd)(ha:okA dd args):EvW p q x (es++[X3.mk dd.name args]) (mv p q y (sP p q d args)):=by
 induction h with
 |nil=>exact .cons hd ha .nil
 |cons h1 h2 _ ih=>exact .cons h1 h2 ih
theorem aQt{α:Type}{o:List α}(h:o.Nodup){i j:Nat}{x:α}(hi:o[i]? =some x)(hj:o[j]? =some x):i=j:=by
 have a:=At hi;have b:=At hj;have e1:o[i]=x:=by rw[List.getElem?_eq_getElem a,oe]at hi;exact hi
 have e2:o[j]=x:=by rw[List.getElem?_eq_getElem b,oe]at hj;exact hj
 rcases Nat.lt_trichotomy i j with h1|h1|h1
 exact absurd (e1.trans e2.symm) (List.pairwise_iff_getElem.1 h i j a b h1);exact h1;exact absurd (e2.trans e1.symm) (List.pairwise_iff_getElem.1 h j i b a h1)
theorem J7{p q:AA}{L:List X5}{M:BY}(hM:MvI p q (M,L)){s:PP}{i:Nat}{t:List PP×List Nat}{cm:CM}(hB:BF (nxS p q) L s i t)(hC:CI p q L s t cm):∀(n j:Nat) (z:PP) (a:Nat) (acc:List X3),j<n->t.1[j]? =some z->t.2[j]? =some a->acc.length+j<=200000->
 ∃es,KC M (mkC s) cm (mkC z) acc=some (acc++es)/\es.length=a/\EvW p q s es.reverse z
 |0,j,z,a,acc,hj,_,_,_=>by omega
 |n+1,j,z,a,acc,hj,hz,ha,hl=>by
  rw[Wm,F7,X6.eqb_dec];by_cases h0:j=0;subst h0;have e:s=z:=by have:=hB.hd;rw[hz,oe]at this;exact this.symm
  have e2:a=0:=by have:=hB.f0;rw[ha,oe]at this;exact this
  subst e;subst e2;refine⟨[],?_,rfl,.nil⟩;rw[decide_eq_true rfl,Bool.not_true,AF,CE,List.append_nil];obtain⟨pj,x,m,b,a1,a2,a3,a4,a5,rfl,a6⟩:=hC.par j z (by omega) hz;have hab:a=b+1:=by rw[ha,oe]at a4;exact a4
  subst hab;have hne:¬mkC (mv p q x m)=mkC s:=fun e=>h0 (aQt hB.nd hz (by rw[Jo e];exact hB.hd));obtain⟨d,dd,args,g1,g2,rfl,g4⟩:=hM.val m a5;have hj1:=hB.low j _ ha;obtain⟨es,b1,b2,b3⟩:=J7 hM hB hC n pj x b (acc++[X3.mk dd.name args]) (by omega) a2 a3 (by simp;omega);have a6':(BB (Xc.mk (X6.mk 0 0) (X5.mk 0 0)) cm (mkC (mv p q x (sP p q d args)))).1=⟨mkC x,sP p q d args⟩:=a6;have g4':(BB (X3.mk ([]:List UInt8) ([]:List X0)) M (sP p q d args)).1=X3.mk dd.name args:=g4;refine⟨X3.mk dd.name args::es,?_,by simp[b2],by rw[List.reverse_cons];exact b3.snoc g1 g2⟩;rw[decide_eq_false hne,Bool.not_false,AG,a6'];simp only;rw[g4',DO (by simp;omega) (by decide),Co];simp only;rw[b1];simp
theorem OO{w:List X3}(hl:w.length<=200000):Y5 w=some w.reverse:=by
 obtain⟨o,h1,h2⟩:=Am (step:=fun s:Int×Int×List X3=>E0 s.1 s.2.1 s.2.2)
  (fun s=>∃i:Nat,s.1=(i:Int)/\s.2.1=(w.length:Int)-1-i/\2*i<=w.length/\s.2.2.length=w.length/\∀k,k<w.length->s.2.2[k]? =if k<i\/w.length-1-i<k then w[w.length-1-k]? else w[k]?)
  (fun s=>(w.length-2*s.1).toNat) (fun o=>o=w.reverse)
  (by
   rintro⟨a,b,v⟩ ⟨i,rfl,hb,hi,hv,hk⟩;simp only at hb hv hk;subst hb;by_cases hc:(i:Int)<(w.length:Int)-1-i;right;have e1:(w.length:Int)-1-i=((w.length-1-i:Nat):Int):=by omega
   obtain⟨x1,hx1,_⟩:=AP (l:=v) (i:=w.length-1-i) (by omega);obtain⟨x2,hx2,_⟩:=AP (l:=v) (i:=i) (by omega);have g1:=hk (w.length-1-i) (by omega);rw[if_neg (by omega),hx1]at g1;have g2:=hk i (by omega);rw[if_neg (by omega),hx2]at g2;refine⟨(((i+1:Nat):Int),(w.length:Int)-1-((i+1:Nat):Int),(v.set i x1).set (w.length-1-i) x2),?_,⟨i+1,rfl,rfl,by omega,by simp[hv],fun k hkl=>?_⟩,by simp only;omega⟩;rw[E0];simp only[decide_eq_true hc,AG];simp only[e1];rw[An (by omega),AK hx1,An (by omega),AK hx2,An (by omega),An (by omega),An (by rw[List.length_set];omega),An (by rw[List.length_set];omega),J0 (by omega),aGb (by omega) (by omega),Int.toNat_natCast,Int.toNat_natCast];have e3:((w.length-1-i:Nat):Int)-1=(w.length:Int)-1-((i+1:Nat):Int):=by omega
   rw[e3];rw[List.getElem?_set,List.getElem?_set,List.length_set];by_cases c1:w.length-1-i=k;rw[if_pos c1,if_pos (by omega),if_pos (by omega),g2];congr 1;omega;rw[if_neg c1];by_cases c2:i=k;rw[if_pos c2,if_pos (by omega),if_pos (by omega),g1];congr 1;omega;rw[if_neg c2,hk k hkl];by_cases c3:k<i\/w.length-1-i<k;rw[if_pos c3,if_pos (by omega)];rw[if_neg c3,if_neg (by omega)];left;refine⟨v,by simp only[E0,decide_eq_false hc,AF],?_⟩;apply List.ext_getElem?;intro k;by_cases hkl:k<w.length;rw[hk k hkl,List.getElem?_reverse hkl];by_cases c3:k<i\/w.length-1-i<k;rw[if_pos c3];rw[if_neg c3];congr 1;omega;rw[List.getElem?_eq_none_iff.2 (by omega),List.getElem?_eq_none_iff.2 (by simp;omega)])
  ((0:Int),(w.length:Int)-1,w) ⟨0,rfl,by simp,by omega,rfl,fun k hk=>by rw[if_neg (by omega)]⟩
 subst h2;have h1':Sc 0 ((w.length:Int)-1) w=some w.reverse:=h1;unfold Y5;rw[aGb (by omega) (by omega),h1',AD]
theorem aQs(i:Nat)(h:i<65537):(65537-((i+1:Nat):Int)).toNat<(65537-(i:Int)).toNat:=by omega
theorem PY{p q:AA}(E:EqP p q){s:PP}(hs:Ht p q s)(hFt:Ys p q=some true){all:List X3}(hA:aMj p q all):
 (X9 p q=some ([],false)/\Pd p q all s)\/∃(es:List X3) (z:PP),X9 p q=some (es,true)/\EvW p q s es z/\Dc p q z=true/\K8 p q all s es.length/\es.length<=100000:=by
 obtain⟨L,M,hmv,hM,hcov⟩:=aEe E
 have hsm:=hs.sm
 have hL:L.length<=65536:=hM.len E
 have hLs:∀m∈L,SmS m:=fun m hm=>by obtain⟨d,dd,args,_,_,rfl,_⟩:=hM.val m hm;exact aJd E _ _
 have toA:∀{k:Nat} {y:PP},IB (nxS p q) L s k y->IB (nxE p q) all s k y:=fun h=>h.other fun x m hm=>by obtain⟨d,dd,args,g1,g2,rfl,_⟩:=hM.val m hm;obtain⟨args',c1,c2,c3⟩:=hA.cov d dd args g1 g2;refine⟨_,c2,?_⟩;show mv p q x (ofE p q (X3.mk dd.name args'))=mv p q x (sP p q d args);rw[Vr E g1,c3]
 have toL:∀{k:Nat} {y:PP},IB (nxE p q) all s k y->IB (nxS p q) L s k y:=fun h=>h.other fun x m hm=>by obtain⟨d,dd,args,g1,g2,rfl⟩:=hA.right m hm;refine⟨sP p q d args,by have:=hcov d dd g1 args (by simpa using g2);simpa using this,?_⟩;show mv p q x (sP p q d args)=mv p q x (ofE p q (X3.mk dd.name args));rw[Vr E g1]
 have bsm:∀{i:Nat} {t:List PP×List Nat},BF (nxS p q) L s i t->∀z∈t.1,SmP z:=fun h z hz=>by obtain⟨j,hj⟩:=List.getElem?_of_mem hz;obtain⟨a,ha,_⟩:=AP (l:=_) (i:=j) (by rw[h.len];exact At hj);exact aGd E hsm (toA (h.rc j z a hj ha))
 obtain⟨c1,c2,c3,c4⟩:=hs.eqs
 obtain⟨o,h1,h2⟩:=Am (step:=fun u:Int×List X6×CM=>DX p q L M (mkC s) u.1 u.2.1 u.2.2)
  (fun u=>∃(i:Nat) (t:List PP×List Nat),u.1=(i:Int)/\u.2.1=t.1.map mkC/\BF (nxS p q) L s i t/\CI p q L s t u.2.2/\∀(j:Nat) y,j<i->t.1[j]? =some y->Dc p q y=false)
  (fun u=>(65537-u.1).toNat) (fun o=>(o=.inl ()/\Pd p q all s)\/∃(es:List X3) (z:PP),o=.inr es/\EvW p q s es z/\Dc p q z=true/\K8 p q all s es.length/\es.length<=100000)
  (by
   rintro⟨u1,u2,cm⟩ ⟨i,t,e1,e2,hB,hC,hP⟩;simp only at e1 e2 hC;subst e1;subst e2;have htl:=N3 hB.nd (bsm hB);by_cases he:i=t.1.length;have e:(i:Int)=((t.1.map mkC).length:Int):=by rw[List.length_map,he]
   refine .inl ⟨.inl (),by simp only[DX];rw[decide_eq_false (by omega),AF],.inl ⟨rfl,fun k y hw=>hB.none hP he (toL hw)⟩⟩;obtain⟨z,hz,_⟩:=AP (l:=t.1) (i:=i) (by have:=hB.le;omega);obtain⟨a,ha,hBM⟩:=hB.enter hz;have hzs:=bsm hB z (List.mem_of_getElem? hz);have hui:(t.1.map mkC)[i]? =some (mkC z):=by rw[List.getElem?_map,hz];rfl
   have a1:=(aC7 E.fp (x:=(mkC z).p) hzs.1).1;have a2:=(aC7 E.fq (x:=(mkC z).q) hzs.2).1;have hlow:=hB.low i a ha;have hil:=At hz;have hstep:DX p q L M (mkC s) (i:Int) (t.1.map mkC) cm=AE (Dc p q z) (AH (KC M (mkC s) cm (mkC z) []) fun o6=>AH (Y5 o6) fun r7=>some (.inr (.inr r7))) (AH (LH (i:Int) (L.length:Int) p q L M (mkC s) (mkC z) 0 (t.1.map mkC) cm) fun o12=>some (.inl (((i+1:Nat):Int),o12.1,o12.2))):=by simp only[DX,ltD hui,AG,AK hui,a1,a2,AD,Af hui (show(t.1.map mkC).length<=9223372036854775807 by rw[List.length_map];omega)];rfl
   cases hap:Dc p q z with
   |true=>
    obtain⟨es,b1,b2,b3⟩:=J7 hM hB hC (i+1) i z a [] (by omega) hz ha (by simp;omega)
    rw[List.nil_append]at b1
    refine .inl ⟨.inr es.reverse,by simp only[hstep,hap,AG];rw[b1,AD,OO (by omega),AD],.inr ⟨es.reverse,z,rfl,b3,hap,?_,by rw[List.length_reverse,b2];omega⟩⟩
    rw[List.length_reverse,b2]
    exact⟨⟨z,toA (hB.rc i z a hz ha),hap⟩,fun k y hw hy=>hB.short hP ha (toL hw) hy⟩
   |false=>
    right
    obtain⟨cm',e3,hC'⟩:=PZ E (M:=M) hL hLs i hzs hBM (bsm hB) hC (mkC s)
    have hB2:=hB.round hz ha
    refine⟨(((i+1:Nat):Int),_,cm'),by simp only[hstep,hap,AF];rw[e3,AD],⟨i+1,_,rfl,rfl,hB2,hC',fun j y hj hy=>?_⟩,aQs i (Nat.lt_of_lt_of_le hil (Nat.le_succ_of_le htl))⟩
    have keep:∀(l:List X5) (t:List PP×List Nat) (j:Nat) (y:PP),t.1[j]? =some y->(l.foldl (bfS (nxS p q) z a) t).1[j]? =some y:=by
     intro l;induction l with
     |nil=>intro t j y h;exact h
     |cons m l ih=>intro t j y h;exact ih _ j y (Uw h)
    obtain⟨y',hy',_⟩:=AP (l:=t.1) (i:=j) (by omega)
    rw[keep L t j y' hy',oe]at hy
    subst hy
    by_cases hji:j=i
    subst hji
    rw[hz,oe]at hy'
    subst hy';exact hap
    exact hP j y' (by omega) hy')
  ((0:Int),[mkC s],Cs (Ek:CM) (mkC s) z0) ⟨0,([s],[0]),rfl,rfl,BF.init,CI.init p q L s,fun j y hj=>by omega⟩
 have h1':Pn p q L M (X6.mk s.1 s.2) 0 [X6.mk s.1 s.2] (Cs (Ek:CM) (X6.mk s.1 s.2) (Xc.mk (X6.mk 0 0) (X5.mk 0 0)))=some o:=h1
 have hS:X9 p q=Ax o (fun _=>some (([]:List X3),false)) (fun o15=>some (o15,true)):=by unfold X9;rw[hFt,AD,Bool.not_true,AF,hmv,AD,An c1,An c2,c3,c4];simp only;rw[h1',AD]
 rw[hS]
 rcases h2 with⟨rfl,h⟩|⟨es,z,rfl,h⟩
 exact .inl ⟨rfl,h⟩
 exact .inr ⟨es,z,rfl,h⟩
def SoC(w:List X4):Prop:=w.Pairwise fun a b=>a.state<b.state
theorem SoC.len{n:Nat}{w:List X4}(h:SoC w)(hc:∀x∈w,CV n x):w.length<=n:=by
 have hnd:(w.map fun c=>c.state).Nodup:=by unfold List.Nodup;rw[List.pairwise_map];exact h.imp fun h=>by omega
 have:=hnd.length_le_of_subset (l₂:=(List.range n).map (fun n:Nat=>(n:Int))) fun x hx=>by obtain⟨z,hz,rfl⟩:=mm.1 hx;have:=(hc z hz).2;exact mm.2 ⟨z.state.toNat,List.mem_range.2 (by omega),by omega⟩
 simpa using this
theorem aL8{n:Nat}{w:List X4}{c:X4}(hw:∀x∈w,CV n x)(hc:CV n c)(hl:w.length<=100000):∀i:Nat,i<=w.length->(∀(j:Nat) x,i<=j->w[j]? =some x->c.state<x.state)->∃k:Nat,k<=w.length/\LY w c (i:Int)=some (k:Int)/\(∀(j:Nat) x,k<=j->w[j]? =some x->c.state<x.state)/\∀x,0<k->w[k-1]? =some x->x.state<=c.state:=by
 intro i;induction i with
 |zero=>
  intro _ h
  refine⟨0,Nat.zero_le _,?_,h,fun x h0=>by omega⟩
  rw[Du];simp[DP,AE,BP]
 |succ i ih=>
  intro hi h
  obtain⟨x,hx,_⟩:=AP (l:=w) (i:=i) (by omega)
  have hL:=aBr hc (hw x (List.mem_of_getElem? hx))
  have hs:AB .sub .i64 ((i+1:Nat):Int) 1=(i:Int):=by rw[aEt (by omega) (by omega)];simp
  have hpos:decide ((0:Int)<((i+1:Nat):Int))=true:=decide_eq_true (by omega)
  by_cases hlt:c.state<x.state
  obtain⟨k,hk,h1,h2,h3⟩:=ih (by omega) fun j y hj hy=>by by_cases hji:j=i;subst hji;rw[hx,oe]at hy;subst hy;exact hlt;exact h j y (by omega) hy
  refine⟨k,hk,?_,h2,h3⟩
  rw[Du]
  simp only[DP,hpos,AG,hs,AK hx,hL,AD,hlt,decide_true,Co]
  exact h1
  refine⟨i+1,hi,?_,h,fun y _ hy=>?_⟩
  rw[Du]
  simp only[DP,hpos,AG,hs,AK hx,hL,AD,hlt,decide_false,AF,CE]
  rw[Nat.add_sub_cancel,hx,oe]at hy
  subst hy;omega
theorem aJx{n:Nat}{w r:List X4}{c:X4}(hw:∀x∈w,CV n x)(hs:SoC w)(hc:CV n c)(hl:w.length<=100000)(h:Y3 w c=some r):SoC r:=by
 obtain⟨k,hk,h1,h2,h3⟩:=aL8 hw hc hl w.length (Nat.le_refl _) fun j x hj hx=>by have:=At hx;omega
 have e1:(Ai ((0:Int)<=0/\(0:Int)<=(k:Int)/\(k:Int)<=(w.length:Int)) (
  Ai (fit ([]:List X4).length (sub w 0 (k:Int)).length 32) (
   Ai (fit (([]:List X4)++(sub w 0 (k:Int))).length [c].length 32) (
    Ai ((0:Int)<=(k:Int)/\((k:Int):Int)<=(w.length:Int)/\(w.length:Int)<=(w.length:Int)) (
     Ai (fit ((([]:List X4)++(sub w 0 (k:Int)))++[c]).length (sub w (k:Int) (w.length:Int)).length 32) (
      some (((([]:List X4)++(sub w 0 (k:Int)))++[c])++(sub w (k:Int) (w.length:Int)))))))):Option (List X4))=some (w.take k++[c]++w.drop k):=by
  rw[Hv,Hu,An (by omega),DO (by simp;omega) (by decide),DO (by simp;omega) (by decide),An (by omega),DO (by simp;omega) (by decide),List.nil_append]
 have hmid:(∀x,0<k->w[k-1]? =some x->x.state<c.state)->SoC (w.take k++[c]++w.drop k):=fun h4=>by
  have hlow:∀x∈w.take k,x.state<c.state:=fun x hx=>by obtain⟨j,hj⟩:=List.getElem?_of_mem hx;have hjk:=At hj;rw[List.length_take]at hjk;rw[List.getElem?_take,if_pos (by omega)]at hj;obtain⟨y,hy,_⟩:=AP (l:=w) (i:=k-1) (by omega);have h5:=h4 y (by omega) hy;by_cases hje:j=k-1;subst hje;rw[hj,oe]at hy;subst hy;exact h5;have a:=At hj;have b:=At hy;have:=List.pairwise_iff_getElem.1 hs j (k-1) a b (by omega);rw[(List.getElem?_eq_some_iff.1 hj).2,(List.getElem?_eq_some_iff.1 hy).2]at this;omega
  have hup:∀x∈w.drop k,c.state<x.state:=fun x hx=>by obtain⟨j,hj⟩:=List.getElem?_of_mem hx;rw[List.getElem?_drop]at hj;exact h2 (k+j) x (by omega) hj
  unfold SoC;rw[List.pairwise_append,List.pairwise_append];refine⟨⟨hs.sublist (List.take_sublist k w),List.pairwise_singleton _ _,fun a ha b hb=>by rw[List.mem_singleton.1 hb];exact hlow a ha⟩,hs.sublist (List.drop_sublist k w),fun a ha b hb=>?_⟩;have hb2:=hup b hb;rcases ma.1 ha with h|h
  have:=hlow a h;omega;rw[List.mem_singleton.1 h];exact hb2
 unfold Y3 at h;rw[h1,AD]at h;by_cases h0:0<k;obtain⟨x,hx,_⟩:=AP (l:=w) (i:=k-1) (by omega);have hsb:=aEt h0 (by omega);have hO:=aJ1 (hw x (List.mem_of_getElem? hx)) hc;have hpos:decide ((0:Int)<(k:Int))=true:=decide_eq_true (by omega);simp only[hpos,AG,hsb,AK hx,hO,AD,e1]at h;by_cases hxc:x=c;simp only[hxc,decide_true,AG,oe]at h;subst h;exact hs;simp only[hxc,decide_false,AF,oe]at h;subst h;refine hmid fun y _ hy=>?_;rw[hx,oe]at hy;subst hy;have h6:=h3 x h0 hx;have:x.state≠c.state:=fun e=>hxc ((hw x (List.mem_of_getElem? hx)).ext hc e);omega;have hpos:decide ((0:Int)<(k:Int))=false:=decide_eq_false (by omega);simp only[hpos,AF,e1,oe]at h;subst h;exact hmid fun y h7=>by omega
theorem PV{n:Nat}(s1:List X4)(s2:List AL)(s9 s10:Int)(q:AA){r:List X4}(hr:∀x∈r,CV n x)(hrl:r.length<=12){w0 w:List X4}(hw:∀x∈w0,CV n x)(hl:w0.length<=90000)(hs:SoC w0)(h:ZK s1 s2 s9 s10 r q w0 0=some w):SoC w:=by
 obtain⟨s',⟨j,v,rfl,hj,hcv,hln,hso⟩,hst⟩:=Eg (step:=fun s:List X4×Int=>C6 s1 s2 s9 s10 r q s.1 s.2)
  (I:=fun s=>∃(j:Nat) (w:List X4),s=(w,(j:Int))/\j<=r.length/\(∀x∈w,CV n x)/\w.length<=w0.length+j/\SoC w)
  (by rintro s s' ⟨j,v,rfl,hj,hcv,hln,hso⟩ hst;by_cases he:j=r.length;subst he;simp only[C6,ltI,AF]at hst;cases hst;obtain⟨y,hy,_⟩:=AP (l:=r) (i:=j) (by omega);have hcy:=hr y (List.mem_of_getElem? hy);obtain⟨r2,hr2,hP⟩:=(aAq hcv hcy (by omega)).1;have hP2:=hP.2;simp only[C6,ltD hy,AG,AK hy,hr2,AD,Af hy (show r.length<=9223372036854775807 by omega),oe,Sum.inl.injEq]at hst;subst hst;exact⟨j+1,r2,rfl,by omega,hP.cv hcv hcy,by omega,aJx hcv hso hcy (by omega) hr2⟩)
  (s:=(w0,(0:Int))) ⟨0,w0,rfl,by omega,hw,by omega,hs⟩ h
 by_cases he:j=r.length;subst he;simp only[C6,ltI,AF,oe,Sum.inr.injEq]at hst;subst hst;exact hso;obtain⟨y,hy,_⟩:=AP (l:=r) (i:=j) (by omega);have hcy:=hr y (List.mem_of_getElem? hy);obtain⟨r2,hr2,hP⟩:=(aAq hcv hcy (by omega)).1;simp only[C6,ltD hy,AG,AK hy,hr2,AD,oe]at hst;cases hst
theorem PU{q:AA}(hF:CS q)(hR:Ad q)(hS:Bg q){l:List AL}(hl:I4 l){cs:List X4}(hc:∀c∈cs,CV q.states.length c)(hcl:cs.length<=1000){w:List X4}{b:Int}(h:ZI cs l q [] 0 0=some (w,b)):SoC w:=by
 obtain⟨s',⟨j,v,rfl,hj,hcv,hln,hso⟩,hst⟩:=Eg (step:=fun s:List X4×Int×Int=>C5 cs l q s.1 s.2.1 s.2.2)
  (I:=fun s=>∃(j:Nat) (w:List X4),s=(w,0,(j:Int))/\j<=cs.length/\(∀x∈w,CV q.states.length x)/\w.length<=12*j/\SoC w)
  (by rintro s s' ⟨j,v,rfl,hj,hcv,hln,hso⟩ hst;by_cases he:j=cs.length;subst he;simp only[C5,ltI,AF]at hst;cases hst;obtain⟨c,hy,_⟩:=AP (l:=cs) (i:=j) (by omega);have hcy:=hc c (List.mem_of_getElem? hy);obtain⟨r,hr,hrc,hrl,hrm⟩:=aGz hF hR hS hl hcy;obtain⟨w2,hw2,hw2c,hw2l,hw2m⟩:=Fy cs l 0 (j:Int) q hrc hrl hcv (by omega);simp only[C5,ltD hy,AG,AK hy,hr,AD,OH,hw2,Af hy (show cs.length<=9223372036854775807 by omega),oe,Sum.inl.injEq]at hst;subst hst;exact⟨j+1,w2,rfl,by omega,hw2c,by omega,PV cs l 0 (j:Int) q hrc hrl hcv (by omega) hso hw2⟩)
  (s:=([],(0:Int),(0:Int))) ⟨0,[],rfl,by omega,by simp,by simp,List.Pairwise.nil⟩ h
 by_cases he:j=cs.length;subst he;simp only[C5,ltI,AF,oe,Sum.inr.injEq,pe]at hst;obtain⟨rfl,_⟩:=hst;exact hso;obtain⟨c,hy,_⟩:=AP (l:=cs) (i:=j) (by omega);have hcy:=hc c (List.mem_of_getElem? hy);obtain⟨r,hr,hrc,hrl,hrm⟩:=aGz hF hR hS hl hcy;obtain⟨w2,hw2,hw2c,hw2l,hw2m⟩:=Fy cs l 0 (j:Int) q hrc hrl hcv (by omega);simp only[C5,ltD hy,AG,AK hy,hr,AD,OH,hw2,oe]at hst;cases hst
theorem aJp{q:AA}(hF:CS q)(hR:Ad q)(hS:Bg q){l:List AL}(hl:I4 l){cs:List X4}(hc:∀c∈cs,CV q.states.length c)(hcl:cs.length<=12):
 ∃w,Xr q cs l=some (w,0)/\(∀x∈w,CV q.states.length x)/\SoC w/\∀x,x∈w↔aGh q l cs x:=by
 obtain⟨w,ho',hcw,hlen,hm⟩:=PT hF hR hS hl hc (by omega)
 refine⟨w,?_,hcw,PU hF hR hS hl hc (by omega) ho',hm⟩
 unfold Xr
 rw[ho',AD]
 have hd:decide ((256:Int)<(w.length:Int))=false:=decide_eq_false (by omega)
 simp only[decide_true,AG,hd,R1,AF,AD,Bool.not_true]
structure Cf(q:AA)(set:List X4)(m:Nat):Prop where
 cv:∀c∈set,CV q.states.length c
 so:SoC set
 bits:∀k:Nat,m.testBit k=true↔ ∃x∈set,x.state=(k:Int)
def evN(q:AA)(d:Nat)(m:Nat)(args:List X0):Nat:=if mkM q [] d args=0 then m else IJ q m (mkM q [] d args)
theorem Cf.step{q:AA}(hF:CS q)(hR:Ad q)(hS:Bg q){set:List X4}{m:Nat}(h:Cf q set m){d:Nat}{dd:X7}(hd:q.decls[d]? =some dd){args:List X0}(ha:okA dd args):∃set',Qt q [] set (X3.mk dd.name args)=some (set',0)/\Cf q set' (evN q d m args):=by
 have hE:=aIx hR hd ha;have hB:BR []:=⟨List.Pairwise.nil,by simp⟩;have h8:=hS.states;have hsl:=h.so.len h.cv;obtain⟨l1,e1,e2,_,_⟩:=Pl hF hR (b:=[]) (by simp) hE;have hH:Pb q.symbols.length (MB q [] (X3.mk dd.name args)):=FK hF hR hS _ [];obtain⟨M,hM,_,hMb⟩:=K9 hF.symbols hH;obtain⟨l1',l2',m1,m2,m3⟩:=aFs hF hR hS hB hd args ha.1;rw[e1,oe]at m1;subst m1;rw[e2,oe]at m2;subst m2;rw[hM,oe]at m3;have hMe:M=mkM q [] d args:=by omega
 unfold Qt;rw[e1,AD,e2,AD,Cy];split;rename_i h0;have:mkM q [] d args=0:=by rw[<-hMe];refine Jd fun k=>?_;rw[hMb k];have:MB q [] (X3.mk dd.name args)=[]:=List.length_eq_zero_iff.1 (by omega);rw[this];simp
 refine⟨set,rfl,?_⟩;unfold evN;rw[if_pos this];exact h;rename_i hne;obtain⟨w,hw,a1,a2,a3⟩:=aJp hF hR hS hH.1 h.cv (by omega);have hM0:mkM q [] d args≠0:=fun hz=>by obtain⟨x,hx,_⟩:=AP (l:=MB q [] (X3.mk dd.name args)) (i:=0) (by omega);have hxm:=List.mem_of_getElem? hx;have hs:=hH.sym x hxm;have:=(hMb x.symbol.toNat).2 ⟨x,hxm,by omega⟩;rw[hMe,hz]at this;simp at this
 rw[hw,AD];refine⟨w,rfl,a1,a2,fun k=>?_⟩;have hsame:∀c,c∈KQ q.states.length m↔c∈set:=fun c=>by
  rw[HO];constructor;rintro⟨s,hs,hb,rfl⟩;obtain⟨x,hx,he⟩:=(h.bits s).1 hb;have hc:=h.cv x hx;have:x=X4.mk (s:Int) []:=by cases x;have h1:=hc.1;simp only at he h1;rw[he,h1]
  rw[<-this];exact hx;intro hc;have hcv:=h.cv c hc;have h1:=hcv.2;refine⟨c.state.toNat,by omega,(h.bits _).2 ⟨c,hc,by omega⟩,?_⟩;cases c;have h2:=hcv.1;simp only at h1 h2⊢;rw[h2];congr 1;omega
 unfold evN;rw[if_neg hM0,<-hMe,Vn hF hR hH hMb k];constructor;rintro⟨x,⟨c,hc,ho⟩,hk⟩;exact⟨x,(a3 x).2 ⟨c,(hsame c).1 hc,ho⟩,hk⟩;rintro⟨x,hx,hk⟩;obtain⟨c,hc,ho⟩:=(a3 x).1 hx;exact⟨x,⟨c,(hsame c).2 hc,ho⟩,hk⟩
theorem Cf.acc{q:AA}{set:List X4}{m:Nat}(h:Cf q set m):set.any (aC9 q)=PK q m:=by rw[Bool.eq_iff_iff,aC8,List.any_eq_true];constructor;rintro⟨c,hc,ha⟩;have hcv:=(h.cv c hc).2;obtain⟨st,hst,he⟩:=O3 hcv.1 hcv.2;unfold aC9 at ha;rw[hst]at ha;exact⟨c.state.toNat,st,hst,ha,(h.bits _).2 ⟨c,hc,by omega⟩⟩;rintro⟨i,st,hst,ha,hb⟩;obtain⟨x,hx,he⟩:=(h.bits i).1 hb;refine⟨x,hx,?_⟩;unfold aC9;rw[he,Int.toNat_natCast,hst];exact ha
inductive EvR(q:AA):Nat->List X3->Nat->Prop
 |nil {m:Nat}:EvR q m [] m
 |cons {m n d:Nat} {dd:X7} {args:List X0} {es:List X3}:q.decls[d]? =some dd->okA dd args->EvR q (evN q d m args) es n->EvR q m (X3.mk dd.name args::es) n
theorem Wh{q:AA}(hF:CS q)(hR:Ad q)(hS:Bg q)(l:List X3)(hl:l.length<=9223372036854775806){m n:Nat}{rest:List X3}(hw:EvR q m rest n):∀(i:Nat) (set:List X4),l.drop i=rest->i<=l.length->Cf q set m->∃set',Oa [] l q set (i:Int)=some (.inl set')/\Cf q set' n:=by
 induction hw with
 |nil=>
  intro i set hd hi hC
  have:i=l.length:=by have:=List.drop_eq_nil_iff.1 hd;omega
  subst this
  exact⟨set,by rw[NL,Gt,ltI,AF,CE],hC⟩
 |cons hdd ha _ ih=>
  rename_i es _
  intro i set hd hi hC
  have hlt:i<l.length:=by
   rcases Nat.lt_or_ge i l.length with h|h
   exact h;rw[List.drop_eq_nil_of_le h]at hd;cases hd
  obtain⟨e,he,hdr⟩:=AP hlt
  rw[hdr,List.cons.injEq]at hd
  obtain⟨rfl,hd⟩:=hd
  obtain⟨set',s1,s2⟩:=hC.step hF hR hS hdd ha
  obtain⟨w,g1,g2⟩:=ih (i+1) set' hd (by omega) s2
  refine⟨w,?_,g2⟩
  rw[NL,Gt,ltD he,AG,AK he,s1,AD]
  rw[show(!decide (((set',(0:Int)):List X4×Int).2=0))=false from rfl,AF,Af he (by omega),Co]
  exact g1
theorem aJw{q:AA}(hF:CS q)(hR:Ad q)(hq:q.quants=[])(l:List X3)(hl:l.length<=9223372036854775806)(he:∀e∈l,e.args.length<=9223372036854775807):Zd q l=some []:=by
 have hd:=hF.decls;have hadd:∀e∈l,Xn q [] e=some []:=fun e hm=>by
  unfold Xn;rw[aHo _ _ (by omega) (he e hm),AD];have hb:∃hs,Re [] (eR q.decls e) q e=some hs:=by
   unfold Re;cases eR q.decls e with
   |true=>rw[AG,aAb hF hR,AD];exact⟨_,rfl⟩
   |false=>exact⟨_,rfl⟩
  obtain⟨hs,hb⟩:=hb;rw[hb,AD,YU,JB,hq];rfl
 have h:aH7 l q [] 0=some []:=by
  obtain⟨o,h1,h2⟩:=Am (step:=fun s:List (List X0)×Int=>G8 l q s.1 s.2) (fun s=>∃i:Nat,s=([],(i:Int))/\i<=l.length) (fun s=>(l.length-s.2).toNat) (fun o=>o=[])
   (by rintro s ⟨i,rfl,hi⟩;by_cases hie:i=l.length;subst hie;exact .inl ⟨[],by simp only[G8,ltI,AF],rfl⟩;obtain⟨e,hei,_⟩:=AP (l:=l) (i:=i) (by omega);refine .inr ⟨([],((i+1:Nat):Int)),?_,⟨i+1,rfl,by omega⟩,by simp only;omega⟩;simp only[G8,ltD hei,AG,AK hei,hadd e (List.mem_of_getElem? hei),AD,Af hei (show l.length<=9223372036854775807 by omega)])
   ([],(0:Int)) ⟨0,rfl,Nat.zero_le _⟩
  subst h2;exact h1
 unfold Zd;rw[hq];show Ai _ _=_;rw[An (by decide),show(List.replicate ((([]:List Xt).length:Nat):Int).toNat ([]:List X0))=[]from rfl,h,AD]
theorem F4{q:AA}(h:Yo q=some true):0<=q.start/\q.start<q.states.length:=by
 unfold Yo at h;obtain⟨r1,_,h⟩:=bS h;rcases iS h with⟨_,h⟩|⟨_,h⟩
 cases h;rcases iS h with⟨_,h⟩|⟨_,h⟩
 cases h;rcases iS h with⟨_,h⟩|⟨_,h⟩
 cases h;rcases iS h with⟨_,h⟩|⟨_,h⟩
 cases h;rcases iS h with⟨_,h⟩|⟨_,h⟩
 cases h;rcases iS h with⟨_,h⟩|⟨_,h⟩
 cases h;rcases iS h with⟨_,h⟩|⟨_,h⟩
 cases h;rcases iS h with⟨_,h⟩|⟨h1,h⟩
 cases h;rcases iS h with⟨_,h⟩|⟨h2,h⟩
 cases h;have a1:=of_decide_eq_false h1;have a2:=of_decide_eq_false h2;omega
theorem Mb{q:AA}(hF:CS q)(hR:Ad q)(hS:Bg q)(hq:q.quants=[]){st:Nat}(hst:q.start=(st:Int))(hs8:st<q.states.length)(l:List X3)(hl:l.length<=9223372036854775806)(he:∀e∈l,e.args.length<=9223372036854775807){n:Nat}(hw:EvR q (2^st) l n):Qc q l=some (PK q n):=by
 have h8:=hS.states;have hC0:Cf q [X4.mk q.start []] (2^st):=by refine⟨fun c hc=>?_,List.pairwise_singleton _ _,fun k=>?_⟩;rw[List.mem_singleton.1 hc];exact⟨rfl,by rw[hst];show(0:Int)<=st;omega,by rw[hst];show(st:Int)<_;omega⟩;rw[Nat.testBit_two_pow,decide_eq_true_eq,hst];constructor;rintro rfl;exact⟨_,List.mem_singleton.2 rfl,rfl⟩;rintro⟨x,hx,e⟩;rw[List.mem_singleton.1 hx]at e;have e':(st:Int)=(k:Int):=e;omega
 obtain⟨set,h1,h2⟩:=Wh hF hR hS l hl hw 0 _ rfl (Nat.zero_le _) hC0;have hlen:=h2.so.len h2.cv;have hA:Qu q [] l=some (PK q n):=by
  unfold Qu;rw[Wd (by rw[hS.frees];simp),AD,hS.frees];unfold Yt;have h1':Oa [] l q [X4.mk q.start (([]:List Xw).map (·.init_))] 0=some (.inl set):=h1
  rw[h1',AD,Bo,AD];simp only;rw[J6 (fun c hc=>(h2.cv c hc).2) (by omega),AD,h2.acc]
 have hH:Ym q [] 0 [] l=some (PK q n):=by show aK2 (aK4 99999) q [] 0 [] l=_;unfold aK2;rw[decide_eq_true (by simp),AG,hA,AD]
 unfold Qc;rw[aJw hF hR hq l hl he,AD,hH,AD]
def La(s0:List Xe)(s7:Int)(s8:Int):Option (Unit⊕Int):=itE (fun s:Int=>E2 s0 s7 s) 70 s8
theorem NE(s0:List Xe)(s7:Int)(s8:Int):Le (La s0 s7 s8) (OX s0 s7 s8):=by unfold La OX;repeat' (first|with_reducible refine BC (fun _=>?_) _ _|refine BC (fun _=>?_) _ _|exact Le.refl _)
def aOy(a0:List Xe):Option (Int):=
 AH (La a0 (a0.length:Int) 0) fun o3=>
 Ax o3 (fun o4=>
  some (-1)) (fun o5=>
  some o5)
theorem aKv(a0:List Xe):Le (aOy a0) (Y8 a0):=by unfold aOy Y8;repeat' (first|with_reducible refine Aa ?_ fun _=>?_|with_reducible refine DE (fun _=>?_) fun _=>?_|with_reducible exact NE _ _ _|exact NE _ _ _|refine Aa ?_ fun _=>?_|refine DE (fun _=>?_) fun _=>?_|exact Le.refl _)
def aQe(a0:List Xe):Option (Bool):=
 AH (aOy a0) fun r1=>
 some (decide (0<=r1))
theorem aLo(a0:List Xe):Le (aQe a0) (Zw a0):=by unfold aQe Zw;repeat' (first|with_reducible refine Aa ?_ fun _=>?_|with_reducible exact aKv _|exact aKv _|refine Aa ?_ fun _=>?_|exact Le.refl _)
def aQk(a0:AA):Option (Bool):=
 AE (decide ((a0.frees.length:Int)=0)) (
  AH (aQe a0.trans) fun r1=>
  some (!r1)) (
  some false)
theorem aLr(a0:AA):Le (aQk a0) (Zz a0):=by unfold aQk Zz;repeat' (first|with_reducible refine Aa ?_ fun _=>?_|with_reducible refine Ap ?_ ?_|with_reducible exact aLo _|exact aLo _|refine Aa ?_ fun _=>?_|refine Ap ?_ ?_|exact Le.refl _)
def aMo(a0:AA):Option (Bool):=
 AH (aQk a0) fun r1=>
 AE (r1) (
  AE (decide ((a0.quants.length:Int)<=1)) (
   AE (decide ((a0.states.length:Int)<=8)) (
    some (decide ((a0.symbols.length:Int)<=8))) (
    some false)) (
   some false)) (
  some false)
theorem aLm(a0:AA):Le (aMo a0) (Zu a0):=by unfold aMo Zu;repeat' (first|with_reducible refine Aa ?_ fun _=>?_|with_reducible refine Ap ?_ ?_|with_reducible exact aLr _|exact aLr _|refine Aa ?_ fun _=>?_|refine Ap ?_ ?_|exact Le.refl _)
def Lb(s0:List Int)(s1:List Int)(s12:Int)(s13:Int):Option (Unit⊕Unit):=itE (fun s:Int=>E3 s0 s1 s12 s) 70 s13
theorem NG(s0:List Int)(s1:List Int)(s12:Int)(s13:Int):Le (Lb s0 s1 s12 s13) (Sp s0 s1 s12 s13):=by unfold Lb Sp;repeat' (first|with_reducible refine BC (fun _=>?_) _ _|refine BC (fun _=>?_) _ _|exact Le.refl _)
def aO0(a0:List Int)(a1:List Int):Option (Bool):=
 AE (!decide ((a0.length:Int)=(a1.length:Int))) (
  some false) (
  AH (Lb a0 a1 (a0.length:Int) 0) fun o3=>
  Ax o3 (fun o4=>
   some true) (fun o5=>
   some false))
theorem aKw(a0:List Int)(a1:List Int):Le (aO0 a0 a1) (Y9 a0 a1):=by unfold aO0 Y9;repeat' (first|with_reducible refine Aa ?_ fun _=>?_|with_reducible refine Ap ?_ ?_|with_reducible refine DE (fun _=>?_) fun _=>?_|with_reducible exact NG _ _ _ _|exact NG _ _ _ _|refine Aa ?_ fun _=>?_|refine Ap ?_ ?_|refine DE (fun _=>?_) fun _=>?_|exact Le.refl _)
def aQg(a0:X7)(a1:X7):Option (Bool):=
 AE (decide (a0.name=a1.name)) (
  AH (aO0 a0.types a1.types) fun r1=>
  some r1) (
  some false)
theorem aLp(a0:X7)(a1:X7):Le (aQg a0 a1) (Zx a0 a1):=by unfold aQg Zx;repeat' (first|with_reducible refine Aa ?_ fun _=>?_|with_reducible refine Ap ?_ ?_|with_reducible exact aKw _ _|exact aKw _ _|refine Aa ?_ fun _=>?_|refine Ap ?_ ?_|exact Le.refl _)
def Gb(s1:List X7)(s15:List X7)(s16:Int)(s17:Int):Option ((Int)⊕(Unit⊕Unit)):=
 AE (decide (s17<s16)) (
  AZ s15 s17 fun x1=>
  AZ s1 s17 fun x2=>
  AH (aQg x1 x2) fun r3=>
  AE (!r3) (
   some (.inr (.inr ()))) (
   some (.inl (AB .add .i64 s17 1)))) (
  some (.inr (.inl ())))
theorem IX(s1:List X7)(s15:List X7)(s16:Int)(s17:Int):Le (Gb s1 s15 s16 s17) (EK s1 s15 s16 s17):=by unfold Gb EK;repeat' (first|with_reducible refine Aa ?_ fun _=>?_|with_reducible refine Ap ?_ ?_|with_reducible refine Di fun _=>?_|with_reducible exact aLp _ _|exact aLp _ _|refine Aa ?_ fun _=>?_|refine Ap ?_ ?_|refine Di fun _=>?_|exact Le.refl _)
def LT(s1:List X7)(s15:List X7)(s16:Int)(s17:Int):Option (Unit⊕Unit):=itE (fun s:Int=>Gb s1 s15 s16 s) 70 s17
theorem M6(s1:List X7)(s15:List X7)(s16:Int)(s17:Int):Le (LT s1 s15 s16 s17) (SI s1 s15 s16 s17):=by unfold LT SI;repeat' (first|with_reducible refine BC (fun _=>?_) _ _|with_reducible exact IX _ _ _ _|exact IX _ _ _ _|refine BC (fun _=>?_) _ _|exact Le.refl _)
def aOm(a0:List X7)(a1:List X7):Option (Bool):=
 AE (!decide ((a0.length:Int)=(a1.length:Int))) (
  some false) (
  AH (LT a1 a0 (a0.length:Int) 0) fun o4=>
  Ax o4 (fun o5=>
   some true) (fun o6=>
   some false))
theorem aKp(a0:List X7)(a1:List X7):Le (aOm a0 a1) (Xx a0 a1):=by unfold aOm Xx;repeat' (first|with_reducible refine Aa ?_ fun _=>?_|with_reducible refine Ap ?_ ?_|with_reducible refine DE (fun _=>?_) fun _=>?_|with_reducible exact M6 _ _ _ _|exact M6 _ _ _ _|refine Aa ?_ fun _=>?_|refine Ap ?_ ?_|refine DE (fun _=>?_) fun _=>?_|exact Le.refl _)
def aQi(a0:List X7)(a1:List X7):Option (Bool):=
 AH (aOm a0 a1) fun r1=>
 some r1
theorem aLq(a0:List X7)(a1:List X7):Le (aQi a0 a1) (Zy a0 a1):=by unfold aQi Zy;repeat' (first|with_reducible refine Aa ?_ fun _=>?_|with_reducible exact aKp _ _|exact aKp _ _|refine Aa ?_ fun _=>?_|exact Le.refl _)
def aK7(a0:AA)(a1:AA):Option (Bool):=
 AH (aMo a0) fun r1=>
 AE (r1) (
  AH (aMo a1) fun r2=>
  AE (r2) (
   AE (decide ((AB .add .i64 (a0.quants.length:Int) (a1.quants.length:Int))=0)) (
    AH (aQi a0.decls a1.decls) fun r3=>
    some r3) (
    some false)) (
   some false)) (
  some false)
theorem OZ(a0:AA)(a1:AA):Le (aK7 a0 a1) (Ys a0 a1):=by unfold aK7 Ys;repeat' (first|with_reducible refine Aa ?_ fun _=>?_|with_reducible refine Ap ?_ ?_|with_reducible exact aLm _|with_reducible exact aLq _ _|exact aLm _|exact aLq _ _|refine Aa ?_ fun _=>?_|refine Ap ?_ ?_|exact Le.refl _)
def Lc(s2:AA)(s3:AA)(s10:List X7)(s11:Int)(s12:Int)(w508:MP X5 X3)(w750:List X5):Option ((MP X5 X3×List X5)):=itE (fun s:Int×MP X5 X3×List X5=>E4 s2 s3 s10 s11 s.1 s.2.1 s.2.2) 70 (s12,w508,w750)
theorem NH(s2:AA)(s3:AA)(s10:List X7)(s11:Int)(s12:Int)(w508:MP X5 X3)(w750:List X5):Le (Lc s2 s3 s10 s11 s12 w508 w750) (Ss s2 s3 s10 s11 s12 w508 w750):=by unfold Lc Ss;repeat' (first|with_reducible refine BC (fun _=>?_) _ _|refine BC (fun _=>?_) _ _|exact Le.refl _)
def aO2(a0:AA)(a1:AA):Option (List X5×MP X5 X3):=
 AH (Lc a0 a1 a0.decls (a0.decls.length:Int) 0 (Ek:MP X5 X3) ([]:List X5)) fun o3=>
 some (o3.2,o3.1)
theorem aKx(a0:AA)(a1:AA):Le (aO2 a0 a1) (Ya a0 a1):=by unfold aO2 Ya;repeat' (first|with_reducible refine Aa ?_ fun _=>?_|with_reducible exact NH _ _ _ _ _ _ _|exact NH _ _ _ _ _ _ _|refine Aa ?_ fun _=>?_|exact Le.refl _)
def LX(s1:Int)(s8:List Xd)(s9:Int)(s10:Int):Option (Unit⊕Unit):=itE (fun s:Int=>Ez s1 s8 s9 s) 70 s10
theorem NB(s1:Int)(s8:List Xd)(s9:Int)(s10:Int):Le (LX s1 s8 s9 s10) (SR s1 s8 s9 s10):=by unfold LX SR;repeat' (first|with_reducible refine BC (fun _=>?_) _ _|refine BC (fun _=>?_) _ _|exact Le.refl _)
def aMm(a0:AA)(a1:Int):Option (Bool):=
 AH (LX a1 a0.states (a0.states.length:Int) 0) fun o2=>
 Ax o2 (fun o3=>
  some false) (fun o4=>
  some true)
theorem aKr(a0:AA)(a1:Int):Le (aMm a0 a1) (Y1 a0 a1):=by unfold aMm Y1;repeat' (first|with_reducible refine Aa ?_ fun _=>?_|with_reducible refine DE (fun _=>?_) fun _=>?_|with_reducible exact NB _ _ _ _|exact NB _ _ _ _|refine Aa ?_ fun _=>?_|refine DE (fun _=>?_) fun _=>?_|exact Le.refl _)
def LZ(s2:Int)(s3:Int)(w0:List X3):Option ((List X3)):=itE (fun s:Int×Int×List X3=>E0 s.1 s.2.1 s.2.2) 70 (s2,s3,w0)
theorem NC(s2:Int)(s3:Int)(w0:List X3):Le (LZ s2 s3 w0) (Sc s2 s3 w0):=by unfold LZ Sc;repeat' (first|with_reducible refine BC (fun _=>?_) _ _|refine BC (fun _=>?_) _ _|exact Le.refl _)
def aOu(w0:List X3):Option (List X3):=
 AH (LZ 0 (AB .sub .i64 (w0.length:Int) 1) w0) fun o3=>
 some o3
theorem aKu(w0:List X3):Le (aOu w0) (Y5 w0):=by unfold aOu Y5;repeat' (first|with_reducible refine Aa ?_ fun _=>?_|with_reducible exact NC _ _ _|exact NC _ _ _|refine Aa ?_ fun _=>?_|exact Le.refl _)
def LL(s1:Int)(s2:Int)(s7:Int)(s8:Int)(s14:List Xd)(s15:Int)(s16:Int)(s28:List Xe)(s29:Int)(w3:AA)(w9:Xd)(s10:Int)(s30:Int):Option (Int):=itE (fun s:Int×Int=>Eu s1 s2 s7 s8 s14 s15 s16 s28 s29 w3 w9 s.1 s.2) 70 (s10,s30)
theorem Mo(s1:Int)(s2:Int)(s7:Int)(s8:Int)(s14:List Xd)(s15:Int)(s16:Int)(s28:List Xe)(s29:Int)(w3:AA)(w9:Xd)(s10:Int)(s30:Int):Le (LL s1 s2 s7 s8 s14 s15 s16 s28 s29 w3 w9 s10 s30) (OR s1 s2 s7 s8 s14 s15 s16 s28 s29 w3 w9 s10 s30):=by unfold LL OR;repeat' (first|with_reducible refine BC (fun _=>?_) _ _|refine BC (fun _=>?_) _ _|exact Le.refl _)
def LJ(s1:Int)(s2:Int)(s7:Int)(s14:List Xd)(s15:Int)(s16:Int)(w3:AA):Option (Int):=
 AZ s14 s16 fun x1=>
 Ai (0<=(IntKind.wrap .u64 s16)) (
  AE (decide ((AB .and .u32 s1 (AB .shl .u32 1 (IntKind.wrap .u64 s16)))=0)) (
   some s7) (
   AH (LL s1 s2 s7 s16 s14 s15 s16 w3.trans (w3.trans.length:Int) w3 x1 0 0) fun o6=>
   AE (decide (o6=0)) (
    AH (I9 s1 s2 s7 s16 o6 s14 s15 s16 (!x1.next) w3) fun o7=>
    some (AB .or .u32 s7 o7)) (
    AH (I9 s1 s2 s7 s16 o6 s14 s15 s16 false w3) fun o8=>
    some (AB .or .u32 s7 o8))))
theorem Mk(s1:Int)(s2:Int)(s7:Int)(s14:List Xd)(s15:Int)(s16:Int)(w3:AA):Le (LJ s1 s2 s7 s14 s15 s16 w3) (OQ s1 s2 s7 s14 s15 s16 w3):=by unfold LJ OQ;repeat' (first|with_reducible refine Aa ?_ fun _=>?_|with_reducible refine Ap ?_ ?_|with_reducible refine E9 ?_|with_reducible refine Di fun _=>?_|with_reducible exact Mo _ _ _ _ _ _ _ _ _ _ _ _ _|exact Mo _ _ _ _ _ _ _ _ _ _ _ _ _|refine Aa ?_ fun _=>?_|refine Ap ?_ ?_|refine E9 ?_|refine Di fun _=>?_|exact Le.refl _)
def F9(s1:Int)(s2:Int)(s14:List Xd)(s15:Int)(w3:AA)(s7:Int)(s16:Int):Option ((Int×Int)⊕(Int)):=
 AE (decide (s16<s15)) (
  AH (LJ s1 s2 s7 s14 s15 s16 w3) fun o9=>
  some (.inl (o9,(AB .add .i64 s16 1)))) (
  some (.inr s7))
theorem IW(s1:Int)(s2:Int)(s14:List Xd)(s15:Int)(w3:AA)(s7:Int)(s16:Int):Le (F9 s1 s2 s14 s15 w3 s7 s16) (DY s1 s2 s14 s15 w3 s7 s16):=by unfold F9 DY;repeat' (first|with_reducible refine Aa ?_ fun _=>?_|with_reducible refine Ap ?_ ?_|with_reducible exact Mk _ _ _ _ _ _ _|exact Mk _ _ _ _ _ _ _|refine Aa ?_ fun _=>?_|refine Ap ?_ ?_|exact Le.refl _)
def LK(s1:Int)(s2:Int)(s14:List Xd)(s15:Int)(w3:AA)(s7:Int)(s16:Int):Option (Int):=itE (fun s:Int×Int=>F9 s1 s2 s14 s15 w3 s.1 s.2) 70 (s7,s16)
theorem Mn(s1:Int)(s2:Int)(s14:List Xd)(s15:Int)(w3:AA)(s7:Int)(s16:Int):Le (LK s1 s2 s14 s15 w3 s7 s16) (Pv s1 s2 s14 s15 w3 s7 s16):=by unfold LK Pv;repeat' (first|with_reducible refine BC (fun _=>?_) _ _|with_reducible exact IW _ _ _ _ _ _ _|exact IW _ _ _ _ _ _ _|refine BC (fun _=>?_) _ _|exact Le.refl _)
def aMl(a0:AA)(a1:Int)(a2:Int):Option (Int):=
 AH (LK a1 a2 a0.states (a0.states.length:Int) a0 0 0) fun o10=>
 some o10
theorem Ww(a0:AA)(a1:Int)(a2:Int):Le (aMl a0 a1 a2) (Xa a0 a1 a2):=by unfold aMl Xa;repeat' (first|with_reducible refine Aa ?_ fun _=>?_|with_reducible exact Mn _ _ _ _ _ _ _|exact Mn _ _ _ _ _ _ _|refine Aa ?_ fun _=>?_|exact Le.refl _)
def LU(s11:Bool)(w4:AA)(w5:AA)(w6:X6)(w7:X5)(w8:X6):Option (X6):=
 AE (s11) (
  AH (aMl w4 w6.p w7.p) fun r1=>
  some (X6.mk r1 w6.q)) (
  some w6)
theorem M9(s11:Bool)(w4:AA)(w5:AA)(w6:X6)(w7:X5)(w8:X6):Le (LU s11 w4 w5 w6 w7 w8) (OW s11 w4 w5 w6 w7 w8):=by unfold LU OW;repeat' (first|with_reducible refine Aa ?_ fun _=>?_|with_reducible refine Ap ?_ ?_|with_reducible exact Ww _ _ _|exact Ww _ _ _|refine Aa ?_ fun _=>?_|refine Ap ?_ ?_|exact Le.refl _)
def LW(s21:Bool)(w5:AA)(w6:X6)(w7:X5)(w8:X6):Option (X6):=
 AE (s21) (
  AH (aMl w5 w6.q w7.q) fun r3=>
  some (X6.mk w6.p r3)) (
  some w6)
theorem NA(s21:Bool)(w5:AA)(w6:X6)(w7:X5)(w8:X6):Le (LW s21 w5 w6 w7 w8) (LV s21 w5 w6 w7 w8):=by unfold LW LV;repeat' (first|with_reducible refine Aa ?_ fun _=>?_|with_reducible refine Ap ?_ ?_|with_reducible exact Ww _ _ _|exact Ww _ _ _|refine Aa ?_ fun _=>?_|refine Ap ?_ ?_|exact Le.refl _)
def aOp(a0:AA)(a1:AA)(a2:X6)(a3:X5):Option (X6):=
 AH (LU (!decide (a3.p=0)) a0 a1 a2 a3 (X6.mk 0 0)) fun o2=>
 AH (LW (!decide (a3.q=0)) a1 o2 a3 (X6.mk 0 0)) fun o4=>
 some o4
theorem aKq(a0:AA)(a1:AA)(a2:X6)(a3:X5):Le (aOp a0 a1 a2 a3) (Y0 a0 a1 a2 a3):=by unfold aOp Y0;repeat' (first|with_reducible refine Aa ?_ fun _=>?_|with_reducible exact M9 _ _ _ _ _ _|with_reducible exact NA _ _ _ _ _|exact M9 _ _ _ _ _ _|exact NA _ _ _ _ _|refine Aa ?_ fun _=>?_|exact Le.refl _)
def LG(w7:MP X5 X3)(w8:X6)(w10:MP X6 Xc)(w12:X6)(w13:List X3):Option ((List X3)):=itE (fun s:X6×List X3=>F7 w7 w8 w10 s.1 s.2) 70 (w12,w13)
theorem Mi(w7:MP X5 X3)(w8:X6)(w10:MP X6 Xc)(w12:X6)(w13:List X3):Le (LG w7 w8 w10 w12 w13) (KC w7 w8 w10 w12 w13):=by unfold LG KC;repeat' (first|with_reducible refine BC (fun _=>?_) _ _|refine BC (fun _=>?_) _ _|exact Le.refl _)
def LE(s11:Int)(s83:Int)(s84:Int)(w2:AA)(w3:AA)(w6:List X5)(w7:MP X5 X3)(w8:X6)(w9:List X6)(w10:MP X6 Xc)(w12:X6):Option ((List X6×MP X6 Xc)):=
 Ai (0<=s84/\s84+1<=(w6.length:Int)) (
  AZ w6 s84 fun x8=>
  AH (aOp w2 w3 w12 x8) fun r9=>
  AH (Pm s11 s83 s84 (!((BB (Xc.mk (X6.mk 0 0) (X5.mk 0 0)) w10 r9).2)) w2 w3 w6 w7 w8 w9 w10 w12 x8 r9) fun o10=>
  some (o10.1,o10.2))
theorem Mg(s11:Int)(s83:Int)(s84:Int)(w2:AA)(w3:AA)(w6:List X5)(w7:MP X5 X3)(w8:X6)(w9:List X6)(w10:MP X6 Xc)(w12:X6):Le (LE s11 s83 s84 w2 w3 w6 w7 w8 w9 w10 w12) (OP s11 s83 s84 w2 w3 w6 w7 w8 w9 w10 w12):=by unfold LE OP;repeat' (first|with_reducible refine Aa ?_ fun _=>?_|with_reducible refine E9 ?_|with_reducible refine Di fun _=>?_|with_reducible exact aKq _ _ _ _|exact aKq _ _ _ _|refine Aa ?_ fun _=>?_|refine E9 ?_|refine Di fun _=>?_|exact Le.refl _)
def F8(s11:Int)(s83:Int)(w2:AA)(w3:AA)(w6:List X5)(w7:MP X5 X3)(w8:X6)(w12:X6)(s84:Int)(w9:List X6)(w10:MP X6 Xc):Option ((Int×List X6×MP X6 Xc)⊕((List X6×MP X6 Xc))):=
 AE (decide (s84<s83)) (
  AH (LE s11 s83 s84 w2 w3 w6 w7 w8 w9 w10 w12) fun o11=>
  some (.inl ((AB .add .i64 s84 1),o11.1,o11.2))) (
  some (.inr (w9,w10)))
theorem IV(s11:Int)(s83:Int)(w2:AA)(w3:AA)(w6:List X5)(w7:MP X5 X3)(w8:X6)(w12:X6)(s84:Int)(w9:List X6)(w10:MP X6 Xc):Le (F8 s11 s83 w2 w3 w6 w7 w8 w12 s84 w9 w10) (EI s11 s83 w2 w3 w6 w7 w8 w12 s84 w9 w10):=by unfold F8 EI;repeat' (first|with_reducible refine Aa ?_ fun _=>?_|with_reducible refine Ap ?_ ?_|with_reducible exact Mg _ _ _ _ _ _ _ _ _ _ _|exact Mg _ _ _ _ _ _ _ _ _ _ _|refine Aa ?_ fun _=>?_|refine Ap ?_ ?_|exact Le.refl _)
def LI(s11:Int)(s83:Int)(w2:AA)(w3:AA)(w6:List X5)(w7:MP X5 X3)(w8:X6)(w12:X6)(s84:Int)(w9:List X6)(w10:MP X6 Xc):Option ((List X6×MP X6 Xc)):=itE (fun s:Int×List X6×MP X6 Xc=>F8 s11 s83 w2 w3 w6 w7 w8 w12 s.1 s.2.1 s.2.2) 70 (s84,w9,w10)
theorem Mj(s11:Int)(s83:Int)(w2:AA)(w3:AA)(w6:List X5)(w7:MP X5 X3)(w8:X6)(w12:X6)(s84:Int)(w9:List X6)(w10:MP X6 Xc):Le (LI s11 s83 w2 w3 w6 w7 w8 w12 s84 w9 w10) (LH s11 s83 w2 w3 w6 w7 w8 w12 s84 w9 w10):=by unfold LI LH;repeat' (first|with_reducible refine BC (fun _=>?_) _ _|with_reducible exact IV _ _ _ _ _ _ _ _ _ _ _|exact IV _ _ _ _ _ _ _ _ _ _ _|refine BC (fun _=>?_) _ _|exact Le.refl _)
def F6(w2:AA)(w3:AA)(w6:List X5)(w7:MP X5 X3)(w8:X6)(s11:Int)(w9:List X6)(w10:MP X6 Xc):Option ((Int×List X6×MP X6 Xc)⊕(Unit⊕(List X3))):=
 AE (decide (s11<(w9.length:Int))) (
  AZ w9 s11 fun x3=>
  AH (aMm w2 x3.p) fun r4=>
  AH (aMm w3 x3.q) fun r5=>
  AE (!(r4==r5)) (
   AH (LG w7 w8 w10 x3 ([]:List X3)) fun o6=>
   AH (aOu o6) fun r7=>
   some (.inr (.inr r7))) (
   AH (LI s11 (w6.length:Int) w2 w3 w6 w7 w8 x3 0 w9 w10) fun o12=>
   some (.inl ((AB .add .i64 s11 1),o12.1,o12.2)))) (
  some (.inr (.inl ())))
theorem IU(w2:AA)(w3:AA)(w6:List X5)(w7:MP X5 X3)(w8:X6)(s11:Int)(w9:List X6)(w10:MP X6 Xc):Le (F6 w2 w3 w6 w7 w8 s11 w9 w10) (DX w2 w3 w6 w7 w8 s11 w9 w10):=by unfold F6 DX;repeat' (first|with_reducible refine Aa ?_ fun _=>?_|with_reducible refine Ap ?_ ?_|with_reducible refine Di fun _=>?_|with_reducible exact aKr _ _|with_reducible exact Mi _ _ _ _ _|with_reducible exact aKu _|with_reducible exact Mj _ _ _ _ _ _ _ _ _ _ _|exact aKr _ _|exact Mi _ _ _ _ _|exact aKu _|exact Mj _ _ _ _ _ _ _ _ _ _ _|refine Aa ?_ fun _=>?_|refine Ap ?_ ?_|refine Di fun _=>?_|exact Le.refl _)
def LF(w2:AA)(w3:AA)(w6:List X5)(w7:MP X5 X3)(w8:X6)(s11:Int)(w9:List X6)(w10:MP X6 Xc):Option (Unit⊕(List X3)):=itE (fun s:Int×List X6×MP X6 Xc=>F6 w2 w3 w6 w7 w8 s.1 s.2.1 s.2.2) 70 (s11,w9,w10)
theorem Mh(w2:AA)(w3:AA)(w6:List X5)(w7:MP X5 X3)(w8:X6)(s11:Int)(w9:List X6)(w10:MP X6 Xc):Le (LF w2 w3 w6 w7 w8 s11 w9 w10) (Pn w2 w3 w6 w7 w8 s11 w9 w10):=by unfold LF Pn;repeat' (first|with_reducible refine BC (fun _=>?_) _ _|with_reducible exact IU _ _ _ _ _ _ _ _|exact IU _ _ _ _ _ _ _ _|refine BC (fun _=>?_) _ _|exact Le.refl _)
def aMk(a0:AA)(a1:AA):Option (List X3×Bool):=
 AH (aK7 a0 a1) fun r1=>
 AE (!r1) (
  some (([]:List X3),false)) (
  AH (aO2 a0 a1) fun r2=>
  Ai (0<=(IntKind.wrap .u64 a0.start)) (
   Ai (0<=(IntKind.wrap .u64 a1.start)) (
    AH (LF a0 a1 r2.1 r2.2 (X6.mk (AB .shl .u32 1 (IntKind.wrap .u64 a0.start)) (AB .shl .u32 1 (IntKind.wrap .u64 a1.start))) 0 [X6.mk (AB .shl .u32 1 (IntKind.wrap .u64 a0.start)) (AB .shl .u32 1 (IntKind.wrap .u64 a1.start))] (Cs (Ek:MP X6 Xc) (X6.mk (AB .shl .u32 1 (IntKind.wrap .u64 a0.start)) (AB .shl .u32 1 (IntKind.wrap .u64 a1.start))) (Xc.mk (X6.mk 0 0) (X5.mk 0 0)))) fun o13=>
    Ax o13 (fun o14=>
     some (([]:List X3),false)) (fun o15=>
     some (o15,true)))))
theorem Wp(a0:AA)(a1:AA):Le (aMk a0 a1) (X9 a0 a1):=by unfold aMk X9;repeat' (first|with_reducible refine Aa ?_ fun _=>?_|with_reducible refine Ap ?_ ?_|with_reducible refine E9 ?_|with_reducible refine DE (fun _=>?_) fun _=>?_|with_reducible exact OZ _ _|with_reducible exact aKx _ _|with_reducible exact Mh _ _ _ _ _ _ _ _|exact OZ _ _|exact aKx _ _|exact Mh _ _ _ _ _ _ _ _|refine Aa ?_ fun _=>?_|refine Ap ?_ ?_|refine E9 ?_|refine DE (fun _=>?_) fun _=>?_|exact Le.refl _)
def aQc(a0:AA)(a1:AA):Option (Bool×Int):=
 AH (aK7 a0 a1) fun r1=>
 AE (!r1) (
  some (false,1)) (
  AH (aMk a0 a1) fun r2=>
  some (!r2.2,0))
theorem aLj(a0:AA)(a1:AA):Le (aQc a0 a1) (Zr a0 a1):=by unfold aQc Zr;repeat' (first|with_reducible refine Aa ?_ fun _=>?_|with_reducible refine Ap ?_ ?_|with_reducible exact OZ _ _|with_reducible exact Wp _ _|exact OZ _ _|exact Wp _ _|refine Aa ?_ fun _=>?_|refine Ap ?_ ?_|exact Le.refl _)
def aQ2:Option (Bool):=
 AH (aMk (AA.mk ([112]:List UInt8) ([]:List X7) ([]:List Xt) ([]:List Xw) ([Xd.mk ([115]:List UInt8) false false]) 0 ([]:List X8) ([]:List Yc) ([]:List Xe)) (AA.mk ([113]:List UInt8) ([]:List X7) ([]:List Xt) ([]:List Xw) ([Xd.mk ([115]:List UInt8) false true]) 0 ([]:List X8) ([]:List Yc) ([]:List Xe))) fun r1=>
 AH (aQc (AA.mk ([112]:List UInt8) ([]:List X7) ([]:List Xt) ([]:List Xw) ([Xd.mk ([115]:List UInt8) false false]) 0 ([]:List X8) ([]:List Yc) ([]:List Xe)) (AA.mk ([112]:List UInt8) ([]:List X7) ([]:List Xt) ([]:List Xw) ([Xd.mk ([115]:List UInt8) false false]) 0 ([]:List X8) ([]:List Yc) ([]:List Xe))) fun r2=>
 AE (r1.2) (
  AE (decide ((r1.1.length:Int)=0)) (
   AE (r2.1) (
    AE (decide (r2.2=0)) (
     AH (aK7 (AA.mk ([112]:List UInt8) ([]:List X7) ([]:List Xt) ([]:List Xw) ([Xd.mk ([115]:List UInt8) false false]) 0 ([]:List X8) ([]:List Yc) ([]:List Xe)) (AA.mk ([113]:List UInt8) ([]:List X7) ([]:List Xt) ([]:List Xw) ([Xd.mk ([115]:List UInt8) false true]) 0 ([]:List X8) ([]:List Yc) ([]:List Xe))) fun r3=>
     some r3) (
     some false)) (
    some false)) (
   some false)) (
  some false)
theorem aP6:Le (aQ2) (Zk):=by unfold aQ2 Zk;repeat' (first|with_reducible refine Aa ?_ fun _=>?_|with_reducible refine Ap ?_ ?_|with_reducible exact Wp _ _|with_reducible exact aLj _ _|with_reducible exact OZ _ _|exact Wp _ _|exact aLj _ _|exact OZ _ _|refine Aa ?_ fun _=>?_|refine Ap ?_ ?_|exact Le.refl _)
theorem aP5:Zk=some true:=aP6 _ (by kernel_rfl)
theorem OJ{α β:Type}{a:List α}{b:List β}{i:Nat}{x:α×β}(h:(a.zip b)[i]? =some x):a[i]? =some x.1/\b[i]? =some x.2:=by rw[List.getElem?_zip_eq_some]at h;exact h
theorem Pa{a b:List Int}(ha:a.length<=9223372036854775807):Y9 a b=some (decide (a=b)):=by
 unfold Y9;by_cases hl:a.length=b.length;rw[decide_eq_true (show(a.length:Int)=(b.length:Int) by omega),Bool.not_true,AF];have hz:(a.zip b).length=a.length:=by simp[hl]
 have h:Sp a b (a.length:Int) 0=some (if((a.zip b).all fun z=>decide (z.1=z.2))=true then .inl ()else .inr ()):=Bm (step:=fun s=>E3 a b (a.length:Int) s) (a.zip b) (fun z=>decide (z.1=z.2)) (.inl ()) (.inr ())
  (fun i x hx=>by obtain⟨h1,h2⟩:=OJ hx;simp only[E3,ltD h1,AG,AK h1,AK h2,Af h1 ha];by_cases he:x.1=x.2;rw[decide_eq_true he,Bool.not_true,AF,if_pos rfl];rw[decide_eq_false he,Bool.not_false,AG,if_neg (by simp)])
  (by simp only[E3,hz,ltI,AF])
 rw[h,AD,DM hl];by_cases he:a=b;rw[decide_eq_true he,if_pos rfl,Bo];rw[decide_eq_false he,if_neg (by simp),DL];rw[decide_eq_false (show¬(a.length:Int)=(b.length:Int) by omega),Bool.not_false,AG,decide_eq_false fun e=>hl (by rw[e])]
theorem VI(a b:X7):decide (a=b)=(decide (a.name=b.name)&&decide (a.types=b.types)):=by cases a;cases b;simp
theorem Wb{a b:X7}(ha:a.types.length<=9223372036854775807):Zx a b=some (decide (a=b)):=by unfold Zx;rw[VI];by_cases h:a.name=b.name;rw[decide_eq_true h,AG,Pa ha,AD,Bool.true_and];rw[decide_eq_false h,AF,Bool.false_and]
theorem Wc{a b:List X7}(ha:a.length<=9223372036854775807)(h3:∀d∈a,d.types.length<=3):Zy a b=some (decide (a=b)):=by
 unfold Zy Xx;by_cases hl:a.length=b.length;rw[decide_eq_true (show(a.length:Int)=(b.length:Int) by omega),Bool.not_true,AF];have hz:(a.zip b).length=a.length:=by simp[hl]
 have h:SI b a (a.length:Int) 0=some (if((a.zip b).all fun z=>decide (z.1=z.2))=true then .inl ()else .inr ()):=Bm (step:=fun s=>EK b a (a.length:Int) s) (a.zip b) (fun z=>decide (z.1=z.2)) (.inl ()) (.inr ())
  (fun i x hx=>by obtain⟨h1,h2⟩:=OJ hx;have:=h3 x.1 (List.mem_of_getElem? h1);simp only[EK,ltD h1,AG,AK h1,AK h2,Af h1 ha,Wb (a:=x.1) (b:=x.2) (by omega),AD];by_cases he:x.1=x.2;rw[decide_eq_true he,Bool.not_true,AF,if_pos rfl];rw[decide_eq_false he,Bool.not_false,AG,if_neg (by simp)])
  (by simp only[EK,hz,ltI,AF])
 rw[h,AD,DM hl];by_cases he:a=b;rw[decide_eq_true he,if_pos rfl,Bo,AD];rw[decide_eq_false he,if_neg (by simp),DL,AD];rw[decide_eq_false (show¬(a.length:Int)=(b.length:Int) by omega),Bool.not_false,AG,AD,decide_eq_false fun e=>hl (by rw[e])]
theorem aMa{p q:AA}{i:Nat}{x y:X7}(hx:p.decls[i]? =some x)(hy:q.decls[i]? =some y)(hl:x.types.length=y.types.length)(h3:x.types.length<=3):aA0 (i:Int) p q 0=some (if x.types=y.types then .inl ()else .inr ()):=by
 have hz:(x.types.zip y.types).length=x.types.length:=by simp[hl]
 have h:aA0 (i:Int) p q 0=some (if((x.types.zip y.types).all fun z=>decide (z.1=z.2))=true then .inl ()else .inr ()):=Bm (step:=fun s=>Gg (i:Int) p q s) (x.types.zip y.types) (fun z=>decide (z.1=z.2)) (.inl ()) (.inr ())
  (fun j z hz=>by obtain⟨h1,h2⟩:=OJ hz;simp only[Gg,AK hx,AK hy,ltD h1,AG,AK h1,AK h2,Af h1 (show x.types.length<=9223372036854775807 by omega)];by_cases he:z.1=z.2;rw[decide_eq_true he,Bool.not_true,AF,if_pos rfl];rw[decide_eq_false he,Bool.not_false,AG,if_neg (by simp)])
  (by simp only[Gg,AK hx,hz,ltI,AF])
 rw[h,DM hl];by_cases he:x.types=y.types;rw[if_pos (decide_eq_true he),if_pos he];rw[if_neg (by simp[he]),if_neg he]
theorem aL9{p q:AA}(hl:p.decls.length=q.decls.length)(h12:p.decls.length<=12)(h3:∀d∈p.decls,d.types.length<=3):aAy p q 0=some (if p.decls=q.decls then .inl ()else .inr ()):=by
 have hz:(p.decls.zip q.decls).length=p.decls.length:=by simp[hl]
 have h:aAy p q 0=some (if((p.decls.zip q.decls).all fun z=>decide (z.1=z.2))=true then .inl ()else .inr ()):=Bm (step:=fun s=>Gf p q s) (p.decls.zip q.decls) (fun z=>decide (z.1=z.2)) (.inl ()) (.inr ())
  (fun j z hz=>by obtain⟨h1,h2⟩:=OJ hz;have ht:=h3 z.1 (List.mem_of_getElem? h1);simp only[Gf,ltD h1,AG,AK h1,AK h2,Af h1 (show p.decls.length<=9223372036854775807 by omega)];rw[VI];by_cases hn:z.1.name=z.2.name;rw[decide_eq_true hn,Bool.not_true,AF,Bool.true_and];by_cases hlt:z.1.types.length=z.2.types.length;rw[decide_eq_true (show(z.1.types.length:Int)=(z.2.types.length:Int) by omega),Bool.not_true,AF,aMa h1 h2 hlt ht,AD];by_cases he:z.1.types=z.2.types;rw[if_pos he,Bo,if_pos (decide_eq_true he)];rw[if_neg he,DL,if_neg (by simp[he])];rw[decide_eq_false (show¬(z.1.types.length:Int)=(z.2.types.length:Int) by omega),Bool.not_false,AG,if_neg];intro h;exact hlt (by rw[of_decide_eq_true h]);rw[decide_eq_false hn,Bool.not_false,AG,if_neg (by simp)])
  (by simp only[Gf,hz,ltI,AF])
 rw[h,DM hl];by_cases he:p.decls=q.decls;rw[if_pos (decide_eq_true he),if_pos he];rw[if_neg (by simp[he]),if_neg he]
structure LQ(q:AA):Prop where
 f:CS q
 r:Ad q
 t:Yo q=some true
 d3:∀d∈q.decls,d.types.length<=3
theorem I0(q:AA)(hW:∀t∈q.trans,IT t):∃r,Z2 q=some r/\(r=true->LQ q):=by
 obtain⟨n,hn,hF⟩:=aN4 q;unfold Z2;refine A9 hn ?_;refine A5 (fun _=>⟨_,rfl,by simp⟩) (fun h0=>?_);have hF:=hF h0;obtain⟨r,hr,hR⟩:=aPb q hF hW;refine A9 hr ?_;refine FE (fun _=>⟨_,rfl,by simp⟩) (fun h1=>?_);have hR2:=hR h1;subst h1;have hd:=hF.decls;obtain⟨o,ho,hQ⟩:=Ah (step:=fun s=>G0 q s) q.decls.length (fun i=>∀d,q.decls[i]? =some d->d.types.length<=3) (fun o=>o=Sum.inl ()->∀d∈q.decls,d.types.length<=3)
  (fun i hi=>by obtain⟨x,hx,_⟩:=AP hi;simp only[G0,ltD hx,AG,AK hx,Af hx (show q.decls.length<=9223372036854775807 by omega)];by_cases h:(3:Int)<(x.types.length:Int);exact .inr ⟨.inr (),by rw[decide_eq_true h];rfl,fun h=>by cases h⟩;exact .inl ⟨by rw[decide_eq_false h];rfl,fun t h2=>by rw[hx,oe]at h2;subst h2;omega⟩)
  (fun hall=>⟨.inl (),by simp only[G0,ltI,AF],fun _=>E7 hall⟩)
 have ho':aHz q 0=some o:=ho;refine A9 ho' ?_;rcases o with⟨⟩|⟨⟩
 rw[Bo];exact⟨_,rfl,fun _=>⟨hF,hR2,hr,hQ rfl⟩⟩;rw[DL];exact⟨_,rfl,by simp⟩
theorem aGj{p q:AA}(hp:LQ p)(hq:LQ q):∃b,Y6 p q=some b/\Ys p q=some b/\(b=true->EqP p q):=by
 have hp12:=hp.f.decls;have hq12:=hq.f.decls;have hpq:=hp.f.quants;have hqq:=hq.f.quants;obtain⟨b1,j1,k1⟩:=Me hp.f hp.r;obtain⟨b2,j2,k2⟩:=Me hq.f hq.r;obtain⟨r1,m1,S1⟩:=aK0 hp.f;obtain⟨r2,m2,S2⟩:=aK0 hq.f;rw[k1,oe]at m1;rw[k2,oe]at m2;subst m1;subst m2;unfold Y6 Ys;rw[j1,AD,k1,AD,Wc (by omega) hp.d3];cases b1 with
 |false=>exact⟨false,rfl,rfl,by simp⟩
 |true=>
  rw[Bool.not_true,AF,AG,j2,AD,k2,AD]
  cases b2 with
  |false=>exact⟨false,rfl,rfl,by simp⟩
  |true=>
   rw[Bool.not_true,AF,AG,aFg (by omega) (by omega)]
   by_cases c1:p.quants.length=0
   by_cases c2:q.quants.length=0
   rw[decide_eq_false (show¬(0:Int)<(p.quants.length:Int) by omega),AF,decide_eq_false (show¬(0:Int)<(q.quants.length:Int) by omega),AF,decide_eq_true (show(p.quants.length:Int)+(q.quants.length:Int)=0 by omega),AG,AD]
   by_cases hl:p.decls.length=q.decls.length
   rw[decide_eq_true (show(p.decls.length:Int)=(q.decls.length:Int) by omega),Bool.not_true,AF,aL9 hl hp12 hp.d3,AD]
   by_cases he:p.decls=q.decls
   rw[if_pos he,Bo,decide_eq_true he]
   exact⟨true,rfl,rfl,fun _=>⟨hp.f,hp.r,S1 rfl,hp.t,hq.f,hq.r,S2 rfl,hq.t,List.length_eq_zero_iff.1 c1,List.length_eq_zero_iff.1 c2,he.symm,hp.d3,LC hp.f hp.t⟩⟩
   rw[if_neg he,DL,decide_eq_false he]
   exact⟨false,rfl,rfl,by simp⟩
   rw[decide_eq_false (show¬(p.decls.length:Int)=(q.decls.length:Int) by omega),Bool.not_false,AG,decide_eq_false fun e=>hl (by rw[e])]
   exact⟨false,rfl,rfl,by simp⟩
   rw[decide_eq_false (show¬(0:Int)<(p.quants.length:Int) by omega),AF,decide_eq_true (show(0:Int)<(q.quants.length:Int) by omega),AG,decide_eq_false (show¬(p.quants.length:Int)+(q.quants.length:Int)=0 by omega),AF]
   exact⟨false,rfl,rfl,by simp⟩
   rw[decide_eq_true (show(0:Int)<(p.quants.length:Int) by omega),AG,decide_eq_false (show¬(p.quants.length:Int)+(q.quants.length:Int)=0 by omega),AF]
   exact⟨false,rfl,rfl,by simp⟩
theorem aEs{p q:AA}(E:EqP p q):∃a b:Nat,p.start=(a:Int)/\q.start=(b:Int)/\a<p.states.length/\b<q.states.length/\Ht p q (((2^a:Nat):Int),((2^b:Nat):Int)):=by
 obtain⟨h0,h1⟩:=F4 E.tp;obtain⟨g0,g1⟩:=F4 E.tq;have h8:=E.sp.states;have g8:=E.sq.states;have e1:p.start=(p.start.toNat:Int):=by omega
 have e2:q.start=(q.start.toNat:Int):=by omega
 exact⟨p.start.toNat,q.start.toNat,e1,e2,by omega,by omega,p.start.toNat,q.start.toNat,e1,e2,by omega,by omega,rfl⟩
theorem EvW.runs{p q:AA}(E:EqP p q){x z:PP}{es:List X3}(h:EvW p q x es z):∀{a b:Nat},x=((a:Int),(b:Int))->∃m n:Nat,z=((m:Int),(n:Int))/\EvR p a es m/\EvR q b es n:=by
 induction h with
 |nil=>intro a b e;exact⟨a,b,e,.nil,.nil⟩
 |cons hd ha _ ih=>
  rename_i x0 y0 d0 dd0 args0 es0 _
  intro a b e
  subst e
  have hdq:q.decls[d0]? =some dd0:=by rw[E.de];exact hd
  obtain⟨m,n,h1,h2,h3⟩:=ih (a:=evN p d0 a args0) (b:=evN q d0 b args0) (by unfold mv evN sP;simp only;by_cases c1:mkM p [] d0 args0=0;by_cases c2:mkM q [] d0 args0=0;simp[c1,c2];simp[c1,c2,nx];by_cases c2:mkM q [] d0 args0=0;simp[c1,c2,nx];simp[c1,c2,nx])
  exact⟨m,n,h1,.cons hd ha h2,.cons hdq ha h3⟩
theorem EvW.right{p q:AA}(E:EqP p q){x z:PP}{es:List X3}(h:EvW p q x es z):∀e∈es,eR p.decls e=true/\e.args.length<=3:=by
 induction h with
 |nil=>intro e he;cases he
 |cons hd ha _ ih=>
  intro e he
  rcases mc.1 he with rfl|he
  refine⟨aIx E.rp hd ha,?_⟩
  have:=E.d3 _ (List.mem_of_getElem? hd)
  have h1:=ha.1
  simp only
  omega
  exact ih e he
theorem OM{p q:AA}(E:EqP p q){a b:Nat}(ha:p.start=(a:Int))(hb:q.start=(b:Int))(ha2:a<p.states.length)(hb2:b<q.states.length){l:List X3}(hl:l.length<=9223372036854775806){z:PP}(h:EvW p q (((2^a:Nat):Int),((2^b:Nat):Int)) l z):
 Qc p l=some (PN p z.1)/\Qc q l=some (PN q z.2):=by
 obtain⟨m,n,rfl,h1,h2⟩:=h.runs E rfl
 have hr:=fun e he=>(h.right E e he).2
 refine⟨?_,?_⟩
 rw[Mb E.fp E.rp E.sp E.qp ha ha2 l hl (fun e he=>by have:=hr e he;omega) h1,PN,Int.toNat_natCast]
 rw[Mb E.fq E.rq E.sq E.qq hb hb2 l hl (fun e he=>by have:=hr e he;omega) h2,PN,Int.toNat_natCast]
theorem F1{p q:AA}{all:List X3}{s:PP}{a:Nat}(h1:Pd p q all s)(h2:K8 p q all s a):False:=by obtain⟨⟨z,hz,ha⟩,_⟩:=h2;have:=h1 _ z hz;rw[this]at ha;cases ha
theorem ON{p q:AA}{all:List X3}{s:PP}{a b:Nat}(h1:K8 p q all s a)(h2:K8 p q all s b):a=b:=by obtain⟨⟨z,hz,ha⟩,m1⟩:=h1;obtain⟨⟨y,hy,hb⟩,m2⟩:=h2;have:=m1 _ y hy hb;have:=m2 _ z hz ha;omega
theorem Mf{p q:AA}(E:EqP p q){es:List X3}(hl:es.length<=9223372036854775806)(h:∀e∈es,eR p.decls e=true/\e.args.length<=3)(b:Bool):aHn es b p q 0=some (.inl ()):=by
 have hd:=E.fp.decls;have h0:=Bm (step:=fun s=>Gr es b p q s) es (fun _=>true) (.inl ()) (.inr ())
  (fun i e he=>by obtain⟨h1,h2⟩:=h e (List.mem_of_getElem? he);simp only[Gr,ltD he,AG,AK he,Af he (show es.length<=9223372036854775807 by omega),aHo p.decls e (by omega) (by omega),h1,AD,Bool.not_true,AF];rfl)
  (by simp only[Gr,ltI,AF])
 have h1:es.all (fun _=>true)=true:=by simp
 rw[h1,if_pos rfl]at h0;exact h0
theorem aO9(p q:AA)(hWp:∀t∈p.trans,IT t)(hWq:∀t∈q.trans,IT t):Yn p q=some true:=by
 have hA:=aP5;obtain⟨r1,e1,h1⟩:=I0 p hWp;obtain⟨r2,e2,h2⟩:=I0 q hWq;unfold Yn;rw[e1,AD,hA];cases r1 with
 |false=>rfl
 |true=>
  rw[Bool.not_true,AF,e2,AD]
  cases r2 with
  |false=>rfl
  |true=>
   rw[Bool.not_true,AF]
   obtain⟨b,f1,f2,hE⟩:=aGj (h1 rfl) (h2 rfl)
   cases b with
   |false=>
    have hD:X9 p q=some ([],false):=by unfold X9;rw[f2,AD];rfl
    have hS:Zr p q=some (false,1):=by unfold Zr;rw[f2,AD];rfl
    rw[hD,AD,hS,AD,f1,AD,f2]
    rfl
   |true=>
    have E:=hE rfl
    obtain⟨a,b,sa,sb,la,lb,hs⟩:=aEs E
    obtain⟨all,hAll,hSt⟩:=We E hs
    have hDf:=PY E hs f2 hAll
    have hSame:∀(es:List X3) (c:Bool),X9 p q=some (es,c)->Zr p q=some (!c,0):=fun es c h=>by unfold Zr;rw[f2,AD,Bool.not_true,AF,h,AD]
    rcases hSt with⟨s1,s2⟩|⟨k,s1,s2⟩
    rcases hDf with⟨d1,_⟩|⟨es,z,d1,_,_,d4,_⟩
    rw[d1,AD,hSame _ _ d1,AD,f1,AD,s1,AD,f2,AD]
    have hl:=Mf E (es:=[]) (by simp) (fun e he=>by cases he) false
    simp only
    rw[hl]
    rfl
    exact(F1 s2 d4).elim
    rcases hDf with⟨_,d2⟩|⟨es,z,d1,d2,d3,d4,d5⟩
    exact(F1 d2 s2).elim
    have hk:=ON s2 d4
    subst hk
    have hlen:es.length<=9223372036854775806:=by omega
    have hl:=Mf E (es:=es) hlen (d2.right E) true
    obtain⟨g1,g2⟩:=OM E sa sb la lb hlen d2
    rw[d1,AD,hSame _ _ d1,AD,f1,AD,s1,AD,f2,AD]
    have hmx:K5 (es.length:Int) 0=(es.length:Int):=by unfold K5;split<;>omega
    have hap:(!(PN p z.1==PN q z.2))=true:=d3
    simp only
    rw[hl,g1,g2]
    simp only[AD,Bool.not_true,AF]
    rw[hmx,decide_eq_true (show(0:Int)<=(es.length:Int) by omega)]
    simp only[Bo,AF,decide_true,Bool.not_true]
    rw[hap]
    rfl
end
end Go.Ac
