/- Own work: the plain law. -/
import Derived.Test.YthaljpcbnneidaaGreatP37hx
set_option linter.unusedVariables false
set_option linter.unusedSimpArgs false
namespace Go.Ac
noncomputable section
theorem Jc{a b:Nat}(h:∀k,a.testBit k=true↔b.testBit k=true):a=b:=Nat.eq_of_testBit_eq fun i=>by rw[Bool.eq_iff_iff];exact h i
def Fs(b:List X2)(a:BQ)(x:X0):Bool:=if a.kind=1 then decide (a.value=x)else if a.kind=2 then decide (B4 b a.n=(x,true))else true
theorem K1{w b:List X2}(h:BI w b=true){s:X2}(hs:s∈w):B4 b s.var=(s.value,true):=by unfold BI at h;have:=(List.all_eq_true.1 h) s hs;simpa using this
theorem Vd{w b:List X2}{x:X2}:BI (K7 w x) b=true↔B4 b x.var=(x.value,true)/\BI w b=true:=by unfold BI;simp only[List.all_eq_true,decide_eq_true_eq,Cx];constructor;intro h;exact⟨h x (.inl rfl),fun s hs=>h s (.inr hs)⟩;rintro⟨h1,h2⟩ s (rfl|hs);exact h1;exact h2 s hs
theorem Nb(b:List X2):∀(al:List BQ) (xs:List X0) (bd f:List X2),al.length=xs.length->(∀a∈al,a.kind≠3)->
 ((∃p,D0 al xs bd f=some p/\BI p.1 b=true)↔BI bd b=true/\∀z∈al.zip xs,Fs b z.1 z.2=true)
 |[],[],bd,f,_,_=>by simp[D0]
 |[],x::xs,bd,f,h,_=>by simp at h
 |a::al,[],bd,f,h,_=>by simp at h
 |a::al,x::xs,bd,f,hl,hk=>by
  have hl':al.length=xs.length:=by simpa using hl
  have hk':∀a∈al,a.kind≠3:=fun y hy=>hk y (List.mem_cons_of_mem _ hy);have h3:=hk a (by simp);have ih:=fun bd f=>Nb b al xs bd f hl' hk';rw[D0,List.zip_cons_cons];simp only[List.forall_mem_cons];unfold Fs;by_cases k1:a.kind=1;rw[if_pos k1,if_pos k1];by_cases hv:a.value=x;rw[if_pos hv,ih];simp[hv,Fs];rw[if_neg hv];simp[hv];rw[if_neg k1,if_neg k1];by_cases k2:a.kind=2;rw[if_pos k2,if_pos k2];unfold H8;by_cases hg:(B4 bd a.n).2=true;simp only[hg,if_true];have hge:B4 bd a.n=((B4 bd a.n).1,true):=by rw[<-hg]
  by_cases hv:(B4 bd a.n).1=x;simp only[hv,if_true];rw[ih];constructor;rintro⟨u,z⟩;have:=K1 u (Cw hge);simp only[hv]at this;exact⟨u,by simp[this],z⟩;rintro⟨u,_,z⟩;exact⟨u,z⟩;simp only[hv,if_false];constructor;rintro⟨p,hp,_⟩;cases hp;rintro⟨u,z,_⟩;have:=K1 u (Cw hge);simp only[decide_eq_true_eq]at z;rw[z]at this;exact absurd (by simpa using this.symm) hv;simp only[hg,if_false,Bool.false_eq_true];rw[ih,Vd];simp only[decide_eq_true_eq];constructor;rintro⟨⟨h1,h2⟩,z⟩;exact⟨h2,h1,z⟩;rintro⟨h2,h1,z⟩;exact⟨⟨h1,h2⟩,z⟩;rw[if_neg k2,if_neg h3,if_neg k2,ih];simp[Fs]
def aB2(q:AA)(b:List X2)(d:Nat)(args:List X0)(i:Nat):Bool:=match q.symbols[i]? with
 |some s=>decide (s.event=(d:Int))&&(s.args.zip args).all fun z=>Fs b z.1 z.2
 |none=>false
def mkM(q:AA)(b:List X2)(d:Nat)(args:List X0):Nat:=Jb q.symbols.length (aB2 q b d args)
theorem O9{q:AA}(hR:Ad q)(hS:Bh q){s:X8}(hs:s∈q.symbols):∀a∈s.args,a.kind≠3:=fun a ha h=>by have:=((hR.symbols s hs).args a ha).three h;rw[hS.frees]at this;simp at this;omega
theorem UV{q:AA}(hR:Ad q){i j:Nat}{d d':X7}(h1:q.decls[i]? =some d)(h2:q.decls[j]? =some d')(hn:d.name=d'.name):i=j:=by have a1:=hR.decls i d h1;have a2:=hR.decls j d' h2;rw[hn,a2]at a1;exact(Option.some.inj a1).symm
theorem Ui{q:AA}(hR:Ad q)(hS:Bh q)(b:List X2){e:X3}{d i:Nat}{dd:X7}(hd:q.decls[d]? =some dd)(hn:e.name=dd.name)(hl:e.args.length=dd.types.length):
 (∃h,DV q i e=some h/\BI h.bind b=true)↔aB2 q b d e.args i=true:=by
 unfold DV aB2
 cases hs:q.symbols[i]? with
 |none=>simp
 |some s=>
  have hsm:=List.mem_of_getElem? hs
  obtain⟨d',hd',hlen⟩:=(hR.symbols s hsm).decl
  have h0:=(hR.symbols s hsm).event
  simp only[hd',ba,decide_eq_true_eq]
  by_cases he:s.event=(d:Int)
  have:s.event.toNat=d:=by omega
  rw[this,hd]at hd'
  cases hd'
  rw[if_pos ⟨hn.symm,by omega⟩]
  have:=Nb b s.args e.args [] [] (by omega) (O9 hR hS hsm)
  rw[List.all_eq_true]
  constructor
  rintro⟨h,hh,hu⟩
  obtain⟨p,hp,rfl⟩:=om.1 hh
  exact⟨he,(this.1 ⟨p,hp,hu⟩).2⟩
  rintro⟨_,hz⟩
  obtain⟨p,hp,hu⟩:=this.2 ⟨by simp[BI],hz⟩
  exact⟨_,by rw[hp];rfl,hu⟩
  constructor
  rintro⟨h,hh,_⟩
  split at hh
  rename_i hc
  have:=UV hR hd' hd (by rw[hc.1,hn])
  omega
  cases hh
  rintro⟨h,_⟩;exact absurd h he
theorem aG3{q:AA}(hF:CX q)(hR:Ad q)(hS:Bh q)(b:List X2){e:X3}{d:Nat}{dd:X7}(hd:q.decls[d]? =some dd)(hn:e.name=dd.name)(hl:e.args.length=dd.types.length):
 Zw (((List.range q.symbols.length).filterMap fun i=>DV q i e).filter fun h=>BI h.bind b)=some ((mkM q b d e.args:Nat):Int):=by
 obtain⟨M,hM,_,hb⟩:=LA hF.symbols (FH hF hR hS e b)
 rw[hM]
 congr 2
 apply Jc
 intro k
 rw[hb]
 unfold mkM
 rw[KO]
 simp only[List.mem_filter,List.mem_filterMap,List.mem_range]
 constructor
 rintro⟨h,⟨⟨i,hi,hh⟩,hu⟩,hk⟩
 have hik:i=k:=by have:=(Id hh).1;omega
 subst hik
 exact⟨hi,(Ui hR hS b hd hn hl).1 ⟨h,hh,hu⟩⟩
 rintro⟨hk,hf⟩
 obtain⟨h,hh,hu⟩:=(Ui hR hS b hd hn hl).2 hf
 exact⟨h,⟨⟨k,hk,hh⟩,hu⟩,(Id hh).1⟩
theorem aDc{k:Int}(hk:k=1\/k=2){l w:List X0}(hl:l.length<=800)(hw:SW w)(hwl:w.length<=900)(hm:∀v,v.kind=k->(v∈w↔v∈l)):∃v,Xv k l=some (v,true)/\Zf k w=some v/\v∉l/\v.kind=k/\vR v=true:=by
 have hex:∃i,0<=i/\i<0+(l.length+1)/\Es k i∉l:=by apply Classical.byContradiction;intro hn;have:=aD9 (Es k) (fun i j h=>aCk h) (l.length+1) l (fun i hi=>Classical.byContradiction fun h=>hn ⟨i,by omega,by omega,h⟩);omega
 obtain⟨i,_,hi,hni,a4,a5⟩:=Np hk (by omega) hw hwl hm (X0.mk 0 0 [] false) (l.length+1) 0 (by omega) hex;have h0:Es k 0=X0.mk k 0 [] false:=by unfold Es;split<;>rfl
 rw[h0]at a4 a5;refine⟨Es k i,?_,?_,hni,Kk k i,VB hk (by omega)⟩;unfold Xv;rcases hk with rfl|rfl
 simp only[decide_true,Bool.not_true,AF,a4,AD];simp only[show¬(2:Int)=1 by decide,decide_false,decide_true,Bool.not_false,Bool.not_true,AH,AF,a4,AD];unfold Zf;rw[a5,AD]
theorem HD{q:AA}{k:Int}{v:X0}:v∈E8 q k↔(k=3/\(v=⟨3,0,[],false⟩\/v=⟨3,0,[],true⟩))\/∃s∈q.symbols,∃a∈s.args,a.kind=1/\a.value.kind=k/\v=a.value:=by
 have h1:∀(l:List BQ) (w:List X0),v∈l.foldl (K5 k) w↔v∈w\/∃a∈l,a.kind=1/\a.value.kind=k/\v=a.value:=by
  intro l;induction l with
  |nil=>intro w;simp
  |cons a l ih=>
   intro w
   rw[List.foldl_cons,ih]
   have:v∈K5 k w a↔v∈w\/(a.kind=1/\a.value.kind=k/\v=a.value):=by unfold K5;split;rename_i h;rw[Ej];simp[h.1,h.2,or_comm];rename_i h;constructor;exact .inl;rintro(h2|⟨a1,a2,_⟩);exact h2;exact absurd ⟨a1,a2⟩ h
   rw[this]
   constructor
   rintro((h|h)|⟨b,hb,h⟩)
   exact .inl h
   exact .inr ⟨a,by simp,h⟩
   exact .inr ⟨b,List.mem_cons_of_mem _ hb,h⟩
   rintro(h|⟨b,hb,h⟩)
   exact .inl (.inl h)
   rcases mc.1 hb with rfl|hb
   exact .inl (.inr h)
   exact .inr ⟨b,hb,h⟩
 have h2:∀(l:List X8) (w:List X0),v∈l.foldl (fun w s=>s.args.foldl (K5 k) w) w↔v∈w\/∃s∈l,∃a∈s.args,a.kind=1/\a.value.kind=k/\v=a.value:=by
  intro l;induction l with
  |nil=>intro w;simp
  |cons a l ih=>
   intro w
   rw[List.foldl_cons,ih,h1]
   constructor
   rintro((h|h)|⟨b,hb,h⟩)
   exact .inl h
   exact .inr ⟨a,by simp,h⟩
   exact .inr ⟨b,List.mem_cons_of_mem _ hb,h⟩
   rintro(h|⟨b,hb,h⟩)
   exact .inl (.inl h)
   rcases mc.1 hb with rfl|hb
   exact .inl (.inr h)
   exact .inr ⟨b,hb,h⟩
 unfold E8;rw[h2];by_cases hk:k=3;simp[hk];simp[hk]
theorem Ow{q:AA}{k:Int}{v:X0}(h:v∈E8 q k):v.kind=k:=by
 rcases HD.1 h with⟨rfl,rfl|rfl⟩|⟨s,_,a,_,_,hk,rfl⟩
 rfl;rfl;exact hk
theorem vR3{v:X0}(hv:vR v=true)(hk:v.kind=3):v=⟨3,0,[],false⟩\/v=⟨3,0,[],true⟩:=by
 obtain⟨k,i,s,b⟩:=v;simp only at hk;subst hk;rcases Eq hv with h|h|h
 simp at h;simp at h;obtain⟨_,h2,h3⟩:=h;simp only at h2 h3;subst h2;subst h3;cases b<;>simp
theorem aB7{q:AA}(hF:CX q)(hR:Ad q){i:Nat}{e:X3}{h:AL}(hh:DV q i e=some h):h.bind.length<=12:=by unfold DV at hh;split at hh;cases hh;rename_i s hs;split at hh;cases hh;split at hh;have hsm:=List.mem_of_getElem? hs;obtain⟨p,hp,rfl⟩:=om.1 hh;have:=FE s.args e.args [] [] p (aK5 hF hR hsm) ⟨List.Pairwise.nil,by simp⟩ ⟨List.Pairwise.nil,by simp⟩ (fun s hs=>by simp at hs) hp;have h12:=hF.args s hsm;have:=this.2.2.2.1;simp at this;simp only;omega;cases hh
theorem aDw{q:AA}(hF:CX q)(hR:Ad q)(hS:Bh q){b:List X2}(hB:BR b){d:Nat}{dd:X7}(hd:q.decls[d]? =some dd)(args:List X0)(hl:args.length=dd.types.length):
 ∃l1 l2,Xx q (X3.mk dd.name args)=some l1/\Y3 l1 b=some l2/\Zw l2=some ((mkM q b d args:Nat):Int):=by
 have hsy:=hF.symbols
 have hbl:=aHt hB
 have hlen:((List.range q.symbols.length).filterMap fun i=>DV q i (X3.mk dd.name args)).length<=1000:=by have h2:=List.length_filterMap_le (fun i=>DV q i (X3.mk dd.name args)) (List.range q.symbols.length);rw[List.length_range]at h2;omega
 have hbind:∀h∈(List.range q.symbols.length).filterMap (fun i=>DV q i (X3.mk dd.name args)),h.bind.length<=9223372036854775807:=fun h hh=>by obtain⟨i,hi,hh2⟩:=List.mem_filterMap.1 hh;have:=aB7 hF hR hh2;omega
 exact⟨_,_,XZ hF hR,aFa hlen hbind (by omega),aG3 hF hR hS b hd rfl hl⟩
theorem Eg{σ τ:Type}{step:σ->Option (σ⊕τ)}{I:σ->Prop}(hI:∀s s',I s->step s=some (.inl s')->I s'){s:σ}{t:τ}(h0:I s)(h:AU step s=some t):∃s',I s'/\step s'=some (.inr t):=by
 obtain⟨n,hn⟩:=Dj.1 h;clear h;induction n generalizing s with
 |zero=>simp[itE]at hn
 |succ n ih=>
  simp only[itE]at hn
  split at hn
  cases hn
  rename_i s' hs;exact ih (hI s s' h0 hs) hn
  rename_i t' hs;cases hn;exact⟨s,h0,hs⟩
theorem aKf{l:List X7}{i:Nat}{x:X7}(hx:l[i]? =some x)(hl:x.types.length<=8)(h:XL l (i:Int) 0=some (.inl ())):∀t∈x.types,1<=t/\t<=3:=by
 have hstep:∀n:Nat,Da l (i:Int) (n:Int)=match x.types[n]? with
  |some t=>if t<1\/3<t then some (.inr (.inr ()))else some (.inl ((n+1:Nat):Int))
  |none=>some (.inr (.inl ())):=fun n=>by
  unfold Da
  rw[AK hx]
  cases ht:x.types[n]? with
  |none=>
   have:=List.getElem?_eq_none_iff.1 ht
   rw[decide_eq_false (by omega),AF]
  |some t=>
   simp only[ltD ht,AH,AK hx,AK ht,Ag ht (show x.types.length<=9223372036854775807 by omega),Cr]
   by_cases h1:t<1
   simp[h1]
   by_cases h2:3<t
   simp[h1,h2]
   simp[h1,h2]
 obtain⟨s',⟨n,rfl,hn⟩,hs⟩:=Eg (step:=fun s=>Da l (i:Int) s) (I:=fun s=>∃n:Nat,s=(n:Int)/\∀j t,j<n->x.types[j]? =some t->1<=t/\t<=3)
  (by
   rintro s s' ⟨n,rfl,hn⟩ hs;rw[hstep]at hs;cases ht:x.types[n]? with
   |none=>rw[ht]at hs;cases hs
   |some t=>
    rw[ht]at hs
    simp only at hs
    split at hs
    cases hs
    rename_i hc
    cases hs
    refine⟨n+1,rfl,fun j u hj hu=>?_⟩
    by_cases hjn:j=n
    subst hjn;rw[ht]at hu;cases hu;omega
    exact hn j u (by omega) hu) ⟨0,rfl,fun j t hj=>by omega⟩ h
 rw[hstep]at hs;intro t ht;obtain⟨j,hj⟩:=List.mem_iff_getElem?.1 ht;refine hn j t ?_ hj;cases hx2:x.types[n]? with
 |none=>
  have h1:=List.getElem?_eq_none_iff.1 hx2
  have h2:=(List.getElem?_eq_some_iff.1 hj).1
  omega
 |some u=>
  rw[hx2]at hs
  simp only at hs
  split at hs<;>cases hs
theorem aKe{l:List X7}(hl:l.length<=1000){o:Unit⊕(Int×Int)}(h:XJ l 0=some o)(ho:∀r,o=.inr r->r.1=0):∀d∈l,∀t∈d.types,1<=t/\t<=3:=by
 have fwd:∀(n:Nat) (y:Int⊕(Unit⊕(Int×Int))),DZ l (n:Int)=some y->(y=.inr (.inl ())/\l.length<=n)\/(y=.inl ((n+1:Nat):Int)/\∀d,l[n]? =some d->∀t∈d.types,1<=t/\t<=3)\/∃r,y=.inr (.inr r)/\r.1≠0:=by
  intro n y hy;unfold DZ at hy;rcases iS hy with⟨h1,hy⟩|⟨h1,hy⟩
  have hlt:n<l.length:=by have:=of_decide_eq_true h1;omega
  obtain⟨x,hx,_⟩:=AP hlt;rw[AK hx]at hy;obtain⟨r2,_,hy⟩:=bS hy;rcases iS hy with⟨_,hy⟩|⟨_,hy⟩
  cases hy;exact .inr (.inr ⟨_,rfl,by simp⟩);rw[AK hx]at hy;obtain⟨r4,_,hy⟩:=bS hy;rcases iS hy with⟨_,hy⟩|⟨_,hy⟩
  cases hy;exact .inr (.inr ⟨_,rfl,by simp⟩);rw[AK hx]at hy;rcases iS hy with⟨_,hy⟩|⟨h8,hy⟩
  cases hy;exact .inr (.inr ⟨_,rfl,by simp⟩);have h8:=of_decide_eq_false h8;obtain⟨o11,h2,hy⟩:=bS hy;cases o11 with
  |inl u=>
   cases hy
   refine .inr (.inl ⟨by rw[J1 (by omega)],fun d hd=>?_⟩)
   rw[hx]at hd;cases hd
   exact aKf hx (by omega) h2
  |inr u=>cases hy;exact .inr (.inr ⟨_,rfl,by simp⟩)
  cases hy;have:=of_decide_eq_false h1;exact .inl ⟨rfl,by omega⟩
 obtain⟨s',⟨n,rfl,hn⟩,hs⟩:=Eg (step:=fun s=>DZ l s) (I:=fun s=>∃n:Nat,s=(n:Int)/\∀j d,j<n->l[j]? =some d->∀t∈d.types,1<=t/\t<=3)
  (by
   rintro s s' ⟨n,rfl,hn⟩ hs;rcases fwd n _ hs with⟨h1,_⟩|⟨h1,h2⟩|⟨r,h1,_⟩
   cases h1;cases h1;refine⟨n+1,rfl,fun j d hj hd=>?_⟩;by_cases hjn:j=n;subst hjn;exact h2 d hd;exact hn j d (by omega) hd;cases h1) ⟨0,rfl,fun j d hj=>by omega⟩ h
 rcases fwd n _ hs with⟨h1,h2⟩|⟨h1,h2⟩|⟨r,h1,h2⟩
 intro d hd;obtain⟨j,hj⟩:=List.mem_iff_getElem?.1 hd;exact hn j d (by have:=(List.getElem?_eq_some_iff.1 hj).1;omega) hj;cases h1;cases h1;exact absurd (ho r rfl) h2
theorem LD{q:AA}(hF:CX q)(h:Yn q=some true):∀d∈q.decls,∀t∈d.types,(1:Int)<=t/\t<=3:=by
 unfold Yn at h;obtain⟨r1,h1,h⟩:=bS h;rcases iS h with⟨_,h⟩|⟨h2,h⟩
 cases h;have hr:r1.1=0:=by simpa using h2
 unfold Xr at h1;rcases iS h1 with⟨_,h1⟩|⟨_,h1⟩
 cases h1;simp at hr;obtain⟨o14,h3,h1⟩:=bS h1;have hd:=hF.decls;refine aKe (by omega) h3 fun r hr2=>?_;subst hr2;cases h1;exact hr
theorem NN{a:List X0}{t:List Int}(h:G4 a t=true):a.length=t.length/\∀(j:Nat) v u,a[j]? =some v->t[j]? =some u->v.kind=u/\vR v=true:=by unfold G4 at h;simp only[ba,decide_eq_true_eq,List.all_eq_true]at h;exact⟨h.1,fun j v u hv hu=>h.2 (v,u) (List.mem_of_getElem? (i:=j) (List.getElem?_zip_eq_some.2 ⟨hv,hu⟩))⟩
theorem UY{l:List X7}{e:X3}(h:eR l e=true):∃(d:Nat) (dd:X7),l[d]? =some dd/\dd.name=e.name/\G4 e.args dd.types=true:=by unfold eR at h;split at h;cases h;rename_i i hi;split at h;cases h;rename_i d hd;refine⟨i,d,hd,?_,h⟩;unfold EA at hi;split at hi;rename_i hany;cases hi;have h1:=List.findIdx_lt_length_of_exists (List.any_eq_true.1 hany);have h2:=List.findIdx_getElem (w:=h1);have h3:=(List.getElem?_eq_some_iff.1 hd).2;rw[h3]at h2;simpa using h2;cases hi
theorem V0{q:AA}(hf:q.frees.length<=1000):Z9 q=some [X4.mk q.start (q.frees.map (·.init_))]:=by
 obtain⟨o,ho,h1⟩:=Am (step:=fun s:Int×List X0=>Gy q q.start s.1 s.2)
  (fun s=>∃i:Nat,s.1=(i:Int)/\i<=q.frees.length/\s.2=(q.frees.take i).map (·.init_)) (fun s=>(q.frees.length-s.1).toNat) (fun o=>o=q.frees.map (·.init_))
  (by
   rintro⟨n,w⟩ ⟨i,rfl,hi,ha⟩;simp only at ha;subst ha;by_cases he:i=q.frees.length;subst he;exact .inl ⟨q.frees.map (·.init_),by simp only[Gy,ltI,AF,List.take_length],rfl⟩
   obtain⟨c,hc,_⟩:=AP (l:=q.frees) (i:=i) (by omega);refine .inr ⟨((i+1:Nat),(q.frees.take i).map (·.init_)++[c.init_]),?_,⟨i+1,rfl,by omega,?_⟩,by simp only;omega⟩
   simp only[Gy,ltD hc,AH,AK hc,Ag hc (show q.frees.length<=9223372036854775807 by omega)];rw[DO (by simp;omega) (by decide)];simp only;rw[List.take_add_one,hc];simp)
  ((0:Int),[]) ⟨0,rfl,by omega,by simp⟩
 subst h1;have ho':aF7 q q.start 0 []=some (q.frees.map (·.init_)):=ho
 unfold Z9;rw[ho',AD]
section
variable {K V:Type} [DecidableEq K]
theorem Jf(z:V)(c:Nat)(k:K)(v:V)(k':K):∀l:List (Nat×K×V),K6 z k' (O5 c k v l).2=if k=k' then(v,true)else K6 z k' l
 |[]=>by
  simp only[O5,K6]
 |x::xs=>by
  rw[O5];split;rename_i h;by_cases e:k=k';rw[if_pos e,K6,if_pos (h.trans e)];rw[if_neg e,K6,K6,if_neg (by rw[h];exact e),if_neg (by rw[h];exact e)];rename_i h;by_cases e:k=k';rw[if_pos e,K6,if_neg (by rw[<-e];exact h),Jf z c k v k' xs,if_pos e];rw[if_neg e,K6,K6,Jf z c k v k' xs,if_neg e]
theorem D7(z:V)(m:MP K V)(k:K)(v:V)(k':K):BC z (Cs m k v) k'=if k=k' then(v,true)else BC z m k':=Jf z _ _ _ _ _
theorem Nm(z:V)(k:K):BC z (Ek:MP K V) k=(z,false):=rfl
end
theorem aCl{q:AA}(hR:Ad q)(S M:Nat):H6 q S M<2^q.states.length:=by apply Nat.lt_pow_two_of_testBit;intro k hk;rw[<-Bool.not_eq_true,Km];rintro⟨s,hs,_,hf⟩;unfold Vm at hf;split at hf;rw[Nat.testBit_two_pow]at hf;have:=of_decide_eq_true hf;omega;obtain⟨t,ht,_,he⟩:=(Hm q M s k).1 hf;have:=(hR.ends t ht).2.2;omega
def PI(S:Nat)(i:Nat)(st:Xd):Option (Unit⊕Unit):=if st.accept=true/\S.testBit i=true then some (.inr ())else none
def PH(q:AA)(S:Nat):Bool:=match Il (DC (PI S)) (fun _=>.inl ()) 0 q.states ()with
 | .inl _=>false
 | .inr _=>true
theorem OJ{q:AA}(hF:CX q){S:Nat}(hS:S<4294967296):Zz q (S:Int)=some (PH q S):=by
 have h8:=hF.states;have h:aJ8 (S:Int) q 0=_:=Ck (step:=fun s=>JP (S:Int) q s) q.states (PI S) (.inl ())
  (fun i st hi=>by
   have hil:=At hi;have h1:=A4 (n:=i) (by omega);simp only[JP,ltD hi,AH,AK hi,Ag hi (show q.states.length<=9223372036854775807 by omega),h1,MZ (k:=.u32) (n:=S) (s:=i) (show i<32 by omega),aO4,L2,PI];rw[An (by omega)];cases hb:S.testBit i with
   |false=>simp[AE]
   |true=>
    simp only[if_true]
    rw[show decide (((1:Nat):Int)=1)=true from rfl,AH]
    cases st.accept<;>simp[AE])
  (by simp only[JP,ltI,AF])
 unfold Zz PH;rw[h,AD];cases Il (DC (PI S)) (fun _=>.inl ()) 0 q.states ()<;>rfl
def K4(q:AA)(x:Int):Bool:=PH q x.toNat
def nx(q:AA)(x m:Int):Int:=((H6 q x.toNat m.toNat:Nat):Int)
def SL(v:X0):Prop:=v.str.length<=4096
theorem aO5{v:X0}(h:vR v=true):SL v:=by
 rcases Eq h with⟨_,h,_⟩|⟨_,_,_,h⟩|⟨_,_,h⟩
 unfold SL;rw[h];exact Nat.zero_le _;exact h;unfold SL;rw[h];exact Nat.zero_le _
structure HR(q:AA)(h:AL):Prop where
 bind:h.bind.length<=1000
 bs:∀s∈h.bind,SL s.value
 fl:h.frees.length<=1000
 fs:∀s∈h.frees,(0<=s.var/\s.var<q.frees.length)/\SL s.value
theorem KX:∀(al:List BQ) (xs:List X0) (b f:List X2) (p:List X2×List X2),D0 al xs b f=some p->∀s∈p.2,s∈f\/(s.value∈xs/\∃a∈al,a.kind=3/\s.var=a.n)
 |[],xs,b,f,p,h=>by simp only[D0]at h;cases h;exact fun s hs=>.inl hs
 |a::al,[],b,f,p,h=>by simp only[D0]at h;cases h;exact fun s hs=>.inl hs
 |a::al,x::xs,b,f,p,h=>by
  simp only[D0]at h;have go:∀b f,D0 al xs b f=some p->∀s∈p.2,s∈f\/(s.value∈x::xs/\∃a'∈a::al,a'.kind=3/\s.var=a'.n):=fun b f h s hs=>(KX al xs b f p h s hs).imp id fun⟨h1,a',h2,h3⟩=>⟨List.mem_cons_of_mem _ h1,a',List.mem_cons_of_mem _ h2,h3⟩;split at h;split at h;exact go b f h;cases h;split at h;split at h;cases h;exact go _ f h;split at h;rename_i h3;split at h;cases h;rename_i f' hp;intro s hs;rcases go b f' h s hs with g|g
  rcases N1 hp g with rfl|g
  exact .inr ⟨by simp,a,by simp,h3,rfl⟩;exact .inl g;exact .inr g;exact go b f h
theorem aGz{q:AA}(hF:CX q)(hR:Ad q){e:X3}(hE:eR q.decls e=true){i:Nat}{h:AL}(hi:i<q.symbols.length)(hh:DV q i e=some h):HR q h:=by
 have hmem:h∈EB q e:=by unfold EB;rw[hE,if_pos rfl];exact List.mem_filterMap.2 ⟨i,List.mem_range.2 hi,hh⟩
 obtain⟨_,_,h1,h2,_⟩:=Uj hF hR hmem;obtain⟨d,dd,_,_,ha⟩:=UY hE;have hv:∀v∈e.args,SL v:=fun v hv=>by obtain⟨j,hj⟩:=List.mem_iff_getElem?.1 hv;obtain⟨g1,g2⟩:=NN ha;obtain⟨u,hu,_⟩:=AP (l:=dd.types) (i:=j) (by rw[<-g1];exact At hj);exact aO5 (g2 j v u hj hu).2
 refine⟨by omega,fun s hs=>hv _ ((Id hh).2 s hs),by omega,fun s hs=>?_⟩;unfold DV at hh;split at hh;cases hh;rename_i sy hsy;split at hh;cases hh;split at hh;rw[om]at hh;obtain⟨p,hp,rfl⟩:=hh;rcases KX _ _ _ _ _ hp s hs with g|⟨g,a,ha,h3,hn⟩
 simp at g;have:=((hR.symbols sy (List.mem_of_getElem? hsy)).args a ha).three h3;exact⟨by omega,hv _ g⟩;cases hh
def MB(q:AA)(b:List X2)(e:X3):List AL:=((List.range q.symbols.length).filterMap fun i=>DV q i e).filter fun h=>BI h.bind b
theorem Pg{q:AA}(hF:CX q)(hR:Ad q){b:List X2}(hb:b.length<=1000){e:X3}(hE:eR q.decls e=true):∃l1,Xx q e=some l1/\Y3 l1 b=some (MB q b e)/\(∀h∈MB q b e,HR q h)/\(MB q b e).length<=12:=by
 have hsy:=hF.symbols;have hlen:((List.range q.symbols.length).filterMap fun i=>DV q i e).length<=q.symbols.length:=by have h2:=List.length_filterMap_le (fun i=>DV q i e) (List.range q.symbols.length);rw[List.length_range]at h2;exact h2
 have hHR:∀h∈(List.range q.symbols.length).filterMap (fun i=>DV q i e),HR q h:=fun h hh=>by obtain⟨i,hi,hh⟩:=List.mem_filterMap.1 hh;exact aGz hF hR hE (List.mem_range.1 hi) hh
 refine⟨_,XZ hF hR,aFa (by omega) (fun h hh=>by have:=(hHR h hh).bind;omega) (by omega),fun h hh=>hHR h (List.mem_filter.1 hh).1,?_⟩;have:=List.length_filter_le (fun h:AL=>BI h.bind b) ((List.range q.symbols.length).filterMap fun i=>DV q i e);unfold MB;omega
def aBf(q:AA)(c:X4):Bool:=match q.states[c.state.toNat]? with
 |some st=>st.accept
 |none=>false
theorem J7{q:AA}{set:List X4}(hs:∀c∈set,0<=c.state/\c.state<q.states.length)(hsl:set.length<=1000):Za q set=some (set.any (aBf q)):=by
 have h:aF8 set q 0=some (if set.any (aBf q)=true then .inr ()else .inl ()):=by
  have:=Bt (step:=fun s=>Gz set q s) set (fun c=> !aBf q c) (.inl ():Unit⊕Unit) (.inr ())
   (fun i c hc=>by obtain⟨h0,h1⟩:=hs c (List.mem_of_getElem? hc);obtain⟨st,hst,_⟩:=O0 h0 h1;simp only[Gz,ltD hc,AH,AK hc,CN hst h0,Ag hc (show set.length<=9223372036854775807 by omega),aBf,hst];cases st.accept<;>simp[AE])
   (by simp only[Gz,ltI,AF])
  refine this.trans ?_;rw[List.all_eq_not_any_not];simp only[Bool.not_not];cases set.any (aBf q)<;>rfl
 unfold Za;rw[h,AD];cases set.any (aBf q)<;>rfl
theorem N7{α:Type}(g:Nat->α->Option (Unit⊕Unit))(hg:∀i x y,g i x=some y->y=.inr ()):∀(l:List α) (i:Nat),(Il (DC g) (fun _=>(.inl ():Unit⊕Unit)) i l ()=.inr ())↔ ∃j x,l[j]? =some x/\g (i+j) x=some (.inr ())
 |[],i=>by simp[Il]
 |x::l,i=>by
  rw[Il];cases h:g i x with
  |none=>
   have e:DC g i () x=.inl ():=by simp[DC,h]
   rw[e]
   simp only
   rw[N7 g hg l (i+1)]
   constructor
   rintro⟨j,y,h1,h2⟩
   exact⟨j+1,y,by simpa using h1,by rw[<-h2];congr 1;omega⟩
   rintro⟨j,y,h1,h2⟩
   cases j with
   |zero=>simp at h1;subst h1;rw[Nat.add_zero,h]at h2;cases h2
   |succ j=>exact⟨j,y,by simpa using h1,by rw[<-h2];congr 1;omega⟩
  |some y=>
   have hy:=hg i x y h
   subst hy
   have e:DC g i () x=.inr (.inr ()):=by simp[DC,h]
   rw[e]
   exact⟨fun _=>⟨0,x,rfl,by simpa using h⟩,fun _=>rfl⟩
theorem aBe(q:AA)(S:Nat):PH q S=true↔ ∃(i:Nat) (st:Xd),q.states[i]? =some st/\st.accept=true/\S.testBit i=true:=by
 have h:=N7 (PI S) (fun i x y hy=>by unfold PI at hy;split at hy<;>cases hy;rfl) q.states 0;have h2:PH q S=true↔Il (DC (PI S)) (fun _=>(.inl ():Unit⊕Unit)) 0 q.states ()=.inr ():=by unfold PH;split;rename_i e;rw[e];simp;rename_i e;rw[e];simp
 rw[h2,h];constructor;rintro⟨j,x,h1,h2⟩;rw[Nat.zero_add]at h2;unfold PI at h2;split at h2;rename_i hc;exact⟨j,x,h1,hc⟩;cases h2;rintro⟨i,st,h1,h2⟩;exact⟨i,st,h1,by rw[Nat.zero_add];unfold PI;rw[if_pos h2]⟩
def okA(dd:X7)(args:List X0):Prop:=args.length=dd.types.length/\∀(j:Nat) v t,args[j]? =some v->dd.types[j]? =some t->v.kind=t/\vR v=true
theorem VH{dd:X7}{args:List X0}(h:okA dd args):G4 args dd.types=true:=by unfold G4;rw[ba];refine⟨decide_eq_true h.1,List.all_eq_true.2 fun z hz=>?_⟩;obtain⟨j,hj⟩:=List.mem_iff_getElem?.1 hz;rw[List.getElem?_zip_eq_some]at hj;obtain⟨a,b⟩:=h.2 j z.1 z.2 hj.1 hj.2;rw[decide_eq_true a,b];rfl
theorem UD{dd:X7}{args:List X0}(h:G4 args dd.types=true):okA dd args:=NN h
theorem aGx{q:AA}(hR:Ad q){d:Nat}{dd:X7}(hd:q.decls[d]? =some dd){args:List X0}(h:okA dd args):eR q.decls (X3.mk dd.name args)=true:=by unfold eR;rw[hR.decls d dd hd];simp only[hd];exact VH h
theorem Vu{q:AA}(hF:CX q)(hR:Ad q)(hS:Bh q){d:Nat}{dd:X7}(hd:q.decls[d]? =some dd){args:List X0}(ha:okA dd args)(h12:args.length<=12):
 Yx q [] (X3.mk dd.name args)=some ((mkM q [] d args:Nat):Int)/\U9 q [] (X3.mk dd.name args)=some ((mkM q [] d args:Nat):Int):=by
 have hsy:=hF.symbols
 have hd12:=hF.decls
 have hB:BR []:=⟨List.Pairwise.nil,by simp⟩
 have hE:=aGx hR hd ha
 obtain⟨l1,l2,m1,m2,m3⟩:=aDw hF hR hS hB hd args ha.1
 have hOf:∀(l:List AL) (n:Nat),(Qb (EB q (X3.mk dd.name args)) []=some l)->PX q.symbols.length l->Zw l=some (n:Int)->Yx q [] (X3.mk dd.name args)=some (n:Int):=fun l n h1 h2 h3=>by
  obtain⟨M,hM,hM64,hMb⟩:=LA hsy h2;rw[h3]at hM;have hnM:n=M:=by have:=Option.some.inj hM;omega
  subst hnM;have hln:=h2.len;obtain⟨o,ho,V,rfl,hQ⟩:=Am (step:=fun s:Int×Int=>Gq l (l.length:Int) s.1 s.2)
   (fun s=>∃(j v:Nat),s=((v:Int),(j:Int))/\j<=l.length/\v<4096/\∀k:Nat,v.testBit k=true↔ ∃x∈l.take j,x.symbol=(k:Int))
   (fun s=>(l.length-s.2).toNat)
   (fun o=>∃V:Nat,o=(V:Int)/\∀k:Nat,V.testBit k=true↔ ∃x∈l,x.symbol=(k:Int))
   (by
    rintro s ⟨j,v,rfl,hj,hv,hm⟩;by_cases he:j=l.length;subst he;exact .inl ⟨(v:Int),by simp only[Gq,ltI,AF],v,rfl,fun k=>by rw[hm k,List.take_length]⟩;right;obtain⟨y,hy,_⟩:=AP (l:=l) (i:=j) (by omega);have hsy2:=h2.sym y (List.mem_of_getElem? hy);obtain⟨z,hz⟩:∃z:Nat,y.symbol=(z:Int):=⟨y.symbol.toNat,by omega⟩;have hz12:z<12:=by omega
    have hwz2:IntKind.wrap .u64 (z:Int)=(z:Int):=A4 (by omega);have hp:2^z<2^12:=Nat.pow_lt_pow_right (by decide) hz12;have htake:l.take (j+1)=l.take j++[y]:=by rw[List.take_add_one,hy];rfl
    refine⟨(((v|||2^z:Nat):Int),((j+1:Nat):Int)),?_,⟨j+1,v|||2^z,rfl,by omega,Nat.or_lt_two_pow (n:=12) hv hp,fun k=>?_⟩,by simp only;omega⟩;simp only[Gq,ltD hy,AH,AK hy,hz,hwz2,An (show(0:Int)<=(z:Int) by omega),Ag hy (show l.length<=9223372036854775807 by omega)];rw[aHe (by omega),orU (by omega) (by omega)];rw[Nat.testBit_or,Nat.testBit_two_pow,Bool.or_eq_true,decide_eq_true_eq,hm k,htake];constructor;rintro(⟨x,hx,a⟩|h);exact⟨x,ml _ hx,a⟩;exact⟨y,by simp,by rw[hz,h]⟩;rintro⟨x,hx,a⟩;rcases ma.1 hx with g|g
    exact .inl ⟨x,g,a⟩;rw[List.mem_singleton.1 g]at a;exact .inr (by omega))
    ((0:Int),(0:Int)) ⟨0,0,rfl,by omega,by decide,fun k=>by simp⟩
  have hVM:V=n:=Jc fun k=>by rw[hQ k,hMb k]
  unfold Yx aFx;rw[aLn hF hR h12,AD,h1,AD,ho,AD,hVM]
 have hh:EB q (X3.mk dd.name args)=(List.range q.symbols.length).filterMap fun i=>DV q i (X3.mk dd.name args):=by unfold EB;rw[hE,if_pos rfl]
 have hl1:l1=EB q (X3.mk dd.name args):=by rw[XZ hF hR]at m1;rw[hh];exact(Option.some.inj m1).symm
 have hlen1:(EB q (X3.mk dd.name args)).length<=1000:=by rw[hh];have h2:=List.length_filterMap_le (fun i=>DV q i (X3.mk dd.name args)) (List.range q.symbols.length);rw[List.length_range]at h2;omega
 have hbind:∀h∈EB q (X3.mk dd.name args),h.bind.length<=9223372036854775807:=fun h hm=>by have:=(Uj hF hR hm).2.2.1;omega
 refine⟨?_,?_⟩
 have hU:=aLd hlen1 hbind (b:=[]) (by simp)
 rw[hl1]at m2
 have hl2:l2=(EB q (X3.mk dd.name args)).filter fun h=>BI h.bind []:=by rw[aFa hlen1 hbind (by simp)]at m2;exact(Option.some.inj m2).symm
 refine hOf l2 _ (by rw[hU,hl2]) ?_ m3
 rw[hl2,hh]
 exact FH hF hR hS _ []
 unfold U9
 rw[aFr _ _ (by omega) (by show args.length<=_;omega),AD,hE,Bool.not_true,AF,m1,AD,m2,AD,m3,AD]
theorem aCi{q:AA}{d:Nat}{xs ys:List X0}(hl:xs.length=ys.length)
 (h:∀s∈q.symbols,s.event=(d:Int)->∀(j:Nat) a v v',s.args[j]? =some a->xs[j]? =some v->ys[j]? =some v'->Fs [] a v=Fs [] a v'):mkM q [] d xs=mkM q [] d ys:=by
 unfold mkM
 congr 1
 funext i
 unfold aB2
 cases hs:q.symbols[i]? with
 |none=>rfl
 |some s=>
  simp only
  by_cases he:s.event=(d:Int)
  rw[decide_eq_true he,Bool.true_and,Bool.true_and]
  have hsm:=List.mem_of_getElem? hs
  have go:∀(xs ys:List X0),xs.length=ys.length->(∀(j:Nat) a v v',s.args[j]? =some a->xs[j]? =some v->ys[j]? =some v'->Fs [] a v=Fs [] a v')->(∀z∈s.args.zip xs,Fs [] z.1 z.2=true)->∀z∈s.args.zip ys,Fs [] z.1 z.2=true:=fun xs ys hxy hj h z hz=>by obtain⟨j,hzj⟩:=List.mem_iff_getElem?.1 hz;rw[List.getElem?_zip_eq_some]at hzj;obtain⟨h1,h2⟩:=hzj;obtain⟨x,hx,_⟩:=AP (l:=xs) (i:=j) (by have:=At h2;omega);have:=h (z.1,x) (List.mem_of_getElem? (i:=j) (List.getElem?_zip_eq_some.2 ⟨h1,hx⟩));rw[<-hj j z.1 x z.2 h1 hx h2];exact this
  rw[Bool.eq_iff_iff,List.all_eq_true,List.all_eq_true]
  exact⟨go xs ys hl fun j a v v'=>h s hsm he j a v v',go ys xs hl.symm fun j a v v' ha hv hv'=>(h s hsm he j a v' v ha hv' hv).symm⟩
  rw[decide_eq_false he,Bool.false_and,Bool.false_and]
structure EqP(p q:AA):Prop where
 fp:CX p
 rp:Ad p
 sp:Bh p
 tp:Yn p=some true
 fq:CX q
 rq:Ad q
 sq:Bh q
 tq:Yn q=some true
 qp:p.quants=[]
 qq:q.quants=[]
 de:q.decls=p.decls
 d3:∀d∈p.decls,d.types.length<=3
 ty:∀d∈p.decls,∀t∈d.types,(1:Int)<=t/\t<=3
def PT(q:AA)(d k:Nat)(v:X0):Prop:=∃s∈q.symbols,s.event=(d:Int)/\∃a,s.args[k]? =some a/\a.kind=1/\a.value=v
theorem Na{a:BQ}{v v':X0}(h:a.kind=1->(a.value=v↔a.value=v'))(h2:a.kind≠2):Fs [] a v=Fs [] a v':=by unfold Fs;by_cases h1:a.kind=1;rw[if_pos h1,if_pos h1];have:=h h1;by_cases hv:a.value=v;rw[decide_eq_true hv,decide_eq_true (this.1 hv)];rw[decide_eq_false hv,decide_eq_false fun e=>hv (this.2 e)];rw[if_neg h1,if_neg h1,if_neg h2,if_neg h2]
theorem aD6{q:AA}(hR:Ad q)(hq:q.quants=[]){s:X8}(hs:s∈q.symbols){a:BQ}(ha:a∈s.args):a.kind≠2:=fun h=>by have:=((hR.symbols s hs).args a ha).two h;rw[hq]at this;simp at this;omega
structure PlV(p q:AA)(d k:Nat)(t:Int)(l:List X0):Prop where
 len:l.length<=401
 right:∀v∈l,v.kind=t/\vR v=true
 whole:∀v,v.kind=t->vR v=true->∃v'∈l,(∀s∈p.symbols,s.event=(d:Int)->∀a,s.args[k]? =some a->Fs [] a v'=Fs [] a v)/\∀s∈q.symbols,s.event=(d:Int)->∀a,s.args[k]? =some a->Fs [] a v'=Fs [] a v
theorem Nz{p q:AA}(E:EqP p q){d k:Nat}{t:Int}{l:List X0}(hl:l.length<=401)(hr:∀v∈l,v.kind=t/\vR v=true)
 (hw:∀v,v.kind=t->vR v=true->v∈l\/(¬PT p d k v/\¬PT q d k v/\∃w∈l,¬PT p d k w/\¬PT q d k w)):PlV p q d k t l:=by
 refine⟨hl,hr,fun v h1 h2=>?_⟩
 rcases hw v h1 h2 with h|⟨c1,c2,w,hwl,c3,c4⟩
 exact⟨v,h,fun _ _ _ _ _=>rfl,fun _ _ _ _ _=>rfl⟩
 refine⟨w,hwl,fun s hs he a ha=>Na (fun hk=>⟨fun e=>absurd ⟨s,hs,he,a,ha,hk,e⟩ c3,fun e=>absurd ⟨s,hs,he,a,ha,hk,e⟩ c1⟩) (aD6 E.rp E.qp hs (List.mem_of_getElem? ha)),fun s hs he a ha=>Na (fun hk=>⟨fun e=>absurd ⟨s,hs,he,a,ha,hk,e⟩ c4,fun e=>absurd ⟨s,hs,he,a,ha,hk,e⟩ c2⟩) (aD6 E.rq E.qq hs (List.mem_of_getElem? ha))⟩
theorem E7{q:AA}(hR:Ad q){d k:Nat}{dd:X7}{t:Int}(hd:q.decls[d]? =some dd)(ht:dd.types[k]? =some t){v:X0}(h:PT q d k v):v.kind=t/\vR v=true:=by
 obtain⟨s,hs,he,a,ha,hk,rfl⟩:=h;have hO:=hR.symbols s hs;have hd':q.decls[s.event.toNat]? =some dd:=by rw[he];exact hd
 exact⟨hO.kinds dd hd' k a t ha ht hk,(hO.args a (List.mem_of_getElem? ha)).one hk⟩
def Dp(d:Int)(k:Nat)(w:List X0)(s:X8):List X0:=if s.event=d then(match s.args[k]? with
 |some a=>if a.kind=1/\a.value∉w then w++[a.value]else w
 |none=>w)else w
theorem Fv(d:Int)(k:Nat):∀(l:List X8) (w:List X0),(l.foldl (Dp d k) w).length<=w.length+l.length
 |[],w=>by simp
 |s::l,w=>by
  rw[List.foldl_cons,List.length_cons];have h1:(Dp d k w s).length<=w.length+1:=by unfold Dp;split;split;split;simp;omega;omega;omega
  have:=Fv d k l (Dp d k w s);omega
theorem J5(d:Int)(k:Nat)(v:X0):∀(l:List X8) (w:List X0),v∈l.foldl (Dp d k) w↔v∈w\/∃s∈l,s.event=d/\∃a,s.args[k]? =some a/\a.kind=1/\a.value=v
 |[],w=>by simp
 |s::l,w=>by
  rw[List.foldl_cons,J5 d k v l];have h1:v∈Dp d k w s↔v∈w\/(s.event=d/\∃a,s.args[k]? =some a/\a.kind=1/\a.value=v):=by
   unfold Dp;by_cases he:s.event=d;rw[if_pos he];cases ha:s.args[k]? with
   |none=>simp
   |some a=>
    simp only
    by_cases hk:a.kind=1
    by_cases hm:a.value∈w
    rw[if_neg fun h=>h.2 hm]
    constructor
    exact .inl
    rintro(h|⟨_,a',e,_,rfl⟩)
    exact h
    cases e;exact hm
    rw[if_pos ⟨hk,hm⟩,ma,List.mem_singleton]
    constructor
    rintro(h|rfl)
    exact .inl h
    exact .inr ⟨he,a,rfl,hk,rfl⟩
    rintro(h|⟨_,a',e,_,rfl⟩)
    exact .inl h
    cases e;exact .inr rfl
    rw[if_neg fun h=>hk h.1]
    constructor
    exact .inl
    rintro(h|⟨_,a',e,h',_⟩)
    exact h
    cases e;exact absurd h' hk
   rw[if_neg he];constructor;exact .inl;rintro(h|⟨h,_⟩);exact h;exact absurd h he
  rw[h1];constructor;rintro((h|h)|⟨s',hs',h⟩);exact .inl h;exact .inr ⟨s,.head _,h⟩;exact .inr ⟨s',.tail _ hs',h⟩;rintro(h|⟨s',hs',h⟩);exact .inl (.inl h);rcases mc.1 hs' with rfl|hs'
  exact .inl (.inr h);exact .inr ⟨s',hs',h⟩
theorem Vh{q:AA}(hF:CX q)(hR:Ad q){d k:Nat}{dd:X7}(hd:q.decls[d]? =some dd)(hk:k<dd.types.length)(w0:List X0)(hw:w0.length<=100):
 Rs (d:Int) (k:Int) q.symbols (q.symbols.length:Int) 0 w0=some (q.symbols.foldl (Dp (d:Int) k) w0):=by
 have h12:=hF.symbols
 refine Dk (step:=fun s:Int×List X0=>Ev (d:Int) (k:Int) q.symbols (q.symbols.length:Int) s.1 s.2) q.symbols (Dp (d:Int) k) id (fun i w=>w.length<=100+i) (fun i s w hs hw=>?_) (fun w _=>by simp only[Ev,ltI,AF];rfl) w0 (by omega)
 have hi:=At hs
 have hlen:(Dp (d:Int) k w s).length<=100+(i+1):=by have:=Fv (d:Int) k [s] w;simp only[List.foldl_cons,List.foldl_nil,List.length_cons,List.length_nil]at this;omega
 refine⟨?_,hlen⟩
 simp only[Ev,ltD hs,AH,OR,AK hs,Ag hs (show q.symbols.length<=9223372036854775807 by omega)]
 unfold Dp
 by_cases he:s.event=(d:Int)
 obtain⟨d',hd',hlen'⟩:=(hR.symbols s (List.mem_of_getElem? hs)).decl
 have hdn:s.event.toNat=d:=by omega
 rw[hdn,hd]at hd';cases hd'
 obtain⟨a,ha,_⟩:=AP (l:=s.args) (i:=k) (by omega)
 rw[decide_eq_true he,AH,if_pos he,ha,AK ha]
 by_cases hk1:a.kind=1
 rw[decide_eq_true hk1,AH,AK ha,Fy w a.value (by omega),AD,Hv]
 by_cases hm:a.value∈w
 simp only[hm,decide_true,Bool.not_true,AF,AD]
 rw[if_neg fun h=>h.2 trivial]
 simp only[hm,decide_false,Bool.not_false,AH,AK ha]
 rw[DO (by simp;omega) (by decide),AD,AD,if_pos ⟨hk1,fun h=>h⟩]
 rw[decide_eq_false hk1,AF,Hv,AF,AD,AD]
 simp only
 rw[if_neg fun h=>hk1 h.1]
 rw[decide_eq_false he,AF,if_neg he,Hv,AF,AD,AD]
theorem aHg:∀(l w:List X0),(∀v∈l,vR v=true)->SW w->SW (l.foldl Hb w)/\(l.foldl Hb w).length<=w.length+l.length/\∀v,v∈l.foldl Hb w↔v∈w\/v∈l
 |[],w,_,hw=>⟨hw,by simp,by simp⟩
 |x::l,w,hl,hw=>by
  obtain⟨h1,h2⟩:=KC hw (hl x (.head _));obtain⟨a,b,c⟩:=aHg l (Hb w x) (fun v hv=>hl v (.tail _ hv)) h1;refine⟨a,?_,fun v=>?_⟩;rw[List.foldl_cons,List.length_cons];have:(Hb w x).length<=w.length+1:=by rw[h2];split<;>omega
  omega;rw[List.foldl_cons,c v,Ej,mc];constructor;rintro((h|h)|h);exact .inr (.inl h);exact .inl h;exact .inr (.inr h);rintro(h|h|h);exact .inl (.inr h);exact .inl (.inl h);exact .inr h
theorem aId:SW []:=⟨List.Pairwise.nil,by simp⟩
def C4(t:Int)(U:List X0):List X0:=if t=3 then [X0.mk 3 0 [] false,X0.mk 3 0 [] true]else U
theorem aCs{p q:AA}(E:EqP p q){d k:Nat}{dd:X7}{t:Int}(hd:p.decls[d]? =some dd)(ht:dd.types[k]? =some t):
 ∃U V:List X0,Xs q (d:Int) (k:Int)=some V/\Zj p (d:Int) (k:Int) V=some U/\U.length<=24/\(t=3/\Xv t (C4 t U)=some (zV,false)/\PlV p q d k t (C4 t U)\/
  t≠3/\∃x,Xv t (C4 t U)=some (x,true)/\PlV p q d k t (C4 t U++[x])):=by
 have hkl:=At ht
 have hdq:q.decls[d]? =some dd:=by rw[E.de];exact hd
 have hp12:=E.fp.symbols;have hq12:=E.fq.symbols
 have e1:=Vh E.fq E.rq hdq hkl [] (by simp)
 have l1:=Fv (d:Int) k q.symbols []
 rw[List.length_nil]at l1
 have e2:=Vh E.fp E.rp hd hkl (q.symbols.foldl (Dp (d:Int) k) []) (by omega)
 have l2:=Fv (d:Int) k p.symbols (q.symbols.foldl (Dp (d:Int) k) [])
 have hm:∀v,v∈p.symbols.foldl (Dp (d:Int) k) (q.symbols.foldl (Dp (d:Int) k) [])↔PT q d k v\/PT p d k v:=fun v=>by rw[J5,J5];simp only[List.not_mem_nil,false_or,PT]
 refine⟨_,_,by unfold Xs;rw[e1];rfl,by unfold Zj;rw[e2];rfl,by omega,?_⟩
 generalize p.symbols.foldl (Dp (d:Int) k) (q.symbols.foldl (Dp (d:Int) k) [])=U at hm l2
 have hU:U.length<=24:=by omega
 have h13:=E.ty dd (List.mem_of_getElem? hd) t (List.mem_of_getElem? ht)
 have hUr:∀v∈U,v.kind=t/\vR v=true:=fun v hv=>by
  rcases(hm v).1 hv with h|h
  exact E7 E.rq hdq ht h;exact E7 E.rp hd ht h
 by_cases h3:t=3
 left
 subst h3
 refine⟨rfl,rfl,Nz E (by simp[C4]) (fun v hv=>?_) (fun v hk hv=>.inl ?_)⟩
 simp only[C4,if_true,mc,List.not_mem_nil,or_false]at hv
 rcases hv with rfl|rfl<;>exact⟨rfl,rfl⟩
 simp only[C4,if_true,mc,List.not_mem_nil,or_false]
 exact vR3 hv hk
 right
 obtain⟨s1,s2,s3⟩:=aHg U [] (fun v hv=>(hUr v hv).2) aId
 have s2':(U.foldl Hb []).length<=U.length:=by simpa using s2
 obtain⟨x,hx1,_,hx3,hx4,hx5⟩:=aDc (k:=t) (by omega) (l:=U) (w:=U.foldl Hb []) (by omega) s1 (by omega) (fun v _=>by rw[s3 v];simp)
 have hpl:C4 t U=U:=if_neg h3
 refine⟨h3,x,by rw[hpl];exact hx1,?_⟩
 rw[hpl]
 refine Nz E (by simp;omega) (fun v hv=>?_) (fun v hk hv=>?_)
 rcases ma.1 hv with h|h
 exact hUr v h
 rw[List.mem_singleton.1 h];exact⟨hx4,hx5⟩
 by_cases hvU:v∈U
 exact .inl (ml _ hvU)
 refine .inr ⟨fun h=>hvU ((hm v).2 (.inr h)),fun h=>hvU ((hm v).2 (.inl h)),x,by simp,fun h=>hx3 ((hm x).2 (.inr h)),fun h=>hx3 ((hm x).2 (.inl h))⟩
abbrev BY:=MP X5 X3
abbrev MT:=BY×List X5
def zE:X3:=X3.mk [] []
def sP(p q:AA)(d:Nat)(args:List X0):X5:=⟨((mkM p [] d args:Nat):Int),((mkM q [] d args:Nat):Int)⟩
structure MvI(p q:AA)(t:MT):Prop where
 nd:t.2.Nodup
 key:∀s,(BC zE t.1 s).2=decide (s∈t.2)
 val:∀s∈t.2,∃(d:Nat) (dd:X7) (args:List X0),p.decls[d]? =some dd/\okA dd args/\s=sP p q d args/\(BC zE t.1 s).1=X3.mk dd.name args
def Cov(p q:AA)(d:Nat)(dd:X7)(L:List X5)(args:List X0):Prop:=∀tail,okA dd (args++tail)->sP p q d (args++tail)∈L
theorem Cov.mono{p q:AA}{d:Nat}{dd:X7}{L M:List X5}{args:List X0}(h:Cov p q d dd L args)(hs:∀s∈L,s∈M):Cov p q d dd M args:=fun tail ht=>hs _ (h tail ht)
theorem Nn{q:AA}(hS:Bh q)(d:Nat)(args:List X0):mkM q [] d args<256:=Nat.lt_of_lt_of_le (aBq _ _) (show 2^q.symbols.length<=2^8 from Nat.pow_le_pow_right (by decide) hS.symbols)
theorem MvI.len{p q:AA}(E:EqP p q){t:MT}(h:MvI p q t):t.2.length<=65536:=by
 have hsm:∀s∈t.2,∃a b:Nat,s.p=(a:Int)/\s.q=(b:Int)/\a<256/\b<256:=fun s hs=>by obtain⟨d,dd,args,_,_,rfl,_⟩:=h.val s hs;exact⟨_,_,rfl,rfl,Nn E.sp _ _,Nn E.sq _ _⟩
 have hinj:(t.2.map fun z:X5=>z.p*256+z.q).Nodup:=by unfold List.Nodup;rw[List.pairwise_map];refine List.Pairwise.imp_of_mem (fun{a b} ha hb hab he=>hab ?_) h.nd;obtain⟨n1,n2,e1,e2,l1,l2⟩:=hsm a ha;obtain⟨n3,n4,e3,e4,l3,l4⟩:=hsm b hb;obtain⟨ap,aq⟩:=a;obtain⟨bp,bq⟩:=b;simp only at e1 e2 e3 e4 he;congr 1<;>omega
 have:=hinj.length_le_of_subset (l₂:=(List.range 65536).map (fun n:Nat=>(n:Int))) fun x hx=>by obtain⟨z,hz,rfl⟩:=mm.1 hx;obtain⟨n1,n2,e1,e2,l1,l2⟩:=hsm z hz;exact mm.2 ⟨n1*256+n2,List.mem_range.2 (by omega),by rw[e1,e2];simp⟩
 simpa using this
theorem MvI.init(p q:AA):MvI p q ((Ek:BY),[]):=⟨List.nodup_nil,fun s=>by rw[Nm];simp,fun s hs=>by cases hs⟩
theorem NU{α:Type}(l:List α)(hl:l.length<=1000):FY 40 l=some l:=by unfold FY;have:=DO (a:=0) (b:=l.length) (n:=40) (by omega) (by decide) (some l);exact this
theorem aG2{p q:AA}(E:EqP p q){d:Nat}{dd:X7}(hd:p.decls[d]? =some dd){args:List X0}(ha:okA dd args){t:MT}(hI:MvI p q t):
 ∃t':MT,Zv args dd p q t.1 t.2=some t'/\MvI p q t'/\(∀s∈t.2,s∈t'.2)/\sP p q d args∈t'.2:=by
 have hdq:q.decls[d]? =some dd:=by rw[E.de];exact hd
 have h3:=E.d3 dd (List.mem_of_getElem? hd)
 have hal:args.length<=3:=by rw[ha.1];exact h3
 have o1:=(Vu E.fp E.rp E.sp hd ha (by omega)).1
 have o2:=(Vu E.fq E.rq E.sq hdq ha (by omega)).1
 have hlen:=hI.len E
 have hk:=hI.key (sP p q d args)
 unfold Zv
 rw[show U5 args=some args from NU args (by omega),AD,o1,AD,o2,AD]
 have hk':(BC (X3.mk ([]:List UInt8) ([]:List X0)) t.1 (X5.mk ((mkM p [] d args:Nat):Int) ((mkM q [] d args:Nat):Int))).2=decide (sP p q d args∈t.2):=hk
 rw[hk',aBa]
 by_cases hm:sP p q d args∈t.2
 rw[decide_eq_true hm,Bool.not_true,AF,AD]
 exact⟨t,rfl,hI,fun _ h=>h,hm⟩
 rw[decide_eq_false hm,Bool.not_false,AH,DO (by simp;omega) (by decide),AD]
 refine⟨(Cs t.1 (sP p q d args) (X3.mk dd.name args),t.2++[sP p q d args]),rfl,⟨?_,fun s=>?_,fun s hs=>?_⟩,fun s hs=>ml _ hs,by simp⟩
 refine List.nodup_append.2 ⟨hI.nd,by simp,fun x hx y hy e=>?_⟩
 rw[List.mem_singleton.1 hy]at e
 exact hm (by rw[<-e];exact hx)
 show(BC zE (Cs t.1 _ _) s).2=decide (s∈t.2++[sP p q d args])
 rw[D7]
 by_cases he:sP p q d args=s
 subst he;simp
 rw[if_neg he,hI.key s]
 simp[Ne.symm he]
 show∃d' dd' args',_/\_/\_/\(BC zE (Cs t.1 _ _) s).1=_
 rw[D7]
 rcases ma.1 hs with h|h
 rw[if_neg fun e:sP p q d args=s=>hm (by rw[e];exact h)]
 exact hI.val s h
 rw[List.mem_singleton.1 h,if_pos rfl]
 exact⟨d,dd,args,hd,ha,rfl,rfl⟩
theorem VW{p q:AA}{d:Nat}{dd:X7}{args tail:List X0}{v v':X0}
 (h1:∀s∈p.symbols,s.event=(d:Int)->∀a,s.args[args.length]? =some a->Fs [] a v'=Fs [] a v) (h2:∀s∈q.symbols,s.event=(d:Int)->∀a,s.args[args.length]? =some a->Fs [] a v'=Fs [] a v):
 sP p q d (args++v'::tail)=sP p q d (args++v::tail):=by
 have key:∀(r:AA),(∀s∈r.symbols,s.event=(d:Int)->∀a,s.args[args.length]? =some a->Fs [] a v'=Fs [] a v)->mkM r [] d (args++v'::tail)=mkM r [] d (args++v::tail):=fun r hr=>by
  refine aCi (by simp) fun s hs he j a x y ha hx hy=>?_;by_cases hj:j=args.length;subst hj;rw[List.getElem?_append_right (Nat.le_refl _),Nat.sub_self,List.getElem?_cons_zero,oe]at hx hy;subst hx;subst hy;exact hr s hs he a ha;have:(args++v'::tail)[j]? =(args++v::tail)[j]? :=by
   rcases Nat.lt_or_ge j args.length with h|h
   rw[List.getElem?_append_left h,List.getElem?_append_left h];rw[List.getElem?_append_right h,List.getElem?_append_right h];obtain⟨m,hm⟩:∃m,j-args.length=m+1:=⟨j-args.length-1,by omega⟩;rw[hm,List.getElem?_cons_succ,List.getElem?_cons_succ]
  rw[this,hy,oe]at hx;rw[hx]
 unfold sP
 rw[key p h1,key q h2]
def okP(dd:X7)(args:List X0):Prop:=∀(j:Nat) v t,args[j]? =some v->dd.types[j]? =some t->v.kind=t/\vR v=true
theorem Nu{dd:X7}{args:List X0}(h:okP dd args){v:X0}{t:Int}(ht:dd.types[args.length]? =some t)(hv:v.kind=t/\vR v=true):okP dd (args++[v]):=fun j w u hj hu=>by
 rcases Nat.lt_or_ge j args.length with hlt|hge
 rw[List.getElem?_append_left hlt]at hj;exact h j w u hj hu;have hl:=At hj;rw[List.length_append,List.length_singleton]at hl;have:j=args.length:=by omega
 subst this;rw[List.getElem?_append_right (Nat.le_refl _),Nat.sub_self,List.getElem?_cons_zero,oe]at hj;rw[ht,oe]at hu;subst hj;subst hu;exact hv
theorem Nt{dd:X7}{args tail:List X0}{v v':X0}{t:Int}(ht:dd.types[args.length]? =some t)(h:okA dd (args++v::tail))(hv:v'.kind=t/\vR v'=true):okA dd (args++v'::tail):=by
 refine⟨by have:=h.1;simpa using this,fun j w u hj hu=>?_⟩;by_cases hja:j=args.length;subst hja;rw[List.getElem?_append_right (Nat.le_refl _),Nat.sub_self,List.getElem?_cons_zero,oe]at hj;rw[ht,oe]at hu;subst hj;subst hu;exact hv;refine h.2 j w u ?_ hu;rw[<-hj];rcases Nat.lt_or_ge j args.length with h'|h'
 rw[List.getElem?_append_left h',List.getElem?_append_left h'];rw[List.getElem?_append_right h',List.getElem?_append_right h'];obtain⟨m,hm⟩:∃m,j-args.length=m+1:=⟨j-args.length-1,by omega⟩;rw[hm,List.getElem?_cons_succ,List.getElem?_cons_succ]
theorem aD7{dd:X7}{args tail:List X0}{v:X0}{t:Int}(ht:dd.types[args.length]? =some t)(h:okA dd (args++v::tail)):v.kind=t/\vR v=true:=
 h.2 args.length v t (by rw[List.getElem?_append_right (Nat.le_refl _),Nat.sub_self,List.getElem?_cons_zero]) ht
theorem Cov.step{p q:AA}{d:Nat}{dd:X7}{L:List X5}{args l:List X0}{t:Int}(ht:dd.types[args.length]? =some t)(hV:PlV p q d args.length t l)(h:∀v∈l,Cov p q d dd L (args++[v])):Cov p q d dd L args:=fun tail htl=>by
 cases tail with
 |nil=>
  have:=htl.1
  rw[List.append_nil]at this
  have h2:=At ht
  omega
 |cons v tail=>
  obtain⟨hk,hv⟩:=aD7 ht htl
  obtain⟨v',hv',w1,w2⟩:=hV.whole v hk hv
  have hr:=hV.right v' hv'
  have:=h v' hv' tail (by rw[List.append_assoc];exact Nt ht htl hr)
  rw[List.append_assoc]at this
  rw[<-VW (dd:=dd) w1 w2]
  exact this
theorem UZ{p q:AA}(E:EqP p q){d:Nat}{dd:X7}(hd:p.decls[d]? =some dd):∀(n r:Nat) (args:List X0) (t:MT),r<n->args.length+r=dd.types.length->okP dd args->MvI p q t->
 ∃t':MT,PG n p q (d:Int) args dd p q t.1 t.2=some t'/\MvI p q t'/\(∀s∈t.2,s∈t'.2)/\Cov p q d dd t'.2 args
 |0,r,args,t,hr,_,_,_=>by omega
 |n+1,r,args,t,hr,hl,hp,hI=>by
  have h3:=E.d3 dd (List.mem_of_getElem? hd);show∃t':MT,aIq (PG n) p q (d:Int) args dd p q t.1 t.2=some t'/\_;unfold aIq;rw[AK hd];cases r with
  |zero=>
   have hok:okA dd args:=⟨by omega,hp⟩
   obtain⟨t',e,h1,h2,h4⟩:=aG2 E hd hok hI
   rw[decide_eq_true (by omega),AH,e,AD]
   refine⟨t',rfl,h1,h2,fun tail ht=>?_⟩
   have:tail=[]:=by have:=ht.1;rw[List.length_append]at this;exact List.length_eq_zero_iff.1 (by omega)
   subst this
   rw[List.append_nil];exact h4
  |succ r=>
   obtain⟨ty,hty,_⟩:=AP (l:=dd.types) (i:=args.length) (by omega)
   obtain⟨U,V,u1,u2,u3,hc⟩:=aCs E hd hty
   rw[decide_eq_false (by omega),AF,AK hd,AK hty,u1,AD,u2,AD]
   have hb1:RY (PG n) (d:Int) args dd p q ty (decide (ty=3)) p q U t.1 t.2 dd p q=some (C4 ty U):=by unfold RY C4;by_cases h:ty=3;rw[decide_eq_true h,AH,if_pos h];rw[decide_eq_false h,AF,if_neg h]
   rw[hb1,AD]
   have hmain:∀(l:List X0),PlV p q d args.length ty l->∃t':MT,(AG (W8 (PG n) (d:Int) args dd p q (l.length:Int) p q l dd p q 0 t.1 t.2) fun o13=>some (o13.1,o13.2))=some t'/\MvI p q t'/\(∀s∈t.2,s∈t'.2)/\Cov p q d dd t'.2 args:=fun l hV=>by
    have hll:=hV.len;obtain⟨o,h1,h2⟩:=Am (step:=fun s:Int×BY×List X5=>GS (PG n) (d:Int) args dd p q (l.length:Int) p q l dd p q s.1 s.2.1 s.2.2)
     (fun s=>∃i:Nat,s.1=(i:Int)/\i<=l.length/\MvI p q s.2/\(∀x∈t.2,x∈s.2.2)/\∀j v,j<i->l[j]? =some v->Cov p q d dd s.2.2 (args++[v]))
     (fun s=>(l.length-s.1).toNat) (fun o:MT=>MvI p q o/\(∀x∈t.2,x∈o.2)/\∀v∈l,Cov p q d dd o.2 (args++[v]))
     (by rintro⟨a,by_,L⟩ ⟨i,ha,hi,b1,b2,b3⟩;simp only at ha b1 b2 b3;subst ha;by_cases he:i=l.length;subst he;refine .inl ⟨(by_,L),by simp only[GS,ltI,AF],b1,b2,fun v hv=>?_⟩;obtain⟨j,hj⟩:=List.getElem?_of_mem hv;exact b3 j v (At hj) hj;right;obtain⟨v,hv,_⟩:=AP (l:=l) (i:=i) (by omega);have hvr:=hV.right v (List.mem_of_getElem? hv);obtain⟨t',e,c1,c2,c3⟩:=UZ E hd n r (args++[v]) (by_,L) (by omega) (by simp;omega) (Nu hp hty hvr) b1;simp only at e c2;refine⟨(((i+1:Nat):Int),t'.1,t'.2),?_,⟨i+1,rfl,by omega,c1,fun x hx=>c2 x (b2 x hx),fun j w hj hw=>?_⟩,by simp only;omega⟩;simp only[GS,ltD hv,AH,AK hv,Ag hv (show l.length<=9223372036854775807 by omega)];rw[An (by have:=At hv;omega),show U6 args=some args from NU args (by omega),AD,DO (by simp;omega) (by decide),e,AD];by_cases hji:j=i;subst hji;rw[hv,oe]at hw;subst hw;exact c3;exact(b3 j w (by omega) hw).mono c2)
     ((0:Int),t.1,t.2) ⟨0,rfl,Nat.zero_le _,hI,fun _ h=>h,fun j v hj=>by omega⟩
    have h1':W8 (PG n) (d:Int) args dd p q (l.length:Int) p q l dd p q 0 t.1 t.2=some o:=h1;rw[h1',AD];exact⟨o,rfl,h2.1,h2.2.1,Cov.step hty hV h2.2.2⟩
   rcases hc with⟨h,n1,hV⟩|⟨h,x,n1,hV⟩
   rw[n1,AD]
   have hb2:RZ (PG n) (d:Int) args dd p q (zV,false).2 p q (C4 ty U) (zV,false).1 t.1 t.2 dd p q=some (C4 ty U):=rfl
   rw[hb2,AD]
   exact hmain _ hV
   rw[n1,AD]
   have hb2:RZ (PG n) (d:Int) args dd p q (x,true).2 p q (C4 ty U) (x,true).1 t.1 t.2 dd p q=some (C4 ty U++[x]):=by have hlp:=hV.len;rw[List.length_append,List.length_singleton]at hlp;show Ai _ _=_;rw[DO (by simp;omega) (by decide)]
   rw[hb2,AD]
   exact hmain _ hV
theorem aCj{p q:AA}(E:EqP p q):∃(L:List X5) (M:BY),Y6 p q=some (L,M)/\MvI p q (M,L)/\∀(d:Nat) dd,p.decls[d]? =some dd->Cov p q d dd L []:=by
 have h12:=E.fp.decls;obtain⟨o,h1,h2⟩:=Am (step:=fun s:Int×BY×List X5=>E2 p q p.decls (p.decls.length:Int) s.1 s.2.1 s.2.2)
  (fun s=>∃i:Nat,s.1=(i:Int)/\i<=p.decls.length/\MvI p q s.2/\∀(d:Nat) dd,d<i->p.decls[d]? =some dd->Cov p q d dd s.2.2 [])
  (fun s=>(p.decls.length-s.1).toNat) (fun o:MT=>MvI p q o/\∀(d:Nat) dd,p.decls[d]? =some dd->Cov p q d dd o.2 [])
  (by rintro⟨a,by_,L⟩ ⟨i,ha,hi,b1,b3⟩;simp only at ha b1 b3;subst ha;by_cases he:i=p.decls.length;subst he;exact .inl ⟨(by_,L),by simp only[E2,ltI,AF],b1,fun d dd hd=>b3 d dd (At hd) hd⟩;right;obtain⟨x,hx,_⟩:=AP (l:=p.decls) (i:=i) (by omega);have h3:=E.d3 x (List.mem_of_getElem? hx);obtain⟨t',e,c1,c2,c3⟩:=UZ E hx 100000 x.types.length [] (by_,L) (by omega) (by simp) (fun j v t hj=>by simp at hj) b1;have e':Xm p q (i:Int) [] x p q by_ L=some t':=e;simp only at c2;refine⟨(((i+1:Nat):Int),t'.1,t'.2),?_,⟨i+1,rfl,by omega,c1,fun j w hj hw=>?_⟩,by simp only;omega⟩;simp only[E2,ltD hx,AH,AK hx,Ag hx (show p.decls.length<=9223372036854775807 by omega)];rw[e',AD];by_cases hji:j=i;subst hji;rw[hx,oe]at hw;subst hw;exact c3;exact(b3 j w (by omega) hw).mono c2)
  ((0:Int),(Ek:BY),[]) ⟨0,rfl,Nat.zero_le _,MvI.init p q,fun d dd hd=>by omega⟩
 have h1':SP p q p.decls (p.decls.length:Int) 0 (Ek:BY) []=some o:=h1;exact⟨o.2,o.1,by unfold Y6;rw[h1',AD],h2.1,h2.2⟩
theorem aC3{a b:List X0}(ha:SW a)(hb:∀v∈b,vR v=true)(hl:a.length+b.length<=800):Q9 a b=some (b.foldl Hb a):=by
 have h:aH6 b a 0=some (b.foldl Hb a):=by refine FK (step:=fun s:List X0×Int=>It b s.1 s.2) b Hb id (fun i w=>SW w/\w.length<=a.length+i) (fun i x w hx hw=>?_) (fun w _=>by simp only[It,ltI,AF];rfl) a ⟨ha,by omega⟩;have hi:=At hx;have hxr:=hb x (List.mem_of_getElem? hx);obtain⟨s1,s2⟩:=KC hw.1 hxr;refine⟨?_,s1,by rw[s2];have:=hw.2;split<;>omega⟩;simp only[It,ltD hx,AH,AK hx,aAa hw.1 hxr (show w.length<=900 by have:=hw.2;omega),AD,Ag hx (show b.length<=9223372036854775807 by omega)]
 unfold Q9;rw[h];rfl
theorem IX{q:AA}(hF:CX q)(hR:Ad q)(t:Int):∀v∈E8 q t,v.kind=t/\vR v=true:=fun v hv=>⟨Ow hv,(cons_inv hF hR t).1.2 v hv⟩
theorem NW{q:AA}(hR:Ad q){d k:Nat}{dd:X7}{t:Int}(hd:q.decls[d]? =some dd)(ht:dd.types[k]? =some t){v:X0}(h:PT q d k v):v∈E8 q t:=by have hk:=(E7 hR hd ht h).1;obtain⟨s,hs,he,a,ha,hk1,rfl⟩:=h;exact HD.2 (.inr ⟨s,hs,a,List.mem_of_getElem? ha,hk1,hk,rfl⟩)
theorem Vi{p q:AA}(E:EqP p q){d k:Nat}{dd:X7}{t:Int}(hd:p.decls[d]? =some dd)(ht:dd.types[k]? =some t):∃l,U4 p q t=some l/\PlV p q d k t l:=by
 have hdq:q.decls[d]? =some dd:=by rw[E.de];exact hd
 have h13:=E.ty dd (List.mem_of_getElem? hd) t (List.mem_of_getElem? ht);obtain⟨p1,p2⟩:=cons_inv E.fp E.rp t;obtain⟨q1,q2⟩:=cons_inv E.fq E.rq t;obtain⟨s1,s2,s3⟩:=aHg (E8 q t) (E8 p t) q1.2 p1;unfold U4;rw[aJf E.fp E.rp,AD,aJf E.fq E.rq,AD,aC3 p1 q1.2 (by omega),AD];generalize (E8 q t).foldl Hb (E8 p t)=U at s1 s2 s3;have hUr:∀v∈U,v.kind=t/\vR v=true:=fun v hv=>by
  rcases(s3 v).1 hv with h|h
  exact IX E.fp E.rp t v h;exact IX E.fq E.rq t v h
 have hC:∀v,v∉U->¬PT p d k v/\¬PT q d k v:=fun v hv=>⟨fun h=>hv ((s3 v).2 (.inl (NW E.rp hd ht h))),fun h=>hv ((s3 v).2 (.inr (NW E.rq hdq ht h)))⟩;unfold aIe;by_cases h3:t=3;rw[decide_eq_true h3,Bool.not_true,AF,AD];refine⟨U,rfl,Nz E (by omega) hUr (fun v hk hv=>.inl ((s3 v).2 (.inl (HD.2 (.inl ⟨h3,?_⟩)))))⟩;have:=vR3 hv (hk.trans h3);exact this;obtain⟨x,_,hx2,hx3,hx4,hx5⟩:=aDc (k:=t) (by omega) (l:=U) (w:=U) (by omega) s1 (by omega) (fun v _=>Iff.rfl);rw[decide_eq_false h3,Bool.not_false,AH,hx2,AD,aAa s1 hx5 (by omega),AD,AD];obtain⟨_,g2⟩:=KC s1 hx5;refine⟨Hb U x,rfl,Nz E (by rw[g2];split<;>omega) (fun v hv=>?_) (fun v hk hv=>?_)⟩;rcases Ej.1 hv with rfl|h
 exact⟨hx4,hx5⟩;exact hUr v h;by_cases hvU:v∈U;exact .inl (Ej.2 (.inr hvU));exact .inr ⟨(hC v hvU).1,(hC v hvU).2,x,Ej.2 (.inl rfl),(hC x hx3).1,(hC x hx3).2⟩
def aLb(p:AA)(d:Nat)(dd:X7)(l:List X3):Prop:=∀e∈l,∃args,okA dd args/\e=X3.mk dd.name args
def aEm(p q:AA)(d:Nat)(dd:X7)(l:List X3)(args:List X0):Prop:=∀tail,okA dd (args++tail)->∃args',okA dd args'/\X3.mk dd.name args'∈l/\sP p q d args'=sP p q d (args++tail)
theorem aEm.step{p q:AA}{d:Nat}{dd:X7}{L:List X3}{args l:List X0}{t:Int}(ht:dd.types[args.length]? =some t)(hV:PlV p q d args.length t l)(h:∀v∈l,aEm p q d dd L (args++[v])):aEm p q d dd L args:=fun tail htl=>by
 cases tail with
 |nil=>
  have:=htl.1
  rw[List.append_nil]at this
  have h2:=At ht
  omega
 |cons v tail=>
  obtain⟨hk,hv⟩:=aD7 ht htl
  obtain⟨v',hv',w1,w2⟩:=hV.whole v hk hv
  have hr:=hV.right v' hv'
  obtain⟨args',a1,a2,a3⟩:=h v' hv' tail (by rw[List.append_assoc];exact Nt ht htl hr)
  rw[List.append_assoc]at a3
  exact⟨args',a1,a2,by rw[a3];exact VW (dd:=dd) w1 w2⟩
theorem VK{r:Nat}(h:r<=3):401^r<=64481201:=by have:401^r<=401^3:=Nat.pow_le_pow_right (by decide) h;exact this
theorem aDx{p q:AA}(E:EqP p q){d:Nat}{dd:X7}(hd:p.decls[d]? =some dd):∀(n r:Nat) (args:List X0),r<n->args.length+r=dd.types.length->okP dd args->
 ∃l,aHm n p q (d:Int) args=some l/\aLb p d dd l/\aEm p q d dd l args/\l.length<=401^r
 |0,r,args,hr,_,_=>by omega
 |n+1,r,args,hr,hl,hp=>by
  have h3:=E.d3 dd (List.mem_of_getElem? hd);show∃l,aOj (aHm n) p q (d:Int) args=some l/\_;unfold aOj;rw[AK hd];cases r with
  |zero=>
   have hok:okA dd args:=⟨by omega,hp⟩
   rw[decide_eq_true (by omega),AH,AK hd]
   refine⟨_,rfl,fun e he=>⟨args,hok,List.mem_singleton.1 he⟩,fun tail ht=>?_,by simp⟩
   have:tail=[]:=by have:=ht.1;rw[List.length_append]at this;exact List.length_eq_zero_iff.1 (by omega)
   subst this
   rw[List.append_nil]
   exact⟨args,hok,by simp,rfl⟩
  |succ r=>
   obtain⟨ty,hty,_⟩:=AP (l:=dd.types) (i:=args.length) (by omega)
   obtain⟨l,v1,hV⟩:=Vi E hd hty
   have hll:=hV.len
   have hpw:=VK (r:=r) (by omega)
   have hpw2:=VK (r:=r+1) (by omega)
   rw[decide_eq_false (by omega),AF,AK hd,AK hty,v1,AD]
   obtain⟨o,h1,h2⟩:=Am (step:=fun s:Int×List X3=>JN (aHm n) (d:Int) args l p q s.1 s.2)
    (fun s=>∃i:Nat,s.1=(i:Int)/\i<=l.length/\aLb p d dd s.2/\(∀j v,j<i->l[j]? =some v->aEm p q d dd s.2 (args++[v]))/\s.2.length<=i*401^r)
    (fun s=>(l.length-s.1).toNat) (fun o=>aLb p d dd o/\(∀v∈l,aEm p q d dd o (args++[v]))/\o.length<=l.length*401^r)
    (by
     rintro⟨a,w⟩ ⟨i,ha,hi,b1,b2,b3⟩;simp only at ha b1 b2 b3;subst ha;by_cases he:i=l.length;subst he;refine .inl ⟨w,by simp only[JN,ltI,AF],b1,fun v hv=>?_,b3⟩;obtain⟨j,hj⟩:=List.getElem?_of_mem hv;exact b2 j v (At hj) hj;right;obtain⟨v,hv,_⟩:=AP (l:=l) (i:=i) (by omega);have hvr:=hV.right v (List.mem_of_getElem? hv);obtain⟨m,e,c1,c2,c3⟩:=aDx E hd n r (args++[v]) (by omega) (by simp;omega) (Nu hp hty hvr);have hwl:w.length+m.length<=(i+1)*401^r:=by rw[Nat.add_mul];omega
     have hwl2:(i+1)*401^r<=401*401^r:=Nat.mul_le_mul_right _ (by omega);have hwl3:401*401^r=401^(r+1):=by rw[Nat.pow_succ,Nat.mul_comm]
     refine⟨(((i+1:Nat):Int),w++m),?_,⟨i+1,rfl,by omega,fun e he=>?_,fun j x hj hx=>?_,by simp only[List.length_append];exact hwl⟩,by simp only;omega⟩;simp only[JN,ltD hv,AH,AK hv,Ag hv (show l.length<=9223372036854775807 by omega)];rw[DO (by simp;omega) (by decide),DO (by simp;omega) (by decide),List.nil_append,e,AD,DO (by omega) (by decide)];rcases ma.1 he with h|h
     exact b1 e h;exact c1 e h;by_cases hji:j=i;subst hji;rw[hv,oe]at hx;subst hx;intro tail ht;obtain⟨args',g1,g2,g3⟩:=c2 tail ht;exact⟨args',g1,mr _ g2,g3⟩;intro tail ht;obtain⟨args',g1,g2,g3⟩:=b2 j x (by omega) hx tail ht;exact⟨args',g1,ml _ g2,g3⟩)
    ((0:Int),[]) ⟨0,rfl,Nat.zero_le _,(fun e he=>by cases he),(fun j v hj=>by omega),by simp⟩
   have h1':aJw (aHm n) (d:Int) args l p q 0 []=some o:=h1
   rw[h1',AD]
   refine⟨o,rfl,h2.1,aEm.step hty hV h2.2.1,Nat.le_trans h2.2.2 ?_⟩
   rw[Nat.pow_succ,Nat.mul_comm (401^r)]
   exact Nat.mul_le_mul_right _ hll
structure aHq(p q:AA)(all:List X3):Prop where
 len:all.length<=773774412
 right:∀e∈all,∃(d:Nat) (dd:X7) (args:List X0),p.decls[d]? =some dd/\okA dd args/\e=X3.mk dd.name args
 cov:∀(d:Nat) dd args,p.decls[d]? =some dd->okA dd args->∃args',okA dd args'/\X3.mk dd.name args'∈all/\sP p q d args'=sP p q d args
theorem aJ9{p q:AA}(E:EqP p q):∃all,aI6 p q 0 []=some all/\aHq p q all:=by
 have h12:=E.fp.decls;obtain⟨o,h1,h2,h3,h4⟩:=Am (step:=fun s:Int×List X3=>I7 p q s.1 s.2)
  (fun s=>∃i:Nat,s.1=(i:Int)/\i<=p.decls.length/\s.2.length<=i*64481201/\(∀e∈s.2,∃(d:Nat) (dd:X7) (args:List X0),p.decls[d]? =some dd/\okA dd args/\e=X3.mk dd.name args)/\
   ∀(d:Nat) dd args,d<i->p.decls[d]? =some dd->okA dd args->∃args',okA dd args'/\X3.mk dd.name args'∈s.2/\sP p q d args'=sP p q d args)
  (fun s=>(p.decls.length-s.1).toNat) (fun o=>o.length<=p.decls.length*64481201/\(∀e∈o,∃(d:Nat) (dd:X7) (args:List X0),p.decls[d]? =some dd/\okA dd args/\e=X3.mk dd.name args)/\
   ∀(d:Nat) dd args,p.decls[d]? =some dd->okA dd args->∃args',okA dd args'/\X3.mk dd.name args'∈o/\sP p q d args'=sP p q d args)
  (by
   rintro⟨a,w⟩ ⟨i,ha,hi,b0,b1,b2⟩;simp only at ha b0 b1 b2;subst ha;by_cases he:i=p.decls.length;subst he;exact .inl ⟨w,by simp only[I7,ltI,AF],b0,b1,fun d dd args hd ha=>b2 d dd args (At hd) hd ha⟩;right;obtain⟨x,hx,_⟩:=AP (l:=p.decls) (i:=i) (by omega);have h3:=E.d3 x (List.mem_of_getElem? hx);obtain⟨m,e,c1,c2,c3⟩:=aDx E hx 100000 x.types.length [] (by omega) (by simp) (fun j v t hj=>by simp at hj);have e':Zk p q (i:Int) []=some m:=e;have hm:m.length<=64481201:=Nat.le_trans c3 (VK h3);refine⟨(((i+1:Nat):Int),w++m),?_,⟨i+1,rfl,by omega,by simp only[List.length_append];omega,fun e he=>?_,fun j dd args hj hdd ha=>?_⟩,by simp only;omega⟩;simp only[I7,ltD hx,AH,Ag hx (show p.decls.length<=9223372036854775807 by omega)];rw[e',AD,DO (by omega) (by decide)];rcases ma.1 he with h|h
   exact b1 e h;obtain⟨args,g1,g2⟩:=c1 e h;exact⟨i,x,args,hx,g1,g2⟩;by_cases hji:j=i;subst hji;rw[hx,oe]at hdd;subst hdd;obtain⟨args',g1,g2,g3⟩:=c2 args ha;exact⟨args',g1,mr _ g2,g3⟩;obtain⟨args',g1,g2,g3⟩:=b2 j dd args (by omega) hdd ha;exact⟨args',g1,ml _ g2,g3⟩)
  ((0:Int),[]) ⟨0,rfl,Nat.zero_le _,by simp,(fun e he=>by cases he),fun d dd args hd=>by omega⟩
 exact⟨o,h1,by omega,h3,h4⟩
section
variable {α β:Type}
inductive Fp(nxt:α->β->α)(ms:List β)(s:α):Nat->α->Prop
 |nil:Fp nxt ms s 0 s
 |snoc {k:Nat} {x:α} {m:β}:Fp nxt ms s k x->m∈ms->Fp nxt ms s (k+1) (nxt x m)
def bfS [DecidableEq α](nxt:α->β->α)(x:α)(a:Nat)(t:List α×List Nat)(m:β):List α×List Nat:=if nxt x m∈t.1 then t else(t.1++[nxt x m],t.2++[a+1])
structure BM(nxt:α->β->α)(ms:List β)(s:α)(i:Nat)(x:α)(a:Nat)(dn:β->Prop)(t:List α×List Nat):Prop where
 len:t.2.length=t.1.length
 nd:t.1.Nodup
 hd:t.1[0]? =some s
 f0:t.2[0]? =some 0
 at':t.1[i]? =some x
 fa:t.2[i]? =some a
 mono:∀(j k b c:Nat),j<=k->t.2[j]? =some b->t.2[k]? =some c->b<=c
 low:∀(j b:Nat),t.2[j]? =some b->b<=j
 top:∀b∈t.2,b<=a+1
 cl:∀(j:Nat) y (b:Nat),j<i->t.1[j]? =some y->t.2[j]? =some b->∀m∈ms,∃k c:Nat,t.1[k]? =some (nxt y m)/\t.2[k]? =some c/\c<=b+1
 rc:∀(j:Nat) y (b:Nat),t.1[j]? =some y->t.2[j]? =some b->Fp nxt ms s b y
 dn:∀m,dn m->∃k c:Nat,t.1[k]? =some (nxt x m)/\t.2[k]? =some c/\c<=a+1
structure BF(nxt:α->β->α)(ms:List β)(s:α)(i:Nat)(t:List α×List Nat):Prop where
 len:t.2.length=t.1.length
 nd:t.1.Nodup
 hd:t.1[0]? =some s
 f0:t.2[0]? =some 0
 le:i<=t.1.length
 mono:∀(j k b c:Nat),j<=k->t.2[j]? =some b->t.2[k]? =some c->b<=c
 low:∀(j b:Nat),t.2[j]? =some b->b<=j
 top:∀a,t.2[i]? =some a->∀b∈t.2,b<=a+1
 cl:∀(j:Nat) y (b:Nat),j<i->t.1[j]? =some y->t.2[j]? =some b->∀m∈ms,∃k c:Nat,t.1[k]? =some (nxt y m)/\t.2[k]? =some c/\c<=b+1
 rc:∀(j:Nat) y (b:Nat),t.1[j]? =some y->t.2[j]? =some b->Fp nxt ms s b y
variable {nxt:α->β->α} {ms:List β} {s:α}
theorem BF.init:BF nxt ms s 0 ([s],[0]):=by
 have one:∀{γ:Type} {x y:γ} {j:Nat},[x][j]? =some y->j=0/\x=y:=fun{γ x y j} h=>by
  have:=At h;rw[List.length_singleton]at this;have:j=0:=by omega
  subst this;exact⟨rfl,by simpa using h⟩
 refine⟨rfl,by simp,rfl,rfl,Nat.zero_le _,fun j k b c _ h1 h2=>?_,fun j b h1=>?_,fun a _ b hb=>?_,fun j y b hj=>by omega,fun j y b h1 h2=>?_⟩;rw[<-(one h1).2,<-(one h2).2];exact Nat.le_refl _;rw[<-(one h1).2];exact Nat.zero_le _;rw[List.mem_singleton.1 hb];omega;rw[<-(one h1).2,<-(one h2).2];exact .nil
theorem BF.enter{i:Nat}{t:List α×List Nat}(h:BF nxt ms s i t){x:α}(hx:t.1[i]? =some x):∃a,t.2[i]? =some a/\BM nxt ms s i x a (fun _=>False) t:=by obtain⟨a,ha,_⟩:=AP (l:=t.2) (i:=i) (by rw[h.len];exact At hx);exact⟨a,ha,h.len,h.nd,h.hd,h.f0,hx,ha,h.mono,h.low,h.top a ha,h.cl,h.rc,fun _ h=>h.elim⟩
theorem BM.step [DecidableEq α]{i:Nat}{x:α}{a:Nat}{dn:β->Prop}{t:List α×List Nat}(h:BM nxt ms s i x a dn t){m:β}(hm:m∈ms):BM nxt ms s i x a (fun m'=>dn m'\/m'=m) (bfS nxt x a t m):=by
 unfold bfS;split;rename_i hin;refine⟨h.len,h.nd,h.hd,h.f0,h.at',h.fa,h.mono,h.low,h.top,h.cl,h.rc,fun m' hm'=>?_⟩;rcases hm' with hm'|rfl
 exact h.dn m' hm';obtain⟨k,hk⟩:=List.getElem?_of_mem hin;obtain⟨c,hc,_⟩:=AP (l:=t.2) (i:=k) (by rw[h.len];exact At hk);exact⟨k,c,hk,hc,h.top c (List.mem_of_getElem? hc)⟩;rename_i hin;have h0:=At h.hd;have u1:∀{j:Nat} {y:α},t.1[j]? =some y->(t.1++[nxt x m])[j]? =some y:=fun hj=>by rw[List.getElem?_append_left (At hj)];exact hj
 have u2:∀{j:Nat} {b:Nat},t.2[j]? =some b->(t.2++[a+1])[j]? =some b:=fun hj=>by rw[List.getElem?_append_left (At hj)];exact hj
 have w1:∀{j:Nat} {y:α},(t.1++[nxt x m])[j]? =some y->t.1[j]? =some y\/(j=t.1.length/\y=nxt x m):=fun{j y} hj=>by
  rcases Nat.lt_or_ge j t.1.length with hlt|hge
  rw[List.getElem?_append_left hlt]at hj;exact .inl hj;have hl:=At hj;rw[List.length_append,List.length_singleton]at hl;have:j=t.1.length:=by omega
  subst this;rw[List.getElem?_append_right (Nat.le_refl _),Nat.sub_self,List.getElem?_cons_zero,oe]at hj;exact .inr ⟨rfl,hj.symm⟩
 have w2:∀{j:Nat} {b:Nat},(t.2++[a+1])[j]? =some b->t.2[j]? =some b\/(j=t.1.length/\b=a+1):=fun{j b} hj=>by
  rcases Nat.lt_or_ge j t.2.length with hlt|hge
  rw[List.getElem?_append_left hlt]at hj;exact .inl hj;have hl:=At hj;rw[List.length_append,List.length_singleton]at hl;have:j=t.2.length:=by omega
  subst this;rw[List.getElem?_append_right (Nat.le_refl _),Nat.sub_self,List.getElem?_cons_zero,oe]at hj;exact .inr ⟨h.len,hj.symm⟩
 have hlast:(t.1++[nxt x m])[t.1.length]? =some (nxt x m):=by rw[List.getElem?_append_right (Nat.le_refl _),Nat.sub_self];rfl
 have hlast2:(t.2++[a+1])[t.1.length]? =some (a+1):=by rw[<-h.len,List.getElem?_append_right (Nat.le_refl _),Nat.sub_self];rfl
 refine⟨by simp[h.len],List.nodup_append.2 ⟨h.nd,by simp,fun y hy z hz e=>hin (by rw[List.mem_singleton.1 hz]at e;exact e▸hy)⟩,u1 h.hd,u2 h.f0,u1 h.at',u2 h.fa,fun j k b c hjk hb hc=>?_,fun j b hb=>?_,fun b hb=>?_,fun j y b hj hy hb m' hm'=>?_,fun j y b hy hb=>?_,fun m' hm'=>?_⟩;rcases w2 hb with hb|⟨rfl,rfl⟩
 rcases w2 hc with hc|⟨rfl,rfl⟩
 exact h.mono j k b c hjk hb hc;exact h.top b (List.mem_of_getElem? hb);rcases w2 hc with hc|⟨rfl,rfl⟩
 have:=At hc;rw[h.len]at this;omega;exact Nat.le_refl _;rcases w2 hb with hb|⟨rfl,rfl⟩
 exact h.low j b hb;have:=h.low i a h.fa;have:=At h.at';omega;rcases ma.1 hb with hb|hb
 exact h.top b hb;rw[List.mem_singleton.1 hb];exact Nat.le_refl _;have hil:=At h.at';rcases w1 hy with hy|⟨rfl,_⟩
 rcases w2 hb with hb|⟨rfl,_⟩
 obtain⟨k,c,c1,c2,c3⟩:=h.cl j y b hj hy hb m' hm';exact⟨k,c,u1 c1,u2 c2,c3⟩;omega;omega;rcases w1 hy with hy|⟨rfl,rfl⟩
 rcases w2 hb with hb|⟨rfl,_⟩
 exact h.rc j y b hy hb;exact absurd (At hy) (Nat.lt_irrefl _);rcases w2 hb with hb|⟨_,rfl⟩
 have:=At hb;rw[h.len]at this;exact absurd this (Nat.lt_irrefl _);exact(h.rc i x a h.at' h.fa).snoc hm;rcases hm' with hm'|rfl
 obtain⟨k,c,c1,c2,c3⟩:=h.dn m' hm';exact⟨k,c,u1 c1,u2 c2,c3⟩;exact⟨_,_,hlast,hlast2,Nat.le_refl _⟩
theorem BM.leave{i:Nat}{x:α}{a:Nat}{dn:β->Prop}{t:List α×List Nat}(h:BM nxt ms s i x a dn t)(hd:∀m∈ms,dn m):BF nxt ms s (i+1) t:=by refine⟨h.len,h.nd,h.hd,h.f0,At h.at',h.mono,h.low,fun b hb c hc=>?_,fun j y b hj hy hb m hm=>?_,h.rc⟩;have h1:=h.top c hc;have h2:=h.mono i (i+1) a b (by omega) h.fa hb;omega;by_cases hji:j=i;subst hji;rw[h.at',oe]at hy;rw[h.fa,oe]at hb;subst hy;subst hb;exact h.dn m (hd m hm);exact h.cl j y b (by omega) hy hb m hm
theorem BF.cover{i:Nat}{t:List α×List Nat}(h:BF nxt ms s i t){k:Nat}{y:α}(hw:Fp nxt ms s k y):(∀a,t.2[i]? =some a->k<=a)->∃j b:Nat,t.1[j]? =some y/\t.2[j]? =some b/\b<=k:=by
 induction hw with
 |nil=>exact fun _=>⟨0,0,h.hd,h.f0,Nat.le_refl _⟩
 |snoc hw hm ih=>
  rename_i k x m
  intro hc
  obtain⟨j,b,h1,h2,h3⟩:=ih fun a ha=>Nat.le_of_succ_le (hc a ha)
  have hj:j<i:=by
   rcases Nat.lt_or_ge j i with hji|hji
   exact hji;exfalso;obtain⟨a,ha,_⟩:=AP (l:=t.2) (i:=i) (Nat.lt_of_le_of_lt hji (At h2));have:=h.mono i j a b hji ha h2;have:=hc a ha;omega
  obtain⟨k',c,c1,c2,c3⟩:=h.cl j x b hj h1 h2 m hm
  exact⟨k',c,c1,c2,by omega⟩
theorem BF.short{i:Nat}{t:List α×List Nat}(h:BF nxt ms s i t){P:α->Bool}(hP:∀(j:Nat) y,j<i->t.1[j]? =some y->P y=false){a:Nat}(ha:t.2[i]? =some a){k:Nat}{y:α}(hw:Fp nxt ms s k y)(hy:P y=true):a<=k:=by
 rcases Nat.lt_or_ge k a with hk|hk
 exfalso;obtain⟨j,b,h1,h2,h3⟩:=h.cover hw fun a' ha'=>by rw[ha,oe]at ha';omega
 have hj:j<i:=by
  rcases Nat.lt_or_ge j i with hji|hji
  exact hji;have:=h.mono i j a b hji ha h2;omega
 rw[hP j y hj h1]at hy;cases hy;exact hk
theorem BF.none{i:Nat}{t:List α×List Nat}(h:BF nxt ms s i t){P:α->Bool}(hP:∀(j:Nat) y,j<i->t.1[j]? =some y->P y=false)(hi:i=t.1.length){k:Nat}{y:α}(hw:Fp nxt ms s k y):P y=false:=by
 obtain⟨j,b,h1,_⟩:=h.cover hw fun a ha=>by have:=At ha;rw[h.len]at this;omega
 exact hP j y (by rw[hi];exact At h1) h1
theorem UJ [DecidableEq α]{i:Nat}{x:α}{a:Nat}:∀(l:List β) {dn:β->Prop} {t:List α×List Nat},(∀m∈l,m∈ms)->BM nxt ms s i x a dn t->BM nxt ms s i x a (fun m=>dn m\/m∈l) (l.foldl (bfS nxt x a) t)
 |[],dn,t,_,h=>by
  have:(fun m=>dn m\/m∈([]:List β))=dn:=by funext m;simp
  rw[this];exact h
 |m::l,dn,t,hl,h=>by
  have h1:=UJ l (fun m' hm'=>hl m' (.tail _ hm')) (h.step (hl m (.head _)));have:(fun m'=>(dn m'\/m'=m)\/m'∈l)=fun m'=>dn m'\/m'∈m::l:=by funext m';simp[or_assoc]
  rw[this]at h1;exact h1
theorem BF.round [DecidableEq α]{i:Nat}{t:List α×List Nat}(h:BF nxt ms s i t){x:α}{a:Nat}(hx:t.1[i]? =some x)(ha:t.2[i]? =some a):BF nxt ms s (i+1) (ms.foldl (bfS nxt x a) t):=by obtain⟨a',ha',hB⟩:=h.enter hx;rw[ha,oe]at ha';subst ha';exact(UJ ms (fun _ h=>h) hB).leave fun m hm=>.inr hm
theorem UI [DecidableEq α]{x:α}{a:Nat}{t:List α×List Nat}{m:β}{i:Nat}{y:α}(h:t.1[i]? =some y):(bfS nxt x a t m).1[i]? =some y:=by unfold bfS;split;exact h;rw[List.getElem?_append_left (At h)];exact h
theorem Fp.inv{P:α->Prop}(hs:P s)(hn:∀x m,P x->m∈ms->P (nxt x m)){k:Nat}{y:α}(h:Fp nxt ms s k y):P y:=by
 induction h with
 |nil=>exact hs
 |snoc _ hm ih=>exact hn _ _ ih hm
theorem Fp.other{γ:Type}{nxt':α->γ->α}{ms':List γ}(hn:∀x m,m∈ms->∃m'∈ms',nxt' x m'=nxt x m){k:Nat}{y:α}(h:Fp nxt ms s k y):Fp nxt' ms' s k y:=by
 induction h with
 |nil=>exact .nil
 |snoc _ hm ih=>
  obtain⟨m',h1,h2⟩:=hn _ _ hm
  rw[<-h2]
  exact ih.snoc h1
end
abbrev PP:=Int×Int
def SmI(x:Int):Prop:=∃n:Nat,x=(n:Int)/\n<256
def SmS(s:X5):Prop:=SmI s.p/\SmI s.q
def mv(p q:AA)(z:PP)(s:X5):PP:=(if s.p=0 then z.1 else nx p z.1 s.p,if s.q=0 then z.2 else nx q z.2 s.q)
theorem aKn{q:AA}(hR:Ad q)(hS:Bh q)(x m:Int):SmI (nx q x m):=⟨_,rfl,Nat.lt_of_lt_of_le (aCl hR _ _) (show 2^q.states.length<=2^8 from Nat.pow_le_pow_right (by decide) hS.states)⟩
theorem Fu{q:AA}(hF:CX q)(hR:Ad q){x m:Int}(hx:SmI x)(hm:SmI m):Xa q x m=some (nx q x m)/\Yb q x m=some (nx q x m):=by obtain⟨n,rfl,hn⟩:=hx;obtain⟨k,rfl,hk⟩:=hm;refine⟨?_,?_⟩;rw[aMf hF hR (show n<4294967296 by omega) (show k<18446744073709551616 by omega)];rfl;rw[aNh hF hR (show n<4294967296 by omega) (show k<18446744073709551616 by omega)];rfl
def SmP(z:PP):Prop:=SmI z.1/\SmI z.2
theorem aG5{p q:AA}(E:EqP p q){z:PP}(hz:SmP z)(s:X5):SmP (mv p q z s):=by
 unfold mv;refine⟨?_,?_⟩;show SmI (if s.p=0 then _ else _)
 split;exact hz.1;exact aKn E.rp E.sp _ _;show SmI (if s.q=0 then _ else _)
 split;exact hz.2;exact aKn E.rq E.sq _ _
theorem aHd{p q:AA}(E:EqP p q)(d:Nat)(args:List X0):SmS (sP p q d args):=⟨⟨_,rfl,Nn E.sp _ _⟩,⟨_,rfl,Nn E.sq _ _⟩⟩
theorem N0{o:List PP}(h1:o.Nodup)(h2:∀z∈o,SmP z):o.length<=65536:=by
 have hinj:(o.map fun z:PP=>z.1*256+z.2).Nodup:=by unfold List.Nodup;rw[List.pairwise_map];refine List.Pairwise.imp_of_mem (fun{a b} ha hb hab he=>hab ?_) h1;obtain⟨⟨n1,e1,l1⟩,⟨n2,e2,l2⟩⟩:=h2 a ha;obtain⟨⟨n3,e3,l3⟩,⟨n4,e4,l4⟩⟩:=h2 b hb;apply Prod.ext<;>omega
 have:=hinj.length_le_of_subset (l₂:=(List.range 65536).map (fun n:Nat=>(n:Int))) fun x hx=>by obtain⟨z,hz,rfl⟩:=mm.1 hx;obtain⟨⟨n1,e1,l1⟩,⟨n2,e2,l2⟩⟩:=h2 z hz;exact mm.2 ⟨n1*256+n2,List.mem_range.2 (by omega),by rw[e1,e2];simp⟩
 simpa using this
def Dc(p q:AA)(z:PP):Bool:= !(K4 p z.1==K4 q z.2)
theorem KK{q:AA}(hF:CX q){S:Nat}(hS:S<4294967296):Xy q (S:Int)=some (PH q S):=by
 have h8:=hF.states;have h:R3 (S:Int) q.states (q.states.length:Int) 0=_:=Ck (step:=fun s=>Ew (S:Int) q.states (q.states.length:Int) s) q.states (PI S) (.inl ())
  (fun i st hi=>by
   have hil:=At hi;have h1:=A4 (n:=i) (by omega);have h2:=aDm (n:=S) (m:=2^i) hS (Nat.lt_of_lt_of_le (Nat.pow_lt_pow_right (by decide) (show i<32 by omega)) (by decide));simp only[Ew,ltD hi,AH,AK hi,Ag hi (show q.states.length<=9223372036854775807 by omega),h1,Kw (show i<32 by omega),h2,PI];rw[An (by omega)];have h3:((S&&&2^i:Nat):Int)=0↔S.testBit i=false:=by rw[<-L1];omega
   cases st.accept with
   |false=>simp[AE]
   |true=>
    rw[AH]
    cases hb:S.testBit i with
    |false=>rw[decide_eq_true (h3.2 hb)];simp[AE]
    |true=>rw[decide_eq_false (by rw[h3,hb];simp)];simp[AE])
  (by simp only[Ew,ltI,AF])
 unfold Xy PH;rw[h,AD];cases Il (DC (PI S)) (fun _=>.inl ()) 0 q.states ()<;>rfl
theorem aBd{q:AA}(hF:CX q){x:Int}(h:SmI x):Xy q x=some (K4 q x)/\Zz q x=some (K4 q x):=by obtain⟨n,rfl,hn⟩:=h;refine⟨?_,?_⟩;rw[KK hF (by omega),K4,Int.toNat_natCast];rw[OJ hF (by omega),K4,Int.toNat_natCast]
def mkR(z:PP):Xp:=⟨z.1,z.2⟩
theorem aG4{a b:PP}(h:mkR a=mkR b):a=b:=by unfold mkR at h;simp only[Xp.mk.injEq]at h;exact Prod.ext h.1 h.2
theorem Xp.eqb_dec(a b:Xp):Xp.eqb a b=decide (a=b):=by rw[Bool.eq_iff_iff,Xp.eqb_iff];simp
theorem aB6(o:List PP)(z:PP)(hl:o.length<=9223372036854775807):Qa (o.map mkR) (mkR z)=some (decide (z∈o)):=by
 have hl':(o.map mkR).length<=9223372036854775807:=by rw[List.length_map];exact hl
 have h:aH7 (o.map mkR) (mkR z) 0=some (if(o.map mkR).all (fun y=> !decide (y=mkR z))=true then .inl ()else .inr ()):=Bt (step:=fun s=>Iu (o.map mkR) (mkR z) s) (o.map mkR) (fun y=> !decide (y=mkR z)) (.inl ()) (.inr ())
  (fun i y hy=>by simp only[Iu,ltD hy,AH,AK hy,Ag hy hl',Xp.eqb_dec,Cr];by_cases h:y=mkR z<;>simp[h])
  (by simp only[Iu,ltI,AF])
 unfold Qa;rw[h,AD];by_cases hz:z∈o;rw[if_neg,C5,decide_eq_true hz];rw[List.all_eq_true];intro h;have:=h (mkR z) (List.mem_map_of_mem hz);simp at this;rw[if_pos,Bo,decide_eq_false hz];rw[List.all_eq_true];intro y hy;obtain⟨w,hw,rfl⟩:=mm.1 hy;have:¬mkR w=mkR z:=fun e=>hz (aG4 e▸hw);simp[this]
def ofE(p q:AA)(e:X3):X5:=match EA p.decls e.name with
 |some d=>sP p q d e.args
 |none=>⟨0,0⟩
theorem Ns{p q:AA}(E:EqP p q){d:Nat}{dd:X7}(hd:p.decls[d]? =some dd)(args:List X0):ofE p q (X3.mk dd.name args)=sP p q d args:=by unfold ofE;rw[E.rp.decls d dd hd]
theorem aEr{p q:AA}(E:EqP p q){d:Nat}{dd:X7}(hd:p.decls[d]? =some dd){args:List X0}(ha:okA dd args){z:PP}(hz:SmP z):Qc p q (mkR z) (X3.mk dd.name args)=some (mkR (mv p q z (ofE p q (X3.mk dd.name args)))):=by
 have hdq:q.decls[d]? =some dd:=by rw[E.de];exact hd
 have h3:=E.d3 dd (List.mem_of_getElem? hd);have hal:args.length<=3:=by rw[ha.1];exact h3
 have o1:=(Vu E.fp E.rp E.sp hd ha (by omega)).2;have o2:=(Vu E.fq E.rq E.sq hdq ha (by omega)).2;have n1:=(Fu E.fp E.rp (x:=(mkR z).p) hz.1 (aHd E d args).1).2;have n2:=(Fu E.fq E.rq (x:=(mkR z).q) hz.2 (aHd E d args).2).2;rw[Ns E hd];unfold Qc mv;rw[o1,AD,o2,AD,aH8];have e1:(sP p q d args).p=((mkM p [] d args:Nat):Int):=rfl;have e2:(sP p q d args).q=((mkM q [] d args:Nat):Int):=rfl;rw[e1]at n1⊢;rw[e2]at n2⊢;by_cases c1:((mkM p [] d args:Nat):Int)=0;rw[decide_eq_true c1,Bool.not_true,AF,AD,aEp,if_pos c1];by_cases c2:((mkM q [] d args:Nat):Int)=0;rw[decide_eq_true c2,Bool.not_true,AF,AD,if_pos c2];rw[decide_eq_false c2,Bool.not_false,AH,n2,AD,AD,if_neg c2];rfl;rw[decide_eq_false c1,Bool.not_false,AH,n1,AD,AD,aEp,if_neg c1];by_cases c2:((mkM q [] d args:Nat):Int)=0;rw[decide_eq_true c2,Bool.not_true,AF,AD,if_pos c2];rfl;rw[decide_eq_false c2,Bool.not_false,AH];simp only;rw[n2,AD,AD,if_neg c2];rfl
def fI(l:List Nat):List Int:=l.map fun n:Nat=>(n:Int)
noncomputable abbrev nxE(p q:AA):PP->X3->PP:=fun z e=>mv p q z (ofE p q e)
theorem aDy{l:List Nat}{i a:Nat}(h:l[i]? =some a):(fI l)[i]? =some (a:Int):=by unfold fI;rw[List.getElem?_map,h];rfl
theorem V2{p q:AA}(E:EqP p q){s0:PP}{all:List X3}(hA:aHq p q all)(i:Nat){z:PP}(hz:SmP z){a:Nat}(ha:a<=100000){t:List PP×List Nat}(hB:BM (nxE p q) all s0 i z a (fun _=>False) t)(hsm:∀z∈t.1,SmP z):
 ZN (i:Int) p q all 0 (t.1.map mkR) (fI t.2)=some ((all.foldl (bfS (nxE p q) z a) t).1.map mkR,fI (all.foldl (bfS (nxE p q) z a) t).2)/\∀y∈(all.foldl (bfS (nxE p q) z a) t).1,SmP y:=by
 have hal:=hA.len
 obtain⟨o,h1,h2,h3,h4⟩:=Am (step:=fun s:Int×List Xp×List Int=>I8 (i:Int) p q all s.1 s.2.1 s.2.2)
  (fun s=>∃j:Nat,s=((j:Int),((all.take j).foldl (bfS (nxE p q) z a) t).1.map mkR,fI ((all.take j).foldl (bfS (nxE p q) z a) t).2)/\j<=all.length/\BM (nxE p q) all s0 i z a (fun m=>False\/m∈all.take j) ((all.take j).foldl (bfS (nxE p q) z a) t)/\∀y∈((all.take j).foldl (bfS (nxE p q) z a) t).1,SmP y)
  (fun s=>(all.length-s.1).toNat) (fun o=>o.1=(all.foldl (bfS (nxE p q) z a) t).1.map mkR/\o.2=fI (all.foldl (bfS (nxE p q) z a) t).2/\∀y∈(all.foldl (bfS (nxE p q) z a) t).1,SmP y)
  (by
   rintro st ⟨j,rfl,hj,hB',hs'⟩;by_cases he:j=all.length;subst he;rw[List.take_length]at hB' hs'⊢;exact .inl ⟨((all.foldl (bfS (nxE p q) z a) t).1.map mkR,fI (all.foldl (bfS (nxE p q) z a) t).2),by simp only[I8,ltI,AF],rfl,rfl,hs'⟩;right;obtain⟨e,hej,_⟩:=AP (l:=all) (i:=j) (by omega);have hem:=List.mem_of_getElem? hej;obtain⟨d,dd,args,g1,g2,g3⟩:=hA.right e hem;have hst:=aEr E g1 g2 hz;rw[<-g3]at hst;have htake:all.take (j+1)=all.take j++[e]:=by rw[List.take_add_one,hej];rfl
   have hfold:(all.take (j+1)).foldl (bfS (nxE p q) z a) t=bfS (nxE p q) z a ((all.take j).foldl (bfS (nxE p q) z a) t) e:=by rw[htake,List.foldl_append];rfl
   have hB2:=hB'.step hem;generalize (all.take j).foldl (bfS (nxE p q) z a) t=u at hB' hs' hB2 hfold;have hul:=N0 hB'.nd hs';have hui:(u.1.map mkR)[i]? =some (mkR z):=by rw[List.getElem?_map,hB'.at'];rfl
   have huf:=aDy hB'.fa;refine⟨(((j+1:Nat):Int),(bfS (nxE p q) z a u e).1.map mkR,fI (bfS (nxE p q) z a u e).2),?_,⟨j+1,by rw[hfold],by omega,?_,?_⟩,by simp only;omega⟩;simp only[I8,ltD hej,AH,aI4,AK hui,AK hej,Ag hej (show all.length<=9223372036854775807 by omega)];rw[hst,AD,aB6 u.1 _ (by omega),AD,aI5];unfold bfS;by_cases hm:nxE p q z e∈u.1;have hm':mv p q z (ofE p q e)∈u.1:=hm;rw[decide_eq_true hm',Bool.not_true,AF,AD,AD,if_pos hm];have hm':¬mv p q z (ofE p q e)∈u.1:=hm;rw[decide_eq_false hm',Bool.not_false,AH,DO (by simp;omega) (by decide),AK huf,DO (by have:=hB'.len;simp[fI];omega) (by decide),AD,AD,if_neg hm,J1 (by omega)];simp only[List.map_append,List.map_cons,List.map_nil,fI];rw[hfold];have:(fun m=>False\/m∈all.take (j+1))=fun m=>(False\/m∈all.take j)\/m=e:=by funext m;rw[htake];simp
   rw[this];exact hB2;rw[hfold];unfold bfS;split;exact hs';intro y hy;rcases ma.1 hy with h|h
   exact hs' y h;rw[List.mem_singleton.1 h];exact aG5 E hz _)
  ((0:Int),t.1.map mkR,fI t.2) ⟨0,by simp,Nat.zero_le _,by simpa using hB,by simpa using hsm⟩
 have h1':ZN (i:Int) p q all 0 (t.1.map mkR) (fI t.2)=some o:=h1
 exact⟨by rw[h1',<-h2,<-h3],h4⟩
theorem aEh{p q:AA}(E:EqP p q){all:List X3}{s:PP}(hs:SmP s){k:Nat}{y:PP}(h:Fp (nxE p q) all s k y):SmP y:=h.inv hs fun x m hx _=>aG5 E hx _
theorem aGs{p q:AA}(E:EqP p q){all:List X3}{s:PP}(hs:SmP s){i:Nat}{t:List PP×List Nat}(h:BF (nxE p q) all s i t):∀z∈t.1,SmP z:=fun z hz=>by obtain⟨j,hj⟩:=List.getElem?_of_mem hz;obtain⟨a,ha,_⟩:=AP (l:=t.2) (i:=j) (by rw[h.len];exact At hj);exact aEh E hs (h.rc j z a hj ha)
def Hi(p q:AA)(s:PP):Prop:=∃a b:Nat,p.start=(a:Int)/\q.start=(b:Int)/\a<8/\b<8/\s=(((2^a:Nat):Int),((2^b:Nat):Int))
theorem aEa{a:Nat}(h:a<8):SmI ((2^a:Nat):Int):=⟨_,rfl,Nat.lt_of_lt_of_le (Nat.pow_lt_pow_right (by decide) h) (by decide)⟩
theorem Hi.sm{p q:AA}{s:PP}(h:Hi p q s):SmP s:=by obtain⟨a,b,_,_,h1,h2,rfl⟩:=h;exact⟨aEa h1,aEa h2⟩
theorem Hi.eqs{p q:AA}{s:PP}(h:Hi p q s):(0<=IntKind.wrap .u64 p.start)/\(0<=IntKind.wrap .u64 q.start)/\AB .shl .u32 1 (IntKind.wrap .u64 p.start)=s.1/\AB .shl .u32 1 (IntKind.wrap .u64 q.start)=s.2:=by obtain⟨a,b,e1,e2,h1,h2,rfl⟩:=h;rw[e1,e2,A4 (by omega),A4 (by omega),Kw (by omega),Kw (by omega)];exact⟨by omega,by omega,rfl,rfl⟩
def Vt(p q:AA)(all:List X3)(s:PP):Prop:=∀k y,Fp (nxE p q) all s k y->Dc p q y=false
def Vr(p q:AA)(all:List X3)(s:PP)(a:Nat):Prop:=(∃z,Fp (nxE p q) all s a z/\Dc p q z=true)/\∀k y,Fp (nxE p q) all s k y->Dc p q y=true->a<=k
theorem V1{p q:AA}(E:EqP p q){s:PP}(hs:Hi p q s):∃all,aHq p q all/\((Yd p q=some (-1)/\Vt p q all s)\/∃a:Nat,Yd p q=some (a:Int)/\Vr p q all s a):=by
 obtain⟨all,hall,hA⟩:=aJ9 E;have hsm:=hs.sm;obtain⟨c1,c2,c3,c4⟩:=hs.eqs;refine⟨all,hA,?_⟩;obtain⟨o,h1,h2⟩:=Am (step:=fun u:Int×List Xp×List Int=>Ge p q all u.1 u.2.1 u.2.2)
  (fun u=>∃(i:Nat) (t:List PP×List Nat),u=((i:Int),t.1.map mkR,fI t.2)/\BF (nxE p q) all s i t/\∀(j:Nat) y,j<i->t.1[j]? =some y->Dc p q y=false)
  (fun u=>(65537-u.1).toNat) (fun o=>(o=.inl ()/\Vt p q all s)\/∃a:Nat,o=.inr (a:Int)/\Vr p q all s a)
  (by
   rintro u ⟨i,t,rfl,hB,hP⟩;have htl:=N0 hB.nd (aGs E hsm hB);by_cases he:i=t.1.length;have e:(i:Int)=((t.1.map mkR).length:Int):=by rw[List.length_map,he]
   refine .inl ⟨.inl (),by simp only[Ge];rw[decide_eq_false (by omega),AF],.inl ⟨rfl,fun k y hw=>hB.none hP he hw⟩⟩;obtain⟨z,hz,_⟩:=AP (l:=t.1) (i:=i) (by have:=hB.le;omega);obtain⟨a,ha,hM⟩:=hB.enter hz;have hzs:=aGs E hsm hB z (List.mem_of_getElem? hz);have hui:(t.1.map mkR)[i]? =some (mkR z):=by rw[List.getElem?_map,hz];rfl
   have a1:=(aBd E.fp (x:=(mkR z).p) hzs.1).2;have a2:=(aBd E.fq (x:=(mkR z).q) hzs.2).2;have hlow:=hB.low i a ha;have hil:=At hz;have hstep:Ge p q all (i:Int) (t.1.map mkR) (fI t.2)=AE (Dc p q z) (some (.inr (.inr (a:Int)))) (AG (ZN (i:Int) p q all 0 (t.1.map mkR) (fI t.2)) fun o16=>some (.inl (((i+1:Nat):Int),o16.1,o16.2))):=by simp only[Ge,ltD hui,AH,AK hui,a1,a2,AD,AK (aDy ha),Ag hui (show(t.1.map mkR).length<=9223372036854775807 by rw[List.length_map];omega)];rfl
   cases hap:Dc p q z with
   |true=>
    refine .inl ⟨.inr (a:Int),by simp only[hstep,hap,AH],.inr ⟨a,rfl,⟨z,hB.rc i z a hz ha,hap⟩,fun k y hw hy=>hB.short hP ha hw hy⟩⟩
   |false=>
    right
    obtain⟨e3,_⟩:=V2 E hA i hzs (by omega) hM (aGs E hsm hB)
    have hB2:=hB.round hz ha
    refine⟨(((i+1:Nat):Int),_,_),by simp only[hstep,hap,AF];rw[e3,AD],⟨i+1,_,rfl,hB2,fun j y hj hy=>?_⟩,by simp only;omega⟩
    have keep:∀(l:List X3) (t:List PP×List Nat) (j:Nat) (y:PP),t.1[j]? =some y->(l.foldl (bfS (nxE p q) z a) t).1[j]? =some y:=by
     intro l;induction l with
     |nil=>intro t j y h;exact h
     |cons m l ih=>intro t j y h;exact ih _ j y (UI h)
    obtain⟨y',hy',_⟩:=AP (l:=t.1) (i:=j) (by omega)
    rw[keep all t j y' hy',oe]at hy
    subst hy
    by_cases hji:j=i
    subst hji
    rw[hz,oe]at hy'
    subst hy';exact hap
    exact hP j y' (by omega) hy')
  ((0:Int),[mkR s],[(0:Int)]) ⟨0,([s],[0]),rfl,BF.init,fun j y hj=>by omega⟩
 have h1':aI7 p q all 0 [mkR s] [0]=some o:=h1;have hm:Xp.mk s.1 s.2=mkR s:=rfl;have hS:Yd p q=Ay o (fun _=>some (-1)) (fun o19=>some o19):=by unfold Yd;rw[hall,AD,An c1,An c2,c3,c4,hm,h1',AD]
 rw[hS];rcases h2 with⟨rfl,h⟩|⟨a,rfl,h⟩
 exact .inl ⟨rfl,h⟩;exact .inr ⟨a,rfl,h⟩
abbrev CM:=MP X6 Xc
def mkC(z:PP):X6:=⟨z.1,z.2⟩
theorem Jn{a b:PP}(h:mkC a=mkC b):a=b:=by unfold mkC at h;simp only[X6.mk.injEq]at h;exact Prod.ext h.1 h.2
theorem X6.eqb_dec(a b:X6):X6.eqb a b=decide (a=b):=by rw[Bool.eq_iff_iff,X6.eqb_iff];simp
def z0:Xc:=⟨⟨0,0⟩,⟨0,0⟩⟩
theorem aG8{p q:AA}(E:EqP p q){z:PP}(hz:SmP z){m:X5}(hm:SmS m):Xw p q (mkC z) m=some (mkC (mv p q z m)):=by have n1:=(Fu E.fp E.rp (x:=(mkC z).p) hz.1 hm.1).1;have n2:=(Fu E.fq E.rq (x:=(mkC z).q) hz.2 hm.2).1;unfold Xw mv;rw[OT];by_cases c1:m.p=0;rw[decide_eq_true c1,Bool.not_true,AF,AD,LV,if_pos c1];by_cases c2:m.q=0;rw[decide_eq_true c2,Bool.not_true,AF,AD,if_pos c2];rw[decide_eq_false c2,Bool.not_false,AH,n2,AD,AD,if_neg c2];rfl;rw[decide_eq_false c1,Bool.not_false,AH,n1,AD,AD,LV,if_neg c1];by_cases c2:m.q=0;rw[decide_eq_true c2,Bool.not_true,AF,AD,if_pos c2];rfl;rw[decide_eq_false c2,Bool.not_false,AH];simp only;rw[n2,AD,AD,if_neg c2];rfl
abbrev nxS(p q:AA):PP->X5->PP:=mv p q
structure CI(p q:AA)(L:List X5)(s:PP)(t:List PP×List Nat)(cm:CM):Prop where
 key:∀z,(BC z0 cm (mkC z)).2=decide (z∈t.1)
 par:∀(j:Nat) z,0<j->t.1[j]? =some z->∃(pj:Nat) (x:PP) (m:X5) (b:Nat),pj<j/\t.1[pj]? =some x/\t.2[pj]? =some b/\t.2[j]? =some (b+1)/\m∈L/\z=mv p q x m/\(BC z0 cm (mkC z)).1=⟨mkC x,m⟩
theorem CI.init(p q:AA)(L:List X5)(s:PP):CI p q L s ([s],[0]) (Cs (Ek:CM) (mkC s) z0):=by refine⟨fun z=>?_,fun j z hj hz=>?_⟩;rw[D7];by_cases h:z=s;subst h;simp;rw[if_neg fun e=>h (Jn e).symm];simp[h,Nm];have:=At hz;rw[List.length_singleton]at this;omega
def cmS(p q:AA)(x:PP)(a:Nat)(u:(List PP×List Nat)×CM)(m:X5):(List PP×List Nat)×CM:=(bfS (nxS p q) x a u.1 m,if nxS p q x m∈u.1.1 then u.2 else Cs u.2 (mkC (nxS p q x m)) ⟨mkC x,m⟩)
theorem CI.step{p q:AA}{L:List X5}{s:PP}{t:List PP×List Nat}{cm:CM}(h:CI p q L s t cm){i:Nat}{x:PP}{a:Nat}{dn:X5->Prop}(hB:BM (nxS p q) L s i x a dn t){m:X5}(hm:m∈L):CI p q L s (cmS p q x a (t,cm) m).1 (cmS p q x a (t,cm) m).2:=by
 unfold cmS bfS;simp only;split;exact h;rename_i hn;refine⟨fun z=>?_,fun j z hj hz=>?_⟩;show(BC z0 (Cs cm _ _) (mkC z)).2=decide (z∈t.1++[nxS p q x m]);rw[D7];by_cases hz:z=nxS p q x m;subst hz;simp;rw[if_neg fun e=>hz (Jn e).symm,h.key z];simp[hz];show∃pj x' m' b,pj<j/\(t.1++[nxS p q x m])[pj]? =some x'/\(t.2++[a+1])[pj]? =some b/\(t.2++[a+1])[j]? =some (b+1)/\m'∈L/\z=mv p q x' m'/\(BC z0 (Cs cm _ _) (mkC z)).1=⟨mkC x',m'⟩;have hz':(t.1++[nxS p q x m])[j]? =some z:=hz;have hl:=At hz';rw[List.length_append,List.length_singleton]at hl;by_cases hj2:j<t.1.length;rw[List.getElem?_append_left hj2]at hz';obtain⟨pj,x',m',b,a1,a2,a3,a4,a5,a6,a7⟩:=h.par j z hj hz';refine⟨pj,x',m',b,a1,by rw[List.getElem?_append_left (At a2)];exact a2,by rw[List.getElem?_append_left (At a3)];exact a3,by rw[List.getElem?_append_left (At a4)];exact a4,a5,a6,?_⟩;rw[D7,if_neg fun e=>hn (by rw[Jn e];exact List.mem_of_getElem? hz')];exact a7;have he:j=t.1.length:=by omega
 subst he;rw[List.getElem?_append_right (Nat.le_refl _),Nat.sub_self,List.getElem?_cons_zero,oe]at hz';subst hz';refine⟨i,x,m,a,At hB.at',by rw[List.getElem?_append_left (At hB.at')];exact hB.at',by rw[List.getElem?_append_left (At hB.fa)];exact hB.fa,by rw[<-hB.len,List.getElem?_append_right (Nat.le_refl _),Nat.sub_self];rfl,hm,rfl,?_⟩;rw[D7,if_pos rfl]
theorem PV{p q:AA}(E:EqP p q){L:List X5}{M:BY}(hL:L.length<=65536)(hLs:∀m∈L,SmS m)(i:Nat){s z:PP}(hz:SmP z){a:Nat}{t:List PP×List Nat}{cm:CM}(hB:BM (nxS p q) L s i z a (fun _=>False) t)(hsm:∀z∈t.1,SmP z)(hC:CI p q L s t cm)(w8:X6):
 ∃cm',LI (i:Int) (L.length:Int) p q L M w8 (mkC z) 0 (t.1.map mkC) cm=some ((L.foldl (bfS (nxS p q) z a) t).1.map mkC,cm')/\CI p q L s (L.foldl (bfS (nxS p q) z a) t) cm':=by
 obtain⟨o,h1,h2,h3⟩:=Am (step:=fun u:Int×List X6×CM=>EH (i:Int) (L.length:Int) p q L M w8 (mkC z) u.1 u.2.1 u.2.2)
  (fun u=>∃j:Nat,u.1=(j:Int)/\j<=L.length/\u.2.1=((L.take j).foldl (bfS (nxS p q) z a) t).1.map mkC/\CI p q L s ((L.take j).foldl (bfS (nxS p q) z a) t) u.2.2/\BM (nxS p q) L s i z a (fun m=>False\/m∈L.take j) ((L.take j).foldl (bfS (nxS p q) z a) t)/\∀y∈((L.take j).foldl (bfS (nxS p q) z a) t).1,SmP y)
  (fun u=>(L.length-u.1).toNat) (fun o=>o.1=(L.foldl (bfS (nxS p q) z a) t).1.map mkC/\CI p q L s (L.foldl (bfS (nxS p q) z a) t) o.2)
  (by
   rintro⟨u1,u2,u3⟩ ⟨j,e1,hj,e2,hC',hB',hs'⟩;simp only at e1 e2 hC';subst e1;subst e2;by_cases he:j=L.length;subst he;rw[List.take_length]at hC';refine .inl ⟨((L.foldl (bfS (nxS p q) z a) t).1.map mkC,u3),?_,rfl,hC'⟩;simp only[EH,ltI,AF,List.take_length];right;obtain⟨m,hmj,_⟩:=AP (l:=L) (i:=j) (by omega);have hmm:=List.mem_of_getElem? hmj;have hst:=aG8 E hz (hLs m hmm);have htake:L.take (j+1)=L.take j++[m]:=by rw[List.take_add_one,hmj];rfl
   have hfold:(L.take (j+1)).foldl (bfS (nxS p q) z a) t=bfS (nxS p q) z a ((L.take j).foldl (bfS (nxS p q) z a) t) m:=by rw[htake,List.foldl_append];rfl
   have hB2:=hB'.step hmm;have hC2:=hC'.step hB' hmm;generalize (L.take j).foldl (bfS (nxS p q) z a) t=u at hB' hs' hB2 hfold hC' hC2;have hul:=N0 hB'.nd hs';have hkey:=hC'.key (mv p q z m);refine⟨(((j+1:Nat):Int),(bfS (nxS p q) z a u m).1.map mkC,(cmS p q z a (u,u3) m).2),?_,⟨j+1,rfl,by omega,by simp only[hfold],by rw[hfold];exact hC2,?_,?_⟩,by simp only;omega⟩;simp only[EH,ltD hmj,AH,OM,AK hmj,Ag hmj (show L.length<=9223372036854775807 by omega)];have hkey':(BC (Xc.mk (X6.mk 0 0) (X5.mk 0 0)) u3 (mkC (mv p q z m))).2=decide (mv p q z m∈u.1):=hkey;rw[An (by have:=At hmj;omega),hst,AD,hkey',Ph];unfold cmS bfS;by_cases hm:mv p q z m∈u.1;have hm':nxS p q z m∈u.1:=hm;rw[decide_eq_true hm,Bool.not_true,AF,AD,AD];simp only[if_pos hm'];have hm':¬nxS p q z m∈u.1:=hm;rw[decide_eq_false hm,Bool.not_false,AH,DO (by simp;omega) (by decide),AD,AD];simp only[if_neg hm',List.map_append,List.map_cons,List.map_nil];rw[hfold];have:(fun m'=>False\/m'∈L.take (j+1))=fun m'=>(False\/m'∈L.take j)\/m'=m:=by funext m';rw[htake];simp
   rw[this];exact hB2;rw[hfold];unfold bfS;split;exact hs';intro y hy;rcases ma.1 hy with h|h
   exact hs' y h;rw[List.mem_singleton.1 h];exact aG5 E hz _)
  ((0:Int),t.1.map mkC,cm) ⟨0,rfl,Nat.zero_le _,by simp,by simpa using hC,by simpa using hB,by simpa using hsm⟩
 have h1':LI (i:Int) (L.length:Int) p q L M w8 (mkC z) 0 (t.1.map mkC) cm=some o:=h1
 exact⟨o.2,by rw[h1',<-h2],h3⟩
inductive EvW(p q:AA):PP->List X3->PP->Prop
 |nil {x:PP}:EvW p q x [] x
 |cons {x y:PP} {d:Nat} {dd:X7} {args:List X0} {es:List X3}:p.decls[d]? =some dd->okA dd args->EvW p q (mv p q x (sP p q d args)) es y->EvW p q x (X3.mk dd.name args::es) y
theorem EvW.snoc{p q:AA}{x y:PP}{es:List X3}(h:EvW p q x es y){d:Nat}{dd:X7}{args:List X0}(hd:p.decls[d]? =some dd)(ha:okA dd args):EvW p q x (es++[X3.mk dd.name args]) (mv p q y (sP p q d args)):=by
 induction h with
 |nil=>exact .cons hd ha .nil
 |cons h1 h2 _ ih=>exact .cons h1 h2 ih
theorem aO3{α:Type}{o:List α}(h:o.Nodup){i j:Nat}{x:α}(hi:o[i]? =some x)(hj:o[j]? =some x):i=j:=by
 have a:=At hi;have b:=At hj;have e1:o[i]=x:=by rw[List.getElem?_eq_getElem a,oe]at hi;exact hi
 have e2:o[j]=x:=by rw[List.getElem?_eq_getElem b,oe]at hj;exact hj
 rcases Nat.lt_trichotomy i j with h1|h1|h1
 exact absurd (e1.trans e2.symm) (List.pairwise_iff_getElem.1 h i j a b h1);exact h1;exact absurd (e2.trans e1.symm) (List.pairwise_iff_getElem.1 h j i b a h1)
theorem J8{p q:AA}{L:List X5}{M:BY}(hM:MvI p q (M,L)){s:PP}{i:Nat}{t:List PP×List Nat}{cm:CM}(hB:BF (nxS p q) L s i t)(hC:CI p q L s t cm):∀(n j:Nat) (z:PP) (a:Nat) (acc:List X3),j<n->t.1[j]? =some z->t.2[j]? =some a->acc.length+j<=200000->
 ∃es,KD M (mkC s) cm (mkC z) acc=some (acc++es)/\es.length=a/\EvW p q s es.reverse z
 |0,j,z,a,acc,hj,_,_,_=>by omega
 |n+1,j,z,a,acc,hj,hz,ha,hl=>by
  rw[V7,F5,X6.eqb_dec];by_cases h0:j=0;subst h0;have e:s=z:=by have:=hB.hd;rw[hz,oe]at this;exact this.symm
  have e2:a=0:=by have:=hB.f0;rw[ha,oe]at this;exact this
  subst e;subst e2;refine⟨[],?_,rfl,.nil⟩;rw[decide_eq_true rfl,Bool.not_true,AF,CE,List.append_nil];obtain⟨pj,x,m,b,a1,a2,a3,a4,a5,rfl,a6⟩:=hC.par j z (by omega) hz;have hab:a=b+1:=by rw[ha,oe]at a4;exact a4
  subst hab;have hne:¬mkC (mv p q x m)=mkC s:=fun e=>h0 (aO3 hB.nd hz (by rw[Jn e];exact hB.hd));obtain⟨d,dd,args,g1,g2,rfl,g4⟩:=hM.val m a5;have hj1:=hB.low j _ ha;obtain⟨es,b1,b2,b3⟩:=J8 hM hB hC n pj x b (acc++[X3.mk dd.name args]) (by omega) a2 a3 (by simp;omega);have a6':(BC (Xc.mk (X6.mk 0 0) (X5.mk 0 0)) cm (mkC (mv p q x (sP p q d args)))).1=⟨mkC x,sP p q d args⟩:=a6;have g4':(BC (X3.mk ([]:List UInt8) ([]:List X0)) M (sP p q d args)).1=X3.mk dd.name args:=g4;refine⟨X3.mk dd.name args::es,?_,by simp[b2],by rw[List.reverse_cons];exact b3.snoc g1 g2⟩;rw[decide_eq_false hne,Bool.not_false,AH,a6'];simp only;rw[g4',DO (by simp;omega) (by decide),Cm];simp only;rw[b1];simp
theorem EvW.way{p q:AA}(E:EqP p q){all:List X3}(hA:aHq p q all){s x y:PP}{es:List X3}{k:Nat}(h:EvW p q x es y)(hw:Fp (nxE p q) all s k x):Fp (nxE p q) all s (k+es.length) y:=by
 induction h generalizing k with
 |nil=>exact hw
 |cons hd ha _ ih=>
  rename_i x0 y0 d0 dd0 args0 es0 _
  obtain⟨args',g1,g2,g3⟩:=hA.cov d0 dd0 args0 hd ha
  have h1:=hw.snoc g2
  have h0:nxE p q x0 (X3.mk dd0.name args')=mv p q x0 (sP p q d0 args0):=by show mv p q x0 (ofE p q (X3.mk dd0.name args'))=_;rw[Ns E hd,g3]
  rw[h0]at h1
  have h2:=ih h1
  rw[List.length_cons,show k+(es0.length+1)=k+1+es0.length from by omega]
  exact h2
theorem OL{w:List X3}(hl:w.length<=200000):Y2 w=some w.reverse:=by
 obtain⟨o,h1,h2⟩:=Am (step:=fun s:Int×Int×List X3=>Ey s.1 s.2.1 s.2.2)
  (fun s=>∃i:Nat,s.1=(i:Int)/\s.2.1=(w.length:Int)-1-i/\2*i<=w.length/\s.2.2.length=w.length/\∀k,k<w.length->s.2.2[k]? =if k<i\/w.length-1-i<k then w[w.length-1-k]? else w[k]?)
  (fun s=>(w.length-2*s.1).toNat) (fun o=>o=w.reverse)
  (by
   rintro⟨a,b,v⟩ ⟨i,rfl,hb,hi,hv,hk⟩;simp only at hb hv hk;subst hb;by_cases hc:(i:Int)<(w.length:Int)-1-i;right;have e1:(w.length:Int)-1-i=((w.length-1-i:Nat):Int):=by omega
   obtain⟨x1,hx1,_⟩:=AP (l:=v) (i:=w.length-1-i) (by omega);obtain⟨x2,hx2,_⟩:=AP (l:=v) (i:=i) (by omega);have g1:=hk (w.length-1-i) (by omega);rw[if_neg (by omega),hx1]at g1;have g2:=hk i (by omega);rw[if_neg (by omega),hx2]at g2;refine⟨(((i+1:Nat):Int),(w.length:Int)-1-((i+1:Nat):Int),(v.set i x1).set (w.length-1-i) x2),?_,⟨i+1,rfl,rfl,by omega,by simp[hv],fun k hkl=>?_⟩,by simp only;omega⟩;rw[Ey];simp only[decide_eq_true hc,AH];simp only[e1];rw[An (by omega),AK hx1,An (by omega),AK hx2,An (by omega),An (by omega),An (by rw[List.length_set];omega),An (by rw[List.length_set];omega),J1 (by omega),aEf (by omega) (by omega),Int.toNat_natCast,Int.toNat_natCast];have e3:((w.length-1-i:Nat):Int)-1=(w.length:Int)-1-((i+1:Nat):Int):=by omega
   rw[e3];rw[List.getElem?_set,List.getElem?_set,List.length_set];by_cases c1:w.length-1-i=k;rw[if_pos c1,if_pos (by omega),if_pos (by omega),g2];congr 1;omega;rw[if_neg c1];by_cases c2:i=k;rw[if_pos c2,if_pos (by omega),if_pos (by omega),g1];congr 1;omega;rw[if_neg c2,hk k hkl];by_cases c3:k<i\/w.length-1-i<k;rw[if_pos c3,if_pos (by omega)];rw[if_neg c3,if_neg (by omega)];left;refine⟨v,by simp only[Ey,decide_eq_false hc,AF],?_⟩;apply List.ext_getElem?;intro k;by_cases hkl:k<w.length;rw[hk k hkl,List.getElem?_reverse hkl];by_cases c3:k<i\/w.length-1-i<k;rw[if_pos c3];rw[if_neg c3];congr 1;omega;rw[List.getElem?_eq_none_iff.2 (by omega),List.getElem?_eq_none_iff.2 (by simp;omega)])
  ((0:Int),(w.length:Int)-1,w) ⟨0,rfl,by simp,by omega,rfl,fun k hk=>by rw[if_neg (by omega)]⟩
 subst h2;have h1':SE 0 ((w.length:Int)-1) w=some w.reverse:=h1;unfold Y2;rw[aEf (by omega) (by omega),h1',AD]
theorem aO2(i:Nat)(h:i<65537):(65537-((i+1:Nat):Int)).toNat<(65537-(i:Int)).toNat:=by omega
theorem PU{p q:AA}(E:EqP p q){s:PP}(hs:Hi p q s)(hFt:Yu p q=some true){all:List X3}(hA:aHq p q all):
 (X9 p q=some ([],false)/\Vt p q all s)\/∃(es:List X3) (z:PP),X9 p q=some (es,true)/\EvW p q s es z/\Dc p q z=true/\Vr p q all s es.length/\es.length<=100000:=by
 obtain⟨L,M,hmv,hM,hcov⟩:=aCj E
 have hsm:=hs.sm
 have hL:L.length<=65536:=hM.len E
 have hLs:∀m∈L,SmS m:=fun m hm=>by obtain⟨d,dd,args,_,_,rfl,_⟩:=hM.val m hm;exact aHd E _ _
 have toA:∀{k:Nat} {y:PP},Fp (nxS p q) L s k y->Fp (nxE p q) all s k y:=fun h=>h.other fun x m hm=>by obtain⟨d,dd,args,g1,g2,rfl,_⟩:=hM.val m hm;obtain⟨args',c1,c2,c3⟩:=hA.cov d dd args g1 g2;refine⟨_,c2,?_⟩;show mv p q x (ofE p q (X3.mk dd.name args'))=mv p q x (sP p q d args);rw[Ns E g1,c3]
 have toL:∀{k:Nat} {y:PP},Fp (nxE p q) all s k y->Fp (nxS p q) L s k y:=fun h=>h.other fun x m hm=>by obtain⟨d,dd,args,g1,g2,rfl⟩:=hA.right m hm;refine⟨sP p q d args,by have:=hcov d dd g1 args (by simpa using g2);simpa using this,?_⟩;show mv p q x (sP p q d args)=mv p q x (ofE p q (X3.mk dd.name args));rw[Ns E g1]
 have bsm:∀{i:Nat} {t:List PP×List Nat},BF (nxS p q) L s i t->∀z∈t.1,SmP z:=fun h z hz=>by obtain⟨j,hj⟩:=List.getElem?_of_mem hz;obtain⟨a,ha,_⟩:=AP (l:=_) (i:=j) (by rw[h.len];exact At hj);exact aEh E hsm (toA (h.rc j z a hj ha))
 obtain⟨c1,c2,c3,c4⟩:=hs.eqs
 obtain⟨o,h1,h2⟩:=Am (step:=fun u:Int×List X6×CM=>DX p q L M (mkC s) u.1 u.2.1 u.2.2)
  (fun u=>∃(i:Nat) (t:List PP×List Nat),u.1=(i:Int)/\u.2.1=t.1.map mkC/\BF (nxS p q) L s i t/\CI p q L s t u.2.2/\∀(j:Nat) y,j<i->t.1[j]? =some y->Dc p q y=false)
  (fun u=>(65537-u.1).toNat) (fun o=>(o=.inl ()/\Vt p q all s)\/∃(es:List X3) (z:PP),o=.inr es/\EvW p q s es z/\Dc p q z=true/\Vr p q all s es.length/\es.length<=100000)
  (by
   rintro⟨u1,u2,cm⟩ ⟨i,t,e1,e2,hB,hC,hP⟩;simp only at e1 e2 hC;subst e1;subst e2;have htl:=N0 hB.nd (bsm hB);by_cases he:i=t.1.length;have e:(i:Int)=((t.1.map mkC).length:Int):=by rw[List.length_map,he]
   refine .inl ⟨.inl (),by simp only[DX];rw[decide_eq_false (by omega),AF],.inl ⟨rfl,fun k y hw=>hB.none hP he (toL hw)⟩⟩;obtain⟨z,hz,_⟩:=AP (l:=t.1) (i:=i) (by have:=hB.le;omega);obtain⟨a,ha,hBM⟩:=hB.enter hz;have hzs:=bsm hB z (List.mem_of_getElem? hz);have hui:(t.1.map mkC)[i]? =some (mkC z):=by rw[List.getElem?_map,hz];rfl
   have a1:=(aBd E.fp (x:=(mkC z).p) hzs.1).1;have a2:=(aBd E.fq (x:=(mkC z).q) hzs.2).1;have hlow:=hB.low i a ha;have hil:=At hz;have hstep:DX p q L M (mkC s) (i:Int) (t.1.map mkC) cm=AE (Dc p q z) (AG (KD M (mkC s) cm (mkC z) []) fun o6=>AG (Y2 o6) fun r7=>some (.inr (.inr r7))) (AG (LI (i:Int) (L.length:Int) p q L M (mkC s) (mkC z) 0 (t.1.map mkC) cm) fun o12=>some (.inl (((i+1:Nat):Int),o12.1,o12.2))):=by simp only[DX,ltD hui,AH,AK hui,a1,a2,AD,Ag hui (show(t.1.map mkC).length<=9223372036854775807 by rw[List.length_map];omega)];rfl
   cases hap:Dc p q z with
   |true=>
    obtain⟨es,b1,b2,b3⟩:=J8 hM hB hC (i+1) i z a [] (by omega) hz ha (by simp;omega)
    rw[List.nil_append]at b1
    refine .inl ⟨.inr es.reverse,by simp only[hstep,hap,AH];rw[b1,AD,OL (by omega),AD],.inr ⟨es.reverse,z,rfl,b3,hap,?_,by rw[List.length_reverse,b2];omega⟩⟩
    rw[List.length_reverse,b2]
    exact⟨⟨z,toA (hB.rc i z a hz ha),hap⟩,fun k y hw hy=>hB.short hP ha (toL hw) hy⟩
   |false=>
    right
    obtain⟨cm',e3,hC'⟩:=PV E (M:=M) hL hLs i hzs hBM (bsm hB) hC (mkC s)
    have hB2:=hB.round hz ha
    refine⟨(((i+1:Nat):Int),_,cm'),by simp only[hstep,hap,AF];rw[e3,AD],⟨i+1,_,rfl,rfl,hB2,hC',fun j y hj hy=>?_⟩,aO2 i (Nat.lt_of_lt_of_le hil (Nat.le_succ_of_le htl))⟩
    have keep:∀(l:List X5) (t:List PP×List Nat) (j:Nat) (y:PP),t.1[j]? =some y->(l.foldl (bfS (nxS p q) z a) t).1[j]? =some y:=by
     intro l;induction l with
     |nil=>intro t j y h;exact h
     |cons m l ih=>intro t j y h;exact ih _ j y (UI h)
    obtain⟨y',hy',_⟩:=AP (l:=t.1) (i:=j) (by omega)
    rw[keep L t j y' hy',oe]at hy
    subst hy
    by_cases hji:j=i
    subst hji
    rw[hz,oe]at hy'
    subst hy';exact hap
    exact hP j y' (by omega) hy')
  ((0:Int),[mkC s],Cs (Ek:CM) (mkC s) z0) ⟨0,([s],[0]),rfl,rfl,BF.init,CI.init p q L s,fun j y hj=>by omega⟩
 have h1':Pi p q L M (X6.mk s.1 s.2) 0 [X6.mk s.1 s.2] (Cs (Ek:CM) (X6.mk s.1 s.2) (Xc.mk (X6.mk 0 0) (X5.mk 0 0)))=some o:=h1
 have hS:X9 p q=Ay o (fun _=>some (([]:List X3),false)) (fun o15=>some (o15,true)):=by unfold X9;rw[hFt,AD,Bool.not_true,AF,hmv,AD,An c1,An c2,c3,c4];simp only;rw[h1',AD]
 rw[hS]
 rcases h2 with⟨rfl,h⟩|⟨es,z,rfl,h⟩
 exact .inl ⟨rfl,h⟩
 exact .inr ⟨es,z,rfl,h⟩
def SoC(w:List X4):Prop:=w.Pairwise fun a b=>a.state<b.state
theorem SoC.len{n:Nat}{w:List X4}(h:SoC w)(hc:∀x∈w,CV n x):w.length<=n:=by
 have hnd:(w.map fun c=>c.state).Nodup:=by unfold List.Nodup;rw[List.pairwise_map];exact h.imp fun h=>by omega
 have:=hnd.length_le_of_subset (l₂:=(List.range n).map (fun n:Nat=>(n:Int))) fun x hx=>by obtain⟨z,hz,rfl⟩:=mm.1 hx;have:=(hc z hz).2;exact mm.2 ⟨z.state.toNat,List.mem_range.2 (by omega),by omega⟩
 simpa using this
theorem aKp{n:Nat}{w:List X4}{c:X4}(hw:∀x∈w,CV n x)(hc:CV n c)(hl:w.length<=100000):∀i:Nat,i<=w.length->(∀(j:Nat) x,i<=j->w[j]? =some x->c.state<x.state)->∃k:Nat,k<=w.length/\LY w c (i:Int)=some (k:Int)/\(∀(j:Nat) x,k<=j->w[j]? =some x->c.state<x.state)/\∀x,0<k->w[k-1]? =some x->x.state<=c.state:=by
 intro i;induction i with
 |zero=>
  intro _ h
  refine⟨0,Nat.zero_le _,?_,h,fun x h0=>by omega⟩
  rw[Dt];simp[DP,AE,BP]
 |succ i ih=>
  intro hi h
  obtain⟨x,hx,_⟩:=AP (l:=w) (i:=i) (by omega)
  have hL:=ZO hc (hw x (List.mem_of_getElem? hx))
  have hs:AB .sub .i64 ((i+1:Nat):Int) 1=(i:Int):=by rw[aCy (by omega) (by omega)];simp
  have hpos:decide ((0:Int)<((i+1:Nat):Int))=true:=decide_eq_true (by omega)
  by_cases hlt:c.state<x.state
  obtain⟨k,hk,h1,h2,h3⟩:=ih (by omega) fun j y hj hy=>by by_cases hji:j=i;subst hji;rw[hx,oe]at hy;subst hy;exact hlt;exact h j y (by omega) hy
  refine⟨k,hk,?_,h2,h3⟩
  rw[Dt]
  simp only[DP,hpos,AH,hs,AK hx,hL,AD,hlt,decide_true,Cm]
  exact h1
  refine⟨i+1,hi,?_,h,fun y _ hy=>?_⟩
  rw[Dt]
  simp only[DP,hpos,AH,hs,AK hx,hL,AD,hlt,decide_false,AF,CE]
  rw[Nat.add_sub_cancel,hx,oe]at hy
  subst hy;omega
theorem aHz{n:Nat}{w r:List X4}{c:X4}(hw:∀x∈w,CV n x)(hs:SoC w)(hc:CV n c)(hl:w.length<=100000)(h:Y0 w c=some r):SoC r:=by
 obtain⟨k,hk,h1,h2,h3⟩:=aKp hw hc hl w.length (Nat.le_refl _) fun j x hj hx=>by have:=At hx;omega
 have e1:(Ai ((0:Int)<=0/\(0:Int)<=(k:Int)/\(k:Int)<=(w.length:Int)) (
  Ai (fit ([]:List X4).length (sub w 0 (k:Int)).length 32) (
   Ai (fit (([]:List X4)++(sub w 0 (k:Int))).length [c].length 32) (
    Ai ((0:Int)<=(k:Int)/\((k:Int):Int)<=(w.length:Int)/\(w.length:Int)<=(w.length:Int)) (
     Ai (fit ((([]:List X4)++(sub w 0 (k:Int)))++[c]).length (sub w (k:Int) (w.length:Int)).length 32) (
      some (((([]:List X4)++(sub w 0 (k:Int)))++[c])++(sub w (k:Int) (w.length:Int)))))))):Option (List X4))=some (w.take k++[c]++w.drop k):=by
  rw[Hk,Hj,An (by omega),DO (by simp;omega) (by decide),DO (by simp;omega) (by decide),An (by omega),DO (by simp;omega) (by decide),List.nil_append]
 have hmid:(∀x,0<k->w[k-1]? =some x->x.state<c.state)->SoC (w.take k++[c]++w.drop k):=fun h4=>by
  have hlow:∀x∈w.take k,x.state<c.state:=fun x hx=>by obtain⟨j,hj⟩:=List.getElem?_of_mem hx;have hjk:=At hj;rw[List.length_take]at hjk;rw[List.getElem?_take,if_pos (by omega)]at hj;obtain⟨y,hy,_⟩:=AP (l:=w) (i:=k-1) (by omega);have h5:=h4 y (by omega) hy;by_cases hje:j=k-1;subst hje;rw[hj,oe]at hy;subst hy;exact h5;have a:=At hj;have b:=At hy;have:=List.pairwise_iff_getElem.1 hs j (k-1) a b (by omega);rw[(List.getElem?_eq_some_iff.1 hj).2,(List.getElem?_eq_some_iff.1 hy).2]at this;omega
  have hup:∀x∈w.drop k,c.state<x.state:=fun x hx=>by obtain⟨j,hj⟩:=List.getElem?_of_mem hx;rw[List.getElem?_drop]at hj;exact h2 (k+j) x (by omega) hj
  unfold SoC;rw[List.pairwise_append,List.pairwise_append];refine⟨⟨hs.sublist (List.take_sublist k w),List.pairwise_singleton _ _,fun a ha b hb=>by rw[List.mem_singleton.1 hb];exact hlow a ha⟩,hs.sublist (List.drop_sublist k w),fun a ha b hb=>?_⟩;have hb2:=hup b hb;rcases ma.1 ha with h|h
  have:=hlow a h;omega;rw[List.mem_singleton.1 h];exact hb2
 unfold Y0 at h;rw[h1,AD]at h;by_cases h0:0<k;obtain⟨x,hx,_⟩:=AP (l:=w) (i:=k-1) (by omega);have hsb:=aCy h0 (by omega);have hO:=aH3 (hw x (List.mem_of_getElem? hx)) hc;have hpos:decide ((0:Int)<(k:Int))=true:=decide_eq_true (by omega);simp only[hpos,AH,hsb,AK hx,hO,AD,e1]at h;by_cases hxc:x=c;simp only[hxc,decide_true,AH,oe]at h;subst h;exact hs;simp only[hxc,decide_false,AF,oe]at h;subst h;refine hmid fun y _ hy=>?_;rw[hx,oe]at hy;subst hy;have h6:=h3 x h0 hx;have:x.state≠c.state:=fun e=>hxc ((hw x (List.mem_of_getElem? hx)).ext hc e);omega;have hpos:decide ((0:Int)<(k:Int))=false:=decide_eq_false (by omega);simp only[hpos,AF,e1,oe]at h;subst h;exact hmid fun y h7=>by omega
theorem PR{n:Nat}(s1:List X4)(s2:List AL)(s9 s10:Int)(q:AA){r:List X4}(hr:∀x∈r,CV n x)(hrl:r.length<=12){w0 w:List X4}(hw:∀x∈w0,CV n x)(hl:w0.length<=90000)(hs:SoC w0)(h:XC s1 s2 s9 s10 r q w0 0=some w):SoC w:=by
 obtain⟨s',⟨j,v,rfl,hj,hcv,hln,hso⟩,hst⟩:=Eg (step:=fun s:List X4×Int=>C8 s1 s2 s9 s10 r q s.1 s.2)
  (I:=fun s=>∃(j:Nat) (w:List X4),s=(w,(j:Int))/\j<=r.length/\(∀x∈w,CV n x)/\w.length<=w0.length+j/\SoC w)
  (by rintro s s' ⟨j,v,rfl,hj,hcv,hln,hso⟩ hst;by_cases he:j=r.length;subst he;simp only[C8,ltI,AF]at hst;cases hst;obtain⟨y,hy,_⟩:=AP (l:=r) (i:=j) (by omega);have hcy:=hr y (List.mem_of_getElem? hy);obtain⟨r2,hr2,hP⟩:=(YJ hcv hcy (by omega)).1;have hP2:=hP.2;simp only[C8,ltD hy,AH,AK hy,hr2,AD,Ag hy (show r.length<=9223372036854775807 by omega),oe,Sum.inl.injEq]at hst;subst hst;exact⟨j+1,r2,rfl,by omega,hP.cv hcv hcy,by omega,aHz hcv hso hcy (by omega) hr2⟩)
  (s:=(w0,(0:Int))) ⟨0,w0,rfl,by omega,hw,by omega,hs⟩ h
 by_cases he:j=r.length;subst he;simp only[C8,ltI,AF,oe,Sum.inr.injEq]at hst;subst hst;exact hso;obtain⟨y,hy,_⟩:=AP (l:=r) (i:=j) (by omega);have hcy:=hr y (List.mem_of_getElem? hy);obtain⟨r2,hr2,hP⟩:=(YJ hcv hcy (by omega)).1;simp only[C8,ltD hy,AH,AK hy,hr2,AD,oe]at hst;cases hst
theorem PO{q:AA}(hF:CX q)(hR:Ad q)(hS:Bh q){l:List AL}(hl:Is l){cs:List X4}(hc:∀c∈cs,CV q.states.length c)(hcl:cs.length<=1000){w:List X4}{b:Int}(h:XA cs l q [] 0 0=some (w,b)):SoC w:=by
 obtain⟨s',⟨j,v,rfl,hj,hcv,hln,hso⟩,hst⟩:=Eg (step:=fun s:List X4×Int×Int=>C7 cs l q s.1 s.2.1 s.2.2)
  (I:=fun s=>∃(j:Nat) (w:List X4),s=(w,0,(j:Int))/\j<=cs.length/\(∀x∈w,CV q.states.length x)/\w.length<=12*j/\SoC w)
  (by rintro s s' ⟨j,v,rfl,hj,hcv,hln,hso⟩ hst;by_cases he:j=cs.length;subst he;simp only[C7,ltI,AF]at hst;cases hst;obtain⟨c,hy,_⟩:=AP (l:=cs) (i:=j) (by omega);have hcy:=hc c (List.mem_of_getElem? hy);obtain⟨r,hr,hrc,hrl,hrm⟩:=aE1 hF hR hS hl hcy;obtain⟨w2,hw2,hw2c,hw2l,hw2m⟩:=Fx cs l 0 (j:Int) q hrc hrl hcv (by omega);simp only[C7,ltD hy,AH,AK hy,hr,AD,OF,hw2,Ag hy (show cs.length<=9223372036854775807 by omega),oe,Sum.inl.injEq]at hst;subst hst;exact⟨j+1,w2,rfl,by omega,hw2c,by omega,PR cs l 0 (j:Int) q hrc hrl hcv (by omega) hso hw2⟩)
  (s:=([],(0:Int),(0:Int))) ⟨0,[],rfl,by omega,by simp,by simp,List.Pairwise.nil⟩ h
 by_cases he:j=cs.length;subst he;simp only[C7,ltI,AF,oe,Sum.inr.injEq,pe]at hst;obtain⟨rfl,_⟩:=hst;exact hso;obtain⟨c,hy,_⟩:=AP (l:=cs) (i:=j) (by omega);have hcy:=hc c (List.mem_of_getElem? hy);obtain⟨r,hr,hrc,hrl,hrm⟩:=aE1 hF hR hS hl hcy;obtain⟨w2,hw2,hw2c,hw2l,hw2m⟩:=Fx cs l 0 (j:Int) q hrc hrl hcv (by omega);simp only[C7,ltD hy,AH,AK hy,hr,AD,OF,hw2,oe]at hst;cases hst
theorem aHr{q:AA}(hF:CX q)(hR:Ad q)(hS:Bh q){l:List AL}(hl:Is l){cs:List X4}(hc:∀c∈cs,CV q.states.length c)(hcl:cs.length<=12):
 ∃w,Xn q cs l=some (w,0)/\(∀x∈w,CV q.states.length x)/\SoC w/\∀x,x∈w↔aEl q l cs x:=by
 obtain⟨w,ho',hcw,hlen,hm⟩:=PN hF hR hS hl hc (by omega)
 refine⟨w,?_,hcw,PO hF hR hS hl hc (by omega) ho',hm⟩
 unfold Xn
 rw[ho',AD]
 have hd:decide ((256:Int)<(w.length:Int))=false:=decide_eq_false (by omega)
 simp only[decide_true,AH,hd,Re,AF,AD,Bool.not_true]
structure Cf(q:AA)(set:List X4)(m:Nat):Prop where
 cv:∀c∈set,CV q.states.length c
 so:SoC set
 bits:∀k:Nat,m.testBit k=true↔ ∃x∈set,x.state=(k:Int)
def evN(q:AA)(d:Nat)(m:Nat)(args:List X0):Nat:=if mkM q [] d args=0 then m else H6 q m (mkM q [] d args)
theorem Cf.step{q:AA}(hF:CX q)(hR:Ad q)(hS:Bh q){set:List X4}{m:Nat}(h:Cf q set m){d:Nat}{dd:X7}(hd:q.decls[d]? =some dd){args:List X0}(ha:okA dd args):∃set',Qq q [] set (X3.mk dd.name args)=some (set',0)/\Cf q set' (evN q d m args):=by
 have hE:=aGx hR hd ha;have hB:BR []:=⟨List.Pairwise.nil,by simp⟩;have h8:=hS.states;have hsl:=h.so.len h.cv;obtain⟨l1,e1,e2,_,_⟩:=Pg hF hR (b:=[]) (by simp) hE;have hH:PX q.symbols.length (MB q [] (X3.mk dd.name args)):=FH hF hR hS _ [];obtain⟨M,hM,_,hMb⟩:=LA hF.symbols hH;obtain⟨l1',l2',m1,m2,m3⟩:=aDw hF hR hS hB hd args ha.1;rw[e1,oe]at m1;subst m1;rw[e2,oe]at m2;subst m2;rw[hM,oe]at m3;have hMe:M=mkM q [] d args:=by omega
 unfold Qq;rw[e1,AD,e2,AD,Cr];split;rename_i h0;have:mkM q [] d args=0:=by rw[<-hMe];refine Jc fun k=>?_;rw[hMb k];have:MB q [] (X3.mk dd.name args)=[]:=List.length_eq_zero_iff.1 (by omega);rw[this];simp
 refine⟨set,rfl,?_⟩;unfold evN;rw[if_pos this];exact h;rename_i hne;obtain⟨w,hw,a1,a2,a3⟩:=aHr hF hR hS hH.1 h.cv (by omega);have hM0:mkM q [] d args≠0:=fun hz=>by obtain⟨x,hx,_⟩:=AP (l:=MB q [] (X3.mk dd.name args)) (i:=0) (by omega);have hxm:=List.mem_of_getElem? hx;have hs:=hH.sym x hxm;have:=(hMb x.symbol.toNat).2 ⟨x,hxm,by omega⟩;rw[hMe,hz]at this;simp at this
 rw[hw,AD];refine⟨w,rfl,a1,a2,fun k=>?_⟩;have hsame:∀c,c∈KS q.states.length m↔c∈set:=fun c=>by
  rw[HC];constructor;rintro⟨s,hs,hb,rfl⟩;obtain⟨x,hx,he⟩:=(h.bits s).1 hb;have hc:=h.cv x hx;have:x=X4.mk (s:Int) []:=by cases x;have h1:=hc.1;simp only at he h1;rw[he,h1]
  rw[<-this];exact hx;intro hc;have hcv:=h.cv c hc;have h1:=hcv.2;refine⟨c.state.toNat,by omega,(h.bits _).2 ⟨c,hc,by omega⟩,?_⟩;cases c;have h2:=hcv.1;simp only at h1 h2⊢;rw[h2];congr 1;omega
 unfold evN;rw[if_neg hM0,<-hMe,VD hF hR hH hMb k];constructor;rintro⟨x,⟨c,hc,ho⟩,hk⟩;exact⟨x,(a3 x).2 ⟨c,(hsame c).1 hc,ho⟩,hk⟩;rintro⟨x,hx,hk⟩;obtain⟨c,hc,ho⟩:=(a3 x).1 hx;exact⟨x,⟨c,(hsame c).2 hc,ho⟩,hk⟩
theorem Cf.acc{q:AA}{set:List X4}{m:Nat}(h:Cf q set m):set.any (aBf q)=PH q m:=by rw[Bool.eq_iff_iff,aBe,List.any_eq_true];constructor;rintro⟨c,hc,ha⟩;have hcv:=(h.cv c hc).2;obtain⟨st,hst,he⟩:=O0 hcv.1 hcv.2;unfold aBf at ha;rw[hst]at ha;exact⟨c.state.toNat,st,hst,ha,(h.bits _).2 ⟨c,hc,by omega⟩⟩;rintro⟨i,st,hst,ha,hb⟩;obtain⟨x,hx,he⟩:=(h.bits i).1 hb;refine⟨x,hx,?_⟩;unfold aBf;rw[he,Int.toNat_natCast,hst];exact ha
inductive EvR(q:AA):Nat->List X3->Nat->Prop
 |nil {m:Nat}:EvR q m [] m
 |cons {m n d:Nat} {dd:X7} {args:List X0} {es:List X3}:q.decls[d]? =some dd->okA dd args->EvR q (evN q d m args) es n->EvR q m (X3.mk dd.name args::es) n
theorem V3{q:AA}(hF:CX q)(hR:Ad q)(hS:Bh q)(l:List X3)(hl:l.length<=9223372036854775806){m n:Nat}{rest:List X3}(hw:EvR q m rest n):∀(i:Nat) (set:List X4),l.drop i=rest->i<=l.length->Cf q set m->∃set',OW [] l q set (i:Int)=some (.inl set')/\Cf q set' n:=by
 induction hw with
 |nil=>
  intro i set hd hi hC
  have:i=l.length:=by have:=List.drop_eq_nil_iff.1 hd;omega
  subst this
  exact⟨set,by rw[NG,Gk,ltI,AF,CE],hC⟩
 |cons hdd ha _ ih=>
  rename_i es _
  intro i set hd hi hC
  have hlt:i<l.length:=by
   rcases Nat.lt_or_ge i l.length with h|h
   exact h;rw[List.drop_eq_nil_of_le h]at hd;cases hd
  obtain⟨e,he,hdr⟩:=AP hlt
  rw[hdr,List.cons.injEq]at hd
  obtain⟨rfl,hd⟩:=hd
  obtain⟨set',s1,s2⟩:=hC.step hF hR hS hdd ha
  obtain⟨w,g1,g2⟩:=ih (i+1) set' hd (by omega) s2
  refine⟨w,?_,g2⟩
  rw[NG,Gk,ltD he,AH,AK he,s1,AD]
  rw[show(!decide (((set',(0:Int)):List X4×Int).2=0))=false from rfl,AF,Ag he (by omega),Cm]
  exact g1
theorem aHy{q:AA}(hF:CX q)(hR:Ad q)(hq:q.quants=[])(l:List X3)(hl:l.length<=9223372036854775806)(he:∀e∈l,e.args.length<=9223372036854775807):Z8 q l=some []:=by
 have hd:=hF.decls;have hadd:∀e∈l,Xj q [] e=some []:=fun e hm=>by
  unfold Xj;rw[aFr _ _ (by omega) (he e hm),AD];have hb:∃hs,RF [] (eR q.decls e) q e=some hs:=by
   unfold RF;cases eR q.decls e with
   |true=>rw[AH,XZ hF hR,AD];exact⟨_,rfl⟩
   |false=>exact⟨_,rfl⟩
  obtain⟨hs,hb⟩:=hb;rw[hb,AD,Wu,I1,hq];rfl
 have h:aF6 l q [] 0=some []:=by
  obtain⟨o,h1,h2⟩:=Am (step:=fun s:List (List X0)×Int=>Gx l q s.1 s.2) (fun s=>∃i:Nat,s=([],(i:Int))/\i<=l.length) (fun s=>(l.length-s.2).toNat) (fun o=>o=[])
   (by rintro s ⟨i,rfl,hi⟩;by_cases hie:i=l.length;subst hie;exact .inl ⟨[],by simp only[Gx,ltI,AF],rfl⟩;obtain⟨e,hei,_⟩:=AP (l:=l) (i:=i) (by omega);refine .inr ⟨([],((i+1:Nat):Int)),?_,⟨i+1,rfl,by omega⟩,by simp only;omega⟩;simp only[Gx,ltD hei,AH,AK hei,hadd e (List.mem_of_getElem? hei),AD,Ag hei (show l.length<=9223372036854775807 by omega)])
   ([],(0:Int)) ⟨0,rfl,Nat.zero_le _⟩
  subst h2;exact h1
 unfold Z8;rw[hq];show Ai _ _=_;rw[An (by decide),show(List.replicate ((([]:List Xq).length:Nat):Int).toNat ([]:List X0))=[]from rfl,h,AD]
theorem F2{q:AA}(h:Yn q=some true):0<=q.start/\q.start<q.states.length:=by
 unfold Yn at h;obtain⟨r1,_,h⟩:=bS h;rcases iS h with⟨_,h⟩|⟨_,h⟩
 cases h;rcases iS h with⟨_,h⟩|⟨_,h⟩
 cases h;rcases iS h with⟨_,h⟩|⟨_,h⟩
 cases h;rcases iS h with⟨_,h⟩|⟨_,h⟩
 cases h;rcases iS h with⟨_,h⟩|⟨_,h⟩
 cases h;rcases iS h with⟨_,h⟩|⟨_,h⟩
 cases h;rcases iS h with⟨_,h⟩|⟨_,h⟩
 cases h;rcases iS h with⟨_,h⟩|⟨h1,h⟩
 cases h;rcases iS h with⟨_,h⟩|⟨h2,h⟩
 cases h;have a1:=of_decide_eq_false h1;have a2:=of_decide_eq_false h2;omega
theorem Mb{q:AA}(hF:CX q)(hR:Ad q)(hS:Bh q)(hq:q.quants=[]){st:Nat}(hst:q.start=(st:Int))(hs8:st<q.states.length)(l:List X3)(hl:l.length<=9223372036854775806)(he:∀e∈l,e.args.length<=9223372036854775807){n:Nat}(hw:EvR q (2^st) l n):Q0 q l=some (PH q n):=by
 have h8:=hS.states;have hC0:Cf q [X4.mk q.start []] (2^st):=by refine⟨fun c hc=>?_,List.pairwise_singleton _ _,fun k=>?_⟩;rw[List.mem_singleton.1 hc];exact⟨rfl,by rw[hst];show(0:Int)<=st;omega,by rw[hst];show(st:Int)<_;omega⟩;rw[Nat.testBit_two_pow,decide_eq_true_eq,hst];constructor;rintro rfl;exact⟨_,List.mem_singleton.2 rfl,rfl⟩;rintro⟨x,hx,e⟩;rw[List.mem_singleton.1 hx]at e;have e':(st:Int)=(k:Int):=e;omega
 obtain⟨set,h1,h2⟩:=V3 hF hR hS l hl hw 0 _ rfl (Nat.zero_le _) hC0;have hlen:=h2.so.len h2.cv;have hA:Qr q [] l=some (PH q n):=by
  unfold Qr;rw[V0 (by rw[hS.frees];simp),AD,hS.frees];unfold Yr;have h1':OW [] l q [X4.mk q.start (([]:List Xt).map (·.init_))] 0=some (.inl set):=h1
  rw[h1',AD,Bo,AD];simp only;rw[J7 (fun c hc=>(h2.cv c hc).2) (by omega),AD,h2.acc]
 have hH:Yi q [] 0 [] l=some (PH q n):=by show aJa (aJc 99999) q [] 0 [] l=_;unfold aJa;rw[decide_eq_true (by simp),AH,hA,AD]
 unfold Q0;rw[aHy hF hR hq l hl he,AD,hH,AD]
def La(s0:List Xe)(s7:Int)(s8:Int):Option (Unit⊕Int):=itE (fun s:Int=>Ez s0 s7 s) 70 s8
theorem M9(s0:List Xe)(s7:Int)(s8:Int):Le (La s0 s7 s8) (OU s0 s7 s8):=by unfold La OU;repeat' (first|with_reducible refine BD (fun _=>?_) _ _|refine BD (fun _=>?_) _ _|exact Le.refl _)
def aNa(a0:List Xe):Option (Int):=
 AG (La a0 (a0.length:Int) 0) fun o3=>
 Ay o3 (fun o4=>
  some (-1)) (fun o5=>
  some o5)
theorem aIx(a0:List Xe):Le (aNa a0) (Y4 a0):=by unfold aNa Y4;repeat' (first|with_reducible refine AX ?_ fun _=>?_|with_reducible refine DF (fun _=>?_) fun _=>?_|with_reducible exact M9 _ _ _|exact M9 _ _ _|refine AX ?_ fun _=>?_|refine DF (fun _=>?_) fun _=>?_|exact Le.refl _)
def aOn(a0:List Xe):Option (Bool):=
 AG (aNa a0) fun r1=>
 some (decide (0<=r1))
theorem aJ2(a0:List Xe):Le (aOn a0) (Zr a0):=by unfold aOn Zr;repeat' (first|with_reducible refine AX ?_ fun _=>?_|with_reducible exact aIx _|exact aIx _|refine AX ?_ fun _=>?_|exact Le.refl _)
def aOt(a0:AA):Option (Bool):=
 AE (decide ((a0.frees.length:Int)=0)) (
  AG (aOn a0.trans) fun r1=>
  some (!r1)) (
  some false)
theorem aJ5(a0:AA):Le (aOt a0) (Zu a0):=by unfold aOt Zu;repeat' (first|with_reducible refine AX ?_ fun _=>?_|with_reducible refine Ap ?_ ?_|with_reducible exact aJ2 _|exact aJ2 _|refine AX ?_ fun _=>?_|refine Ap ?_ ?_|exact Le.refl _)
def aK4(a0:AA):Option (Bool):=
 AG (aOt a0) fun r1=>
 AE (r1) (
  AE (decide ((a0.quants.length:Int)<=1)) (
   AE (decide ((a0.states.length:Int)<=8)) (
    some (decide ((a0.symbols.length:Int)<=8))) (
    some false)) (
   some false)) (
  some false)
theorem aJy(a0:AA):Le (aK4 a0) (Zo a0):=by unfold aK4 Zo;repeat' (first|with_reducible refine AX ?_ fun _=>?_|with_reducible refine Ap ?_ ?_|with_reducible exact aJ5 _|exact aJ5 _|refine AX ?_ fun _=>?_|refine Ap ?_ ?_|exact Le.refl _)
def Lb(s0:List Int)(s1:List Int)(s12:Int)(s13:Int):Option (Unit⊕Unit):=itE (fun s:Int=>E0 s0 s1 s12 s) 70 s13
theorem NA(s0:List Int)(s1:List Int)(s12:Int)(s13:Int):Le (Lb s0 s1 s12 s13) (SM s0 s1 s12 s13):=by unfold Lb SM;repeat' (first|with_reducible refine BD (fun _=>?_) _ _|refine BD (fun _=>?_) _ _|exact Le.refl _)
def aNc(a0:List Int)(a1:List Int):Option (Bool):=
 AE (!decide ((a0.length:Int)=(a1.length:Int))) (
  some false) (
  AG (Lb a0 a1 (a0.length:Int) 0) fun o3=>
  Ay o3 (fun o4=>
   some true) (fun o5=>
   some false))
theorem aIy(a0:List Int)(a1:List Int):Le (aNc a0 a1) (Y5 a0 a1):=by unfold aNc Y5;repeat' (first|with_reducible refine AX ?_ fun _=>?_|with_reducible refine Ap ?_ ?_|with_reducible refine DF (fun _=>?_) fun _=>?_|with_reducible exact NA _ _ _ _|exact NA _ _ _ _|refine AX ?_ fun _=>?_|refine Ap ?_ ?_|refine DF (fun _=>?_) fun _=>?_|exact Le.refl _)
def aOp(a0:X7)(a1:X7):Option (Bool):=
 AE (decide (a0.name=a1.name)) (
  AG (aNc a0.types a1.types) fun r1=>
  some r1) (
  some false)
theorem aJ3(a0:X7)(a1:X7):Le (aOp a0 a1) (Zs a0 a1):=by unfold aOp Zs;repeat' (first|with_reducible refine AX ?_ fun _=>?_|with_reducible refine Ap ?_ ?_|with_reducible exact aIy _ _|exact aIy _ _|refine AX ?_ fun _=>?_|refine Ap ?_ ?_|exact Le.refl _)
def GU(s1:List X7)(s15:List X7)(s16:Int)(s17:Int):Option ((Int)⊕(Unit⊕Unit)):=
 AE (decide (s17<s16)) (
  AW s15 s17 fun x1=>
  AW s1 s17 fun x2=>
  AG (aOp x1 x2) fun r3=>
  AE (!r3) (
   some (.inr (.inr ()))) (
   some (.inl (AB .add .i64 s17 1)))) (
  some (.inr (.inl ())))
theorem IL(s1:List X7)(s15:List X7)(s16:Int)(s17:Int):Le (GU s1 s15 s16 s17) (EJ s1 s15 s16 s17):=by unfold GU EJ;repeat' (first|with_reducible refine AX ?_ fun _=>?_|with_reducible refine Ap ?_ ?_|with_reducible refine Di fun _=>?_|with_reducible exact aJ3 _ _|exact aJ3 _ _|refine AX ?_ fun _=>?_|refine Ap ?_ ?_|refine Di fun _=>?_|exact Le.refl _)
def LT(s1:List X7)(s15:List X7)(s16:Int)(s17:Int):Option (Unit⊕Unit):=itE (fun s:Int=>GU s1 s15 s16 s) 70 s17
theorem M2(s1:List X7)(s15:List X7)(s16:Int)(s17:Int):Le (LT s1 s15 s16 s17) (Rv s1 s15 s16 s17):=by unfold LT Rv;repeat' (first|with_reducible refine BD (fun _=>?_) _ _|with_reducible exact IL _ _ _ _|exact IL _ _ _ _|refine BD (fun _=>?_) _ _|exact Le.refl _)
def aMy(a0:List X7)(a1:List X7):Option (Bool):=
 AE (!decide ((a0.length:Int)=(a1.length:Int))) (
  some false) (
  AG (LT a1 a0 (a0.length:Int) 0) fun o4=>
  Ay o4 (fun o5=>
   some true) (fun o6=>
   some false))
theorem aIr(a0:List X7)(a1:List X7):Le (aMy a0 a1) (Xu a0 a1):=by unfold aMy Xu;repeat' (first|with_reducible refine AX ?_ fun _=>?_|with_reducible refine Ap ?_ ?_|with_reducible refine DF (fun _=>?_) fun _=>?_|with_reducible exact M2 _ _ _ _|exact M2 _ _ _ _|refine AX ?_ fun _=>?_|refine Ap ?_ ?_|refine DF (fun _=>?_) fun _=>?_|exact Le.refl _)
def aOr(a0:List X7)(a1:List X7):Option (Bool):=
 AG (aMy a0 a1) fun r1=>
 some r1
theorem aJ4(a0:List X7)(a1:List X7):Le (aOr a0 a1) (Zt a0 a1):=by unfold aOr Zt;repeat' (first|with_reducible refine AX ?_ fun _=>?_|with_reducible exact aIr _ _|exact aIr _ _|refine AX ?_ fun _=>?_|exact Le.refl _)
def aJn(a0:AA)(a1:AA):Option (Bool):=
 AG (aK4 a0) fun r1=>
 AE (r1) (
  AG (aK4 a1) fun r2=>
  AE (r2) (
   AE (decide ((AB .add .i64 (a0.quants.length:Int) (a1.quants.length:Int))=0)) (
    AG (aOr a0.decls a1.decls) fun r3=>
    some r3) (
    some false)) (
   some false)) (
  some false)
theorem OX(a0:AA)(a1:AA):Le (aJn a0 a1) (Yu a0 a1):=by unfold aJn Yu;repeat' (first|with_reducible refine AX ?_ fun _=>?_|with_reducible refine Ap ?_ ?_|with_reducible exact aJy _|with_reducible exact aJ4 _ _|exact aJy _|exact aJ4 _ _|refine AX ?_ fun _=>?_|refine Ap ?_ ?_|exact Le.refl _)
def Lc(s2:AA)(s3:AA)(s10:List X7)(s11:Int)(s12:Int)(w508:MP X5 X3)(w750:List X5):Option ((MP X5 X3×List X5)):=itE (fun s:Int×MP X5 X3×List X5=>E2 s2 s3 s10 s11 s.1 s.2.1 s.2.2) 70 (s12,w508,w750)
theorem NB(s2:AA)(s3:AA)(s10:List X7)(s11:Int)(s12:Int)(w508:MP X5 X3)(w750:List X5):Le (Lc s2 s3 s10 s11 s12 w508 w750) (SP s2 s3 s10 s11 s12 w508 w750):=by unfold Lc SP;repeat' (first|with_reducible refine BD (fun _=>?_) _ _|refine BD (fun _=>?_) _ _|exact Le.refl _)
def aNe(a0:AA)(a1:AA):Option (List X5×MP X5 X3):=
 AG (Lc a0 a1 a0.decls (a0.decls.length:Int) 0 (Ek:MP X5 X3) ([]:List X5)) fun o3=>
 some (o3.2,o3.1)
theorem aIz(a0:AA)(a1:AA):Le (aNe a0 a1) (Y6 a0 a1):=by unfold aNe Y6;repeat' (first|with_reducible refine AX ?_ fun _=>?_|with_reducible exact NB _ _ _ _ _ _ _|exact NB _ _ _ _ _ _ _|refine AX ?_ fun _=>?_|exact Le.refl _)
def LX(s1:Int)(s8:List Xd)(s9:Int)(s10:Int):Option (Unit⊕Unit):=itE (fun s:Int=>Ew s1 s8 s9 s) 70 s10
theorem M7(s1:Int)(s8:List Xd)(s9:Int)(s10:Int):Le (LX s1 s8 s9 s10) (R3 s1 s8 s9 s10):=by unfold LX R3;repeat' (first|with_reducible refine BD (fun _=>?_) _ _|refine BD (fun _=>?_) _ _|exact Le.refl _)
def aK2(a0:AA)(a1:Int):Option (Bool):=
 AG (LX a1 a0.states (a0.states.length:Int) 0) fun o2=>
 Ay o2 (fun o3=>
  some false) (fun o4=>
  some true)
theorem aIu(a0:AA)(a1:Int):Le (aK2 a0 a1) (Xy a0 a1):=by unfold aK2 Xy;repeat' (first|with_reducible refine AX ?_ fun _=>?_|with_reducible refine DF (fun _=>?_) fun _=>?_|with_reducible exact M7 _ _ _ _|exact M7 _ _ _ _|refine AX ?_ fun _=>?_|refine DF (fun _=>?_) fun _=>?_|exact Le.refl _)
def LZ(s2:Int)(s3:Int)(w0:List X3):Option ((List X3)):=itE (fun s:Int×Int×List X3=>Ey s.1 s.2.1 s.2.2) 70 (s2,s3,w0)
theorem M8(s2:Int)(s3:Int)(w0:List X3):Le (LZ s2 s3 w0) (SE s2 s3 w0):=by unfold LZ SE;repeat' (first|with_reducible refine BD (fun _=>?_) _ _|refine BD (fun _=>?_) _ _|exact Le.refl _)
def aM7(w0:List X3):Option (List X3):=
 AG (LZ 0 (AB .sub .i64 (w0.length:Int) 1) w0) fun o3=>
 some o3
theorem aIw(w0:List X3):Le (aM7 w0) (Y2 w0):=by unfold aM7 Y2;repeat' (first|with_reducible refine AX ?_ fun _=>?_|with_reducible exact M8 _ _ _|exact M8 _ _ _|refine AX ?_ fun _=>?_|exact Le.refl _)
def LM(s1:Int)(s2:Int)(s7:Int)(s8:Int)(s14:List Xd)(s15:Int)(s16:Int)(s28:List Xe)(s29:Int)(w3:AA)(w9:Xd)(s10:Int)(s30:Int):Option (Int):=itE (fun s:Int×Int=>Eu s1 s2 s7 s8 s14 s15 s16 s28 s29 w3 w9 s.1 s.2) 70 (s10,s30)
theorem Mn(s1:Int)(s2:Int)(s7:Int)(s8:Int)(s14:List Xd)(s15:Int)(s16:Int)(s28:List Xe)(s29:Int)(w3:AA)(w9:Xd)(s10:Int)(s30:Int):Le (LM s1 s2 s7 s8 s14 s15 s16 s28 s29 w3 w9 s10 s30) (OO s1 s2 s7 s8 s14 s15 s16 s28 s29 w3 w9 s10 s30):=by unfold LM OO;repeat' (first|with_reducible refine BD (fun _=>?_) _ _|refine BD (fun _=>?_) _ _|exact Le.refl _)
def LK(s1:Int)(s2:Int)(s7:Int)(s14:List Xd)(s15:Int)(s16:Int)(w3:AA):Option (Int):=
 AW s14 s16 fun x1=>
 Ai (0<=(IntKind.wrap .u64 s16)) (
  AE (decide ((AB .and .u32 s1 (AB .shl .u32 1 (IntKind.wrap .u64 s16)))=0)) (
   some s7) (
   AG (LM s1 s2 s7 s16 s14 s15 s16 w3.trans (w3.trans.length:Int) w3 x1 0 0) fun o6=>
   AE (decide (o6=0)) (
    AG (Iz s1 s2 s7 s16 o6 s14 s15 s16 (!x1.next) w3) fun o7=>
    some (AB .or .u32 s7 o7)) (
    AG (Iz s1 s2 s7 s16 o6 s14 s15 s16 false w3) fun o8=>
    some (AB .or .u32 s7 o8))))
theorem Mj(s1:Int)(s2:Int)(s7:Int)(s14:List Xd)(s15:Int)(s16:Int)(w3:AA):Le (LK s1 s2 s7 s14 s15 s16 w3) (ON s1 s2 s7 s14 s15 s16 w3):=by unfold LK ON;repeat' (first|with_reducible refine AX ?_ fun _=>?_|with_reducible refine Ap ?_ ?_|with_reducible refine E6 ?_|with_reducible refine Di fun _=>?_|with_reducible exact Mn _ _ _ _ _ _ _ _ _ _ _ _ _|exact Mn _ _ _ _ _ _ _ _ _ _ _ _ _|refine AX ?_ fun _=>?_|refine Ap ?_ ?_|refine E6 ?_|refine Di fun _=>?_|exact Le.refl _)
def F7(s1:Int)(s2:Int)(s14:List Xd)(s15:Int)(w3:AA)(s7:Int)(s16:Int):Option ((Int×Int)⊕(Int)):=
 AE (decide (s16<s15)) (
  AG (LK s1 s2 s7 s14 s15 s16 w3) fun o9=>
  some (.inl (o9,(AB .add .i64 s16 1)))) (
  some (.inr s7))
theorem IK(s1:Int)(s2:Int)(s14:List Xd)(s15:Int)(w3:AA)(s7:Int)(s16:Int):Le (F7 s1 s2 s14 s15 w3 s7 s16) (DY s1 s2 s14 s15 w3 s7 s16):=by unfold F7 DY;repeat' (first|with_reducible refine AX ?_ fun _=>?_|with_reducible refine Ap ?_ ?_|with_reducible exact Mj _ _ _ _ _ _ _|exact Mj _ _ _ _ _ _ _|refine AX ?_ fun _=>?_|refine Ap ?_ ?_|exact Le.refl _)
def LL(s1:Int)(s2:Int)(s14:List Xd)(s15:Int)(w3:AA)(s7:Int)(s16:Int):Option (Int):=itE (fun s:Int×Int=>F7 s1 s2 s14 s15 w3 s.1 s.2) 70 (s7,s16)
theorem Mm(s1:Int)(s2:Int)(s14:List Xd)(s15:Int)(w3:AA)(s7:Int)(s16:Int):Le (LL s1 s2 s14 s15 w3 s7 s16) (Pq s1 s2 s14 s15 w3 s7 s16):=by unfold LL Pq;repeat' (first|with_reducible refine BD (fun _=>?_) _ _|with_reducible exact IK _ _ _ _ _ _ _|exact IK _ _ _ _ _ _ _|refine BD (fun _=>?_) _ _|exact Le.refl _)
def aK1(a0:AA)(a1:Int)(a2:Int):Option (Int):=
 AG (LL a1 a2 a0.states (a0.states.length:Int) a0 0 0) fun o10=>
 some o10
theorem WG(a0:AA)(a1:Int)(a2:Int):Le (aK1 a0 a1 a2) (Xa a0 a1 a2):=by unfold aK1 Xa;repeat' (first|with_reducible refine AX ?_ fun _=>?_|with_reducible exact Mm _ _ _ _ _ _ _|exact Mm _ _ _ _ _ _ _|refine AX ?_ fun _=>?_|exact Le.refl _)
def LU(s11:Bool)(w4:AA)(w5:AA)(w6:X6)(w7:X5)(w8:X6):Option (X6):=
 AE (s11) (
  AG (aK1 w4 w6.p w7.p) fun r1=>
  some (X6.mk r1 w6.q)) (
  some w6)
theorem M5(s11:Bool)(w4:AA)(w5:AA)(w6:X6)(w7:X5)(w8:X6):Le (LU s11 w4 w5 w6 w7 w8) (OT s11 w4 w5 w6 w7 w8):=by unfold LU OT;repeat' (first|with_reducible refine AX ?_ fun _=>?_|with_reducible refine Ap ?_ ?_|with_reducible exact WG _ _ _|exact WG _ _ _|refine AX ?_ fun _=>?_|refine Ap ?_ ?_|exact Le.refl _)
def LW(s21:Bool)(w5:AA)(w6:X6)(w7:X5)(w8:X6):Option (X6):=
 AE (s21) (
  AG (aK1 w5 w6.q w7.q) fun r3=>
  some (X6.mk w6.p r3)) (
  some w6)
theorem M6(s21:Bool)(w5:AA)(w6:X6)(w7:X5)(w8:X6):Le (LW s21 w5 w6 w7 w8) (LV s21 w5 w6 w7 w8):=by unfold LW LV;repeat' (first|with_reducible refine AX ?_ fun _=>?_|with_reducible refine Ap ?_ ?_|with_reducible exact WG _ _ _|exact WG _ _ _|refine AX ?_ fun _=>?_|refine Ap ?_ ?_|exact Le.refl _)
def aM1(a0:AA)(a1:AA)(a2:X6)(a3:X5):Option (X6):=
 AG (LU (!decide (a3.p=0)) a0 a1 a2 a3 (X6.mk 0 0)) fun o2=>
 AG (LW (!decide (a3.q=0)) a1 o2 a3 (X6.mk 0 0)) fun o4=>
 some o4
theorem aIs(a0:AA)(a1:AA)(a2:X6)(a3:X5):Le (aM1 a0 a1 a2 a3) (Xw a0 a1 a2 a3):=by unfold aM1 Xw;repeat' (first|with_reducible refine AX ?_ fun _=>?_|with_reducible exact M5 _ _ _ _ _ _|with_reducible exact M6 _ _ _ _ _|exact M5 _ _ _ _ _ _|exact M6 _ _ _ _ _|refine AX ?_ fun _=>?_|exact Le.refl _)
def LH(w7:MP X5 X3)(w8:X6)(w10:MP X6 Xc)(w12:X6)(w13:List X3):Option ((List X3)):=itE (fun s:X6×List X3=>F5 w7 w8 w10 s.1 s.2) 70 (w12,w13)
theorem Mh(w7:MP X5 X3)(w8:X6)(w10:MP X6 Xc)(w12:X6)(w13:List X3):Le (LH w7 w8 w10 w12 w13) (KD w7 w8 w10 w12 w13):=by unfold LH KD;repeat' (first|with_reducible refine BD (fun _=>?_) _ _|refine BD (fun _=>?_) _ _|exact Le.refl _)
def LF(s11:Int)(s83:Int)(s84:Int)(w2:AA)(w3:AA)(w6:List X5)(w7:MP X5 X3)(w8:X6)(w9:List X6)(w10:MP X6 Xc)(w12:X6):Option ((List X6×MP X6 Xc)):=
 Ai (0<=s84/\s84+1<=(w6.length:Int)) (
  AW w6 s84 fun x8=>
  AG (aM1 w2 w3 w12 x8) fun r9=>
  AG (Ph s11 s83 s84 (!((BC (Xc.mk (X6.mk 0 0) (X5.mk 0 0)) w10 r9).2)) w2 w3 w6 w7 w8 w9 w10 w12 x8 r9) fun o10=>
  some (o10.1,o10.2))
theorem Mf(s11:Int)(s83:Int)(s84:Int)(w2:AA)(w3:AA)(w6:List X5)(w7:MP X5 X3)(w8:X6)(w9:List X6)(w10:MP X6 Xc)(w12:X6):Le (LF s11 s83 s84 w2 w3 w6 w7 w8 w9 w10 w12) (OM s11 s83 s84 w2 w3 w6 w7 w8 w9 w10 w12):=by unfold LF OM;repeat' (first|with_reducible refine AX ?_ fun _=>?_|with_reducible refine E6 ?_|with_reducible refine Di fun _=>?_|with_reducible exact aIs _ _ _ _|exact aIs _ _ _ _|refine AX ?_ fun _=>?_|refine E6 ?_|refine Di fun _=>?_|exact Le.refl _)
def F6(s11:Int)(s83:Int)(w2:AA)(w3:AA)(w6:List X5)(w7:MP X5 X3)(w8:X6)(w12:X6)(s84:Int)(w9:List X6)(w10:MP X6 Xc):Option ((Int×List X6×MP X6 Xc)⊕((List X6×MP X6 Xc))):=
 AE (decide (s84<s83)) (
  AG (LF s11 s83 s84 w2 w3 w6 w7 w8 w9 w10 w12) fun o11=>
  some (.inl ((AB .add .i64 s84 1),o11.1,o11.2))) (
  some (.inr (w9,w10)))
theorem IJ(s11:Int)(s83:Int)(w2:AA)(w3:AA)(w6:List X5)(w7:MP X5 X3)(w8:X6)(w12:X6)(s84:Int)(w9:List X6)(w10:MP X6 Xc):Le (F6 s11 s83 w2 w3 w6 w7 w8 w12 s84 w9 w10) (EH s11 s83 w2 w3 w6 w7 w8 w12 s84 w9 w10):=by unfold F6 EH;repeat' (first|with_reducible refine AX ?_ fun _=>?_|with_reducible refine Ap ?_ ?_|with_reducible exact Mf _ _ _ _ _ _ _ _ _ _ _|exact Mf _ _ _ _ _ _ _ _ _ _ _|refine AX ?_ fun _=>?_|refine Ap ?_ ?_|exact Le.refl _)
def LJ(s11:Int)(s83:Int)(w2:AA)(w3:AA)(w6:List X5)(w7:MP X5 X3)(w8:X6)(w12:X6)(s84:Int)(w9:List X6)(w10:MP X6 Xc):Option ((List X6×MP X6 Xc)):=itE (fun s:Int×List X6×MP X6 Xc=>F6 s11 s83 w2 w3 w6 w7 w8 w12 s.1 s.2.1 s.2.2) 70 (s84,w9,w10)
theorem Mi(s11:Int)(s83:Int)(w2:AA)(w3:AA)(w6:List X5)(w7:MP X5 X3)(w8:X6)(w12:X6)(s84:Int)(w9:List X6)(w10:MP X6 Xc):Le (LJ s11 s83 w2 w3 w6 w7 w8 w12 s84 w9 w10) (LI s11 s83 w2 w3 w6 w7 w8 w12 s84 w9 w10):=by unfold LJ LI;repeat' (first|with_reducible refine BD (fun _=>?_) _ _|with_reducible exact IJ _ _ _ _ _ _ _ _ _ _ _|exact IJ _ _ _ _ _ _ _ _ _ _ _|refine BD (fun _=>?_) _ _|exact Le.refl _)
def F4(w2:AA)(w3:AA)(w6:List X5)(w7:MP X5 X3)(w8:X6)(s11:Int)(w9:List X6)(w10:MP X6 Xc):Option ((Int×List X6×MP X6 Xc)⊕(Unit⊕(List X3))):=
 AE (decide (s11<(w9.length:Int))) (
  AW w9 s11 fun x3=>
  AG (aK2 w2 x3.p) fun r4=>
  AG (aK2 w3 x3.q) fun r5=>
  AE (!(r4==r5)) (
   AG (LH w7 w8 w10 x3 ([]:List X3)) fun o6=>
   AG (aM7 o6) fun r7=>
   some (.inr (.inr r7))) (
   AG (LJ s11 (w6.length:Int) w2 w3 w6 w7 w8 x3 0 w9 w10) fun o12=>
   some (.inl ((AB .add .i64 s11 1),o12.1,o12.2)))) (
  some (.inr (.inl ())))
theorem II(w2:AA)(w3:AA)(w6:List X5)(w7:MP X5 X3)(w8:X6)(s11:Int)(w9:List X6)(w10:MP X6 Xc):Le (F4 w2 w3 w6 w7 w8 s11 w9 w10) (DX w2 w3 w6 w7 w8 s11 w9 w10):=by unfold F4 DX;repeat' (first|with_reducible refine AX ?_ fun _=>?_|with_reducible refine Ap ?_ ?_|with_reducible refine Di fun _=>?_|with_reducible exact aIu _ _|with_reducible exact Mh _ _ _ _ _|with_reducible exact aIw _|with_reducible exact Mi _ _ _ _ _ _ _ _ _ _ _|exact aIu _ _|exact Mh _ _ _ _ _|exact aIw _|exact Mi _ _ _ _ _ _ _ _ _ _ _|refine AX ?_ fun _=>?_|refine Ap ?_ ?_|refine Di fun _=>?_|exact Le.refl _)
def LG(w2:AA)(w3:AA)(w6:List X5)(w7:MP X5 X3)(w8:X6)(s11:Int)(w9:List X6)(w10:MP X6 Xc):Option (Unit⊕(List X3)):=itE (fun s:Int×List X6×MP X6 Xc=>F4 w2 w3 w6 w7 w8 s.1 s.2.1 s.2.2) 70 (s11,w9,w10)
theorem Mg(w2:AA)(w3:AA)(w6:List X5)(w7:MP X5 X3)(w8:X6)(s11:Int)(w9:List X6)(w10:MP X6 Xc):Le (LG w2 w3 w6 w7 w8 s11 w9 w10) (Pi w2 w3 w6 w7 w8 s11 w9 w10):=by unfold LG Pi;repeat' (first|with_reducible refine BD (fun _=>?_) _ _|with_reducible exact II _ _ _ _ _ _ _ _|exact II _ _ _ _ _ _ _ _|refine BD (fun _=>?_) _ _|exact Le.refl _)
def aK0(a0:AA)(a1:AA):Option (List X3×Bool):=
 AG (aJn a0 a1) fun r1=>
 AE (!r1) (
  some (([]:List X3),false)) (
  AG (aNe a0 a1) fun r2=>
  Ai (0<=(IntKind.wrap .u64 a0.start)) (
   Ai (0<=(IntKind.wrap .u64 a1.start)) (
    AG (LG a0 a1 r2.1 r2.2 (X6.mk (AB .shl .u32 1 (IntKind.wrap .u64 a0.start)) (AB .shl .u32 1 (IntKind.wrap .u64 a1.start))) 0 [X6.mk (AB .shl .u32 1 (IntKind.wrap .u64 a0.start)) (AB .shl .u32 1 (IntKind.wrap .u64 a1.start))] (Cs (Ek:MP X6 Xc) (X6.mk (AB .shl .u32 1 (IntKind.wrap .u64 a0.start)) (AB .shl .u32 1 (IntKind.wrap .u64 a1.start))) (Xc.mk (X6.mk 0 0) (X5.mk 0 0)))) fun o13=>
    Ay o13 (fun o14=>
     some (([]:List X3),false)) (fun o15=>
     some (o15,true)))))
theorem WA(a0:AA)(a1:AA):Le (aK0 a0 a1) (X9 a0 a1):=by unfold aK0 X9;repeat' (first|with_reducible refine AX ?_ fun _=>?_|with_reducible refine Ap ?_ ?_|with_reducible refine E6 ?_|with_reducible refine DF (fun _=>?_) fun _=>?_|with_reducible exact OX _ _|with_reducible exact aIz _ _|with_reducible exact Mg _ _ _ _ _ _ _ _|exact OX _ _|exact aIz _ _|exact Mg _ _ _ _ _ _ _ _|refine AX ?_ fun _=>?_|refine Ap ?_ ?_|refine E6 ?_|refine DF (fun _=>?_) fun _=>?_|exact Le.refl _)
def aOm(a0:AA)(a1:AA):Option (Bool×Int):=
 AG (aJn a0 a1) fun r1=>
 AE (!r1) (
  some (false,1)) (
  AG (aK0 a0 a1) fun r2=>
  some (!r2.2,0))
theorem aJ0(a0:AA)(a1:AA):Le (aOm a0 a1) (Zp a0 a1):=by unfold aOm Zp;repeat' (first|with_reducible refine AX ?_ fun _=>?_|with_reducible refine Ap ?_ ?_|with_reducible exact OX _ _|with_reducible exact WA _ _|exact OX _ _|exact WA _ _|refine AX ?_ fun _=>?_|refine Ap ?_ ?_|exact Le.refl _)
def aPc:Option (Bool):=
 AG (aK0 (AA.mk ([112]:List UInt8) ([]:List X7) ([]:List Xq) ([]:List Xt) ([Xd.mk ([115]:List UInt8) false false]) 0 ([]:List X8) ([]:List Y7) ([]:List Xe)) (AA.mk ([113]:List UInt8) ([]:List X7) ([]:List Xq) ([]:List Xt) ([Xd.mk ([115]:List UInt8) false true]) 0 ([]:List X8) ([]:List Y7) ([]:List Xe))) fun r1=>
 AG (aOm (AA.mk ([112]:List UInt8) ([]:List X7) ([]:List Xq) ([]:List Xt) ([Xd.mk ([115]:List UInt8) false false]) 0 ([]:List X8) ([]:List Y7) ([]:List Xe)) (AA.mk ([112]:List UInt8) ([]:List X7) ([]:List Xq) ([]:List Xt) ([Xd.mk ([115]:List UInt8) false false]) 0 ([]:List X8) ([]:List Y7) ([]:List Xe))) fun r2=>
 AE (r1.2) (
  AE (decide ((r1.1.length:Int)=0)) (
   AE (r2.1) (
    AE (decide (r2.2=0)) (
     AG (aJn (AA.mk ([112]:List UInt8) ([]:List X7) ([]:List Xq) ([]:List Xt) ([Xd.mk ([115]:List UInt8) false false]) 0 ([]:List X8) ([]:List Y7) ([]:List Xe)) (AA.mk ([113]:List UInt8) ([]:List X7) ([]:List Xq) ([]:List Xt) ([Xd.mk ([115]:List UInt8) false true]) 0 ([]:List X8) ([]:List Y7) ([]:List Xe))) fun r3=>
     some r3) (
     some false)) (
    some false)) (
   some false)) (
  some false)
theorem aNl:Le (aPc) (Yj):=by unfold aPc Yj;repeat' (first|with_reducible refine AX ?_ fun _=>?_|with_reducible refine Ap ?_ ?_|with_reducible exact WA _ _|with_reducible exact aJ0 _ _|with_reducible exact OX _ _|exact WA _ _|exact aJ0 _ _|exact OX _ _|refine AX ?_ fun _=>?_|refine Ap ?_ ?_|exact Le.refl _)
theorem aJd:Yj=some true:=aNl _ (by kernel_rfl)
theorem OH{α β:Type}{a:List α}{b:List β}{i:Nat}{x:α×β}(h:(a.zip b)[i]? =some x):a[i]? =some x.1/\b[i]? =some x.2:=by rw[List.getElem?_zip_eq_some]at h;exact h
theorem PW{a b:List Int}(ha:a.length<=9223372036854775807):Y5 a b=some (decide (a=b)):=by
 unfold Y5;by_cases hl:a.length=b.length;rw[decide_eq_true (show(a.length:Int)=(b.length:Int) by omega),Bool.not_true,AF];have hz:(a.zip b).length=a.length:=by simp[hl]
 have h:SM a b (a.length:Int) 0=some (if((a.zip b).all fun z=>decide (z.1=z.2))=true then .inl ()else .inr ()):=Bt (step:=fun s=>E0 a b (a.length:Int) s) (a.zip b) (fun z=>decide (z.1=z.2)) (.inl ()) (.inr ())
  (fun i x hx=>by obtain⟨h1,h2⟩:=OH hx;simp only[E0,ltD h1,AH,AK h1,AK h2,Ag h1 ha];by_cases he:x.1=x.2;rw[decide_eq_true he,Bool.not_true,AF,if_pos rfl];rw[decide_eq_false he,Bool.not_false,AH,if_neg (by simp)])
  (by simp only[E0,hz,ltI,AF])
 rw[h,AD,DM hl];by_cases he:a=b;rw[decide_eq_true he,if_pos rfl,Bo];rw[decide_eq_false he,if_neg (by simp),C5];rw[decide_eq_false (show¬(a.length:Int)=(b.length:Int) by omega),Bool.not_false,AH,decide_eq_false fun e=>hl (by rw[e])]
theorem UU(a b:X7):decide (a=b)=(decide (a.name=b.name)&&decide (a.types=b.types)):=by cases a;cases b;simp
theorem Vy{a b:X7}(ha:a.types.length<=9223372036854775807):Zs a b=some (decide (a=b)):=by unfold Zs;rw[UU];by_cases h:a.name=b.name;rw[decide_eq_true h,AH,PW ha,AD,Bool.true_and];rw[decide_eq_false h,AF,Bool.false_and]
theorem Vz{a b:List X7}(ha:a.length<=9223372036854775807)(h3:∀d∈a,d.types.length<=3):Zt a b=some (decide (a=b)):=by
 unfold Zt Xu;by_cases hl:a.length=b.length;rw[decide_eq_true (show(a.length:Int)=(b.length:Int) by omega),Bool.not_true,AF];have hz:(a.zip b).length=a.length:=by simp[hl]
 have h:Rv b a (a.length:Int) 0=some (if((a.zip b).all fun z=>decide (z.1=z.2))=true then .inl ()else .inr ()):=Bt (step:=fun s=>EJ b a (a.length:Int) s) (a.zip b) (fun z=>decide (z.1=z.2)) (.inl ()) (.inr ())
  (fun i x hx=>by obtain⟨h1,h2⟩:=OH hx;have:=h3 x.1 (List.mem_of_getElem? h1);simp only[EJ,ltD h1,AH,AK h1,AK h2,Ag h1 ha,Vy (a:=x.1) (b:=x.2) (by omega),AD];by_cases he:x.1=x.2;rw[decide_eq_true he,Bool.not_true,AF,if_pos rfl];rw[decide_eq_false he,Bool.not_false,AH,if_neg (by simp)])
  (by simp only[EJ,hz,ltI,AF])
 rw[h,AD,DM hl];by_cases he:a=b;rw[decide_eq_true he,if_pos rfl,Bo,AD];rw[decide_eq_false he,if_neg (by simp),C5,AD];rw[decide_eq_false (show¬(a.length:Int)=(b.length:Int) by omega),Bool.not_false,AH,AD,decide_eq_false fun e=>hl (by rw[e])]
theorem aKr{p q:AA}{i:Nat}{x y:X7}(hx:p.decls[i]? =some x)(hy:q.decls[i]? =some y)(hl:x.types.length=y.types.length)(h3:x.types.length<=3):YN (i:Int) p q 0=some (if x.types=y.types then .inl ()else .inr ()):=by
 have hz:(x.types.zip y.types).length=x.types.length:=by simp[hl]
 have h:YN (i:Int) p q 0=some (if((x.types.zip y.types).all fun z=>decide (z.1=z.2))=true then .inl ()else .inr ()):=Bt (step:=fun s=>GZ (i:Int) p q s) (x.types.zip y.types) (fun z=>decide (z.1=z.2)) (.inl ()) (.inr ())
  (fun j z hz=>by obtain⟨h1,h2⟩:=OH hz;simp only[GZ,AK hx,AK hy,ltD h1,AH,AK h1,AK h2,Ag h1 (show x.types.length<=9223372036854775807 by omega)];by_cases he:z.1=z.2;rw[decide_eq_true he,Bool.not_true,AF,if_pos rfl];rw[decide_eq_false he,Bool.not_false,AH,if_neg (by simp)])
  (by simp only[GZ,AK hx,hz,ltI,AF])
 rw[h,DM hl];by_cases he:x.types=y.types;rw[if_pos (decide_eq_true he),if_pos he];rw[if_neg (by simp[he]),if_neg he]
theorem aKq{p q:AA}(hl:p.decls.length=q.decls.length)(h12:p.decls.length<=12)(h3:∀d∈p.decls,d.types.length<=3):YL p q 0=some (if p.decls=q.decls then .inl ()else .inr ()):=by
 have hz:(p.decls.zip q.decls).length=p.decls.length:=by simp[hl]
 have h:YL p q 0=some (if((p.decls.zip q.decls).all fun z=>decide (z.1=z.2))=true then .inl ()else .inr ()):=Bt (step:=fun s=>GY p q s) (p.decls.zip q.decls) (fun z=>decide (z.1=z.2)) (.inl ()) (.inr ())
  (fun j z hz=>by obtain⟨h1,h2⟩:=OH hz;have ht:=h3 z.1 (List.mem_of_getElem? h1);simp only[GY,ltD h1,AH,AK h1,AK h2,Ag h1 (show p.decls.length<=9223372036854775807 by omega)];rw[UU];by_cases hn:z.1.name=z.2.name;rw[decide_eq_true hn,Bool.not_true,AF,Bool.true_and];by_cases hlt:z.1.types.length=z.2.types.length;rw[decide_eq_true (show(z.1.types.length:Int)=(z.2.types.length:Int) by omega),Bool.not_true,AF,aKr h1 h2 hlt ht,AD];by_cases he:z.1.types=z.2.types;rw[if_pos he,Bo,if_pos (decide_eq_true he)];rw[if_neg he,C5,if_neg (by simp[he])];rw[decide_eq_false (show¬(z.1.types.length:Int)=(z.2.types.length:Int) by omega),Bool.not_false,AH,if_neg];intro h;exact hlt (by rw[of_decide_eq_true h]);rw[decide_eq_false hn,Bool.not_false,AH,if_neg (by simp)])
  (by simp only[GY,hz,ltI,AF])
 rw[h,DM hl];by_cases he:p.decls=q.decls;rw[if_pos (decide_eq_true he),if_pos he];rw[if_neg (by simp[he]),if_neg he]
structure LQ(q:AA):Prop where
 f:CX q
 r:Ad q
 t:Yn q=some true
 d3:∀d∈q.decls,d.types.length<=3
theorem Io(q:AA)(hW:∀t∈q.trans,IH t):∃r,Yt q=some r/\(r=true->LQ q):=by
 obtain⟨n,hn,hF⟩:=aMi q;unfold Yt;refine BA hn ?_;refine A5 (fun _=>⟨_,rfl,by simp⟩) (fun h0=>?_);have hF:=hF h0;obtain⟨r,hr,hR⟩:=aNp q hF hW;refine BA hr ?_;refine FA (fun _=>⟨_,rfl,by simp⟩) (fun h1=>?_);have hR2:=hR h1;subst h1;have hd:=hF.decls;obtain⟨o,ho,hQ⟩:=Af (step:=fun s=>Gm q s) q.decls.length (fun i=>∀d,q.decls[i]? =some d->d.types.length<=3) (fun o=>o=Sum.inl ()->∀d∈q.decls,d.types.length<=3)
  (fun i hi=>by obtain⟨x,hx,_⟩:=AP hi;simp only[Gm,ltD hx,AH,AK hx,Ag hx (show q.decls.length<=9223372036854775807 by omega)];by_cases h:(3:Int)<(x.types.length:Int);exact .inr ⟨.inr (),by rw[decide_eq_true h];rfl,fun h=>by cases h⟩;exact .inl ⟨by rw[decide_eq_false h];rfl,fun t h2=>by rw[hx,oe]at h2;subst h2;omega⟩)
  (fun hall=>⟨.inl (),by simp only[Gm,ltI,AF],fun _=>EK hall⟩)
 have ho':aFu q 0=some o:=ho;refine BA ho' ?_;rcases o with⟨⟩|⟨⟩
 rw[Bo];exact⟨_,rfl,fun _=>⟨hF,hR2,hr,hQ rfl⟩⟩;rw[C5];exact⟨_,rfl,by simp⟩
theorem aEn{p q:AA}(hp:LQ p)(hq:LQ q):∃b,Y1 p q=some b/\Yu p q=some b/\(b=true->EqP p q):=by
 have hp12:=hp.f.decls;have hq12:=hq.f.decls;have hpq:=hp.f.quants;have hqq:=hq.f.quants;obtain⟨b1,j1,k1⟩:=Me hp.f hp.r;obtain⟨b2,j2,k2⟩:=Me hq.f hq.r;obtain⟨r1,m1,S1⟩:=aI8 hp.f;obtain⟨r2,m2,S2⟩:=aI8 hq.f;rw[k1,oe]at m1;rw[k2,oe]at m2;subst m1;subst m2;unfold Y1 Yu;rw[j1,AD,k1,AD,Vz (by omega) hp.d3];cases b1 with
 |false=>exact⟨false,rfl,rfl,by simp⟩
 |true=>
  rw[Bool.not_true,AF,AH,j2,AD,k2,AD]
  cases b2 with
  |false=>exact⟨false,rfl,rfl,by simp⟩
  |true=>
   rw[Bool.not_true,AF,AH,aDk (by omega) (by omega)]
   by_cases c1:p.quants.length=0
   by_cases c2:q.quants.length=0
   rw[decide_eq_false (show¬(0:Int)<(p.quants.length:Int) by omega),AF,decide_eq_false (show¬(0:Int)<(q.quants.length:Int) by omega),AF,decide_eq_true (show(p.quants.length:Int)+(q.quants.length:Int)=0 by omega),AH,AD]
   by_cases hl:p.decls.length=q.decls.length
   rw[decide_eq_true (show(p.decls.length:Int)=(q.decls.length:Int) by omega),Bool.not_true,AF,aKq hl hp12 hp.d3,AD]
   by_cases he:p.decls=q.decls
   rw[if_pos he,Bo,decide_eq_true he]
   exact⟨true,rfl,rfl,fun _=>⟨hp.f,hp.r,S1 rfl,hp.t,hq.f,hq.r,S2 rfl,hq.t,List.length_eq_zero_iff.1 c1,List.length_eq_zero_iff.1 c2,he.symm,hp.d3,LD hp.f hp.t⟩⟩
   rw[if_neg he,C5,decide_eq_false he]
   exact⟨false,rfl,rfl,by simp⟩
   rw[decide_eq_false (show¬(p.decls.length:Int)=(q.decls.length:Int) by omega),Bool.not_false,AH,decide_eq_false fun e=>hl (by rw[e])]
   exact⟨false,rfl,rfl,by simp⟩
   rw[decide_eq_false (show¬(0:Int)<(p.quants.length:Int) by omega),AF,decide_eq_true (show(0:Int)<(q.quants.length:Int) by omega),AH,decide_eq_false (show¬(p.quants.length:Int)+(q.quants.length:Int)=0 by omega),AF]
   exact⟨false,rfl,rfl,by simp⟩
   rw[decide_eq_true (show(0:Int)<(p.quants.length:Int) by omega),AH,decide_eq_false (show¬(p.quants.length:Int)+(q.quants.length:Int)=0 by omega),AF]
   exact⟨false,rfl,rfl,by simp⟩
theorem aCx{p q:AA}(E:EqP p q):∃a b:Nat,p.start=(a:Int)/\q.start=(b:Int)/\a<p.states.length/\b<q.states.length/\Hi p q (((2^a:Nat):Int),((2^b:Nat):Int)):=by
 obtain⟨h0,h1⟩:=F2 E.tp;obtain⟨g0,g1⟩:=F2 E.tq;have h8:=E.sp.states;have g8:=E.sq.states;have e1:p.start=(p.start.toNat:Int):=by omega
 have e2:q.start=(q.start.toNat:Int):=by omega
 exact⟨p.start.toNat,q.start.toNat,e1,e2,by omega,by omega,p.start.toNat,q.start.toNat,e1,e2,by omega,by omega,rfl⟩
theorem EvW.runs{p q:AA}(E:EqP p q){x z:PP}{es:List X3}(h:EvW p q x es z):∀{a b:Nat},x=((a:Int),(b:Int))->∃m n:Nat,z=((m:Int),(n:Int))/\EvR p a es m/\EvR q b es n:=by
 induction h with
 |nil=>intro a b e;exact⟨a,b,e,.nil,.nil⟩
 |cons hd ha _ ih=>
  rename_i x0 y0 d0 dd0 args0 es0 _
  intro a b e
  subst e
  have hdq:q.decls[d0]? =some dd0:=by rw[E.de];exact hd
  obtain⟨m,n,h1,h2,h3⟩:=ih (a:=evN p d0 a args0) (b:=evN q d0 b args0) (by unfold mv evN sP;simp only;by_cases c1:mkM p [] d0 args0=0;by_cases c2:mkM q [] d0 args0=0;simp[c1,c2];simp[c1,c2,nx];by_cases c2:mkM q [] d0 args0=0;simp[c1,c2,nx];simp[c1,c2,nx])
  exact⟨m,n,h1,.cons hd ha h2,.cons hdq ha h3⟩
theorem EvW.of{p q:AA}(hR:Ad p):∀(l:List X3) (x:PP),(∀e∈l,eR p.decls e=true)->∃z,EvW p q x l z
 |[],x,_=>⟨x,.nil⟩
 |e::l,x,h=>by
  obtain⟨d,dd,hd,hn,ha⟩:=UY (h e (.head _));have he:e=X3.mk dd.name e.args:=by rw[hn]
  obtain⟨z,hz⟩:=EvW.of (q:=q) hR l (mv p q x (sP p q d e.args)) fun e' he'=>h e' (.tail _ he');rw[he];exact⟨z,.cons hd (UD ha) hz⟩
theorem EvW.right{p q:AA}(E:EqP p q){x z:PP}{es:List X3}(h:EvW p q x es z):∀e∈es,eR p.decls e=true/\e.args.length<=3:=by
 induction h with
 |nil=>intro e he;cases he
 |cons hd ha _ ih=>
  intro e he
  rcases mc.1 he with rfl|he
  refine⟨aGx E.rp hd ha,?_⟩
  have:=E.d3 _ (List.mem_of_getElem? hd)
  have h1:=ha.1
  simp only
  omega
  exact ih e he
theorem OK{p q:AA}(E:EqP p q){a b:Nat}(ha:p.start=(a:Int))(hb:q.start=(b:Int))(ha2:a<p.states.length)(hb2:b<q.states.length){l:List X3}(hl:l.length<=9223372036854775806){z:PP}(h:EvW p q (((2^a:Nat):Int),((2^b:Nat):Int)) l z):
 Q0 p l=some (K4 p z.1)/\Q0 q l=some (K4 q z.2):=by
 obtain⟨m,n,rfl,h1,h2⟩:=h.runs E rfl
 have hr:=fun e he=>(h.right E e he).2
 refine⟨?_,?_⟩
 rw[Mb E.fp E.rp E.sp E.qp ha ha2 l hl (fun e he=>by have:=hr e he;omega) h1,K4,Int.toNat_natCast]
 rw[Mb E.fq E.rq E.sq E.qq hb hb2 l hl (fun e he=>by have:=hr e he;omega) h2,K4,Int.toNat_natCast]
theorem Vq{p q:AA}(hd:p.decls.length<=12)(l:List X3)(hl:l.length<=12):∃o,aFp l p q 0=some o/\((o=.inl ()/\∀e∈l,eR p.decls e=true)\/o=.inr true):=by
 obtain⟨o,ho,hQ⟩:=Af (step:=fun s=>Gh l p q s) l.length (fun i=>∀e,l[i]? =some e->eR p.decls e=true) (fun o=>(o=.inl ()/\∀e∈l,eR p.decls e=true)\/o=.inr true)
  (fun i hi=>by
   obtain⟨e,he,_⟩:=AP hi;simp only[Gh,ltD he,AH,AK he,Ag he (show l.length<=9223372036854775807 by omega),aJd,AD];by_cases h12:(12:Int)<(e.args.length:Int);rw[decide_eq_true h12,AH];exact .inr ⟨_,rfl,.inr rfl⟩;rw[decide_eq_false h12,AF,aFr p.decls e (by omega) (by omega),AD];cases hr:eR p.decls e with
   |false=>exact .inr ⟨_,rfl,.inr rfl⟩
   |true=>exact .inl ⟨rfl,fun e' he'=>by rw[he,oe]at he';subst he';exact hr⟩)
  (fun hall=>⟨.inl (),by simp only[Gh,ltI,AF],.inl ⟨rfl,EK hall⟩⟩)
 exact⟨o,ho,hQ⟩
theorem aNm(p q:AA)(l:List X3)(hWp:∀t∈p.trans,IH t)(hWq:∀t∈q.trans,IH t):Yl p q l=some true:=by
 have hA:=aJd;obtain⟨r1,e1,h1⟩:=Io p hWp;obtain⟨r2,e2,h2⟩:=Io q hWq;unfold Yl;rw[e1,AD,hA];cases r1 with
 |false=>rfl
 |true=>
  rw[Bool.not_true,AF,e2,AD]
  cases r2 with
  |false=>rfl
  |true=>
   rw[Bool.not_true,AF]
   obtain⟨b,f1,f2,hE⟩:=aEn (h1 rfl) (h2 rfl)
   rw[f1,AD]
   cases b with
   |false=>rfl
   |true=>
    rw[Bool.not_true,AF,Cr]
    split
    rfl
    rename_i h12
    have E:=hE rfl
    obtain⟨o,ho,hQ⟩:=Vq (p:=p) (q:=q) E.fp.decls l (by omega)
    rw[ho,AD]
    rcases hQ with⟨rfl,hev⟩|rfl
    rw[Bo]
    obtain⟨a,b,sa,sb,la,lb,hs⟩:=aCx E
    obtain⟨all,hAll,hSt⟩:=V1 E hs
    have hDf:=PU E hs f2 hAll
    have hSame:∀(es:List X3) (c:Bool),X9 p q=some (es,c)->Zp p q=some (!c,0):=fun es c h=>by unfold Zp;rw[f2,AD,Bool.not_true,AF,h,AD]
    rcases hDf with⟨d1,d2⟩|⟨es,z,d1,_⟩
    obtain⟨z,hz⟩:=EvW.of (q:=q) E.rp l (((2^a:Nat):Int),((2^b:Nat):Int)) hev
    obtain⟨g1,g2⟩:=OK E sa sb la lb (by omega) hz
    have hw:=hz.way E hAll (Fp.nil)
    have hap:(!(K4 p z.1==K4 q z.2))=false:=d2 _ z hw
    have hap2:(K4 p z.1==K4 q z.2)=true:=by
     cases hc:(K4 p z.1==K4 q z.2)with
     |true=>rfl
     |false=>rw[hc]at hap;cases hap
    rw[hSame _ _ d1,AD,g1,g2]
    simp only[AD,Bool.not_false,Bool.not_true,AF]
    rw[hap2]
    rfl
    rw[hSame _ _ d1,AD]
    rfl
    rw[C5]
end
end Go.Ac
