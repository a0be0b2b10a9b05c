/- Own work: the plain law. -/
import Derived.Test.YtgcfokfcilgnlaaGreatP23sx
set_option linter.unusedVariables false
set_option linter.unusedSimpArgs false
namespace Go.Ac
noncomputable section
theorem L3{q:AD}(hF:CY q)(hR:AY q){s:X5}(hs:s∈q.symbols){k:Int}{w:List X0}{n:Nat}(hw:SW w)(hl:w.length<=n):SW (s.args.foldl (Kx k) w)/\(s.args.foldl (Kx k) w).length<=n+12:=by have h:=Jv (fun i w=>SW w/\w.length<=n+i) (Kx k) s.args 0 w (fun j a w ha hI=>L1 ((hR.symbols s hs).args a ha).one hI.1 hI.2) ⟨hw,by omega⟩;have:=hF.args s hs;exact⟨h.1,by omega⟩
theorem cons_inv{q:AD}(hF:CY q)(hR:AY q)(k:Int):SW (Dp q k)/\(Dp q k).length<=200:=by
 have h:=Jv (fun i w=>SW w/\w.length<=2+12*i) (fun w s=>s.args.foldl (Kx k) w) q.symbols 0 (if k=3 then [X0.mk 3 0 [] false,X0.mk 3 0 [] true]else [])
  (fun j s w hs hI=>by have:=L3 hF hR hs (k:=k) hI.1 hI.2;exact⟨this.1,by omega⟩) ⟨OG k,by split<;>simp⟩
 have:=hF.symbols;exact⟨h.1,by unfold Dp;omega⟩
theorem bBi{q:AD}(hF:CY q)(hR:AY q)(k:Int):Xo q k=some (Dp q k):=by
 have hsy:=hF.symbols;have hb:WQ k (decide (k=3)) q=some (if k=3 then [X0.mk 3 0 [] false,X0.mk 3 0 [] true]else []):=by unfold WQ U2;rw[De];split;simp only[AB,Tl];rw[Mq (w:=[X0.mk 3 0 [] false]) ⟨by simp,by simp;decide⟩ (by decide) (by simp)];rfl;rfl
 have hin:∀(s:X5) (i:Int) (w:List X0),s∈q.symbols->SW w->w.length<=200->aI7 k q.symbols (q.symbols.length:Int) i s.args (s.args.length:Int) 0 w=some (s.args.foldl (Kx k) w):=by intro s i w hs hw hl;have ha:=hF.args s hs;unfold aI7;refine Cm (step:=fun z:Int×List X0=>Iq k q.symbols (q.symbols.length:Int) i s.args (s.args.length:Int) z.1 z.2) s.args (Kx k) id (fun j w=>SW w/\w.length<=200+j) (fun j a w hx hI=>?_) (fun w _=>?_) w ⟨hw,by omega⟩;have hv:=((hR.symbols s hs).args a (List.mem_of_getElem? hx)).one;have hlt:=(List.getElem?_eq_some_iff.1 hx).1;refine⟨?_,L1 hv hI.1 hI.2⟩;simp only[Iq,ltD hx,AG,aI4,AL hx,Ah hx (show s.args.length<=9223372036854775807 by omega),WR];unfold Kx;by_cases h1:a.kind=1<;>by_cases h2:a.value.kind=k;rw[De,if_pos h1,De,if_pos h2,if_pos ⟨h1,h2⟩,Mq hI.1 (hv h1) (by have:=hI.2;omega)];rfl;rw[De,if_pos h1,De,if_neg h2,if_neg (fun h=>h2 h.2)];rfl;rw[De,if_neg h1,if_neg (fun h=>h1 h.1)];rfl;rw[De,if_neg h1,if_neg (fun h=>h1 h.1)];rfl;simp only[Iq,ltI,AF,id]
 unfold Xo Uk aSq;rw[AB,hb,AB,Cm (step:=fun z:Int×List X0=>Ip k q.symbols (q.symbols.length:Int) z.1 z.2) q.symbols (fun w s=>s.args.foldl (Kx k) w) id (fun j w=>SW w/\w.length<=2+12*j)
  (fun j s w hx hI=>by have hs:=List.mem_of_getElem? hx;have hlt:=(List.getElem?_eq_some_iff.1 hx).1;have:=L3 hF hR hs (k:=k) hI.1 hI.2;refine⟨?_,this.1,by omega⟩;simp only[Ip,ltD hx,AG,AL hx,Ah hx (show q.symbols.length<=9223372036854775807 by omega)];rw[hin s _ w hs hI.1 (by have:=hI.2;omega)];rfl)
  (fun w _=>by simp only[Ip,ltI,AF,id]) _ ⟨OG k,by split<;>simp⟩,AB]
 have hc:=cons_inv hF hR k;show AH (U3 (Dp q k)) _=_;rw[aWi (by omega)];rfl
theorem aXl{q:AD}(hF:CY q)(hR:AY q)(k:Int):Xm q k=some (Dp q k):=by
 have hsy:=hF.symbols;have hb:WF k (decide (k=3)) q=some (if k=3 then [X0.mk 3 0 [] false,X0.mk 3 0 [] true]else []):=by unfold WF;rw[De];split<;>rfl
 have hin:∀(s:X5) (i:Nat) (w:List X0),q.symbols[i]? =some s->SW w->w.length<=200->aIx k (i:Int) q w 0=some (s.args.foldl (Kx k) w):=by intro s i w hxs hw hl;have hs:=List.mem_of_getElem? hxs;have ha:=hF.args s hs;unfold aIx;refine Ha (step:=fun z:List X0×Int=>In k (i:Int) q z.1 z.2) s.args (Kx k) id (fun j w=>SW w/\w.length<=200+j) (fun j a w hx hI=>?_) (fun w _=>?_) w ⟨hw,by omega⟩;have hv:=((hR.symbols s hs).args a (List.mem_of_getElem? hx)).one;have hlt:=(List.getElem?_eq_some_iff.1 hx).1;refine⟨?_,L1 hv hI.1 hI.2⟩;simp only[In,AL hxs,ltD hx,AG,aIu,AL hx,Ah hx (show s.args.length<=9223372036854775807 by omega),WG];unfold Kx;by_cases h1:a.kind=1<;>by_cases h2:a.value.kind=k;rw[De,if_pos h1,De,if_pos h2,if_pos ⟨h1,h2⟩,aMo hI.1 (hv h1) (by have:=hI.2;omega)];rfl;rw[De,if_pos h1,De,if_neg h2,if_neg (fun h=>h2 h.2)];rfl;rw[De,if_neg h1,if_neg (fun h=>h1 h.1)];rfl;rw[De,if_neg h1,if_neg (fun h=>h1 h.1)];rfl;simp only[In,AL hxs,ltI,AF,id]
 unfold Xm aSo;rw[hb,AB,Ha (step:=fun z:List X0×Int=>Im k q z.1 z.2) q.symbols (fun w s=>s.args.foldl (Kx k) w) id (fun j w=>SW w/\w.length<=2+12*j)
  (fun j s w hx hI=>by have hs:=List.mem_of_getElem? hx;have hlt:=(List.getElem?_eq_some_iff.1 hx).1;have:=L3 hF hR hs (k:=k) hI.1 hI.2;refine⟨?_,this.1,by omega⟩;simp only[Im,ltD hx,AG,Ah hx (show q.symbols.length<=9223372036854775807 by omega)];rw[hin s j w hx hI.1 (by have:=hI.2;omega)];rfl)
  (fun w _=>by simp only[Im,ltI,AF,id]) _ ⟨OG k,by split<;>simp⟩,AB]
 rfl
def Gs(k:Int)(j:Nat):X0:=if k=1 then⟨k,(j:Int),[],false⟩else⟨k,0,List.replicate j 97,false⟩
theorem aPn{k:Int}{i j:Nat}(h:Gs k i=Gs k j):i=j:=by
 unfold Gs at h;split at h;injection h with _ h2;omega
 injection h with _ _ h3
 have:=congrArg List.length h3;simpa using this
theorem Nh(k:Int)(j:Nat):(Gs k j).kind=k:=by unfold Gs;split<;>rfl
theorem aEl{k:Int}{j:Nat}(hk:k=1\/k=2)(hj:j<=1000):vR (Gs k j)=true:=by
 unfold Gs vR;rcases hk with rfl|rfl
 simp;simp;omega
theorem aRa{α:Type} [DecidableEq α](f:Nat->α)(hf:∀i j,f i=f j->i=j):∀(n:Nat) (l:List α),(∀i,i<n->f i∈l)->n<=l.length
 |0,_,_=>Nat.zero_le _
 |n+1,l,h=>by
  have hm:=h n (by omega);have:=aRa f hf n (l.erase (f n)) (fun i hi=>(List.mem_erase_of_ne (fun e=>by have:=hf _ _ e;omega)).2 (h i (by omega)));rw[List.length_erase_of_mem hm]at this;have:0<l.length:=List.length_pos_of_mem hm;omega
theorem aWl{w:List X0}{v:X0}(hw:SW w)(hv:vR v=true)(hl:w.length<=900):U6 w v=some (decide (v∈w)):=by unfold U6;rw[aMo hw hv hl,AB,(Ms hw hv).2];by_cases h:v∈w;simp[h];simp only[h,if_false,decide_false,oe,decide_eq_false_iff_not];omega
theorem Ni(k:Int)(j:Nat)(hk:k=1\/k=2)(hj:j<=1000)(l:List X0)(z:X0):YG k l z (Gs k j)=some (Gs k (j+1))/\YU k l z (Gs k j)=some (Gs k (j+1)):=by
 unfold YG YU aLc aLz Gs;rcases hk with rfl|rfl
 simp only[if_true,decide_true,AG,AB];rw[Mg (by omega) (by omega)];simp;simp only[show¬(2:Int)=1 by decide,if_false,decide_false,AF,List.length_replicate];rw[Aj (by simp;omega)];simp[AH,List.replicate_succ']
theorem RZ{k:Int}(hk:k=1\/k=2){l w:List X0}(hl:l.length<=1000)(hw:SW w)(hwl:w.length<=900)(hm:∀v,v.kind=k->(v∈w↔v∈l))(z:X0):∀(m j:Nat),j+m<=900->(∃i,j<=i/\i<j+m/\Gs k i∉l)->∃i,j<=i/\i<j+m/\Gs k i∉l/\SQ k l z (Gs k j)=some (Gs k i)/\YV k w z (Gs k j)=some (Gs k i)
 |0,j,_,⟨i,h1,h2,_⟩=>by omega
 |m+1,j,hj,⟨i,h1,h2,h3⟩=>by
  have e1:Qp l (Gs k j)=some (decide (Gs k j∈l)):=ID _ _ (by omega);have e2:U6 w (Gs k j)=some (decide (Gs k j∈l)):=by rw[aWl hw (aEl hk (by omega)) hwl];simp only[hm _ (Nh k j)]
  by_cases h:Gs k j∈l;have hne:i≠j:=fun e=>h3 (e▸h);obtain⟨i',a1,a2,a3,a4,a5⟩:=RZ hk hl hw hwl hm z m (j+1) (by omega) ⟨i,by omega,by omega,h3⟩;refine⟨i',by omega,by omega,a3,?_,?_⟩;rw[QG];unfold I5;rw[e1,AB];simp only[h,decide_true,AG,(Ni k j hk (by omega) l z).1,AB,BF];exact a4;rw[QI];unfold I8;rw[e2,AB];simp only[h,decide_true,AG,(Ni k j hk (by omega) w z).2,AB,BF];exact a5;refine⟨j,by omega,by omega,h,?_,?_⟩;rw[QG];unfold I5;rw[e1,AB];simp only[h,decide_false,AF,Ae];rw[QI];unfold I8;rw[e2,AB];simp only[h,decide_false,AF,Ae]
def EJ(n:Nat)(p:Nat->Bool):Nat:=(List.range n).foldl (fun w i=>if p i=true then w|||2^i else w) 0
theorem Kz(n:Nat)(p:Nat->Bool):EJ (n+1) p=if p n=true then EJ n p|||2^n else EJ n p:=by unfold EJ;rw[List.range_succ,List.foldl_append];rfl
theorem FJ(n:Nat)(p:Nat->Bool)(k:Nat):(EJ n p).testBit k=true↔k<n/\p k=true:=by
 induction n with
 |zero=>simp[EJ]
 |succ n ih=>
  rw[Kz]
  split
  rename_i h
  rw[Nat.testBit_or,Nat.testBit_two_pow,Bool.or_eq_true,decide_eq_true_eq,ih]
  constructor
  rintro(⟨a,b⟩|rfl)
  exact⟨by omega,b⟩
  exact⟨by omega,h⟩
  rintro⟨a,b⟩
  by_cases hk:n=k
  exact .inr hk
  exact .inl ⟨by omega,b⟩
  rename_i h
  rw[ih]
  constructor
  rintro⟨a,b⟩;exact⟨by omega,b⟩
  rintro⟨a,b⟩
  refine⟨?_,b⟩
  by_cases hk:n=k
  subst hk;exact absurd b h
  omega
theorem H9(n:Nat)(p:Nat->Bool):EJ n p<2^n:=Nat.lt_pow_two_of_testBit _ fun i hi=>by
 cases h:(EJ n p).testBit i with
 |false=>rfl
 |true=>have:=(FJ n p i).1 h;omega
theorem QU{a b:Nat}(h:∀k,a.testBit k=true↔b.testBit k=true):a=b:=Nat.eq_of_testBit_eq fun i=>by rw[Bool.eq_iff_iff];exact h i
theorem Nc{step:Int×Int->Option (Int×Int⊕Int)}{n:Nat}(hn:n<=12)(p:Nat->Bool)
 (h1:∀i w:Nat,i<n->w<4096->step ((w:Int),(i:Int))=some (.inl (((if p i=true then w|||2^i else w:Nat):Int),((i+1:Nat):Int))))
 (h2:∀w:Nat,step ((w:Int),(n:Int))=some (.inr (w:Int))):AR step (0,0)=some ((EJ n p:Nat):Int):=by
 refine aPh (fun s=>∃i:Nat,i<=n/\s=(((EJ i p:Nat):Int),(i:Int))) (fun s=>(n-s.2).toNat) (fun _=>((EJ n p:Nat):Int)) ?_ (0,0) ⟨0,by omega,rfl⟩
 rintro s ⟨i,hi,rfl⟩
 by_cases he:i=n
 subst he;exact .inl (h2 _)
 have hlt:EJ i p<4096:=Nat.lt_of_lt_of_le (H9 i p) (show 2^i<=2^12 from Nat.pow_le_pow_right (by decide) (by omega))
 refine .inr ⟨_,h1 i (EJ i p) (by omega) hlt,⟨i+1,by omega,by rw[Kz]⟩,?_,rfl⟩
 simp only;omega
def Mi(b:List X2)(a:CN)(x:X0):Bool:=if a.kind=1 then decide (a.value=x)else if a.kind=2 then decide (D9 b a.n=(x,true))else true
theorem N4{w b:List X2}(h:Dt w b=true){s:X2}(hs:s∈w):D9 b s.var=(s.value,true):=by unfold Dt at h;have:=(List.all_eq_true.1 h) s hs;simpa using this
theorem aFn{w b:List X2}{x:X2}:Dt (O3 w x) b=true↔D9 b x.var=(x.value,true)/\Dt w b=true:=by unfold Dt;simp only[List.all_eq_true,decide_eq_true_eq,EX];constructor;intro h;exact⟨h x (.inl rfl),fun s hs=>h s (.inr hs)⟩;rintro⟨h1,h2⟩ s (rfl|hs);exact h1;exact h2 s hs
theorem RI(b:List X2):∀(al:List CN) (xs:List X0) (bd f:List X2),al.length=xs.length->(∀a∈al,a.kind≠3)->
 ((∃p,GK al xs bd f=some p/\Dt p.1 b=true)↔Dt bd b=true/\∀z∈al.zip xs,Mi b z.1 z.2=true)
 |[],[],bd,f,_,_=>by simp[GK]
 |[],x::xs,bd,f,h,_=>by simp at h
 |a::al,[],bd,f,h,_=>by simp at h
 |a::al,x::xs,bd,f,hl,hk=>by
  have hl':al.length=xs.length:=by simpa using hl
  have hk':∀a∈al,a.kind≠3:=fun y hy=>hk y (List.mem_cons_of_mem _ hy);have h3:=hk a (by simp);have ih:=fun bd f=>RI b al xs bd f hl' hk';rw[GK,List.zip_cons_cons];simp only[List.forall_mem_cons];unfold Mi;by_cases k1:a.kind=1;rw[if_pos k1,if_pos k1];by_cases hv:a.value=x;rw[if_pos hv,ih];simp[hv,Mi];rw[if_neg hv];simp[hv];rw[if_neg k1,if_neg k1];by_cases k2:a.kind=2;rw[if_pos k2,if_pos k2];unfold Nn;by_cases hg:(D9 bd a.n).2=true;simp only[hg,if_true];have hge:D9 bd a.n=((D9 bd a.n).1,true):=by rw[<-hg]
  by_cases hv:(D9 bd a.n).1=x;simp only[hv,if_true];rw[ih];constructor;rintro⟨u,z⟩;have:=N4 u (Fj hge);simp only[hv]at this;exact⟨u,by simp[this],z⟩;rintro⟨u,_,z⟩;exact⟨u,z⟩;simp only[hv,if_false];constructor;rintro⟨p,hp,_⟩;cases hp;rintro⟨u,z,_⟩;have:=N4 u (Fj hge);simp only[decide_eq_true_eq]at z;rw[z]at this;exact absurd (by simpa using this.symm) hv;simp only[hg,if_false,Bool.false_eq_true];rw[ih,aFn];simp only[decide_eq_true_eq];constructor;rintro⟨⟨h1,h2⟩,z⟩;exact⟨h2,h1,z⟩;rintro⟨h2,h1,z⟩;exact⟨⟨h1,h2⟩,z⟩;rw[if_neg k2,if_neg h3,if_neg k2,ih];simp[Mi]
def NM(q:AD)(b:List X2)(d:Nat)(args:List X0)(i:Nat):Bool:=match q.symbols[i]? with
 |some s=>decide (s.event=(d:Int))&&(s.args.zip args).all fun z=>Mi b z.1 z.2
 |none=>false
def mkM(q:AD)(b:List X2)(d:Nat)(args:List X0):Nat:=EJ q.symbols.length (NM q b d args)
theorem TE{q:AD}(hR:AY q)(hS:B6 q){s:X5}(hs:s∈q.symbols):∀a∈s.args,a.kind≠3:=fun a ha h=>by have:=((hR.symbols s hs).args a ha).three h;rw[hS.frees]at this;simp at this;omega
theorem aDk{q:AD}(hR:AY q){i j:Nat}{d d':Xf}(h1:q.decls[i]? =some d)(h2:q.decls[j]? =some d')(hn:d.name=d'.name):i=j:=by have a1:=hR.decls i d h1;have a2:=hR.decls j d' h2;rw[hn,a2]at a1;exact(Option.some.inj a1).symm
theorem aDv{q:AD}(hR:AY q)(hS:B6 q)(b:List X2){e:X4}{d i:Nat}{dd:Xf}(hd:q.decls[d]? =some dd)(hn:e.name=dd.name)(hl:e.args.length=dd.types.length):
 (∃h,F1 q i e=some h/\Dt h.bind b=true)↔NM q b d e.args i=true:=by
 unfold F1 NM
 cases hs:q.symbols[i]? with
 |none=>simp
 |some s=>
  have hsm:=List.mem_of_getElem? hs
  obtain⟨d',hd',hlen⟩:=(hR.symbols s hsm).decl
  have h0:=(hR.symbols s hsm).event
  simp only[hd',ba,decide_eq_true_eq]
  by_cases he:s.event=(d:Int)
  have:s.event.toNat=d:=by omega
  rw[this,hd]at hd'
  cases hd'
  rw[if_pos ⟨hn.symm,by omega⟩]
  have:=RI b s.args e.args [] [] (by omega) (TE hR hS hsm)
  rw[List.all_eq_true]
  constructor
  rintro⟨h,hh,hu⟩
  obtain⟨p,hp,rfl⟩:=om.1 hh
  exact⟨he,(this.1 ⟨p,hp,hu⟩).2⟩
  rintro⟨_,hz⟩
  obtain⟨p,hp,hu⟩:=this.2 ⟨by simp[Dt],hz⟩
  exact⟨_,by rw[hp];rfl,hu⟩
  constructor
  rintro⟨h,hh,_⟩
  split at hh
  rename_i hc
  have:=aDk hR hd' hd (by rw[hc.1,hn])
  omega
  cases hh
  rintro⟨h,_⟩;exact absurd h he
theorem aVj{q:AD}(hF:CY q)(hR:AY q)(hS:B6 q)(b:List X2){e:X4}{d:Nat}{dd:Xf}(hd:q.decls[d]? =some dd)(hn:e.name=dd.name)(hl:e.args.length=dd.types.length):
 Zf (((List.range q.symbols.length).filterMap fun i=>F1 q i e).filter fun h=>Dt h.bind b)=some ((mkM q b d e.args:Nat):Int):=by
 obtain⟨M,hM,_,hb⟩:=Tg hF.symbols (LD hF hR hS e b)
 rw[hM]
 congr 2
 apply QU
 intro k
 rw[hb]
 unfold mkM
 rw[FJ]
 simp only[List.mem_filter,List.mem_filterMap,List.mem_range]
 constructor
 rintro⟨h,⟨⟨i,hi,hh⟩,hu⟩,hk⟩
 have hik:i=k:=by have:=(LC hh).1;omega
 subst hik
 exact⟨hi,(aDv hR hS b hd hn hl).1 ⟨h,hh,hu⟩⟩
 rintro⟨hk,hf⟩
 obtain⟨h,hh,hu⟩:=(aDv hR hS b hd hn hl).2 hf
 exact⟨h,⟨⟨k,hk,hh⟩,hu⟩,(LC hh).1⟩
theorem aYy{q:AD}(hF:CY q)(d:Nat):Yr q (d:Int)=some ((mkM q [] d []:Nat):Int):=by
 have hsy:=hF.symbols;have h:=Nc (step:=fun s:Int×Int=>JE (d:Int) q.symbols (q.symbols.length:Int) s.1 s.2) hsy (NM q [] d []) (fun i w hi hw=>by
  obtain⟨x,hx,_⟩:=AQ hi;have hwi:IntKind.wrap .u64 (i:Int)=(i:Int):=BC (by omega);simp only[JE,ltD hx,AG,aMq,AL hx,aMs,hwi,Aj (show(0:Int)<=(i:Int) by omega),Ah hx (show q.symbols.length<=9223372036854775807 by omega)];unfold NM;rw[hx];by_cases he:x.event=(d:Int);simp only[he,decide_true,AG,AB,List.zip_nil_right,List.all_nil,Bool.and_self,if_true];rw[aP1 (by omega),orU (by omega) (Nat.lt_of_lt_of_le (Nat.pow_lt_pow_right (by decide) (show i<12 by omega)) (by decide))];simp only[he,decide_false,AF,AB,Bool.false_and,Bool.false_eq_true,if_false]) (fun w=>by
  simp only[JE,ltI,AF])
 unfold Yr aTk;rw[h,AB];rfl
theorem aWk(b:List X2)(v:Int)(hb:b.length<=1000):Zr b v=some (D9 b v):=by
 have hl:=D6 (step:=fun s=>JZ v b (b.length:Int) zV s) b (fun _ t=>if t.var=v then some (Sum.inr t.value:Unit⊕X0)else none) (.inl ())
  (fun i x hx=>by simp only[JZ,ltD hx,AG,AL hx,Ah hx (show b.length<=9223372036854775807 by omega)];by_cases h:x.var=v<;>simp[h,AE]) (by simp only[JZ,ltI,AF])
 unfold Zr aT7;have hz:(X0.mk 0 0 ([]:List UInt8) false)=zV:=rfl;rw[hz,hl,AB,DG (fun t:X2=>if t.var=v then some (Sum.inr t.value:Unit⊕X0)else none)]
 unfold D9;have:(b.findSome? fun t=>if t.var=v then some (Sum.inr t.value:Unit⊕X0)else none)=(b.findSome? fun s=>if s.var=v then some s.value else none).map Sum.inr:=by
  clear hl hb;induction b with
  |nil=>rfl
  |cons x b ih=>
   rw[List.findSome?_cons,List.findSome?_cons]
   by_cases h:x.var=v
   simp[h]
   simp only[h,if_false];exact ih
 rw[this];cases(b.findSome? fun s=>if s.var=v then some s.value else none)<;>rfl
theorem aU6(p:Xx)(a:CN)(x:X0)(hb:p.b.length<=1000):Uc p a x=some (Mi p.b a x):=by
 unfold Uc Mi;rw[aWk _ _ hb];by_cases k1:a.kind=1;simp[k1,AE,X0.eqb_dec];by_cases k2:a.kind=2;simp only[k2,decide_true,AG,if_true,show¬(2:Int)=1 by decide,decide_false,AF,if_false,AB];cases hg:D9 p.b a.n with
 |mk v f=>cases f with
  |true=>simp[AE,X0.eqb_dec]
  |false=>simp[AE]
 simp[k1,k2,AE]
def H3(q:AD)(b:List X2)(d k:Nat)(v:X0)(i:Nat):Bool:=match q.symbols[i]? with
 |some s=>decide (s.event=(d:Int))&&(match s.args[k]? with
  |some a=>Mi b a v
  |none=>false)
 |none=>false
theorem aV4{q:AD}(hF:CY q)(hR:AY q){b:List X2}(hb:b.length<=1000){d k:Nat}{dd:Xf}(hd:q.decls[d]? =some dd)(hk:k<dd.types.length)(v:X0):
 Yl (Xx.mk q b (d:Int) (k:Int)) v=some ((EJ q.symbols.length (H3 q b d k v):Nat):Int):=by
 have hsy:=hF.symbols
 have h:=Nc (step:=fun s:Int×Int=>JB q.symbols (q.symbols.length:Int) (Xx.mk q b (d:Int) (k:Int)) v s.1 s.2) hsy (H3 q b d k v) (fun i w hi hw=>by
  obtain⟨x,hx,_⟩:=AQ hi;have hwi:IntKind.wrap .u64 (i:Int)=(i:Int):=BC (by omega);have hxm:=List.mem_of_getElem? hx;simp only[JB,ltD hx,AG,aMe,AL hx,ZF,hwi,Aj (show(0:Int)<=(i:Int) by omega),Ah hx (show q.symbols.length<=9223372036854775807 by omega)];unfold H3;rw[hx];by_cases he:x.event=(d:Int);obtain⟨d',hd',hlen⟩:=(hR.symbols x hxm).decl;have:x.event.toNat=d:=by omega
  rw[this,hd]at hd';cases hd';obtain⟨a,ha,_⟩:=AQ (l:=x.args) (i:=k) (by omega);simp only[he,decide_true,AG,AL ha,ha,Bool.true_and];rw[aU6 (Xx.mk q b (d:Int) (k:Int)) a v hb,AB];cases Mi b a v with
  |true=>
   simp only[AG,if_true,AB]
   rw[aP1 (by omega),orU (by omega) (Nat.lt_of_lt_of_le (Nat.pow_lt_pow_right (by decide) (show i<12 by omega)) (by decide))]
  |false=>simp only[AF,Bool.false_eq_true,if_false,AB]
  simp only[he,decide_false,AF,AB,Bool.false_and,Bool.false_eq_true,if_false]) (fun w=>by
  simp only[JB,ltI,AF])
 unfold Yl aTg
 simp only
 rw[h,AB]
theorem aFr{α β:Type}:∀{al:List α} {xs:List β} {a:α} (v:β),al[xs.length]? =some a->al.zip (xs++[v])=al.zip xs++[(a,v)]
 |a::al,[],_,v,h=>by simp at h;subst h;simp
 |[],xs,_,v,h=>by simp at h
 |a::al,x::xs,a',v,h=>by
  simp only[List.length_cons,List.getElem?_cons_succ]at h;simp[aFr v h]
theorem aEg{q:AD}(hR:AY q){b:List X2}{d:Nat}{dd:Xf}(hd:q.decls[d]? =some dd){args:List X0}(hk:args.length<dd.types.length)(v:X0):
 mkM q b d args&&&EJ q.symbols.length (H3 q b d args.length v)=mkM q b d (args++[v]):=by
 apply QU
 intro k
 unfold mkM
 rw[Nat.testBit_and,ba,FJ,FJ,FJ]
 unfold NM H3
 cases hs:q.symbols[k]? with
 |none=>simp
 |some s=>
  have hxm:=List.mem_of_getElem? hs
  simp only[ba,decide_eq_true_eq]
  by_cases he:s.event=(d:Int)
  obtain⟨d',hd',hlen⟩:=(hR.symbols s hxm).decl
  have:s.event.toNat=d:=by omega
  rw[this,hd]at hd';cases hd'
  obtain⟨a,ha,_⟩:=AQ (l:=s.args) (i:=args.length) (by omega)
  rw[aFr v ha,List.all_append,ha]
  simp[he]
  constructor
  rintro⟨⟨h1,h2⟩,_,h3⟩;exact⟨h1,h2,h3⟩
  rintro⟨h1,h2,h3⟩;exact⟨⟨h1,h2⟩,h1,h3⟩
  simp[he]
theorem aQ6(q:AD)(b:List X2)(d:Nat):mkM q b d []=mkM q [] d []:=by unfold mkM;congr 1;funext i;unfold NM;cases q.symbols[i]? <;>simp
theorem aWo{k:Int}(hk:k=1\/k=2){l w:List X0}(hl:l.length<=800)(hw:SW w)(hwl:w.length<=900)(hm:∀v,v.kind=k->(v∈w↔v∈l)):∃v,Y8 k l=some (v,true)/\Ye k w=some v/\v∉l/\v.kind=k/\vR v=true:=by
 have hex:∃i,0<=i/\i<0+(l.length+1)/\Gs k i∉l:=by apply Classical.byContradiction;intro hn;have:=aRa (Gs k) (fun i j h=>aPn h) (l.length+1) l (fun i hi=>Classical.byContradiction fun h=>hn ⟨i,by omega,by omega,h⟩);omega
 obtain⟨i,_,hi,hni,a4,a5⟩:=RZ hk (by omega) hw hwl hm (X0.mk 0 0 [] false) (l.length+1) 0 (by omega) hex;have h0:Gs k 0=X0.mk k 0 [] false:=by unfold Gs;split<;>rfl
 rw[h0]at a4 a5;refine⟨Gs k i,?_,?_,hni,Nh k i,aEl hk (by omega)⟩;unfold Y8;rcases hk with rfl|rfl
 simp only[decide_true,Bool.not_true,AF,a4,AB];simp only[show¬(2:Int)=1 by decide,decide_false,decide_true,Bool.not_false,Bool.not_true,AG,AF,a4,AB];unfold Ye;rw[a5,AB]
theorem Jq{q:AD}{k:Int}{v:X0}:v∈Dp q k↔(k=3/\(v=⟨3,0,[],false⟩\/v=⟨3,0,[],true⟩))\/∃s∈q.symbols,∃a∈s.args,a.kind=1/\a.value.kind=k/\v=a.value:=by
 have h1:∀(l:List CN) (w:List X0),v∈l.foldl (Kx k) w↔v∈w\/∃a∈l,a.kind=1/\a.value.kind=k/\v=a.value:=by
  intro l;induction l with
  |nil=>intro w;simp
  |cons a l ih=>
   intro w
   rw[List.foldl_cons,ih]
   have:v∈Kx k w a↔v∈w\/(a.kind=1/\a.value.kind=k/\v=a.value):=by unfold Kx;split;rename_i h;rw[Fp];simp[h.1,h.2,or_comm];rename_i h;constructor;exact .inl;rintro(h2|⟨a1,a2,_⟩);exact h2;exact absurd ⟨a1,a2⟩ h
   rw[this]
   constructor
   rintro((h|h)|⟨b,hb,h⟩)
   exact .inl h
   exact .inr ⟨a,by simp,h⟩
   exact .inr ⟨b,List.mem_cons_of_mem _ hb,h⟩
   rintro(h|⟨b,hb,h⟩)
   exact .inl (.inl h)
   rcases mc.1 hb with rfl|hb
   exact .inl (.inr h)
   exact .inr ⟨b,hb,h⟩
 have h2:∀(l:List X5) (w:List X0),v∈l.foldl (fun w s=>s.args.foldl (Kx k) w) w↔v∈w\/∃s∈l,∃a∈s.args,a.kind=1/\a.value.kind=k/\v=a.value:=by
  intro l;induction l with
  |nil=>intro w;simp
  |cons a l ih=>
   intro w
   rw[List.foldl_cons,ih,h1]
   constructor
   rintro((h|h)|⟨b,hb,h⟩)
   exact .inl h
   exact .inr ⟨a,by simp,h⟩
   exact .inr ⟨b,List.mem_cons_of_mem _ hb,h⟩
   rintro(h|⟨b,hb,h⟩)
   exact .inl (.inl h)
   rcases mc.1 hb with rfl|hb
   exact .inl (.inr h)
   exact .inr ⟨b,hb,h⟩
 unfold Dp;rw[h2];by_cases hk:k=3;simp[hk];simp[hk]
theorem Ss{q:AD}{k:Int}{v:X0}(h:v∈Dp q k):v.kind=k:=by
 rcases Jq.1 h with⟨rfl,rfl|rfl⟩|⟨s,_,a,_,_,hk,rfl⟩
 rfl;rfl;exact hk
theorem TY{l:List X0}(hl:l.length<=1000):Xl [l,[]]=some l:=by
 have h1:V9 [l,[]] [l,[]] 2 0 0=some (l.length:Int):=by
  rw[La];unfold G8 V7 V8;rw[show decide ((0:Int)<2)=true from rfl,AG,aDw,Mg (a:=0) (b:=(l.length:Int)) (by omega) (by omega),decide_eq_false (by omega),AF,AB,AB,BF];simp only;rw[La];unfold G8 V7 V8;have e1:AA .add .i64 0 1=1:=Mg (a:=0) (b:=1) (by omega) (by omega);have e2:AA .add .i64 1 1=2:=Mg (a:=1) (b:=1) (by omega) (by omega);rw[e1,show decide ((1:Int)<2)=true from rfl,AG,aQ0];have e3:AA .add .i64 (0+(l.length:Int)) (([]:List X0).length:Int)=(l.length:Int):=by rw[Mg (by simp<;>omega) (by simp<;>omega)];simp
  rw[e3,decide_eq_false (by omega),AF,AB,AB,BF,e2];simp only;rw[La];unfold G8;rw[show decide ((2:Int)<2)=false from rfl,AF,Ae]
 have h2:WC [l,[]] 2 0 []=some l:=by have e1:AA .add .i64 0 1=1:=Mg (a:=0) (b:=1) (by omega) (by omega);have e2:AA .add .i64 1 1=2:=Mg (a:=1) (b:=1) (by omega) (by omega);rw[Lb];unfold G9;rw[show decide ((0:Int)<2)=true from rfl,AG,aDw,Aj (B2 (by simp;omega) (by decide)),BF,e1];simp only[List.nil_append];rw[Lb];unfold G9;rw[show decide ((1:Int)<2)=true from rfl,AG,aQ0,Aj (B2 (by simp;omega) (by decide)),BF,e2];simp only[List.append_nil];rw[Lb];unfold G9;rw[show decide ((2:Int)<2)=false from rfl,AF,Ae]
 unfold Xl;have hln:(([l,[]]:List (List X0)).length:Int)=2:=rfl;rw[hln,h1,AB];have hg:Um (l.length:Int)=some []:=by unfold Um aO4;rw[if_pos ⟨by omega,by simp;omega,by omega⟩]
 rw[hg,AB,h2,AB]
def Mh(t:Int)(w:List X0)(s:X2):List X0:=if s.value.kind=t/\s.value∉w then w++[s.value]else w
def Kc(t:Int)(w:List X0)(s:X2):List X0:=if s.value.kind=t then OA w s.value else w
theorem QX(t:Int)(v:X0):∀(b:List X2) (w:List X0),v∈b.foldl (Mh t) w↔v∈w\/∃s∈b,s.value=v/\v.kind=t
 |[],w=>by simp
 |s::b,w=>by
  rw[List.foldl_cons,QX t v b];have:v∈Mh t w s↔v∈w\/(s.value=v/\v.kind=t):=by unfold Mh;split;rename_i h;simp only[ma,List.mem_singleton];constructor;rintro(h2|rfl);exact .inl h2;exact .inr ⟨rfl,h.1⟩;rintro(h2|⟨rfl,_⟩);exact .inl h2;exact .inr rfl;rename_i h;constructor;exact .inl;rintro(h2|⟨rfl,h3⟩);exact h2;exact Classical.byContradiction fun hn=>h ⟨h3,hn⟩
  rw[this];simp only[mc,exists_eq_or_imp];rw[or_assoc]
theorem Fb(t:Int)(v:X0):∀(b:List X2) (w:List X0),v∈b.foldl (Kc t) w↔v∈w\/∃s∈b,s.value=v/\v.kind=t
 |[],w=>by simp
 |s::b,w=>by
  rw[List.foldl_cons,Fb t v b];have:v∈Kc t w s↔v∈w\/(s.value=v/\v.kind=t):=by unfold Kc;split;rename_i h;rw[Fp];constructor;rintro(rfl|h2);exact .inr ⟨rfl,h⟩;exact .inl h2;rintro(h2|⟨rfl,_⟩);exact .inr h2;exact .inl rfl;rename_i h;constructor;exact .inl;rintro(h2|⟨rfl,h3⟩);exact h2;exact absurd h3 h
  rw[this];simp only[mc,exists_eq_or_imp];rw[or_assoc]
theorem aDb(t:Int)(w:List X0)(s:X2):(Mh t w s).length<=w.length+1:=by unfold Mh;split<;>simp
theorem QW(t:Int):∀(b:List X2) (w:List X0),(b.foldl (Mh t) w).length<=w.length+b.length
 |[],w=>by simp
 |s::b,w=>by
  rw[List.foldl_cons];have h1:=QW t b (Mh t w s);have h2:(Mh t w s).length<=w.length+1:=by unfold Mh;split<;>simp
  simp only[List.length_cons];omega
theorem QY{t:Int}:∀{b:List X2} {w:List X0},(∀s∈b,vR s.value=true)->SW w->SW (b.foldl (Kc t) w)/\(b.foldl (Kc t) w).length<=w.length+b.length
 |[],w,_,hw=>⟨hw,by simp⟩
 |s::b,w,hb,hw=>by
  rw[List.foldl_cons];have h2:SW (Kc t w s)/\(Kc t w s).length<=w.length+1:=by unfold Kc;split;have:=Ms hw (hb s (by simp));exact⟨this.1,by rw[this.2];split<;>omega⟩;exact⟨hw,by omega⟩
  have h1:=QY (t:=t) (fun s hs=>hb s (List.mem_cons_of_mem _ hs)) h2.1;refine⟨h1.1,?_⟩;simp only[List.length_cons];omega
theorem vR3{v:X0}(hv:vR v=true)(hk:v.kind=3):v=⟨3,0,[],false⟩\/v=⟨3,0,[],true⟩:=by
 obtain⟨k,i,s,b⟩:=v;simp only at hk;subst hk;rcases Gq hv with h|h|h
 simp at h;simp at h;obtain⟨_,h2,h3⟩:=h;simp only at h2 h3;subst h2;subst h3;cases b<;>simp
structure bAy(q:AD)(b:List X2)(t:Int)(jl rl:List X0):Prop where
 same:∀v,v∈jl↔v∈rl
 jlen:jl.length<=300
 rlen:rl.length<=300
 kind:∀v∈rl,v.kind=t/\vR v=true
 whole:∀v,vR v=true->v.kind=t->∃v'∈rl,∀s∈q.symbols,∀a∈s.args,Mi b a v'=Mi b a v
theorem PX{q:AD}(hF:CY q)(hR:AY q){b:List X2}(hB:BR b){d k:Nat}{dd:Xf}{t:Int}(hd:q.decls[d]? =some dd)(ht:dd.types[k]? =some t)(h13:1<=t/\t<=3):
 ∃jl rl,Y7 (Xx.mk q b (d:Int) (k:Int)) []=some jl/\Yk q t b []=some rl/\bAy q b t jl rl:=by
 have hbl:=Mm hB
 have hbv:∀s∈b,vR s.value=true:=fun s hs=>(hB.2 s hs).2.2
 obtain⟨hcw,hcl⟩:=cons_inv hF hR t
 have hjl:=QW t b (Dp q t)
 have hG:=QY (t:=t) hbv hcw
 have hmem:∀v,v∈b.foldl (Kc t) (Dp q t)↔v∈b.foldl (Mh t) (Dp q t):=fun v=>by rw[Fb,QX]
 have hkind:∀v∈b.foldl (Kc t) (Dp q t),v.kind=t:=fun v hv=>by
  rcases(Fb t v b _).1 hv with h|⟨s,_,_,h⟩
  exact Ss h;exact h
 --the program's loop over the binding
 have e1:aK9 [] t b (b.length:Int) 0 (Dp q t)=some (b.foldl (Mh t) (Dp q t)):=by unfold aK9;refine Cm (step:=fun s:Int×List X0=>I4 [] t b (b.length:Int) s.1 s.2) b (Mh t) (fun w=>w) (fun i w=>w.length<=200+i) (fun i x w hx hI=>?_) (fun w _=>by simp only[I4,ltI,AF]) _ (by omega);have hlt:=(List.getElem?_eq_some_iff.1 hx).1;refine⟨?_,by have:=aDb t w x;omega⟩;simp only[I4,ltD hx,AG,aK6,YD,AL hx,Ah hx (show b.length<=9223372036854775807 by omega)];unfold Mh;by_cases h1:x.value.kind=t;rw[De,if_pos h1,ID _ _ (by omega),AB];by_cases h2:x.value∈w;rw[decide_eq_true h2,if_neg (fun h=>h.2 h2)];rfl;rw[decide_eq_false h2,if_pos ⟨h1,h2⟩,Bool.not_false,AG,Aj (B2 (by simp;omega) (by decide))];rfl;rw[De,if_neg h1,if_neg (fun h=>h1 h.1)];rfl
 have e2:aMc t b [] (Dp q t) 0=some (b.foldl (Kc t) (Dp q t)):=by unfold aMc;refine Ha (step:=fun s:List X0×Int=>JA t b [] s.1 s.2) b (Kc t) (fun w=>w) (fun i w=>SW w/\w.length<=200+i) (fun i x w hx hI=>?_) (fun w _=>by simp only[JA,ltI,AF]) _ ⟨hcw,by omega⟩;have hlt:=(List.getElem?_eq_some_iff.1 hx).1;have hxv:=hbv x (List.mem_of_getElem? hx);have hput:=Ms hI.1 hxv;refine⟨?_,?_⟩;simp only[JA,ltD hx,AG,aL8,aMa,AL hx,Ah hx (show b.length<=9223372036854775807 by omega)];unfold Kc;by_cases h1:x.value.kind=t;rw[De,if_pos h1,if_pos h1,aMo hI.1 hxv (by have:=hI.2;omega)];rfl;rw[De,if_neg h1,if_neg h1];rfl;unfold Kc;split;refine⟨hput.1,?_⟩;rw[hput.2];have:=hI.2;split<;>omega;exact⟨hI.1,by have:=hI.2;omega⟩
 have eJ:Y7 (Xx.mk q b (d:Int) (k:Int)) []=(AH (Y8 t (b.foldl (Mh t) (Dp q t))) fun r11=>AH (SP r11.2 (b.foldl (Mh t) (Dp q t)) r11.1) fun o12=>some o12):=by unfold Y7;simp only;rw[AL hd,AL ht,bBi hF hR,AB,e1,AB,TY (by omega),AB]
 by_cases h3:t=3
 subst h3
 have hN:Y8 3 (b.foldl (Mh 3) (Dp q 3))=some (X0.mk 0 0 [] false,false):=by unfold Y8;rfl
 refine⟨_,_,by rw[eJ,hN,AB];unfold SP;rfl,?_,fun v=>(hmem v).symm,by omega,by omega,fun v hv=>⟨hkind v hv,hG.1.2 v hv⟩,fun v hv hk=>⟨v,?_,fun _ _ _ _=>rfl⟩⟩
 unfold Yk
 rw[aXl hF hR,AB,e2,AB];rfl
 rw[Fb]
 exact .inl (Jq.2 (.inl ⟨rfl,vR3 hv hk⟩))
 have h12:t=1\/t=2:=by omega
 obtain⟨nv,n1,n2,n3,n4,n5⟩:=aWo h12 (l:=b.foldl (Mh t) (Dp q t)) (w:=b.foldl (Kc t) (Dp q t)) (by omega) hG.1 (by omega) (fun v _=>hmem v)
 have hput:=Ms hG.1 n5
 refine⟨b.foldl (Mh t) (Dp q t)++[nv],OA (b.foldl (Kc t) (Dp q t)) nv,?_,?_,fun v=>?_,by simp;omega,by rw[hput.2];split<;>omega,fun v hv=>?_,fun v hv hk=>?_⟩
 rw[eJ,n1,AB]
 unfold SP
 simp only
 rw[AG,Aj (B2 (by simp;omega) (by decide)),AB]
 unfold Yk
 have hof:Ys [] t=some []:=by unfold Ys;rw[aMy];unfold Li;rfl
 have hun:Zd (b.foldl (Kc t) (Dp q t)) []=some (b.foldl (Kc t) (Dp q t)):=by unfold Zd;rw[aNr];unfold Lk;rfl
 rw[aXl hF hR,AB,e2,AB,decide_eq_false h3,AF,hof,AB,hun,AB,n2,AB,aMo hG.1 n5 (by omega),AB]
 rw[Fp,hmem,ma,List.mem_singleton,or_comm]
 rcases Fp.1 hv with rfl|h
 exact⟨n4,n5⟩
 exact⟨hkind v h,hG.1.2 v h⟩
 by_cases hin:v∈b.foldl (Kc t) (Dp q t)
 exact⟨v,Fp.2 (.inr hin),fun _ _ _ _=>rfl⟩
 refine⟨nv,Fp.2 (.inl rfl),fun s hs a ha=>?_⟩
 have hnv:nv∉b.foldl (Kc t) (Dp q t):=fun h=>n3 ((hmem nv).1 h)
 have key:∀x:X0,(x.kind=t->x∈b.foldl (Kc t) (Dp q t))->x≠v/\x≠nv:=fun x hx=>by refine⟨fun e=>hin (e▸hx (by rw[e];exact hk)),fun e=>hnv (e▸hx (by rw[e];exact n4))⟩
 unfold Mi
 by_cases k1:a.kind=1
 have:=key a.value (fun h=>(Fb t _ b _).2 (.inl (Jq.2 (.inr ⟨s,hs,a,ha,k1,h,rfl⟩))))
 rw[if_pos k1,if_pos k1,decide_eq_false this.1,decide_eq_false this.2]
 rw[if_neg k1,if_neg k1]
 by_cases k2:a.kind=2
 rw[if_pos k2,if_pos k2]
 cases hg:D9 b a.n with
 |mk x f=>
  cases f with
  |false=>simp
  |true=>
   have:=key x (fun h=>(Fb t _ b _).2 (.inr ⟨_,Fj hg,rfl,h⟩))
   rw[decide_eq_false (fun e=>this.2 (by simpa using e)),decide_eq_false (fun e=>this.1 (by simpa using e))]
 rw[if_neg k2,if_neg k2]
structure KS(S:List (Int×Bool))(P:Nat->Prop):Prop where
 nd:(S.map (·.1)).Nodup
 tr:∀x∈S,x.2=true
 is:∀x:Int,x∈S.map (·.1)↔ ∃n:Nat,x=(n:Int)/\P n
theorem aEk{α β:Type}(f:α->β):∀{l:List α},(l.map f).Nodup->l.Nodup
 |[],_=>List.nodup_nil
 |a::l,h=>by
  rw[List.map_cons,List.nodup_cons]at h;exact List.nodup_cons.2 ⟨fun hm=>h.1 (mm.2 ⟨a,hm,rfl⟩),aEk f h.2⟩
theorem KS.perm{S S':List (Int×Bool)}{P:Nat->Prop}(h:KS S P)(h':KS S' P):S.Perm S':=by
 rw[List.perm_ext_iff_of_nodup (aEk _ h.nd) (aEk _ h'.nd)];have key:∀{A B:List (Int×Bool)},KS A P->KS B P->∀a∈A,a∈B:=fun{A B} hA hB a ha=>by obtain⟨b,hb,e⟩:=mm.1 ((hB.is a.1).2 ((hA.is a.1).1 (mm.2 ⟨a,ha,rfl⟩)));have:b=a:=Prod.ext e (by rw[hB.tr b hb,hA.tr a ha]);exact this▸hb
 exact fun a=>⟨key h h' a,key h' h a⟩
theorem KS.of_perm{S S':List (Int×Bool)}{P:Nat->Prop}(h:KS S P)(hp:S'.Perm S):KS S' P:=
 ⟨(hp.map _).nodup_iff.2 h.nd,fun x hx=>h.tr x (hp.mem_iff.1 hx),fun x=>by rw[(hp.map _).mem_iff,h.is]⟩
theorem KS.can{S S':List (Int×Bool)}{P:Nat->Prop}(h:KS S P)(h':KS S' P):aPe S=aPe S':=by have h1:=h.of_perm (GT S);have h2:=h'.of_perm (GT S');refine List.Perm.eq_of_pairwise (le:=fun a b:Int×Bool=>a.1<=b.1) (fun a b ha hb e1 e2=>?_) (J3 S) (J3 S') (h1.perm h2);exact Prod.ext (by omega) (by rw[h1.tr a ha,h2.tr b hb])
theorem KS.congr{S:List (Int×Bool)}{P Q:Nat->Prop}(h:KS S P)(hq:∀n,P n↔Q n):KS S Q:=⟨h.nd,h.tr,fun x=>by rw[h.is];simp only[hq]⟩
theorem KS.nil:KS [] (fun _=>False):=⟨List.nodup_nil,(fun x hx=>by cases hx),fun x=>by simp⟩
theorem KE(k:Int)(v:Bool)(x:Int):∀S:List (Int×Bool),x∈(Ge k v S).map (·.1)↔x=k\/x∈S.map (·.1)
 |[]=>by simp[Ge]
 |y::S=>by
  rw[Ge];split;rename_i h;simp[h];rename_i h;simp only[List.map_cons,mc,KE k v x S];constructor;rintro(h|h|h);exact .inr (.inl h);exact .inl h;exact .inr (.inr h);rintro(h|h|h);exact .inr (.inl h);exact .inl h;exact .inr (.inr h)
theorem aEv(k:Int)(v:Bool):∀{S:List (Int×Bool)},(S.map (·.1)).Nodup->((Ge k v S).map (·.1)).Nodup
 |[],_=>by simp[Ge]
 |y::S,h=>by
  rw[List.map_cons,List.nodup_cons]at h;rw[Ge];split;rename_i e;rw[List.map_cons,List.nodup_cons];exact⟨by rw[<-e];exact h.1,h.2⟩;rename_i e;rw[List.map_cons,List.nodup_cons];refine⟨fun hm=>?_,aEv k v h.2⟩;rcases(KE k v y.1 S).1 hm with h2|h2
  exact e h2;exact h.1 h2
theorem aEx(k:Int):∀{S:List (Int×Bool)},(∀x∈S,x.2=true)->∀x∈Ge k true S,x.2=true
 |[],_,x,hx=>by simp[Ge]at hx;rw[hx]
 |y::S,h,x,hx=>by
  rw[Ge]at hx;split at hx;rcases mc.1 hx with rfl|hx
  rfl;exact h x (List.mem_cons_of_mem _ hx);rcases mc.1 hx with rfl|hx
  exact h _ (by simp);exact aEx k (fun z hz=>h z (List.mem_cons_of_mem _ hz)) x hx
theorem KS.put{S:List (Int×Bool)}{P:Nat->Prop}(h:KS S P)(m:Nat):KS (Ge (m:Int) true S) (fun n=>P n\/n=m):=by refine⟨aEv _ _ h.nd,aEx _ h.tr,fun x=>?_⟩;rw[KE,h.is];constructor;rintro(rfl|⟨n,rfl,hn⟩);exact⟨m,rfl,.inr rfl⟩;exact⟨n,rfl,.inl hn⟩;rintro⟨n,rfl,hn|rfl⟩;exact .inr ⟨n,rfl,hn⟩;exact .inl rfl
theorem NF(k x:Int):∀{S:List (Int×Bool)},(S.map (·.1)).Nodup->(x∈(Ox k S).map (·.1)↔x≠k/\x∈S.map (·.1))
 |[],_=>by simp[Ox]
 |y::S,h=>by
  rw[List.map_cons,List.nodup_cons]at h;rw[Ox];split;rename_i e;rw[List.map_cons,mc];constructor;intro hx;exact⟨fun e2=>h.1 (by rw[e,<-e2];exact hx),.inr hx⟩;rintro⟨h1,h2|h2⟩;exact absurd (h2.trans e) h1;exact h2;rename_i e;rw[List.map_cons,mc,List.map_cons,mc,NF k x h.2];constructor;rintro(h1|⟨h1,h2⟩);exact⟨fun e2=>e (h1.symm.trans e2),.inl h1⟩;exact⟨h1,.inr h2⟩;rintro⟨h1,h2|h2⟩;exact .inl h2;exact .inr ⟨h1,h2⟩
theorem MC(k:Int):∀(S:List (Int×Bool)),(Ox k S).Sublist S
 |[]=>List.Sublist.refl _
 |y::S=>by
  rw[Ox];split;exact List.sublist_cons_self _ _;exact(MC k S).cons_cons y
theorem KS.del{S:List (Int×Bool)}{P:Nat->Prop}(h:KS S P):KS (Ox 0 S) (fun n=>P n/\n≠0):=by refine⟨h.nd.sublist ((MC 0 S).map _),fun x hx=>h.tr x ((MC 0 S).subset hx),fun x=>?_⟩;rw[NF 0 x h.nd,h.is];constructor;rintro⟨h1,n,rfl,hn⟩;exact⟨n,rfl,hn,by omega⟩;rintro⟨n,rfl,hn,h0⟩;exact⟨by omega,n,rfl,hn⟩
theorem NP{α σ:Type}(f:σ->α->σ):∀(l:List α) (s:σ),Eo (fun x s=>some (f s x)) s l=some (l.foldl f s)
 |[],_=>rfl
 |x::l,s=>by rw[Eo,AB,List.foldl_cons];exact NP f l _
theorem KS.fold{P:Nat->Prop}(f:Nat->Nat):∀{p:List (Int×Bool)} {S:List (Int×Bool)} {Q:Nat->Prop},(∀x∈p,∃n:Nat,x.1=(n:Int)/\P n)->KS S Q->
 KS (p.foldl (fun s x=>Ge ((f x.1.toNat:Nat):Int) true s) S) (fun n=>Q n\/∃x∈p,n=f x.1.toNat)
 |[],S,Q,_,h=>h.congr fun n=>by simp
 |x::p,S,Q,hp,h=>by
  rw[List.foldl_cons];refine(KS.fold f (fun y hy=>hp y (List.mem_cons_of_mem _ hy)) (h.put (f x.1.toNat))).congr fun n=>?_;simp only[mc,exists_eq_or_imp];rw[or_assoc]
theorem NJ{S0 S:List (Int×Bool)}{P Q:Nat->Prop}(f:Nat->Nat){c:List (Int×Bool)->List (Int×Bool)}(hc:c=fun s=>aPe s){step:Int×Bool->List (Int×Bool)->Option (List (Int×Bool))}
 (hs:∀(n:Nat) (v:Bool) (s:List (Int×Bool)),P n->step ((n:Int),v) s=some (Ge ((f n:Nat):Int) true s)) (h0:KS S0 P) (h:KS S Q):
 ∃S',GR c S0 step S=some S'/\KS S' (fun n=>Q n\/∃m,P m/\n=f m):=by
 have run:∀p:List (Int×Bool),p.Perm S0->Eo step S p=some (p.foldl (fun s x=>Ge ((f x.1.toNat:Nat):Int) true s) S)/\KS (p.foldl (fun s x=>Ge ((f x.1.toNat:Nat):Int) true s) S) (fun n=>Q n\/∃m,P m/\n=f m):=fun p hp=>by
  have hk:=h0.of_perm hp;have hx:∀x∈p,∃n:Nat,x.1=(n:Int)/\P n:=fun x hx=>(hk.is x.1).1 (mm.2 ⟨x,hx,rfl⟩);constructor;rw[<-NP (fun s x=>Ge ((f x.1.toNat:Nat):Int) true s) p S];clear hp hk;revert hx;generalize S=s;revert s;induction p with
  |nil=>intro s _;rfl
  |cons x p ih=>
   intro s hx
   obtain⟨n,e,hn⟩:=hx x (by simp)
   obtain⟨x1,x2⟩:=x
   simp only at e
   subst e
   rw[Eo,Eo,hs n x2 s hn]
   exact ih _ fun y hy=>hx y (List.mem_cons_of_mem _ hy)
  refine(KS.fold f hx h).congr fun n=>?_;constructor;rintro(h1|⟨x,hxp,rfl⟩);exact .inl h1;obtain⟨m,e,hm⟩:=hx x hxp;exact .inr ⟨m,hm,by rw[e];rfl⟩;rintro(h1|⟨m,hm,rfl⟩);exact .inl h1;obtain⟨x,hxp,e⟩:=mm.1 ((hk.is (m:Int)).2 ⟨m,rfl,hm⟩);exact .inr ⟨x,hxp,by rw[e];rfl⟩
 obtain⟨r0,k0⟩:=run S0 (List.Perm.refl _)
 refine⟨aPe (S0.foldl (fun s x=>Ge ((f x.1.toNat:Nat):Int) true s) S),NI fun p hp=>?_,k0.of_perm (GT _)⟩
 obtain⟨r1,k1⟩:=run p hp
 exact⟨_,r1,by rw[hc];exact k1.can k0⟩
def VS(q:AD)(b:List X2)(t:Int)(v:X0):Prop:=∃rl,Yk q t b []=some rl/\v∈rl
def MS(q:AD)(b:List X2)(d:Nat)(dd:Xf)(k n:Nat):Prop:=∃args:List X0,args.length=k/\(∀(j:Nat) v t,args[j]? =some v->dd.types[j]? =some t->VS q b t v)/\n=mkM q b d args
theorem aRr{q:AD}(hF:CY q){b:List X2}{d:Nat}{dd:Xf}{k n:Nat}(h:MS q b d dd k n):n<4096:=by obtain⟨args,_,_,rfl⟩:=h;have:=hF.symbols;exact Nat.lt_of_lt_of_le (H9 _ _) (show 2^q.symbols.length<=2^12 from Nat.pow_le_pow_right (by decide) this)
theorem aRt{q:AD}{b:List X2}{d:Nat}{dd:Xf}{n:Nat}:MS q b d dd 0 n↔n=mkM q [] d []:=by constructor;rintro⟨args,hl,_,rfl⟩;rw[List.eq_nil_of_length_eq_zero hl,aQ6];rintro rfl;exact⟨[],rfl,(fun j v t h=>by simp at h),(aQ6 q b d).symm⟩
theorem aRs{q:AD}(hR:AY q){b:List X2}{d k:Nat}{dd:Xf}{t:Int}(hd:q.decls[d]? =some dd)(ht:dd.types[k]? =some t){n:Nat}:
 MS q b d dd (k+1) n↔ ∃v,VS q b t v/\∃m,MS q b d dd k m/\n=m&&&EJ q.symbols.length (H3 q b d k v):=by
 have hk:=(List.getElem?_eq_some_iff.1 ht).1
 constructor
 rintro⟨args,hl,hv,rfl⟩
 obtain⟨v,hvk,_⟩:=AQ (l:=args) (i:=k) (by omega)
 have hsplit:args=args.take k++[v]:=by have h1:args.take (k+1)=args:=List.take_of_length_le (by omega);rw[List.take_add_one,hvk]at h1;exact h1.symm
 have hlt:(args.take k).length=k:=by rw[List.length_take];omega
 refine⟨v,hv k v t hvk ht,_,⟨args.take k,hlt,fun j w t' hj ht'=>hv j w t' ?_ ht',rfl⟩,?_⟩
 rw[hsplit,List.getElem?_append_left ((List.getElem?_eq_some_iff.1 hj).1)];exact hj
 have:=aEg hR (b:=b) hd (args:=args.take k) (by omega) v
 rw[hlt]at this
 rw[this,<-hsplit]
 rintro⟨v,hv,m,⟨args,hl,ha,rfl⟩,rfl⟩
 refine⟨args++[v],by simp[hl],fun j w t' hj ht'=>?_,?_⟩
 by_cases hj2:j<args.length
 rw[List.getElem?_append_left hj2]at hj;exact ha j w t' hj ht'
 have hj3:=(List.getElem?_eq_some_iff.1 hj).1
 simp at hj3
 have:j=k:=by omega
 subst this
 rw[<-hl,List.getElem?_append_right (Nat.le_refl _)]at hj
 simp at hj
 subst hj
 rw[ht]at ht';cases ht'
 exact hv
 rw[<-hl];exact aEg hR hd (by omega) v
theorem PW{q:AD}{d:Nat}{dd:Xf}(hT:∀d∈q.decls,∀t∈d.types,(1:Int)<=t/\t<=3)(hd:q.decls[d]? =some dd){k:Nat}{t:Int}(ht:dd.types[k]? =some t):1<=t/\t<=3:=
 hT dd (List.mem_of_getElem? hd) t (List.mem_of_getElem? ht)
theorem aEi{q:AD}(hF:CY q)(hR:AY q)(hT:∀d∈q.decls,∀t∈d.types,(1:Int)<=t/\t<=3){b:List X2}(hB:BR b){d k:Nat}{dd:Xf}{t:Int}(hd:q.decls[d]? =some dd)(ht:dd.types[k]? =some t){S0:List (Int×Bool)}(h0:KS S0 (MS q b d dd k)):
 ∃S',Xp (Xx.mk q b (d:Int) (k:Int)) S0=some S'/\KS S' (MS q b d dd (k+1)):=by
 have hbl:=Mm hB
 have hk:=(List.getElem?_eq_some_iff.1 ht).1
 obtain⟨jl,rl,hj,hr,hV⟩:=PX hF hR hB hd ht (PW hT hd ht)
 have hsy:=hF.symbols
 have hW:∀v,EJ q.symbols.length (H3 q b d k v)<4096:=fun v=>Nat.lt_of_lt_of_le (H9 _ _) (show 2^q.symbols.length<=2^12 from Nat.pow_le_pow_right (by decide) hsy)
 obtain⟨S',hS,hK⟩:=Ap (step:=fun s:Int×List (Int×Bool)=>Ir jl (jl.length:Int) S0 (Xx.mk q b (d:Int) (k:Int)) s.1 s.2)
  (fun s=>∃i:Nat,s.1=(i:Int)/\i<=jl.length/\KS s.2 (fun n=>∃v∈jl.take i,∃m,MS q b d dd k m/\n=m&&&EJ q.symbols.length (H3 q b d k v)))
  (fun s=>(jl.length-s.1).toNat)
  (fun S'=>KS S' (fun n=>∃v∈jl,∃m,MS q b d dd k m/\n=m&&&EJ q.symbols.length (H3 q b d k v)))
  (by
   rintro⟨s,S⟩ ⟨i,rfl,hi,hS⟩;simp only at hS⊢;have hjl:=hV.jlen;by_cases he:i=jl.length;subst he;rw[List.take_length]at hS;exact .inl ⟨S,by simp only[Ir,ltI,AF],hS⟩;right;obtain⟨x,hx,_⟩:=AQ (l:=jl) (i:=i) (by omega);obtain⟨S2,e2,k2⟩:=NJ (f:=fun m=>m&&&EJ q.symbols.length (H3 q b d k x)) (S:=S) (c:=Lc ((EJ q.symbols.length (H3 q b d k x):Nat):Int) jl (jl.length:Int) (i:Int) S0 (Xx.mk q b (d:Int) (k:Int))) rfl
    (step:=fun(x_1:Int×Bool) (s:List (Int×Bool))=>HC ((EJ q.symbols.length (H3 q b d k x):Nat):Int) jl (jl.length:Int) (i:Int) S0 (Xx.mk q b (d:Int) (k:Int)) x_1.1 x_1.2 s)
    (fun n v s hn=>by simp only[HC];have h1:=aRr hF hn;have h2:=hW x;rw[bDl (by omega) (by omega)]) h0 hS
   refine⟨(((i+1:Nat):Int),S2),?_,⟨i+1,rfl,by omega,k2.congr fun n=>?_⟩,by simp only;omega⟩;simp only[Ir,ltD hx,AG,AL hx,Ah hx (show jl.length<=9223372036854775807 by omega)];rw[aV4 hF hR (by omega) hd hk x,AB];unfold aI9 aSs;rw[e2,AB,AB];rw[List.take_add_one,hx];simp only[Option.toList_some,ma,List.mem_singleton];constructor;rintro(⟨v,hv,h⟩|⟨m,hm,h⟩);exact⟨v,.inl hv,h⟩;exact⟨x,.inr rfl,m,hm,h⟩;rintro⟨v,hv|rfl,h⟩;exact .inl ⟨v,hv,h⟩;obtain⟨m,hm,h⟩:=h;exact .inr ⟨m,hm,h⟩)
  ((0:Int),[]) ⟨0,rfl,by omega,KS.nil.congr fun n=>by simp⟩
 refine⟨S',?_,hK.congr fun n=>?_⟩
 unfold Xp aSr
 rw[hj,AB,hS,AB]
 rw[aRs hR hd ht]
 constructor
 rintro⟨v,hv,h⟩;exact⟨v,⟨rl,hr,(hV.same v).1 hv⟩,h⟩
 rintro⟨v,⟨rl',hr',hv⟩,h⟩
 rw[hr]at hr';cases hr'
 exact⟨v,(hV.same v).2 hv,h⟩
def DS(q:AD)(b:List X2)(i n:Nat):Prop:=∃d dd,d<i/\q.decls[d]? =some dd/\MS q b d dd dd.types.length n
theorem aU0{q:AD}(hF:CY q)(hR:AY q)(hT:∀d∈q.decls,∀t∈d.types,(1:Int)<=t/\t<=3){b:List X2}(hB:BR b){d:Nat}{dd:Xf}(hd:q.decls[d]? =some dd)(h3:dd.types.length<=8)(s15:Int)(w5:List (Int×Bool)):
 ∃S',aR6 b (d:Int) s15 (d:Int) (dd.types.length:Int) q w5 0 (Ge ((mkM q [] d []:Nat):Int) true [])=some S'/\KS S' (MS q b d dd dd.types.length):=by
 obtain⟨S',hS,hK⟩:=Ap (step:=fun s:Int×List (Int×Bool)=>IM b (d:Int) s15 (d:Int) (dd.types.length:Int) q w5 s.1 s.2)
  (fun s=>∃k:Nat,s.1=(k:Int)/\k<=dd.types.length/\KS s.2 (MS q b d dd k)) (fun s=>(dd.types.length-s.1).toNat) (fun S'=>KS S' (MS q b d dd dd.types.length))
  (by rintro⟨s,S⟩ ⟨k,rfl,hk,hS⟩;simp only at hS⊢;by_cases he:k=dd.types.length;subst he;exact .inl ⟨S,by simp only[IM,ltI,AF],hS⟩;right;obtain⟨t,ht,_⟩:=AQ (l:=dd.types) (i:=k) (by omega);obtain⟨S2,e2,k2⟩:=aEi hF hR hT hB hd ht hS;refine⟨(((k+1:Nat):Int),S2),?_,⟨k+1,rfl,by omega,k2⟩,by simp only;omega⟩;simp only[IM,ltD ht,AG,Ah ht (show dd.types.length<=9223372036854775807 by omega)];rw[e2,AB])
  ((0:Int),Ge ((mkM q [] d []:Nat):Int) true []) ⟨0,rfl,by omega,(KS.nil.put (mkM q [] d [])).congr fun n=>by rw[aRt];simp⟩
 exact⟨S',hS,hK⟩
theorem aYs{q:AD}(hF:CY q)(hR:AY q)(hT:∀d∈q.decls,∀t∈d.types,(1:Int)<=t/\t<=3)(h3:∀d∈q.decls,d.types.length<=3){b:List X2}(hB:BR b):
 ∃S',aR5 b (q.decls.length:Int) q 0 []=some S'/\KS S' (DS q b q.decls.length):=by
 have hdl:=hF.decls
 obtain⟨S',hS,hK⟩:=Ap (step:=fun s:Int×List (Int×Bool)=>IL b (q.decls.length:Int) q s.1 s.2)
  (fun s=>∃i:Nat,s.1=(i:Int)/\i<=q.decls.length/\KS s.2 (DS q b i)) (fun s=>(q.decls.length-s.1).toNat) (fun S'=>KS S' (DS q b q.decls.length))
  (by
   rintro⟨s,S⟩ ⟨i,rfl,hi,hS⟩;simp only at hS⊢;by_cases he:i=q.decls.length;subst he;exact .inl ⟨S,by simp only[IL,ltI,AF],hS⟩;right;obtain⟨dd,hd,_⟩:=AQ (l:=q.decls) (i:=i) (by omega);obtain⟨S2,e2,k2⟩:=aU0 hF hR hT hB hd (by have:=h3 dd (List.mem_of_getElem? hd);omega) (q.decls.length:Int) S;obtain⟨S3,e3,k3⟩:=NJ (f:=fun m=>m) (S:=S) (c:=LW b (q.decls.length:Int) (i:Int) q S2) rfl
    (step:=fun(x_1:Int×Bool) (s:List (Int×Bool))=>IN b (q.decls.length:Int) (i:Int) q S2 x_1.1 x_1.2 s) (fun n v s hn=>rfl) k2 hS
   refine⟨(((i+1:Nat):Int),S3),?_,⟨i+1,rfl,by omega,k3.congr fun n=>?_⟩,by simp only;omega⟩;simp only[IL,ltD hd,AG,AL hd,Ah hd (show q.decls.length<=9223372036854775807 by omega)];rw[aYy hF,AB,e2,AB];unfold aGl aR7;rw[e3,AB,AB];constructor;rintro(⟨d,d2,h1,h2,h3⟩|⟨m,hm,rfl⟩);exact⟨d,d2,by omega,h2,h3⟩;exact⟨i,dd,by omega,hd,hm⟩;rintro⟨d,d2,h1,h2,h3⟩;by_cases hdi:d=i;subst hdi;rw[hd]at h2;cases h2;exact .inr ⟨n,h3,rfl⟩;exact .inl ⟨d,d2,by omega,h2,h3⟩)
  ((0:Int),[]) ⟨0,rfl,by omega,KS.nil.congr fun n=>⟨fun h=>h.elim,fun⟨d,_,h,_⟩=>by omega⟩⟩
 exact⟨S',hS,hK⟩
structure RS(L:List Int)(P:Nat->Prop):Prop where
 up:L.Pairwise (· < ·)
 is:∀x:Int,x∈L↔ ∃n:Nat,x=(n:Int)/\P n
theorem RS.uniq{L M:List Int}{P:Nat->Prop}(h:RS L P)(k:RS M P):L=M:=by
 have nd:∀{A:List Int},A.Pairwise (· < ·)->A.Nodup:=fun h=>h.imp fun h=>by omega
 exact GI (h.up.imp fun h=>by omega) (k.up.imp fun h=>by omega) ((List.perm_ext_iff_of_nodup (nd h.up) (nd k.up)).2 fun x=>by rw[h.is,k.is])
theorem RS.len{L:List Int}{P:Nat->Prop}{m:Nat}(h:RS L P)(hP:∀n,P n->n<m):L.length<=m:=by
 have h1:L.Nodup:=h.up.imp fun h=>by omega
 have:=h1.length_le_of_subset (l₂:=(List.range m).map (fun n:Nat=>(n:Int))) fun x hx=>by obtain⟨n,rfl,hn⟩:=(h.is x).1 hx;exact mm.2 ⟨n,List.mem_range.2 (hP n hn),rfl⟩
 simpa using this
def aGf(q:AD)(b:List X2)(n:Nat):Prop:=DS q b q.decls.length n/\n≠0
theorem OH{q:AD}(hF:CY q){b:List X2}{n:Nat}(h:aGf q b n):n<4096:=by obtain⟨⟨d,dd,_,_,hm⟩,_⟩:=h;exact aRr hF hm
theorem bD0{S:List (Int×Bool)}{P:Nat->Prop}(h:KS S P)(hl:S.length<=4096):∃w,aR9 S []=some w/\w.Perm (S.map (·.1)):=by
 have run:∀(p:List (Int×Bool)) (w:List Int),p.length+w.length<=4096->Eo (fun(x:Int×Bool) (s:List Int)=>F7 S x.1 x.2 s) w p=some (w++p.map (·.1)):=by
  intro p;induction p with
  |nil=>intro w _;simp[Eo]
  |cons x p ih=>
   intro w hw
   rw[List.length_cons]at hw
   have e:F7 S x.1 x.2 w=some (w++[x.1]):=by unfold F7;exact Aj (B2 (by simp;omega) (by decide)) _
   rw[Eo,e,AB,ih _ (by simp;omega)]
   simp
 refine⟨aPz (S.map (·.1)),NI fun p hp=>⟨_,run p [] (by rw[hp.length_eq];simp;omega),?_⟩,EP _⟩
 show aPz ([]++p.map (·.1))=aPz (S.map (·.1))
 rw[List.nil_append];exact GI (Ez _) (Ez _) ((EP _).trans ((hp.map _).trans (EP _).symm))
theorem bAz{q:AD}(hF:CY q)(hR:AY q)(hT:∀d∈q.decls,∀t∈d.types,(1:Int)<=t/\t<=3)(h3:∀d∈q.decls,d.types.length<=3){b:List X2}(hB:BR b):
 ∃L,X7 q b=some L/\RS L (aGf q b):=by
 obtain⟨S,e1,k1⟩:=aYs hF hR hT h3 hB
 have k2:KS (Ox 0 S) (aGf q b):=k1.del
 have hlen:(Ox 0 S).length<=4096:=by
  have:=k2.nd.length_le_of_subset (l₂:=(List.range 4096).map (fun n:Nat=>(n:Int))) fun x hx=>by obtain⟨n,rfl,hn⟩:=(k2.is x).1 hx;exact mm.2 ⟨n,List.mem_range.2 (OH hF hn),rfl⟩
  simpa using this
 obtain⟨w,e2,p2⟩:=bD0 k2 hlen
 have hsort:=aGi (w:=w) (l:=aPz w) (by rw[p2.length_eq];simp;omega) (Ez w) (EP w)
 refine⟨aPz w,?_,?_,fun x=>?_⟩
 unfold X7
 rw[e1,AB]
 unfold aGn
 rw[e2,AB,AB,hsort,AB]
 have hnd:(aPz w).Nodup:=((EP w).trans p2).nodup_iff.2 k2.nd
 exact List.Pairwise.imp (fun h=>by have h1:=h.1;have h2:=h.2;omega) ((Ez w).and hnd)
 rw[((EP w).trans p2).mem_iff,k2.is]
def EvP(q:AD)(b:List X2)(dd:Xf)(args:List X0)(e:X4):Prop:=
 ∃tail:List X0,args.length+tail.length=dd.types.length/\(∀(j:Nat) v t,tail[j]? =some v->dd.types[args.length+j]? =some t->VS q b t v)/\e=X4.mk dd.name (args++tail)
theorem aFx{q:AD}{b:List X2}{dd:Xf}{args:List X0}(hl:args.length=dd.types.length)(e:X4):EvP q b dd args e↔e=X4.mk dd.name args:=by constructor;rintro⟨tail,h1,_,rfl⟩;rw[List.eq_nil_of_length_eq_zero (show tail.length=0 by omega),List.append_nil];rintro rfl;exact⟨[],by simpa using hl,(fun j v t h=>by simp at h),by rw[List.append_nil]⟩
theorem aFy{q:AD}{b:List X2}{dd:Xf}{args:List X0}{t:Int}(ht:dd.types[args.length]? =some t)(e:X4):EvP q b dd args e↔ ∃v,VS q b t v/\EvP q b dd (args++[v]) e:=by
 have hk:=(List.getElem?_eq_some_iff.1 ht).1;constructor;rintro⟨tail,h1,h2,rfl⟩;cases tail with
 |nil=>simp at h1;omega
 |cons v tail=>
  refine⟨v,h2 0 v t rfl ht,tail,by simp at h1⊢;omega,fun j w t' hj ht'=>?_,by simp⟩
  refine h2 (j+1) w t' (by simpa using hj) ?_
  rw[<-ht'];congr 1;simp;omega
 rintro⟨v,hv,tail,h1,h2,rfl⟩;refine⟨v::tail,by simp at h1⊢;omega,fun j w t' hj ht'=>?_,by simp⟩;cases j with
 |zero=>
  simp at hj ht'
  subst hj
  rw[ht]at ht';cases ht'
  exact hv
 |succ j=>
  refine h2 j w t' (by simpa using hj) ?_
  rw[<-ht'];congr 1;simp;omega
theorem PK{r:Nat}(h:r<=3):300^r<=27000000:=by
 have:r=0\/r=1\/r=2\/r=3:=by omega
 rcases this with rfl|rfl|rfl|rfl<;>decide
theorem aDq{q:AD}(hF:CY q)(hR:AY q)(hT:∀d∈q.decls,∀t∈d.types,(1:Int)<=t/\t<=3){b:List X2}(hB:BR b){d:Nat}{dd:Xf}(hd:q.decls[d]? =some dd)(h3:dd.types.length<=3):
 ∀(n r:Nat) (args:List X0),r<n->args.length+r=dd.types.length->∃evs,aQk n q (d:Int) b [] args=some evs/\(∀e,e∈evs↔EvP q b dd args e)/\evs.length<=300^r:=by
 intro n
 induction n with
 |zero=>intro r args h;omega
 |succ n ih=>
  intro r args hr hl
  show∃evs,aXz (aQk n) q (d:Int) b [] args=some evs/\_
  unfold aXz
  rw[AL hd]
  cases r with
  |zero=>
   refine⟨[X4.mk dd.name args],?_,fun e=>?_,by simp⟩
   rw[decide_eq_true (by omega),AG,AL hd]
   rw[aFx (by omega),List.mem_singleton]
  |succ r=>
   obtain⟨t,ht,_⟩:=AQ (l:=dd.types) (i:=args.length) (by omega)
   obtain⟨jl,rl,_,hrl,hV⟩:=PX hF hR hB hd ht (PW hT hd ht)
   have hc:=PK (r:=r) (by omega)
   have hp:300^(r+1)=300*300^r:=by rw[Nat.pow_succ,Nat.mul_comm]
   have hlp:300^(r+1)<=27000000:=PK (by omega)
   obtain⟨evs,e1,e2,e3⟩:=Ap (step:=fun s:Int×List X4=>I9 (aQk n) (d:Int) b [] args rl q s.1 s.2)
    (fun s=>∃i:Nat,s.1=(i:Int)/\i<=rl.length/\(∀e,e∈s.2↔ ∃v∈rl.take i,EvP q b dd (args++[v]) e)/\s.2.length<=i*300^r)
    (fun s=>(rl.length-s.1).toNat) (fun evs=>(∀e,e∈evs↔ ∃v∈rl,EvP q b dd (args++[v]) e)/\evs.length<=rl.length*300^r)
    (by rintro⟨s,w⟩ ⟨i,rfl,hi,hm,hw⟩;simp only at hm hw⊢;by_cases he:i=rl.length;subst he;rw[List.take_length]at hm;exact .inl ⟨w,by simp only[I9,ltI,AF],hm,hw⟩;right;obtain⟨x,hx,_⟩:=AQ (l:=rl) (i:=i) (by omega);obtain⟨ev,f1,f2,f3⟩:=ih r (args++[x]) (by omega) (by simp;omega);have hrlen:=hV.rlen;have hi3:i*300^r<=300*300^r:=Nat.mul_le_mul_right _ (by omega);refine⟨(((i+1:Nat):Int),w++ev),?_,⟨i+1,rfl,by omega,fun e=>?_,?_⟩,by simp only;omega⟩;simp only[I9,ltD hx,AG,AL hx,Ah hx (show rl.length<=9223372036854775807 by omega),List.nil_append];rw[Aj (B2 (by simp;omega) (by decide)),Aj (B2 (by simp;omega) (by decide)),f1,AB,Aj (B2 (by omega) (by decide))];rw[List.take_add_one,hx,ma,hm,f2];simp only[Option.toList_some,ma,List.mem_singleton];constructor;rintro(⟨v,hv,h⟩|h);exact⟨v,.inl hv,h⟩;exact⟨x,.inr rfl,h⟩;rintro⟨v,hv|rfl,h⟩;exact .inl ⟨v,hv,h⟩;exact .inr h;simp only[List.length_append];rw[Nat.succ_mul];omega)
    ((0:Int),[]) ⟨0,rfl,by omega,fun e=>by simp,by simp⟩
   have e1':aTf (aQk n) (d:Int) b [] args rl q 0 []=some evs:=e1
   refine⟨evs,?_,fun e=>?_,?_⟩
   rw[decide_eq_false (by omega),AF,AL hd,AL ht,hrl,AB,e1',AB]
   rw[e2,aFy ht]
   constructor
   rintro⟨v,hv,h⟩;exact⟨v,⟨rl,hrl,hv⟩,h⟩
   rintro⟨v,⟨rl',h1,hv⟩,h⟩
   rw[hrl]at h1;cases h1
   exact⟨v,hv,h⟩
   have:=hV.rlen
   have h1:rl.length*300^r<=300*300^r:=Nat.mul_le_mul_right _ this
   omega
theorem aY3(L:List Int)(x:Int)(hl:L.length<=5000):∀k,k<=L.length->(∀i,k<=i->i<L.length->x<ga L i)->∃j:Nat,aAr L x (k:Int)=some (j:Int)/\j<=k/\(∀i,j<=i->i<L.length->x<ga L i)/\(0<j->ga L (j-1)<=x):=by
 intro k;induction k with
 |zero=>
  intro hk hg
  refine⟨0,?_,Nat.le_refl _,hg,fun h=>by omega⟩
  rw[QL]
  unfold JJ
  rw[decide_eq_false (by omega),AF,Ae]
 |succ k ih=>
  intro hk hg
  rw[QL]
  unfold JJ
  rw[decide_eq_true (by omega),AG,D1 (by omega),Nat.add_sub_cancel,E3 (by omega)]
  by_cases h:x<ga L k
  obtain⟨j,e1,e2,e3,e4⟩:=ih (by omega) (fun i h1 h2=>by by_cases hi:i=k;subst hi;exact h;exact hg i (by omega) h2)
  exact⟨j,by rw[decide_eq_true h,AG,BF];exact e1,by omega,e3,e4⟩
  refine⟨k+1,by rw[decide_eq_false h,AF,Ae],Nat.le_refl _,hg,fun _=>?_⟩
  rw[Nat.add_sub_cancel];omega
theorem RS.put{L:List Int}{P:Nat->Prop}(h:RS L P)(hl:L.length<=4500)(m:Nat):∃L',Z2 L (m:Int)=some L'/\RS L' (fun n=>P n\/n=m):=by
 obtain⟨j,e1,e2,e3,e4⟩:=aY3 L (m:Int) (by omega) L.length (Nat.le_refl _) (fun i h1 h2=>by omega);have hup:∀p q,p<q->q<L.length->ga L p<ga L q:=fun p q h1 h2=>by have:=(List.pairwise_iff_getElem.1 h.up) p q (by omega) h2 h1;rwa [Jw,Jw]at this
 unfold Z2;rw[e1,AB];by_cases hin:0<j/\ga L (j-1)=(m:Int);refine⟨L,?_,h.up,fun x=>?_⟩;rw[decide_eq_true (by omega),AG,D1 (by omega),E3 (by omega),decide_eq_true hin.2,AG];rw[h.is];constructor;rintro⟨n,rfl,hn⟩;exact⟨n,rfl,.inl hn⟩;rintro⟨n,rfl,hn|rfl⟩;exact⟨n,rfl,hn⟩;have:((n:Nat):Int)∈L:=by rw[<-hin.2,<-Jw (show j-1<L.length by omega)];exact List.getElem_mem _
 exact(h.is _).1 this;have hlow:∀i,i<j->ga L i<(m:Int):=fun i hi=>by have h1:=e4 (by omega);have h2:ga L (j-1)≠(m:Int):=fun e=>hin ⟨by omega,e⟩;by_cases hij:i=j-1;subst hij;omega;have:=hup i (j-1) (by omega) (by omega);omega
 have hrun:(AU ((0:Int)<=0/\(0:Int)<=(j:Int)/\(j:Int)<=(L.length:Int)) (AU (fit ([]:List Int).length (sub L 0 (j:Int)).length 8) (AU (fit (([]:List Int)++(sub L 0 (j:Int))).length [(m:Int)].length 8) (AU ((0:Int)<=(j:Int)/\((j:Int):Int)<=(L.length:Int)/\(L.length:Int)<=(L.length:Int)) (AU (fit ((([]:List Int)++(sub L 0 (j:Int)))++[(m:Int)]).length (sub L (j:Int) (L.length:Int)).length 8) (some (((([]:List Int)++(sub L 0 (j:Int)))++[(m:Int)])++(sub L (j:Int) (L.length:Int)))))))):Option (List Int))=some (L.take j++(m:Int)::L.drop j):=by
  have s1:sub L 0 (j:Int)=L.take j:=by have:=aFf L 0 j;simpa using this
  rw[s1,aFe,Aj ⟨by omega,by omega,by omega⟩,Aj (B2 (by simp;omega) (by decide)),Aj (B2 (by simp;omega) (by decide)),Aj ⟨by omega,by omega,by omega⟩,Aj (B2 (by simp;omega) (by decide))];simp
 refine⟨L.take j++(m:Int)::L.drop j,?_,?_,fun x=>?_⟩;by_cases hj:0<j;rw[decide_eq_true (by omega),AG,D1 (by omega),E3 (by omega),decide_eq_false (fun e=>hin ⟨hj,e⟩),AF];exact hrun;rw[decide_eq_false (by omega),AF];exact hrun;rw[List.pairwise_append,List.pairwise_cons];refine⟨h.up.sublist (List.take_sublist _ _),⟨fun a ha=>?_,h.up.sublist (List.drop_sublist _ _)⟩,fun a ha c hc=>?_⟩;obtain⟨i,hi⟩:=List.mem_iff_getElem?.1 ha;rw[List.getElem?_drop]at hi;obtain⟨h1,h2⟩:=List.getElem?_eq_some_iff.1 hi;rw[<-h2,Jw];exact e3 _ (by omega) h1;obtain⟨i,hi⟩:=List.mem_iff_getElem?.1 ha;rw[List.getElem?_take]at hi;split at hi;rename_i hij;obtain⟨h1,h2⟩:=List.getElem?_eq_some_iff.1 hi;have ha':a<(m:Int):=by rw[<-h2,Jw];exact hlow i hij
 rcases mc.1 hc with rfl|hc
 exact ha';obtain⟨k,hk⟩:=List.mem_iff_getElem?.1 hc;rw[List.getElem?_drop]at hk;obtain⟨g1,g2⟩:=List.getElem?_eq_some_iff.1 hk;have:(m:Int)<c:=by rw[<-g2,Jw];exact e3 _ (by omega) g1
 omega;cases hi;have hmem:x∈L↔x∈L.take j\/x∈L.drop j:=by rw[<-ma,List.take_append_drop]
 rw[ma,mc];constructor;rintro(h1|rfl|h1);obtain⟨n,rfl,hn⟩:=(h.is x).1 (hmem.2 (.inl h1));exact⟨n,rfl,.inl hn⟩;exact⟨m,rfl,.inr rfl⟩;obtain⟨n,rfl,hn⟩:=(h.is x).1 (hmem.2 (.inr h1));exact⟨n,rfl,.inl hn⟩;rintro⟨n,rfl,hn|rfl⟩;rcases hmem.1 ((h.is _).2 ⟨n,rfl,hn⟩)with h1|h1
 exact .inl h1;exact .inr (.inr h1);exact .inr (.inl rfl)
theorem RS.congr{L:List Int}{P Q:Nat->Prop}(h:RS L P)(hq:∀n,P n↔Q n):RS L Q:=⟨h.up,fun x=>by rw[h.is];simp only[hq]⟩
theorem aO7{q:AD}(hF:CY q)(hR:AY q){i:Nat}{e:X4}{h:Ad}(hh:F1 q i e=some h):h.bind.length<=12:=by unfold F1 at hh;split at hh;cases hh;rename_i s hs;split at hh;cases hh;split at hh;have hsm:=List.mem_of_getElem? hs;obtain⟨p,hp,rfl⟩:=om.1 hh;have:=HW s.args e.args [] [] p (bDm hF hR hsm) ⟨List.Pairwise.nil,by simp⟩ ⟨List.Pairwise.nil,by simp⟩ (fun s hs=>by simp at hs) hp;have h12:=hF.args s hsm;have:=this.2.2.2.1;simp at this;simp only;omega;cases hh
theorem aQw{q:AD}(hF:CY q)(hR:AY q)(hS:B6 q){b:List X2}(hB:BR b){d:Nat}{dd:Xf}(hd:q.decls[d]? =some dd)(args:List X0)(hl:args.length=dd.types.length):
 ∃l1 l2,Yc q (X4.mk dd.name args)=some l1/\Yf l1 b=some l2/\Zf l2=some ((mkM q b d args:Nat):Int):=by
 have hsy:=hF.symbols
 have hbl:=Mm hB
 have hlen:((List.range q.symbols.length).filterMap fun i=>F1 q i (X4.mk dd.name args)).length<=1000:=by have h2:=List.length_filterMap_le (fun i=>F1 q i (X4.mk dd.name args)) (List.range q.symbols.length);rw[List.length_range]at h2;omega
 have hbind:∀h∈(List.range q.symbols.length).filterMap (fun i=>F1 q i (X4.mk dd.name args)),h.bind.length<=9223372036854775807:=fun h hh=>by obtain⟨i,hi,hh2⟩:=List.mem_filterMap.1 hh;have:=aO7 hF hR hh2;omega
 exact⟨_,_,aXv hF hR,aXx hlen hbind (by omega),aVj hF hR hS b hd rfl hl⟩
theorem bDw{q:AD}(hF:CY q)(hR:AY q)(hS:B6 q){b:List X2}(hB:BR b){d:Nat}{dd:Xf}(hd:q.decls[d]? =some dd){evs:List X4}(hev:∀e,e∈evs↔EvP q b dd [] e)(hel:evs.length<=27000000){L:List Int}(hL:RS L (fun n=>DS q b d n/\n≠0)):
 ∃L',aSv b (d:Int) evs q L 0=some L'/\RS L' (fun n=>DS q b (d+1) n/\n≠0):=by
 have hDS:∀{i n},DS q b i n->n<4096:=fun⟨_,_,_,_,hm⟩=>aRr hF hm
 obtain⟨L',e1,e2⟩:=Ap (step:=fun s:List Int×Int=>HD b (d:Int) evs q s.1 s.2)
  (fun s=>∃i:Nat,s.2=(i:Int)/\i<=evs.length/\RS s.1 (fun n=>(DS q b d n/\n≠0)\/∃e∈evs.take i,n=mkM q b d e.args/\n≠0))
  (fun s=>(evs.length-s.2).toNat) (fun L'=>RS L' (fun n=>(DS q b d n/\n≠0)\/∃e∈evs,n=mkM q b d e.args/\n≠0))
  (by
   rintro⟨w,s⟩ ⟨i,rfl,hi,hw⟩;simp only at hw⊢;by_cases he:i=evs.length;subst he;rw[List.take_length]at hw;exact .inl ⟨w,by simp only[HD,ltI,AF],hw⟩;right;obtain⟨x,hx,_⟩:=AQ (l:=evs) (i:=i) (by omega);obtain⟨tail,t1,_,rfl⟩:=(hev x).1 (List.mem_of_getElem? hx);rw[List.nil_append]at hx;obtain⟨l1,l2,m1,m2,m3⟩:=aQw hF hR hS hB hd tail (by simpa using t1);have hmlt:∀l,mkM q b d l<4096:=fun l=>Nat.lt_of_lt_of_le (H9 _ _) (show 2^q.symbols.length<=2^12 from Nat.pow_le_pow_right (by decide) hF.symbols);have hwl:w.length<=4500:=Nat.le_trans (hw.len (m:=4096) fun n hn=>by
    rcases hn with h|⟨e,_,h,_⟩
    exact hDS h.1;rw[h];exact hmlt _) (by decide)
   have hstep:HD b (d:Int) evs q w (i:Int)=(AH (SE b w (d:Int) evs (i:Int) ((mkM q b d tail:Nat):Int) (!decide (((mkM q b d tail:Nat):Int)=0)) q) fun o=>some (.inl (o,((i+1:Nat):Int)))):=by simp only[HD,ltD hx,AG,aJd,AL hx,Ah hx (show evs.length<=9223372036854775807 by omega)];rw[m1,AB,m2,AB,m3,AB];cases(SE b w (d:Int) evs (i:Int) ((mkM q b d tail:Nat):Int) (!decide (((mkM q b d tail:Nat):Int)=0)) q)<;>rfl
   rw[hstep];unfold SE;by_cases h0:mkM q b d tail=0;refine⟨(w,((i+1:Nat):Int)),by rw[h0];rfl,⟨i+1,rfl,by omega,hw.congr fun n=>?_⟩,by simp only;omega⟩;rw[List.take_add_one,hx];simp only[Option.toList_some,ma,List.mem_singleton];constructor;rintro(h|⟨e,he,h⟩);exact .inl h;exact .inr ⟨e,.inl he,h⟩;rintro(h|⟨e,he|rfl,h,h'⟩);exact .inl h;exact .inr ⟨e,he,h,h'⟩;exact absurd (h.trans h0) h';obtain⟨L2,p1,p2⟩:=hw.put hwl (mkM q b d tail);refine⟨(L2,((i+1:Nat):Int)),by rw[decide_eq_false (by omega),Bool.not_false,AG,p1];rfl,⟨i+1,rfl,by omega,p2.congr fun n=>?_⟩,by simp only;omega⟩;rw[List.take_add_one,hx];simp only[Option.toList_some,ma,List.mem_singleton];constructor;rintro((h|⟨e,he,h⟩)|rfl);exact .inl h;exact .inr ⟨e,.inl he,h⟩;exact .inr ⟨_,.inr rfl,rfl,h0⟩;rintro(h|⟨e,he|rfl,h,h'⟩);exact .inl (.inl h);exact .inl (.inr ⟨e,he,h,h'⟩);exact .inr h)
  (L,(0:Int)) ⟨0,rfl,by omega,hL.congr fun n=>by simp⟩
 refine⟨L',e1,e2.congr fun n=>?_⟩
 constructor
 rintro(⟨⟨d',dd',h1,h2,h3⟩,h0⟩|⟨e,he,h,h0⟩)
 exact⟨⟨d',dd',by omega,h2,h3⟩,h0⟩
 obtain⟨tail,t1,t2,rfl⟩:=(hev e).1 he
 refine⟨⟨d,dd,by omega,hd,tail,by simpa using t1,fun j v t hj ht=>t2 j v t hj (by simpa using ht),?_⟩,h0⟩
 simpa using h
 rintro⟨⟨d',dd',h1,h2,h3⟩,h0⟩
 by_cases hdd:d'=d
 subst hdd
 rw[hd]at h2;cases h2
 obtain⟨args,a1,a2,rfl⟩:=h3
 exact .inr ⟨X4.mk dd.name args,(hev _).2 ⟨args,by simpa using a1,fun j v t hj ht=>a2 j v t hj (by simpa using ht),by simp⟩,rfl,h0⟩
 exact .inl ⟨⟨d',dd',by omega,h2,h3⟩,h0⟩
theorem bBl{q:AD}(hF:CY q)(hR:AY q)(hS:B6 q)(hT:∀d∈q.decls,∀t∈d.types,(1:Int)<=t/\t<=3)(h3:∀d∈q.decls,d.types.length<=3){b:List X2}(hB:BR b):
 ∃L,Xq q b=some L/\RS L (aGf q b):=by
 have hdl:=hF.decls
 obtain⟨L,e1,e2⟩:=Ap (step:=fun s:List Int×Int=>Is b q s.1 s.2)
  (fun s=>∃i:Nat,s.2=(i:Int)/\i<=q.decls.length/\RS s.1 (fun n=>DS q b i n/\n≠0)) (fun s=>(q.decls.length-s.2).toNat) (fun L=>RS L (aGf q b))
  (by rintro⟨w,s⟩ ⟨i,rfl,hi,hw⟩;simp only at hw⊢;by_cases he:i=q.decls.length;subst he;exact .inl ⟨w,by simp only[Is,ltI,AF],hw⟩;right;obtain⟨dd,hd,_⟩:=AQ (l:=q.decls) (i:=i) (by omega);have h3':=h3 dd (List.mem_of_getElem? hd);obtain⟨evs,f1,f2,f3⟩:=aDq hF hR hT hB hd h3' 100000 dd.types.length [] (by omega) (by simp);have hp:=PK h3';obtain⟨L2,g1,g2⟩:=bDw hF hR hS hB hd f2 (by omega) hw;refine⟨(L2,((i+1:Nat):Int)),?_,⟨i+1,rfl,by omega,g2⟩,by simp only;omega⟩;have f1':Yi q (i:Int) b [] []=some evs:=f1;simp only[Is,ltD hd,AG,Ah hd (show q.decls.length<=9223372036854775807 by omega)];rw[f1',AB,g1,AB])
  ([],(0:Int)) ⟨0,rfl,by omega,⟨List.Pairwise.nil,fun x=>⟨fun h=>by simp at h,fun⟨n,_,⟨_,_,h,_⟩,_⟩=>by omega⟩⟩⟩
 exact⟨L,by unfold Xq aSu;rw[e1,AB],e2⟩
theorem Mt{q:AD}(hF:CY q)(hR:AY q)(hS:B6 q)(hT:∀d∈q.decls,∀t∈d.types,(1:Int)<=t/\t<=3)(h3:∀d∈q.decls,d.types.length<=3){b:List X2}(hB:BR b):
 ∃L,X7 q b=some L/\Xq q b=some L/\RS L (aGf q b):=by
 obtain⟨L,e1,e2⟩:=bAz hF hR hT h3 hB
 obtain⟨M,f1,f2⟩:=bBl hF hR hS hT h3 hB
 exact⟨L,e1,by rw[f1,e2.uniq f2],e2⟩
theorem J7{σ τ:Type}{step:σ->Option (σ⊕τ)}{I:σ->Prop}(hI:∀s s',I s->step s=some (.inl s')->I s'){s:σ}{t:τ}(h0:I s)(h:AR step s=some t):∃s',I s'/\step s'=some (.inr t):=by
 obtain⟨n,hn⟩:=GX.1 h;clear h;induction n generalizing s with
 |zero=>simp[itE]at hn
 |succ n ih=>
  simp only[itE]at hn
  split at hn
  cases hn
  rename_i s' hs;exact ih (hI s s' h0 hs) hn
  rename_i t' hs;cases hn;exact⟨s,h0,hs⟩
theorem aYm{l:List Xf}{i:Nat}{x:Xf}(hx:l[i]? =some x)(hl:x.types.length<=8)(h:aK3 l (i:Int) 0=some (.inl ())):∀t∈x.types,1<=t/\t<=3:=by
 have hstep:∀n:Nat,FC l (i:Int) (n:Int)=match x.types[n]? with
  |some t=>if t<1\/3<t then some (.inr (.inr ()))else some (.inl ((n+1:Nat):Int))
  |none=>some (.inr (.inl ())):=fun n=>by
  unfold FC
  rw[AL hx]
  cases ht:x.types[n]? with
  |none=>
   have:=List.getElem?_eq_none_iff.1 ht
   rw[decide_eq_false (by omega),AF]
  |some t=>
   simp only[ltD ht,AG,AL hx,AL ht,Ah ht (show x.types.length<=9223372036854775807 by omega),De]
   by_cases h1:t<1
   simp[h1]
   by_cases h2:3<t
   simp[h1,h2]
   simp[h1,h2]
 obtain⟨s',⟨n,rfl,hn⟩,hs⟩:=J7 (step:=fun s=>FC l (i:Int) s) (I:=fun s=>∃n:Nat,s=(n:Int)/\∀j t,j<n->x.types[j]? =some t->1<=t/\t<=3)
  (by
   rintro s s' ⟨n,rfl,hn⟩ hs;rw[hstep]at hs;cases ht:x.types[n]? with
   |none=>rw[ht]at hs;cases hs
   |some t=>
    rw[ht]at hs
    simp only at hs
    split at hs
    cases hs
    rename_i hc
    cases hs
    refine⟨n+1,rfl,fun j u hj hu=>?_⟩
    by_cases hjn:j=n
    subst hjn;rw[ht]at hu;cases hu;omega
    exact hn j u (by omega) hu) ⟨0,rfl,fun j t hj=>by omega⟩ h
 rw[hstep]at hs;intro t ht;obtain⟨j,hj⟩:=List.mem_iff_getElem?.1 ht;refine hn j t ?_ hj;cases hx2:x.types[n]? with
 |none=>
  have h1:=List.getElem?_eq_none_iff.1 hx2
  have h2:=(List.getElem?_eq_some_iff.1 hj).1
  omega
 |some u=>
  rw[hx2]at hs
  simp only at hs
  split at hs<;>cases hs
theorem aYl{l:List Xf}(hl:l.length<=1000){o:Unit⊕(Int×Int)}(h:aK1 l 0=some o)(ho:∀r,o=.inr r->r.1=0):∀d∈l,∀t∈d.types,1<=t/\t<=3:=by
 have fwd:∀(n:Nat) (y:Int⊕(Unit⊕(Int×Int))),FA l (n:Int)=some y->(y=.inr (.inl ())/\l.length<=n)\/(y=.inl ((n+1:Nat):Int)/\∀d,l[n]? =some d->∀t∈d.types,1<=t/\t<=3)\/∃r,y=.inr (.inr r)/\r.1≠0:=by
  intro n y hy;unfold FA at hy;rcases iS hy with⟨h1,hy⟩|⟨h1,hy⟩
  have hlt:n<l.length:=by have:=of_decide_eq_true h1;omega
  obtain⟨x,hx,_⟩:=AQ hlt;rw[AL hx]at hy;obtain⟨r2,_,hy⟩:=bS hy;rcases iS hy with⟨_,hy⟩|⟨_,hy⟩
  cases hy;exact .inr (.inr ⟨_,rfl,by simp⟩);rw[AL hx]at hy;obtain⟨r4,_,hy⟩:=bS hy;rcases iS hy with⟨_,hy⟩|⟨_,hy⟩
  cases hy;exact .inr (.inr ⟨_,rfl,by simp⟩);rw[AL hx]at hy;rcases iS hy with⟨_,hy⟩|⟨h8,hy⟩
  cases hy;exact .inr (.inr ⟨_,rfl,by simp⟩);have h8:=of_decide_eq_false h8;obtain⟨o11,h2,hy⟩:=bS hy;cases o11 with
  |inl u=>
   cases hy
   refine .inr (.inl ⟨by rw[KN (by omega)],fun d hd=>?_⟩)
   rw[hx]at hd;cases hd
   exact aYm hx (by omega) h2
  |inr u=>cases hy;exact .inr (.inr ⟨_,rfl,by simp⟩)
  cases hy;have:=of_decide_eq_false h1;exact .inl ⟨rfl,by omega⟩
 obtain⟨s',⟨n,rfl,hn⟩,hs⟩:=J7 (step:=fun s=>FA l s) (I:=fun s=>∃n:Nat,s=(n:Int)/\∀j d,j<n->l[j]? =some d->∀t∈d.types,1<=t/\t<=3)
  (by
   rintro s s' ⟨n,rfl,hn⟩ hs;rcases fwd n _ hs with⟨h1,_⟩|⟨h1,h2⟩|⟨r,h1,_⟩
   cases h1;cases h1;refine⟨n+1,rfl,fun j d hj hd=>?_⟩;by_cases hjn:j=n;subst hjn;exact h2 d hd;exact hn j d (by omega) hd;cases h1) ⟨0,rfl,fun j d hj=>by omega⟩ h
 rcases fwd n _ hs with⟨h1,h2⟩|⟨h1,h2⟩|⟨r,h1,h2⟩
 intro d hd;obtain⟨j,hj⟩:=List.mem_iff_getElem?.1 hd;exact hn j d (by have:=(List.getElem?_eq_some_iff.1 hj).1;omega) hj;cases h1;cases h1;exact absurd (ho r rfl) h2
theorem IH{q:AD}(hF:CY q)(h:Yx q=some true):∀d∈q.decls,∀t∈d.types,(1:Int)<=t/\t<=3:=by
 unfold Yx at h;obtain⟨r1,h1,h⟩:=bS h;rcases iS h with⟨_,h⟩|⟨h2,h⟩
 cases h;have hr:r1.1=0:=by simpa using h2
 unfold Y5 at h1;rcases iS h1 with⟨_,h1⟩|⟨_,h1⟩
 cases h1;simp at hr;obtain⟨o14,h3,h1⟩:=bS h1;have hd:=hF.decls;refine aYl (by omega) h3 fun r hr2=>?_;subst hr2;cases h1;exact hr
theorem Tt{q:AD}(hF:CY q)(hR:AY q)(hT:∀d∈q.decls,∀t∈d.types,(1:Int)<=t/\t<=3){b:List X2}(hB:BR b){d:Nat}{dd:Xf}(hd:q.decls[d]? =some dd){args:List X0}(hl:args.length=dd.types.length)(hv:∀(j:Nat) v t,args[j]? =some v->dd.types[j]? =some t->v.kind=t/\vR v=true):
 ∃args':List X0,MS q b d dd dd.types.length (mkM q b d args')/\mkM q b d args'=mkM q b d args:=by
 have key:∀n,n<=args.length->∃bs:List X0,bs.length=n/\(∀(j:Nat) v t,bs[j]? =some v->dd.types[j]? =some t->VS q b t v)/\∀(j:Nat) v v',bs[j]? =some v'->args[j]? =some v->∀s∈q.symbols,∀a∈s.args,Mi b a v'=Mi b a v:=by
  intro n;induction n with
  |zero=>intro _;exact⟨[],rfl,(fun j v t h=>by simp at h),fun j v v' h=>by simp at h⟩
  |succ n ih=>
   intro hn
   obtain⟨bs,a1,a2,a3⟩:=ih (by omega)
   obtain⟨v,hvn,_⟩:=AQ (l:=args) (i:=n) (by omega)
   obtain⟨t,ht,_⟩:=AQ (l:=dd.types) (i:=n) (by omega)
   obtain⟨jl,rl,_,hrl,hV⟩:=PX hF hR hB hd ht (PW hT hd ht)
   obtain⟨hk,hvr⟩:=hv n v t hvn ht
   obtain⟨v',hv',hfit⟩:=hV.whole v hvr hk
   have split1:∀(j:Nat) w,(bs++[v'])[j]? =some w->(bs[j]? =some w)\/(j=n/\w=v'):=fun j w hj=>by
    by_cases hjl:j<bs.length;rw[List.getElem?_append_left hjl]at hj;exact .inl hj;have hj3:=(List.getElem?_eq_some_iff.1 hj).1;simp at hj3;have:j=n:=by omega
    subst this;rw[<-a1,List.getElem?_append_right (Nat.le_refl _)]at hj;simp at hj;exact .inr ⟨rfl,hj.symm⟩
   refine⟨bs++[v'],by simp[a1],fun j w t' hj ht'=>?_,fun j w w' hj hw=>?_⟩
   rcases split1 j w hj with h|⟨rfl,rfl⟩
   exact a2 j w t' h ht'
   rw[ht]at ht';cases ht';exact⟨rl,hrl,hv'⟩
   rcases split1 j w' hj with h|⟨rfl,rfl⟩
   exact a3 j w w' h hw
   rw[hvn]at hw;cases hw;exact hfit
 obtain⟨bs,a1,a2,a3⟩:=key args.length (Nat.le_refl _)
 refine⟨bs,⟨bs,by omega,a2,rfl⟩,?_⟩
 unfold mkM
 congr 1
 funext i
 unfold NM
 cases hs:q.symbols[i]? with
 |none=>rfl
 |some s=>
  simp only
  congr 1
  have hsm:=List.mem_of_getElem? hs
  rw[Bool.eq_iff_iff,List.all_eq_true,List.all_eq_true]
  have go:∀(xs ys:List X0),xs.length=ys.length->(∀(j:Nat) v v',xs[j]? =some v'->ys[j]? =some v->∀s∈q.symbols,∀a∈s.args,Mi b a v'=Mi b a v)->(∀z∈s.args.zip xs,Mi b z.1 z.2=true)->∀z∈s.args.zip ys,Mi b z.1 z.2=true:=fun xs ys hxy hj h z hz=>by obtain⟨j,hzj⟩:=List.mem_iff_getElem?.1 hz;rw[List.getElem?_zip_eq_some]at hzj;obtain⟨h1,h2⟩:=hzj;obtain⟨x,hx,_⟩:=AQ (l:=xs) (i:=j) (by have:=(List.getElem?_eq_some_iff.1 h2).1;omega);have:=h (z.1,x) (List.mem_of_getElem? (i:=j) (List.getElem?_zip_eq_some.2 ⟨h1,hx⟩));rw[<-hj j z.2 x hx h2 s hsm z.1 (List.mem_of_getElem? h1)];exact this
  exact⟨go bs args a1 a3,go args bs a1.symm fun j v v' hv hv' s hs a ha=>(a3 j v' v hv' hv s hs a ha).symm⟩
theorem QS{a:List X0}{t:List Int}(h:aC3 a t=true):a.length=t.length/\∀(j:Nat) v u,a[j]? =some v->t[j]? =some u->v.kind=u/\vR v=true:=by unfold aC3 at h;simp only[ba,decide_eq_true_eq,List.all_eq_true]at h;exact⟨h.1,fun j v u hv hu=>h.2 (v,u) (List.mem_of_getElem? (i:=j) (List.getElem?_zip_eq_some.2 ⟨hv,hu⟩))⟩
theorem aDn{l:List Xf}{e:X4}(h:eR l e=true):∃(d:Nat) (dd:Xf),l[d]? =some dd/\dd.name=e.name/\aC3 e.args dd.types=true:=by unfold eR at h;split at h;cases h;rename_i i hi;split at h;cases h;rename_i d hd;refine⟨i,d,hd,?_,h⟩;unfold Ju at hi;split at hi;rename_i hany;cases hi;have h1:=List.findIdx_lt_length_of_exists (List.any_eq_true.1 hany);have h2:=List.findIdx_getElem (w:=h1);have h3:=(List.getElem?_eq_some_iff.1 hd).2;rw[h3]at h2;simpa using h2;cases hi
section
variable {α σ τ:Type} [DecidableEq α]
def KV(o l:List α):List α:=l.foldl (fun o x=>if x∈o then o else o++[x]) o
theorem En(o l:List α)(x:α):KV o (x::l)=KV (if x∈o then o else o++[x]) l:=rfl
theorem H8:∀{l o:List α} {x:α},x∈KV o l↔x∈o\/x∈l
 |[],o,x=>by simp[KV]
 |y::l,o,x=>by
  rw[En,H8];by_cases h:y∈o;rw[if_pos h,mc];constructor;rintro(h1|h1);exact .inl h1;exact .inr (.inr h1);rintro(h1|rfl|h1);exact .inl h1;exact .inl h;exact .inr h1;rw[if_neg h,ma,List.mem_singleton,mc,or_assoc]
theorem aCv:∀{l o:List α},o.Nodup->(KV o l).Nodup
 |[],o,h=>h
 |y::l,o,h=>by
  rw[En];apply aCv;by_cases hy:y∈o;rw[if_pos hy];exact h;rw[if_neg hy,List.nodup_append];exact⟨h,by simp,fun a ha b hb e=>hy (by rw[List.mem_singleton]at hb;rw[<-hb,<-e];exact ha)⟩
theorem Lv:∀(l o:List α),∃r,KV o l=o++r
 |[],o=>⟨[],by simp[KV]⟩
 |y::l,o=>by
  rw[En];obtain⟨r,h⟩:=Lv l (if y∈o then o else o++[y])
  rw[h];by_cases hy:y∈o;rw[if_pos hy];exact⟨r,rfl⟩;rw[if_neg hy];exact⟨[y]++r,by simp⟩
theorem Lu{l o:List α}{j:Nat}{x:α}(h:o[j]? =some x):(KV o l)[j]? =some x:=by obtain⟨r,e⟩:=Lv l o;rw[e,List.getElem?_append_left (List.getElem?_eq_some_iff.1 h).1];exact h
theorem aOi(l o:List α):o.length<=(KV o l).length:=by obtain⟨r,e⟩:=Lv l o;rw[e,List.length_append];omega
inductive Rch(succ:α->List α)(s:α):α->Prop
 |refl:Rch succ s s
 |step {x y:α}:Rch succ s x->y∈succ x->Rch succ s y
structure WI(succ:α->List α)(s:α)(i:Nat)(o:List α):Prop where
 nd:o.Nodup
 hd:o[0]? =some s
 le:i<=o.length
 rc:∀x∈o,Rch succ s x
 cl:∀j x,j<i->o[j]? =some x->∀y∈succ x,y∈o
variable {succ:α->List α} {s:α}
theorem WI.init:WI succ s 0 [s]:=⟨by simp,rfl,Nat.zero_le _,fun x hx=>by rw[List.mem_singleton]at hx;subst hx;exact .refl,fun j x hj=>by omega⟩
theorem WI.step{i:Nat}{o:List α}(h:WI succ s i o){x:α}(hx:o[i]? =some x):WI succ s (i+1) (KV o (succ x)):=by
 have hi:=(List.getElem?_eq_some_iff.1 hx).1;refine⟨aCv h.nd,Lu h.hd,Nat.le_trans hi (aOi _ _),fun y hy=>?_,fun j y hj hy z hz=>?_⟩;rcases H8.1 hy with hy|hy
 exact h.rc y hy;exact(h.rc x (List.mem_of_getElem? hx)).step hy;have hj2:j<o.length:=by omega
 obtain⟨w,hw,_⟩:=AQ hj2;have e:w=y:=by rw[Lu hw,oe]at hy;exact hy
 subst e;by_cases hji:j=i;subst hji;rw[hx,oe]at hw;subst hw;exact H8.2 (.inr hz);exact H8.2 (.inl (h.cl j w (by omega) hw z hz))
def wl(succ:α->List α):Nat->Nat->List α->List α
 |0,_,o=>o
 |n+1,i,o=>match o[i]? with
  |none=>o
  |some x=>wl succ n (i+1) (KV o (succ x))
def Bd(succ:α->List α)(s:α)(N:Nat):Prop:=∀o:List α,o.Nodup->(∀x∈o,Rch succ s x)->o.length<=N
theorem aZe{N:Nat}(hN:Bd succ s N):∀(n i:Nat) (o:List α),WI succ s i o->N+1<=n+i->WI succ s (wl succ n i o).length (wl succ n i o)
 |0,i,o,h,hn=>by have:=h.le;have:=hN o h.nd h.rc;omega
 |n+1,i,o,h,hn=>by
  rw[wl];split;rename_i e;have:=List.getElem?_eq_none_iff.1 e;have he:i=o.length:=by have:=h.le;omega
  subst he;exact h;rename_i x hx;exact aZe hN n (i+1) _ (h.step hx) (by omega)
theorem PY{N:Nat}(hN:Bd succ s N){step:σ->Option (σ⊕τ)}(mk:Nat->List α->σ)(fin:List α->τ)
 (h1:∀i x o,WI succ s i o->o[i]? =some x->step (mk i o)=some (.inl (mk (i+1) (KV o (succ x)))))
 (h2:∀o,WI succ s o.length o->step (mk o.length o)=some (.inr (fin o))):∀(n i:Nat) (o:List α),WI succ s i o->N+1<=n+i->AR step (mk i o)=some (fin (wl succ n i o))
 |0,i,o,h,hn=>by have:=h.le;have:=hN o h.nd h.rc;omega
 |n+1,i,o,h,hn=>by
  rw[wl,An];cases e:o[i]? with
  |none=>
   have:=List.getElem?_eq_none_iff.1 e
   have he:i=o.length:=by have:=h.le;omega
   subst he
   rw[h2 o h,Ae]
  |some x=>
   rw[h1 i x o h e,BF]
   exact PY hN mk fin h1 h2 n (i+1) _ (h.step e) (by omega)
def clo(succ:α->List α)(N:Nat)(s:α):List α:=wl succ (N+1) 0 [s]
theorem aDh{N:Nat}(hN:Bd succ s N):WI succ s (clo succ N s).length (clo succ N s):=aZe hN _ _ _ WI.init (Nat.le_refl _)
theorem FL{N:Nat}(hN:Bd succ s N){x:α}:x∈clo succ N s↔Rch succ s x:=by
 have h:=aDh hN;refine⟨h.rc x,fun hx=>?_⟩;induction hx with
 |refl=>exact List.mem_of_getElem? h.hd
 |step hx hy ih=>
  obtain⟨j,hj⟩:=List.mem_iff_getElem?.1 ih
  exact h.cl j _ (List.getElem?_eq_some_iff.1 hj).1 hj _ hy
theorem MA{N:Nat}(hN:Bd succ s N):(clo succ N s).length<=N:=hN _ (aDh hN).nd (aDh hN).rc
end
theorem aQq{succ:Int->List Int}{s:Int}{N:Nat}(h:∀x,Rch succ s x->0<=x/\x<N):Bd succ s N:=fun o h1 h2=>by
 have:=h1.length_le_of_subset (l₂:=(List.range N).map (fun n:Nat=>(n:Int))) fun x hx=>by obtain⟨a,b⟩:=h x (h2 x hx);exact mm.2 ⟨x.toNat,List.mem_range.2 (by omega),by omega⟩
 simpa using this
theorem M1{α β:Type} [DecidableEq α](p:β->Bool)(g:β->α):∀(l:List β) (o:List α),l.foldl (fun o t=>if p t=true/\g t∉o then o++[g t]else o) o=KV o ((l.filter p).map g)
 |[],o=>rfl
 |t::l,o=>by
  rw[List.foldl_cons,M1 p g l,List.filter_cons];by_cases h:p t=true;rw[if_pos h,List.map_cons,En];by_cases h2:g t∈o;simp[h2];simp[h,h2];simp[h]
theorem aU7(q:AD)(hW:∀t∈q.trans,Mu t):∃r,Zo q=some r/\(r=true->CY q/\AY q/\Yx q=some true/\∀d∈q.decls,d.types.length<=3):=by
 obtain⟨n,hn,hF⟩:=bA7 q;unfold Zo;refine Ao hn ?_;refine Ar (fun _=>⟨_,rfl,by simp⟩) (fun h0=>?_);have hF:=hF h0;obtain⟨r,hr,hR⟩:=bCi q hF hW;refine Ao hr ?_;refine EM (fun _=>⟨_,rfl,by simp⟩) (fun h1=>?_);have hR2:=hR h1;have hd:=hF.decls;obtain⟨o,ho,hQ⟩:=Am (step:=fun s=>JW q s) q.decls.length (fun i=>∀d,q.decls[i]? =some d->d.types.length<=3) (fun o=>o=Sum.inl ()->∀d∈q.decls,d.types.length<=3)
  (fun i hi=>by obtain⟨x,hx,_⟩:=AQ hi;simp only[JW,ltD hx,AG,AL hx,Ah hx (show q.decls.length<=9223372036854775807 by omega)];by_cases h:3<x.types.length;exact .inr ⟨.inr (),by rw[decide_eq_true (by omega)];rfl,fun h=>by cases h⟩;exact .inl ⟨by rw[decide_eq_false (by omega)];rfl,fun t h2=>by rw[hx,oe]at h2;subst h2;omega⟩)
  (fun hall=>⟨.inl (),by simp only[JW,ltI,AF],fun _=>Eg hall⟩)
 have ho':aT5 q 0=some o:=ho;refine Ao ho' ?_;subst h1;rcases o with⟨⟩|⟨⟩
 rw[BY];exact⟨_,rfl,fun _=>⟨hF,hR2,hr,hQ rfl⟩⟩;rw[D8];exact⟨_,rfl,by simp⟩
def E4(q:AD)(x:Int):List Int:=(q.trans.filter fun t=>decide (t.from_=x)).map (·.to)
theorem Gn{q:AD}{x y:Int}:y∈E4 q x↔ ∃t∈q.trans,t.from_=x/\t.to=y:=by simp[E4,and_assoc]
theorem rcT{q:AD}(hR:AY q){s:Int}(hs:0<=s/\s<q.states.length):∀x,Rch (E4 q) s x->0<=x/\x<q.states.length:=fun x h=>by
 cases h with
 |refl=>exact hs
 |step _ hy=>
  obtain⟨t,ht,_,rfl⟩:=Gn.1 hy
  exact(hR.ends t ht).2.2
theorem bdT{q:AD}(hR:AY q){s:Int}(hs:0<=s/\s<q.states.length):Bd (E4 q) s q.states.length:=aQq (rcT hR hs)
theorem Tc(l:List Int)(x:Int)(hl:l.length<=9223372036854775807):Zp l x=some (if l.any (fun y=>decide (x=y))=true then((l.findIdx (fun y=>decide (x=y)):Nat):Int)else-1):=by
 have h:aT6 l x (l.length:Int) 0=_:=DY (step:=fun s=>JX l x (l.length:Int) s) l (fun y=>decide (x=y))
  (fun i y hy=>by simp only[JX,ltD hy,AG,AL hy,Ah hy hl,De];by_cases h:x=y<;>simp[h])
  (by simp only[JX,ltI,AF])
 unfold Zp;rw[h,AB];split;rfl;rfl
theorem Mn(l:List Int)(x:Int)(hl:l.length<=9223372036854775807):U7 l x=some (decide (x∈l)):=by unfold U7;rw[Tc l x hl,AB];congr 1;rw[Bool.eq_iff_iff,decide_eq_true_eq,decide_eq_true_eq];split;rename_i h;rw[List.any_eq_true]at h;obtain⟨y,hy,h⟩:=h;have:=of_decide_eq_true h;subst this;exact⟨fun _=>hy,fun _=>by omega⟩;rename_i h;refine⟨fun h=>by omega,fun hx=>absurd (List.any_eq_true.2 ⟨x,hx,by simp⟩) h⟩
theorem bEi{q:AD}(hF:CY q)(i:Nat){x:Int}{o:List Int}(hx:o[i]? =some x)(ho:o.length<=1000):aS3 (i:Int) q.trans (q.trans.length:Int) q 0 o=some (KV o (E4 q x)):=by
 have ht:=hF.trans;have h:=Cm (step:=fun s:Int×List Int=>Ix (i:Int) q.trans (q.trans.length:Int) q s.1 s.2) q.trans (fun o t=>if decide (t.from_=x)=true/\t.to∉o then o++[t.to]else o) id (fun j w=>w[i]? =some x/\w.length<=1000+j)
  (fun j t w hj hI=>by
   have hjl:=B3 hj;have hw:w.length<=9223372036854775807:=by have:=hI.2;omega
   refine⟨?_,?_⟩;simp only[Ix,ltD hj,AG,aKb,AL hj,AL hI.1,Mn w t.to hw,AB,W7,Ah hj (show q.trans.length<=9223372036854775807 by omega)];rw[De];by_cases h1:t.from_=x;rw[if_pos h1];by_cases h2:t.to∈w;simp[h1,h2,AE,AH];simp only[h2,decide_false,Bool.not_false,AG];rw[Ff (by have:=hI.2;simp;omega) (by decide),AB,AB];simp[h1];simp[h1,AE,AH];split;exact⟨by rw[List.getElem?_append_left (B3 hI.1)];exact hI.1,by have:=hI.2;simp;omega⟩;exact⟨hI.1,by have:=hI.2;omega⟩)
  (fun w _=>by simp only[Ix,ltI,AF];rfl) o ⟨hx,ho⟩
 refine Eq.trans h ?_;rw[M1 (fun t:X6=>decide (t.from_=x)) (fun t=>t.to)];rfl
theorem aXr{q:AD}(hF:CY q)(hR:AY q){s:Int}(hs:0<=s/\s<q.states.length):Xz q s=some (clo (E4 q) q.states.length s):=by
 have hb:=bdT hR hs;have hst:=hF.states;have h:=PY hb (step:=fun s:Int×List Int=>Iw q s.1 s.2) (fun i o=>((i:Int),o)) id
  (fun i x o hI hx=>by have hl:=hb o hI.nd hI.rc;simp only[Iw,ltD hx,AG,bEi hF i hx (by omega),AB,Ah hx (show o.length<=9223372036854775807 by omega)])
  (fun o hI=>by simp only[Iw,ltI,AF];rfl) _ 0 [s] WI.init (Nat.le_refl _)
 have h':aS2 q 0 [s]=some (clo (E4 q) q.states.length s):=h;unfold Xz;rw[h',AB]
def MU(V:List Bool)(t:X6):List Bool:=if V[t.from_.toNat]? =some true then V.set t.to.toNat true else V
def Fx(q:AD)(V:List Bool):List Bool:=q.trans.foldl MU V
theorem MV(V:List Bool)(t:X6):(MU V t).length=V.length:=by unfold MU;split<;>simp
theorem RL(ts:List X6):∀V:List Bool,(ts.foldl MU V).length=V.length:=by
 induction ts with
 |nil=>intro V;rfl
 |cons t ts ih=>intro V;rw[List.foldl_cons,ih,MV]
theorem aVp{V:List Bool}{t:X6}{i:Nat}(h:V[i]? =some true):(MU V t)[i]? =some true:=by unfold MU;split;rw[List.getElem?_set];split;have:=(List.getElem?_eq_some_iff.1 h).1;rename_i e;rw[if_pos (by omega)];exact h;exact h
theorem aU9{ts:List X6}{i:Nat}:∀{V:List Bool},V[i]? =some true->(ts.foldl MU V)[i]? =some true:=by
 induction ts with
 |nil=>intro V h;exact h
 |cons t ts ih=>intro V h;rw[List.foldl_cons];exact ih (aVp h)
def N8(V:List Bool):Nat:=V.countP id
theorem aPy{V:List Bool}{t:X6}(ht:t.to.toNat<V.length):N8 V<=N8 (MU V t)/\(N8 (MU V t)=N8 V->MU V t=V/\(V[t.from_.toNat]? =some true->V[t.to.toNat]? =some true)):=by
 unfold MU N8;split;rename_i hf;have hp:(V.set t.to.toNat true).countP id=V.countP id-(if id V[t.to.toNat]=true then 1 else 0)+(if id true=true then 1 else 0):=List.countP_set ht
 cases hv:V[t.to.toNat]with
 |true=>
  have hset:V.set t.to.toNat true=V:=by apply List.ext_getElem?;intro j;rw[List.getElem?_set];split;rename_i e;subst e;rw[List.getElem?_eq_getElem ht,hv];rfl
  rw[hset]
  exact⟨Nat.le_refl _,fun _=>⟨rfl,fun _=>by rw[List.getElem?_eq_getElem ht,hv]⟩⟩
 |false=>
  rw[hv]at hp
  simp at hp
  rw[hp]
  exact⟨by omega,fun h=>by omega⟩
 rename_i hf;exact⟨Nat.le_refl _,fun _=>⟨rfl,fun h=>absurd h hf⟩⟩
theorem RK{n:Nat}:∀{ts:List X6} (V:List Bool),V.length=n->(∀t∈ts,t.to.toNat<n)->N8 V<=N8 (ts.foldl MU V)/\(N8 (ts.foldl MU V)=N8 V->ts.foldl MU V=V/\∀t∈ts,V[t.from_.toNat]? =some true->V[t.to.toNat]? =some true)
 |[],V,_,_=>⟨Nat.le_refl _,fun _=>⟨rfl,fun t h=>by cases h⟩⟩
 |t::ts,V,hV,ht=>by
  rw[List.foldl_cons];obtain⟨a1,a2⟩:=aPy (V:=V) (t:=t) (by rw[hV];exact ht t (by simp));obtain⟨b1,b2⟩:=RK (ts:=ts) (MU V t) (by rw[MV];exact hV) (fun t h=>ht t (List.mem_cons_of_mem _ h));refine⟨Nat.le_trans a1 b1,fun h=>?_⟩;obtain⟨c1,c2⟩:=a2 (by omega);obtain⟨d1,d2⟩:=b2 (by omega);rw[c1]at d1 d2;refine⟨by rw[c1];exact d1,fun t' ht'=>?_⟩;rcases mc.1 ht' with rfl|h'
  exact c2;exact d2 t' h'
def clV(q:AD)(V:List Bool):Prop:=∀t∈q.trans,V[t.from_.toNat]? =some true->V[t.to.toNat]? =some true
def Hx(q:AD):Nat->List Bool->List Bool
 |0,V=>V
 |n+1,V=>Hx q n (Fx q V)
theorem aD5{q:AD}{n:Nat}(hT:∀t∈q.trans,t.to.toNat<n):∀(k:Nat) (V:List Bool),V.length=n->n<=N8 V+k->0<k->clV q (Hx q k V)/\(Hx q k V).length=n
 |0,V,_,_,h=>by omega
 |k+1,V,hV,hc,_=>by
  rw[Hx];have hl:(Fx q V).length=n:=by unfold Fx;rw[RL];exact hV
  obtain⟨a1,a2⟩:=RK (ts:=q.trans) V hV hT;by_cases h:N8 (Fx q V)=N8 V;obtain⟨b1,b2⟩:=a2 h;have b1:Fx q V=V:=b1;have:∀k,Hx q k V=V:=by
   intro k;induction k with
   |zero=>rfl
   |succ k ih=>rw[Hx,b1];exact ih
  rw[b1,this];exact⟨b2,hV⟩;have h3:N8 (Fx q V)<=n:=by rw[<-hl];exact List.countP_le_length
  have a1:N8 V<=N8 (Fx q V):=a1;by_cases hk:k=0;subst hk;have h4:N8 (Fx q V)=(Fx q V).length:=by omega
  refine⟨fun t ht _=>?_,hl⟩;have hi:t.to.toNat<(Fx q V).length:=by rw[hl];exact hT t ht
  have:=List.countP_eq_length.1 h4 (Fx q V)[t.to.toNat] (List.getElem_mem hi);simp only[Hx];rw[List.getElem?_eq_getElem hi];exact congrArg some this;exact aD5 hT k (Fx q V) hl (by omega) (by omega)
theorem LA{P:Nat->Prop}:∀{ts:List X6} {V:List Bool},(∀t∈ts,P t.from_.toNat->P t.to.toNat)->(∀i:Nat,V[i]? =some true->P i)->∀i:Nat,(ts.foldl MU V)[i]? =some true->P i
 |[],V,_,h=>h
 |t::ts,V,ht,h=>by
  rw[List.foldl_cons];refine LA (fun t' h'=>ht t' (List.mem_cons_of_mem _ h')) fun i hi=>?_;unfold MU at hi;split at hi;rename_i hf;rw[List.getElem?_set]at hi;split at hi;rename_i e;subst e;exact ht t (by simp) (h _ hf);exact h i hi;exact h i hi
theorem LE{q:AD}{P:Nat->Prop}(ht:∀t∈q.trans,P t.from_.toNat->P t.to.toNat):∀(k:Nat) {V:List Bool},(∀i:Nat,V[i]? =some true->P i)->∀i:Nat,(Hx q k V)[i]? =some true->P i
 |0,_,h=>h
 |k+1,_,h=>LE ht k (LA ht h)
theorem aD6{q:AD}{i:Nat}:∀(k:Nat) {V:List Bool},V[i]? =some true->(Hx q k V)[i]? =some true
 |0,_,h=>h
 |k+1,_,h=>aD6 k (aU9 h)
theorem NY(q:AD):∀(l:List Xc) (V:List Bool),l.foldl (fun V _=>Fx q V) V=Hx q l.length V
 |[],V=>rfl
 |x::l,V=>by rw[List.foldl_cons,NY q l];rfl
theorem aZ5{q:AD}(hF:CY q)(hR:AY q)(s6:Int){V:List Bool}(hV:V.length=q.states.length):aS9 s6 q 0 V=some (Fx q V):=by
 have ht:=hF.trans;have h:=Cm (step:=fun s:Int×List Bool=>I3 s6 q s.1 s.2) q.trans MU id (fun _ w=>w.length=q.states.length)
  (fun j t w hj hI=>by
   have he:=hR.ends t (List.mem_of_getElem? hj);obtain⟨f,hf,ef⟩:=Hu (l:=w) he.2.1.1 (by rw[hI];exact he.2.1.2);refine⟨?_,by rw[MV];exact hI⟩;simp only[I3,ltD hj,AG,aKv,aKx,AL hj,Ah hj (show q.trans.length<=9223372036854775807 by omega)];rw[Aj (by rw[hI];omega),B5 hf he.2.1.1,Aj (by rw[hI];omega)];unfold MU;cases f with
   |true=>
    rw[Aj (by rw[hI];omega)]
    simp[hf,AE,AH]
   |false=>simp[hf,AE,AH])
  (fun w _=>by simp only[I3,ltI,AF];rfl) V hV
 exact h
theorem aZ4{q:AD}(hF:CY q)(hR:AY q){s:Int}(hs:0<=s/\s<q.states.length):∃V,Y4 q s=some V/\V.length=q.states.length/\∀i:Nat,V[i]? =some true↔Rch (E4 q) s (i:Int):=by
 have hst:=hF.states;have hV0:((List.replicate q.states.length false).set s.toNat true).length=q.states.length:=by simp
 have h:=Cm (step:=fun s:Int×List Bool=>I2 q s.1 s.2) q.states (fun V _=>Fx q V) id (fun _ w=>w.length=q.states.length)
  (fun j t w hj hI=>⟨by simp only[I2,ltD hj,AG,aZ5 hF hR _ hI,AB,Ah hj (show q.states.length<=9223372036854775807 by omega)],by unfold Fx;rw[RL];exact hI⟩)
  (fun w _=>by simp only[I2,ltI,AF];rfl) _ hV0
 rw[NY]at h;have h':aS8 q 0 ((List.replicate q.states.length false).set s.toNat true)=some (Hx q q.states.length ((List.replicate q.states.length false).set s.toNat true)):=h;have hs0:((List.replicate q.states.length false).set s.toNat true)[s.toNat]? =some true:=by rw[List.getElem?_set,if_pos rfl,if_pos (by simp;omega)]
 have hT:∀t∈q.trans,t.to.toNat<q.states.length:=fun t ht=>by have:=(hR.ends t ht).2.2;omega
 obtain⟨c1,c2⟩:=aD5 hT q.states.length _ hV0 (by omega) (by omega);refine⟨_,?_,c2,fun i=>⟨fun hi=>?_,fun hi=>?_⟩⟩;unfold Y4;simp only[Int.toNat_natCast];rw[Aj ⟨by omega,B2 (by omega) (by decide)⟩,Aj (by simp;omega),Aj (by simp;omega),h',AB];refine LE (P:=fun i=>Rch (E4 q) s (i:Int)) (fun t ht h=>?_) _ (fun j hj=>?_) i hi;have he:=(hR.ends t ht).2;have e1:((t.from_.toNat:Nat):Int)=t.from_:=by omega
 have e2:((t.to.toNat:Nat):Int)=t.to:=by omega
 simp only[e1]at h;simp only[e2];exact h.step (Gn.2 ⟨t,ht,rfl,rfl⟩);rw[List.getElem?_set]at hj;split at hj;rename_i e;subst e;have e1:((s.toNat:Nat):Int)=s:=by omega
 simp only[e1];exact .refl;rw[List.getElem?_replicate]at hj;split at hj<;>simp at hj;have key:∀x,Rch (E4 q) s x->(Hx q q.states.length ((List.replicate q.states.length false).set s.toNat true))[x.toNat]? =some true:=by
  intro x hx;induction hx with
  |refl=>exact aD6 _ hs0
  |step hx hy ih=>
   obtain⟨t,ht,rfl,rfl⟩:=Gn.1 hy
   exact c1 t ht ih
 exact key _ hi
def okS(q:AD)(j:Nat):Prop:=∀st,q.states[j]? =some st->st.accept=true/\st.next=false
def noS(q:AD)(j:Nat):Prop:=∀st,q.states[j]? =some st->st.accept=false
def FT(q:AD)(s:Int):Prop:=∀j:Nat,Rch (E4 q) s (j:Int)->okS q j
def Kd(q:AD)(s:Int):Prop:=∀j:Nat,Rch (E4 q) s (j:Int)->noS q j
open Classical in
def Ck(q:AD)(s:Int):Int:=if FT q s then 1 else if Kd q s then 2 else 0
theorem QQ{P:Nat->Prop}{i:Nat}:(∀j,j<i+1->P j)↔(∀j,j<i->P j)/\P i:=by constructor;intro h;exact⟨fun j hj=>h j (by omega),h i (by omega)⟩;rintro⟨h1,h2⟩ j hj;by_cases e:j=i;subst e;exact h2;exact h1 j (by omega)
theorem bBp{q:AD}(hF:CY q)(hR:AY q){s:Int}(hs:0<=s/\s<q.states.length):Xw q s=some (Ck q s):=by
 obtain⟨V,hV,hl,hm⟩:=aZ4 hF hR hs;have hst:=hF.states;obtain⟨o,ho,h1,h2⟩:=Ap (step:=fun s:Bool×Bool×Int=>Iv V q s.1 s.2.1 s.2.2)
  (fun s=>∃i:Nat,s.2.2=(i:Int)/\i<=q.states.length/\(s.1=true↔ ∀j,j<i->V[j]? =some true->okS q j)/\(s.2.1=true↔ ∀j,j<i->V[j]? =some true->noS q j))
  (fun s=>(q.states.length-s.2.2).toNat)
  (fun o=>(o.1=true↔ ∀j,j<q.states.length->V[j]? =some true->okS q j)/\(o.2=true↔ ∀j,j<q.states.length->V[j]? =some true->noS q j))
  (by rintro⟨a,b,n⟩ ⟨i,rfl,hi,ha,hb⟩;by_cases he:i=q.states.length;subst he;exact .inl ⟨(a,b),by simp only[Iv,hl,ltI,AF],ha,hb⟩;obtain⟨v,hv,_⟩:=AQ (l:=V) (i:=i) (by omega);obtain⟨st,hst,_⟩:=AQ (l:=q.states) (i:=i) (by omega);have e1:okS q i↔st.accept=true/\st.next=false:=⟨fun h=>h st hst,fun h st' h'=>by rw[hst,oe]at h';exact h'▸h⟩;have e2:noS q i↔st.accept=false:=⟨fun h=>h st hst,fun h st' h'=>by rw[hst,oe]at h';exact h'▸h⟩;refine .inr ⟨(a&&(!v||st.accept&& !st.next),b&&(!v|| !st.accept),((i+1:Nat):Int)),?_,⟨i+1,rfl,by omega,?_,?_⟩,by simp only;omega⟩;simp only[Iv,ltD hv,AG,aJ4,W2,Le,AL hv,AL hst,Ah hst (show q.states.length<=9223372036854775807 by omega)];cases v<;>cases st.accept<;>cases st.next<;>cases a<;>cases b<;>rfl;rw[QQ,<-ha,hv,e1];cases v<;>simp;rw[QQ,<-hb,hv,e2];cases v<;>simp)
  (true,true,(0:Int)) ⟨0,rfl,Nat.zero_le _,by simp,by simp⟩
 have key:∀P:Nat->Prop,(∀j,j<q.states.length->V[j]? =some true->P j)↔ ∀j:Nat,Rch (E4 q) s (j:Int)->P j:=fun P=>
  ⟨fun h j hj=>h j (by have:=rcT hR hs _ hj;omega) ((hm j).2 hj),fun h j _ hj=>h j ((hm j).1 hj)⟩
 rw[key]at h1 h2;have h1:o.1=true↔FT q s:=h1;have h2:o.2=true↔Kd q s:=h2;have ho':aS1 V q true true 0=some o:=ho;unfold Xw Ck;rw[hV,AB,ho',AB,Az];by_cases c1:FT q s;rw[if_pos c1,if_pos (h1.2 c1)];rw[if_neg c1,if_neg (fun h=>c1 (h1.1 h)),Az];by_cases c2:Kd q s;rw[if_pos c2,if_pos (h2.2 c2)];rw[if_neg c2,if_neg (fun h=>c2 (h2.1 h))]
theorem IB{l:List Int}{p:Int->Bool}:decide ((0:Int)<=if l.any p=true then((l.findIdx p:Nat):Int)else-1)=l.any p:=by split;rename_i h;rw[h];simp;rename_i h;simp at h;simpa using h
theorem CF1(l:List Int)(q:AD)(p:Int->Bool)(hl:l.length<=9223372036854775807)(hp:∀x∈l,U8 x q=some (p x)):U9 l q=some (l.any p):=by
 have h:aUc l q (l.length:Int) 0=_:=DY (step:=fun s=>Jf l q (l.length:Int) s) l p
  (fun i y hy=>by simp only[Jf,ltD hy,AG,AL hy,hp y (List.mem_of_getElem? hy),AB,Ah hy hl,Az];cases p y<;>rfl)
  (by simp only[Jf,ltI,AF])
 unfold U9 Zy;rw[h,AB,<-IB];split<;>rfl
theorem CF2(l:List Int)(q:AD)(p:Int->Bool)(hl:l.length<=9223372036854775807)(hp:∀x∈l,Ua x q=some (p x)):Ub l q=some (l.any p):=by
 have h:aUd l q (l.length:Int) 0=_:=DY (step:=fun s=>Jg l q (l.length:Int) s) l p
  (fun i y hy=>by simp only[Jg,ltD hy,AG,AL hy,hp y (List.mem_of_getElem? hy),AB,Ah hy hl,Az];cases p y<;>rfl)
  (by simp only[Jg,ltI,AF])
 unfold Ub Zz;rw[h,AB,<-IB];split<;>rfl
theorem aRy{q:AD}(hF:CY q)(hR:AY q){s:Int}(hs:0<=s/\s<q.states.length):Q8 q s=some (Ck q s):=by
 have hb:=bdT hR hs;have hst:=hF.states;have hlen:=MA hb;have hget:∀x∈clo (E4 q) q.states.length s,∃st,q.states[x.toNat]? =some st/\0<=x:=fun x hx=>by have:=rcT hR hs x ((FL hb).1 hx);obtain⟨st,h,_⟩:=Hu this.1 this.2;exact⟨st,h,this.1⟩
 have e1:=CF1 (clo (E4 q) q.states.length s) q (fun x=>match q.states[x.toNat]? with|some st=> !st.accept||st.next|none=>false) (by omega) (fun x hx=>by obtain⟨st,h,h0⟩:=hget x hx;unfold U8;rw[B5 h h0,B5 h h0,h];simp only;cases st.accept<;>rfl)
 have e2:=CF2 (clo (E4 q) q.states.length s) q (fun x=>match q.states[x.toNat]? with|some st=>st.accept|none=>false) (by omega) (fun x hx=>by obtain⟨st,h,h0⟩:=hget x hx;unfold Ua;rw[B5 h h0,h])
 unfold Q8 Ck;rw[decide_eq_false (by omega),AF,decide_eq_false (by omega),AF,aXr hF hR hs,AB,e1,AB,Az];by_cases c1:FT q s;rw[if_pos c1,if_pos];rw[Bool.not_eq_true',List.any_eq_false];intro x hx;obtain⟨st,h,h0⟩:=hget x hx;have:=c1 x.toNat (by rw[Int.toNat_of_nonneg h0];exact(FL hb).1 hx) st h;rw[h];simp[this];rw[if_neg c1,if_neg];rw[e2,AB,Az];by_cases c2:Kd q s;rw[if_pos c2,if_pos];rw[Bool.not_eq_true',List.any_eq_false];intro x hx;obtain⟨st,h,h0⟩:=hget x hx;have:=c2 x.toNat (by rw[Int.toNat_of_nonneg h0];exact(FL hb).1 hx) st h;rw[h];simp[this];rw[if_neg c2,if_neg];intro h;rw[Bool.not_eq_true',List.any_eq_false]at h;refine c2 fun j hj st hst=>?_;have:=h _ ((FL hb).2 hj);rw[Int.toNat_natCast,hst]at this;simpa using this;intro h;rw[Bool.not_eq_true',List.any_eq_false]at h;refine c1 fun j hj st hst=>?_;have:=h _ ((FL hb).2 hj);rw[Int.toNat_natCast,hst]at this;simpa using this
def InS(q:AD)(l:List X3):Prop:=∀c∈l,0<=c.state/\c.state<q.states.length
def E2(q:AD)(l:List X3):Int:=if(l.any fun c=>decide (Ck q c.state=1))=true then 1 else if(l.all fun c=>decide (Ck q c.state=2))=true then 2 else 0
theorem bDv(q:AD)(s:Int):Ck q s=1\/Ck q s=2\/Ck q s=0:=by unfold Ck;by_cases h1:FT q s;exact .inl (if_pos h1);rw[if_neg h1];by_cases h2:Kd q s;exact .inr (.inl (if_pos h2));exact .inr (.inr (if_neg h2))
def gI(b:Bool):Int:=if b=true then 2 else 0
theorem aXp{q:AD}(hF:CY q)(hR:AY q){l:List X3}(hl:l.length<=1000)(hi:InS q l):Xv q l=some (E2 q l):=by
 have h:aSy l (l.length:Int) q 2 0=some (if(l.any fun c=>decide (Ck q c.state=1))=true then .inr ()else .inl (gI (l.all fun c=>decide (Ck q c.state=2)))):=by
  obtain⟨o,ho,hQ⟩:=Ap (step:=fun s:Int×Int=>HF l (l.length:Int) q s.1 s.2)
   (fun s=>∃i:Nat,s.2=(i:Int)/\i<=l.length/\(∀c∈l.take i,Ck q c.state≠1)/\s.1=gI ((l.take i).all fun c=>decide (Ck q c.state=2)))
   (fun s=>(l.length-s.2).toNat)
   (fun o=>o=(if(l.any fun c=>decide (Ck q c.state=1))=true then .inr ()else .inl (gI (l.all fun c=>decide (Ck q c.state=2)))))
   (by
    rintro⟨n,m⟩ ⟨i,rfl,hi2,ha,hb⟩;simp only at hb;subst hb;by_cases he:i=l.length;subst he;refine .inl ⟨_,by simp only[HF,ltI,AF];rfl,?_⟩;rw[List.take_length]at*;have hne:¬(l.any fun c=>decide (Ck q c.state=1))=true:=by rw[List.any_eq_true];rintro⟨c,hc,h⟩;exact ha c hc (of_decide_eq_true h)
    rw[if_neg hne];obtain⟨c,hc,_⟩:=AQ (l:=l) (i:=i) (by omega);have hcm:=List.mem_of_getElem? hc;have ht:l.take (i+1)=l.take i++[c]:=by rw[List.take_add_one,hc];rfl
    have hk:=aRy hF hR (hi c hcm);by_cases e:Ck q c.state=1;refine .inl ⟨.inr (),?_,?_⟩;simp only[HF,ltD hc,AG,Ww,AL hc,hk,AB,Wx,Wy,e,decide_true,D8];rw[if_pos];rw[List.any_eq_true];exact⟨c,hcm,decide_eq_true e⟩;refine .inr ⟨(gI ((l.take i).all (fun c=>decide (Ck q c.state=2))&&decide (Ck q c.state=2)),((i+1:Nat):Int)),?_,⟨i+1,rfl,by omega,?_,?_⟩,by simp only;omega⟩;simp only[HF,ltD hc,AG,Ww,AL hc,hk,AB,Wx,Wy,e,decide_false,AF,aJ1,Ah hc (show l.length<=9223372036854775807 by omega)];rcases bDv q c.state with h|h|h
    exact absurd h e;rw[h];cases(l.take i).all (fun c=>decide (Ck q c.state=2))<;>rfl;rw[h];cases(l.take i).all (fun c=>decide (Ck q c.state=2))<;>rfl;intro x hx;rw[ht]at hx;rcases ma.1 hx with h|h
    exact ha x h;rw[List.mem_singleton]at h;exact h▸e;rw[ht];simp)
   (2,(0:Int)) ⟨0,rfl,by omega,by simp,by simp[gI]⟩
  rw[<-hQ];exact ho
 unfold Xv E2;rw[h,AB];split<;>rfl
theorem aX1{q:AD}(hF:CY q)(hR:AY q){l:List X3}(hl:l.length<=1000)(hi:InS q l):Z0 q l=some (E2 q l):=by
 have h:aTq l q true 0=some (if(l.any fun c=>decide (Ck q c.state=1))=true then .inr ()else .inl (l.all fun c=>decide (Ck q c.state=2))):=by
  obtain⟨o,ho,hQ⟩:=Ap (step:=fun s:Bool×Int=>HM l q s.1 s.2)
   (fun s=>∃i:Nat,s.2=(i:Int)/\i<=l.length/\(∀c∈l.take i,Ck q c.state≠1)/\(s.1=(l.take i).all fun c=>decide (Ck q c.state=2)))
   (fun s=>(l.length-s.2).toNat)
   (fun o=>o=(if(l.any fun c=>decide (Ck q c.state=1))=true then .inr ()else .inl (l.all fun c=>decide (Ck q c.state=2))))
   (by
    rintro⟨n,m⟩ ⟨i,rfl,hi2,ha,hb⟩;simp only at hb;subst hb;by_cases he:i=l.length;subst he;refine .inl ⟨_,by simp only[HM,ltI,AF];rfl,?_⟩;rw[List.take_length]at*;have hne:¬(l.any fun c=>decide (Ck q c.state=1))=true:=by rw[List.any_eq_true];rintro⟨c,hc,h⟩;exact ha c hc (of_decide_eq_true h)
    rw[if_neg hne];obtain⟨c,hc,_⟩:=AQ (l:=l) (i:=i) (by omega);have hcm:=List.mem_of_getElem? hc;have ht:l.take (i+1)=l.take i++[c]:=by rw[List.take_add_one,hc];rfl
    have hk:=bBp hF hR (hi c hcm);by_cases e:Ck q c.state=1;refine .inl ⟨.inr (),?_,?_⟩;simp only[HM,ltD hc,AG,AL hc,hk,AB,e,decide_true];rw[if_pos];rw[List.any_eq_true];exact⟨c,hcm,decide_eq_true e⟩;refine .inr ⟨((l.take i).all (fun c=>decide (Ck q c.state=2))&&decide (Ck q c.state=2),((i+1:Nat):Int)),?_,⟨i+1,rfl,by omega,?_,?_⟩,by simp only;omega⟩;simp only[HM,ltD hc,AG,AL hc,hk,AB,e,decide_false,AF,Ah hc (show l.length<=9223372036854775807 by omega)];cases(l.take i).all (fun c=>decide (Ck q c.state=2))<;>rfl;intro x hx;rw[ht]at hx;rcases ma.1 hx with h|h
    exact ha x h;rw[List.mem_singleton]at h;exact h▸e;rw[ht];simp)
   (true,(0:Int)) ⟨0,rfl,by omega,by simp,by simp⟩
  rw[<-hQ];exact ho
 unfold Z0 E2;rw[h,AB];split;rfl;rw[BY,Az];split<;>rfl
def CW(c:X3):Prop:=c.vals.length<=9223372036854775807/\∀v∈c.vals,v.str.length<=9223372036854775807
theorem H6{a b:X3}(ha:CW a)(hb:CW b):∃r,Yd a b=some r:=by
 obtain⟨o,ho,_⟩:=Am (step:=fun s=>FD a b s) a.vals.length (fun _=>True) (fun _=>True)
  (fun i hi=>by obtain⟨x,hx,_⟩:=AQ hi;by_cases hb2:i<b.vals.length;obtain⟨y,hy,_⟩:=AQ hb2;simp only[FD,ltD hx,ltD hy,AG,AL hx,AL hy,aF5 x y (ha.2 x (List.mem_of_getElem? hx)) (hb.2 y (List.mem_of_getElem? hy)),AB,Ah hx ha.1];cases X0.eqb x y;exact .inr ⟨_,rfl,trivial⟩;exact .inl ⟨rfl,trivial⟩;simp only[FD,ltD hx,AG];rw[decide_eq_false (by omega)];exact .inr ⟨_,rfl,trivial⟩)
  (fun _=>⟨.inl (),by simp only[FD,ltI,AF],trivial⟩)
 have ho':YR a b 0=some o:=ho;unfold Yd;rw[ho',AB];cases decide (a.state=b.state);exact⟨_,rfl⟩;cases o<;>exact⟨_,rfl⟩
theorem Tk{a b:X3}(ha:CW a)(hb:CW b):∃r,Qc a b=some r:=by obtain⟨r,h⟩:=H6 ha hb;obtain⟨r',h'⟩:=H6 hb ha;unfold Qc;rw[h,h',AB];cases r<;>exact⟨_,rfl⟩
theorem Kp{w:List X3}{c:X3}(hw:∀x∈w,CW x)(hc:CW c)(hl:w.length<=100000):∃k:Nat,k<=w.length/\Lf w c (w.length:Int)=some (k:Int):=by
 suffices∀i:Nat,i<=w.length->∃k:Nat,k<=w.length/\Lf w c (i:Int)=some (k:Int)from this _ (Nat.le_refl _)
 intro i;induction i with
 |zero=>intro _;exact⟨0,Nat.zero_le _,by rw[Et];simp[Eb,AE,B1]⟩
 |succ i ih=>
  intro hi
  obtain⟨x,hx,_⟩:=AQ (l:=w) (i:=i) (by omega)
  obtain⟨r,hL⟩:=H6 hc (hw x (List.mem_of_getElem? hx))
  have hs:AA .sub .i64 ((i+1:Nat):Int) 1=(i:Int):=by rw[TK (by omega) (by omega)];simp
  have hpos:decide ((0:Int)<((i+1:Nat):Int))=true:=decide_eq_true (by omega)
  rw[Et]
  simp only[Eb,hpos,AG,hs,AL hx,hL,AB]
  cases r
  exact⟨i+1,hi,rfl⟩
  exact ih (by omega)
theorem aRv{w:List X3}{c:X3}(hw:∀x∈w,CW x)(hc:CW c)(hl:w.length<=100000):∃r,Y6 w c=some r/\(∀x∈r,x=c\/x∈w)/\r.length<=w.length+1:=by obtain⟨k,hk,h1⟩:=Kp hw hc hl;have hmid:=PO (n:=0) (w:=w) (c:=c) k hk;have hm:∃r,some (w.take k++[c]++w.drop k)=some r/\(∀x∈r,x=c\/x∈w)/\r.length<=w.length+1:=⟨_,rfl,fun x hx=>(hmid.1 x).1 hx,hmid.2⟩;unfold Y6;rw[h1,AB,Gk,Gj,Aj (by omega),Ff (by simp;omega) (by decide),Ff (by simp;omega) (by decide),Aj (by omega),Ff (by simp;omega) (by decide),List.nil_append];by_cases h0:0<k;obtain⟨x,hx,_⟩:=AQ (l:=w) (i:=k-1) (by omega);obtain⟨r,hO⟩:=Tk (hw x (List.mem_of_getElem? hx)) hc;rw[decide_eq_true (show(0:Int)<(k:Int) by omega),AG,TK h0 (by omega),AL hx,hO,AB];cases r;exact hm;exact⟨w,rfl,fun x h=>.inr h,by omega⟩;rw[decide_eq_false (by omega),AF];exact hm
theorem aQe{l:List X3}(hl:∀x∈l,CW x)(hn:l.length<=500):∃w,Zc l=some w/\(∀x∈w,x∈l)/\w.length<=l.length:=by
 obtain⟨o,ho,h1,h2⟩:=Ap (step:=fun s:List X3×Int=>JO l s.1 s.2)
  (fun s=>∃i:Nat,s.2=(i:Int)/\i<=l.length/\(∀x∈s.1,x∈l)/\s.1.length<=i) (fun s=>(l.length-s.2).toNat) (fun o=>(∀x∈o,x∈l)/\o.length<=l.length)
  (by
   rintro⟨w,n⟩ ⟨i,rfl,hi,ha,hb⟩;simp only at ha hb;by_cases he:i=l.length;subst he;exact .inl ⟨w,by simp only[JO,ltI,AF],ha,hb⟩;obtain⟨c,hc,_⟩:=AQ (l:=l) (i:=i) (by omega);obtain⟨r,hr,h3,h4⟩:=aRv (w:=w) (c:=c) (fun x hx=>hl x (ha x hx)) (hl c (List.mem_of_getElem? hc)) (by omega);refine .inr ⟨(r,((i+1:Nat):Int)),by simp only[JO,ltD hc,AG,AL hc,hr,AB,Ah hc (show l.length<=9223372036854775807 by omega)],⟨i+1,rfl,by omega,fun x hx=>?_,by simp only;omega⟩,by simp only;omega⟩;rcases h3 x hx with rfl|h
   exact List.mem_of_getElem? hc;exact ha x h)
  ([],(0:Int)) ⟨0,rfl,by omega,by simp,by simp⟩
 have ho':aTw l [] 0=some o:=ho;unfold Zc;rw[ho',AB];exact⟨o,rfl,h1,h2⟩
def MSt{K V:Type}(m:MP K V):Prop:=∀e∈m.es,e.1<m.clk
theorem Ro{K V:Type}(c:Nat)(k:K)(z v:V):∀l:List (Nat×K×V),(∀e∈l,e.1<c)->aVu (c:Int) v (l++[(c,k,z)])=l++[(c,k,v)]
 |[],_=>by simp[aVu]
 |x::xs,h=>by
  have:=h x (by simp);rw[List.cons_append,aVu,if_neg (by omega),Ro c k z v xs fun e he=>h e (List.mem_cons_of_mem _ he)];rfl
section
variable {K V:Type} [DecidableEq K]
theorem ME(z:V)(c:Nat)(k:K)(v:V)(k':K):∀l:List (Nat×K×V),Mj z k' (N9 c k v l).2=if k=k' then(v,true)else Mj z k' l
 |[]=>by
  simp only[N9,Mj]
 |x::xs=>by
  rw[N9];split;rename_i h;by_cases e:k=k';rw[if_pos e,Mj,if_pos (h.trans e)];rw[if_neg e,Mj,Mj,if_neg (by rw[h];exact e),if_neg (by rw[h];exact e)];rename_i h;by_cases e:k=k';rw[if_pos e,Mj,if_neg (by rw[<-e];exact h),ME z c k v k' xs,if_pos e];rw[if_neg e,Mj,Mj,ME z c k v k' xs,if_neg e]
theorem RX(z:V)(m:MP K V)(k:K)(v:V)(k':K):Kg z (Ek m k v) k'=if k=k' then(v,true)else Kg z m k':=ME z _ _ _ _ _
theorem Rh(z:V)(c:Nat)(k:K)(v:V):∀l:List (Nat×K×V),(Mj z k l).2=false->N9 c k v l=(c+1,l++[(c,k,v)])/\K6 c z k l=((c+1,l++[(c,k,z)]),z,c)
 |[],_=>⟨rfl,rfl⟩
 |x::xs,h=>by
  rw[Mj]at h;split at h;cases h;rename_i hx;obtain⟨a,b⟩:=Rh z c k v xs h;rw[N9,if_neg hx,K6,if_neg hx,a,b];exact⟨rfl,rfl⟩
theorem aQ7{z:V}{m:MP K V}{k:K}(v:V)(h:(Kg z m k).2=false)(hm:MSt m):PG z m k=m.clk/\aPm (Hb z m k) ((PG z m k:Nat):Int)=true/\S7 (Hb z m k) ((PG z m k:Nat):Int) v=Ek m k v/\MSt (Ek m k v)/\(Ek m k v).clk=m.clk+1:=by
 obtain⟨a,b⟩:=Rh z m.clk k v m.es h;refine⟨by simp[PG,b],by simp[aPm,Hb,PG,b],?_,?_,by simp[Ek,a]⟩;simp only[S7,Hb,PG,Ek,a,b,Ro m.clk k z v m.es hm];intro e he;simp only[Ek,a]at he⊢;rcases ma.1 he with h|h
 have:=hm e h;omega;rw[List.mem_singleton]at h;subst h;simp
theorem aPl(z:V)(k:K):Kg z (Hc:MP K V) k=(z,false):=rfl
end
section
variable {α σ τ:Type} [DecidableEq α] {succ:α->List α} {s:α}
def wlS(succ:α->List α)(p:α->Bool):Nat->Nat->List α->Nat×List α
 |0,i,o=>(i,o)
 |n+1,i,o=>match o[i]? with
  |none=>(i,o)
  |some x=>if p x=true then(i,o)else wlS succ p n (i+1) (KV o (succ x))
theorem Mf{N:Nat}(hN:Bd succ s N)(p:α->Bool){step:σ->Option (σ⊕τ)}(R:Nat->List α->σ->Prop)(Q:Nat->List α->τ->Prop)
 (h1:∀i x o st,WI succ s i o->R i o st->o[i]? =some x->p x=false->∃st',step st=some (.inl st')/\R (i+1) (KV o (succ x)) st')
 (h2:∀i x o st,WI succ s i o->R i o st->o[i]? =some x->p x=true->∃t,step st=some (.inr t)/\Q i o t)
 (h3:∀o st,WI succ s o.length o->R o.length o st->∃t,step st=some (.inr t)/\Q o.length o t):∀(n i:Nat) (o:List α) (st:σ),WI succ s i o->R i o st->N+1<=n+i->
 ∃t,AR step st=some t/\Q (wlS succ p n i o).1 (wlS succ p n i o).2 t
 |0,i,o,st,h,_,hn=>by have:=h.le;have:=hN o h.nd h.rc;omega
 |n+1,i,o,st,h,hr,hn=>by
  rw[wlS,An];cases e:o[i]? with
  |none=>
   have:=List.getElem?_eq_none_iff.1 e
   have he:i=o.length:=by have:=h.le;omega
   subst he
   obtain⟨t,a,b⟩:=h3 o st h hr
   exact⟨t,by rw[a,Ae],b⟩
  |some x=>
   simp only
   cases hp:p x with
   |true=>
    obtain⟨t,a,b⟩:=h2 i x o st h hr e hp
    exact⟨t,by rw[a,Ae],b⟩
   |false=>
    obtain⟨st',a,b⟩:=h1 i x o st h hr e hp
    rw[a,BF]
    exact Mf hN p R Q h1 h2 h3 n (i+1) _ st' (h.step e) b (by omega)
theorem aRh(succ:α->List α){p:α->Bool}(hp:∀x,p x=false):∀(n i:Nat) (o:List α),(wlS succ p n i o).2=wl succ n i o
 |0,_,_=>rfl
 |n+1,i,o=>by
  rw[wlS,wl];cases o[i]? with
  |none=>rfl
  |some x=>simp only[hp x,Bool.false_eq_true,if_false];exact aRh succ hp n (i+1) _
end
theorem QN{α β:Type} [DecidableEq α](g:β->α):∀(l:List β) (o:List α),l.foldl (fun o m=>if g m∈o then o else o++[g m]) o=KV o (l.map g)
 |[],o=>rfl
 |m::l,o=>by rw[List.foldl_cons,QN g l];rfl
def Dw(q:AD)(L:List Int)(x:Int):List Int:=L.map fun m=>((Du q x.toNat m.toNat:Nat):Int)
theorem aPo{q:AD}(hR:AY q)(S M:Nat):Du q S M<2^q.states.length:=by apply Nat.lt_pow_two_of_testBit;intro k hk;rw[<-Bool.not_eq_true,Nj];rintro⟨s,hs,_,hf⟩;unfold aFt at hf;split at hf;rw[Nat.testBit_two_pow]at hf;have:=of_decide_eq_true hf;omega;obtain⟨t,ht,_,he⟩:=(KP q M s k).1 hf;have:=(hR.ends t ht).2.2;omega
structure GM(q:AD)(L:List Int):Prop where
 len:L.length<=5000
 up:L.Pairwise (· < ·)
 lt:∀x∈L,∃n:Nat,x=(n:Int)/\n<4096
theorem aVr{q:AD}(hF:CY q)(hR:AY q)(hS:B6 q)(hT:Yx q=some true)(h3:∀d∈q.decls,d.types.length<=3){b:List X2}(hB:BR b):∃L,X7 q b=some L/\Xq q b=some L/\RS L (aGf q b)/\GM q L:=by obtain⟨L,e1,e2,hL⟩:=Mt hF hR hS (IH hF hT) h3 hB;refine⟨L,e1,e2,hL,Nat.le_trans (hL.len fun n hn=>OH hF hn) (by decide),hL.up,fun x hx=>?_⟩;obtain⟨n,rfl,hn⟩:=(hL.is x).1 hx;exact⟨n,rfl,OH hF hn⟩
theorem rcS{q:AD}(hR:AY q)(hS:B6 q){L:List Int}{s:Nat}(hs:s<2^q.states.length):∀x,Rch (Dw q L) (s:Int) x->∃n:Nat,x=(n:Int)/\n<256:=fun x h=>by
 have h8:2^q.states.length<=256:=show 2^q.states.length<=2^8 from Nat.pow_le_pow_right (by decide) hS.states;cases h with
 |refl=>exact⟨s,rfl,by omega⟩
 |step _ hy=>
  obtain⟨m,_,rfl⟩:=mm.1 hy
  exact⟨_,rfl,by have:=aPo hR;exact Nat.lt_of_lt_of_le (this _ _) h8⟩
theorem bdS{q:AD}(hR:AY q)(hS:B6 q){L:List Int}{s:Nat}(hs:s<2^q.states.length):Bd (Dw q L) (s:Int) 256:=aQq fun x hx=>by obtain⟨n,rfl,h⟩:=rcS hR hS hs x hx;omega
theorem aQy(l:List Int)(x:Int)(hl:l.length<=9223372036854775807):Zg l x=some (decide (x∈l)):=by
 have h:aTz l x 0=_:=D6 (step:=fun s=>JR l x s) l (fun _ y=>if y=x then some (Sum.inr ():Unit⊕Unit)else none) (.inl ())
  (fun i y hy=>by simp only[JR,ltD hy,AG,AL hy,Ah hy hl,De];by_cases h:y=x<;>simp[h])
  (by simp only[JR,ltI,AF])
 unfold Zg;rw[h,AB,DG];by_cases hx:x∈l;have:l.findSome? (fun y=>if y=x then some (Sum.inr ():Unit⊕Unit)else none)=some (.inr ()):=by
  obtain⟨y,hy⟩:=Option.isSome_iff_exists.1 (List.findSome?_isSome_iff.2 (⟨x,hx,by simp⟩:∃y,y∈l/\(if y=x then some (Sum.inr ():Unit⊕Unit)else none).isSome=true))
  rw[hy];cases y with
  |inl u=>
   obtain⟨z,_,hz⟩:=List.exists_of_findSome?_eq_some hy
   split at hz<;>simp at hz
  |inr u=>rfl
 rw[this];simp[hx,Ba];have:l.findSome? (fun y=>if y=x then some (Sum.inr ():Unit⊕Unit)else none)=none:=by rw[List.findSome?_eq_none_iff];intro y hy;exact if_neg fun e=>hx (by rw[<-e];exact hy)
 rw[this];simp[hx,Ba]
theorem aEn{q:AD}(hF:CY q)(hR:AY q){L:List Int}(hL:GM q L){x m:Int}(hx:∃n:Nat,x=(n:Int)/\n<256)(hm:m∈L):Xj q x m=some ((Du q x.toNat m.toNat:Nat):Int)/\Xi q x m=some ((Du q x.toNat m.toNat:Nat):Int):=by obtain⟨n,rfl,hn⟩:=hx;obtain⟨k,rfl,hk⟩:=hL.lt m hm;exact⟨bBc hF hR (by omega) (by omega),bBb hF hR (by omega) (by omega)⟩
theorem aWj{q:AD}(hF:CY q)(hR:AY q){L:List Int}(hL:GM q L)(i:Nat){x:Int}(hx:∃n:Nat,x=(n:Int)/\n<256){o:List Int}(ho:o[i]? =some x)(hl:o.length<=1000):aS5 L (i:Int) q 0 o=some (KV o (Dw q L x)):=by
 have hll:=hL.len;have h:=Cm (step:=fun s:Int×List Int=>Iz L (i:Int) q s.1 s.2) L (fun o m=>if((Du q x.toNat m.toNat:Nat):Int)∈o then o else o++[((Du q x.toNat m.toNat:Nat):Int)]) id (fun j w=>w[i]? =some x/\w.length<=1000+j)
  (fun j m w hj hI=>by
   have hjl:=B3 hj;have hw:w.length<=9223372036854775807:=by have:=hI.2;omega
   refine⟨?_,?_⟩;simp only[Iz,ltD hj,AG,aKh,AL hj,AL hI.1,(aEn hF hR hL hx (List.mem_of_getElem? hj)).2,aQy w _ hw,AB,aKj,Ah hj (show L.length<=9223372036854775807 by omega)];by_cases h2:((Du q x.toNat m.toNat:Nat):Int)∈w;simp[h2,AE,AH];rw[if_neg h2];simp only[h2,decide_false,Bool.not_false,AG];rw[Ff (by have:=hI.2;simp;omega) (by decide),AB,AB];split;exact⟨hI.1,by have:=hI.2;omega⟩;exact⟨by rw[List.getElem?_append_left (B3 hI.1)];exact hI.1,by have:=hI.2;simp;omega⟩)
  (fun w _=>by simp only[Iz,ltI,AF];rfl) o ⟨ho,hl⟩
 refine Eq.trans h ?_;rw[QN (fun m:Int=>((Du q x.toNat m.toNat:Nat):Int))];rfl
theorem bBu{q:AD}(hF:CY q)(hR:AY q)(hS:B6 q){L:List Int}(hL:GM q L){b:List X2}(he:Xq q b=some L){s:Nat}(hs:s<2^q.states.length):Y1 q b (s:Int)=some (clo (Dw q L) 256 (s:Int)):=by
 have hb:=bdS (L:=L) hR hS hs;have h:=PY hb (step:=fun s:Int×List Int=>Iy L q s.1 s.2) (fun i o=>((i:Int),o)) id
  (fun i x o hI hx=>by have hl:=hb o hI.nd hI.rc;simp only[Iy,ltD hx,AG,aWj hF hR hL i (rcS hR hS hs x (hI.rc x (List.mem_of_getElem? hx))) hx (by omega),AB,Ah hx (show o.length<=9223372036854775807 by omega)])
  (fun o hI=>by simp only[Iy,ltI,AF];rfl) _ 0 [(s:Int)] WI.init (Nat.le_refl _)
 have h':aS4 L q 0 [(s:Int)]=some (clo (Dw q L) 256 (s:Int)):=h;unfold Y1;rw[he,AB,h',AB]
def TT(S:Nat)(i:Nat)(st:Xc):Option (Unit⊕Unit):=if st.accept=true/\S.testBit i=true then some (.inr ())else none
def aOg(q:AD)(S:Nat):Bool:=match MY (Ei (TT S)) (fun _=>.inl ()) 0 q.states ()with
 | .inl _=>false
 | .inr _=>true
theorem Kw{q:AD}(hF:CY q){S:Nat}(hS:S<4294967296):Zb q (S:Int)=some (aOg q S):=by
 have h8:=hF.states;have h:aTv (S:Int) q.states (q.states.length:Int) 0=_:=D6 (step:=fun s=>JN (S:Int) q.states (q.states.length:Int) s) q.states (TT S) (.inl ())
  (fun i st hi=>by
   have hil:=B3 hi;have h1:=BC (n:=i) (by omega);have h2:=aQo (n:=S) (m:=2^i) hS (Nat.lt_of_lt_of_le (Nat.pow_lt_pow_right (by decide) (show i<32 by omega)) (by decide));simp only[JN,ltD hi,AG,AL hi,Ah hi (show q.states.length<=9223372036854775807 by omega),h1,PT (show i<32 by omega),h2,TT];rw[Aj (by omega)];have h3:((S&&&2^i:Nat):Int)=0↔S.testBit i=false:=by rw[<-Oo];omega
   cases st.accept with
   |false=>simp[AE]
   |true=>
    rw[AG]
    cases hb:S.testBit i with
    |false=>rw[decide_eq_true (h3.2 hb)];simp[AE]
    |true=>rw[decide_eq_false (by rw[h3,hb];simp)];simp[AE])
  (by simp only[JN,ltI,AF])
 unfold Zb aOg;rw[h,AB];cases MY (Ei (TT S)) (fun _=>.inl ()) 0 q.states ()<;>rfl
theorem Ko{q:AD}(hF:CY q){S:Nat}(hS:S<4294967296):Z9 q (S:Int)=some (aOg q S):=by
 have h8:=hF.states;have h:aTt (S:Int) q 0=_:=D6 (step:=fun s=>JL (S:Int) q s) q.states (TT S) (.inl ())
  (fun i st hi=>by
   have hil:=B3 hi;have h1:=BC (n:=i) (by omega);simp only[JL,ltD hi,AG,AL hi,Ah hi (show q.states.length<=9223372036854775807 by omega),h1,PU (k:=.u32) (n:=S) (s:=i) (show i<32 by omega),bEg,Oq,TT];rw[Aj (by omega)];cases hb:S.testBit i with
   |false=>simp[AE]
   |true=>
    simp only[if_true]
    rw[show decide (((1:Nat):Int)=1)=true from rfl,AG]
    cases st.accept<;>simp[AE])
  (by simp only[JL,ltI,AF])
 unfold Z9 aOg;rw[h,AB];cases MY (Ei (TT S)) (fun _=>.inl ()) 0 q.states ()<;>rfl
def Ee(q:AD)(x:Int):Bool:=aOg q x.toNat
def Fy(q:AD)(l:List Int):Int:=if(l.all (Ee q))=true then 1 else if(l.all fun x=> !Ee q x)=true then 2 else 0
theorem TH{q:AD}{l m:List Int}(h:l.Perm m):Fy q l=Fy q m:=by
 have:∀p:Int->Bool,l.all p=m.all p:=fun p=>by rw[Bool.eq_iff_iff,List.all_eq_true,List.all_eq_true];exact⟨fun g x hx=>g x (h.mem_iff.2 hx),fun g x hx=>g x (h.mem_iff.1 hx)⟩
 unfold Fy;rw[this,this]
def Pe(l:List Int):Prop:=∀x∈l,∃n:Nat,x=(n:Int)/\n<256
theorem aVv{q:AD}(hF:CY q){l:List Int}(hl:l.length<=9223372036854775807)(hs:Pe l):Uf q l=some (Fy q l):=by
 have e1:Ud l q=some (l.any fun x=> !Ee q x):=by
  have h:aRw l q (l.length:Int) 0=_:=DY (step:=fun s=>IE l q (l.length:Int) s) l (fun x=> !Ee q x)
   (fun i y hy=>by obtain⟨n,rfl,hn⟩:=hs y (List.mem_of_getElem? hy);simp only[IE,ltD hy,AG,AL hy,Up,Kw hF (show n<4294967296 by omega),AB,Ah hy hl,Ee,Int.toNat_natCast];rw[Az];split<;>simp_all)
   (by simp only[IE,ltI,AF])
  unfold Ud Q0;rw[h,AB,<-IB];split<;>rfl
 have e2:Ue l q=some (l.any (Ee q)):=by
  have h:aRx l q (l.length:Int) 0=_:=DY (step:=fun s=>IF l q (l.length:Int) s) l (Ee q)
   (fun i y hy=>by obtain⟨n,rfl,hn⟩:=hs y (List.mem_of_getElem? hy);simp only[IF,ltD hy,AG,AL hy,Uq,Kw hF (show n<4294967296 by omega),AB,Ah hy hl,Ee,Int.toNat_natCast];rw[Az];split<;>simp_all)
   (by simp only[IF,ltI,AF])
  unfold Ue Q3;rw[h,AB,<-IB];split<;>rfl
 unfold Uf Fy;rw[e1,AB,e2,AB,Az,Az,List.all_eq_not_any_not,List.all_eq_not_any_not];simp only[Bool.not_not];split;rfl;split<;>rfl
theorem Tw{q:AD}(hF:CY q){l:List Int}(hl:l.length<=100000)(hs:Pe l):aTi l q 0 0=some ((l.countP (Ee q):Nat):Int):=by
 obtain⟨o,ho,h1⟩:=Ap (step:=fun s:Int×Int=>JC l q s.1 s.2)
  (fun s=>∃i:Nat,s.2=(i:Int)/\i<=l.length/\s.1=(((l.take i).countP (Ee q):Nat):Int)) (fun s=>(l.length-s.2).toNat) (fun o=>o=((l.countP (Ee q):Nat):Int))
  (by
   rintro⟨n,m⟩ ⟨i,rfl,hi,hb⟩;simp only at hb;subst hb;by_cases he:i=l.length;subst he;exact .inl ⟨_,by simp only[JC,ltI,AF,List.take_length],rfl⟩;obtain⟨x,hx,_⟩:=AQ (l:=l) (i:=i) (by omega);obtain⟨n,rfl,hn⟩:=hs x (List.mem_of_getElem? hx);have hc:=List.countP_le_length (p:=Ee q) (l:=l.take i);rw[List.length_take]at hc;refine .inr ⟨((((l.take (i+1)).countP (Ee q):Nat):Int),((i+1:Nat):Int)),?_,⟨i+1,rfl,by omega,rfl⟩,by simp only;omega⟩;have ha:Ee q (n:Int)=aOg q n:=by rw[Ee,Int.toNat_natCast]
   simp only[JC,ltD hx,AG,aMi,aMk,AL hx,Ko hF (show n<4294967296 by omega),AB,Ah hx (show l.length<=9223372036854775807 by omega),List.take_add_one,hx,Option.toList_some,List.countP_append,List.countP_singleton,ha];rw[Az];split;rw[KN (by omega),AB,AB];rw[AB,AB];rfl)
  ((0:Int),(0:Int)) ⟨0,rfl,by omega,by simp⟩
 rw[<-h1];exact ho
theorem bCa{q:AD}(hF:CY q){b:List X2}{s:Int}{l:List Int}(hA:Y1 q b s=some l)(hl:l.length<=100000)(hs:Pe l):Yn q b s=some (Fy q l):=by
 unfold Yn Fy;rw[hA,AB,Tw hF hl hs,AB,De,De];have h1:(((l.countP (Ee q):Nat):Int)=(l.length:Int))↔(l.all (Ee q))=true:=by rw[List.all_eq_true,<-List.countP_eq_length];omega
 have h2:(((l.countP (Ee q):Nat):Int)=0)↔(l.all fun x=> !Ee q x)=true:=by rw[List.all_eq_true];have:=List.countP_eq_zero (p:=Ee q) (l:=l);simp only[Bool.not_eq_true'];rw[show(((l.countP (Ee q):Nat):Int)=0)↔l.countP (Ee q)=0 by omega,this];simp
 by_cases c1:(l.all (Ee q))=true;rw[if_pos (h1.2 c1),if_pos c1];rw[if_neg (fun h=>c1 (h1.1 h)),if_neg c1];by_cases c2:(l.all fun x=> !Ee q x)=true;rw[if_pos (h2.2 c2),if_pos c2];rw[if_neg (fun h=>c2 (h2.1 h)),if_neg c2]
abbrev TR:=List Int×MP Int Int×MP Int Int
def GJ(q:AD)(x:Int)(t:TR)(m:Int):TR:=if((Du q x.toNat m.toNat:Nat):Int)∈t.1 then t else(t.1++[((Du q x.toNat m.toNat:Nat):Int)],Ek t.2.1 ((Du q x.toNat m.toNat:Nat):Int) x,Ek t.2.2 ((Du q x.toNat m.toNat:Nat):Int) m)
structure TI(t:TR):Prop where
 st:MSt t.2.1
 clk:t.2.1.clk=t.1.length
 get:∀k,(Kg 0 t.2.1 k).2=decide (k∈t.1)
theorem TI.step{t:TR}(h:TI t)(q:AD)(x m:Int):TI (GJ q x t m):=by unfold GJ;split;exact h;rename_i hn;obtain⟨_,_,_,h4,h5⟩:=aQ7 (m:=t.2.1) (z:=(0:Int)) (k:=((Du q x.toNat m.toNat:Nat):Int)) x (by rw[h.get];simp[hn]) h.st;refine⟨h4,by rw[h5,h.clk];simp,fun k=>?_⟩;simp only;rw[RX];split;rename_i e;simp[e];rename_i e;rw[h.get];have e2:k≠((Du q x.toNat m.toNat:Nat):Int):=fun h=>e h.symm;simp[e2]
theorem TI.fold{q:AD}{x:Int}:∀{l:List Int} {t:TR},TI t->TI (l.foldl (GJ q x) t)
 |[],_,h=>h
 |m::l,t,h=>by rw[List.foldl_cons];exact TI.fold (h.step q x m)
theorem Ny{q:AD}{x:Int}:∀(l:List Int) (t:TR),(l.foldl (GJ q x) t).1=KV t.1 (Dw q l x)
 |[],_=>rfl
 |m::l,t=>by
  rw[List.foldl_cons,Ny l];show _=KV t.1 (_::Dw q l x);rw[En];congr 1;unfold GJ;split<;>rfl
theorem aE9{q:AD}{x m:Int}{t:TR}{i:Nat}{y:Int}(h:t.1[i]? =some y):(GJ q x t m).1[i]? =some y:=by unfold GJ;split;exact h;rw[List.getElem?_append_left (B3 h)];exact h
theorem aFa(q:AD)(x m:Int)(t:TR):(GJ q x t m).1.length<=t.1.length+1:=by unfold GJ;split;omega;simp
theorem TI.init(s:Int):TI ([s],Ek (Hc:MP Int Int) s s,Hc):=by refine⟨fun e he=>?_,rfl,fun k=>?_⟩;simp[Ek,N9,Hc]at he⊢;subst he;simp;rw[RX,aPl];split;rename_i e;simp[e];rename_i e;have e2:k≠s:=fun h=>e h.symm;simp[e2]
theorem aE5{q:AD}(hF:CY q)(hR:AY q){L:List Int}(hL:GM q L)(i:Nat){x:Int}(hx:∃n:Nat,x=(n:Int)/\n<256){t:TR}(ho:t.1[i]? =some x)(hl:t.1.length<=1000)(hT:TI t):aS7 L (i:Int) L (L.length:Int) q 0 t.1 t.2.1 t.2.2=some (L.foldl (GJ q x) t):=by
 have hll:=hL.len;exact Cm (step:=fun s:Int×TR=>I1 L (i:Int) L (L.length:Int) q s.1 s.2.1 s.2.2.1 s.2.2.2) L (GJ q x) id (fun j t=>t.1[i]? =some x/\t.1.length<=1000+j/\TI t)
  (fun j m t hj hI=>by
   have hjl:=B3 hj;obtain⟨hg,hn,hT⟩:=hI;refine⟨?_,aE9 hg,Nat.le_trans (aFa _ _ _ _) (by omega),hT.step q x m⟩;have hc:(0:Int)<=(i:Int)/\(i:Int)+1<=(t.1.length:Int):=by have:=B3 hg;omega
   simp only[I1,ltD hj,AG,aKp,AL hj,Aj hc,AL hg,(aEn hF hR hL hx (List.mem_of_getElem? hj)).1,AB,aKr,Ah hj (show L.length<=9223372036854775807 by omega),hT.get];unfold GJ;by_cases h2:((Du q x.toNat m.toNat:Nat):Int)∈t.1;simp[h2,AE,AH];obtain⟨g1,g2,g3,_,_⟩:=aQ7 (m:=t.2.1) (z:=(0:Int)) (k:=((Du q x.toNat m.toNat:Nat):Int)) x (by rw[hT.get];simp[h2]) hT.st;rw[if_neg h2];simp only[h2,decide_false,Bool.not_false,AG];rw[Aj (by rw[g1,hT.clk];omega),Aj g2,Ff (by simp;omega) (by decide),g3,AB,AB])
  (fun w _=>by simp only[I1,ltI,AF];rfl) t ⟨ho,hl,hT⟩
theorem bBx{q:AD}(hF:CY q)(hR:AY q)(hS:B6 q){L:List Int}(hL:GM q L){b:List X2}(he:X7 q b=some L){s:Nat}(hs:s<2^q.states.length):∃F B,Y3 q b (s:Int)=some (clo (Dw q L) 256 (s:Int),F,B):=by
 have hb:=bdS (L:=L) hR hS hs;obtain⟨t,h,hQ⟩:=Mf hb (fun _=>false) (step:=fun s:Int×List Int×MP Int Int×MP Int Int=>I0 L q s.1 s.2.1 s.2.2.1 s.2.2.2) (fun i o st=>∃F B,st=((i:Int),o,F,B)/\TI (o,F,B)) (fun _ o t=>∃F B,t=(o,F,B))
  (fun i x o st hI hr hx _=>by
   obtain⟨F,B,rfl,hT⟩:=hr;have hl:=hb o hI.nd hI.rc;have e:=aE5 hF hR hL i (rcS hR hS hs x (hI.rc x (List.mem_of_getElem? hx))) (t:=(o,F,B)) hx (by simp only;omega) hT;have e1:=Ny (q:=q) (x:=x) L (o,F,B);have e2:=TI.fold (q:=q) (x:=x) (l:=L) hT;refine⟨(((i+1:Nat):Int),L.foldl (GJ q x) (o,F,B)),?_,(L.foldl (GJ q x) (o,F,B)).2.1,(L.foldl (GJ q x) (o,F,B)).2.2,?_,?_⟩;have hc:(0:Int)<=(i:Int)/\(i:Int)+1<=(o.length:Int):=by have:=B3 hx;omega
   simp only at e;simp only[I0,ltD hx,AG,Aj hc,AL hx,Uo,AB,AF,e,Ah hx (show o.length<=9223372036854775807 by omega)];rw[<-e1];rw[<-e1];exact e2)
  (fun i x o st _ _ _ hp=>by cases hp)
  (fun o st _ hr=>by obtain⟨F,B,rfl,_⟩:=hr;exact⟨(o,F,B),by simp only[I0,ltI,AF],F,B,rfl⟩) 257 0 [(s:Int)] ((0:Nat),[(s:Int)],Ek (Hc:MP Int Int) s s,Hc) WI.init ⟨_,_,rfl,TI.init _⟩ (Nat.le_refl _)
 obtain⟨F,B,rfl⟩:=hQ;rw[aRh _ (fun _=>rfl)]at h;have h':aS6 L q 0 [(s:Int)] (Ek (Hc:MP Int Int) s s) Hc=some (clo (Dw q L) 256 (s:Int),F,B):=h;refine⟨F,B,?_⟩;unfold Y3;rw[he,AB,h',AB]
theorem NA{q:AD}(hR:AY q)(hS:B6 q){L:List Int}{s:Nat}(hs:s<2^q.states.length):Pe (clo (Dw q L) 256 (s:Int)):=fun x hx=>rcS hR hS hs x ((FL (bdS hR hS hs)).1 hx)
theorem aZ0{q:AD}(hF:CY q)(hR:AY q)(hS:B6 q){L:List Int}(hL:GM q L){b:List X2}(he:X7 q b=some L){s:Nat}(hs:s<2^q.states.length):∃l,Qy q b (s:Int)=some l/\l.Perm (clo (Dw q L) 256 (s:Int))/\l.Pairwise (· <= ·):=by obtain⟨F,B,h⟩:=bBx hF hR hS hL he hs;have hlen:=MA (bdS (L:=L) hR hS hs);obtain⟨l,e1,e2,e3⟩:=Tu (w:=clo (Dw q L) 256 (s:Int)) (by omega);refine⟨l,?_,e2,e3⟩;unfold Qy;rw[h,AB,e1,AB]
theorem aWt{q:AD}(hF:CY q)(hR:AY q)(hS:B6 q){L:List Int}(hL:GM q L){b:List X2}(he:X7 q b=some L){s:Nat}(hs:s<2^q.states.length):Qf q b (s:Int)=some (Fy q (clo (Dw q L) 256 (s:Int))):=by obtain⟨l,h1,h2,_⟩:=aZ0 hF hR hS hL he hs;have hlen:=MA (bdS (L:=L) hR hS hs);unfold Qf;rw[h1,AB,aVv hF (by rw[h2.length_eq];omega) (fun x hx=>NA hR hS hs x (h2.mem_iff.1 hx)),AB,TH h2]
def exQ:AD:=AD.mk ([113]:List UInt8) ([]:List Xf) ([]:List Yg) ([]:List Yh) ([Xc.mk ([115]:List UInt8) false true,Xc.mk ([116]:List UInt8) true false]) 0 ([]:List X5) ([]:List Yp) ([]:List X6)
theorem exF:CY exQ:=⟨by decide,by decide,by decide,by decide,by decide,by decide,by decide,(fun s h=>by cases h),(fun s h=>by cases h)⟩
theorem exR:AY exQ:=⟨(fun j d h=>by cases h),by decide,(fun s h=>by cases h),(fun s h=>by cases h),(fun s h=>by cases h),(fun s h=>by cases h)⟩
theorem exS:B6 exQ:=⟨rfl,by decide,by decide,by decide,fun s h=>by cases h⟩
theorem exT{s x:Int}(h:Rch (E4 exQ) s x):x=s:=by
 cases h with
 |refl=>rfl
 |step _ h=>cases h
theorem aU4:X7 exQ []=some []:=by
 obtain⟨L,e1,_,hL⟩:=Mt exF exR exS (fun d h=>by cases h) (fun d h=>by cases h) (b:=[]) ⟨List.Pairwise.nil,fun s h=>by cases h⟩;have:L=[]:=by
  cases L with
  |nil=>rfl
  |cons y l=>
   obtain⟨n,_,⟨d,dd,h,_⟩,_⟩:=(hL.is y).1 (by simp)
   exact absurd h (Nat.not_lt_zero _)
 rw[<-this];exact e1
theorem YJ:Y9=some true:=by
 have h0:Q8 exQ 0=some 1:=by
  rw[aRy exF exR (by decide)];have hs:FT exQ 0:=fun j hj st hst=>by
   have e:=exT hj;have:j=0:=by omega
   subst this;cases hst;exact⟨rfl,rfl⟩
  unfold Ck;rw[if_pos hs]
 have hd:Kd exQ 1:=fun j hj st hst=>by
  have e:=exT hj;have:j=1:=by omega
  subst this;cases hst;rfl
 have h1:Q8 exQ 1=some 2:=by
  rw[aRy exF exR (by decide)];have hs:¬FT exQ 1:=fun h=>by have:=(h 1 .refl _ rfl).1;cases this
  unfold Ck;rw[if_neg hs,if_pos hd]
 have h2:Xv exQ []=some 2:=by rw[aXp exF exR (by decide) (fun c h=>by cases h)];rfl
 have h3:Qf exQ [] 1=some 1:=by have:=aWt exF exR exS (L:=[]) ⟨by decide,List.Pairwise.nil,fun x h=>by cases h⟩ aU4 (s:=1) (by decide);exact this.trans (by kernel_rfl)
 show(AH (Q8 exQ 0) fun r1=>AE (decide (r1=1)) (AH (Q8 exQ 1) fun r2=>AE (decide (r2=2)) (AH (Xv exQ []) fun r3=>AE (decide (r3=2)) (AH (Qf exQ [] 1) fun r4=>some (decide (r4=1))) (some false)) (some false)) (some false))=some true;rw[h0,h1,h2,h3];rfl
theorem aRi{α:Type} [DecidableEq α]{succ:α->List α}{s:α}{N:Nat}(hN:Bd succ s N)(p:α->Bool):∀(n i:Nat) (o:List α),WI succ s i o->(∀j x,j<i->o[j]? =some x->p x=false)->N+1<=n+i->
 WI succ s (wlS succ p n i o).1 (wlS succ p n i o).2/\(∀j x,j<(wlS succ p n i o).1->(wlS succ p n i o).2[j]? =some x->p x=false)/\((wlS succ p n i o).1=(wlS succ p n i o).2.length\/∃x,(wlS succ p n i o).2[(wlS succ p n i o).1]? =some x/\p x=true)
 |0,i,o,h,_,hn=>by have:=h.le;have:=hN o h.nd h.rc;omega
 |n+1,i,o,h,hp,hn=>by
  rw[wlS];cases e:o[i]? with
  |none=>
   have:=List.getElem?_eq_none_iff.1 e
   exact⟨h,hp,.inl (show i=o.length by have:=h.le;omega)⟩
  |some x=>
   simp only
   cases hx:p x with
   |true=>exact⟨h,hp,.inr ⟨x,e,hx⟩⟩
   |false=>
    refine aRi hN p n (i+1) _ (h.step e) (fun j y hj hy=>?_) (by omega)
    have hj2:j<o.length:=by have:=B3 e;omega
    obtain⟨w,hw,_⟩:=AQ hj2
    have e2:w=y:=by rw[Lu hw,oe]at hy;exact hy
    subst e2
    by_cases hji:j=i
    subst hji;rw[e,oe]at hw;exact hw▸hx
    exact hp j w (by omega) hw
inductive Way(q:AD)(L:List Int):Int->Nat->Int->Prop
 |nil {x:Int}:Way q L x 0 x
 |cons {x y m:Int} {k:Nat}:m∈L->Way q L ((Du q x.toNat m.toNat:Nat):Int) k y->Way q L x (k+1) y
theorem Way.snoc{q:AD}{L:List Int}{x y m:Int}{k:Nat}(h:Way q L x k y)(hm:m∈L):Way q L x (k+1) ((Du q y.toNat m.toNat:Nat):Int):=by
 induction h with
 |nil=>exact .cons hm .nil
 |cons h1 _ ih=>exact .cons h1 ih
def nx(q:AD)(x m:Int):Int:=((Du q x.toNat m.toNat:Nat):Int)
def Par(q:AD)(L o:List Int)(j pj:Nat)(m:Int):Prop:=∃x,o[pj]? =some x/\o[j]? =some (nx q x m)/\m∈L/\(∀p x',p<pj->o[p]? =some x'->∀m'∈L,nx q x' m'∈o.take j)/\∀m'∈L,m'<m->nx q x m'∈o.take j
theorem Par.app{q:AD}{L o:List Int}{j pj:Nat}{m:Int}(h:Par q L o j pj m)(r:List Int):Par q L (o++r) j pj m:=by obtain⟨x,h1,h2,h3,h4,h5⟩:=h;have e:(o++r).take j=o.take j:=List.take_append_of_le_length (Nat.le_of_lt (B3 h2));refine⟨x,by rw[List.getElem?_append_left (B3 h1)];exact h1,by rw[List.getElem?_append_left (B3 h2)];exact h2,h3,fun p x' hp hx'=>?_,by rw[e];exact h5⟩;rw[e];refine h4 p x' hp ?_;rw[List.getElem?_append_left (Nat.lt_trans hp (B3 h1))]at hx';exact hx'
structure CX(q:AD)(L:List Int)(i:Nat)(x:Int)(k:Nat)(o:List Int):Prop where
 get:o[i]? =some x
 cl:∀p x',p<i->o[p]? =some x'->∀m'∈L,nx q x' m'∈o
 dn:∀m'∈L.take k,nx q x m'∈o
theorem aV1{L:List Int}(h:L.Pairwise (· < ·)){k:Nat}{m m':Int}(hk:L[k]? =some m)(hm:m'∈L)(hlt:m'<m):m'∈L.take k:=by
 obtain⟨j,hj⟩:=List.mem_iff_getElem?.1 hm;have hkl:=B3 hk;have hjl:=B3 hj;have e1:L[k]=m:=by rw[List.getElem?_eq_getElem hkl,oe]at hk;exact hk
 have e2:L[j]=m':=by rw[List.getElem?_eq_getElem hjl,oe]at hj;exact hj
 by_cases h1:j<k;exact List.mem_of_getElem? (i:=j) (by rw[List.getElem?_take,if_pos h1];exact hj);exfalso;by_cases h2:j=k;subst h2;omega;have:=List.pairwise_iff_getElem.1 h k j hkl hjl (by omega);omega
theorem CX.new{q:AD}{L:List Int}(hL:GM q L){i k:Nat}{x m:Int}{o:List Int}(h:CX q L i x k o)(hm:L[k]? =some m):Par q L (o++[nx q x m]) o.length i m:=by have e:(o++[nx q x m]).take o.length=o:=List.take_left;refine⟨x,by rw[List.getElem?_append_left (B3 h.get)];exact h.get,by simp,List.mem_of_getElem? hm,fun p x' hp hx'=>?_,fun m' hm' hlt=>?_⟩;rw[e];refine h.cl p x' hp ?_;rw[List.getElem?_append_left (Nat.lt_trans hp (B3 h.get))]at hx';exact hx';rw[e];exact h.dn m' (aV1 hL.up hm hm' hlt)
theorem CX.step{q:AD}{L:List Int}{i k:Nat}{x m:Int}{o:List Int}(h:CX q L i x k o)(hm:L[k]? =some m):CX q L i x (k+1) (if nx q x m∈o then o else o++[nx q x m]):=by
 have hsub:∀y∈o,y∈(if nx q x m∈o then o else o++[nx q x m]):=fun y hy=>by split;exact hy;exact ml _ hy
 have hin:nx q x m∈(if nx q x m∈o then o else o++[nx q x m]):=by split;assumption;simp
 have hget:∀(p:Nat) x',p<o.length->(if nx q x m∈o then o else o++[nx q x m])[p]? =some x'->o[p]? =some x':=fun p x' hp hx'=>by split at hx';exact hx';rw[List.getElem?_append_left hp]at hx';exact hx'
 have hi:=B3 h.get;refine⟨?_,fun p x' hp hx' m' hm'=>hsub _ (h.cl p x' hp (hget p x' (by omega) hx') m' hm'),fun m' hm'=>?_⟩;split;exact h.get;rw[List.getElem?_append_left hi];exact h.get;rw[List.take_add_one,hm]at hm';rcases ma.1 hm' with h'|h'
 exact hsub _ (h.dn m' h');simp at h';subst h';exact hin
theorem CX.of{q:AD}{L:List Int}{s:Int}{i:Nat}{o:List Int}(h:WI (Dw q L) s i o){x:Int}(hx:o[i]? =some x):CX q L i x 0 o:=
 ⟨hx,fun p x' hp hx' m' hm'=>h.cl p x' hp hx' _ (mm.2 ⟨m',hm',rfl⟩),fun m' hm'=>by simp at hm'⟩
theorem aO2{α β:Type}{f:β->α->β}(L:List α)(I:Nat->β->Prop)(h:∀j m w,L[j]? =some m->I j w->I (j+1) (f w m))(w:β)(h0:I 0 w):I L.length (L.foldl f w):=by
 have key:∀(n j:Nat) (w:β),L.length-j=n->j<=L.length->I j w->I L.length ((L.drop j).foldl f w):=by
  intro n;induction n with
  |zero=>
   intro j w hn hj hI
   have:j=L.length:=by omega
   subst this
   rw[List.drop_length];exact hI
  |succ n ih=>
   intro j w hn hj hI
   obtain⟨x,hx,hd⟩:=AQ (l:=L) (i:=j) (by omega)
   rw[hd,List.foldl_cons]
   exact ih (j+1) _ (by omega) (by omega) (h j x w hx hI)
 have:=key _ 0 w rfl (Nat.zero_le _) h0;rwa [List.drop_zero]at this
abbrev FR:=List Int×List Int
def KM(q:AD)(i:Nat)(x:Int)(t:FR)(m:Int):FR:=if nx q x m∈t.1 then t else(t.1++[nx q x m],t.2++[(t.2[i]?.getD 0)+1])
theorem Mc(q:AD)(i:Nat)(x m:Int)(t:FR):(KM q i x t m).1=if nx q x m∈t.1 then t.1 else t.1++[nx q x m]:=by unfold KM;split<;>rfl
structure FI(q:AD)(L:List Int)(t:FR):Prop where
 len:t.2.length=t.1.length
 zero:t.2[0]? =some 0
 bd:∀j f,t.2[j]? =some f->∃k:Nat,f=(k:Int)/\k<=j
 par:∀j,0<j->j<t.1.length->∃pj m f,pj<j/\Par q L t.1 j pj m/\t.2[pj]? =some f/\t.2[j]? =some (f+1)
theorem FI.step{q:AD}{L:List Int}(hL:GM q L){t:FR}(h:FI q L t){i k:Nat}{x m:Int}(hc:CX q L i x k t.1)(hm:L[k]? =some m):FI q L (KM q i x t m):=by
 unfold KM;split;exact h;have hi:=B3 hc.get;have hi2:i<t.2.length:=by rw[h.len];exact hi
 obtain⟨g,hg,_⟩:=AQ hi2;have h0:=B3 h.zero;obtain⟨k0,rfl,hk0⟩:=h.bd i g hg;refine⟨by simp[h.len],by rw[List.getElem?_append_left h0];exact h.zero,fun j f hf=>?_,fun j hj0 hj=>?_⟩;by_cases hj:j<t.2.length;rw[List.getElem?_append_left hj]at hf;exact h.bd j f hf;have hj2:=B3 hf;rw[List.length_append,List.length_singleton]at hj2;have he:j=t.2.length:=by omega
 subst he;rw[List.getElem?_append_right (Nat.le_refl _),Nat.sub_self,List.getElem?_cons_zero,oe,hg]at hf;exact⟨k0+1,by rw[<-hf];simp,by omega⟩;rw[List.length_append,List.length_singleton]at hj;by_cases hjl:j<t.1.length;obtain⟨pj,m',f,a1,a2,a3,a4⟩:=h.par j hj0 hjl;exact⟨pj,m',f,a1,a2.app _,by rw[List.getElem?_append_left (B3 a3)];exact a3,by rw[List.getElem?_append_left (B3 a4)];exact a4⟩;have he:j=t.1.length:=by omega
 subst he;refine⟨i,m,(k0:Int),hi,hc.new hL hm,by rw[List.getElem?_append_left hi2];exact hg,?_⟩;rw[<-h.len,List.getElem?_append_right (Nat.le_refl _),Nat.sub_self,List.getElem?_cons_zero,hg];rfl
theorem FI.way{q:AD}{L:List Int}{t:FR}(h:FI q L t){s:Int}(h0:t.1[0]? =some s):∀(n j:Nat) y f,j<n->t.1[j]? =some y->t.2[j]? =some f->∃k:Nat,f=(k:Int)/\Way q L s k y
 |0,j,y,f,hn,_,_=>by omega
 |n+1,j,y,f,hn,hy,hf=>by
  by_cases hj:j=0;subst hj;rw[h0,oe]at hy;rw[h.zero,oe]at hf;subst hy;subst hf;exact⟨0,rfl,.nil⟩;obtain⟨pj,m,g,a1,⟨x,b1,b2,b3,_⟩,a3,a4⟩:=h.par j (by omega) (B3 hy);obtain⟨k,rfl,hw⟩:=FI.way h h0 n pj x g (by omega) b1 a3;rw[hy,oe]at b2;rw[hf,oe]at a4;subst b2;subst a4;exact⟨k+1,by simp,hw.snoc b3⟩
theorem Nw{q:AD}{i:Nat}{x:Int}:∀(l:List Int) (t:FR),(l.foldl (KM q i x) t).1=KV t.1 (Dw q l x)
 |[],_=>rfl
 |m::l,t=>by
  rw[List.foldl_cons,Nw l];show _=KV t.1 (_::Dw q l x);rw[En,Mc];rfl
theorem FI.fold{q:AD}{L:List Int}(hL:GM q L){t:FR}(h:FI q L t){i:Nat}{x:Int}(hc:CX q L i x 0 t.1):FI q L (L.foldl (KM q i x) t):=
 (aO2 L (fun k t=>FI q L t/\CX q L i x k t.1) (fun j m t hm h=>⟨h.1.step hL h.2 hm,by rw[Mc];exact h.2.step hm⟩) t ⟨h,hc⟩).1
theorem aGk{q:AD}(hF:CY q)(hR:AY q){L:List Int}(hL:GM q L)(acc:Bool)(i:Nat){x:Int}(hx:∃n:Nat,x=(n:Int)/\n<256){t:FR}(hc:CX q L i x 0 t.1)(hl:t.1.length<=1000)(hT:FI q L t):aSx acc L (i:Int) q 0 t.1 t.2=some (L.foldl (KM q i x) t):=by
 have hll:=hL.len;exact Cm (step:=fun s:Int×FR=>Iu acc L (i:Int) q s.1 s.2.1 s.2.2) L (KM q i x) id (fun j t=>CX q L i x j t.1/\t.1.length<=1000+j/\FI q L t)
  (fun j m t hj hI=>by have hjl:=B3 hj;obtain⟨hg,hn,hT⟩:=hI;have hgl:=B3 hg.get;refine⟨?_,by rw[Mc];exact hg.step hj,?_,hT.step hL hg hj⟩;obtain⟨g,hg2,_⟩:=AQ (l:=t.2) (i:=i) (by rw[hT.len];exact hgl);obtain⟨k,rfl,hk⟩:=hT.bd i g hg2;simp only[Iu,ltD hj,AG,aJr,AL hj,AL hg.get,(aEn hF hR hL hx (List.mem_of_getElem? hj)).2,aQy t.1 _ (by omega),AB,aJt,Ah hj (show L.length<=9223372036854775807 by omega)];unfold KM nx;by_cases h2:((Du q x.toNat m.toNat:Nat):Int)∈t.1;simp[h2,AE,AH];rw[if_neg h2];simp only[h2,decide_false,Bool.not_false,AG,AL hg2];rw[Ff (by simp;omega) (by decide),Ff (by simp[hT.len];omega) (by decide),AB,AB,hg2,KN (by omega)];rfl;rw[Mc];split;omega;simp;omega)
  (fun w _=>by simp only[Iu,ltI,AF];rfl) t ⟨hc,hl,hT⟩
def Nz(q:AD)(L:List Int)(acc:Bool)(s:Nat):Nat×List Int:=wlS (Dw q L) (fun x=>Ee q x==acc) 257 0 [(s:Int)]
theorem aFc{q:AD}(hR:AY q)(hS:B6 q)(L:List Int)(acc:Bool){s:Nat}(hs:s<2^q.states.length):WI (Dw q L) (s:Int) (Nz q L acc s).1 (Nz q L acc s).2/\(∀j x,j<(Nz q L acc s).1->(Nz q L acc s).2[j]? =some x->(Ee q x==acc)=false)/\((Nz q L acc s).1=(Nz q L acc s).2.length\/∃x,(Nz q L acc s).2[(Nz q L acc s).1]? =some x/\(Ee q x==acc)=true):=
 aRi (bdS hR hS hs) _ 257 0 _ WI.init (fun j x hj=>by omega) (Nat.le_refl _)
theorem aGj{q:AD}(hF:CY q)(hR:AY q)(hS:B6 q){L:List Int}(hL:GM q L){b:List X2}(he:Xq q b=some L)(acc:Bool){s:Nat}(hs:s<2^q.states.length):
 ∃r:Int,Xu q b (s:Int) acc=some r/\((Nz q L acc s).1=(Nz q L acc s).2.length/\r= -1\/∃(k:Nat) (y:Int) (far:List Int),r=(k:Int)/\FI q L ((Nz q L acc s).2,far)/\far[(Nz q L acc s).1]? =some r/\(Nz q L acc s).2[(Nz q L acc s).1]? =some y/\(Ee q y==acc)=true/\Way q L (s:Int) k y):=by
 have hb:=bdS (L:=L) hR hS hs
 have hsm:∀x,Rch (Dw q L) (s:Int) x->∃n:Nat,x=(n:Int)/\n<256:=rcS hR hS hs
 have hacc:∀{x:Int} {n:Nat},x=(n:Int)->n<256->Z9 q x=some (Ee q x):=fun{x n} e h=>by subst e;rw[Ko hF (by omega),Ee,Int.toNat_natCast]
 obtain⟨t,h,hQ⟩:=Mf hb (fun x=>Ee q x==acc) (step:=fun s:Int×List Int×List Int=>HE acc L q s.1 s.2.1 s.2.2) (fun i o st=>∃far,st=((i:Int),o,far)/\FI q L (o,far))
  (fun i o t=>(i=o.length/\t=.inl ())\/∃far r,t=.inr r/\FI q L (o,far)/\far[i]? =some r)
  (fun i x o st hI hr hx hp=>by obtain⟨far,rfl,hT⟩:=hr;have hl:=hb o hI.nd hI.rc;obtain⟨n,hn,hn2⟩:=hsm x (hI.rc x (List.mem_of_getElem? hx));have e:=aGk hF hR hL acc i ⟨n,hn,hn2⟩ (t:=(o,far)) (CX.of hI hx) (by simp only;omega) hT;have e1:=Nw (q:=q) (i:=i) (x:=x) L (o,far);have e2:=hT.fold hL (CX.of hI hx);refine⟨(((i+1:Nat):Int),L.foldl (KM q i x) (o,far)),?_,(L.foldl (KM q i x) (o,far)).2,?_,?_⟩;simp only at e;simp only[HE,ltD hx,AG,AL hx,hacc hn hn2,AB,hp,AF,e,Ah hx (show o.length<=9223372036854775807 by omega)];rw[<-e1];rw[<-e1];exact e2)
  (fun i x o st hI hr hx hp=>by obtain⟨far,rfl,hT⟩:=hr;obtain⟨n,hn,hn2⟩:=hsm x (hI.rc x (List.mem_of_getElem? hx));obtain⟨g,hg,_⟩:=AQ (l:=far) (i:=i) (by have:=hT.len;simp only at this;rw[this];exact B3 hx);exact⟨.inr g,by simp only[HE,ltD hx,AG,AL hx,hacc hn hn2,AB,hp,AL hg],.inr ⟨far,g,rfl,hT,hg⟩⟩)
  (fun o st _ hr=>by obtain⟨far,rfl,_⟩:=hr;exact⟨.inl (),by simp only[HE,ltI,AF],.inl ⟨rfl,rfl⟩⟩) 257 0 [(s:Int)] ((0:Int),[(s:Int)],[0]) WI.init
  ⟨[0],rfl,rfl,rfl,fun j f hf=>by
   have hj:j=0:=by have:=B3 hf;simp at this;omega
   subst hj;simp at hf;exact⟨0,by omega,Nat.le_refl _⟩,fun j h0 hj=>by simp at hj;omega⟩ (Nat.le_refl _)
 have h':aSw acc L q 0 [(s:Int)] [0]=some t:=h
 obtain⟨o1,o2,o3⟩:=aFc hR hS L acc hs
 unfold Xu
 rw[he,AB,h',AB]
 rcases hQ with⟨hi,rfl⟩|⟨far,r,rfl,hT,hg⟩
 exact⟨-1,rfl,.inl ⟨hi,rfl⟩⟩
 refine⟨r,rfl,.inr ?_⟩
 have hlt:(Nz q L acc s).1<(Nz q L acc s).2.length:=by have h1:=B3 hg;have h2:=hT.len;simp only at h2;rw[h2]at h1;exact h1
 rcases o3 with h|⟨y,hy,hp⟩
 omega
 obtain⟨k,hk,hw⟩:=hT.way o1.hd _ _ _ _ (Nat.lt_succ_self _) hy hg
 exact⟨k,y,far,hk,hT,hg,hy,hp,hw⟩
def SL(v:X0):Prop:=v.str.length<=4096
theorem aDr{β:Type}{Q:β->Prop}{p:Prop} [Decidable p]{k:Option β}(hp:p)(h:∃r,k=some r/\Q r):∃r,AU p k=some r/\Q r:=by rw[Aj hp];exact h
theorem aRm(a b:Int):∃r,Qu a b=some r/\True:=by unfold Qu;repeat' first|exact⟨_,rfl,trivial⟩|refine Ar (fun _=>?_) (fun _=>?_)
theorem LV(a b:Int):∃r,Qa a b=some r/\True:=by unfold Qa;repeat' first|exact⟨_,rfl,trivial⟩|refine Ar (fun _=>?_) (fun _=>?_)
theorem aRu(a b:Int):∃r,Qv a b=some r/\True:=by unfold Qv;obtain⟨r1,h1,_⟩:=LV 0 b;obtain⟨r2,h2,_⟩:=LV 0 a;repeat' first|exact⟨_,rfl,trivial⟩|refine Ar (fun _=>?_) (fun _=>?_)|refine aDr (by assumption) ?_|refine Ao h1 ?_|refine Ao h2 ?_
theorem aRp(a b:Int):∃r,Qw a b=some r/\True:=by unfold Qw;obtain⟨r2,h2,_⟩:=LV 0 a;repeat' first|exact⟨_,rfl,trivial⟩|refine Ar (fun _=>?_) (fun _=>?_)|refine EM (fun _=>?_) (fun _=>?_)|refine aDr (by assumption) ?_|refine Ao h2 ?_
theorem Fq(a:Int)(b:Bool):∃r,Qd a b=some r/\SL r.1:=by unfold Qd;exact EM (fun _=>⟨_,rfl,Nat.zero_le _⟩) (fun _=>⟨_,rfl,Nat.zero_le _⟩)
theorem M5(op a b:Int):∃r,Qb op a b=some r/\SL r.1:=by unfold Qb;obtain⟨r1,h1,_⟩:=aRm a b;obtain⟨r2,h2,_⟩:=LV a b;obtain⟨r3,h3,_⟩:=aRu a b;obtain⟨r4,h4,_⟩:=aRp a b;obtain⟨s1,k1,l1⟩:=Fq r1.1 r1.2;obtain⟨s2,k2,l2⟩:=Fq r2.1 r2.2;obtain⟨s3,k3,l3⟩:=Fq r3.1 r3.2;obtain⟨s4,k4,l4⟩:=Fq r4.1 (decide (r4.2.2=0));refine Ar (fun _=>Ao h1 (Ao k1 ⟨_,rfl,l1⟩)) (fun _=>?_);refine Ar (fun _=>Ao h2 (Ao k2 ⟨_,rfl,l2⟩)) (fun _=>?_);refine Ar (fun _=>Ao h3 (Ao k3 ⟨_,rfl,l3⟩)) (fun _=>?_);refine Ao h4 ?_;refine Ar (fun _=>⟨_,rfl,Nat.zero_le _⟩) (fun _=>?_);exact Ar (fun _=>⟨_,rfl,Nat.zero_le _⟩) (fun _=>Ao k4 ⟨_,rfl,l4⟩)
theorem aQf(op:Int){a b:X0}(ha:SL a)(hb:SL b):∃r,Q7 op a b=some r/\SL r.1:=by
 have ha':a.str.length<=4096:=ha;have hb':b.str.length<=4096:=hb;have e:AA .add .i64 (a.str.length:Int) (b.str.length:Int)=(a.str.length:Int)+(b.str.length:Int):=Mg (by omega) (by omega);have h1:=aF5 a b (by omega) (by omega);have h2:=aF5 b a (by omega) (by omega);obtain⟨r3,h3,l3⟩:=M5 9 0 a.int;obtain⟨r4,h4,l4⟩:=M5 op a.int b.int;have hc:a.str.length+b.str.length<=9223372036854775807:=by omega
 unfold Q7;simp only[Q4,AB,h1,h2,e];repeat' first|exact⟨_,rfl,Nat.zero_le _⟩|refine Ao h3 ⟨_,rfl,l3⟩|refine Ao h4 ⟨_,rfl,l4⟩|exact⟨_,rfl,by simp only[SL,List.length_append];omega⟩|refine aDr hc ?_|refine Ar (fun _=>?_) (fun _=>?_)|refine Cc (fun _=>?_) (fun _=>?_)|refine K7 (fun _=>?_) (fun _=>?_)
inductive GE(q:AD):Int->Prop
 |con {i:Int} {x:Yp}:0<=i->q.nodes[i.toNat]? =some x->x.op=1->SL x.value->GE q i
 |qua {i:Int} {x:Yp}:0<=i->q.nodes[i.toNat]? =some x->x.op=2->0<=x.a->x.a<q.quants.length->GE q i
 |fre {i:Int} {x:Yp}:0<=i->q.nodes[i.toNat]? =some x->x.op=3->0<=x.a->x.a<q.frees.length->GE q i
 |una {i:Int} {x:Yp}:0<=i->q.nodes[i.toNat]? =some x->4<=x.op->x.op<=5->x.a<i->GE q x.a->GE q i
 |bin {i:Int} {x:Yp}:0<=i->q.nodes[i.toNat]? =some x->6<=x.op->x.a<i->x.b<i->GE q x.a->GE q x.b->GE q i
theorem aV3{v:X0}(h:vR v=true):SL v:=by
 rcases Gq h with⟨_,h,_⟩|⟨_,_,_,h⟩|⟨_,_,h⟩
 unfold SL;rw[h];exact Nat.zero_le _;exact h;unfold SL;rw[h];exact Nat.zero_le _
theorem aOt(q:AD)(hq:q.nodes.length<=2048):∀(n:Nat) (i:Int) (r:Int×Int×Int),i+1<n->ZY n q i=some r->r.1≠0->GE q i:=by
 intro n;induction n with
 |zero=>intro i r _ h;cases h
 |succ n ih=>
  intro i r hin h hr
  have h:ZX (ZY n) q i=some r:=h
  unfold ZX at h
  rcases iS h with⟨_,h⟩|⟨hi0,h⟩
  cases h;exact absurd rfl hr
  rcases iS h with⟨_,h⟩|⟨hi1,h⟩
  cases h;exact absurd rfl hr
  have hi0:=of_decide_eq_false hi0
  have hi1:=of_decide_eq_false hi1
  obtain⟨x,hx,_⟩:=Hu (l:=q.nodes) (i:=i) (by omega) (by omega)
  rw[B5 hx (by omega),TJ (by omega) (by omega)]at h
  have hi:0<=i:=by omega
  rcases iS h with⟨h1,h⟩|⟨_,h⟩
  rcases iS h with⟨_,h⟩|⟨_,h⟩
  cases h;exact absurd rfl hr
  rcases iS h with⟨_,h⟩|⟨_,h⟩
  cases h;exact absurd rfl hr
  rw[aA0,AB]at h
  rcases iS h with⟨_,h⟩|⟨hv,h⟩
  cases h;exact absurd rfl hr
  exact .con hi hx (of_decide_eq_true h1) (aV3 (by simpa using hv))
  rcases iS h with⟨_,h⟩|⟨_,h⟩
  cases h;exact absurd rfl hr
  rcases iS h with⟨h2,h⟩|⟨_,h⟩
  rcases iS h with⟨_,h⟩|⟨g1,h⟩
  cases h;exact absurd rfl hr
  rcases iS h with⟨_,h⟩|⟨g2,h⟩
  cases h;exact absurd rfl hr
  have g1:=of_decide_eq_false g1
  have g2:=of_decide_eq_false g2
  exact .qua hi hx (of_decide_eq_true h2) (by omega) (by omega)
  rcases iS h with⟨h2,h⟩|⟨_,h⟩
  rcases iS h with⟨_,h⟩|⟨g1,h⟩
  cases h;exact absurd rfl hr
  rcases iS h with⟨_,h⟩|⟨g2,h⟩
  cases h;exact absurd rfl hr
  have g1:=of_decide_eq_false g1
  have g2:=of_decide_eq_false g2
  exact .fre hi hx (of_decide_eq_true h2) (by omega) (by omega)
  rcases iS h with⟨_,h⟩|⟨h4,h⟩
  cases h;exact absurd rfl hr
  rcases iS h with⟨_,h⟩|⟨_,h⟩
  cases h;exact absurd rfl hr
  have h4:=of_decide_eq_false h4
  obtain⟨r5,h5,h⟩:=bS h
  rcases iS h with⟨h5',h⟩|⟨h5',h⟩
  have h5':=of_decide_eq_true h5'
  rcases iS h with⟨_,h⟩|⟨k5,h⟩
  cases h;exact absurd rfl hr
  rcases iS h with⟨_,h⟩|⟨ka,h⟩
  cases h;exact absurd rfl hr
  have ka:x.a=i-1:=by simpa using ka
  have k5:=of_decide_eq_false k5
  exact .una hi hx (by omega) h5' (by omega) (by rw[ka];exact ih _ _ (by omega) h5 k5)
  have h5':=of_decide_eq_false h5'
  rcases iS h with⟨_,h⟩|⟨k5,h⟩
  cases h;exact absurd rfl hr
  rcases iS h with⟨_,h⟩|⟨kb,h⟩
  cases h;exact absurd rfl hr
  rcases iS h with⟨_,h⟩|⟨ka,h⟩
  cases h;exact absurd rfl hr
  have k5:=of_decide_eq_false k5
  obtain⟨r5',f5,p5⟩:=QT q hq n (i-1) (by omega) (by omega) (by omega)
  rw[h5,oe]at f5
  subst f5
  have hp:=p5 k5
  rw[TJ (by omega) (by omega)]at h ka
  have kb:x.b=i-1:=by simpa using kb
  have ka:x.a=r5.2.2-1:=by simpa using ka
  obtain⟨r7,h7,h⟩:=bS h
  obtain⟨r8,h8,p8⟩:=aR0 x.op r7.1 r5.1
  rw[h8,AB,oe]at h
  subst h
  exact .bin hi hx (by omega) (by omega) (by omega) (by rw[ka];exact ih _ _ (by omega) h7 (p8 hr)) (by rw[kb];exact ih _ _ (by omega) h5 k5)
def VL(q:AD)(vals:List X0):Prop:=vals.length=q.frees.length/\∀v∈vals,SL v
theorem zSL:SL (X0.mk 0 0 ([]:List UInt8) false):=Nat.zero_le _
theorem Mv{q:AD}{b:List X2}(hb:b.length<=1000)(hbs:∀s∈b,SL s.value){vals:List X0}(hv:VL q vals):∀(n:Nat) (i:Int),GE q i->i<n->∃r,aWb n q i b vals=some r/\SL r.1:=by
 intro n;induction n with
 |zero=>intro i h hi;cases h<;>omega
 |succ n ih=>
  intro i h hi
  show∃r,aYe (aWb n) q i b vals=some r/\_
  unfold aYe
  have hget:∀{k:Int},SL (D9 b k).1:=fun{k}=>by unfold D9;split;rename_i v hv;obtain⟨s,hs,he⟩:=List.exists_of_findSome?_eq_some hv;split at he;cases he;exact hbs s hs;cases he;exact Nat.zero_le _
  cases h with
  |con h0 hx h1 h2=>rw[B5 hx h0,decide_eq_true h1];exact⟨_,rfl,h2⟩
  |qua h0 hx h1 h2 h3=>
   rw[B5 hx h0,h1]
   obtain⟨y,hy,_⟩:=Hu h2 h3
   rw[ZI _ _ (by omega),AB]
   refine Ar (fun h=>by omega) (fun _=>?_)
   refine Ar (fun _=>?_) (fun h=>absurd rfl h)
   refine EM (fun _=>⟨_,rfl,zSL⟩) (fun _=>?_)
   rw[B5 hy h2]
   exact Cc (fun _=>⟨_,rfl,zSL⟩) (fun _=>⟨_,rfl,hget⟩)
  |fre h0 hx h1 h2 h3=>
   rw[B5 hx h0,h1]
   obtain⟨y,hy,_⟩:=Hu (l:=vals) h2 (by rw[hv.1];exact h3)
   rw[B5 hy h2]
   exact⟨_,rfl,hv.2 y (List.mem_of_getElem? hy)⟩
  |una h0 hx h1 h2 h3 h4=>
   rename_i x
   rw[B5 hx h0]
   obtain⟨r,hr,hl⟩:=ih x.a h4 (by omega)
   obtain⟨r2,hr2,hl2⟩:=aQf x.op hl zSL
   refine Ar (fun h=>by omega) (fun _=>?_)
   refine Ar (fun h=>by omega) (fun _=>?_)
   refine Ar (fun h=>by omega) (fun _=>?_)
   refine Ao hr ?_
   refine Cc (fun _=>⟨_,rfl,zSL⟩) (fun _=>?_)
   exact Ar (fun _=>Ao hr2 ⟨_,rfl,hl2⟩) (fun h=>absurd h2 h)
  |bin h0 hx h1 h2 h3 h4 h5=>
   rename_i x
   rw[B5 hx h0]
   obtain⟨r,hr,hl⟩:=ih x.a h4 (by omega)
   obtain⟨s,hs,hm⟩:=ih x.b h5 (by omega)
   obtain⟨r2,hr2,hl2⟩:=aQf x.op hl hm
   refine Ar (fun h=>by omega) (fun _=>?_)
   refine Ar (fun h=>by omega) (fun _=>?_)
   refine Ar (fun h=>by omega) (fun _=>?_)
   refine Ao hr ?_
   refine Cc (fun _=>⟨_,rfl,zSL⟩) (fun _=>?_)
   refine Ar (fun h=>by omega) (fun _=>?_)
   repeat' first|exact⟨_,rfl,zSL⟩|exact⟨_,rfl,hl⟩|exact⟨_,rfl,hl2⟩|refine Ao hs ?_|refine Ao hr2 ?_|refine Ar (fun _=>?_) (fun _=>?_)|refine Cc (fun _=>?_) (fun _=>?_)|refine K7 (fun _=>?_) (fun _=>?_)|refine EM (fun _=>?_) (fun _=>?_)
theorem Td{q:AD}(hq:q.nodes.length<=2048){f i:Int}{r:Int×Int}(h:Qi q f i=some r)(hr:r.1≠0):GE q i:=by
 unfold Qi at h;obtain⟨r1,h1,h⟩:=bS h;have hr1:r1.1≠0:=by
  rcases iS h with⟨_,h⟩|⟨g,_⟩
  cases h;exact absurd rfl hr;exact of_decide_eq_false g
 by_cases hi:i+1<(100000:Nat);exact aOt q hq 100000 i r1 hi h1 hr1;have h1:ZX (ZY 99999) q i=some r1:=h1;unfold ZX at h1;rw[decide_eq_false (by omega),AF,decide_eq_true (by omega),AG]at h1;cases h1;exact absurd rfl hr1
theorem GE.lt{q:AD}{i:Int}(h:GE q i):i<q.nodes.length:=by
 cases h with
 |con h0 hx=>have:=B3 hx;omega
 |qua h0 hx=>have:=B3 hx;omega
 |fre h0 hx=>have:=B3 hx;omega
 |una h0 hx=>have:=B3 hx;omega
 |bin h0 hx=>have:=B3 hx;omega
def aFz(q:AD)(t:X6):Prop:=(t.guard<0\/GE q t.guard)/\∀s∈t.sets,GE q s.expr/\0<=s.free/\s.free<q.frees.length
theorem TM{q:AD}(hF:CY q){t:X6}(hts:t.sets.length<=12){f r:Int}(h:Xn q t f=some (r,true)):aFz q t:=by
 have hq:q.nodes.length<=2048:=by have:=hF.nodes;omega
 unfold Xn at h;rcases iS h with⟨_,h⟩|⟨_,h⟩
 cases h;rcases iS h with⟨_,h⟩|⟨_,h⟩
 cases h;rcases iS h with⟨_,h⟩|⟨_,h⟩
 cases h;rcases iS h with⟨_,h⟩|⟨_,h⟩
 cases h;rcases iS h with⟨_,h⟩|⟨_,h⟩
 cases h;rcases iS h with⟨_,h⟩|⟨_,h⟩
 cases h;obtain⟨o2,h2,h⟩:=bS h;rcases AJ h with⟨o3,rfl,h⟩|⟨o4,_,h⟩
 obtain⟨o12,h12,h⟩:=bS h;rcases AJ h with⟨o13,rfl,_⟩|⟨o14,_,h⟩
 refine⟨?_,?_⟩;unfold SC at h2;rcases iS h2 with⟨_,h2⟩|⟨hg,_⟩
 obtain⟨r1,hk,h2⟩:=bS h2;rcases iS h2 with⟨_,h2⟩|⟨h3,_⟩
 cases h2;have h3:r1.1=3:=by simpa using h3
 exact .inr (Td hq hk (by omega));have:t.guard= -1:=by simpa using hg
 exact .inl (by omega);obtain⟨s',⟨j,hj,hall⟩,hs⟩:=J7 (step:=fun s:Int×Int=>EH f q t s.1 s.2) (I:=fun s=>∃j:Nat,s.2=(j:Int)/\∀k x,k<j->t.sets[k]? =some x->GE q x.expr/\0<=x.free/\x.free<q.frees.length)
  (by
   rintro⟨a,b⟩ s' ⟨j,rfl,hall⟩ hs;simp only at hs;unfold EH at hs;rcases iS hs with⟨hlt,hs⟩|⟨_,hs⟩
   have hlt:j<t.sets.length:=by have:=of_decide_eq_true hlt;omega
   obtain⟨x,hx,_⟩:=AQ hlt;rw[AL hx]at hs;obtain⟨r6,hk,hs⟩:=bS hs;rcases iS hs with⟨_,hs⟩|⟨g1,hs⟩
   cases hs;rcases iS hs with⟨_,hs⟩|⟨g2,hs⟩
   cases hs;rcases iS hs with⟨_,hs⟩|⟨g3,hs⟩
   cases hs;rcases iS hs with⟨_,hs⟩|⟨_,hs⟩
   cases hs;have g1:=of_decide_eq_false g1;have g2:=of_decide_eq_false g2;obtain⟨y,hy,_⟩:=Hu (l:=q.frees) (i:=x.free) (by omega) (by omega);rw[B5 hy (by omega)]at hs;rcases iS hs with⟨_,hs⟩|⟨_,hs⟩
   cases hs;obtain⟨o9,_,hs⟩:=bS hs;rcases AJ hs with⟨_,_,hs⟩|⟨_,_,hs⟩
   cases hs;refine⟨j+1,by simp only;rw[KN (by omega)],fun k z hk' hz=>?_⟩;by_cases hkj:k=j;subst hkj;rw[hx,oe]at hz;subst hz;exact⟨Td hq hk (of_decide_eq_false g3),by omega,by omega⟩;exact hall k z (by omega) hz;cases hs;cases hs) (s:=(o3,(0:Int))) ⟨0,rfl,fun k x hk=>by omega⟩ h12
 have hs:EH f q t s'.1 s'.2=some (.inr (.inl o13)):=hs;unfold EH at hs;rw[hj]at hs;rcases iS hs with⟨hlt,hs⟩|⟨hge,_⟩
 have hlt:j<t.sets.length:=by have:=of_decide_eq_true hlt;omega
 obtain⟨x,hx,_⟩:=AQ hlt;rw[AL hx]at hs;obtain⟨r6,hk,hs⟩:=bS hs;rcases iS hs with⟨_,hs⟩|⟨g1,hs⟩
 cases hs;rcases iS hs with⟨_,hs⟩|⟨g2,hs⟩
 cases hs;rcases iS hs with⟨_,hs⟩|⟨g3,hs⟩
 cases hs;rcases iS hs with⟨_,hs⟩|⟨_,hs⟩
 cases hs;have g1:=of_decide_eq_false g1;have g2:=of_decide_eq_false g2;obtain⟨y,hy,_⟩:=Hu (l:=q.frees) (i:=x.free) (by omega) (by omega);rw[B5 hy (by omega)]at hs;rcases iS hs with⟨_,hs⟩|⟨_,hs⟩
 cases hs;obtain⟨o9,_,hs⟩:=bS hs;rcases AJ hs with⟨_,_,hs⟩|⟨_,_,hs⟩<;>cases hs
 have hge:=of_decide_eq_false hge;intro s hsm;obtain⟨k,hk⟩:=List.mem_iff_getElem?.1 hsm;exact hall k s (by have:=B3 hk;omega) hk;cases h;cases h
theorem AY.good{q:AD}(hF:CY q)(hR:AY q){t:X6}(ht:t∈q.trans):aFz q t:=by obtain⟨f,r,h⟩:=hR.fires t ht;exact TM hF (hF.sets t ht) h
def CR(q:AD)(c:X3):Prop:=(0<=c.state/\c.state<q.states.length)/\VL q c.vals
theorem CR.cw{q:AD}(hF:CY q){c:X3}(h:CR q c):CW c:=by have h1:=hF.frees;have h2:=h.2.1;exact⟨by omega,fun v hv=>by have:v.str.length<=4096:=h.2.2 v hv;omega⟩
structure HR(q:AD)(h:Ad):Prop where
 bind:h.bind.length<=1000
 bs:∀s∈h.bind,SL s.value
 fl:h.frees.length<=1000
 fs:∀s∈h.frees,(0<=s.var/\s.var<q.frees.length)/\SL s.value
theorem aO3{q:AD}(hF:CY q){vals:List X0}(hv:VL q vals){l:List X2}(hl:l.length<=1000)(hs:∀s∈l,(0<=s.var/\s.var<q.frees.length)/\SL s.value):∃r,Z4 vals l=some r/\VL q r:=by
 have hfr:=hF.frees;obtain⟨o,ho,hQ⟩:=Ap (step:=fun s:Int×List X0=>HN l s.1 s.2) (fun s=>∃i:Nat,s.1=(i:Int)/\i<=l.length/\VL q s.2) (fun s=>(l.length-s.1).toNat) (fun o=>VL q o)
  (by
   rintro⟨n,w⟩ ⟨i,rfl,hi,hw⟩;simp only at hw;by_cases he:i=l.length;subst he;exact .inl ⟨w,by simp only[HN,ltI,AF],hw⟩;obtain⟨x,hx,_⟩:=AQ (l:=l) (i:=i) (by omega);obtain⟨hv,hsl⟩:=hs x (List.mem_of_getElem? hx);have hc:0<=x.var/\x.var+1<=(w.length:Int):=by rw[hw.1];omega
   refine .inr ⟨(((i+1:Nat):Int),w.set x.var.toNat x.value),by simp only[HN,ltD hx,AG,AL hx,Aj hc,Ah hx (show l.length<=9223372036854775807 by omega)],⟨i+1,rfl,by omega,by simp[hw.1],fun v hv=>?_⟩,by simp only;omega⟩;rcases List.mem_or_eq_of_mem_set hv with h|rfl
   exact hw.2 v h;exact hsl)
  ((0:Int),vals) ⟨0,rfl,by omega,hv⟩
 have ho':aNf l 0 vals=some o:=ho;have h1:=hv.1;unfold Z4;rw[Ff (by simp;omega) (by decide),ho',AB];exact⟨o,rfl,hQ⟩
theorem Ta{q:AD}(hq:q.nodes.length<=2048){ti:Nat}{t:X6}(ht:q.trans[ti]? =some t)(hg:aFz q t){b:List X2}(hb:b.length<=1000)(hbs:∀s∈b,SL s.value){vals:List X0}(hv:VL q vals):∃r,U0 q (ti:Int) b vals=some r:=by
 unfold U0;rw[AL ht];refine KQ (Ar (fun _=>⟨_,rfl,trivial⟩) (fun h=>?_));rcases hg.1 with h'|h'
 exact absurd h' h;obtain⟨r,hr,_⟩:=Mv hb hbs hv 100000 t.guard h' (by have:=h'.lt;omega);exact Ao hr ⟨_,rfl,trivial⟩
theorem aGg{q:AD}(hF:CY q){ti:Nat}{t:X6}(ht:q.trans[ti]? =some t)(hg:aFz q t){b:List X2}(hb:b.length<=1000)(hbs:∀s∈b,SL s.value){vals:List X0}(hv:VL q vals):∃r,Z5 q (ti:Int) b vals=some r/\(r.2=0->VL q r.1):=by
 have hfr:=hF.frees;have hts:=hF.sets t (List.mem_of_getElem? ht);have hnd:=hF.nodes;obtain⟨o,ho,hQ⟩:=Ap (step:=fun s:Int×List X0=>HO b t.sets vals q s.1 s.2) (fun s=>∃i:Nat,s.1=(i:Int)/\i<=t.sets.length/\VL q s.2) (fun s=>(t.sets.length-s.1).toNat) (fun o=>(∃w,o=.inl w/\VL q w)\/∃e,o=.inr e/\e≠0)
  (by
   rintro⟨n,w⟩ ⟨i,rfl,hi,hw⟩;simp only at hw;by_cases he:i=t.sets.length;subst he;exact .inl ⟨.inl w,by simp only[HO,ltI,AF],.inl ⟨w,rfl,hw⟩⟩;obtain⟨x,hx,_⟩:=AQ (l:=t.sets) (i:=i) (by omega);obtain⟨hge,hf0,hf1⟩:=hg.2 x (List.mem_of_getElem? hx);obtain⟨r,hr,hrl⟩:=Mv hb hbs hv 100000 x.expr hge (by have:=hge.lt;omega);have hr':Zw q x.expr b vals=some r:=hr;have hc:0<=x.free/\x.free+1<=(w.length:Int):=by rw[hw.1];omega
   simp only[HO,ltD hx,AG,AL hx,hr',AB,Aj hc,Ah hx (show t.sets.length<=9223372036854775807 by omega)];by_cases h0:r.2=0;rw[decide_eq_true h0,Bool.not_true,AF];refine .inr ⟨_,rfl,⟨i+1,rfl,by omega,by simp[hw.1],fun v hv=>?_⟩,by simp only;omega⟩;rcases List.mem_or_eq_of_mem_set hv with h|rfl
   exact hw.2 v h;exact hrl;rw[decide_eq_false h0,Bool.not_false,AG];exact .inl ⟨_,rfl,.inr ⟨r.2,rfl,h0⟩⟩)
  ((0:Int),vals) ⟨0,rfl,by omega,hv⟩
 have ho':aNh b t.sets vals q 0 vals=some o:=ho;have h1:=hv.1;unfold Z5;rw[Ff (by simp;omega) (by decide),AL ht,ho',AB];rcases hQ with⟨w,rfl,hw⟩|⟨e,rfl,he⟩
 exact⟨_,rfl,fun _=>hw⟩;exact⟨_,rfl,fun h=>absurd h he⟩
theorem aDs{q:AD}(hF:CY q)(hR:AY q){ti:Nat}{t:X6}(ht:q.trans[ti]? =some t){c:X3}(hc:CR q c){h:Ad}(hh:HR q h):∃r,U1 q (ti:Int) c h=some r/\(r.2.1=true->CR q r.1/\r.1.state=t.to):=by have hg:=hR.good hF (List.mem_of_getElem? ht);have hte:=(hR.ends t (List.mem_of_getElem? ht)).2.2;obtain⟨vals,h1,hv⟩:=aO3 hF hc.2 hh.fl hh.fs;obtain⟨g,h2⟩:=Ta (by have:=hF.nodes;omega) ht hg hh.bind hh.bs hv;obtain⟨s,h3,hs⟩:=aGg hF ht hg hh.bind hh.bs hv;unfold U1;refine Ao h1 (Ao h2 ?_);refine Cc (fun _=>⟨_,rfl,fun h=>by cases h⟩) (fun _=>?_);refine EM (fun _=>⟨_,rfl,fun h=>by cases h⟩) (fun _=>?_);refine Ao h3 ?_;refine Cc (fun _=>⟨_,rfl,fun h=>by cases h⟩) (fun h0=>?_);rw[AL ht];exact⟨_,rfl,fun _=>⟨⟨hte,hs h0⟩,rfl⟩⟩
theorem Rr(a b:Int):∃r,Qt a b=some r/\(r=0->a=0/\b=0):=by unfold Qt;refine Ar (fun h=>⟨_,rfl,fun h2=>⟨h,h2⟩⟩) (fun h=>?_);refine Cc (fun h1=>?_) (fun _=>⟨_,rfl,fun h2=>absurd h2 h⟩);exact Ar (fun _=>⟨_,rfl,fun h2=>absurd h2 h1⟩) (fun _=>⟨_,rfl,fun h2=>absurd h2 h⟩)
structure aWp(w r:List X3)(c:X3):Prop where
 of:∀x∈r,x=c\/x∈w
 sub:∀x∈w,x∈r
 st:∃y∈r,y.state=c.state
 len:r.length<=w.length+1
theorem aPv{w:List X3}{c:X3}{k:Nat}(hk:k<=w.length):aWp w (w.take k++[c]++w.drop k) c:=by have hmid:=PO (n:=0) (w:=w) (c:=c) k hk;exact⟨fun x hx=>(hmid.1 x).1 hx,fun x hx=>(hmid.1 x).2 (.inr hx),⟨c,(hmid.1 c).2 (.inl rfl),rfl⟩,hmid.2⟩
theorem Tj{a b:X3}(h:Qc a b=some true):a.state=b.state:=by
 by_cases e:a.state=b.state;exact e;exfalso;unfold Qc Yd at h;rw[decide_eq_false e,decide_eq_false (show¬b.state=a.state from fun h=>e h.symm)]at h;simp only[Bool.not_false,AG,AB]at h;by_cases h1:a.state<b.state;simp[h1,AE]at h;have h2:b.state<a.state:=by omega
 simp[h1,h2,AE]at h
theorem Pa{w:List X3}{c:X3}(hw:∀x∈w,CW x)(hc:CW c)(hl:w.length<=100000):(∃r,Y6 w c=some r/\aWp w r c)/\∃r,Yo c w=some r/\aWp w r c:=by
 obtain⟨k,hk,h1⟩:=Kp hw hc hl;have h2:Mw w c (w.length:Int)=some (k:Int):=by
  rw[<-h1];suffices∀i:Nat,i<=w.length->Mw w c (i:Int)=Lf w c (i:Int)from this _ (Nat.le_refl _)
  intro i;induction i with
  |zero=>intro _;rw[GN,Et];simp[FF,Eb,AE,B1]
  |succ i ih=>
   intro hi
   obtain⟨x,hx,_⟩:=AQ (l:=w) (i:=i) (by omega)
   obtain⟨r,hL⟩:=H6 hc (hw x (List.mem_of_getElem? hx))
   have hs:AA .sub .i64 ((i+1:Nat):Int) 1=(i:Int):=by rw[TK (by omega) (by omega)];simp
   have hpos:decide ((0:Int)<((i+1:Nat):Int))=true:=decide_eq_true (by omega)
   rw[GN,Et]
   simp only[FF,Eb,hpos,AG,hs,Aj (show(0:Int)<=(i:Int)/\(i:Int)+1<=(w.length:Int) by omega),AL hx,hL,AB]
   cases r
   rfl
   exact ih (by omega)
 have hm:∃r,some (w.take k++[c]++w.drop k)=some r/\aWp w r c:=⟨_,rfl,aPv hk⟩;unfold Y6 Yo;rw[h1,h2,AB,AB,Gk,Gj];have e1:∀{β:Type} (v:Option β),AU ((0:Int)<=0/\(0:Int)<=(k:Int)/\(k:Int)<=(w.length:Int)) v=v:=fun v=>Aj (by omega) v;have e2:∀{β:Type} (v:Option β),AU ((0:Int)<=(k:Int)/\(k:Int)<=(w.length:Int)/\(w.length:Int)<=(w.length:Int)) v=v:=fun v=>Aj (by omega) v;have e3:∀{β:Type} (v:Option β),AU (fit ([]:List X3).length (w.take k).length 32) v=v:=fun v=>Ff (by simp;omega) (by decide) v;have e4:∀{β:Type} (v:Option β),AU (fit (w.take k).length [c].length 32) v=v:=fun v=>Ff (by simp;omega) (by decide) v;have e5:∀{β:Type} (v:Option β),AU (fit (w.take k++[c]).length (w.drop k).length 32) v=v:=fun v=>Ff (by simp;omega) (by decide) v;simp only[List.nil_append,e1,e2,e3,e4,e5];by_cases h0:0<k;obtain⟨x,hx,_⟩:=AQ (l:=w) (i:=k-1) (by omega);have hxm:=List.mem_of_getElem? hx;obtain⟨r,hO⟩:=Tk (hw x hxm) hc;have e6:∀{β:Type} (v:Option β),AU ((0:Int)<=((k-1:Nat):Int)/\((k-1:Nat):Int)+1<=(w.length:Int)) v=v:=fun v=>Aj (by omega) v;rw[decide_eq_true (show(0:Int)<(k:Int) by omega),AG,AG,TK h0 (by omega),e6];simp only[AL hx,hO,AB];cases r;exact⟨hm,hm⟩;have hK:aWp w w c:=⟨fun x h=>.inr h,fun x h=>h,⟨x,hxm,Tj hO⟩,by omega⟩;exact⟨⟨w,rfl,hK⟩,⟨w,rfl,hK⟩⟩;rw[decide_eq_false (by omega),AF,AF];exact⟨hm,hm⟩
def stS(q:AD)(s s':Int):Prop:=(∃t∈q.trans,t.from_=s/\t.to=s')\/s'=s
def aF0(q:AD)(s:Int):Prop:=∃st,q.states[s.toNat]? =some st/\st.next=false
def Fr(q:AD)(c x:X3):Prop:=CR q x/\stS q c.state x.state
theorem Rw{q:AD}(hF:CY q)(hR:AY q){l:List Ad}(hl:∀h∈l,HR q h)(hll:l.length<=12){ti:Nat}{t:X6}(ht:q.trans[ti]? =some t){c:X3}(hc:CR q c)(hf:t.from_=c.state)(b:Int){w0:List X3}(hw0:∀x∈w0,Fr q c x)(hwl:w0.length<=1000):
 ∃r,aH1 l (ti:Int) q c b 0 w0=some r/\(∀x∈r.2,Fr q c x)/\r.2.length<=w0.length+l.length:=by
 obtain⟨o,ho,h1,h2⟩:=Ap (step:=fun s:Int×Int×List X3=>E6 l (ti:Int) q c s.1 s.2.1 s.2.2) (fun s=>∃i:Nat,s.2.1=(i:Int)/\i<=l.length/\(∀x∈s.2.2,Fr q c x)/\s.2.2.length<=w0.length+i) (fun s=>(l.length-s.2.1).toNat) (fun o=>(∀x∈o.2,Fr q c x)/\o.2.length<=w0.length+l.length)
  (by
   rintro⟨a,n,w⟩ ⟨i,rfl,hi,hw,hlen⟩;simp only at hw hlen;by_cases he:i=l.length;subst he;exact .inl ⟨(a,w),by simp only[E6,ltI,AF],hw,hlen⟩;obtain⟨h,hh,_⟩:=AQ (l:=l) (i:=i) (by omega);obtain⟨r5,h5,p5⟩:=aDs hF hR ht hc (hl h (List.mem_of_getElem? hh));obtain⟨r6,h6,_⟩:=Rr a r5.2.2;simp only[E6,ltD hh,AG,Vb,Vc,AL hh,AL ht,h5,h6,AB,Ah hh (show l.length<=9223372036854775807 by omega)];by_cases hs:h.symbol=t.symbol;rw[decide_eq_true hs,Bool.not_true,AF];cases hb:r5.2.1 with
   |false=>exact .inr ⟨(r6,((i+1:Nat):Int),w),rfl,⟨i+1,rfl,by omega,hw,by simp only;omega⟩,by simp only;omega⟩
   |true=>
    obtain⟨g1,g2⟩:=p5 hb
    obtain⟨r7,h7,hK⟩:=(Pa (w:=w) (c:=r5.1) (fun x hx=>(hw x hx).1.cw hF) (g1.cw hF) (by omega)).2
    have hKl:=hK.len
    rw[AG,h7]
    refine .inr ⟨(r6,((i+1:Nat):Int),r7),rfl,⟨i+1,rfl,by omega,fun x hx=>?_,by simp only;omega⟩,by simp only;omega⟩
    rcases hK.of x hx with rfl|h
    exact⟨g1,.inl ⟨t,List.mem_of_getElem? ht,hf,g2.symm⟩⟩
    exact hw x h
   rw[decide_eq_false hs,Bool.not_false,AG];exact .inr ⟨(a,((i+1:Nat):Int),w),rfl,⟨i+1,rfl,by omega,hw,by simp only;omega⟩,by simp only;omega⟩)
  (b,(0:Int),w0) ⟨0,rfl,by omega,hw0,by simp⟩
 exact⟨o,ho,h1,h2⟩
theorem aF1{q:AD}(hF:CY q)(hR:AY q){l:List Ad}(hl:∀h∈l,HR q h)(hll:l.length<=12){c:X3}(hc:CR q c):
 ∃r,Xg q c l=some r/\r.1.length<=145/\(∀x∈r.1,Fr q c x)/\(r.2=0->aF0 q c.state->∃x,x∈r.1):=by
 have htl:=hF.trans
 obtain⟨o,ho,h1,h2⟩:=Ap (step:=fun s:Int×Int×List X3=>E5 l q c s.1 s.2.1 s.2.2) (fun s=>∃i:Nat,s.2.1=(i:Int)/\i<=q.trans.length/\(∀x∈s.2.2,Fr q c x)/\s.2.2.length<=12*i) (fun s=>(q.trans.length-s.2.1).toNat) (fun o=>(∀x∈o.2,Fr q c x)/\o.2.length<=144)
  (by rintro⟨a,n,w⟩ ⟨i,rfl,hi,hw,hlen⟩;simp only at hw hlen;by_cases he:i=q.trans.length;subst he;exact .inl ⟨(a,w),by simp only[E5,ltI,AF],hw,by simp only;omega⟩;obtain⟨t,ht,_⟩:=AQ (l:=q.trans) (i:=i) (by omega);simp only[E5,ltD ht,AG,Va,AL ht,Ah ht (show q.trans.length<=9223372036854775807 by omega)];by_cases hf:t.from_=c.state;obtain⟨r,hr,g1,g2⟩:=Rw hF hR hl hll ht hc hf a hw (by omega);rw[decide_eq_true hf,Bool.not_true,AF,hr];exact .inr ⟨(r.1,((i+1:Nat):Int),r.2),rfl,⟨i+1,rfl,by omega,g1,by simp only;omega⟩,by simp only;omega⟩;rw[decide_eq_false hf,Bool.not_false,AG];exact .inr ⟨(a,((i+1:Nat):Int),w),rfl,⟨i+1,rfl,by omega,hw,by simp only;omega⟩,by simp only;omega⟩)
  ((0:Int),(0:Int),[]) ⟨0,rfl,by omega,by simp,by simp⟩
 have ho':aHz l q c 0 0 []=some o:=ho
 unfold Xg
 refine Ao ho' ?_
 refine Cc (fun h=>⟨_,rfl,Nat.zero_le _,(fun x hx=>by cases hx),fun h2=>absurd h2 h⟩) (fun h0=>?_)
 refine Ar (fun hz=>?_) (fun hz=>?_)
 obtain⟨st,hst,_⟩:=Hu (l:=q.states) hc.1.1 hc.1.2
 have hnil:o.2=[]:=List.eq_nil_of_length_eq_zero (by omega)
 rw[B5 hst hc.1.1,hnil]
 cases hn:st.next with
 |false=>
  refine⟨([c],0),?_,by simp,fun x hx=>?_,fun _ _=>⟨c,by simp⟩⟩
  simp only[R8,Bool.not_false,AG]
  rw[Ff (by simp) (by decide)]
  rfl
  simp only[List.mem_singleton]at hx
  subst hx;exact⟨hc,.inr rfl⟩
 |true=>
  refine⟨([],0),rfl,by simp,(fun x hx=>by cases hx),fun _ hN=>?_⟩
  obtain⟨st',hst',hn'⟩:=hN
  rw[hst,oe]at hst'
  subst hst';rw[hn]at hn';cases hn'
 refine⟨(o.2,0),rfl,by simp only;omega,h1,fun _ _=>?_⟩
 cases ho2:o.2 with
 |nil=>rw[ho2]at hz;simp at hz
 |cons y l=>exact⟨y,by simp⟩
theorem Ru{q:AD}(s1:List X3)(s2:List Ad)(s9 s10:Int){r:List X3}(hr:∀x∈r,CW x)(hrl:r.length<=145){w0:List X3}(hw:∀x∈w0,CW x)(hl:w0.length<=90000):
 ∃w,aJp s1 s2 s9 s10 r q w0 0=some w/\w.length<=w0.length+r.length/\(∀x∈w,x∈w0\/x∈r)/\(∀x∈w0,x∈w)/\∀x∈r,∃y∈w,y.state=x.state:=by
 obtain⟨o,ho,h1,h2,h3,h4⟩:=Ap (step:=fun s:List X3×Int=>E8 s1 s2 s9 s10 r q s.1 s.2) (fun s=>∃i:Nat,s.2=(i:Int)/\i<=r.length/\s.1.length<=w0.length+i/\(∀x∈s.1,x∈w0\/x∈r)/\(∀x∈w0,x∈s.1)/\∀x∈r.take i,∃y∈s.1,y.state=x.state) (fun s=>(r.length-s.2).toNat)
  (fun w=>w.length<=w0.length+r.length/\(∀x∈w,x∈w0\/x∈r)/\(∀x∈w0,x∈w)/\∀x∈r,∃y∈w,y.state=x.state)
  (by
   rintro⟨w,n⟩ ⟨i,rfl,hi,a1,a2,a3,a4⟩;simp only at a1 a2 a3 a4;by_cases he:i=r.length;subst he;rw[List.take_length]at a4;exact .inl ⟨w,by simp only[E8,ltI,AF],a1,a2,a3,a4⟩;obtain⟨y,hy,_⟩:=AQ (l:=r) (i:=i) (by omega);have hym:=List.mem_of_getElem? hy;obtain⟨r2,hr2,hK⟩:=(Pa (w:=w) (c:=y) (fun x hx=>(a2 x hx).elim (hw x) (hr x)) (hr y hym) (by omega)).1;have hKl:=hK.len;refine .inr ⟨(r2,((i+1:Nat):Int)),by simp only[E8,ltD hy,AG,AL hy,hr2,AB,Ah hy (show r.length<=9223372036854775807 by omega)],⟨i+1,rfl,by omega,by simp only;omega,fun x hx=>?_,fun x hx=>hK.sub x (a3 x hx),fun x hx=>?_⟩,by simp only;omega⟩;rcases hK.of x hx with rfl|h
   exact .inr hym;exact a2 x h;rw[List.take_add_one,hy]at hx;rcases ma.1 hx with h|h
   obtain⟨z,hz,e⟩:=a4 x h;exact⟨z,hK.sub z hz,e⟩;simp at h;subst h;exact hK.st)
  (w0,(0:Int)) ⟨0,rfl,by omega,by simp,fun x hx=>.inl hx,fun x hx=>hx,fun x hx=>by simp at hx⟩
 exact⟨o,ho,h1,h2,h3,h4⟩
structure Rz(q:AD)(set nxt:List X3):Prop where
 len:nxt.length<=256
 from':∀x∈nxt,CR q x/\∃c∈set,stS q c.state x.state
 all:∀c∈set,aF0 q c.state->∃x∈nxt,stS q c.state x.state
theorem aRo{q:AD}(hF:CY q)(hR:AY q){l:List Ad}(hl:∀h∈l,HR q h)(hll:l.length<=12){set:List X3}(hs:∀c∈set,CR q c)(hsl:set.length<=256):∃r,Xt q set l=some r/\(r.2=0->Rz q set r.1):=by
 obtain⟨o,ho,h1,h2,h3⟩:=Ap (step:=fun s:List X3×Int×Int=>E7 set l q s.1 s.2.1 s.2.2)
  (fun s=>∃i:Nat,s.2.2=(i:Int)/\i<=set.length/\s.1.length<=145*i/\(∀x∈s.1,CR q x/\∃c∈set,stS q c.state x.state)/\(s.2.1=0->∀c∈set.take i,aF0 q c.state->∃x∈s.1,stS q c.state x.state)) (fun s=>(set.length-s.2.2).toNat)
  (fun o=>o.1.length<=40000/\(∀x∈o.1,CR q x/\∃c∈set,stS q c.state x.state)/\(o.2=0->∀c∈set,aF0 q c.state->∃x∈o.1,stS q c.state x.state))
  (by
   rintro⟨w,bad,n⟩ ⟨i,rfl,hi,a1,a2,a3⟩;simp only at a1 a2 a3;by_cases he:i=set.length;subst he;rw[List.take_length]at a3;exact .inl ⟨(w,bad),by simp only[E7,ltI,AF],by simp only;omega,a2,a3⟩;obtain⟨c,hc,_⟩:=AQ (l:=set) (i:=i) (by omega);have hcm:=List.mem_of_getElem? hc;obtain⟨r,hr,g1,g2,g3⟩:=aF1 hF hR hl hll (hs c hcm);obtain⟨r6,h6,p6⟩:=Rr bad r.2;obtain⟨w2,hw2,k1,k2,k3,k4⟩:=Ru (q:=q) set l r6 (i:Int) (r:=r.1) (fun x hx=>(g2 x hx).1.cw hF) g1 (w0:=w) (fun x hx=>(a2 x hx).1.cw hF) (by omega);refine .inr ⟨(w2,r6,((i+1:Nat):Int)),by simp only[E7,ltD hc,AG,AL hc,hr,h6,hw2,AB,Ah hc (show set.length<=9223372036854775807 by omega)],⟨i+1,rfl,by omega,by simp only;omega,fun x hx=>?_,fun h0 c' hc' hN=>?_⟩,by simp only;omega⟩;rcases k2 x hx with h|h
   exact a2 x h;exact⟨(g2 x h).1,c,hcm,(g2 x h).2⟩;obtain⟨e1,e2⟩:=p6 h0;rw[List.take_add_one,hc]at hc';rcases ma.1 hc' with h|h
   obtain⟨x,hx,hst⟩:=a3 e1 c' h hN;exact⟨x,k3 x hx,hst⟩;simp at h;subst h;obtain⟨x,hx⟩:=g3 e2 hN;obtain⟨y,hy,hye⟩:=k4 x hx;exact⟨y,hy,by rw[hye];exact(g2 x hx).2⟩)
  ([],(0:Int),(0:Int)) ⟨0,rfl,by omega,by simp,by simp,fun _ c hc=>by simp at hc⟩
 have ho':aJn set l q [] 0 0=some o:=ho;unfold Xt;refine Ao ho' ?_;refine Ar (fun h0=>?_) (fun h0=>?_);simp only[OX];by_cases hbig:256<o.1.length;rw[decide_eq_true (by omega),AG,AB];exact⟨_,rfl,fun h=>by cases h⟩;rw[decide_eq_false (by omega),AF,AB,h0];exact⟨_,rfl,fun _=>⟨by simp only;omega,h2,h3 h0⟩⟩;simp only[OX,AF,AB];rw[decide_eq_false h0];exact⟨_,rfl,fun h=>absurd h h0⟩
theorem NL:∀(al:List CN) (xs:List X0) (b f:List X2) (p:List X2×List X2),GK al xs b f=some p->∀s∈p.2,s∈f\/(s.value∈xs/\∃a∈al,a.kind=3/\s.var=a.n)
 |[],xs,b,f,p,h=>by simp only[GK]at h;cases h;exact fun s hs=>.inl hs
 |a::al,[],b,f,p,h=>by simp only[GK]at h;cases h;exact fun s hs=>.inl hs
 |a::al,x::xs,b,f,p,h=>by
  simp only[GK]at h;have go:∀b f,GK al xs b f=some p->∀s∈p.2,s∈f\/(s.value∈x::xs/\∃a'∈a::al,a'.kind=3/\s.var=a'.n):=fun b f h s hs=>(NL al xs b f p h s hs).imp id fun⟨h1,a',h2,h3⟩=>⟨List.mem_cons_of_mem _ h1,a',List.mem_cons_of_mem _ h2,h3⟩;split at h;split at h;exact go b f h;cases h;split at h;split at h;cases h;exact go _ f h;split at h;rename_i h3;split at h;cases h;rename_i f' hp;intro s hs;rcases go b f' h s hs with g|g
  rcases Ri hp g with rfl|g
  exact .inr ⟨by simp,a,by simp,h3,rfl⟩;exact .inl g;exact .inr g;exact go b f h
theorem aVe{q:AD}(hF:CY q)(hR:AY q){e:X4}(hE:eR q.decls e=true){i:Nat}{h:Ad}(hi:i<q.symbols.length)(hh:F1 q i e=some h):HR q h:=by
 have hmem:h∈aO9 q e:=by unfold aO9;rw[hE,if_pos rfl];exact List.mem_filterMap.2 ⟨i,List.mem_range.2 hi,hh⟩
 obtain⟨_,_,h1,h2,_⟩:=aVf hF hR hmem;obtain⟨d,dd,_,_,ha⟩:=aDn hE;have hv:∀v∈e.args,SL v:=fun v hv=>by obtain⟨j,hj⟩:=List.mem_iff_getElem?.1 hv;obtain⟨g1,g2⟩:=QS ha;obtain⟨u,hu,_⟩:=AQ (l:=dd.types) (i:=j) (by rw[<-g1];exact B3 hj);exact aV3 (g2 j v u hj hu).2
 refine⟨by omega,fun s hs=>hv _ ((LC hh).2 s hs),by omega,fun s hs=>?_⟩;unfold F1 at hh;split at hh;cases hh;rename_i sy hsy;split at hh;cases hh;split at hh;rw[om]at hh;obtain⟨p,hp,rfl⟩:=hh;rcases NL _ _ _ _ _ hp s hs with g|⟨g,a,ha,h3,hn⟩
 simp at g;have:=((hR.symbols sy (List.mem_of_getElem? hsy)).args a ha).three h3;exact⟨by omega,hv _ g⟩;cases hh
theorem Rz.refl{q:AD}{set:List X3}(hs:∀c∈set,CR q c)(hsl:set.length<=256):Rz q set set:=⟨hsl,fun x hx=>⟨hs x hx,x,hx,.inr rfl⟩,fun c hc _=>⟨c,hc,.inr rfl⟩⟩
def NT(q:AD)(b:List X2)(e:X4):List Ad:=((List.range q.symbols.length).filterMap fun i=>F1 q i e).filter fun h=>Dt h.bind b
theorem IK{q:AD}(hF:CY q)(hR:AY q){b:List X2}(hb:b.length<=1000){e:X4}(hE:eR q.decls e=true):∃l1,Yc q e=some l1/\Yf l1 b=some (NT q b e)/\(∀h∈NT q b e,HR q h)/\(NT q b e).length<=12:=by
 have hsy:=hF.symbols;have hlen:((List.range q.symbols.length).filterMap fun i=>F1 q i e).length<=q.symbols.length:=by have h2:=List.length_filterMap_le (fun i=>F1 q i e) (List.range q.symbols.length);rw[List.length_range]at h2;exact h2
 have hHR:∀h∈(List.range q.symbols.length).filterMap (fun i=>F1 q i e),HR q h:=fun h hh=>by obtain⟨i,hi,hh⟩:=List.mem_filterMap.1 hh;exact aVe hF hR hE (List.mem_range.1 hi) hh
 refine⟨_,aXv hF hR,aXx (by omega) (fun h hh=>by have:=(hHR h hh).bind;omega) (by omega),fun h hh=>hHR h (List.mem_filter.1 hh).1,?_⟩;have:=List.length_filter_le (fun h:Ad=>Dt h.bind b) ((List.range q.symbols.length).filterMap fun i=>F1 q i e);unfold NT;omega
theorem TZ{q:AD}(hF:CY q)(hR:AY q){b:List X2}(hb:b.length<=1000){e:X4}(hE:eR q.decls e=true){set:List X3}(hs:∀c∈set,CR q c)(hsl:set.length<=256):∃r,Qg q b set e=some r/\(r.2=0->Rz q set r.1):=by obtain⟨l1,e1,e2,hl,hll⟩:=IK hF hR hb hE;unfold Qg;refine Ao e1 (Ao e2 ?_);refine Ar (fun _=>⟨_,rfl,fun _=>Rz.refl hs hsl⟩) (fun _=>?_);obtain⟨r,hr,hP⟩:=aRo hF hR hl hll hs hsl;exact Ao hr ⟨_,rfl,hP⟩
def TS(q:AD)(c:X3):Bool:=match q.states[c.state.toNat]? with
 |some st=>st.accept
 |none=>false
theorem Hi{q:AD}{set:List X3}(hs:∀c∈set,0<=c.state/\c.state<q.states.length)(hsl:set.length<=1000):Zm q set=some (set.any (TS q)):=by
 have h:aT3 set q 0=some (if set.any (TS q)=true then .inr ()else .inl ()):=by
  have:=GY (step:=fun s=>JU set q s) set (fun c=> !TS q c) (.inl ():Unit⊕Unit) (.inr ())
   (fun i c hc=>by obtain⟨h0,h1⟩:=hs c (List.mem_of_getElem? hc);obtain⟨st,hst,_⟩:=Hu h0 h1;simp only[JU,ltD hc,AG,AL hc,B5 hst h0,Ah hc (show set.length<=9223372036854775807 by omega),TS,hst];cases st.accept<;>simp[AE])
   (by simp only[JU,ltI,AF])
  refine this.trans ?_;rw[List.all_eq_not_any_not];simp only[Bool.not_not];cases set.any (TS q)<;>rfl
 unfold Zm;rw[h,AB];cases set.any (TS q)<;>rfl
theorem Rch.trans{α:Type}{succ:α->List α}{a b c:α}(h1:Rch succ a b)(h2:Rch succ b c):Rch succ a c:=by
 induction h2 with
 |refl=>exact h1
 |step _ hy ih=>exact ih.step hy
theorem stS.rch{q:AD}{s s':Int}(h:stS q s s'):Rch (E4 q) s s':=by
 rcases h with⟨t,ht,h1,h2⟩|rfl
 exact Rch.refl.step (Gn.2 ⟨t,ht,h1,h2⟩);exact .refl
theorem TG{q:AD}{s s':Int}(h:FT q s)(hs:stS q s s'):FT q s':=fun j hj=>h j (hs.rch.trans hj)
theorem aDj{q:AD}{s s':Int}(h:Kd q s)(hs:stS q s s'):Kd q s':=fun j hj=>h j (hs.rch.trans hj)
theorem S1{q:AD}{s:Int}(h:Ck q s=1):FT q s:=by unfold Ck at h;split at h;assumption;split at h<;>cases h
theorem aD7{q:AD}{s:Int}(h:Ck q s=2):Kd q s:=by unfold Ck at h;split at h;cases h;split at h;assumption;cases h
def Sur(q:AD)(sure:Int)(set:List X3):Prop:=(sure=1->∃c∈set,FT q c.state)/\(sure=2->∀c∈set,Kd q c.state)
theorem Sur.init{q:AD}(set:List X3):Sur q (E2 q set) set:=by unfold E2;split;rename_i h;obtain⟨c,hc,h⟩:=List.any_eq_true.1 h;exact⟨fun _=>⟨c,hc,S1 (of_decide_eq_true h)⟩,(fun h=>by cases h)⟩;split;rename_i h;exact⟨(fun h=>by cases h),fun _ c hc=>aD7 (of_decide_eq_true (List.all_eq_true.1 h c hc))⟩;exact⟨fun h=>(by cases h),fun h=>(by cases h)⟩
theorem Sur.step{q:AD}{sure:Int}{set nxt:List X3}(h:Sur q sure set)(hs:∀c∈set,CR q c)(hn:Rz q set nxt):Sur q sure nxt:=by refine⟨fun h1=>?_,fun h2 x hx=>?_⟩;obtain⟨c,hc,hso⟩:=h.1 h1;obtain⟨st,hst,he⟩:=Hu (hs c hc).1.1 (hs c hc).1.2;have:=hso c.state.toNat (by rw[<-he];exact .refl) st hst;obtain⟨x,hx,hst'⟩:=hn.all c hc ⟨st,hst,this.2⟩;exact⟨x,hx,TG hso hst'⟩;obtain⟨_,c,hc,hst⟩:=hn.from' x hx;exact aDj (h.2 h2 c hc) hst
theorem Sur.acc{q:AD}{sure:Int}{set:List X3}(h:Sur q sure set)(hs:∀c∈set,CR q c)(h12:sure=1\/sure=2):set.any (TS q)=decide (sure=1):=by
 rcases h12 with rfl|rfl
 obtain⟨c,hc,hso⟩:=h.1 rfl;obtain⟨st,hst,he⟩:=Hu (hs c hc).1.1 (hs c hc).1.2;have:=hso c.state.toNat (by rw[<-he];exact .refl) st hst;rw[decide_eq_true rfl,List.any_eq_true];exact⟨c,hc,by unfold TS;rw[hst];exact this.1⟩;rw[decide_eq_false (by decide),List.any_eq_false];intro c hc;obtain⟨st,hst,he⟩:=Hu (hs c hc).1.1 (hs c hc).1.2;have:=h.2 rfl c hc c.state.toNat (by rw[<-he];exact .refl) st hst;unfold TS;rw[hst];simp[this]
theorem aU3{q:AD}(hF:CY q)(hR:AY q)(hS:B6 q)(hT:Yx q=some true){b:List X2}(hB:BR b){e:X4}(hE:eR q.decls e=true):∃M:Nat,Tb q.symbols.length (NT q b e)/\(∀k:Nat,M.testBit k=true↔ ∃h∈NT q b e,h.symbol=(k:Int))/\(M=0\/aGf q b M):=by
 have hsy:=hF.symbols;have hbl:=Mm hB;have hH:Tb q.symbols.length (NT q b e):=LD hF hR hS e b;obtain⟨M,hM,_,hMb⟩:=Tg hsy hH;refine⟨M,hH,hMb,?_⟩;obtain⟨d,dd,hd,hn,ha⟩:=aDn hE;obtain⟨hlen,hv⟩:=QS ha;obtain⟨l1,l2,m1,m2,m3⟩:=aQw hF hR hS hB hd e.args hlen;have hee:X4.mk dd.name e.args=e:=by rw[hn]
 rw[hee]at m1;obtain⟨l1',g1,g2,_,_⟩:=IK hF hR (b:=b) (by omega) hE;rw[g1,oe]at m1;subst m1;rw[g2,oe]at m2;subst m2;rw[hM,oe]at m3;have hMe:M=mkM q b d e.args:=by omega
 obtain⟨args',hms,hmk⟩:=Tt hF hR (IH hF hT) hB hd hlen hv;by_cases h0:M=0;exact .inl h0;refine .inr ⟨⟨d,dd,B3 hd,hd,?_⟩,h0⟩;rw[hMe,<-hmk];exact hms
structure Sm(q:AD)(L:List Int)(m0:Nat)(set:List X3)(m:Nat):Prop where
 cv:∀c∈set,CV q.states.length c
 len:set.length<=256
 bits:∀k:Nat,m.testBit k=true↔ ∃x∈set,x.state=(k:Int)
 rch:Rch (Dw q L) (m0:Int) (m:Int)
theorem Sm.step{q:AD}(hF:CY q)(hR:AY q)(hS:B6 q)(hT:Yx q=some true){b:List X2}(hB:BR b){L:List Int}(hL:RS L (aGf q b)){m0:Nat}{set:List X3}{m:Nat}(h:Sm q L m0 set m){e:X4}(hE:eR q.decls e=true):∃r,Qg q b set e=some r/\(r.2=0->∃m',Sm q L m0 r.1 m'):=by
 have hbl:=Mm hB;obtain⟨l1,e1,e2,_,_⟩:=IK hF hR (b:=b) (by omega) hE;obtain⟨M,hH,hMb,hMS⟩:=aU3 hF hR hS hT hB hE;unfold Qg;refine Ao e1 (Ao e2 ?_);refine Ar (fun _=>⟨_,rfl,fun _=>⟨m,h⟩⟩) (fun hne=>?_);obtain⟨r,hr,hP⟩:=aXo hF hR hS hH.1 h.cv h.len;refine Ao hr ⟨_,rfl,fun h0=>⟨Du q m M,?_⟩⟩;obtain⟨a1,a2,a3⟩:=hP h0;have hM:M≠0:=fun hz=>by obtain⟨x,hx,_⟩:=AQ (l:=NT q b e) (i:=0) (by omega);have hxm:=List.mem_of_getElem? hx;have hs:=hH.sym x hxm;have:=(hMb x.symbol.toNat).2 ⟨x,hxm,by omega⟩;rw[hz]at this;simp at this
 have hML:(M:Int)∈L:=(hL.is _).2 ⟨M,rfl,hMS.resolve_left hM⟩;have hsame:∀c,c∈ND q.states.length m↔c∈set:=fun c=>by
  rw[Jp];constructor;rintro⟨s,hs,hb,rfl⟩;obtain⟨x,hx,he⟩:=(h.bits s).1 hb;have hc:=h.cv x hx;have:x=X3.mk (s:Int) []:=by cases x;have h1:=hc.1;simp only at he h1;rw[he,h1]
  rw[<-this];exact hx;intro hc;have hcv:=h.cv c hc;have h1:=hcv.2;refine⟨c.state.toNat,by omega,(h.bits _).2 ⟨c,hc,by omega⟩,?_⟩;cases c;have h2:=hcv.1;simp only at h1 h2⊢;rw[h2];congr 1;omega
 refine⟨a1,a2,fun k=>?_,?_⟩;rw[aEo hF hR hH hMb k];constructor;rintro⟨x,⟨c,hc,ho⟩,hk⟩;exact⟨x,(a3 x).2 ⟨c,(hsame c).1 hc,ho⟩,hk⟩;rintro⟨x,hx,hk⟩;obtain⟨c,hc,ho⟩:=(a3 x).1 hx;exact⟨x,⟨c,(hsame c).2 hc,ho⟩,hk⟩;exact h.rch.step (mm.2 ⟨(M:Int),hML,by simp⟩)
theorem Rl{α:Type}(g:Nat->α->Option (Unit⊕Unit))(hg:∀i x y,g i x=some y->y=.inr ()):∀(l:List α) (i:Nat),(MY (Ei g) (fun _=>(.inl ():Unit⊕Unit)) i l ()=.inr ())↔ ∃j x,l[j]? =some x/\g (i+j) x=some (.inr ())
 |[],i=>by simp[MY]
 |x::l,i=>by
  rw[MY];cases h:g i x with
  |none=>
   have e:Ei g i () x=.inl ():=by simp[Ei,h]
   rw[e]
   simp only
   rw[Rl g hg l (i+1)]
   constructor
   rintro⟨j,y,h1,h2⟩
   exact⟨j+1,y,by simpa using h1,by rw[<-h2];congr 1;omega⟩
   rintro⟨j,y,h1,h2⟩
   cases j with
   |zero=>simp at h1;subst h1;rw[Nat.add_zero,h]at h2;cases h2
   |succ j=>exact⟨j,y,by simpa using h1,by rw[<-h2];congr 1;omega⟩
  |some y=>
   have hy:=hg i x y h
   subst hy
   have e:Ei g i () x=.inr (.inr ()):=by simp[Ei,h]
   rw[e]
   exact⟨fun _=>⟨0,x,rfl,by simpa using h⟩,fun _=>rfl⟩
theorem aOh(q:AD)(S:Nat):aOg q S=true↔ ∃(i:Nat) (st:Xc),q.states[i]? =some st/\st.accept=true/\S.testBit i=true:=by
 have h:=Rl (TT S) (fun i x y hy=>by unfold TT at hy;split at hy<;>cases hy;rfl) q.states 0;have h2:aOg q S=true↔MY (Ei (TT S)) (fun _=>(.inl ():Unit⊕Unit)) 0 q.states ()=.inr ():=by unfold aOg;split;rename_i e;rw[e];simp;rename_i e;rw[e];simp
 rw[h2,h];constructor;rintro⟨j,x,h1,h2⟩;rw[Nat.zero_add]at h2;unfold TT at h2;split at h2;rename_i hc;exact⟨j,x,h1,hc⟩;cases h2;rintro⟨i,st,h1,h2⟩;exact⟨i,st,h1,by rw[Nat.zero_add];unfold TT;rw[if_pos h2]⟩
theorem Sm.acc{q:AD}{L:List Int}{m0:Nat}{set:List X3}{m:Nat}(h:Sm q L m0 set m):set.any (TS q)=Ee q (m:Int):=by rw[Ee,Int.toNat_natCast,Bool.eq_iff_iff,aOh,List.any_eq_true];constructor;rintro⟨c,hc,ha⟩;have hcv:=(h.cv c hc).2;obtain⟨st,hst,he⟩:=Hu hcv.1 hcv.2;unfold TS at ha;rw[hst]at ha;exact⟨c.state.toNat,st,hst,ha,(h.bits _).2 ⟨c,hc,by omega⟩⟩;rintro⟨i,st,hst,ha,hb⟩;obtain⟨x,hx,he⟩:=(h.bits i).1 hb;refine⟨x,hx,?_⟩;unfold TS;rw[he,Int.toNat_natCast,hst];exact ha
theorem Tv{set:List X3}(hs:∀c∈set,0<=c.state/\c.state<12)(hl:set.length<=1000):∃m:Nat,m<4096/\Yw set=some (m:Int)/\Zv set=some (m:Int)/\∀k:Nat,m.testBit k=true↔ ∃x∈set,x.state=(k:Int):=by
 have hrow:∀(i v:Nat) (c:X3),set[i]? =some c->v<4096->∃z:Nat,c.state=(z:Int)/\z<12/\AA .or .u32 (v:Int) (AA .shl .u32 1 (IntKind.wrap .u64 c.state))=((v|||2^z:Nat):Int)/\0<=IntKind.wrap .u64 c.state/\v|||2^z<4096:=fun i v c hc hv=>by
  obtain⟨h0,h1⟩:=hs c (List.mem_of_getElem? hc);obtain⟨z,hz⟩:∃z:Nat,c.state=(z:Int):=⟨c.state.toNat,by omega⟩;have hz12:z<12:=by omega
  have hw:IntKind.wrap .u64 (z:Int)=(z:Int):=BC (by omega);have hp:2^z<2^12:=Nat.pow_lt_pow_right (by decide) hz12;refine⟨z,hz,hz12,?_,by rw[hz,hw];omega,Nat.or_lt_two_pow (n:=12) hv hp⟩;rw[hz,hw,PT (by omega),ML (by omega) (by omega)]
 have bit:∀(i v z:Nat) (c:X3),set[i]? =some c->c.state=(z:Int)->(∀k:Nat,v.testBit k=true↔ ∃x∈set.take i,x.state=(k:Int))->∀k:Nat,(v|||2^z).testBit k=true↔ ∃x∈set.take (i+1),x.state=(k:Int):=fun i v z c hc hz hm k=>by
  rw[Nat.testBit_or,Nat.testBit_two_pow,Bool.or_eq_true,decide_eq_true_eq,hm k,List.take_add_one,hc];constructor;rintro(⟨x,hx,a⟩|h);exact⟨x,ml _ hx,a⟩;exact⟨c,by simp,by rw[hz,h]⟩;rintro⟨x,hx,a⟩;rcases ma.1 hx with g|g
  exact .inl ⟨x,g,a⟩;simp at g;subst g;exact .inr (by omega)
 obtain⟨o,ho,V,rfl,hV,hQ⟩:=Ap (step:=fun s:Int×Int=>JG set s.1 s.2)
  (fun s=>∃(i v:Nat),s=((v:Int),(i:Int))/\i<=set.length/\v<4096/\∀k:Nat,v.testBit k=true↔ ∃x∈set.take i,x.state=(k:Int)) (fun s=>(set.length-s.2).toNat) (fun o=>∃V:Nat,o=(V:Int)/\V<4096/\∀k:Nat,V.testBit k=true↔ ∃x∈set,x.state=(k:Int))
  (by rintro s ⟨i,v,rfl,hi,hv,hm⟩;by_cases he:i=set.length;subst he;rw[List.take_length]at hm;exact .inl ⟨(v:Int),by simp only[JG,ltI,AF],v,rfl,hv,hm⟩;obtain⟨c,hc,_⟩:=AQ (l:=set) (i:=i) (by omega);obtain⟨z,hz,hz12,e1,e2,e3⟩:=hrow i v c hc hv;exact .inr ⟨(((v|||2^z:Nat):Int),((i+1:Nat):Int)),by simp only[JG,ltD hc,AG,AL hc,Aj e2,e1,Ah hc (show set.length<=9223372036854775807 by omega)],⟨i+1,v|||2^z,rfl,by omega,e3,bit i v z c hc hz hm⟩,by simp only;omega⟩)
  ((0:Int),(0:Int)) ⟨0,0,rfl,by omega,by decide,fun k=>by simp⟩
 obtain⟨o2,ho2,V2,rfl,hV2,hQ2⟩:=Ap (step:=fun s:Int×Int=>Jd set (set.length:Int) s.1 s.2)
  (fun s=>∃(i v:Nat),s=((v:Int),(i:Int))/\i<=set.length/\v<4096/\∀k:Nat,v.testBit k=true↔ ∃x∈set.take i,x.state=(k:Int)) (fun s=>(set.length-s.2).toNat) (fun o=>∃V:Nat,o=(V:Int)/\V<4096/\∀k:Nat,V.testBit k=true↔ ∃x∈set,x.state=(k:Int))
  (by rintro s ⟨i,v,rfl,hi,hv,hm⟩;by_cases he:i=set.length;subst he;rw[List.take_length]at hm;exact .inl ⟨(v:Int),by simp only[Jd,ltI,AF],v,rfl,hv,hm⟩;obtain⟨c,hc,_⟩:=AQ (l:=set) (i:=i) (by omega);obtain⟨z,hz,hz12,e1,e2,e3⟩:=hrow i v c hc hv;exact .inr ⟨(((v|||2^z:Nat):Int),((i+1:Nat):Int)),by simp only[Jd,ltD hc,AG,AL hc,Aj e2,e1,Ah hc (show set.length<=9223372036854775807 by omega)],⟨i+1,v|||2^z,rfl,by omega,e3,bit i v z c hc hz hm⟩,by simp only;omega⟩)
  ((0:Int),(0:Int)) ⟨0,0,rfl,by omega,by decide,fun k=>by simp⟩
 have hVV:V2=V:=Nat.eq_of_testBit_eq fun k=>by rw[Bool.eq_iff_iff,hQ2 k,hQ k]
 subst hVV;have ho':aTp set 0 0=some (V2:Int):=ho;have ho2':aUa set (set.length:Int) 0 0=some (V2:Int):=ho2;exact⟨V2,hV,by unfold Yw;rw[ho',AB],by unfold Zv;rw[ho2',AB],hQ⟩
theorem aFg{q:AD}(s1:List X2)(l:List X4)(sure:Int)(J:List X3->Prop)(hl:l.length<=12)
 (hacc:∀set,J set->0<sure->Zm q set=some (decide (sure=1)))
 (hev:∀set e,J set->e∈l->∃r,Qg q s1 set e=some r/\(r.2=0->J r.1)) {set:List X3} (h0:J set):LX s1 l sure q set 0=some (.inl ()):=by
 obtain⟨o,ho,hQ⟩:=Ap (step:=fun s:List X3×Int=>LY s1 l sure q s.1 s.2) (fun s=>∃i:Nat,s.2=(i:Int)/\i<=l.length/\J s.1) (fun s=>(l.length+1-s.2).toNat) (fun o=>o=.inl ())
  (by
   rintro⟨w,n⟩ ⟨i,rfl,hi,hJ⟩;simp only at hJ;have key:(∃t,(AE (decide ((i:Int)=(l.length:Int))) (some (.inr (.inl ()))) (AS l (i:Int) fun x53=>AH (Qg q s1 w x53) fun r54=>AE (!decide (r54.2=0)) (some (.inr (.inl ()))) (some (.inl (r54.1,(AA .add .i64 (i:Int) 1))))):Option ((List X3×Int)⊕(Unit⊕Unit)))=some (.inr t)/\t=.inl ())\/∃s',(AE (decide ((i:Int)=(l.length:Int))) (some (.inr (.inl ()))) (AS l (i:Int) fun x53=>AH (Qg q s1 w x53) fun r54=>AE (!decide (r54.2=0)) (some (.inr (.inl ()))) (some (.inl (r54.1,(AA .add .i64 (i:Int) 1))))):Option ((List X3×Int)⊕(Unit⊕Unit)))=some (.inl s')/\(∃i:Nat,s'.2=(i:Int)/\i<=l.length/\J s'.1)/\(l.length+1-s'.2).toNat<(l.length+1-(i:Int)).toNat:=by by_cases he:i=l.length;rw[decide_eq_true (by omega),AG];exact .inl ⟨_,rfl,rfl⟩;rw[decide_eq_false (by omega),AF];obtain⟨e,hee,_⟩:=AQ (l:=l) (i:=i) (by omega);obtain⟨r,hr,hP⟩:=hev w e hJ (List.mem_of_getElem? hee);rw[AL hee,hr,AB];by_cases hz:r.2=0;rw[decide_eq_true hz,Bool.not_true,AF,KN (by omega)];exact .inr ⟨_,rfl,⟨i+1,rfl,by omega,hP hz⟩,by simp only;omega⟩;rw[decide_eq_false hz,Bool.not_false,AG];exact .inl ⟨_,rfl,rfl⟩
   simp only[LY];rw[decide_eq_true (show(i:Int)<=(l.length:Int) by omega),AG];by_cases hs:0<sure;rw[decide_eq_true hs,AG,hacc w hJ hs,AB];have e:(!(decide (sure=1)==decide (sure=1)))=false:=by cases decide (sure=1)<;>rfl
   rw[e,AF];exact key;rw[decide_eq_false hs,AF];exact key)
  (set,(0:Int)) ⟨0,rfl,by omega,h0⟩
 rw[<-hQ];exact ho
theorem aVw{q:AD}(b:List X2)(s2:List X3)(s3:List X4)(s9:Bool)(hb:b.length<=8):∃o,aG0 b s2 s3 s9 q 0=some o/\(o=.inl ()\/o=.inr true):=by
 exact Am (step:=fun s=>IO b s2 s3 s9 q s) b.length (fun _=>True) (fun o=>o=.inl ()\/o=.inr true)
  (fun i hi=>by obtain⟨x,hx,_⟩:=AQ hi;simp only[IO,ltD hx,AG,AL hx,YJ,AB,Ah hx (show b.length<=9223372036854775807 by omega),De];split;exact .inr ⟨_,rfl,.inr rfl⟩;split;exact .inr ⟨_,rfl,.inr rfl⟩;split;exact .inr ⟨_,rfl,.inr rfl⟩;obtain⟨y,hy,_⟩:=Hu (l:=q.quants) (i:=x.var) (by omega) (by omega);rw[B5 hy (by omega)];cases decide (x.value.kind=y.type);exact .inr ⟨_,rfl,.inr rfl⟩;exact .inl ⟨rfl,trivial⟩)
  (fun _=>⟨.inl (),by simp only[IO,ltI,AF],.inl rfl⟩)
theorem Ry{q:AD}(hF:CY q)(c:X3):∃r,Ug q c=some r/\(r=true->CR q c):=by
 have hfr:=hF.frees;unfold Ug;refine Ar (fun h0=>?_) (fun _=>⟨_,rfl,by simp⟩);refine Ar (fun h1=>?_) (fun _=>⟨_,rfl,by simp⟩);have hfits:∃r,Zt q c.vals=some r/\(r=true->VL q c.vals):=by
  unfold Zt;refine Cc (fun _=>⟨_,rfl,by simp⟩) (fun hl=>?_);have hl:c.vals.length=q.frees.length:=by omega
  obtain⟨o,ho,hQ⟩:=Am (step:=fun s=>Jb c.vals q s) c.vals.length (fun i=>∀v,c.vals[i]? =some v->SL v) (fun o=>o=Sum.inl ()->∀v∈c.vals,SL v)
   (fun i hi=>by
    obtain⟨x,hx,_⟩:=AQ hi;obtain⟨y,hy,_⟩:=AQ (l:=q.frees) (i:=i) (by omega);simp only[Jb,ltD hx,AG,AL hx,AL hy,aA0,AB,Ah hx (show c.vals.length<=9223372036854775807 by omega)];cases hv:vR x with
    |false=>exact .inr ⟨_,rfl,fun h=>by cases h⟩
    |true=>
     rw[Bool.not_true,AF]
     cases decide (x.kind=y.init_.kind)with
     |false=>exact .inr ⟨_,rfl,fun h=>by cases h⟩
     |true=>exact .inl ⟨rfl,fun v h=>by rw[hx,oe]at h;subst h;exact aV3 hv⟩)
   (fun hall=>⟨.inl (),by simp only[Jb,ltI,AF],fun _=>Eg hall⟩)
  have ho':aT9 c.vals q 0=some o:=ho;refine Ao ho' ?_;rcases o with⟨⟩|⟨⟩
  exact⟨_,rfl,fun _=>⟨hl,hQ rfl⟩⟩;exact⟨_,rfl,fun h=>by cases h⟩
 obtain⟨r,hr,hP⟩:=hfits;exact Ao hr ⟨_,rfl,fun h=>⟨⟨h0,h1⟩,hP h⟩⟩
theorem aVx{q:AD}(hF:CY q)(s1:List X2)(s2:List X3)(s3:List X4)(s9:Bool)(hl:s2.length<=20):∃o,aG1 s1 s2 s3 s9 q 0=some o/\((o=.inl ()/\∀c∈s2,CR q c)\/o=.inr true):=by
 exact Am (step:=fun s=>IP s1 s2 s3 s9 q s) s2.length (fun i=>∀c,s2[i]? =some c->CR q c) (fun o=>(o=.inl ()/\∀c∈s2,CR q c)\/o=.inr true)
  (fun i hi=>by
   obtain⟨x,hx,_⟩:=AQ hi;obtain⟨r,hr,hP⟩:=Ry hF x;simp only[IP,ltD hx,AG,AL hx,hr,YJ,AB,Ah hx (show s2.length<=9223372036854775807 by omega)];cases r with
   |false=>exact .inr ⟨_,rfl,.inr rfl⟩
   |true=>exact .inl ⟨rfl,fun c hc=>by rw[hx,oe]at hc;subst hc;exact hP rfl⟩)
  (fun hall=>⟨.inl (),by simp only[IP,ltI,AF],.inl ⟨rfl,Eg hall⟩⟩)
theorem aVy{q:AD}(hF:CY q)(s1:List X2)(s2:List X3)(s3:List X4)(s9:Bool)(hl:s3.length<=12)(hW:∀e∈s3,e.args.length<=9223372036854775807):∃o,aG2 s1 s2 s3 s9 q 0=some o/\((o=.inl ()/\∀e∈s3,eR q.decls e=true)\/o=.inr true):=by
 have hd:=hF.decls;exact Am (step:=fun s=>IQ s1 s2 s3 s9 q s) s3.length (fun i=>∀e,s3[i]? =some e->eR q.decls e=true) (fun o=>(o=.inl ()/\∀e∈s3,eR q.decls e=true)\/o=.inr true)
  (fun i hi=>by
   obtain⟨x,hx,_⟩:=AQ hi;have hxw:=hW x (List.mem_of_getElem? hx);obtain⟨o,ho,hoc⟩:∃o,aSb s1 s2 s3 s9 (i:Int) q 0=some o/\(o=.inl ()\/o=.inr true):=Am (step:=fun s=>IR s1 s2 s3 s9 (i:Int) q s) x.args.length (fun _=>True) (fun o=>o=.inl ()\/o=.inr true)
    (fun j hj=>by obtain⟨y,hy,_⟩:=AQ hj;simp only[IR,AL hx,ltD hy,AG,AL hy,YJ,AB,Ah hy hxw];rw[De];split;exact .inr ⟨_,rfl,.inr rfl⟩;exact .inl ⟨rfl,trivial⟩)
    (fun _=>⟨.inl (),by simp only[IR,AL hx,ltI,AF],.inl rfl⟩)
   simp only[IQ,ltD hx,AG,AL hx,bCz _ _ (show q.decls.length<=9223372036854775807 by omega) hxw,YJ,AB,ho,Ah hx (show s3.length<=9223372036854775807 by omega)];cases hE:eR q.decls x with
   |false=>exact .inr ⟨_,rfl,.inr rfl⟩
   |true=>
    rw[Bool.not_true,AF]
    rcases hoc with rfl|rfl
    exact .inl ⟨rfl,fun e he=>by rw[hx,oe]at he;subst he;exact hE⟩
    exact .inr ⟨_,rfl,.inr rfl⟩)
  (fun hall=>⟨.inl (),by simp only[IQ,ltI,AF],.inl ⟨rfl,Eg hall⟩⟩)
theorem PV(q:AD)(l:List Int):(Fy q l=1/\∀x∈l,Ee q x=true)\/(Fy q l=2/\∀x∈l,Ee q x=false)\/(Fy q l=0/\(∃x∈l,Ee q x=true)/\∃x∈l,Ee q x=false):=by
 unfold Fy;by_cases h1:(l.all (Ee q))=true;rw[if_pos h1];exact .inl ⟨rfl,List.all_eq_true.1 h1⟩;rw[if_neg h1];by_cases h2:(l.all fun x=> !Ee q x)=true;rw[if_pos h2];exact .inr (.inl ⟨rfl,fun x hx=>by simpa using List.all_eq_true.1 h2 x hx⟩);rw[if_neg h2];refine .inr (.inr ⟨rfl,?_,?_⟩);rw[List.all_eq_true]at h2;apply Classical.byContradiction;intro hn;exact h2 fun x hx=>by
  cases hc:Ee q x with
  |true=>exact absurd ⟨x,hx,hc⟩ hn
  |false=>rfl
 rw[List.all_eq_true]at h1;apply Classical.byContradiction;intro hn;exact h1 fun x hx=>by
  cases hc:Ee q x with
  |true=>rfl
  |false=>exact absurd ⟨x,hx,hc⟩ hn
theorem IJ{q:AD}(hF:CY q)(hR:AY q)(hS:B6 q){L:List Int}(hL:GM q L){b:List X2}(he:Xq q b=some L)(acc:Bool){s:Nat}(hs:s<2^q.states.length)(hx:∃x∈clo (Dw q L) 256 (s:Int),Ee q x=acc):∃r,Xu q b (s:Int) acc=some r/\0<=r:=by
 have hb:=bdS (L:=L) hR hS hs;obtain⟨r,hr,hcase⟩:=aGj hF hR hS hL he acc hs;refine⟨r,hr,?_⟩;rcases hcase with⟨h1,_⟩|⟨k,_,_,rfl,_⟩
 exfalso;obtain⟨k1,k2,_⟩:=aFc hR hS L acc hs;rw[h1]at k1 k2;obtain⟨x,hx,ha⟩:=hx;have hmem:∀y,Rch (Dw q L) (s:Int) y->y∈(Nz q L acc s).2:=fun y hy=>by
  induction hy with
  |refl=>exact List.mem_of_getElem? k1.hd
  |step _ hz ih=>
   obtain⟨j,hj⟩:=List.mem_iff_getElem?.1 ih
   exact k1.cl j _ (B3 hj) hj _ hz
 obtain⟨j,hj⟩:=List.mem_iff_getElem?.1 (hmem x ((FL hb).1 hx));have:=k2 j x (B3 hj) hj;rw[ha]at this;simp at this;omega
theorem bA2(q:AD)(b:List X2)(set:List X3)(l:List X4)(hW:∀t∈q.trans,Mu t)(hb:b.length<=9223372036854775807)(he:∀e∈l,e.args.length<=9223372036854775807):X9 q b set l=some true:=by
 obtain⟨r,hr,hP⟩:=aU7 q hW;unfold X9;rw[hr,AB,YJ];cases r with
 |false=>rfl
 |true=>
  obtain⟨hF,hR,hT,h3⟩:=hP rfl
  have h12:=hF.states
  rw[Bool.not_true,AF,De]
  split
  rfl
  rw[De]
  split
  rfl
  rw[De]
  split
  rfl
  rename_i c1 c2 c3
  obtain⟨s,hs1,hs2⟩:=aGh hF hR
  obtain⟨r2,hr2,hSP⟩:=bCg hF
  have hsr:s=r2:=by rw[hs2,oe]at hr2;exact hr2
  subst hsr
  rw[hs2,AB]
  obtain⟨o1,ho1,hc1⟩:=aVw (q:=q) b set l s (by omega)
  obtain⟨o2,ho2,hc2⟩:=aVx hF b set l s (by omega)
  obtain⟨o3,ho3,hc3⟩:=aVy hF b set l s (by omega) he
  cases s with
  |false=>
   rw[AF,ho1,AB]
   rcases hc1 with rfl|rfl
   rw[BY,ho2,AB]
   rcases hc2 with⟨rfl,hCR⟩|rfl
   rw[BY,ho3,AB]
   rcases hc3 with⟨rfl,hE⟩|rfl
   rw[BY]
   obtain⟨w,hw,hwm,hwl⟩:=aQe (fun c hc=>(hCR c hc).cw hF) (show set.length<=500 by omega)
   have hwCR:∀c∈w,CR q c:=fun c hc=>hCR c (hwm c hc)
   have hin:InS q w:=fun c hc=>(hwCR c hc).1
   have hg1:=aXp hF hR (l:=w) (by omega) hin
   have hg2:=aX1 hF hR (l:=w) (by omega) hin
   have hOf:Qn q b w=some (E2 q w):=by unfold Qn;rw[hs1,AB,AF,hg1,AB]
   have hl6:=aFg (q:=q) b l (E2 q w) (fun s=>(∀c∈s,CR q c)/\s.length<=256/\Sur q (E2 q w) s) (by omega)
    (fun s hJ hpos=>by
     obtain⟨j1,j2,j3⟩:=hJ;have h12':E2 q w=1\/E2 q w=2:=by unfold E2 at hpos⊢;split;exact .inl rfl;rename_i h;rw[if_neg h]at hpos;split;exact .inr rfl;rename_i h2;rw[if_neg h2]at hpos;omega
     rw[Hi (fun c hc=>(j1 c hc).1) (by omega),j3.acc j1 h12'])
    (fun s e hJ hel=>by obtain⟨j1,j2,j3⟩:=hJ;obtain⟨r,hr,hP⟩:=TZ hF hR (b:=b) (by omega) (hE e hel) j1 j2;exact⟨r,hr,fun h0=>⟨fun x hx=>((hP h0).from' x hx).1,(hP h0).len,j3.step j1 (hP h0)⟩⟩)
    (set:=w) ⟨hwCR,by omega,Sur.init w⟩
   rw[hw,AB,hOf,AB,hg2,AB]
   simp only[R4,AF,AB,decide_true,Bool.not_true,hl6,BY]
   rfl
   rfl
   rfl
  |true=>
   rw[AG]
   have hS:=hSP rfl
   obtain⟨r7,hr7,hBR⟩:=aZ2 q b hb
   rw[hr7,AB]
   cases r7 with
   |false=>rfl
   |true=>
    have hB:=hBR rfl
    rw[Bool.not_true,AF]
    cases decide ((b.length:Int)=(q.quants.length:Int))with
    |false=>rfl
    |true=>
     rw[Bool.not_true,AF,ho1,AB]
     rcases hc1 with rfl|rfl
     rw[BY,ho2,AB]
     rcases hc2 with⟨rfl,hCR⟩|rfl
     rw[BY,ho3,AB]
     rcases hc3 with⟨rfl,hE⟩|rfl
     rw[BY]
     obtain⟨w,hw,hwm,hwl⟩:=aQe (fun c hc=>(hCR c hc).cw hF) (show set.length<=500 by omega)
     have hwCR:∀c∈w,CR q c:=fun c hc=>hCR c (hwm c hc)
     have hin:InS q w:=fun c hc=>(hwCR c hc).1
     have hcv:∀c∈w,CV q.states.length c:=fun c hc=>by have h1:=(hwCR c hc).2.1;rw[hS.frees]at h1;exact⟨List.eq_nil_of_length_eq_zero h1,(hwCR c hc).1⟩
     obtain⟨m,hm,hst1,hst2,hbits⟩:=Tv (set:=w) (fun c hc=>by have:=(hwCR c hc).1;omega) (by omega)
     have hmlt:m<2^q.states.length:=by apply Nat.lt_pow_two_of_testBit;intro k hk;rw[<-Bool.not_eq_true,hbits];rintro⟨x,hx,he⟩;have:=(hwCR x hx).1;omega
     obtain⟨L,e1,e2,hRS,hL⟩:=aVr hF hR hS hT h3 hB
     have hbd:=bdS (L:=L) hR hS hmlt
     have hstat:=aWt hF hR hS hL e1 hmlt
     have hstat2:=bCa hF (bBu hF hR hS hL e2 hmlt) (by have:=MA hbd;omega) (NA hR hS hmlt)
     have hg2:=aX1 hF hR (l:=w) (by omega) hin
     have hOf:Qn q b w=some (Fy q (clo (Dw q L) 256 (m:Int))):=by unfold Qn;rw[hs1,AB,AG,hst2,AB,hstat,AB]
     have hl6:∀hc:(0<Fy q (clo (Dw q L) 256 (m:Int))->∀x∈clo (Dw q L) 256 (m:Int),Ee q x=decide (Fy q (clo (Dw q L) 256 (m:Int))=1)),LX b l (Fy q (clo (Dw q L) 256 (m:Int))) q w 0=some (.inl ()):=fun hc=>aFg (q:=q) b l _ (fun s=>∃m',Sm q L m s m') (by omega)
      (fun s hJ hpos=>by obtain⟨m',hSm⟩:=hJ;rw[Hi (fun c hc=>(hSm.cv c hc).2) (by have:=hSm.len;omega),hSm.acc,hc hpos _ ((FL hbd).2 hSm.rch)])
      (fun s e hJ hel=>by obtain⟨m',hSm⟩:=hJ;exact hSm.step hF hR hS hT hB hRS (hE e hel))
      (set:=w) ⟨m,hcv,by omega,hbits,.refl⟩
     rw[hw,AB,hOf,AB,hg2,AB]
     simp only[R4,AG,hst1,AB,hstat2,decide_true,Bool.not_true,AF]
     rcases PV q (clo (Dw q L) 256 (m:Int))with⟨h1,ha⟩|⟨h1,ha⟩|⟨h1,ha,hb'⟩
     have:=hl6 (fun _ x hx=>by rw[h1,ha x hx];rfl)
     rw[h1]at this⊢
     rw[decide_eq_false (by decide),AF,this,AB,BY]
     have:=hl6 (fun _ x hx=>by rw[h1,ha x hx];rfl)
     rw[h1]at this⊢
     rw[decide_eq_false (by decide),AF,this,AB,BY]
     have:=hl6 (fun h=>by rw[h1]at h;omega)
     rw[h1]at this⊢
     obtain⟨r1,k1,k2⟩:=IJ hF hR hS hL e2 true hmlt ha
     obtain⟨r2,k3,k4⟩:=IJ hF hR hS hL e2 false hmlt hb'
     rw[decide_eq_true rfl,AG,k1,AB,decide_eq_false (by omega),AF,k3,AB,decide_eq_false (by omega),AF,this,AB,BY]
     rfl
     rfl
     rfl
end
end Go.Ac
