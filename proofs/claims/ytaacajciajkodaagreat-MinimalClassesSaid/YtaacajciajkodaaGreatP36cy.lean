/- Own work: the plain law. -/
import Derived.Test.YtaacajciajkodaaGreatP36cx
set_option linter.unusedVariables false
set_option linter.unusedSimpArgs false
namespace Go.Ac
noncomputable section
theorem Rw{k:Int}(hk:k=1\/k=2){l w:List X0}(hl:l.length<=1000)(hw:SW w)(hwl:w.length<=900)(hm:∀v,v.kind=k->(v∈w↔v∈l))(z:X0):∀(m j:Nat),j+m<=900->(∃i,j<=i/\i<j+m/\Gn k i∉l)->∃i,j<=i/\i<j+m/\Gn k i∉l/\MQ k l z (Gn k j)=some (Gn k i)/\YV k w z (Gn k j)=some (Gn k i)
 |0,j,_,⟨i,h1,h2,_⟩=>by omega
 |m+1,j,hj,⟨i,h1,h2,h3⟩=>by
  have e1:Zr l (Gn k j)=some (decide (Gn k j∈l)):=H8 _ _ (by omega);have e2:Qk w (Gn k j)=some (decide (Gn k j∈l)):=by rw[aUl hw (aDp hk (by omega)) hwl];simp only[hm _ (NA k j)]
  by_cases h:Gn k j∈l;have hne:i≠j:=fun e=>h3 (e▸h);obtain⟨i',a1,a2,a3,a4,a5⟩:=Rw hk hl hw hwl hm z m (j+1) (by omega) ⟨i,by omega,by omega,h3⟩;refine⟨i',by omega,by omega,a3,?_,?_⟩;rw[QQ];unfold F7;rw[e1,AB];simp only[h,decide_true,AI,(NB k j hk (by omega) l z).1,AB,BC];exact a4;rw[RG];unfold I1;rw[e2,AB];simp only[h,decide_true,AI,(NB k j hk (by omega) w z).2,AB,BC];exact a5;refine⟨j,by omega,by omega,h,?_,?_⟩;rw[QQ];unfold F7;rw[e1,AB];simp only[h,decide_false,AJ,Ad];rw[RG];unfold I1;rw[e2,AB];simp only[h,decide_false,AJ,Ad]
def EL(n:Nat)(p:Nat->Bool):Nat:=(List.range n).foldl (fun w i=>if p i=true then w|||2^i else w) 0
theorem Kg(n:Nat)(p:Nat->Bool):EL (n+1) p=if p n=true then EL n p|||2^n else EL n p:=by unfold EL;rw[List.range_succ,List.foldl_append];rfl
theorem E5(n:Nat)(p:Nat->Bool)(k:Nat):(EL n p).testBit k=true↔k<n/\p k=true:=by
 induction n with
 |zero=>simp[EL]
 |succ n ih=>
  rw[Kg]
  split
  rename_i h
  rw[Nat.testBit_or,Nat.testBit_two_pow,Bool.or_eq_true,decide_eq_true_eq,ih]
  constructor
  rintro(⟨a,b⟩|rfl)
  exact⟨by omega,b⟩
  exact⟨by omega,h⟩
  rintro⟨a,b⟩
  by_cases hk:n=k
  exact .inr hk
  exact .inl ⟨by omega,b⟩
  rename_i h
  rw[ih]
  constructor
  rintro⟨a,b⟩;exact⟨by omega,b⟩
  rintro⟨a,b⟩
  refine⟨?_,b⟩
  by_cases hk:n=k
  subst hk;exact absurd b h
  omega
theorem H3(n:Nat)(p:Nat->Bool):EL n p<2^n:=Nat.lt_pow_two_of_testBit _ fun i hi=>by
 cases h:(EL n p).testBit i with
 |false=>rfl
 |true=>have:=(E5 n p i).1 h;omega
theorem RQ{a b:Nat}(h:∀k,a.testBit k=true↔b.testBit k=true):a=b:=Nat.eq_of_testBit_eq fun i=>by rw[Bool.eq_iff_iff];exact h i
theorem M6{step:Int×Int->Option (Int×Int⊕Int)}{n:Nat}(hn:n<=12)(p:Nat->Bool)
 (h1:∀i w:Nat,i<n->w<4096->step ((w:Int),(i:Int))=some (.inl (((if p i=true then w|||2^i else w:Nat):Int),((i+1:Nat):Int))))
 (h2:∀w:Nat,step ((w:Int),(n:Int))=some (.inr (w:Int))):AQ step (0,0)=some ((EL n p:Nat):Int):=by
 refine aOg (fun s=>∃i:Nat,i<=n/\s=(((EL i p:Nat):Int),(i:Int))) (fun s=>(n-s.2).toNat) (fun _=>((EL n p:Nat):Int)) ?_ (0,0) ⟨0,by omega,rfl⟩
 rintro s ⟨i,hi,rfl⟩
 by_cases he:i=n
 subst he;exact .inl (h2 _)
 have hlt:EL i p<4096:=Nat.lt_of_lt_of_le (H3 i p) (show 2^i<=2^12 from Nat.pow_le_pow_right (by decide) (by omega))
 refine .inr ⟨_,h1 i (EL i p) (by omega) hlt,⟨i+1,by omega,by rw[Kg]⟩,?_,rfl⟩
 simp only;omega
def T6(b:List X2)(a:B0)(x:X0):Bool:=if a.kind=1 then decide (a.value=x)else if a.kind=2 then decide (EG b a.n=(x,true))else true
theorem NW{w b:List X2}(h:D7 w b=true){s:X2}(hs:s∈w):EG b s.var=(s.value,true):=by unfold D7 at h;have:=(List.all_eq_true.1 h) s hs;simpa using this
theorem aEs{w b:List X2}{x:X2}:D7 (PV w x) b=true↔EG b x.var=(x.value,true)/\D7 w b=true:=by unfold D7;simp only[List.all_eq_true,decide_eq_true_eq,EZ];constructor;intro h;exact⟨h x (.inl rfl),fun s hs=>h s (.inr hs)⟩;rintro⟨h1,h2⟩ s (rfl|hs);exact h1;exact h2 s hs
theorem Rf(b:List X2):∀(al:List B0) (xs:List X0) (bd f:List X2),al.length=xs.length->(∀a∈al,a.kind≠3)->
 ((∃p,Ho al xs bd f=some p/\D7 p.1 b=true)↔D7 bd b=true/\∀z∈al.zip xs,T6 b z.1 z.2=true)
 |[],[],bd,f,_,_=>by simp[Ho]
 |[],x::xs,bd,f,h,_=>by simp at h
 |a::al,[],bd,f,h,_=>by simp at h
 |a::al,x::xs,bd,f,hl,hk=>by
  have hl':al.length=xs.length:=by simpa using hl
  have hk':∀a∈al,a.kind≠3:=fun y hy=>hk y (List.mem_cons_of_mem _ hy);have h3:=hk a (by simp);have ih:=fun bd f=>Rf b al xs bd f hl' hk';rw[Ho,List.zip_cons_cons];simp only[List.forall_mem_cons];unfold T6;by_cases k1:a.kind=1;rw[if_pos k1,if_pos k1];by_cases hv:a.value=x;rw[if_pos hv,ih];simp[hv,T6];rw[if_neg hv];simp[hv];rw[if_neg k1,if_neg k1];by_cases k2:a.kind=2;rw[if_pos k2,if_pos k2];unfold NH;by_cases hg:(EG bd a.n).2=true;simp only[hg,if_true];have hge:EG bd a.n=((EG bd a.n).1,true):=by rw[<-hg]
  by_cases hv:(EG bd a.n).1=x;simp only[hv,if_true];rw[ih];constructor;rintro⟨u,z⟩;have:=NW u (FW hge);simp only[hv]at this;exact⟨u,by simp[this],z⟩;rintro⟨u,_,z⟩;exact⟨u,z⟩;simp only[hv,if_false];constructor;rintro⟨p,hp,_⟩;cases hp;rintro⟨u,z,_⟩;have:=NW u (FW hge);simp only[decide_eq_true_eq]at z;rw[z]at this;exact absurd (by simpa using this.symm) hv;simp only[hg,if_false,Bool.false_eq_true];rw[ih,aEs];simp only[decide_eq_true_eq];constructor;rintro⟨⟨h1,h2⟩,z⟩;exact⟨h2,h1,z⟩;rintro⟨h2,h1,z⟩;exact⟨⟨h1,h2⟩,z⟩;rw[if_neg k2,if_neg h3,if_neg k2,ih];simp[T6]
def PT(q:AD)(b:List X2)(d:Nat)(args:List X0)(i:Nat):Bool:=match q.symbols[i]? with
 |some s=>decide (s.event=(d:Int))&&(s.args.zip args).all fun z=>T6 b z.1 z.2
 |none=>false
def mkM(q:AD)(b:List X2)(d:Nat)(args:List X0):Nat:=EL q.symbols.length (PT q b d args)
theorem Tv{q:AD}(hR:Ag q)(hS:Cf q){s:X5}(hs:s∈q.symbols):∀a∈s.args,a.kind≠3:=fun a ha h=>by have:=((hR.symbols s hs).args a ha).three h;rw[hS.frees]at this;simp at this;omega
theorem aCt{q:AD}(hR:Ag q){i j:Nat}{d d':Xm}(h1:q.decls[i]? =some d)(h2:q.decls[j]? =some d')(hn:d.name=d'.name):i=j:=by have a1:=hR.decls i d h1;have a2:=hR.decls j d' h2;rw[hn,a2]at a1;exact(Option.some.inj a1).symm
theorem aC1{q:AD}(hR:Ag q)(hS:Cf q)(b:List X2){e:Xc}{d i:Nat}{dd:Xm}(hd:q.decls[d]? =some dd)(hn:e.name=dd.name)(hl:e.args.length=dd.types.length):
 (∃h,Jm q i e=some h/\D7 h.bind b=true)↔PT q b d e.args i=true:=by
 unfold Jm PT
 cases hs:q.symbols[i]? with
 |none=>simp
 |some s=>
  have hsm:=List.mem_of_getElem? hs
  obtain⟨d',hd',hlen⟩:=(hR.symbols s hsm).decl
  have h0:=(hR.symbols s hsm).event
  simp only[hd',ba,decide_eq_true_eq]
  by_cases he:s.event=(d:Int)
  have:s.event.toNat=d:=by omega
  rw[this,hd]at hd'
  cases hd'
  rw[if_pos ⟨hn.symm,by omega⟩]
  have:=Rf b s.args e.args [] [] (by omega) (Tv hR hS hsm)
  rw[List.all_eq_true]
  constructor
  rintro⟨h,hh,hu⟩
  obtain⟨p,hp,rfl⟩:=om.1 hh
  exact⟨he,(this.1 ⟨p,hp,hu⟩).2⟩
  rintro⟨_,hz⟩
  obtain⟨p,hp,hu⟩:=this.2 ⟨by simp[D7],hz⟩
  exact⟨_,by rw[hp];rfl,hu⟩
  constructor
  rintro⟨h,hh,_⟩
  split at hh
  rename_i hc
  have:=aCt hR hd' hd (by rw[hc.1,hn])
  omega
  cases hh
  rintro⟨h,_⟩;exact absurd h he
theorem aTm{q:AD}(hF:Dt q)(hR:Ag q)(hS:Cf q)(b:List X2){e:Xc}{d:Nat}{dd:Xm}(hd:q.decls[d]? =some dd)(hn:e.name=dd.name)(hl:e.args.length=dd.types.length):
 Zb (((List.range q.symbols.length).filterMap fun i=>Jm q i e).filter fun h=>D7 h.bind b)=some ((mkM q b d e.args:Nat):Int):=by
 obtain⟨M,hM,_,hb⟩:=aQp hF.symbols (Ti hF hR hS e b)
 rw[hM]
 congr 2
 apply RQ
 intro k
 rw[hb]
 unfold mkM
 rw[E5]
 simp only[List.mem_filter,List.mem_filterMap,List.mem_range]
 constructor
 rintro⟨h,⟨⟨i,hi,hh⟩,hu⟩,hk⟩
 have hik:i=k:=by have:=(Mx hh).1;omega
 subst hik
 exact⟨hi,(aC1 hR hS b hd hn hl).1 ⟨h,hh,hu⟩⟩
 rintro⟨hk,hf⟩
 obtain⟨h,hh,hu⟩:=(aC1 hR hS b hd hn hl).2 hf
 exact⟨h,⟨⟨k,hk,hh⟩,hu⟩,(Mx hh).1⟩
theorem aWy{q:AD}(hF:Dt q)(d:Nat):Y7 q (d:Int)=some ((mkM q [] d []:Nat):Int):=by
 have hsy:=hF.symbols;have h:=M6 (step:=fun s:Int×Int=>HF (d:Int) q.symbols (q.symbols.length:Int) s.1 s.2) hsy (PT q [] d []) (fun i w hi hw=>by
  obtain⟨x,hx,_⟩:=Aa hi;have hwi:IntKind.wrap .u64 (i:Int)=(i:Int):=At (by omega);simp only[HF,ltD hx,AI,aKh,AN hx,aKj,hwi,Ai (show(0:Int)<=(i:Int) by omega),Aq hx (show q.symbols.length<=9223372036854775807 by omega)];unfold PT;rw[hx];by_cases he:x.event=(d:Int);simp only[he,decide_true,AI,AB,List.zip_nil_right,List.all_nil,Bool.and_self,if_true];rw[aOy (by omega),orU (by omega) (Nat.lt_of_lt_of_le (Nat.pow_lt_pow_right (by decide) (show i<12 by omega)) (by decide))];simp only[he,decide_false,AJ,AB,Bool.false_and,Bool.false_eq_true,if_false]) (fun w=>by
  simp only[HF,ltI,AJ])
 unfold Y7 XR;rw[h,AB];rfl
theorem aUk(b:List X2)(v:Int)(hb:b.length<=1000):Yj b v=some (EG b v):=by
 have hl:=EO (step:=fun s=>HJ v b (b.length:Int) zV s) b (fun _ t=>if t.var=v then some (Sum.inr t.value:Unit⊕X0)else none) (.inl ())
  (fun i x hx=>by simp only[HJ,ltD hx,AI,AN hx,Aq hx (show b.length<=9223372036854775807 by omega)];by_cases h:x.var=v<;>simp[h,AE]) (by simp only[HJ,ltI,AJ])
 unfold Yj ZH;have hz:(X0.mk 0 0 ([]:List UInt8) false)=zV:=rfl;rw[hz,hl,AB,Dm (fun t:X2=>if t.var=v then some (Sum.inr t.value:Unit⊕X0)else none)]
 unfold EG;have:(b.findSome? fun t=>if t.var=v then some (Sum.inr t.value:Unit⊕X0)else none)=(b.findSome? fun s=>if s.var=v then some s.value else none).map Sum.inr:=by
  clear hl hb;induction b with
  |nil=>rfl
  |cons x b ih=>
   rw[List.findSome?_cons,List.findSome?_cons]
   by_cases h:x.var=v
   simp[h]
   simp only[h,if_false];exact ih
 rw[this];cases(b.findSome? fun s=>if s.var=v then some s.value else none)<;>rfl
theorem aTb(p:Xq)(a:B0)(x:X0)(hb:p.b.length<=1000):Zw p a x=some (T6 p.b a x):=by
 unfold Zw T6;rw[aUk _ _ hb];by_cases k1:a.kind=1;simp[k1,AE,X0.eqb_dec];by_cases k2:a.kind=2;simp only[k2,decide_true,AI,if_true,show¬(2:Int)=1 by decide,decide_false,AJ,if_false,AB];cases hg:EG p.b a.n with
 |mk v f=>cases f with
  |true=>simp[AE,X0.eqb_dec]
  |false=>simp[AE]
 simp[k1,k2,AE]
def Hu(q:AD)(b:List X2)(d k:Nat)(v:X0)(i:Nat):Bool:=match q.symbols[i]? with
 |some s=>decide (s.event=(d:Int))&&(match s.args[k]? with
  |some a=>T6 b a v
  |none=>false)
 |none=>false
theorem aT5{q:AD}(hF:Dt q)(hR:Ag q){b:List X2}(hb:b.length<=1000){d k:Nat}{dd:Xm}(hd:q.decls[d]? =some dd)(hk:k<dd.types.length)(v:X0):
 Xu (Xq.mk q b (d:Int) (k:Int)) v=some ((EL q.symbols.length (Hu q b d k v):Nat):Int):=by
 have hsy:=hF.symbols
 have h:=M6 (step:=fun s:Int×Int=>F8 q.symbols (q.symbols.length:Int) (Xq.mk q b (d:Int) (k:Int)) v s.1 s.2) hsy (Hu q b d k v) (fun i w hi hw=>by
  obtain⟨x,hx,_⟩:=Aa hi;have hwi:IntKind.wrap .u64 (i:Int)=(i:Int):=At (by omega);have hxm:=List.mem_of_getElem? hx;simp only[F8,ltD hx,AI,Sw,AN hx,Oj,hwi,Ai (show(0:Int)<=(i:Int) by omega),Aq hx (show q.symbols.length<=9223372036854775807 by omega)];unfold Hu;rw[hx];by_cases he:x.event=(d:Int);obtain⟨d',hd',hlen⟩:=(hR.symbols x hxm).decl;have:x.event.toNat=d:=by omega
  rw[this,hd]at hd';cases hd';obtain⟨a,ha,_⟩:=Aa (l:=x.args) (i:=k) (by omega);simp only[he,decide_true,AI,AN ha,ha,Bool.true_and];rw[aTb (Xq.mk q b (d:Int) (k:Int)) a v hb,AB];cases T6 b a v with
  |true=>
   simp only[AI,if_true,AB]
   rw[aOy (by omega),orU (by omega) (Nat.lt_of_lt_of_le (Nat.pow_lt_pow_right (by decide) (show i<12 by omega)) (by decide))]
  |false=>simp only[AJ,Bool.false_eq_true,if_false,AB]
  simp only[he,decide_false,AJ,AB,Bool.false_and,Bool.false_eq_true,if_false]) (fun w=>by
  simp only[F8,ltI,AJ])
 unfold Xu WV
 simp only
 rw[h,AB]
theorem aEx{α β:Type}:∀{al:List α} {xs:List β} {a:α} (v:β),al[xs.length]? =some a->al.zip (xs++[v])=al.zip xs++[(a,v)]
 |a::al,[],_,v,h=>by simp at h;subst h;simp
 |[],xs,_,v,h=>by simp at h
 |a::al,x::xs,a',v,h=>by
  simp only[List.length_cons,List.getElem?_cons_succ]at h;simp[aEx v h]
theorem aDl{q:AD}(hR:Ag q){b:List X2}{d:Nat}{dd:Xm}(hd:q.decls[d]? =some dd){args:List X0}(hk:args.length<dd.types.length)(v:X0):
 mkM q b d args&&&EL q.symbols.length (Hu q b d args.length v)=mkM q b d (args++[v]):=by
 apply RQ
 intro k
 unfold mkM
 rw[Nat.testBit_and,ba,E5,E5,E5]
 unfold PT Hu
 cases hs:q.symbols[k]? with
 |none=>simp
 |some s=>
  have hxm:=List.mem_of_getElem? hs
  simp only[ba,decide_eq_true_eq]
  by_cases he:s.event=(d:Int)
  obtain⟨d',hd',hlen⟩:=(hR.symbols s hxm).decl
  have:s.event.toNat=d:=by omega
  rw[this,hd]at hd';cases hd'
  obtain⟨a,ha,_⟩:=Aa (l:=s.args) (i:=args.length) (by omega)
  rw[aEx v ha,List.all_append,ha]
  simp[he]
  constructor
  rintro⟨⟨h1,h2⟩,_,h3⟩;exact⟨h1,h2,h3⟩
  rintro⟨h1,h2,h3⟩;exact⟨⟨h1,h2⟩,h1,h3⟩
  simp[he]
theorem aP4(q:AD)(b:List X2)(d:Nat):mkM q b d []=mkM q [] d []:=by unfold mkM;congr 1;funext i;unfold PT;cases q.symbols[i]? <;>simp
theorem aUq{k:Int}(hk:k=1\/k=2){l w:List X0}(hl:l.length<=800)(hw:SW w)(hwl:w.length<=900)(hm:∀v,v.kind=k->(v∈w↔v∈l)):∃v,Xt k l=some (v,true)/\Yf k w=some v/\v∉l/\v.kind=k/\vR v=true:=by
 have hex:∃i,0<=i/\i<0+(l.length+1)/\Gn k i∉l:=by apply Classical.byContradiction;intro hn;have:=aP8 (Gn k) (fun i j h=>aOn h) (l.length+1) l (fun i hi=>Classical.byContradiction fun h=>hn ⟨i,by omega,by omega,h⟩);omega
 obtain⟨i,_,hi,hni,a4,a5⟩:=Rw hk (by omega) hw hwl hm (X0.mk 0 0 [] false) (l.length+1) 0 (by omega) hex;have h0:Gn k 0=X0.mk k 0 [] false:=by unfold Gn;split<;>rfl
 rw[h0]at a4 a5;refine⟨Gn k i,?_,?_,hni,NA k i,aDp hk (by omega)⟩;unfold Xt;rcases hk with rfl|rfl
 simp only[decide_true,Bool.not_true,AJ,a4,AB];simp only[show¬(2:Int)=1 by decide,decide_false,decide_true,Bool.not_false,Bool.not_true,AI,AJ,a4,AB];unfold Yf;rw[a5,AB]
theorem JZ{q:AD}{k:Int}{v:X0}:v∈Dh q k↔(k=3/\(v=⟨3,0,[],false⟩\/v=⟨3,0,[],true⟩))\/∃s∈q.symbols,∃a∈s.args,a.kind=1/\a.value.kind=k/\v=a.value:=by
 have h1:∀(l:List B0) (w:List X0),v∈l.foldl (Ke k) w↔v∈w\/∃a∈l,a.kind=1/\a.value.kind=k/\v=a.value:=by
  intro l;induction l with
  |nil=>intro w;simp
  |cons a l ih=>
   intro w
   rw[List.foldl_cons,ih]
   have:v∈Ke k w a↔v∈w\/(a.kind=1/\a.value.kind=k/\v=a.value):=by unfold Ke;split;rename_i h;rw[Fb];simp[h.1,h.2,or_comm];rename_i h;constructor;exact .inl;rintro(h2|⟨a1,a2,_⟩);exact h2;exact absurd ⟨a1,a2⟩ h
   rw[this]
   constructor
   rintro((h|h)|⟨b,hb,h⟩)
   exact .inl h
   exact .inr ⟨a,by simp,h⟩
   exact .inr ⟨b,List.mem_cons_of_mem _ hb,h⟩
   rintro(h|⟨b,hb,h⟩)
   exact .inl (.inl h)
   rcases mc.1 hb with rfl|hb
   exact .inl (.inr h)
   exact .inr ⟨b,hb,h⟩
 have h2:∀(l:List X5) (w:List X0),v∈l.foldl (fun w s=>s.args.foldl (Ke k) w) w↔v∈w\/∃s∈l,∃a∈s.args,a.kind=1/\a.value.kind=k/\v=a.value:=by
  intro l;induction l with
  |nil=>intro w;simp
  |cons a l ih=>
   intro w
   rw[List.foldl_cons,ih,h1]
   constructor
   rintro((h|h)|⟨b,hb,h⟩)
   exact .inl h
   exact .inr ⟨a,by simp,h⟩
   exact .inr ⟨b,List.mem_cons_of_mem _ hb,h⟩
   rintro(h|⟨b,hb,h⟩)
   exact .inl (.inl h)
   rcases mc.1 hb with rfl|hb
   exact .inl (.inr h)
   exact .inr ⟨b,hb,h⟩
 unfold Dh;rw[h2];by_cases hk:k=3;simp[hk];simp[hk]
theorem Tc{q:AD}{k:Int}{v:X0}(h:v∈Dh q k):v.kind=k:=by
 rcases JZ.1 h with⟨rfl,rfl|rfl⟩|⟨s,_,a,_,_,hk,rfl⟩
 rfl;rfl;exact hk
theorem UA{l:List X0}(hl:l.length<=1000):Xk [l,[]]=some l:=by
 have h1:OY [l,[]] [l,[]] 2 0 0=some (l.length:Int):=by
  rw[LF];unfold F4 V1 V2;rw[show decide ((0:Int)<2)=true from rfl,AI,Rj,LV (a:=0) (b:=(l.length:Int)) (by omega) (by omega),decide_eq_false (by omega),AJ,AB,AB,BC];simp only;rw[LF];unfold F4 V1 V2;have e1:AA .add .i64 0 1=1:=LV (a:=0) (b:=1) (by omega) (by omega);have e2:AA .add .i64 1 1=2:=LV (a:=1) (b:=1) (by omega) (by omega);rw[e1,show decide ((1:Int)<2)=true from rfl,AI,aP0];have e3:AA .add .i64 (0+(l.length:Int)) (([]:List X0).length:Int)=(l.length:Int):=by rw[LV (by simp<;>omega) (by simp<;>omega)];simp
  rw[e3,decide_eq_false (by omega),AJ,AB,AB,BC,e2];simp only;rw[LF];unfold F4;rw[show decide ((2:Int)<2)=false from rfl,AJ,Ad]
 have h2:Oa [l,[]] 2 0 []=some l:=by have e1:AA .add .i64 0 1=1:=LV (a:=0) (b:=1) (by omega) (by omega);have e2:AA .add .i64 1 1=2:=LV (a:=1) (b:=1) (by omega) (by omega);rw[LG];unfold F5;rw[show decide ((0:Int)<2)=true from rfl,AI,Rj,Ai (BI (by simp;omega) (by decide)),BC,e1];simp only[List.nil_append];rw[LG];unfold F5;rw[show decide ((1:Int)<2)=true from rfl,AI,aP0,Ai (BI (by simp;omega) (by decide)),BC,e2];simp only[List.append_nil];rw[LG];unfold F5;rw[show decide ((2:Int)<2)=false from rfl,AJ,Ad]
 unfold Xk;have hln:(([l,[]]:List (List X0)).length:Int)=2:=rfl;rw[hln,h1,AB];have hg:Qp (l.length:Int)=some []:=by unfold Qp aN3;rw[if_pos ⟨by omega,by simp;omega,by omega⟩]
 rw[hg,AB,h2,AB]
def MG(t:Int)(w:List X0)(s:X2):List X0:=if s.value.kind=t/\s.value∉w then w++[s.value]else w
def KO(t:Int)(w:List X0)(s:X2):List X0:=if s.value.kind=t then Nd w s.value else w
theorem RU(t:Int)(v:X0):∀(b:List X2) (w:List X0),v∈b.foldl (MG t) w↔v∈w\/∃s∈b,s.value=v/\v.kind=t
 |[],w=>by simp
 |s::b,w=>by
  rw[List.foldl_cons,RU t v b];have:v∈MG t w s↔v∈w\/(s.value=v/\v.kind=t):=by unfold MG;split;rename_i h;simp only[ma,List.mem_singleton];constructor;rintro(h2|rfl);exact .inl h2;exact .inr ⟨rfl,h.1⟩;rintro(h2|⟨rfl,_⟩);exact .inl h2;exact .inr rfl;rename_i h;constructor;exact .inl;rintro(h2|⟨rfl,h3⟩);exact h2;exact Classical.byContradiction fun hn=>h ⟨h3,hn⟩
  rw[this];simp only[mc,exists_eq_or_imp];rw[or_assoc]
theorem FM(t:Int)(v:X0):∀(b:List X2) (w:List X0),v∈b.foldl (KO t) w↔v∈w\/∃s∈b,s.value=v/\v.kind=t
 |[],w=>by simp
 |s::b,w=>by
  rw[List.foldl_cons,FM t v b];have:v∈KO t w s↔v∈w\/(s.value=v/\v.kind=t):=by unfold KO;split;rename_i h;rw[Fb];constructor;rintro(rfl|h2);exact .inr ⟨rfl,h⟩;exact .inl h2;rintro(h2|⟨rfl,_⟩);exact .inr h2;exact .inl rfl;rename_i h;constructor;exact .inl;rintro(h2|⟨rfl,h3⟩);exact h2;exact absurd h3 h
  rw[this];simp only[mc,exists_eq_or_imp];rw[or_assoc]
theorem aCj(t:Int)(w:List X0)(s:X2):(MG t w s).length<=w.length+1:=by unfold MG;split<;>simp
theorem RT(t:Int):∀(b:List X2) (w:List X0),(b.foldl (MG t) w).length<=w.length+b.length
 |[],w=>by simp
 |s::b,w=>by
  rw[List.foldl_cons];have h1:=RT t b (MG t w s);have h2:(MG t w s).length<=w.length+1:=by unfold MG;split<;>simp
  simp only[List.length_cons];omega
theorem RV{t:Int}:∀{b:List X2} {w:List X0},(∀s∈b,vR s.value=true)->SW w->SW (b.foldl (KO t) w)/\(b.foldl (KO t) w).length<=w.length+b.length
 |[],w,_,hw=>⟨hw,by simp⟩
 |s::b,w,hb,hw=>by
  rw[List.foldl_cons];have h2:SW (KO t w s)/\(KO t w s).length<=w.length+1:=by unfold KO;split;have:=MN hw (hb s (by simp));exact⟨this.1,by rw[this.2];split<;>omega⟩;exact⟨hw,by omega⟩
  have h1:=RV (t:=t) (fun s hs=>hb s (List.mem_cons_of_mem _ hs)) h2.1;refine⟨h1.1,?_⟩;simp only[List.length_cons];omega
theorem vR3{v:X0}(hv:vR v=true)(hk:v.kind=3):v=⟨3,0,[],false⟩\/v=⟨3,0,[],true⟩:=by
 obtain⟨k,i,s,b⟩:=v;simp only at hk;subst hk;rcases H7 hv with h|h|h
 simp at h;simp at h;obtain⟨_,h2,h3⟩:=h;simp only at h2 h3;subst h2;subst h3;cases b<;>simp
structure aYi(q:AD)(b:List X2)(t:Int)(jl rl:List X0):Prop where
 same:∀v,v∈jl↔v∈rl
 jlen:jl.length<=300
 rlen:rl.length<=300
 kind:∀v∈rl,v.kind=t/\vR v=true
 whole:∀v,vR v=true->v.kind=t->∃v'∈rl,∀s∈q.symbols,∀a∈s.args,T6 b a v'=T6 b a v
theorem aEv{q:AD}(hF:Dt q)(hR:Ag q){b:List X2}(hB:BR b){d k:Nat}{dd:Xm}{t:Int}(hd:q.decls[d]? =some dd)(ht:dd.types[k]? =some t)(h13:1<=t/\t<=3):
 ∃jl rl,Xn (Xq.mk q b (d:Int) (k:Int)) []=some jl/\Ym q t b []=some rl/\aYi q b t jl rl:=by
 have hbl:=T9 hB
 have hbv:∀s∈b,vR s.value=true:=fun s hs=>(hB.2 s hs).2.2
 obtain⟨hcw,hcl⟩:=cons_inv hF hR t
 have hjl:=RT t b (Dh q t)
 have hG:=RV (t:=t) hbv hcw
 have hmem:∀v,v∈b.foldl (KO t) (Dh q t)↔v∈b.foldl (MG t) (Dh q t):=fun v=>by rw[FM,RU]
 have hkind:∀v∈b.foldl (KO t) (Dh q t),v.kind=t:=fun v hv=>by
  rcases(FM t v b _).1 hv with h|⟨s,_,_,h⟩
  exact Tc h;exact h
 --the program's loop over the binding
 have e1:Sn [] t b (b.length:Int) 0 (Dh q t)=some (b.foldl (MG t) (Dh q t)):=by unfold Sn;refine D4 (step:=fun s:Int×List X0=>F6 [] t b (b.length:Int) s.1 s.2) b (MG t) (fun w=>w) (fun i w=>w.length<=200+i) (fun i x w hx hI=>?_) (fun w _=>by simp only[F6,ltI,AJ]) _ (by omega);have hlt:=(List.getElem?_eq_some_iff.1 hx).1;refine⟨?_,by have:=aCj t w x;omega⟩;simp only[F6,ltD hx,AI,Sm,Oe,AN hx,Aq hx (show b.length<=9223372036854775807 by omega)];unfold MG;by_cases h1:x.value.kind=t;rw[Dp,if_pos h1,H8 _ _ (by omega),AB];by_cases h2:x.value∈w;rw[decide_eq_true h2,if_neg (fun h=>h.2 h2)];rfl;rw[decide_eq_false h2,if_pos ⟨h1,h2⟩,Bool.not_false,AI,Ai (BI (by simp;omega) (by decide))];rfl;rw[Dp,if_neg h1,if_neg (fun h=>h1 h.1)];rfl
 have e2:aLs t b [] (Dh q t) 0=some (b.foldl (KO t) (Dh q t)):=by unfold aLs;refine HW (step:=fun s:List X0×Int=>I4 t b [] s.1 s.2) b (KO t) (fun w=>w) (fun i w=>SW w/\w.length<=200+i) (fun i x w hx hI=>?_) (fun w _=>by simp only[I4,ltI,AJ]) _ ⟨hcw,by omega⟩;have hlt:=(List.getElem?_eq_some_iff.1 hx).1;have hxv:=hbv x (List.mem_of_getElem? hx);have hput:=MN hI.1 hxv;refine⟨?_,?_⟩;simp only[I4,ltD hx,AI,aLo,aLq,AN hx,Aq hx (show b.length<=9223372036854775807 by omega)];unfold KO;by_cases h1:x.value.kind=t;rw[Dp,if_pos h1,if_pos h1,aL4 hI.1 hxv (by have:=hI.2;omega)];rfl;rw[Dp,if_neg h1,if_neg h1];rfl;unfold KO;split;refine⟨hput.1,?_⟩;rw[hput.2];have:=hI.2;split<;>omega;exact⟨hI.1,by have:=hI.2;omega⟩
 have eJ:Xn (Xq.mk q b (d:Int) (k:Int)) []=(AG (Xt t (b.foldl (MG t) (Dh q t))) fun r11=>AG (Of r11.2 (b.foldl (MG t) (Dh q t)) r11.1) fun o12=>some o12):=by unfold Xn;simp only;rw[AN hd,AN ht,aYo hF hR,AB,e1,AB,UA (by omega),AB]
 by_cases h3:t=3
 subst h3
 have hN:Xt 3 (b.foldl (MG 3) (Dh q 3))=some (X0.mk 0 0 [] false,false):=by unfold Xt;rfl
 refine⟨_,_,by rw[eJ,hN,AB];unfold Of;rfl,?_,fun v=>(hmem v).symm,by omega,by omega,fun v hv=>⟨hkind v hv,hG.1.2 v hv⟩,fun v hv hk=>⟨v,?_,fun _ _ _ _=>rfl⟩⟩
 unfold Ym
 rw[aVf hF hR,AB,e2,AB];rfl
 rw[FM]
 exact .inl (JZ.2 (.inl ⟨rfl,vR3 hv hk⟩))
 have h12:t=1\/t=2:=by omega
 obtain⟨nv,n1,n2,n3,n4,n5⟩:=aUq h12 (l:=b.foldl (MG t) (Dh q t)) (w:=b.foldl (KO t) (Dh q t)) (by omega) hG.1 (by omega) (fun v _=>hmem v)
 have hput:=MN hG.1 n5
 refine⟨b.foldl (MG t) (Dh q t)++[nv],Nd (b.foldl (KO t) (Dh q t)) nv,?_,?_,fun v=>?_,by simp;omega,by rw[hput.2];split<;>omega,fun v hv=>?_,fun v hv hk=>?_⟩
 rw[eJ,n1,AB]
 unfold Of
 simp only
 rw[AI,Ai (BI (by simp;omega) (by decide)),AB]
 unfold Ym
 have hof:Ys [] t=some []:=by unfold Ys;rw[aL9];unfold LL;rfl
 have hun:Z9 (b.foldl (KO t) (Dh q t)) []=some (b.foldl (KO t) (Dh q t)):=by unfold Z9;rw[aMz];unfold LN;rfl
 rw[aVf hF hR,AB,e2,AB,decide_eq_false h3,AJ,hof,AB,hun,AB,n2,AB,aL4 hG.1 n5 (by omega),AB]
 rw[Fb,hmem,ma,List.mem_singleton,or_comm]
 rcases Fb.1 hv with rfl|h
 exact⟨n4,n5⟩
 exact⟨hkind v h,hG.1.2 v h⟩
 by_cases hin:v∈b.foldl (KO t) (Dh q t)
 exact⟨v,Fb.2 (.inr hin),fun _ _ _ _=>rfl⟩
 refine⟨nv,Fb.2 (.inl rfl),fun s hs a ha=>?_⟩
 have hnv:nv∉b.foldl (KO t) (Dh q t):=fun h=>n3 ((hmem nv).1 h)
 have key:∀x:X0,(x.kind=t->x∈b.foldl (KO t) (Dh q t))->x≠v/\x≠nv:=fun x hx=>by refine⟨fun e=>hin (e▸hx (by rw[e];exact hk)),fun e=>hnv (e▸hx (by rw[e];exact n4))⟩
 unfold T6
 by_cases k1:a.kind=1
 have:=key a.value (fun h=>(FM t _ b _).2 (.inl (JZ.2 (.inr ⟨s,hs,a,ha,k1,h,rfl⟩))))
 rw[if_pos k1,if_pos k1,decide_eq_false this.1,decide_eq_false this.2]
 rw[if_neg k1,if_neg k1]
 by_cases k2:a.kind=2
 rw[if_pos k2,if_pos k2]
 cases hg:EG b a.n with
 |mk x f=>
  cases f with
  |false=>simp
  |true=>
   have:=key x (fun h=>(FM t _ b _).2 (.inr ⟨_,FW hg,rfl,h⟩))
   rw[decide_eq_false (fun e=>this.2 (by simpa using e)),decide_eq_false (fun e=>this.1 (by simpa using e))]
 rw[if_neg k2,if_neg k2]
structure KS(S:List (Int×Bool))(P:Nat->Prop):Prop where
 nd:(S.map (·.1)).Nodup
 tr:∀x∈S,x.2=true
 is:∀x:Int,x∈S.map (·.1)↔ ∃n:Nat,x=(n:Int)/\P n
theorem aDo{α β:Type}(f:α->β):∀{l:List α},(l.map f).Nodup->l.Nodup
 |[],_=>List.nodup_nil
 |a::l,h=>by
  rw[List.map_cons,List.nodup_cons]at h;exact List.nodup_cons.2 ⟨fun hm=>h.1 (mm.2 ⟨a,hm,rfl⟩),aDo f h.2⟩
theorem KS.perm{S S':List (Int×Bool)}{P:Nat->Prop}(h:KS S P)(h':KS S' P):S.Perm S':=by
 rw[List.perm_ext_iff_of_nodup (aDo _ h.nd) (aDo _ h'.nd)];have key:∀{A B:List (Int×Bool)},KS A P->KS B P->∀a∈A,a∈B:=fun{A B} hA hB a ha=>by obtain⟨b,hb,e⟩:=mm.1 ((hB.is a.1).2 ((hA.is a.1).1 (mm.2 ⟨a,ha,rfl⟩)));have:b=a:=Prod.ext e (by rw[hB.tr b hb,hA.tr a ha]);exact this▸hb
 exact fun a=>⟨key h h' a,key h' h a⟩
theorem KS.of_perm{S S':List (Int×Bool)}{P:Nat->Prop}(h:KS S P)(hp:S'.Perm S):KS S' P:=
 ⟨(hp.map _).nodup_iff.2 h.nd,fun x hx=>h.tr x (hp.mem_iff.1 hx),fun x=>by rw[(hp.map _).mem_iff,h.is]⟩
theorem KS.can{S S':List (Int×Bool)}{P:Nat->Prop}(h:KS S P)(h':KS S' P):aOd S=aOd S':=by have h1:=h.of_perm (GW S);have h2:=h'.of_perm (GW S');refine List.Perm.eq_of_pairwise (le:=fun a b:Int×Bool=>a.1<=b.1) (fun a b ha hb e1 e2=>?_) (Jq S) (Jq S') (h1.perm h2);exact Prod.ext (by omega) (by rw[h1.tr a ha,h2.tr b hb])
theorem KS.congr{S:List (Int×Bool)}{P Q:Nat->Prop}(h:KS S P)(hq:∀n,P n↔Q n):KS S Q:=⟨h.nd,h.tr,fun x=>by rw[h.is];simp only[hq]⟩
theorem KS.nil:KS [] (fun _=>False):=⟨List.nodup_nil,(fun x hx=>by cases hx),fun x=>by simp⟩
theorem J4(k:Int)(v:Bool)(x:Int):∀S:List (Int×Bool),x∈(GP k v S).map (·.1)↔x=k\/x∈S.map (·.1)
 |[]=>by simp[GP]
 |y::S=>by
  rw[GP];split;rename_i h;simp[h];rename_i h;simp only[List.map_cons,mc,J4 k v x S];constructor;rintro(h|h|h);exact .inr (.inl h);exact .inl h;exact .inr (.inr h);rintro(h|h|h);exact .inr (.inl h);exact .inl h;exact .inr (.inr h)
theorem aDz(k:Int)(v:Bool):∀{S:List (Int×Bool)},(S.map (·.1)).Nodup->((GP k v S).map (·.1)).Nodup
 |[],_=>by simp[GP]
 |y::S,h=>by
  rw[List.map_cons,List.nodup_cons]at h;rw[GP];split;rename_i e;rw[List.map_cons,List.nodup_cons];exact⟨by rw[<-e];exact h.1,h.2⟩;rename_i e;rw[List.map_cons,List.nodup_cons];refine⟨fun hm=>?_,aDz k v h.2⟩;rcases(J4 k v y.1 S).1 hm with h2|h2
  exact e h2;exact h.1 h2
theorem aD1(k:Int):∀{S:List (Int×Bool)},(∀x∈S,x.2=true)->∀x∈GP k true S,x.2=true
 |[],_,x,hx=>by simp[GP]at hx;rw[hx]
 |y::S,h,x,hx=>by
  rw[GP]at hx;split at hx;rcases mc.1 hx with rfl|hx
  rfl;exact h x (List.mem_cons_of_mem _ hx);rcases mc.1 hx with rfl|hx
  exact h _ (by simp);exact aD1 k (fun z hz=>h z (List.mem_cons_of_mem _ hz)) x hx
theorem KS.put{S:List (Int×Bool)}{P:Nat->Prop}(h:KS S P)(m:Nat):KS (GP (m:Int) true S) (fun n=>P n\/n=m):=by refine⟨aDz _ _ h.nd,aD1 _ h.tr,fun x=>?_⟩;rw[J4,h.is];constructor;rintro(rfl|⟨n,rfl,hn⟩);exact⟨m,rfl,.inr rfl⟩;exact⟨n,rfl,.inl hn⟩;rintro⟨n,rfl,hn|rfl⟩;exact .inr ⟨n,rfl,hn⟩;exact .inl rfl
theorem Mk(k x:Int):∀{S:List (Int×Bool)},(S.map (·.1)).Nodup->(x∈(Nb k S).map (·.1)↔x≠k/\x∈S.map (·.1))
 |[],_=>by simp[Nb]
 |y::S,h=>by
  rw[List.map_cons,List.nodup_cons]at h;rw[Nb];split;rename_i e;rw[List.map_cons,mc];constructor;intro hx;exact⟨fun e2=>h.1 (by rw[e,<-e2];exact hx),.inr hx⟩;rintro⟨h1,h2|h2⟩;exact absurd (h2.trans e) h1;exact h2;rename_i e;rw[List.map_cons,mc,List.map_cons,mc,Mk k x h.2];constructor;rintro(h1|⟨h1,h2⟩);exact⟨fun e2=>e (h1.symm.trans e2),.inl h1⟩;exact⟨h1,.inr h2⟩;rintro⟨h1,h2|h2⟩;exact .inl h2;exact .inr ⟨h1,h2⟩
theorem Lk(k:Int):∀(S:List (Int×Bool)),(Nb k S).Sublist S
 |[]=>List.Sublist.refl _
 |y::S=>by
  rw[Nb];split;exact List.sublist_cons_self _ _;exact(Lk k S).cons_cons y
theorem KS.del{S:List (Int×Bool)}{P:Nat->Prop}(h:KS S P):KS (Nb 0 S) (fun n=>P n/\n≠0):=by refine⟨h.nd.sublist ((Lk 0 S).map _),fun x hx=>h.tr x ((Lk 0 S).subset hx),fun x=>?_⟩;rw[Mk 0 x h.nd,h.is];constructor;rintro⟨h1,n,rfl,hn⟩;exact⟨n,rfl,hn,by omega⟩;rintro⟨n,rfl,hn,h0⟩;exact⟨by omega,n,rfl,hn⟩
theorem Mt{α σ:Type}(f:σ->α->σ):∀(l:List α) (s:σ),ED (fun x s=>some (f s x)) s l=some (l.foldl f s)
 |[],_=>rfl
 |x::l,s=>by rw[ED,AB,List.foldl_cons];exact Mt f l _
theorem KS.fold{P:Nat->Prop}(f:Nat->Nat):∀{p:List (Int×Bool)} {S:List (Int×Bool)} {Q:Nat->Prop},(∀x∈p,∃n:Nat,x.1=(n:Int)/\P n)->KS S Q->
 KS (p.foldl (fun s x=>GP ((f x.1.toNat:Nat):Int) true s) S) (fun n=>Q n\/∃x∈p,n=f x.1.toNat)
 |[],S,Q,_,h=>h.congr fun n=>by simp
 |x::p,S,Q,hp,h=>by
  rw[List.foldl_cons];refine(KS.fold f (fun y hy=>hp y (List.mem_cons_of_mem _ hy)) (h.put (f x.1.toNat))).congr fun n=>?_;simp only[mc,exists_eq_or_imp];rw[or_assoc]
theorem Mo{S0 S:List (Int×Bool)}{P Q:Nat->Prop}(f:Nat->Nat){c:List (Int×Bool)->List (Int×Bool)}(hc:c=fun s=>aOd s){step:Int×Bool->List (Int×Bool)->Option (List (Int×Bool))}
 (hs:∀(n:Nat) (v:Bool) (s:List (Int×Bool)),P n->step ((n:Int),v) s=some (GP ((f n:Nat):Int) true s)) (h0:KS S0 P) (h:KS S Q):
 ∃S',Fi c S0 step S=some S'/\KS S' (fun n=>Q n\/∃m,P m/\n=f m):=by
 have run:∀p:List (Int×Bool),p.Perm S0->ED step S p=some (p.foldl (fun s x=>GP ((f x.1.toNat:Nat):Int) true s) S)/\KS (p.foldl (fun s x=>GP ((f x.1.toNat:Nat):Int) true s) S) (fun n=>Q n\/∃m,P m/\n=f m):=fun p hp=>by
  have hk:=h0.of_perm hp;have hx:∀x∈p,∃n:Nat,x.1=(n:Int)/\P n:=fun x hx=>(hk.is x.1).1 (mm.2 ⟨x,hx,rfl⟩);constructor;rw[<-Mt (fun s x=>GP ((f x.1.toNat:Nat):Int) true s) p S];clear hp hk;revert hx;generalize S=s;revert s;induction p with
  |nil=>intro s _;rfl
  |cons x p ih=>
   intro s hx
   obtain⟨n,e,hn⟩:=hx x (by simp)
   obtain⟨x1,x2⟩:=x
   simp only at e
   subst e
   rw[ED,ED,hs n x2 s hn]
   exact ih _ fun y hy=>hx y (List.mem_cons_of_mem _ hy)
  refine(KS.fold f hx h).congr fun n=>?_;constructor;rintro(h1|⟨x,hxp,rfl⟩);exact .inl h1;obtain⟨m,e,hm⟩:=hx x hxp;exact .inr ⟨m,hm,by rw[e];rfl⟩;rintro(h1|⟨m,hm,rfl⟩);exact .inl h1;obtain⟨x,hxp,e⟩:=mm.1 ((hk.is (m:Int)).2 ⟨m,rfl,hm⟩);exact .inr ⟨x,hxp,by rw[e];rfl⟩
 obtain⟨r0,k0⟩:=run S0 (List.Perm.refl _)
 refine⟨aOd (S0.foldl (fun s x=>GP ((f x.1.toNat:Nat):Int) true s) S),Jd fun p hp=>?_,k0.of_perm (GW _)⟩
 obtain⟨r1,k1⟩:=run p hp
 exact⟨_,r1,by rw[hc];exact k1.can k0⟩
def VS(q:AD)(b:List X2)(t:Int)(v:X0):Prop:=∃rl,Ym q t b []=some rl/\v∈rl
def MS(q:AD)(b:List X2)(d:Nat)(dd:Xm)(k n:Nat):Prop:=∃args:List X0,args.length=k/\(∀(j:Nat) v t,args[j]? =some v->dd.types[j]? =some t->VS q b t v)/\n=mkM q b d args
theorem aQm{q:AD}(hF:Dt q){b:List X2}{d:Nat}{dd:Xm}{k n:Nat}(h:MS q b d dd k n):n<4096:=by obtain⟨args,_,_,rfl⟩:=h;have:=hF.symbols;exact Nat.lt_of_lt_of_le (H3 _ _) (show 2^q.symbols.length<=2^12 from Nat.pow_le_pow_right (by decide) this)
theorem aQo{q:AD}{b:List X2}{d:Nat}{dd:Xm}{n:Nat}:MS q b d dd 0 n↔n=mkM q [] d []:=by constructor;rintro⟨args,hl,_,rfl⟩;rw[List.eq_nil_of_length_eq_zero hl,aP4];rintro rfl;exact⟨[],rfl,(fun j v t h=>by simp at h),(aP4 q b d).symm⟩
theorem aQn{q:AD}(hR:Ag q){b:List X2}{d k:Nat}{dd:Xm}{t:Int}(hd:q.decls[d]? =some dd)(ht:dd.types[k]? =some t){n:Nat}:
 MS q b d dd (k+1) n↔ ∃v,VS q b t v/\∃m,MS q b d dd k m/\n=m&&&EL q.symbols.length (Hu q b d k v):=by
 have hk:=(List.getElem?_eq_some_iff.1 ht).1
 constructor
 rintro⟨args,hl,hv,rfl⟩
 obtain⟨v,hvk,_⟩:=Aa (l:=args) (i:=k) (by omega)
 have hsplit:args=args.take k++[v]:=by have h1:args.take (k+1)=args:=List.take_of_length_le (by omega);rw[List.take_add_one,hvk]at h1;exact h1.symm
 have hlt:(args.take k).length=k:=by rw[List.length_take];omega
 refine⟨v,hv k v t hvk ht,_,⟨args.take k,hlt,fun j w t' hj ht'=>hv j w t' ?_ ht',rfl⟩,?_⟩
 rw[hsplit,List.getElem?_append_left ((List.getElem?_eq_some_iff.1 hj).1)];exact hj
 have:=aDl hR (b:=b) hd (args:=args.take k) (by omega) v
 rw[hlt]at this
 rw[this,<-hsplit]
 rintro⟨v,hv,m,⟨args,hl,ha,rfl⟩,rfl⟩
 refine⟨args++[v],by simp[hl],fun j w t' hj ht'=>?_,?_⟩
 by_cases hj2:j<args.length
 rw[List.getElem?_append_left hj2]at hj;exact ha j w t' hj ht'
 have hj3:=(List.getElem?_eq_some_iff.1 hj).1
 simp at hj3
 have:j=k:=by omega
 subst this
 rw[<-hl,List.getElem?_append_right (Nat.le_refl _)]at hj
 simp at hj
 subst hj
 rw[ht]at ht';cases ht'
 exact hv
 rw[<-hl];exact aDl hR hd (by omega) v
theorem aEr{q:AD}{d:Nat}{dd:Xm}(hT:∀d∈q.decls,∀t∈d.types,(1:Int)<=t/\t<=3)(hd:q.decls[d]? =some dd){k:Nat}{t:Int}(ht:dd.types[k]? =some t):1<=t/\t<=3:=
 hT dd (List.mem_of_getElem? hd) t (List.mem_of_getElem? ht)
theorem aDm{q:AD}(hF:Dt q)(hR:Ag q)(hT:∀d∈q.decls,∀t∈d.types,(1:Int)<=t/\t<=3){b:List X2}(hB:BR b){d k:Nat}{dd:Xm}{t:Int}(hd:q.decls[d]? =some dd)(ht:dd.types[k]? =some t){S0:List (Int×Bool)}(h0:KS S0 (MS q b d dd k)):
 ∃S',Xi (Xq.mk q b (d:Int) (k:Int)) S0=some S'/\KS S' (MS q b d dd (k+1)):=by
 have hbl:=T9 hB
 have hk:=(List.getElem?_eq_some_iff.1 ht).1
 obtain⟨jl,rl,hj,hr,hV⟩:=aEv hF hR hB hd ht (aEr hT hd ht)
 have hsy:=hF.symbols
 have hW:∀v,EL q.symbols.length (Hu q b d k v)<4096:=fun v=>Nat.lt_of_lt_of_le (H3 _ _) (show 2^q.symbols.length<=2^12 from Nat.pow_le_pow_right (by decide) hsy)
 obtain⟨S',hS,hK⟩:=BB (step:=fun s:Int×List (Int×Bool)=>Fz jl (jl.length:Int) S0 (Xq.mk q b (d:Int) (k:Int)) s.1 s.2)
  (fun s=>∃i:Nat,s.1=(i:Int)/\i<=jl.length/\KS s.2 (fun n=>∃v∈jl.take i,∃m,MS q b d dd k m/\n=m&&&EL q.symbols.length (Hu q b d k v)))
  (fun s=>(jl.length-s.1).toNat)
  (fun S'=>KS S' (fun n=>∃v∈jl,∃m,MS q b d dd k m/\n=m&&&EL q.symbols.length (Hu q b d k v)))
  (by
   rintro⟨s,S⟩ ⟨i,rfl,hi,hS⟩;simp only at hS⊢;have hjl:=hV.jlen;by_cases he:i=jl.length;subst he;rw[List.take_length]at hS;exact .inl ⟨S,by simp only[Fz,ltI,AJ],hS⟩;right;obtain⟨x,hx,_⟩:=Aa (l:=jl) (i:=i) (by omega);obtain⟨S2,e2,k2⟩:=Mo (f:=fun m=>m&&&EL q.symbols.length (Hu q b d k x)) (S:=S) (c:=Ib ((EL q.symbols.length (Hu q b d k x):Nat):Int) jl (jl.length:Int) (i:Int) S0 (Xq.mk q b (d:Int) (k:Int))) rfl
    (step:=fun(x_1:Int×Bool) (s:List (Int×Bool))=>F1 ((EL q.symbols.length (Hu q b d k x):Nat):Int) jl (jl.length:Int) (i:Int) S0 (Xq.mk q b (d:Int) (k:Int)) x_1.1 x_1.2 s)
    (fun n v s hn=>by simp only[F1];have h1:=aQm hF hn;have h2:=hW x;rw[bCb (by omega) (by omega)]) h0 hS
   refine⟨(((i+1:Nat):Int),S2),?_,⟨i+1,rfl,by omega,k2.congr fun n=>?_⟩,by simp only;omega⟩;simp only[Fz,ltD hx,AI,AN hx,Aq hx (show jl.length<=9223372036854775807 by omega)];rw[aT5 hF hR (by omega) hd hk x,AB];unfold Sh Vq;rw[e2,AB,AB];rw[List.take_add_one,hx];simp only[Option.toList_some,ma,List.mem_singleton];constructor;rintro(⟨v,hv,h⟩|⟨m,hm,h⟩);exact⟨v,.inl hv,h⟩;exact⟨x,.inr rfl,m,hm,h⟩;rintro⟨v,hv|rfl,h⟩;exact .inl ⟨v,hv,h⟩;obtain⟨m,hm,h⟩:=h;exact .inr ⟨m,hm,h⟩)
  ((0:Int),[]) ⟨0,rfl,by omega,KS.nil.congr fun n=>by simp⟩
 refine⟨S',?_,hK.congr fun n=>?_⟩
 unfold Xi Vn
 rw[hj,AB,hS,AB]
 rw[aQn hR hd ht]
 constructor
 rintro⟨v,hv,h⟩;exact⟨v,⟨rl,hr,(hV.same v).1 hv⟩,h⟩
 rintro⟨v,⟨rl',hr',hv⟩,h⟩
 rw[hr]at hr';cases hr'
 exact⟨v,(hV.same v).2 hv,h⟩
def DS(q:AD)(b:List X2)(i n:Nat):Prop:=∃d dd,d<i/\q.decls[d]? =some dd/\MS q b d dd dd.types.length n
theorem aS6{q:AD}(hF:Dt q)(hR:Ag q)(hT:∀d∈q.decls,∀t∈d.types,(1:Int)<=t/\t<=3){b:List X2}(hB:BR b){d:Nat}{dd:Xm}(hd:q.decls[d]? =some dd)(h3:dd.types.length<=8)(s15:Int)(w5:List (Int×Bool)):
 ∃S',UP b (d:Int) s15 (d:Int) (dd.types.length:Int) q w5 0 (GP ((mkM q [] d []:Nat):Int) true [])=some S'/\KS S' (MS q b d dd dd.types.length):=by
 obtain⟨S',hS,hK⟩:=BB (step:=fun s:Int×List (Int×Bool)=>Fs b (d:Int) s15 (d:Int) (dd.types.length:Int) q w5 s.1 s.2)
  (fun s=>∃k:Nat,s.1=(k:Int)/\k<=dd.types.length/\KS s.2 (MS q b d dd k)) (fun s=>(dd.types.length-s.1).toNat) (fun S'=>KS S' (MS q b d dd dd.types.length))
  (by rintro⟨s,S⟩ ⟨k,rfl,hk,hS⟩;simp only at hS⊢;by_cases he:k=dd.types.length;subst he;exact .inl ⟨S,by simp only[Fs,ltI,AJ],hS⟩;right;obtain⟨t,ht,_⟩:=Aa (l:=dd.types) (i:=k) (by omega);obtain⟨S2,e2,k2⟩:=aDm hF hR hT hB hd ht hS;refine⟨(((k+1:Nat):Int),S2),?_,⟨k+1,rfl,by omega,k2⟩,by simp only;omega⟩;simp only[Fs,ltD ht,AI,Aq ht (show dd.types.length<=9223372036854775807 by omega)];rw[e2,AB])
  ((0:Int),GP ((mkM q [] d []:Nat):Int) true []) ⟨0,rfl,by omega,(KS.nil.put (mkM q [] d [])).congr fun n=>by rw[aQo];simp⟩
 exact⟨S',hS,hK⟩
theorem aWn{q:AD}(hF:Dt q)(hR:Ag q)(hT:∀d∈q.decls,∀t∈d.types,(1:Int)<=t/\t<=3)(h3:∀d∈q.decls,d.types.length<=3){b:List X2}(hB:BR b):
 ∃S',UM b (q.decls.length:Int) q 0 []=some S'/\KS S' (DS q b q.decls.length):=by
 have hdl:=hF.decls
 obtain⟨S',hS,hK⟩:=BB (step:=fun s:Int×List (Int×Bool)=>Fr b (q.decls.length:Int) q s.1 s.2)
  (fun s=>∃i:Nat,s.1=(i:Int)/\i<=q.decls.length/\KS s.2 (DS q b i)) (fun s=>(q.decls.length-s.1).toNat) (fun S'=>KS S' (DS q b q.decls.length))
  (by
   rintro⟨s,S⟩ ⟨i,rfl,hi,hS⟩;simp only at hS⊢;by_cases he:i=q.decls.length;subst he;exact .inl ⟨S,by simp only[Fr,ltI,AJ],hS⟩;right;obtain⟨dd,hd,_⟩:=Aa (l:=q.decls) (i:=i) (by omega);obtain⟨S2,e2,k2⟩:=aS6 hF hR hT hB hd (by have:=h3 dd (List.mem_of_getElem? hd);omega) (q.decls.length:Int) S;obtain⟨S3,e3,k3⟩:=Mo (f:=fun m=>m) (S:=S) (c:=IE b (q.decls.length:Int) (i:Int) q S2) rfl
    (step:=fun(x_1:Int×Bool) (s:List (Int×Bool))=>Gs b (q.decls.length:Int) (i:Int) q S2 x_1.1 x_1.2 s) (fun n v s hn=>rfl) k2 hS
   refine⟨(((i+1:Nat):Int),S3),?_,⟨i+1,rfl,by omega,k3.congr fun n=>?_⟩,by simp only;omega⟩;simp only[Fr,ltD hd,AI,AN hd,Aq hd (show q.decls.length<=9223372036854775807 by omega)];rw[aWy hF,AB,e2,AB];unfold SG US;rw[e3,AB,AB];constructor;rintro(⟨d,d2,h1,h2,h3⟩|⟨m,hm,rfl⟩);exact⟨d,d2,by omega,h2,h3⟩;exact⟨i,dd,by omega,hd,hm⟩;rintro⟨d,d2,h1,h2,h3⟩;by_cases hdi:d=i;subst hdi;rw[hd]at h2;cases h2;exact .inr ⟨n,h3,rfl⟩;exact .inl ⟨d,d2,by omega,h2,h3⟩)
  ((0:Int),[]) ⟨0,rfl,by omega,KS.nil.congr fun n=>⟨fun h=>h.elim,fun⟨d,_,h,_⟩=>by omega⟩⟩
 exact⟨S',hS,hK⟩
structure RS(L:List Int)(P:Nat->Prop):Prop where
 up:L.Pairwise (· < ·)
 is:∀x:Int,x∈L↔ ∃n:Nat,x=(n:Int)/\P n
theorem RS.uniq{L M:List Int}{P:Nat->Prop}(h:RS L P)(k:RS M P):L=M:=by
 have nd:∀{A:List Int},A.Pairwise (· < ·)->A.Nodup:=fun h=>h.imp fun h=>by omega
 exact Eu (h.up.imp fun h=>by omega) (k.up.imp fun h=>by omega) ((List.perm_ext_iff_of_nodup (nd h.up) (nd k.up)).2 fun x=>by rw[h.is,k.is])
theorem RS.len{L:List Int}{P:Nat->Prop}{m:Nat}(h:RS L P)(hP:∀n,P n->n<m):L.length<=m:=by
 have h1:L.Nodup:=h.up.imp fun h=>by omega
 have:=h1.length_le_of_subset (l₂:=(List.range m).map (fun n:Nat=>(n:Int))) fun x hx=>by obtain⟨n,rfl,hn⟩:=(h.is x).1 hx;exact mm.2 ⟨n,List.mem_range.2 (hP n hn),rfl⟩
 simpa using this
def aQt(q:AD)(b:List X2)(n:Nat):Prop:=DS q b q.decls.length n/\n≠0
theorem No{q:AD}(hF:Dt q){b:List X2}{n:Nat}(h:aQt q b n):n<4096:=by obtain⟨⟨d,dd,_,_,hm⟩,_⟩:=h;exact aQm hF hm
theorem bCu{S:List (Int×Bool)}{P:Nat->Prop}(h:KS S P)(hl:S.length<=4096):∃w,UV S []=some w/\w.Perm (S.map (·.1)):=by
 have run:∀(p:List (Int×Bool)) (w:List Int),p.length+w.length<=4096->ED (fun(x:Int×Bool) (s:List Int)=>Ez S x.1 x.2 s) w p=some (w++p.map (·.1)):=by
  intro p;induction p with
  |nil=>intro w _;simp[ED]
  |cons x p ih=>
   intro w hw
   rw[List.length_cons]at hw
   have e:Ez S x.1 x.2 w=some (w++[x.1]):=by unfold Ez;exact Ai (BI (by simp;omega) (by decide)) _
   rw[ED,e,AB,ih _ (by simp;omega)]
   simp
 refine⟨aE2 (S.map (·.1)),Jd fun p hp=>⟨_,run p [] (by rw[hp.length_eq];simp;omega),?_⟩,Dl _⟩
 show aE2 ([]++p.map (·.1))=aE2 (S.map (·.1))
 rw[List.nil_append];exact Eu (Dx _) (Dx _) ((Dl _).trans ((hp.map _).trans (Dl _).symm))
theorem aYj{q:AD}(hF:Dt q)(hR:Ag q)(hT:∀d∈q.decls,∀t∈d.types,(1:Int)<=t/\t<=3)(h3:∀d∈q.decls,d.types.length<=3){b:List X2}(hB:BR b):
 ∃L,X4 q b=some L/\RS L (aQt q b):=by
 obtain⟨S,e1,k1⟩:=aWn hF hR hT h3 hB
 have k2:KS (Nb 0 S) (aQt q b):=k1.del
 have hlen:(Nb 0 S).length<=4096:=by
  have:=k2.nd.length_le_of_subset (l₂:=(List.range 4096).map (fun n:Nat=>(n:Int))) fun x hx=>by obtain⟨n,rfl,hn⟩:=(k2.is x).1 hx;exact mm.2 ⟨n,List.mem_range.2 (No hF hn),rfl⟩
  simpa using this
 obtain⟨w,e2,p2⟩:=bCu k2 hlen
 have hsort:=P8 (w:=w) (l:=aE2 w) (by rw[p2.length_eq];simp;omega) (Dx w) (Dl w)
 refine⟨aE2 w,?_,?_,fun x=>?_⟩
 unfold X4
 rw[e1,AB]
 unfold SH
 rw[e2,AB,AB,hsort,AB]
 have hnd:(aE2 w).Nodup:=((Dl w).trans p2).nodup_iff.2 k2.nd
 exact List.Pairwise.imp (fun h=>by have h1:=h.1;have h2:=h.2;omega) ((Dx w).and hnd)
 rw[((Dl w).trans p2).mem_iff,k2.is]
def EvP(q:AD)(b:List X2)(dd:Xm)(args:List X0)(e:Xc):Prop:=
 ∃tail:List X0,args.length+tail.length=dd.types.length/\(∀(j:Nat) v t,tail[j]? =some v->dd.types[args.length+j]? =some t->VS q b t v)/\e=Xc.mk dd.name (args++tail)
theorem aE9{q:AD}{b:List X2}{dd:Xm}{args:List X0}(hl:args.length=dd.types.length)(e:Xc):EvP q b dd args e↔e=Xc.mk dd.name args:=by constructor;rintro⟨tail,h1,_,rfl⟩;rw[List.eq_nil_of_length_eq_zero (show tail.length=0 by omega),List.append_nil];rintro rfl;exact⟨[],by simpa using hl,(fun j v t h=>by simp at h),by rw[List.append_nil]⟩
theorem aFa{q:AD}{b:List X2}{dd:Xm}{args:List X0}{t:Int}(ht:dd.types[args.length]? =some t)(e:Xc):EvP q b dd args e↔ ∃v,VS q b t v/\EvP q b dd (args++[v]) e:=by
 have hk:=(List.getElem?_eq_some_iff.1 ht).1;constructor;rintro⟨tail,h1,h2,rfl⟩;cases tail with
 |nil=>simp at h1;omega
 |cons v tail=>
  refine⟨v,h2 0 v t rfl ht,tail,by simp at h1⊢;omega,fun j w t' hj ht'=>?_,by simp⟩
  refine h2 (j+1) w t' (by simpa using hj) ?_
  rw[<-ht'];congr 1;simp;omega
 rintro⟨v,hv,tail,h1,h2,rfl⟩;refine⟨v::tail,by simp at h1⊢;omega,fun j w t' hj ht'=>?_,by simp⟩;cases j with
 |zero=>
  simp at hj ht'
  subst hj
  rw[ht]at ht';cases ht'
  exact hv
 |succ j=>
  refine h2 j w t' (by simpa using hj) ?_
  rw[<-ht'];congr 1;simp;omega
theorem Ps{r:Nat}(h:r<=3):300^r<=27000000:=by
 have:r=0\/r=1\/r=2\/r=3:=by omega
 rcases this with rfl|rfl|rfl|rfl<;>decide
theorem aCy{q:AD}(hF:Dt q)(hR:Ag q)(hT:∀d∈q.decls,∀t∈d.types,(1:Int)<=t/\t<=3){b:List X2}(hB:BR b){d:Nat}{dd:Xm}(hd:q.decls[d]? =some dd)(h3:dd.types.length<=3):
 ∀(n r:Nat) (args:List X0),r<n->args.length+r=dd.types.length->∃evs,aPj n q (d:Int) b [] args=some evs/\(∀e,e∈evs↔EvP q b dd args e)/\evs.length<=300^r:=by
 intro n
 induction n with
 |zero=>intro r args h;omega
 |succ n ih=>
  intro r args hr hl
  show∃evs,aVp (aPj n) q (d:Int) b [] args=some evs/\_
  unfold aVp
  rw[AN hd]
  cases r with
  |zero=>
   refine⟨[Xc.mk dd.name args],?_,fun e=>?_,by simp⟩
   rw[decide_eq_true (by omega),AI,AN hd]
   rw[aE9 (by omega),List.mem_singleton]
  |succ r=>
   obtain⟨t,ht,_⟩:=Aa (l:=dd.types) (i:=args.length) (by omega)
   obtain⟨jl,rl,_,hrl,hV⟩:=aEv hF hR hB hd ht (aEr hT hd ht)
   have hc:=Ps (r:=r) (by omega)
   have hp:300^(r+1)=300*300^r:=by rw[Nat.pow_succ,Nat.mul_comm]
   have hlp:300^(r+1)<=27000000:=Ps (by omega)
   obtain⟨evs,e1,e2,e3⟩:=BB (step:=fun s:Int×List Xc=>I3 (aPj n) (d:Int) b [] args rl q s.1 s.2)
    (fun s=>∃i:Nat,s.1=(i:Int)/\i<=rl.length/\(∀e,e∈s.2↔ ∃v∈rl.take i,EvP q b dd (args++[v]) e)/\s.2.length<=i*300^r)
    (fun s=>(rl.length-s.1).toNat) (fun evs=>(∀e,e∈evs↔ ∃v∈rl,EvP q b dd (args++[v]) e)/\evs.length<=rl.length*300^r)
    (by rintro⟨s,w⟩ ⟨i,rfl,hi,hm,hw⟩;simp only at hm hw⊢;by_cases he:i=rl.length;subst he;rw[List.take_length]at hm;exact .inl ⟨w,by simp only[I3,ltI,AJ],hm,hw⟩;right;obtain⟨x,hx,_⟩:=Aa (l:=rl) (i:=i) (by omega);obtain⟨ev,f1,f2,f3⟩:=ih r (args++[x]) (by omega) (by simp;omega);have hrlen:=hV.rlen;have hi3:i*300^r<=300*300^r:=Nat.mul_le_mul_right _ (by omega);refine⟨(((i+1:Nat):Int),w++ev),?_,⟨i+1,rfl,by omega,fun e=>?_,?_⟩,by simp only;omega⟩;simp only[I3,ltD hx,AI,AN hx,Aq hx (show rl.length<=9223372036854775807 by omega),List.nil_append];rw[Ai (BI (by simp;omega) (by decide)),Ai (BI (by simp;omega) (by decide)),f1,AB,Ai (BI (by omega) (by decide))];rw[List.take_add_one,hx,ma,hm,f2];simp only[Option.toList_some,ma,List.mem_singleton];constructor;rintro(⟨v,hv,h⟩|h);exact⟨v,.inl hv,h⟩;exact⟨x,.inr rfl,h⟩;rintro⟨v,hv|rfl,h⟩;exact .inl ⟨v,hv,h⟩;exact .inr h;simp only[List.length_append];rw[Nat.succ_mul];omega)
    ((0:Int),[]) ⟨0,rfl,by omega,fun e=>by simp,by simp⟩
   have e1':aRt (aPj n) (d:Int) b [] args rl q 0 []=some evs:=e1
   refine⟨evs,?_,fun e=>?_,?_⟩
   rw[decide_eq_false (by omega),AJ,AN hd,AN ht,hrl,AB,e1',AB]
   rw[e2,aFa ht]
   constructor
   rintro⟨v,hv,h⟩;exact⟨v,⟨rl,hrl,hv⟩,h⟩
   rintro⟨v,⟨rl',h1,hv⟩,h⟩
   rw[hrl]at h1;cases h1
   exact⟨v,hv,h⟩
   have:=hV.rlen
   have h1:rl.length*300^r<=300*300^r:=Nat.mul_le_mul_right _ this
   omega
theorem aW3(L:List Int)(x:Int)(hl:L.length<=5000):∀k,k<=L.length->(∀i,k<=i->i<L.length->x<ga L i)->∃j:Nat,aAn L x (k:Int)=some (j:Int)/\j<=k/\(∀i,j<=i->i<L.length->x<ga L i)/\(0<j->ga L (j-1)<=x):=by
 intro k;induction k with
 |zero=>
  intro hk hg
  refine⟨0,?_,Nat.le_refl _,hg,fun h=>by omega⟩
  rw[RI]
  unfold JA
  rw[decide_eq_false (by omega),AJ,Ad]
 |succ k ih=>
  intro hk hg
  rw[RI]
  unfold JA
  rw[decide_eq_true (by omega),AI,Dw (by omega),Nat.add_sub_cancel,Ey (by omega)]
  by_cases h:x<ga L k
  obtain⟨j,e1,e2,e3,e4⟩:=ih (by omega) (fun i h1 h2=>by by_cases hi:i=k;subst hi;exact h;exact hg i (by omega) h2)
  exact⟨j,by rw[decide_eq_true h,AI,BC];exact e1,by omega,e3,e4⟩
  refine⟨k+1,by rw[decide_eq_false h,AJ,Ad],Nat.le_refl _,hg,fun _=>?_⟩
  rw[Nat.add_sub_cancel];omega
theorem RS.put{L:List Int}{P:Nat->Prop}(h:RS L P)(hl:L.length<=4500)(m:Nat):∃L',Z1 L (m:Int)=some L'/\RS L' (fun n=>P n\/n=m):=by
 obtain⟨j,e1,e2,e3,e4⟩:=aW3 L (m:Int) (by omega) L.length (Nat.le_refl _) (fun i h1 h2=>by omega);have hup:∀p q,p<q->q<L.length->ga L p<ga L q:=fun p q h1 h2=>by have:=(List.pairwise_iff_getElem.1 h.up) p q (by omega) h2 h1;rwa [Ji,Ji]at this
 unfold Z1;rw[e1,AB];by_cases hin:0<j/\ga L (j-1)=(m:Int);refine⟨L,?_,h.up,fun x=>?_⟩;rw[decide_eq_true (by omega),AI,Dw (by omega),Ey (by omega),decide_eq_true hin.2,AI];rw[h.is];constructor;rintro⟨n,rfl,hn⟩;exact⟨n,rfl,.inl hn⟩;rintro⟨n,rfl,hn|rfl⟩;exact⟨n,rfl,hn⟩;have:((n:Nat):Int)∈L:=by rw[<-hin.2,<-Ji (show j-1<L.length by omega)];exact List.getElem_mem _
 exact(h.is _).1 this;have hlow:∀i,i<j->ga L i<(m:Int):=fun i hi=>by have h1:=e4 (by omega);have h2:ga L (j-1)≠(m:Int):=fun e=>hin ⟨by omega,e⟩;by_cases hij:i=j-1;subst hij;omega;have:=hup i (j-1) (by omega) (by omega);omega
 have hrun:(AU ((0:Int)<=0/\(0:Int)<=(j:Int)/\(j:Int)<=(L.length:Int)) (AU (fit ([]:List Int).length (sub L 0 (j:Int)).length 8) (AU (fit (([]:List Int)++(sub L 0 (j:Int))).length [(m:Int)].length 8) (AU ((0:Int)<=(j:Int)/\((j:Int):Int)<=(L.length:Int)/\(L.length:Int)<=(L.length:Int)) (AU (fit ((([]:List Int)++(sub L 0 (j:Int)))++[(m:Int)]).length (sub L (j:Int) (L.length:Int)).length 8) (some (((([]:List Int)++(sub L 0 (j:Int)))++[(m:Int)])++(sub L (j:Int) (L.length:Int)))))))):Option (List Int))=some (L.take j++(m:Int)::L.drop j):=by
  have s1:sub L 0 (j:Int)=L.take j:=by have:=P2 L 0 j;simpa using this
  rw[s1,P1,Ai ⟨by omega,by omega,by omega⟩,Ai (BI (by simp;omega) (by decide)),Ai (BI (by simp;omega) (by decide)),Ai ⟨by omega,by omega,by omega⟩,Ai (BI (by simp;omega) (by decide))];simp
 refine⟨L.take j++(m:Int)::L.drop j,?_,?_,fun x=>?_⟩;by_cases hj:0<j;rw[decide_eq_true (by omega),AI,Dw (by omega),Ey (by omega),decide_eq_false (fun e=>hin ⟨hj,e⟩),AJ];exact hrun;rw[decide_eq_false (by omega),AJ];exact hrun;rw[List.pairwise_append,List.pairwise_cons];refine⟨h.up.sublist (List.take_sublist _ _),⟨fun a ha=>?_,h.up.sublist (List.drop_sublist _ _)⟩,fun a ha c hc=>?_⟩;obtain⟨i,hi⟩:=List.mem_iff_getElem?.1 ha;rw[List.getElem?_drop]at hi;obtain⟨h1,h2⟩:=List.getElem?_eq_some_iff.1 hi;rw[<-h2,Ji];exact e3 _ (by omega) h1;obtain⟨i,hi⟩:=List.mem_iff_getElem?.1 ha;rw[List.getElem?_take]at hi;split at hi;rename_i hij;obtain⟨h1,h2⟩:=List.getElem?_eq_some_iff.1 hi;have ha':a<(m:Int):=by rw[<-h2,Ji];exact hlow i hij
 rcases mc.1 hc with rfl|hc
 exact ha';obtain⟨k,hk⟩:=List.mem_iff_getElem?.1 hc;rw[List.getElem?_drop]at hk;obtain⟨g1,g2⟩:=List.getElem?_eq_some_iff.1 hk;have:(m:Int)<c:=by rw[<-g2,Ji];exact e3 _ (by omega) g1
 omega;cases hi;have hmem:x∈L↔x∈L.take j\/x∈L.drop j:=by rw[<-ma,List.take_append_drop]
 rw[ma,mc];constructor;rintro(h1|rfl|h1);obtain⟨n,rfl,hn⟩:=(h.is x).1 (hmem.2 (.inl h1));exact⟨n,rfl,.inl hn⟩;exact⟨m,rfl,.inr rfl⟩;obtain⟨n,rfl,hn⟩:=(h.is x).1 (hmem.2 (.inr h1));exact⟨n,rfl,.inl hn⟩;rintro⟨n,rfl,hn|rfl⟩;rcases hmem.1 ((h.is _).2 ⟨n,rfl,hn⟩)with h1|h1
 exact .inl h1;exact .inr (.inr h1);exact .inr (.inl rfl)
theorem RS.congr{L:List Int}{P Q:Nat->Prop}(h:RS L P)(hq:∀n,P n↔Q n):RS L Q:=⟨h.up,fun x=>by rw[h.is];simp only[hq]⟩
theorem aN7{q:AD}(hF:Dt q)(hR:Ag q){i:Nat}{e:Xc}{h:Au}(hh:Jm q i e=some h):h.bind.length<=12:=by unfold Jm at hh;split at hh;cases hh;rename_i s hs;split at hh;cases hh;split at hh;have hsm:=List.mem_of_getElem? hs;obtain⟨p,hp,rfl⟩:=om.1 hh;have:=Jg s.args e.args [] [] p (bDn hF hR hsm) ⟨List.Pairwise.nil,by simp⟩ ⟨List.Pairwise.nil,by simp⟩ (fun s hs=>by simp at hs) hp;have h12:=hF.args s hsm;have:=this.2.2.2.1;simp at this;simp only;omega;cases hh
theorem aWh{q:AD}(hF:Dt q)(hR:Ag q)(hS:Cf q){b:List X2}(hB:BR b){d:Nat}{dd:Xm}(hd:q.decls[d]? =some dd)(args:List X0)(hl:args.length=dd.types.length):
 ∃l1 l2,Yn q (Xc.mk dd.name args)=some l1/\Yp l1 b=some l2/\Zb l2=some ((mkM q b d args:Nat):Int):=by
 have hsy:=hF.symbols
 have hbl:=T9 hB
 have hlen:((List.range q.symbols.length).filterMap fun i=>Jm q i (Xc.mk dd.name args)).length<=1000:=by have h2:=List.length_filterMap_le (fun i=>Jm q i (Xc.mk dd.name args)) (List.range q.symbols.length);rw[List.length_range]at h2;omega
 have hbind:∀h∈(List.range q.symbols.length).filterMap (fun i=>Jm q i (Xc.mk dd.name args)),h.bind.length<=9223372036854775807:=fun h hh=>by obtain⟨i,hi,hh2⟩:=List.mem_filterMap.1 hh;have:=aN7 hF hR hh2;omega
 exact⟨_,_,bAq hF hR,bAs hlen hbind (by omega),aTm hF hR hS b hd rfl hl⟩
theorem bCp{q:AD}(hF:Dt q)(hR:Ag q)(hS:Cf q){b:List X2}(hB:BR b){d:Nat}{dd:Xm}(hd:q.decls[d]? =some dd){evs:List Xc}(hev:∀e,e∈evs↔EvP q b dd [] e)(hel:evs.length<=27000000){L:List Int}(hL:RS L (fun n=>DS q b d n/\n≠0)):
 ∃L',aRe b (d:Int) evs q L 0=some L'/\RS L' (fun n=>DS q b (d+1) n/\n≠0):=by
 have hDS:∀{i n},DS q b i n->n<4096:=fun⟨_,_,_,_,hm⟩=>aQm hF hm
 obtain⟨L',e1,e2⟩:=BB (step:=fun s:List Int×Int=>G8 b (d:Int) evs q s.1 s.2)
  (fun s=>∃i:Nat,s.2=(i:Int)/\i<=evs.length/\RS s.1 (fun n=>(DS q b d n/\n≠0)\/∃e∈evs.take i,n=mkM q b d e.args/\n≠0))
  (fun s=>(evs.length-s.2).toNat) (fun L'=>RS L' (fun n=>(DS q b d n/\n≠0)\/∃e∈evs,n=mkM q b d e.args/\n≠0))
  (by
   rintro⟨w,s⟩ ⟨i,rfl,hi,hw⟩;simp only at hw⊢;by_cases he:i=evs.length;subst he;rw[List.take_length]at hw;exact .inl ⟨w,by simp only[G8,ltI,AJ],hw⟩;right;obtain⟨x,hx,_⟩:=Aa (l:=evs) (i:=i) (by omega);obtain⟨tail,t1,_,rfl⟩:=(hev x).1 (List.mem_of_getElem? hx);rw[List.nil_append]at hx;obtain⟨l1,l2,m1,m2,m3⟩:=aWh hF hR hS hB hd tail (by simpa using t1);have hmlt:∀l,mkM q b d l<4096:=fun l=>Nat.lt_of_lt_of_le (H3 _ _) (show 2^q.symbols.length<=2^12 from Nat.pow_le_pow_right (by decide) hF.symbols);have hwl:w.length<=4500:=Nat.le_trans (hw.len (m:=4096) fun n hn=>by
    rcases hn with h|⟨e,_,h,_⟩
    exact hDS h.1;rw[h];exact hmlt _) (by decide)
   have hstep:G8 b (d:Int) evs q w (i:Int)=(AG (Sy b w (d:Int) evs (i:Int) ((mkM q b d tail:Nat):Int) (!decide (((mkM q b d tail:Nat):Int)=0)) q) fun o=>some (.inl (o,((i+1:Nat):Int)))):=by simp only[G8,ltD hx,AI,aJc,AN hx,Aq hx (show evs.length<=9223372036854775807 by omega)];rw[m1,AB,m2,AB,m3,AB];cases(Sy b w (d:Int) evs (i:Int) ((mkM q b d tail:Nat):Int) (!decide (((mkM q b d tail:Nat):Int)=0)) q)<;>rfl
   rw[hstep];unfold Sy;by_cases h0:mkM q b d tail=0;refine⟨(w,((i+1:Nat):Int)),by rw[h0];rfl,⟨i+1,rfl,by omega,hw.congr fun n=>?_⟩,by simp only;omega⟩;rw[List.take_add_one,hx];simp only[Option.toList_some,ma,List.mem_singleton];constructor;rintro(h|⟨e,he,h⟩);exact .inl h;exact .inr ⟨e,.inl he,h⟩;rintro(h|⟨e,he|rfl,h,h'⟩);exact .inl h;exact .inr ⟨e,he,h,h'⟩;exact absurd (h.trans h0) h';obtain⟨L2,p1,p2⟩:=hw.put hwl (mkM q b d tail);refine⟨(L2,((i+1:Nat):Int)),by rw[decide_eq_false (by omega),Bool.not_false,AI,p1];rfl,⟨i+1,rfl,by omega,p2.congr fun n=>?_⟩,by simp only;omega⟩;rw[List.take_add_one,hx];simp only[Option.toList_some,ma,List.mem_singleton];constructor;rintro((h|⟨e,he,h⟩)|rfl);exact .inl h;exact .inr ⟨e,.inl he,h⟩;exact .inr ⟨_,.inr rfl,rfl,h0⟩;rintro(h|⟨e,he|rfl,h,h'⟩);exact .inl (.inl h);exact .inl (.inr ⟨e,he,h,h'⟩);exact .inr h)
  (L,(0:Int)) ⟨0,rfl,by omega,hL.congr fun n=>by simp⟩
 refine⟨L',e1,e2.congr fun n=>?_⟩
 constructor
 rintro(⟨⟨d',dd',h1,h2,h3⟩,h0⟩|⟨e,he,h,h0⟩)
 exact⟨⟨d',dd',by omega,h2,h3⟩,h0⟩
 obtain⟨tail,t1,t2,rfl⟩:=(hev e).1 he
 refine⟨⟨d,dd,by omega,hd,tail,by simpa using t1,fun j v t hj ht=>t2 j v t hj (by simpa using ht),?_⟩,h0⟩
 simpa using h
 rintro⟨⟨d',dd',h1,h2,h3⟩,h0⟩
 by_cases hdd:d'=d
 subst hdd
 rw[hd]at h2;cases h2
 obtain⟨args,a1,a2,rfl⟩:=h3
 exact .inr ⟨Xc.mk dd.name args,(hev _).2 ⟨args,by simpa using a1,fun j v t hj ht=>a2 j v t hj (by simpa using ht),by simp⟩,rfl,h0⟩
 exact .inl ⟨⟨d',dd',by omega,h2,h3⟩,h0⟩
theorem aZm{q:AD}(hF:Dt q)(hR:Ag q)(hS:Cf q)(hT:∀d∈q.decls,∀t∈d.types,(1:Int)<=t/\t<=3)(h3:∀d∈q.decls,d.types.length<=3){b:List X2}(hB:BR b):
 ∃L,Xw q b=some L/\RS L (aQt q b):=by
 have hdl:=hF.decls
 obtain⟨L,e1,e2⟩:=BB (step:=fun s:List Int×Int=>Ip b q s.1 s.2)
  (fun s=>∃i:Nat,s.2=(i:Int)/\i<=q.decls.length/\RS s.1 (fun n=>DS q b i n/\n≠0)) (fun s=>(q.decls.length-s.2).toNat) (fun L=>RS L (aQt q b))
  (by rintro⟨w,s⟩ ⟨i,rfl,hi,hw⟩;simp only at hw⊢;by_cases he:i=q.decls.length;subst he;exact .inl ⟨w,by simp only[Ip,ltI,AJ],hw⟩;right;obtain⟨dd,hd,_⟩:=Aa (l:=q.decls) (i:=i) (by omega);have h3':=h3 dd (List.mem_of_getElem? hd);obtain⟨evs,f1,f2,f3⟩:=aCy hF hR hT hB hd h3' 100000 dd.types.length [] (by omega) (by simp);have hp:=Ps h3';obtain⟨L2,g1,g2⟩:=bCp hF hR hS hB hd f2 (by omega) hw;refine⟨(L2,((i+1:Nat):Int)),?_,⟨i+1,rfl,by omega,g2⟩,by simp only;omega⟩;have f1':Yh q (i:Int) b [] []=some evs:=f1;simp only[Ip,ltD hd,AI,Aq hd (show q.decls.length<=9223372036854775807 by omega)];rw[f1',AB,g1,AB])
  ([],(0:Int)) ⟨0,rfl,by omega,⟨List.Pairwise.nil,fun x=>⟨fun h=>by simp at h,fun⟨n,_,⟨_,_,h,_⟩,_⟩=>by omega⟩⟩⟩
 exact⟨L,by unfold Xw aRd;rw[e1,AB],e2⟩
theorem UI{q:AD}(hF:Dt q)(hR:Ag q)(hS:Cf q)(hT:∀d∈q.decls,∀t∈d.types,(1:Int)<=t/\t<=3)(h3:∀d∈q.decls,d.types.length<=3){b:List X2}(hB:BR b):
 ∃L,X4 q b=some L/\Xw q b=some L/\RS L (aQt q b):=by
 obtain⟨L,e1,e2⟩:=aYj hF hR hT h3 hB
 obtain⟨M,f1,f2⟩:=aZm hF hR hS hT h3 hB
 exact⟨L,e1,by rw[f1,e2.uniq f2],e2⟩
theorem M5{σ τ:Type}{step:σ->Option (σ⊕τ)}{I:σ->Prop}(hI:∀s s',I s->step s=some (.inl s')->I s'){s:σ}{t:τ}(h0:I s)(h:AQ step s=some t):∃s',I s'/\step s'=some (.inr t):=by
 obtain⟨n,hn⟩:=FA.1 h;clear h;induction n generalizing s with
 |zero=>simp[itE]at hn
 |succ n ih=>
  simp only[itE]at hn
  split at hn
  cases hn
  rename_i s' hs;exact ih (hI s s' h0 hs) hn
  rename_i t' hs;cases hn;exact⟨s,h0,hs⟩
theorem aWd{l:List Xm}{i:Nat}{x:Xm}(hx:l[i]? =some x)(hl:x.types.length<=8)(h:aKp l (i:Int) 0=some (.inl ())):∀t∈x.types,1<=t/\t<=3:=by
 have hstep:∀n:Nat,E3 l (i:Int) (n:Int)=match x.types[n]? with
  |some t=>if t<1\/3<t then some (.inr (.inr ()))else some (.inl ((n+1:Nat):Int))
  |none=>some (.inr (.inl ())):=fun n=>by
  unfold E3
  rw[AN hx]
  cases ht:x.types[n]? with
  |none=>
   have:=List.getElem?_eq_none_iff.1 ht
   rw[decide_eq_false (by omega),AJ]
  |some t=>
   simp only[ltD ht,AI,AN hx,AN ht,Aq ht (show x.types.length<=9223372036854775807 by omega),Dp]
   by_cases h1:t<1
   simp[h1]
   by_cases h2:3<t
   simp[h1,h2]
   simp[h1,h2]
 obtain⟨s',⟨n,rfl,hn⟩,hs⟩:=M5 (step:=fun s=>E3 l (i:Int) s) (I:=fun s=>∃n:Nat,s=(n:Int)/\∀j t,j<n->x.types[j]? =some t->1<=t/\t<=3)
  (by
   rintro s s' ⟨n,rfl,hn⟩ hs;rw[hstep]at hs;cases ht:x.types[n]? with
   |none=>rw[ht]at hs;cases hs
   |some t=>
    rw[ht]at hs
    simp only at hs
    split at hs
    cases hs
    rename_i hc
    cases hs
    refine⟨n+1,rfl,fun j u hj hu=>?_⟩
    by_cases hjn:j=n
    subst hjn;rw[ht]at hu;cases hu;omega
    exact hn j u (by omega) hu) ⟨0,rfl,fun j t hj=>by omega⟩ h
 rw[hstep]at hs;intro t ht;obtain⟨j,hj⟩:=List.mem_iff_getElem?.1 ht;refine hn j t ?_ hj;cases hx2:x.types[n]? with
 |none=>
  have h1:=List.getElem?_eq_none_iff.1 hx2
  have h2:=(List.getElem?_eq_some_iff.1 hj).1
  omega
 |some u=>
  rw[hx2]at hs
  simp only at hs
  split at hs<;>cases hs
theorem aWc{l:List Xm}(hl:l.length<=1000){o:Unit⊕(Int×Int)}(h:aKn l 0=some o)(ho:∀r,o=.inr r->r.1=0):∀d∈l,∀t∈d.types,1<=t/\t<=3:=by
 have fwd:∀(n:Nat) (y:Int⊕(Unit⊕(Int×Int))),E2 l (n:Int)=some y->(y=.inr (.inl ())/\l.length<=n)\/(y=.inl ((n+1:Nat):Int)/\∀d,l[n]? =some d->∀t∈d.types,1<=t/\t<=3)\/∃r,y=.inr (.inr r)/\r.1≠0:=by
  intro n y hy;unfold E2 at hy;rcases iS hy with⟨h1,hy⟩|⟨h1,hy⟩
  have hlt:n<l.length:=by have:=of_decide_eq_true h1;omega
  obtain⟨x,hx,_⟩:=Aa hlt;rw[AN hx]at hy;obtain⟨r2,_,hy⟩:=bS hy;rcases iS hy with⟨_,hy⟩|⟨_,hy⟩
  cases hy;exact .inr (.inr ⟨_,rfl,by simp⟩);rw[AN hx]at hy;obtain⟨r4,_,hy⟩:=bS hy;rcases iS hy with⟨_,hy⟩|⟨_,hy⟩
  cases hy;exact .inr (.inr ⟨_,rfl,by simp⟩);rw[AN hx]at hy;rcases iS hy with⟨_,hy⟩|⟨h8,hy⟩
  cases hy;exact .inr (.inr ⟨_,rfl,by simp⟩);have h8:=of_decide_eq_false h8;obtain⟨o11,h2,hy⟩:=bS hy;cases o11 with
  |inl u=>
   cases hy
   refine .inr (.inl ⟨by rw[P3 (by omega)],fun d hd=>?_⟩)
   rw[hx]at hd;cases hd
   exact aWd hx (by omega) h2
  |inr u=>cases hy;exact .inr (.inr ⟨_,rfl,by simp⟩)
  cases hy;have:=of_decide_eq_false h1;exact .inl ⟨rfl,by omega⟩
 obtain⟨s',⟨n,rfl,hn⟩,hs⟩:=M5 (step:=fun s=>E2 l s) (I:=fun s=>∃n:Nat,s=(n:Int)/\∀j d,j<n->l[j]? =some d->∀t∈d.types,1<=t/\t<=3)
  (by
   rintro s s' ⟨n,rfl,hn⟩ hs;rcases fwd n _ hs with⟨h1,_⟩|⟨h1,h2⟩|⟨r,h1,_⟩
   cases h1;cases h1;refine⟨n+1,rfl,fun j d hj hd=>?_⟩;by_cases hjn:j=n;subst hjn;exact h2 d hd;exact hn j d (by omega) hd;cases h1) ⟨0,rfl,fun j d hj=>by omega⟩ h
 rcases fwd n _ hs with⟨h1,h2⟩|⟨h1,h2⟩|⟨r,h1,h2⟩
 intro d hd;obtain⟨j,hj⟩:=List.mem_iff_getElem?.1 hd;exact hn j d (by have:=(List.getElem?_eq_some_iff.1 hj).1;omega) hj;cases h1;cases h1;exact absurd (ho r rfl) h2
theorem Nm{q:AD}(hF:Dt q)(h:Yx q=some true):∀d∈q.decls,∀t∈d.types,(1:Int)<=t/\t<=3:=by
 unfold Yx at h;obtain⟨r1,h1,h⟩:=bS h;rcases iS h with⟨_,h⟩|⟨h2,h⟩
 cases h;have hr:r1.1=0:=by simpa using h2
 unfold Y8 at h1;rcases iS h1 with⟨_,h1⟩|⟨_,h1⟩
 cases h1;simp at hr;obtain⟨o14,h3,h1⟩:=bS h1;have hd:=hF.decls;refine aWc (by omega) h3 fun r hr2=>?_;subst hr2;cases h1;exact hr
section
variable {α σ τ:Type} [DecidableEq α]
def EV(o l:List α):List α:=l.foldl (fun o x=>if x∈o then o else o++[x]) o
theorem D1(o l:List α)(x:α):EV o (x::l)=EV (if x∈o then o else o++[x]) l:=rfl
theorem GR:∀{l o:List α} {x:α},x∈EV o l↔x∈o\/x∈l
 |[],o,x=>by simp[EV]
 |y::l,o,x=>by
  rw[D1,GR];by_cases h:y∈o;rw[if_pos h,mc];constructor;rintro(h1|h1);exact .inl h1;exact .inr (.inr h1);rintro(h1|rfl|h1);exact .inl h1;exact .inl h;exact .inr h1;rw[if_neg h,ma,List.mem_singleton,mc,or_assoc]
theorem aB4:∀{l o:List α},o.Nodup->(EV o l).Nodup
 |[],o,h=>h
 |y::l,o,h=>by
  rw[D1];apply aB4;by_cases hy:y∈o;rw[if_pos hy];exact h;rw[if_neg hy,List.nodup_append];exact⟨h,by simp,fun a ha b hb e=>hy (by rw[List.mem_singleton]at hb;rw[<-hb,<-e];exact ha)⟩
theorem H0:∀(l o:List α),∃r,EV o l=o++r
 |[],o=>⟨[],by simp[EV]⟩
 |y::l,o=>by
  rw[D1];obtain⟨r,h⟩:=H0 l (if y∈o then o else o++[y])
  rw[h];by_cases hy:y∈o;rw[if_pos hy];exact⟨r,rfl⟩;rw[if_neg hy];exact⟨[y]++r,by simp⟩
theorem LW{l o:List α}{j:Nat}{x:α}(h:o[j]? =some x):(EV o l)[j]? =some x:=by obtain⟨r,e⟩:=H0 l o;rw[e,List.getElem?_append_left (List.getElem?_eq_some_iff.1 h).1];exact h
theorem aNi(l o:List α):o.length<=(EV o l).length:=by obtain⟨r,e⟩:=H0 l o;rw[e,List.length_append];omega
inductive Rch(succ:α->List α)(s:α):α->Prop
 |refl:Rch succ s s
 |step {x y:α}:Rch succ s x->y∈succ x->Rch succ s y
structure WI(succ:α->List α)(s:α)(i:Nat)(o:List α):Prop where
 nd:o.Nodup
 hd:o[0]? =some s
 le:i<=o.length
 rc:∀x∈o,Rch succ s x
 cl:∀j x,j<i->o[j]? =some x->∀y∈succ x,y∈o
variable {succ:α->List α} {s:α}
theorem WI.init:WI succ s 0 [s]:=⟨by simp,rfl,Nat.zero_le _,fun x hx=>by rw[List.mem_singleton]at hx;subst hx;exact .refl,fun j x hj=>by omega⟩
theorem WI.step{i:Nat}{o:List α}(h:WI succ s i o){x:α}(hx:o[i]? =some x):WI succ s (i+1) (EV o (succ x)):=by
 have hi:=(List.getElem?_eq_some_iff.1 hx).1;refine⟨aB4 h.nd,LW h.hd,Nat.le_trans hi (aNi _ _),fun y hy=>?_,fun j y hj hy z hz=>?_⟩;rcases GR.1 hy with hy|hy
 exact h.rc y hy;exact(h.rc x (List.mem_of_getElem? hx)).step hy;have hj2:j<o.length:=by omega
 obtain⟨w,hw,_⟩:=Aa hj2;have e:w=y:=by rw[LW hw,oe]at hy;exact hy
 subst e;by_cases hji:j=i;subst hji;rw[hx,oe]at hw;subst hw;exact GR.2 (.inr hz);exact GR.2 (.inl (h.cl j w (by omega) hw z hz))
def wl(succ:α->List α):Nat->Nat->List α->List α
 |0,_,o=>o
 |n+1,i,o=>match o[i]? with
  |none=>o
  |some x=>wl succ n (i+1) (EV o (succ x))
def Bd(succ:α->List α)(s:α)(N:Nat):Prop:=∀o:List α,o.Nodup->(∀x∈o,Rch succ s x)->o.length<=N
theorem aXi{N:Nat}(hN:Bd succ s N):∀(n i:Nat) (o:List α),WI succ s i o->N+1<=n+i->WI succ s (wl succ n i o).length (wl succ n i o)
 |0,i,o,h,hn=>by have:=h.le;have:=hN o h.nd h.rc;omega
 |n+1,i,o,h,hn=>by
  rw[wl];split;rename_i e;have:=List.getElem?_eq_none_iff.1 e;have he:i=o.length:=by have:=h.le;omega
  subst he;exact h;rename_i x hx;exact aXi hN n (i+1) _ (h.step hx) (by omega)
theorem aEw{N:Nat}(hN:Bd succ s N){step:σ->Option (σ⊕τ)}(mk:Nat->List α->σ)(fin:List α->τ)
 (h1:∀i x o,WI succ s i o->o[i]? =some x->step (mk i o)=some (.inl (mk (i+1) (EV o (succ x)))))
 (h2:∀o,WI succ s o.length o->step (mk o.length o)=some (.inr (fin o))):∀(n i:Nat) (o:List α),WI succ s i o->N+1<=n+i->AQ step (mk i o)=some (fin (wl succ n i o))
 |0,i,o,h,hn=>by have:=h.le;have:=hN o h.nd h.rc;omega
 |n+1,i,o,h,hn=>by
  rw[wl,Aj];cases e:o[i]? with
  |none=>
   have:=List.getElem?_eq_none_iff.1 e
   have he:i=o.length:=by have:=h.le;omega
   subst he
   rw[h2 o h,Ad]
  |some x=>
   rw[h1 i x o h e,BC]
   exact aEw hN mk fin h1 h2 n (i+1) _ (h.step e) (by omega)
def clo(succ:α->List α)(N:Nat)(s:α):List α:=wl succ (N+1) 0 [s]
theorem aCr{N:Nat}(hN:Bd succ s N):WI succ s (clo succ N s).length (clo succ N s):=aXi hN _ _ _ WI.init (Nat.le_refl _)
theorem JX{N:Nat}(hN:Bd succ s N){x:α}:x∈clo succ N s↔Rch succ s x:=by
 have h:=aCr hN;refine⟨h.rc x,fun hx=>?_⟩;induction hx with
 |refl=>exact List.mem_of_getElem? h.hd
 |step hx hy ih=>
  obtain⟨j,hj⟩:=List.mem_iff_getElem?.1 ih
  exact h.cl j _ (List.getElem?_eq_some_iff.1 hj).1 hj _ hy
theorem PK{N:Nat}(hN:Bd succ s N):(clo succ N s).length<=N:=hN _ (aCr hN).nd (aCr hN).rc
end
theorem aV8{succ:Int->List Int}{s:Int}{N:Nat}(h:∀x,Rch succ s x->0<=x/\x<N):Bd succ s N:=fun o h1 h2=>by
 have:=h1.length_le_of_subset (l₂:=(List.range N).map (fun n:Nat=>(n:Int))) fun x hx=>by obtain⟨a,b⟩:=h x (h2 x hx);exact mm.2 ⟨x.toNat,List.mem_range.2 (by omega),by omega⟩
 simpa using this
theorem MX{α β:Type} [DecidableEq α](p:β->Bool)(g:β->α):∀(l:List β) (o:List α),l.foldl (fun o t=>if p t=true/\g t∉o then o++[g t]else o) o=EV o ((l.filter p).map g)
 |[],o=>rfl
 |t::l,o=>by
  rw[List.foldl_cons,MX p g l,List.filter_cons];by_cases h:p t=true;rw[if_pos h,List.map_cons,D1];by_cases h2:g t∈o;simp[h2];simp[h,h2];simp[h]
def MSt{K V:Type}(m:MP K V):Prop:=∀e∈m.es,e.1<m.clk
theorem R9{K V:Type}(c:Nat)(k:K)(z v:V):∀l:List (Nat×K×V),(∀e∈l,e.1<c)->aT0 (c:Int) v (l++[(c,k,z)])=l++[(c,k,v)]
 |[],_=>by simp[aT0]
 |x::xs,h=>by
  have:=h x (by simp);rw[List.cons_append,aT0,if_neg (by omega),R9 c k z v xs fun e he=>h e (List.mem_cons_of_mem _ he)];rfl
section
variable {K V:Type} [DecidableEq K]
theorem Lr(z:V)(c:Nat)(k:K)(v:V)(k':K):∀l:List (Nat×K×V),MH z k' (Nc c k v l).2=if k=k' then(v,true)else MH z k' l
 |[]=>by
  simp only[Nc,MH]
 |x::xs=>by
  rw[Nc];split;rename_i h;by_cases e:k=k';rw[if_pos e,MH,if_pos (h.trans e)];rw[if_neg e,MH,MH,if_neg (by rw[h];exact e),if_neg (by rw[h];exact e)];rename_i h;by_cases e:k=k';rw[if_pos e,MH,if_neg (by rw[<-e];exact h),Lr z c k v k' xs,if_pos e];rw[if_neg e,MH,MH,Lr z c k v k' xs,if_neg e]
theorem H6(z:V)(m:MP K V)(k:K)(v:V)(k':K):BH z (Cb m k v) k'=if k=k' then(v,true)else BH z m k':=Lr z _ _ _ _ _
theorem L1(z:V)(c:Nat)(k:K)(v:V):∀l:List (Nat×K×V),(MH z k l).2=false->Nc c k v l=(c+1,l++[(c,k,v)])/\Kn c z k l=((c+1,l++[(c,k,z)]),z,c)
 |[],_=>⟨rfl,rfl⟩
 |x::xs,h=>by
  rw[MH]at h;split at h;cases h;rename_i hx;obtain⟨a,b⟩:=L1 z c k v xs h;rw[Nc,if_neg hx,Kn,if_neg hx,a,b];exact⟨rfl,rfl⟩
theorem aP5{z:V}{m:MP K V}{k:K}(v:V)(h:(BH z m k).2=false)(hm:MSt m):Pj z m k=m.clk/\aOl (HX z m k) ((Pj z m k:Nat):Int)=true/\Tn (HX z m k) ((Pj z m k:Nat):Int) v=Cb m k v/\MSt (Cb m k v)/\(Cb m k v).clk=m.clk+1:=by
 obtain⟨a,b⟩:=L1 z m.clk k v m.es h;refine⟨by simp[Pj,b],by simp[aOl,HX,Pj,b],?_,?_,by simp[Cb,a]⟩;simp only[Tn,HX,Pj,Cb,a,b,R9 m.clk k z v m.es hm];intro e he;simp only[Cb,a]at he⊢;rcases ma.1 he with h|h
 have:=hm e h;omega;rw[List.mem_singleton]at h;subst h;simp
theorem aOk(z:V)(k:K):BH z (Dk:MP K V) k=(z,false):=rfl
end
section
variable {α σ τ:Type} [DecidableEq α] {succ:α->List α} {s:α}
def wlS(succ:α->List α)(p:α->Bool):Nat->Nat->List α->Nat×List α
 |0,i,o=>(i,o)
 |n+1,i,o=>match o[i]? with
  |none=>(i,o)
  |some x=>if p x=true then(i,o)else wlS succ p n (i+1) (EV o (succ x))
theorem MF{N:Nat}(hN:Bd succ s N)(p:α->Bool){step:σ->Option (σ⊕τ)}(R:Nat->List α->σ->Prop)(Q:Nat->List α->τ->Prop)
 (h1:∀i x o st,WI succ s i o->R i o st->o[i]? =some x->p x=false->∃st',step st=some (.inl st')/\R (i+1) (EV o (succ x)) st')
 (h2:∀i x o st,WI succ s i o->R i o st->o[i]? =some x->p x=true->∃t,step st=some (.inr t)/\Q i o t)
 (h3:∀o st,WI succ s o.length o->R o.length o st->∃t,step st=some (.inr t)/\Q o.length o t):∀(n i:Nat) (o:List α) (st:σ),WI succ s i o->R i o st->N+1<=n+i->
 ∃t,AQ step st=some t/\Q (wlS succ p n i o).1 (wlS succ p n i o).2 t
 |0,i,o,st,h,_,hn=>by have:=h.le;have:=hN o h.nd h.rc;omega
 |n+1,i,o,st,h,hr,hn=>by
  rw[wlS,Aj];cases e:o[i]? with
  |none=>
   have:=List.getElem?_eq_none_iff.1 e
   have he:i=o.length:=by have:=h.le;omega
   subst he
   obtain⟨t,a,b⟩:=h3 o st h hr
   exact⟨t,by rw[a,Ad],b⟩
  |some x=>
   simp only
   cases hp:p x with
   |true=>
    obtain⟨t,a,b⟩:=h2 i x o st h hr e hp
    exact⟨t,by rw[a,Ad],b⟩
   |false=>
    obtain⟨st',a,b⟩:=h1 i x o st h hr e hp
    rw[a,BC]
    exact MF hN p R Q h1 h2 h3 n (i+1) _ st' (h.step e) b (by omega)
theorem aQh(succ:α->List α){p:α->Bool}(hp:∀x,p x=false):∀(n i:Nat) (o:List α),(wlS succ p n i o).2=wl succ n i o
 |0,_,_=>rfl
 |n+1,i,o=>by
  rw[wlS,wl];cases o[i]? with
  |none=>rfl
  |some x=>simp only[hp x,Bool.false_eq_true,if_false];exact aQh succ hp n (i+1) _
end
theorem RL{α β:Type} [DecidableEq α](g:β->α):∀(l:List β) (o:List α),l.foldl (fun o m=>if g m∈o then o else o++[g m]) o=EV o (l.map g)
 |[],o=>rfl
 |m::l,o=>by rw[List.foldl_cons,RL g l];rfl
def Ht(q:AD)(L:List Int)(x:Int):List Int:=L.map fun m=>((Da q x.toNat m.toNat:Nat):Int)
theorem Ry{q:AD}(hR:Ag q)(S M:Nat):Da q S M<2^q.states.length:=by apply Nat.lt_pow_two_of_testBit;intro k hk;rw[<-Bool.not_eq_true,aDr];rintro⟨s,hs,_,hf⟩;unfold aPx at hf;split at hf;rw[Nat.testBit_two_pow]at hf;have:=of_decide_eq_true hf;omega;obtain⟨t,ht,_,he⟩:=(aT3 q M s k).1 hf;have:=(hR.ends t ht).2.2;omega
structure Fp(q:AD)(L:List Int):Prop where
 len:L.length<=5000
 up:L.Pairwise (· < ·)
 lt:∀x∈L,∃n:Nat,x=(n:Int)/\n<4096
theorem aTx{q:AD}(hF:Dt q)(hR:Ag q)(hS:Cf q)(hT:Yx q=some true)(h3:∀d∈q.decls,d.types.length<=3){b:List X2}(hB:BR b):∃L,X4 q b=some L/\Xw q b=some L/\RS L (aQt q b)/\Fp q L:=by obtain⟨L,e1,e2,hL⟩:=UI hF hR hS (Nm hF hT) h3 hB;refine⟨L,e1,e2,hL,Nat.le_trans (hL.len fun n hn=>No hF hn) (by decide),hL.up,fun x hx=>?_⟩;obtain⟨n,rfl,hn⟩:=(hL.is x).1 hx;exact⟨n,rfl,No hF hn⟩
theorem rcS{q:AD}(hR:Ag q)(hS:Cf q){L:List Int}{s:Nat}(hs:s<2^q.states.length):∀x,Rch (Ht q L) (s:Int) x->∃n:Nat,x=(n:Int)/\n<256:=fun x h=>by
 have h8:2^q.states.length<=256:=show 2^q.states.length<=2^8 from Nat.pow_le_pow_right (by decide) hS.states;cases h with
 |refl=>exact⟨s,rfl,by omega⟩
 |step _ hy=>
  obtain⟨m,_,rfl⟩:=mm.1 hy
  exact⟨_,rfl,by have:=Ry hR;exact Nat.lt_of_lt_of_le (this _ _) h8⟩
theorem bdS{q:AD}(hR:Ag q)(hS:Cf q){L:List Int}{s:Nat}(hs:s<2^q.states.length):Bd (Ht q L) (s:Int) 256:=aV8 fun x hx=>by obtain⟨n,rfl,h⟩:=rcS hR hS hs x hx;omega
theorem aWl(l:List Int)(x:Int)(hl:l.length<=9223372036854775807):Zk l x=some (decide (x∈l)):=by
 have h:aSf l x 0=_:=EO (step:=fun s=>JM l x s) l (fun _ y=>if y=x then some (Sum.inr ():Unit⊕Unit)else none) (.inl ())
  (fun i y hy=>by simp only[JM,ltD hy,AI,AN hy,Aq hy hl,Dp];by_cases h:y=x<;>simp[h])
  (by simp only[JM,ltI,AJ])
 unfold Zk;rw[h,AB,Dm];by_cases hx:x∈l;have:l.findSome? (fun y=>if y=x then some (Sum.inr ():Unit⊕Unit)else none)=some (.inr ()):=by
  obtain⟨y,hy⟩:=Option.isSome_iff_exists.1 (List.findSome?_isSome_iff.2 (⟨x,hx,by simp⟩:∃y,y∈l/\(if y=x then some (Sum.inr ():Unit⊕Unit)else none).isSome=true))
  rw[hy];cases y with
  |inl u=>
   obtain⟨z,_,hz⟩:=List.exists_of_findSome?_eq_some hy
   split at hz<;>simp at hz
  |inr u=>rfl
 rw[this];simp[hx,CX];have:l.findSome? (fun y=>if y=x then some (Sum.inr ():Unit⊕Unit)else none)=none:=by rw[List.findSome?_eq_none_iff];intro y hy;exact if_neg fun e=>hx (by rw[<-e];exact hy)
 rw[this];simp[hx,CX]
theorem NC{q:AD}(hF:Dt q)(hR:Ag q){L:List Int}(hL:Fp q L){x m:Int}(hx:∃n:Nat,x=(n:Int)/\n<256)(hm:m∈L):X8 q x m=some ((Da q x.toNat m.toNat:Nat):Int)/\Xp q x m=some ((Da q x.toNat m.toNat:Nat):Int):=by obtain⟨n,rfl,hn⟩:=hx;obtain⟨k,rfl,hk⟩:=hL.lt m hm;exact⟨aYn hF hR (by omega) (by omega),aZd hF hR (by omega) (by omega)⟩
theorem aUj{q:AD}(hF:Dt q)(hR:Ag q){L:List Int}(hL:Fp q L)(i:Nat){x:Int}(hx:∃n:Nat,x=(n:Int)/\n<256){o:List Int}(ho:o[i]? =some x)(hl:o.length<=1000):aRj L (i:Int) q 0 o=some (EV o (Ht q L x)):=by
 have hll:=hL.len;have h:=D4 (step:=fun s:Int×List Int=>Iu L (i:Int) q s.1 s.2) L (fun o m=>if((Da q x.toNat m.toNat:Nat):Int)∈o then o else o++[((Da q x.toNat m.toNat:Nat):Int)]) id (fun j w=>w[i]? =some x/\w.length<=1000+j)
  (fun j m w hj hI=>by
   have hjl:=Dj hj;have hw:w.length<=9223372036854775807:=by have:=hI.2;omega
   refine⟨?_,?_⟩;simp only[Iu,ltD hj,AI,aJ9,AN hj,AN hI.1,(NC hF hR hL hx (List.mem_of_getElem? hj)).2,aWl w _ hw,AB,aKb,Aq hj (show L.length<=9223372036854775807 by omega)];by_cases h2:((Da q x.toNat m.toNat:Nat):Int)∈w;simp[h2,AE,AG];rw[if_neg h2];simp only[h2,decide_false,Bool.not_false,AI];rw[KG (by have:=hI.2;simp;omega) (by decide),AB,AB];split;exact⟨hI.1,by have:=hI.2;omega⟩;exact⟨by rw[List.getElem?_append_left (Dj hI.1)];exact hI.1,by have:=hI.2;simp;omega⟩)
  (fun w _=>by simp only[Iu,ltI,AJ];rfl) o ⟨ho,hl⟩
 refine Eq.trans h ?_;rw[RL (fun m:Int=>((Da q x.toNat m.toNat:Nat):Int))];rfl
theorem aZv{q:AD}(hF:Dt q)(hR:Ag q)(hS:Cf q){L:List Int}(hL:Fp q L){b:List X2}(he:Xw q b=some L){s:Nat}(hs:s<2^q.states.length):Y5 q b (s:Int)=some (clo (Ht q L) 256 (s:Int)):=by
 have hb:=bdS (L:=L) hR hS hs;have h:=aEw hb (step:=fun s:Int×List Int=>It L q s.1 s.2) (fun i o=>((i:Int),o)) id
  (fun i x o hI hx=>by have hl:=hb o hI.nd hI.rc;simp only[It,ltD hx,AI,aUj hF hR hL i (rcS hR hS hs x (hI.rc x (List.mem_of_getElem? hx))) hx (by omega),AB,Aq hx (show o.length<=9223372036854775807 by omega)])
  (fun o hI=>by simp only[It,ltI,AJ];rfl) _ 0 [(s:Int)] WI.init (Nat.le_refl _)
 have h':aRi L q 0 [(s:Int)]=some (clo (Ht q L) 256 (s:Int)):=h;unfold Y5;rw[he,AB,h',AB]
def aSl(S:Nat)(i:Nat)(st:Xg):Option (Unit⊕Unit):=if st.accept=true/\S.testBit i=true then some (.inr ())else none
def aV6(q:AD)(S:Nat):Bool:=match Ng (GF (aSl S)) (fun _=>.inl ()) 0 q.states ()with
 | .inl _=>false
 | .inr _=>true
theorem SE{q:AD}(hF:Dt q){S:Nat}(hS:S<4294967296):Z4 q (S:Int)=some (aV6 q S):=by
 have h8:=hF.states;have h:aR2 (S:Int) q 0=_:=EO (step:=fun s=>JC (S:Int) q s) q.states (aSl S) (.inl ())
  (fun i st hi=>by
   have hil:=Dj hi;have h1:=At (n:=i) (by omega);simp only[JC,ltD hi,AI,AN hi,Aq hi (show q.states.length<=9223372036854775807 by omega),h1,P0 (k:=.u32) (n:=S) (s:=i) (show i<32 by omega),bDb,PG,aSl];rw[Ai (by omega)];cases hb:S.testBit i with
   |false=>simp[AE]
   |true=>
    simp only[if_true]
    rw[show decide (((1:Nat):Int)=1)=true from rfl,AI]
    cases st.accept<;>simp[AE])
  (by simp only[JC,ltI,AJ])
 unfold Z4 aV6;rw[h,AB];cases Ng (GF (aSl S)) (fun _=>.inl ()) 0 q.states ()<;>rfl
def Hy(q:AD)(x:Int):Bool:=aV6 q x.toNat
abbrev TR:=List Int×MP Int Int×MP Int Int
def GN(q:AD)(x:Int)(t:TR)(m:Int):TR:=if((Da q x.toNat m.toNat:Nat):Int)∈t.1 then t else(t.1++[((Da q x.toNat m.toNat:Nat):Int)],Cb t.2.1 ((Da q x.toNat m.toNat:Nat):Int) x,Cb t.2.2 ((Da q x.toNat m.toNat:Nat):Int) m)
structure TI(t:TR):Prop where
 st:MSt t.2.1
 clk:t.2.1.clk=t.1.length
 get:∀k,(BH 0 t.2.1 k).2=decide (k∈t.1)
theorem TI.step{t:TR}(h:TI t)(q:AD)(x m:Int):TI (GN q x t m):=by unfold GN;split;exact h;rename_i hn;obtain⟨_,_,_,h4,h5⟩:=aP5 (m:=t.2.1) (z:=(0:Int)) (k:=((Da q x.toNat m.toNat:Nat):Int)) x (by rw[h.get];simp[hn]) h.st;refine⟨h4,by rw[h5,h.clk];simp,fun k=>?_⟩;simp only;rw[H6];split;rename_i e;simp[e];rename_i e;rw[h.get];have e2:k≠((Da q x.toNat m.toNat:Nat):Int):=fun h=>e h.symm;simp[e2]
theorem TI.fold{q:AD}{x:Int}:∀{l:List Int} {t:TR},TI t->TI (l.foldl (GN q x) t)
 |[],_,h=>h
 |m::l,t,h=>by rw[List.foldl_cons];exact TI.fold (h.step q x m)
theorem NR{q:AD}{x:Int}:∀(l:List Int) (t:TR),(l.foldl (GN q x) t).1=EV t.1 (Ht q l x)
 |[],_=>rfl
 |m::l,t=>by
  rw[List.foldl_cons,NR l];show _=EV t.1 (_::Ht q l x);rw[D1];congr 1;unfold GN;split<;>rfl
theorem aEg{q:AD}{x m:Int}{t:TR}{i:Nat}{y:Int}(h:t.1[i]? =some y):(GN q x t m).1[i]? =some y:=by unfold GN;split;exact h;rw[List.getElem?_append_left (Dj h)];exact h
theorem aEh(q:AD)(x m:Int)(t:TR):(GN q x t m).1.length<=t.1.length+1:=by unfold GN;split;omega;simp
theorem TI.init(s:Int):TI ([s],Cb (Dk:MP Int Int) s s,Dk):=by refine⟨fun e he=>?_,rfl,fun k=>?_⟩;simp[Cb,Nc,Dk]at he⊢;subst he;simp;rw[H6,aOk];split;rename_i e;simp[e];rename_i e;have e2:k≠s:=fun h=>e h.symm;simp[e2]
theorem aEb{q:AD}(hF:Dt q)(hR:Ag q){L:List Int}(hL:Fp q L)(i:Nat){x:Int}(hx:∃n:Nat,x=(n:Int)/\n<256){t:TR}(ho:t.1[i]? =some x)(hl:t.1.length<=1000)(hT:TI t):Vy L (i:Int) L (L.length:Int) q 0 t.1 t.2.1 t.2.2=some (L.foldl (GN q x) t):=by
 have hll:=hL.len;exact D4 (step:=fun s:Int×TR=>F3 L (i:Int) L (L.length:Int) q s.1 s.2.1 s.2.2.1 s.2.2.2) L (GN q x) id (fun j t=>t.1[i]? =some x/\t.1.length<=1000+j/\TI t)
  (fun j m t hj hI=>by
   have hjl:=Dj hj;obtain⟨hg,hn,hT⟩:=hI;refine⟨?_,aEg hg,Nat.le_trans (aEh _ _ _ _) (by omega),hT.step q x m⟩;have hc:(0:Int)<=(i:Int)/\(i:Int)+1<=(t.1.length:Int):=by have:=Dj hg;omega
   simp only[F3,ltD hj,AI,Sj,AN hj,Ai hc,AN hg,(NC hF hR hL hx (List.mem_of_getElem? hj)).1,AB,Vt,Aq hj (show L.length<=9223372036854775807 by omega),hT.get];unfold GN;by_cases h2:((Da q x.toNat m.toNat:Nat):Int)∈t.1;simp[h2,AE,AG];obtain⟨g1,g2,g3,_,_⟩:=aP5 (m:=t.2.1) (z:=(0:Int)) (k:=((Da q x.toNat m.toNat:Nat):Int)) x (by rw[hT.get];simp[h2]) hT.st;rw[if_neg h2];simp only[h2,decide_false,Bool.not_false,AI];rw[Ai (by rw[g1,hT.clk];omega),Ai g2,KG (by simp;omega) (by decide),g3,AB,AB])
  (fun w _=>by simp only[F3,ltI,AJ];rfl) t ⟨ho,hl,hT⟩
theorem aY3{q:AD}(hF:Dt q)(hR:Ag q)(hS:Cf q){L:List Int}(hL:Fp q L){b:List X2}(he:X4 q b=some L){s:Nat}(hs:s<2^q.states.length):∃F B,Xj q b (s:Int)=some (clo (Ht q L) 256 (s:Int),F,B):=by
 have hb:=bdS (L:=L) hR hS hs;obtain⟨t,h,hQ⟩:=MF hb (fun _=>false) (step:=fun s:Int×List Int×MP Int Int×MP Int Int=>F2 L q s.1 s.2.1 s.2.2.1 s.2.2.2) (fun i o st=>∃F B,st=((i:Int),o,F,B)/\TI (o,F,B)) (fun _ o t=>∃F B,t=(o,F,B))
  (fun i x o st hI hr hx _=>by
   obtain⟨F,B,rfl,hT⟩:=hr;have hl:=hb o hI.nd hI.rc;have e:=aEb hF hR hL i (rcS hR hS hs x (hI.rc x (List.mem_of_getElem? hx))) (t:=(o,F,B)) hx (by simp only;omega) hT;have e1:=NR (q:=q) (x:=x) L (o,F,B);have e2:=TI.fold (q:=q) (x:=x) (l:=L) hT;refine⟨(((i+1:Nat):Int),L.foldl (GN q x) (o,F,B)),?_,(L.foldl (GN q x) (o,F,B)).2.1,(L.foldl (GN q x) (o,F,B)).2.2,?_,?_⟩;have hc:(0:Int)<=(i:Int)/\(i:Int)+1<=(o.length:Int):=by have:=Dj hx;omega
   simp only at e;simp only[F2,ltD hx,AI,Ai hc,AN hx,Qr,AB,AJ,e,Aq hx (show o.length<=9223372036854775807 by omega)];rw[<-e1];rw[<-e1];exact e2)
  (fun i x o st _ _ _ hp=>by cases hp)
  (fun o st _ hr=>by obtain⟨F,B,rfl,_⟩:=hr;exact⟨(o,F,B),by simp only[F2,ltI,AJ],F,B,rfl⟩) 257 0 [(s:Int)] ((0:Nat),[(s:Int)],Cb (Dk:MP Int Int) s s,Dk) WI.init ⟨_,_,rfl,TI.init _⟩ (Nat.le_refl _)
 obtain⟨F,B,rfl⟩:=hQ;rw[aQh _ (fun _=>rfl)]at h;have h':Vu L q 0 [(s:Int)] (Cb (Dk:MP Int Int) s s) Dk=some (clo (Ht q L) 256 (s:Int),F,B):=h;refine⟨F,B,?_⟩;unfold Xj;rw[he,AB,h',AB]
theorem bBy{q:AD}(hF:Dt q)(hR:Ag q)(hS:Cf q){L:List Int}(hL:Fp q L){b:List X2}(he:X4 q b=some L){s:Nat}(hs:s<2^q.states.length):∃l,Zt q b (s:Int)=some l/\l.Perm (clo (Ht q L) 256 (s:Int))/\l.Pairwise (· <= ·):=by obtain⟨F,B,h⟩:=aY3 hF hR hS hL he hs;have hlen:=PK (bdS (L:=L) hR hS hs);obtain⟨l,e1,e2,e3⟩:=Np (w:=clo (Ht q L) 256 (s:Int)) (by omega);refine⟨l,?_,e2,e3⟩;unfold Zt;rw[h,AB,e1,AB]
theorem aQi{α:Type} [DecidableEq α]{succ:α->List α}{s:α}{N:Nat}(hN:Bd succ s N)(p:α->Bool):∀(n i:Nat) (o:List α),WI succ s i o->(∀j x,j<i->o[j]? =some x->p x=false)->N+1<=n+i->
 WI succ s (wlS succ p n i o).1 (wlS succ p n i o).2/\(∀j x,j<(wlS succ p n i o).1->(wlS succ p n i o).2[j]? =some x->p x=false)/\((wlS succ p n i o).1=(wlS succ p n i o).2.length\/∃x,(wlS succ p n i o).2[(wlS succ p n i o).1]? =some x/\p x=true)
 |0,i,o,h,_,hn=>by have:=h.le;have:=hN o h.nd h.rc;omega
 |n+1,i,o,h,hp,hn=>by
  rw[wlS];cases e:o[i]? with
  |none=>
   have:=List.getElem?_eq_none_iff.1 e
   exact⟨h,hp,.inl (show i=o.length by have:=h.le;omega)⟩
  |some x=>
   simp only
   cases hx:p x with
   |true=>exact⟨h,hp,.inr ⟨x,e,hx⟩⟩
   |false=>
    refine aQi hN p n (i+1) _ (h.step e) (fun j y hj hy=>?_) (by omega)
    have hj2:j<o.length:=by have:=Dj e;omega
    obtain⟨w,hw,_⟩:=Aa hj2
    have e2:w=y:=by rw[LW hw,oe]at hy;exact hy
    subst e2
    by_cases hji:j=i
    subst hji;rw[e,oe]at hw;exact hw▸hx
    exact hp j w (by omega) hw
def nx(q:AD)(x m:Int):Int:=((Da q x.toNat m.toNat:Nat):Int)
theorem aN2{α β:Type}{f:β->α->β}(L:List α)(I:Nat->β->Prop)(h:∀j m w,L[j]? =some m->I j w->I (j+1) (f w m))(w:β)(h0:I 0 w):I L.length (L.foldl f w):=by
 have key:∀(n j:Nat) (w:β),L.length-j=n->j<=L.length->I j w->I L.length ((L.drop j).foldl f w):=by
  intro n;induction n with
  |zero=>
   intro j w hn hj hI
   have:j=L.length:=by omega
   subst this
   rw[List.drop_length];exact hI
  |succ n ih=>
   intro j w hn hj hI
   obtain⟨x,hx,hd⟩:=Aa (l:=L) (i:=j) (by omega)
   rw[hd,List.foldl_cons]
   exact ih (j+1) _ (by omega) (by omega) (h j x w hx hI)
 have:=key _ 0 w rfl (Nat.zero_le _) h0;rwa [List.drop_zero]at this
def Oo(s1:Int)(s9:List X5)(s10:Int)(s5:Int)(s11:Int):Option (Int):=itE (fun s:Int×Int=>HF s1 s9 s10 s.1 s.2) 70 (s5,s11)
theorem aKl(s1:Int)(s9:List X5)(s10:Int)(s5:Int)(s11:Int):Le (Oo s1 s9 s10 s5 s11) (XR s1 s9 s10 s5 s11):=by unfold Oo XR;repeat' (first|refine BG (fun _=>?_) _ _|exact Le.refl _)
def aZy(a0:AD)(a1:Int):Option (Int):=
 AG (Oo a1 a0.symbols (a0.symbols.length:Int) 0 0) fun o4=>
 some o4
theorem aZz(a0:AD)(a1:Int):Le (aZy a0 a1) (Y7 a0 a1):=by unfold aZy Y7;repeat' (first|exact aKl _ _ _ _ _|refine AZ ?_ fun _=>?_|exact Le.refl _)
def Ol(s0:List X0)(s2:List X0)(s8:Int)(w4:X0)(s9:Int)(s10:Int):Option (Int):=itE (fun s:Int×Int=>F9 s0 s2 s8 w4 s.1 s.2) 70 (s9,s10)
theorem aJt(s0:List X0)(s2:List X0)(s8:Int)(w4:X0)(s9:Int)(s10:Int):Le (Ol s0 s2 s8 w4 s9 s10) (S5 s0 s2 s8 w4 s9 s10):=by unfold Ol S5;repeat' (first|refine BG (fun _=>?_) _ _|exact Le.refl _)
def aXl(a0:List X0)(a1:X0)(a2:List X0):Option (Int×Bool):=
 AG (Ol a0 a2 (a0.length:Int) a1 0 (a0.length:Int)) fun o5=>
 AE (decide (o5<(a0.length:Int))) (
  AT a0 o5 fun x6=>
  AG (Q8 x6 a1 a2) fun r7=>
  some (o5,decide (r7=0))) (
  some (o5,false))
theorem aVj(a0:List X0)(a1:X0)(a2:List X0):Le (aXl a0 a1 a2) (Y0 a0 a1 a2):=by unfold aXl Y0;repeat' (first|exact aJt _ _ _ _ _ _|refine AZ ?_ fun _=>?_|refine BJ ?_ ?_|refine Cs fun _=>?_|exact Le.refl _)
def bBs(a1:X0):Option (Bool×List X0):=
 AG (aXl ([]:List X0) a1 ([]:List X0)) fun r1=>
 AG (aBs r1.1 r1.2 (!r1.2) a1) fun o3=>
 some (!r1.2,o3)
theorem bBt(a1:X0):Le (bBs a1) (Zn a1):=by unfold bBs Zn;repeat' (first|exact aVj _ _ _|refine AZ ?_ fun _=>?_|exact Le.refl _)
def aXm(a1:X0)(w1:List X0):Option (Bool×List X0):=
 AG (aXl w1 a1 w1) fun r1=>
 AG (aAz r1.1 r1.2 (!r1.2) a1 w1) fun o3=>
 some (!r1.2,o3)
theorem aVu(a1:X0)(w1:List X0):Le (aXm a1 w1) (Z8 a1 w1):=by unfold aXm Z8;repeat' (first|exact aVj _ _ _|refine AZ ?_ fun _=>?_|exact Le.refl _)
def OB(s1:Int)(s12:Bool)(w2:AD):Option ((List X0)):=
 AE (s12) (
  AG (Qb false) fun r2=>
  AG (bBs r2) fun r3=>
  AG (Qb true) fun r4=>
  AG (aXm r4 r3.2) fun r5=>
  some r5.2) (
  some ([]:List X0))
theorem aGk(s1:Int)(s12:Bool)(w2:AD):Le (OB s1 s12 w2) (OA s1 s12 w2):=by unfold OB OA;repeat' (first|exact bBt _|exact aVu _ _|refine AZ ?_ fun _=>?_|refine BJ ?_ ?_|exact Le.refl _)
def LB(s1:Int)(s20:List X5)(s21:Int)(s22:Int)(s27:List B0)(s28:Int)(s29:Int)(s42:Bool)(w9:B0)(w518:List X0):Option ((List X0)):=
 AE (s42) (
  AG (aXm w9.value w518) fun r9=>
  some r9.2) (
  some w518)
theorem aGo(s1:Int)(s20:List X5)(s21:Int)(s22:Int)(s27:List B0)(s28:Int)(s29:Int)(s42:Bool)(w9:B0)(w518:List X0):Le (LB s1 s20 s21 s22 s27 s28 s29 s42 w9 w518) (OD s1 s20 s21 s22 s27 s28 s29 s42 w9 w518):=by unfold LB OD;repeat' (first|exact aVu _ _|refine AZ ?_ fun _=>?_|refine BJ ?_ ?_|exact Le.refl _)
def OC(s1:Int)(s20:List X5)(s21:Int)(s22:Int)(s27:List B0)(s28:Int)(s29:Int)(w518:List X0):Option ((List X0)):=
 AT s27 s29 fun x8=>
 AE (decide (x8.kind=1)) (
  AG (LB s1 s20 s21 s22 s27 s28 s29 (decide (x8.value.kind=s1)) x8 w518) fun o10=>
  some o10) (
  AG (LB s1 s20 s21 s22 s27 s28 s29 false x8 w518) fun o11=>
  some o11)
theorem aGm(s1:Int)(s20:List X5)(s21:Int)(s22:Int)(s27:List B0)(s28:Int)(s29:Int)(w518:List X0):Le (OC s1 s20 s21 s22 s27 s28 s29 w518) (SX s1 s20 s21 s22 s27 s28 s29 w518):=by unfold OC SX;repeat' (first|exact aGo _ _ _ _ _ _ _ _ _ _|refine AZ ?_ fun _=>?_|refine BJ ?_ ?_|refine Cs fun _=>?_|exact Le.refl _)
def IK(s1:Int)(s20:List X5)(s21:Int)(s22:Int)(s27:List B0)(s28:Int)(s29:Int)(w518:List X0):Option ((Int×List X0)⊕((List X0))):=
 AE (decide (s29<s28)) (
  AG (OC s1 s20 s21 s22 s27 s28 s29 w518) fun o12=>
  some (.inl ((AA .add .i64 s29 1),o12))) (
  some (.inr w518))
theorem Sa(s1:Int)(s20:List X5)(s21:Int)(s22:Int)(s27:List B0)(s28:Int)(s29:Int)(w518:List X0):Le (IK s1 s20 s21 s22 s27 s28 s29 w518) (Fx s1 s20 s21 s22 s27 s28 s29 w518):=by unfold IK Fx;repeat' (first|exact aGm _ _ _ _ _ _ _ _|refine AZ ?_ fun _=>?_|refine BJ ?_ ?_|exact Le.refl _)
def OF(s1:Int)(s20:List X5)(s21:Int)(s22:Int)(s27:List B0)(s28:Int)(s29:Int)(w518:List X0):Option ((List X0)):=itE (fun s:Int×List X0=>IK s1 s20 s21 s22 s27 s28 s.1 s.2) 70 (s29,w518)
theorem aGr(s1:Int)(s20:List X5)(s21:Int)(s22:Int)(s27:List B0)(s28:Int)(s29:Int)(w518:List X0):Le (OF s1 s20 s21 s22 s27 s28 s29 w518) (SZ s1 s20 s21 s22 s27 s28 s29 w518):=by unfold OF SZ;repeat' (first|exact Sa _ _ _ _ _ _ _ _|refine BG (fun _=>?_) _ _|exact Le.refl _)
def IJ(s1:Int)(s20:List X5)(s21:Int)(s22:Int)(w518:List X0):Option ((Int×List X0)⊕((List X0))):=
 AE (decide (s22<s21)) (
  AT s20 s22 fun x7=>
  AG (OF s1 s20 s21 s22 x7.args (x7.args.length:Int) 0 w518) fun o13=>
  some (.inl ((AA .add .i64 s22 1),o13))) (
  some (.inr w518))
theorem SY(s1:Int)(s20:List X5)(s21:Int)(s22:Int)(w518:List X0):Le (IJ s1 s20 s21 s22 w518) (Fw s1 s20 s21 s22 w518):=by unfold IJ Fw;repeat' (first|exact aGr _ _ _ _ _ _ _ _|refine AZ ?_ fun _=>?_|refine BJ ?_ ?_|refine Cs fun _=>?_|exact Le.refl _)
def OE(s1:Int)(s20:List X5)(s21:Int)(s22:Int)(w518:List X0):Option ((List X0)):=itE (fun s:Int×List X0=>IJ s1 s20 s21 s.1 s.2) 70 (s22,w518)
theorem aGp(s1:Int)(s20:List X5)(s21:Int)(s22:Int)(w518:List X0):Le (OE s1 s20 s21 s22 w518) (Uy s1 s20 s21 s22 w518):=by unfold OE Uy;repeat' (first|exact SY _ _ _ _ _|refine BG (fun _=>?_) _ _|exact Le.refl _)
def aYp(a0:AD)(a1:Int):Option (List X0):=
 AG (Qo) fun r1=>
 AG (OB a1 (decide (a1=3)) a0) fun o6=>
 AG (OE a1 a0.symbols (a0.symbols.length:Int) 0 o6) fun o14=>
 AG (Qh o14) fun r15=>
 some r15.1
theorem aYq(a0:AD)(a1:Int):Le (aYp a0 a1) (X9 a0 a1):=by unfold aYp X9;repeat' (first|exact aGk _ _ _|exact aGp _ _ _ _ _|refine AZ ?_ fun _=>?_|exact Le.refl _)
def Ow(s0:List X0)(s7:Int)(w3:X0)(s8:Int):Option (Unit⊕Int):=itE (fun s:Int=>HI s0 s7 w3 s) 70 s8
theorem aLi(s0:List X0)(s7:Int)(w3:X0)(s8:Int):Le (Ow s0 s7 w3 s8) (TE s0 s7 w3 s8):=by unfold Ow TE;repeat' (first|refine BG (fun _=>?_) _ _|exact Le.refl _)
def bAg(a0:List X0)(a1:X0):Option (Int):=
 AG (Ow a0 (a0.length:Int) a1 0) fun o2=>
 CX o2 (fun o3=>
  some (-1)) (fun o4=>
  some o4)
theorem bAh(a0:List X0)(a1:X0):Le (bAg a0 a1) (Yi a0 a1):=by unfold bAg Yi;repeat' (first|exact aLi _ _ _ _|refine AZ ?_ fun _=>?_|refine MC (fun _=>?_) fun _=>?_|exact Le.refl _)
def aXn(a0:List X0)(a1:X0):Option (Bool):=
 AG (bAg a0 a1) fun r1=>
 some (decide (0<=r1))
theorem aV1(a0:List X0)(a1:X0):Le (aXn a0 a1) (Zr a0 a1):=by unfold aXn Zr;repeat' (first|exact bAh _ _|refine AZ ?_ fun _=>?_|exact Le.refl _)
def OZ(s0:List (List X0))(s9:List (List X0))(s10:Int)(s3:Int)(s11:Int):Option (Int):=itE (fun s:Int×Int=>F4 s0 s9 s10 s.1 s.2) 70 (s3,s11)
theorem aIa(s0:List (List X0))(s9:List (List X0))(s10:Int)(s3:Int)(s11:Int):Le (OZ s0 s9 s10 s3 s11) (OY s0 s9 s10 s3 s11):=by unfold OZ OY;repeat' (first|refine BG (fun _=>?_) _ _|exact Le.refl _)
def Oc(s25:List (List X0))(s26:Int)(s27:Int)(w6:List X0):Option ((List X0)):=itE (fun s:Int×List X0=>F5 s25 s26 s.1 s.2) 70 (s27,w6)
theorem aIc(s25:List (List X0))(s26:Int)(s27:Int)(w6:List X0):Le (Oc s25 s26 s27 w6) (Oa s25 s26 s27 w6):=by unfold Oc Oa;repeat' (first|refine BG (fun _=>?_) _ _|exact Le.refl _)
def aY7(a0:List (List X0)):Option (List X0):=
 AG (OZ a0 a0 (a0.length:Int) 0 0) fun o4=>
 AG (Qp o4) fun r5=>
 AG (Oc a0 (a0.length:Int) 0 r5) fun o7=>
 some o7
theorem aY8(a0:List (List X0)):Le (aY7 a0) (Xk a0):=by unfold aY7 Xk;repeat' (first|exact aIa _ _ _ _ _|exact aIc _ _ _ _|refine AZ ?_ fun _=>?_|exact Le.refl _)
def Il(s0:Int)(s1:List X0)(w4:X0)(w6:X0):Option ((X0)⊕(X0)):=
 AG (aXn s1 w6) fun r1=>
 AE (r1) (
  AG (Su s0 s1 w4 w6) fun o3=>
  some (.inl o3)) (
  some (.inr w6))
theorem Sv(s0:Int)(s1:List X0)(w4:X0)(w6:X0):Le (Il s0 s1 w4 w6) (F7 s0 s1 w4 w6):=by unfold Il F7;repeat' (first|exact aV1 _ _|refine AZ ?_ fun _=>?_|refine BJ ?_ ?_|exact Le.refl _)
def LH(s0:Int)(s1:List X0)(w4:X0)(w6:X0):Option (X0):=itE (fun s:X0=>Il s0 s1 w4 s) 70 w6
theorem aI1(s0:Int)(s1:List X0)(w4:X0)(w6:X0):Le (LH s0 s1 w4 w6) (MQ s0 s1 w4 w6):=by unfold LH MQ;repeat' (first|exact Sv _ _ _ _|refine BG (fun _=>?_) _ _|exact Le.refl _)
def aZf(a0:Int)(a1:List X0):Option (X0×Bool):=
 AE (!decide (a0=1)) (
  AE (!decide (a0=2)) (
   some (X0.mk 0 0 ([]:List UInt8) false,false)) (
   AG (LH a0 a1 (X0.mk 0 0 ([]:List UInt8) false) (X0.mk a0 0 ([]:List UInt8) false)) fun o4=>
   some (o4,true))) (
  AG (LH a0 a1 (X0.mk 0 0 ([]:List UInt8) false) (X0.mk a0 0 ([]:List UInt8) false)) fun o5=>
  some (o5,true))
theorem aZg(a0:Int)(a1:List X0):Le (aZf a0 a1) (Xt a0 a1):=by unfold aZf Xt;repeat' (first|exact aI1 _ _ _ _|refine AZ ?_ fun _=>?_|refine BJ ?_ ?_|exact Le.refl _)
def Od(s1:List X0)(s5:Int)(s28:List X2)(s29:Int)(s30:Int)(w6:List X0):Option ((List X0)):=
 AT s28 s30 fun x4=>
 AE (decide (x4.value.kind=s5)) (
  AG (aXn w6 x4.value) fun r5=>
  AG (Oe s1 s5 s28 s29 s30 (!r5) w6 x4) fun o6=>
  some o6) (
  AG (Oe s1 s5 s28 s29 s30 false w6 x4) fun o7=>
  some o7)
theorem aIe(s1:List X0)(s5:Int)(s28:List X2)(s29:Int)(s30:Int)(w6:List X0):Le (Od s1 s5 s28 s29 s30 w6) (Sm s1 s5 s28 s29 s30 w6):=by unfold Od Sm;repeat' (first|exact aV1 _ _|refine AZ ?_ fun _=>?_|refine BJ ?_ ?_|refine Cs fun _=>?_|exact Le.refl _)
def Ie(s1:List X0)(s5:Int)(s28:List X2)(s29:Int)(s30:Int)(w6:List X0):Option ((Int×List X0)⊕((List X0))):=
 AE (decide (s30<s29)) (
  AG (Od s1 s5 s28 s29 s30 w6) fun o8=>
  some (.inl ((AA .add .i64 s30 1),o8))) (
  some (.inr w6))
theorem Sp(s1:List X0)(s5:Int)(s28:List X2)(s29:Int)(s30:Int)(w6:List X0):Le (Ie s1 s5 s28 s29 s30 w6) (F6 s1 s5 s28 s29 s30 w6):=by unfold Ie F6;repeat' (first|exact aIe _ _ _ _ _ _|refine AZ ?_ fun _=>?_|refine BJ ?_ ?_|exact Le.refl _)
def Og(s1:List X0)(s5:Int)(s28:List X2)(s29:Int)(s30:Int)(w6:List X0):Option ((List X0)):=itE (fun s:Int×List X0=>Ie s1 s5 s28 s29 s.1 s.2) 70 (s30,w6)
theorem aIh(s1:List X0)(s5:Int)(s28:List X2)(s29:Int)(s30:Int)(w6:List X0):Le (Og s1 s5 s28 s29 s30 w6) (Sn s1 s5 s28 s29 s30 w6):=by unfold Og Sn;repeat' (first|exact Sp _ _ _ _ _ _|refine BG (fun _=>?_) _ _|exact Le.refl _)
def aZa(a0:Xq)(a1:List X0):Option (List X0):=
 AT a0.q.decls a0.d_ fun x1=>
 AT x1.types a0.at_ fun x2=>
 AG (aYp a0.q x2) fun r3=>
 AG (Og a1 x2 a0.b (a0.b.length:Int) 0 r3) fun o9=>
 AG (aY7 [o9,a1]) fun r10=>
 AG (aZf x2 r10) fun r11=>
 AG (Of r11.2 o9 r11.1) fun o12=>
 some o12
theorem aZb(a0:Xq)(a1:List X0):Le (aZa a0 a1) (Xn a0 a1):=by unfold aZa Xn;repeat' (first|exact aYq _ _|exact aIh _ _ _ _ _ _|exact aY8 _|exact aZg _ _|refine AZ ?_ fun _=>?_|refine Cs fun _=>?_|exact Le.refl _)
def Ox(s1:Int)(s8:List X2)(s9:Int)(w4:X0)(s10:Int):Option (Unit⊕X0):=itE (fun s:Int=>HJ s1 s8 s9 w4 s) 70 s10
theorem aLk(s1:Int)(s8:List X2)(s9:Int)(w4:X0)(s10:Int):Le (Ox s1 s8 s9 w4 s10) (ZH s1 s8 s9 w4 s10):=by unfold Ox ZH;repeat' (first|refine BG (fun _=>?_) _ _|exact Le.refl _)
def bAj(a0:List X2)(a1:Int):Option (X0×Bool):=
 AG (Ox a1 a0 (a0.length:Int) (X0.mk 0 0 ([]:List UInt8) false) 0) fun o2=>
 CX o2 (fun o3=>
  some (X0.mk 0 0 ([]:List UInt8) false,false)) (fun o4=>
  some (o4,true))
theorem bAk(a0:List X2)(a1:Int):Le (bAj a0 a1) (Yj a0 a1):=by unfold bAj Yj;repeat' (first|exact aLk _ _ _ _ _|refine AZ ?_ fun _=>?_|refine MC (fun _=>?_) fun _=>?_|exact Le.refl _)
def bB5(a0:Xq)(a1:B0)(a2:X0):Option (Bool):=
 AE (decide (a1.kind=1)) (
  some (X0.eqb a1.value a2)) (
  AE (decide (a1.kind=2)) (
   AG (bAj a0.b a1.n) fun r1=>
   AE (r1.2) (
    some (X0.eqb r1.1 a2)) (
    some false)) (
   some true))
theorem bB6(a0:Xq)(a1:B0)(a2:X0):Le (bB5 a0 a1 a2) (Zw a0 a1 a2):=by unfold bB5 Zw;repeat' (first|exact bAk _ _|refine AZ ?_ fun _=>?_|refine BJ ?_ ?_|exact Le.refl _)
def Oi(s6:Int)(s11:List X5)(s12:Int)(s13:Int)(w2:Xq)(w3:X0):Option (Int):=
 AT s11 s13 fun x1=>
 AE (decide (x1.event=w2.d_)) (
  AT x1.args w2.at_ fun x2=>
  AG (bB5 w2 x2 w3) fun r3=>
  AG (Oj s6 s13 s11 s12 s13 r3 w2 w3) fun o4=>
  some o4) (
  AG (Oj s6 s13 s11 s12 s13 false w2 w3) fun o5=>
  some o5)
theorem aI2(s6:Int)(s11:List X5)(s12:Int)(s13:Int)(w2:Xq)(w3:X0):Le (Oi s6 s11 s12 s13 w2 w3) (Sw s6 s11 s12 s13 w2 w3):=by unfold Oi Sw;repeat' (first|exact bB6 _ _ _|refine AZ ?_ fun _=>?_|refine BJ ?_ ?_|refine Cs fun _=>?_|exact Le.refl _)
def Im(s11:List X5)(s12:Int)(w2:Xq)(w3:X0)(s6:Int)(s13:Int):Option ((Int×Int)⊕(Int)):=
 AE (decide (s13<s12)) (
  AG (Oi s6 s11 s12 s13 w2 w3) fun o6=>
  some (.inl (o6,(AA .add .i64 s13 1)))) (
  some (.inr s6))
theorem Sx(s11:List X5)(s12:Int)(w2:Xq)(w3:X0)(s6:Int)(s13:Int):Le (Im s11 s12 w2 w3 s6 s13) (F8 s11 s12 w2 w3 s6 s13):=by unfold Im F8;repeat' (first|exact aI2 _ _ _ _ _ _|refine AZ ?_ fun _=>?_|refine BJ ?_ ?_|exact Le.refl _)
def Ok(s11:List X5)(s12:Int)(w2:Xq)(w3:X0)(s6:Int)(s13:Int):Option (Int):=itE (fun s:Int×Int=>Im s11 s12 w2 w3 s.1 s.2) 70 (s6,s13)
theorem aI4(s11:List X5)(s12:Int)(w2:Xq)(w3:X0)(s6:Int)(s13:Int):Le (Ok s11 s12 w2 w3 s6 s13) (WV s11 s12 w2 w3 s6 s13):=by unfold Ok WV;repeat' (first|exact Sx _ _ _ _ _ _|refine BG (fun _=>?_) _ _|exact Le.refl _)
def aZi(a0:Xq)(a1:X0):Option (Int):=
 AG (Ok a0.q.symbols (a0.q.symbols.length:Int) a0 a1 0 0) fun o7=>
 some o7
theorem aZj(a0:Xq)(a1:X0):Le (aZi a0 a1) (Xu a0 a1):=by unfold aZi Xu;repeat' (first|exact aI4 _ _ _ _ _ _|refine AZ ?_ fun _=>?_|exact Le.refl _)
def OU(s8:Int)(s12:List X0)(s13:Int)(s14:Int)(w0:List (Int×Bool))(w3:Xq)(w5:List (Int×Bool)):Option ((List (Int×Bool))):=Mn (Ib s8 s12 s13 s14 w0 w3) w0 (fun(x:Int×Bool) (s:(List (Int×Bool)))=>F1 s8 s12 s13 s14 w0 w3 x.1 x.2 s) w5
theorem aHz(s8:Int)(s12:List X0)(s13:Int)(s14:Int)(w0:List (Int×Bool))(w3:Xq)(w5:List (Int×Bool)):Le (OU s8 s12 s13 s14 w0 w3 w5) (Vq s8 s12 s13 s14 w0 w3 w5):=by unfold OU Vq;repeat' (first|refine Lm fun _ _=>?_|exact Le.refl _)
def OS(s8:Int)(s12:List X0)(s13:Int)(s14:Int)(w0:List (Int×Bool))(w3:Xq)(w5:List (Int×Bool)):Option ((List (Int×Bool))):=
 AG (OU s8 s12 s13 s14 w0 w3 w5) fun o4=>
 some o4
theorem aHv(s8:Int)(s12:List X0)(s13:Int)(s14:Int)(w0:List (Int×Bool))(w3:Xq)(w5:List (Int×Bool)):Le (OS s8 s12 s13 s14 w0 w3 w5) (Sh s8 s12 s13 s14 w0 w3 w5):=by unfold OS Sh;repeat' (first|exact aHz _ _ _ _ _ _ _|refine AZ ?_ fun _=>?_|exact Le.refl _)
def Ia(s12:List X0)(s13:Int)(w0:List (Int×Bool))(w3:Xq)(s14:Int)(w5:List (Int×Bool)):Option ((Int×(List (Int×Bool)))⊕((List (Int×Bool)))):=
 AE (decide (s14<s13)) (
  AT s12 s14 fun x2=>
  AG (aZi w3 x2) fun r3=>
  AG (OS r3 s12 s13 s14 w0 w3 w5) fun o5=>
  some (.inl ((AA .add .i64 s14 1),o5))) (
  some (.inr w5))
theorem Si(s12:List X0)(s13:Int)(w0:List (Int×Bool))(w3:Xq)(s14:Int)(w5:List (Int×Bool)):Le (Ia s12 s13 w0 w3 s14 w5) (Fz s12 s13 w0 w3 s14 w5):=by unfold Ia Fz;repeat' (first|exact aZj _ _|exact aHv _ _ _ _ _ _ _|refine AZ ?_ fun _=>?_|refine BJ ?_ ?_|refine Cs fun _=>?_|exact Le.refl _)
def OT(s12:List X0)(s13:Int)(w0:List (Int×Bool))(w3:Xq)(s14:Int)(w5:List (Int×Bool)):Option ((List (Int×Bool))):=itE (fun s:Int×(List (Int×Bool))=>Ia s12 s13 w0 w3 s.1 s.2) 70 (s14,w5)
theorem aHx(s12:List X0)(s13:Int)(w0:List (Int×Bool))(w3:Xq)(s14:Int)(w5:List (Int×Bool)):Le (OT s12 s13 w0 w3 s14 w5) (Vn s12 s13 w0 w3 s14 w5):=by unfold OT Vn;repeat' (first|exact Si _ _ _ _ _ _|refine BG (fun _=>?_) _ _|exact Le.refl _)
def aY0(a1:Xq)(w0:List (Int×Bool)):Option ((List (Int×Bool))):=
 AG (aZa a1 ([]:List X0)) fun r1=>
 AG (OT r1 (r1.length:Int) w0 a1 0 ([]:List (Int×Bool))) fun o6=>
 some o6
theorem aY1(a1:Xq)(w0:List (Int×Bool)):Le (aY0 a1 w0) (Xi a1 w0):=by unfold aY0 Xi;repeat' (first|exact aZb _ _|exact aHx _ _ _ _ _ _|refine AZ ?_ fun _=>?_|exact Le.refl _)
def ID(s1:List X2)(s6:Int)(s15:Int)(s16:Int)(s30:Int)(w2:AD)(w5:List (Int×Bool))(s31:Int)(w7:List (Int×Bool)):Option ((Int×(List (Int×Bool)))⊕((List (Int×Bool)))):=
 AE (decide (s31<s30)) (
  AG (aY0 (Xq.mk w2 s1 s6 s31) w7) fun r3=>
  some (.inl ((AA .add .i64 s31 1),r3))) (
  some (.inr w7))
theorem SJ(s1:List X2)(s6:Int)(s15:Int)(s16:Int)(s30:Int)(w2:AD)(w5:List (Int×Bool))(s31:Int)(w7:List (Int×Bool)):Le (ID s1 s6 s15 s16 s30 w2 w5 s31 w7) (Fs s1 s6 s15 s16 s30 w2 w5 s31 w7):=by unfold ID Fs;repeat' (first|exact aY1 _ _|refine AZ ?_ fun _=>?_|refine BJ ?_ ?_|exact Le.refl _)
def Nt(s1:List X2)(s6:Int)(s15:Int)(s16:Int)(s30:Int)(w2:AD)(w5:List (Int×Bool))(s31:Int)(w7:List (Int×Bool)):Option ((List (Int×Bool))):=itE (fun s:Int×(List (Int×Bool))=>ID s1 s6 s15 s16 s30 w2 w5 s.1 s.2) 70 (s31,w7)
theorem aFm(s1:List X2)(s6:Int)(s15:Int)(s16:Int)(s30:Int)(w2:AD)(w5:List (Int×Bool))(s31:Int)(w7:List (Int×Bool)):Le (Nt s1 s6 s15 s16 s30 w2 w5 s31 w7) (UP s1 s6 s15 s16 s30 w2 w5 s31 w7):=by unfold Nt UP;repeat' (first|exact SJ _ _ _ _ _ _ _ _ _|refine BG (fun _=>?_) _ _|exact Le.refl _)
def Nu(s1:List X2)(s15:Int)(s16:Int)(w2:AD)(w7:List (Int×Bool))(w5:List (Int×Bool)):Option ((List (Int×Bool))):=Mn (IE s1 s15 s16 w2 w7) w7 (fun(x:Int×Bool) (s:(List (Int×Bool)))=>Gs s1 s15 s16 w2 w7 x.1 x.2 s) w5
theorem aFo(s1:List X2)(s15:Int)(s16:Int)(w2:AD)(w7:List (Int×Bool))(w5:List (Int×Bool)):Le (Nu s1 s15 s16 w2 w7 w5) (US s1 s15 s16 w2 w7 w5):=by unfold Nu US;repeat' (first|refine Lm fun _ _=>?_|exact Le.refl _)
def Nq(s1:List X2)(s15:Int)(s16:Int)(w2:AD)(w5:List (Int×Bool))(w7:List (Int×Bool)):Option ((List (Int×Bool))):=
 AG (Nu s1 s15 s16 w2 w7 w5) fun o5=>
 some o5
theorem aFg(s1:List X2)(s15:Int)(s16:Int)(w2:AD)(w5:List (Int×Bool))(w7:List (Int×Bool)):Le (Nq s1 s15 s16 w2 w5 w7) (SG s1 s15 s16 w2 w5 w7):=by unfold Nq SG;repeat' (first|exact aFo _ _ _ _ _ _|refine AZ ?_ fun _=>?_|exact Le.refl _)
def IC(s1:List X2)(s15:Int)(w2:AD)(s16:Int)(w5:List (Int×Bool)):Option ((Int×(List (Int×Bool)))⊕((List (Int×Bool)))):=
 AE (decide (s16<s15)) (
  AG (aZy w2 s16) fun r1=>
  AT w2.decls s16 fun x2=>
  AG (Nt s1 s16 s15 s16 (x2.types.length:Int) w2 w5 0 (GP r1 true ([]:List (Int×Bool)))) fun o4=>
  AG (Nq s1 s15 s16 w2 w5 o4) fun o6=>
  some (.inl ((AA .add .i64 s16 1),o6))) (
  some (.inr w5))
theorem SI(s1:List X2)(s15:Int)(w2:AD)(s16:Int)(w5:List (Int×Bool)):Le (IC s1 s15 w2 s16 w5) (Fr s1 s15 w2 s16 w5):=by unfold IC Fr;repeat' (first|exact aZz _ _|exact aFm _ _ _ _ _ _ _ _ _|exact aFg _ _ _ _ _ _|refine AZ ?_ fun _=>?_|refine BJ ?_ ?_|refine Cs fun _=>?_|exact Le.refl _)
def Ns(s1:List X2)(s15:Int)(w2:AD)(s16:Int)(w5:List (Int×Bool)):Option ((List (Int×Bool))):=itE (fun s:Int×(List (Int×Bool))=>IC s1 s15 w2 s.1 s.2) 70 (s16,w5)
theorem aFk(s1:List X2)(s15:Int)(w2:AD)(s16:Int)(w5:List (Int×Bool)):Le (Ns s1 s15 w2 s16 w5) (UM s1 s15 w2 s16 w5):=by unfold Ns UM;repeat' (first|exact SI _ _ _ _ _|refine BG (fun _=>?_) _ _|exact Le.refl _)
def Nv(w5:List (Int×Bool))(w10:List Int):Option (List Int):=Mn (K9 w5) w5 (fun(x:Int×Bool) (s:List Int)=>Ez w5 x.1 x.2 s) w10
theorem aFq(w5:List (Int×Bool))(w10:List Int):Le (Nv w5 w10) (UV w5 w10):=by unfold Nv UV;repeat' (first|refine Lm fun _ _=>?_|exact Le.refl _)
def Nr(w5:List (Int×Bool)):Option ((List Int)):=
 AG (Nv w5 ([]:List Int)) fun o8=>
 some o8
theorem aFi(w5:List (Int×Bool)):Le (Nr w5) (SH w5):=by unfold Nr SH;repeat' (first|exact aFq _ _|refine AZ ?_ fun _=>?_|exact Le.refl _)
def aU4(a0:AD)(a1:List X2):Option (List Int):=
 AG (Ns a1 (a0.decls.length:Int) a0 0 ([]:List (Int×Bool))) fun o7=>
 AG (Nr (Nb 0 o7)) fun o9=>
 AG (Tw o9) fun r10=>
 some r10
theorem aQu(a0:AD)(a1:List X2):Le (aU4 a0 a1) (X4 a0 a1):=by unfold aU4 X4;repeat' (first|exact aFk _ _ _ _ _|exact aFi _|exact aOz _|refine AZ ?_ fun _=>?_|exact Le.refl _)
def N9(s1:Int)(s2:Int)(s7:Int)(s8:Int)(s14:List Xg)(s15:Int)(s16:Int)(s28:List Xr)(s29:Int)(w3:AD)(w9:Xg)(s10:Int)(s30:Int):Option (Int):=itE (fun s:Int×Int=>G0 s1 s2 s7 s8 s14 s15 s16 s28 s29 w3 w9 s.1 s.2) 70 (s10,s30)
theorem aGh(s1:Int)(s2:Int)(s7:Int)(s8:Int)(s14:List Xg)(s15:Int)(s16:Int)(s28:List Xr)(s29:Int)(w3:AD)(w9:Xg)(s10:Int)(s30:Int):Le (N9 s1 s2 s7 s8 s14 s15 s16 s28 s29 w3 w9 s10 s30) (SU s1 s2 s7 s8 s14 s15 s16 s28 s29 w3 w9 s10 s30):=by unfold N9 SU;repeat' (first|refine BG (fun _=>?_) _ _|exact Le.refl _)
def N7(s1:Int)(s2:Int)(s7:Int)(s14:List Xg)(s15:Int)(s16:Int)(w3:AD):Option (Int):=
 AT s14 s16 fun x1=>
 AU (0<=(IntKind.wrap .u64 s16)) (
  AE (decide ((AA .and .u32 s1 (AA .shl .u32 1 (IntKind.wrap .u64 s16)))=0)) (
   some s7) (
   AG (N9 s1 s2 s7 s16 s14 s15 s16 w3.trans (w3.trans.length:Int) w3 x1 0 0) fun o6=>
   AE (decide (o6=0)) (
    AG (LA s1 s2 s7 s16 o6 s14 s15 s16 (!x1.next) w3) fun o7=>
    some (AA .or .u32 s7 o7)) (
    AG (LA s1 s2 s7 s16 o6 s14 s15 s16 false w3) fun o8=>
    some (AA .or .u32 s7 o8))))
theorem aGb(s1:Int)(s2:Int)(s7:Int)(s14:List Xg)(s15:Int)(s16:Int)(w3:AD):Le (N7 s1 s2 s7 s14 s15 s16 w3) (SS s1 s2 s7 s14 s15 s16 w3):=by unfold N7 SS;repeat' (first|exact aGh _ _ _ _ _ _ _ _ _ _ _ _ _|refine AZ ?_ fun _=>?_|refine BJ ?_ ?_|refine E7 ?_|refine Cs fun _=>?_|exact Le.refl _)
def II(s1:Int)(s2:Int)(s14:List Xg)(s15:Int)(w3:AD)(s7:Int)(s16:Int):Option ((Int×Int)⊕(Int)):=
 AE (decide (s16<s15)) (
  AG (N7 s1 s2 s7 s14 s15 s16 w3) fun o9=>
  some (.inl (o9,(AA .add .i64 s16 1)))) (
  some (.inr s7))
theorem ST(s1:Int)(s2:Int)(s14:List Xg)(s15:Int)(w3:AD)(s7:Int)(s16:Int):Le (II s1 s2 s14 s15 w3 s7 s16) (E0 s1 s2 s14 s15 w3 s7 s16):=by unfold II E0;repeat' (first|exact aGb _ _ _ _ _ _ _|refine AZ ?_ fun _=>?_|refine BJ ?_ ?_|exact Le.refl _)
def N8(s1:Int)(s2:Int)(s14:List Xg)(s15:Int)(w3:AD)(s7:Int)(s16:Int):Option (Int):=itE (fun s:Int×Int=>II s1 s2 s14 s15 w3 s.1 s.2) 70 (s7,s16)
theorem aGf(s1:Int)(s2:Int)(s14:List Xg)(s15:Int)(w3:AD)(s7:Int)(s16:Int):Le (N8 s1 s2 s14 s15 w3 s7 s16) (Ut s1 s2 s14 s15 w3 s7 s16):=by unfold N8 Ut;repeat' (first|exact ST _ _ _ _ _ _ _|refine BG (fun _=>?_) _ _|exact Le.refl _)
def aUb(a0:AD)(a1:Int)(a2:Int):Option (Int):=
 AG (N8 a1 a2 a0.states (a0.states.length:Int) a0 0 0) fun o10=>
 some o10
theorem aQy(a0:AD)(a1:Int)(a2:Int):Le (aUb a0 a1 a2) (X8 a0 a1 a2):=by unfold aUb X8;repeat' (first|exact aGf _ _ _ _ _ _ _|refine AZ ?_ fun _=>?_|exact Le.refl _)
def OV(s11:List Int)(s12:Int)(s44:List Int)(s45:Int)(s46:Int)(w4:AD)(w8:List Int)(w9:MP Int Int)(w10:MP Int Int):Option ((List Int×MP Int Int×MP Int Int)):=
 AT s44 s46 fun x4=>
 AU (0<=s12/\s12+1<=(w8.length:Int)) (
  AT w8 s12 fun x5=>
  AG (aUb w4 x5 x4) fun r6=>
  AG (Vt s11 s12 x4 r6 s44 s45 s46 (!((BH 0 w9 r6).2)) w4 w8 w9 w10) fun o8=>
  some (o8.1,o8.2.1,o8.2.2))
theorem aH1(s11:List Int)(s12:Int)(s44:List Int)(s45:Int)(s46:Int)(w4:AD)(w8:List Int)(w9:MP Int Int)(w10:MP Int Int):Le (OV s11 s12 s44 s45 s46 w4 w8 w9 w10) (Sj s11 s12 s44 s45 s46 w4 w8 w9 w10):=by unfold OV Sj;repeat' (first|exact aQy _ _ _|refine AZ ?_ fun _=>?_|refine E7 ?_|refine Cs fun _=>?_|exact Le.refl _)
def Id(s11:List Int)(s12:Int)(s44:List Int)(s45:Int)(w4:AD)(s46:Int)(w8:List Int)(w9:MP Int Int)(w10:MP Int Int):Option ((Int×List Int×MP Int Int×MP Int Int)⊕((List Int×MP Int Int×MP Int Int))):=
 AE (decide (s46<s45)) (
  AG (OV s11 s12 s44 s45 s46 w4 w8 w9 w10) fun o9=>
  some (.inl ((AA .add .i64 s46 1),o9.1,o9.2.1,o9.2.2))) (
  some (.inr (w8,w9,w10)))
theorem Sl(s11:List Int)(s12:Int)(s44:List Int)(s45:Int)(w4:AD)(s46:Int)(w8:List Int)(w9:MP Int Int)(w10:MP Int Int):Le (Id s11 s12 s44 s45 w4 s46 w8 w9 w10) (F3 s11 s12 s44 s45 w4 s46 w8 w9 w10):=by unfold Id F3;repeat' (first|exact aH1 _ _ _ _ _ _ _ _ _|refine AZ ?_ fun _=>?_|refine BJ ?_ ?_|exact Le.refl _)
def OX(s11:List Int)(s12:Int)(s44:List Int)(s45:Int)(w4:AD)(s46:Int)(w8:List Int)(w9:MP Int Int)(w10:MP Int Int):Option ((List Int×MP Int Int×MP Int Int)):=itE (fun s:Int×List Int×MP Int Int×MP Int Int=>Id s11 s12 s44 s45 w4 s.1 s.2.1 s.2.2.1 s.2.2.2) 70 (s46,w8,w9,w10)
theorem aH6(s11:List Int)(s12:Int)(s44:List Int)(s45:Int)(w4:AD)(s46:Int)(w8:List Int)(w9:MP Int Int)(w10:MP Int Int):Le (OX s11 s12 s44 s45 w4 s46 w8 w9 w10) (Vy s11 s12 s44 s45 w4 s46 w8 w9 w10):=by unfold OX Vy;repeat' (first|exact Sl _ _ _ _ _ _ _ _ _|refine BG (fun _=>?_) _ _|exact Le.refl _)
def Ic(s11:List Int)(w4:AD)(s12:Int)(w8:List Int)(w9:MP Int Int)(w10:MP Int Int):Option ((Int×List Int×MP Int Int×MP Int Int)⊕((List Int×MP Int Int×MP Int Int))):=
 AE (decide (s12<(w8.length:Int))) (
  AU (0<=s12/\s12+1<=(w8.length:Int)) (
   AT w8 s12 fun x2=>
   AG (Qr x2) fun r3=>
   AE (r3) (
    AU (0<=(AA .add .i64 s12 1)/\(AA .add .i64 s12 1)<=(w8.length:Int)) (
     some (.inr (w8.take ((AA .add .i64 s12 1)).toNat,w9,w10)))) (
    AG (OX s11 s12 s11 (s11.length:Int) w4 0 w8 w9 w10) fun o10=>
    some (.inl ((AA .add .i64 s12 1),o10.1,o10.2.1,o10.2.2))))) (
  some (.inr (w8,w9,w10)))
theorem Sk(s11:List Int)(w4:AD)(s12:Int)(w8:List Int)(w9:MP Int Int)(w10:MP Int Int):Le (Ic s11 w4 s12 w8 w9 w10) (F2 s11 w4 s12 w8 w9 w10):=by unfold Ic F2;repeat' (first|exact aH6 _ _ _ _ _ _ _ _ _|refine AZ ?_ fun _=>?_|refine BJ ?_ ?_|refine E7 ?_|refine Cs fun _=>?_|exact Le.refl _)
def OW(s11:List Int)(w4:AD)(s12:Int)(w8:List Int)(w9:MP Int Int)(w10:MP Int Int):Option ((List Int×MP Int Int×MP Int Int)):=itE (fun s:Int×List Int×MP Int Int×MP Int Int=>Ic s11 w4 s.1 s.2.1 s.2.2.1 s.2.2.2) 70 (s12,w8,w9,w10)
theorem aH4(s11:List Int)(w4:AD)(s12:Int)(w8:List Int)(w9:MP Int Int)(w10:MP Int Int):Le (OW s11 w4 s12 w8 w9 w10) (Vu s11 w4 s12 w8 w9 w10):=by unfold OW Vu;repeat' (first|exact Sk _ _ _ _ _ _|refine BG (fun _=>?_) _ _|exact Le.refl _)
def aY4(a0:AD)(a1:List X2)(a2:Int):Option (List Int×MP Int Int×MP Int Int):=
 AG (aU4 a0 a1) fun r1=>
 AG (OW r1 a0 0 [a2] (Cb (Dk:MP Int Int) a2 a2) (Dk:MP Int Int)) fun o11=>
 some (o11.1,o11.2.1,o11.2.2)
theorem aY5(a0:AD)(a1:List X2)(a2:Int):Le (aY4 a0 a1 a2) (Xj a0 a1 a2):=by unfold aY4 Xj;repeat' (first|exact aQu _ _|exact aH4 _ _ _ _ _ _|refine AZ ?_ fun _=>?_|exact Le.refl _)
def bBz(a0:AD)(a1:List X2)(a2:Int):Option (List Int):=
 AG (aY4 a0 a1 a2) fun r1=>
 AG (Tw r1.1) fun r2=>
 some r2
theorem bB0(a0:AD)(a1:List X2)(a2:Int):Le (bBz a0 a1 a2) (Zt a0 a1 a2):=by unfold bBz Zt;repeat' (first|exact aY5 _ _ _|exact aEf _|refine AZ ?_ fun _=>?_|exact Le.refl _)
def Ot(s1:Int)(s8:List Xg)(s9:Int)(s10:Int):Option (Unit⊕Unit):=itE (fun s:Int=>HG s1 s8 s9 s) 70 s10
theorem aKx(s1:Int)(s8:List Xg)(s9:Int)(s10:Int):Le (Ot s1 s8 s9 s10) (YI s1 s8 s9 s10):=by unfold Ot YI;repeat' (first|refine BG (fun _=>?_) _ _|exact Le.refl _)
def aVm(a0:AD)(a1:Int):Option (Bool):=
 AG (Ot a1 a0.states (a0.states.length:Int) 0) fun o2=>
 CX o2 (fun o3=>
  some false) (fun o4=>
  some true)
theorem aVn(a0:AD)(a1:Int):Le (aVm a0 a1) (Yb a0 a1):=by unfold aVm Yb;repeat' (first|exact aKx _ _ _ _|refine AZ ?_ fun _=>?_|refine MC (fun _=>?_) fun _=>?_|exact Le.refl _)
def Iz(s1:Int)(s21:List Int)(s22:Int)(w0:MP Int Int)(w5:AD)(s23:Int)(w11:List UInt8):Option ((Int×List UInt8)⊕((List UInt8))):=
 AE (decide (s23<s22)) (
  AT s21 s23 fun x1=>
  AG (aUb w5 s1 x1) fun r2=>
  AU (fit w11.length [u8w ((BH 0 w0 r2).1),u8w (AA .shr .i64 ((BH 0 w0 r2).1) 8)].length 1) (
   some (.inl ((AA .add .i64 s23 1),w11++[u8w ((BH 0 w0 r2).1),u8w (AA .shr .i64 ((BH 0 w0 r2).1) 8)])))) (
  some (.inr w11))
theorem TD(s1:Int)(s21:List Int)(s22:Int)(w0:MP Int Int)(w5:AD)(s23:Int)(w11:List UInt8):Le (Iz s1 s21 s22 w0 w5 s23 w11) (GB s1 s21 s22 w0 w5 s23 w11):=by unfold Iz GB;repeat' (first|exact aQy _ _ _|refine AZ ?_ fun _=>?_|refine BJ ?_ ?_|refine E7 ?_|refine Cs fun _=>?_|exact Le.refl _)
def Ov(s1:Int)(s21:List Int)(s22:Int)(w0:MP Int Int)(w5:AD)(s23:Int)(w11:List UInt8):Option ((List UInt8)):=itE (fun s:Int×List UInt8=>Iz s1 s21 s22 w0 w5 s.1 s.2) 70 (s23,w11)
theorem aK2(s1:Int)(s21:List Int)(s22:Int)(w0:MP Int Int)(w5:AD)(s23:Int)(w11:List UInt8):Le (Ov s1 s21 s22 w0 w5 s23 w11) (YP s1 s21 s22 w0 w5 s23 w11):=by unfold Ov YP;repeat' (first|exact TD _ _ _ _ _ _ _|refine BG (fun _=>?_) _ _|exact Le.refl _)
def aZ9(a0:AD)(a1:Int)(a2:Int)(a3:List Int)(w0:MP Int Int):Option (List UInt8×MP Int Int):=
 AG (Ov a1 a3 (a3.length:Int) w0 a0 0 [u8w a2,u8w (AA .shr .i64 a2 8)]) fun o3=>
 some (o3,w0)
theorem bAa(a0:AD)(a1:Int)(a2:Int)(a3:List Int)(w0:MP Int Int):Le (aZ9 a0 a1 a2 a3 w0) (Yd a0 a1 a2 a3 w0):=by unfold aZ9 Yd;repeat' (first|exact aK2 _ _ _ _ _ _ _|refine AZ ?_ fun _=>?_|exact Le.refl _)
def On(s13:List (List UInt8))(s14:Int)(s15:Int)(w3:MP (List UInt8) Int)(w4:List Int):Option ((List Int)):=itE (fun s:Int×MP (List UInt8) Int×List Int=>GA s13 s14 s.1 s.2.1 s.2.2) 70 (s15,w3,w4)
theorem aJ7(s13:List (List UInt8))(s14:Int)(s15:Int)(w3:MP (List UInt8) Int)(w4:List Int):Le (On s13 s14 s15 w3 w4) (XF s13 s14 s15 w3 w4):=by unfold On XF;repeat' (first|refine BG (fun _=>?_) _ _|exact Le.refl _)
def aZs(a0:List (List UInt8)):Option (List Int):=
 AU (0<=(a0.length:Int)/\fit 0 (a0.length:Int).toNat 8) (
  AG (On a0 (a0.length:Int) 0 (Dk:MP (List UInt8) Int) (List.replicate (a0.length:Int).toNat 0)) fun o4=>
  some o4)
theorem aZt(a0:List (List UInt8)):Le (aZs a0) (Y4 a0):=by unfold aZs Y4;repeat' (first|exact aJ7 _ _ _ _ _|refine AZ ?_ fun _=>?_|refine E7 ?_|exact Le.refl _)
def Oy(s0:List Int)(s1:List Int)(s12:Int)(s13:Int):Option (Unit⊕Unit):=itE (fun s:Int=>HK s0 s1 s12 s) 70 s13
theorem aLm(s0:List Int)(s1:List Int)(s12:Int)(s13:Int):Le (Oy s0 s1 s12 s13) (ZK s0 s1 s12 s13):=by unfold Oy ZK;repeat' (first|refine BG (fun _=>?_) _ _|exact Le.refl _)
def bAm(a0:List Int)(a1:List Int):Option (Bool):=
 AE (!decide ((a0.length:Int)=(a1.length:Int))) (
  some false) (
  AG (Oy a0 a1 (a0.length:Int) 0) fun o3=>
  CX o3 (fun o4=>
   some true) (fun o5=>
   some false))
theorem bAn(a0:List Int)(a1:List Int):Le (bAm a0 a1) (Yl a0 a1):=by unfold bAm Yl;repeat' (first|exact aLm _ _ _ _|refine AZ ?_ fun _=>?_|refine BJ ?_ ?_|refine MC (fun _=>?_) fun _=>?_|exact Le.refl _)
def Nw(s8:List Int)(s9:List Int)(s30:List Int)(s31:Int)(s32:Int)(w3:AD)(w10:List Int):Option ((List Int)):=
 AT s30 s32 fun x3=>
 AG (aVm w3 x3) fun r4=>
 AG (UY s8 s9 s32 s30 s31 s32 r4 w3 w10) fun o5=>
 some o5
theorem aFs(s8:List Int)(s9:List Int)(s30:List Int)(s31:Int)(s32:Int)(w3:AD)(w10:List Int):Le (Nw s8 s9 s30 s31 s32 w3 w10) (SK s8 s9 s30 s31 s32 w3 w10):=by unfold Nw SK;repeat' (first|exact aVn _ _|refine AZ ?_ fun _=>?_|refine Cs fun _=>?_|exact Le.refl _)
def IF(s8:List Int)(s9:List Int)(s30:List Int)(s31:Int)(w3:AD)(s32:Int)(w10:List Int):Option ((Int×List Int)⊕((List Int))):=
 AE (decide (s32<s31)) (
  AG (Nw s8 s9 s30 s31 s32 w3 w10) fun o6=>
  some (.inl ((AA .add .i64 s32 1),o6))) (
  some (.inr w10))
theorem SL(s8:List Int)(s9:List Int)(s30:List Int)(s31:Int)(w3:AD)(s32:Int)(w10:List Int):Le (IF s8 s9 s30 s31 w3 s32 w10) (Ft s8 s9 s30 s31 w3 s32 w10):=by unfold IF Ft;repeat' (first|exact aFs _ _ _ _ _ _ _|refine AZ ?_ fun _=>?_|refine BJ ?_ ?_|exact Le.refl _)
def Ny(s8:List Int)(s9:List Int)(s30:List Int)(s31:Int)(w3:AD)(s32:Int)(w10:List Int):Option ((List Int)):=itE (fun s:Int×List Int=>IF s8 s9 s30 s31 w3 s.1 s.2) 70 (s32,w10)
theorem aFv(s8:List Int)(s9:List Int)(s30:List Int)(s31:Int)(w3:AD)(s32:Int)(w10:List Int):Le (Ny s8 s9 s30 s31 w3 s32 w10) (UZ s8 s9 s30 s31 w3 s32 w10):=by unfold Ny UZ;repeat' (first|exact SL _ _ _ _ _ _ _|refine BG (fun _=>?_) _ _|exact Le.refl _)
def N1(s8:List Int)(s9:List Int)(s10:List Int)(s45:List Int)(s46:Int)(w3:AD)(s47:Int)(w13:MP Int Int):Option ((MP Int Int)):=itE (fun s:Int×MP Int Int=>Gv s8 s9 s10 s45 s46 w3 s.1 s.2) 70 (s47,w13)
theorem aF0(s8:List Int)(s9:List Int)(s10:List Int)(s45:List Int)(s46:Int)(w3:AD)(s47:Int)(w13:MP Int Int):Le (N1 s8 s9 s10 s45 s46 w3 s47 w13) (Ue s8 s9 s10 s45 s46 w3 s47 w13):=by unfold N1 Ue;repeat' (first|refine BG (fun _=>?_) _ _|exact Le.refl _)
def IH(s8:List Int)(s9:List Int)(s10:List Int)(s59:List Int)(s60:Int)(w3:AD)(s61:Int)(w13:MP Int Int)(w16:List (List UInt8)):Option ((Int×MP Int Int×List (List UInt8))⊕((List (List UInt8)))):=
 AE (decide (s61<s60)) (
  AT s59 s61 fun x26=>
  AT s10 s61 fun x27=>
  AG (aZ9 w3 x26 x27 s9 w13) fun r28=>
  AU (fit w16.length [r28.1].length 16) (
   some (.inl ((AA .add .i64 s61 1),r28.2,w16++[r28.1])))) (
  some (.inr w16))
theorem SN(s8:List Int)(s9:List Int)(s10:List Int)(s59:List Int)(s60:Int)(w3:AD)(s61:Int)(w13:MP Int Int)(w16:List (List UInt8)):Le (IH s8 s9 s10 s59 s60 w3 s61 w13 w16) (Fv s8 s9 s10 s59 s60 w3 s61 w13 w16):=by unfold IH Fv;repeat' (first|exact bAa _ _ _ _ _|refine AZ ?_ fun _=>?_|refine BJ ?_ ?_|refine E7 ?_|refine Cs fun _=>?_|exact Le.refl _)
def N3(s8:List Int)(s9:List Int)(s10:List Int)(s59:List Int)(s60:Int)(w3:AD)(s61:Int)(w13:MP Int Int)(w16:List (List UInt8)):Option ((List (List UInt8))):=itE (fun s:Int×MP Int Int×List (List UInt8)=>IH s8 s9 s10 s59 s60 w3 s.1 s.2.1 s.2.2) 70 (s61,w13,w16)
theorem aF2(s8:List Int)(s9:List Int)(s10:List Int)(s59:List Int)(s60:Int)(w3:AD)(s61:Int)(w13:MP Int Int)(w16:List (List UInt8)):Le (N3 s8 s9 s10 s59 s60 w3 s61 w13 w16) (Uh s8 s9 s10 s59 s60 w3 s61 w13 w16):=by unfold N3 Uh;repeat' (first|exact SN _ _ _ _ _ _ _ _ _|refine BG (fun _=>?_) _ _|exact Le.refl _)
def IG(s8:List Int)(s9:List Int)(w3:AD)(s10:List Int):Option ((List Int)⊕((List Int))):=
 AG (N1 s8 s9 s10 s8 (s8.length:Int) w3 0 (Dk:MP Int Int)) fun o22=>
 AG (N3 s8 s9 s10 s8 (s8.length:Int) w3 0 o22 ([]:List (List UInt8))) fun o29=>
 AG (aZs o29) fun r30=>
 AG (bAm r30 s10) fun r31=>
 AE (r31) (
  some (.inr s10)) (
  some (.inl r30))
theorem SM(s8:List Int)(s9:List Int)(w3:AD)(s10:List Int):Le (IG s8 s9 w3 s10) (Fu s8 s9 w3 s10):=by unfold IG Fu;repeat' (first|exact aF0 _ _ _ _ _ _ _ _|exact aF2 _ _ _ _ _ _ _ _ _|exact aZt _|exact bAn _ _|refine AZ ?_ fun _=>?_|refine BJ ?_ ?_|exact Le.refl _)
def N0(s8:List Int)(s9:List Int)(w3:AD)(s10:List Int):Option ((List Int)):=itE (fun s:List Int=>IG s8 s9 w3 s) 70 s10
theorem aFy(s8:List Int)(s9:List Int)(w3:AD)(s10:List Int):Le (N0 s8 s9 w3 s10) (Nz s8 s9 w3 s10):=by unfold N0 Nz;repeat' (first|exact SM _ _ _ _|refine BG (fun _=>?_) _ _|exact Le.refl _)
def aYk(a0:AD)(a1:List X2)(a2:Int):Option (List Int×List Int):=
 AG (bBz a0 a1 a2) fun r1=>
 AG (aU4 a0 a1) fun r2=>
 AU (0<=(r1.length:Int)/\fit 0 (r1.length:Int).toNat 8) (
  AG (Ny r1 r2 r1 (r1.length:Int) a0 0 (List.replicate (r1.length:Int).toNat 0)) fun o7=>
  AG (N0 r1 r2 a0 o7) fun o32=>
  some (r1,o32))
theorem aYl(a0:AD)(a1:List X2)(a2:Int):Le (aYk a0 a1 a2) (X6 a0 a1 a2):=by unfold aYk X6;repeat' (first|exact bB0 _ _ _|exact aQu _ _|exact aFv _ _ _ _ _ _ _|exact aFy _ _ _ _|refine AZ ?_ fun _=>?_|refine E7 ?_|exact Le.refl _)
def Ou(s0:List Int)(s3:Int)(s4:Int):Option (Int):=itE (fun s:Int×Int=>HH s0 s.1 s.2) 70 (s3,s4)
theorem aK0(s0:List Int)(s3:Int)(s4:Int):Le (Ou s0 s3 s4) (YM s0 s3 s4):=by unfold Ou YM;repeat' (first|refine BG (fun _=>?_) _ _|exact Le.refl _)
def aZ6(a0:List Int):Option (Int):=
 AG (YL a0 (decide ((a0.length:Int)<1))) fun o1=>
 AT a0 0 fun x2=>
 AG (Ou a0 x2 1) fun o4=>
 some o4
theorem aZ7(a0:List Int):Le (aZ6 a0) (Yc a0):=by unfold aZ6 Yc;repeat' (first|exact aK0 _ _ _|refine AZ ?_ fun _=>?_|refine Cs fun _=>?_|exact Le.refl _)
def bB2(a0:AD)(a1:List X2):Option (Int):=
 AU (0<=(IntKind.wrap .u64 a0.start)) (
  AG (aYk a0 a1 (AA .shl .u32 1 (IntKind.wrap .u64 a0.start))) fun r1=>
  AG (aZ6 r1.2) fun r2=>
  some (AA .add .i64 r2 1))
theorem bB3(a0:AD)(a1:List X2):Le (bB2 a0 a1) (Zu a0 a1):=by unfold bB2 Zu;repeat' (first|exact aYl _ _ _|exact aZ7 _|refine AZ ?_ fun _=>?_|refine E7 ?_|exact Le.refl _)
def Oz(s2:Int)(s3:Int)(w0:List Int):Option ((List Int)):=itE (fun s:Int×Int×List Int=>O0 s.1 s.2.1 s.2.2) 70 (s2,s3,w0)
theorem aMg(s2:Int)(s3:Int)(w0:List Int):Le (Oz s2 s3 w0) (aMf s2 s3 w0):=by unfold Oz aMf;repeat' (first|refine BG (fun _=>?_) _ _|exact Le.refl _)
def bAv(w0:List Int):Option (List Int):=
 AG (Oz 0 (AA .sub .i64 (w0.length:Int) 1) w0) fun o3=>
 some o3
theorem bAw(w0:List Int):Le (bAv w0) (Yv w0):=by unfold bAv Yv;repeat' (first|exact aMg _ _ _|refine AZ ?_ fun _=>?_|exact Le.refl _)
def OK(s10:List Int)(s14:Int)(s15:Int)(s56:List Int)(s57:Int)(s58:Int)(w4:AD)(w11:X3)(w12:List X3)(w13:MP X3 Xe)(w16:X3):Option ((List X3×MP X3 Xe)):=
 AT s56 s58 fun x5=>
 AG (aUb w4 w16.a x5) fun r6=>
 AG (aUb w4 w16.b x5) fun r7=>
 AE (!((BH (Xe.mk (X3.mk 0 0) 0) w13 (X3.mk r6 r7)).2)) (
  AG (Sd s10 s14 s15 x5 s56 s57 s58 (!decide ((X3.mk r6 r7).a=(X3.mk r6 r7).b)) w4 w11 w12 w13 w16 (X3.mk r6 r7)) fun o8=>
  some (o8.1,o8.2)) (
  AG (Sd s10 s14 s15 x5 s56 s57 s58 false w4 w11 w12 w13 w16 (X3.mk r6 r7)) fun o9=>
  some (o9.1,o9.2))
theorem aG9(s10:List Int)(s14:Int)(s15:Int)(s56:List Int)(s57:Int)(s58:Int)(w4:AD)(w11:X3)(w12:List X3)(w13:MP X3 Xe)(w16:X3):Le (OK s10 s14 s15 s56 s57 s58 w4 w11 w12 w13 w16) (VQ s10 s14 s15 s56 s57 s58 w4 w11 w12 w13 w16):=by unfold OK VQ;repeat' (first|exact aQy _ _ _|refine AZ ?_ fun _=>?_|refine BJ ?_ ?_|refine Cs fun _=>?_|exact Le.refl _)
def IS(s10:List Int)(s14:Int)(s15:Int)(s56:List Int)(s57:Int)(w4:AD)(w11:X3)(w16:X3)(s58:Int)(w12:List X3)(w13:MP X3 Xe):Option ((Int×List X3×MP X3 Xe)⊕((List X3×MP X3 Xe))):=
 AE (decide (s58<s57)) (
  AG (OK s10 s14 s15 s56 s57 s58 w4 w11 w12 w13 w16) fun o10=>
  some (.inl ((AA .add .i64 s58 1),o10.1,o10.2))) (
  some (.inr (w12,w13)))
theorem Sf(s10:List Int)(s14:Int)(s15:Int)(s56:List Int)(s57:Int)(w4:AD)(w11:X3)(w16:X3)(s58:Int)(w12:List X3)(w13:MP X3 Xe):Le (IS s10 s14 s15 s56 s57 w4 w11 w16 s58 w12 w13) (LD s10 s14 s15 s56 s57 w4 w11 w16 s58 w12 w13):=by unfold IS LD;repeat' (first|exact aG9 _ _ _ _ _ _ _ _ _ _ _|refine AZ ?_ fun _=>?_|refine BJ ?_ ?_|exact Le.refl _)
def OM(s10:List Int)(s14:Int)(s15:Int)(s56:List Int)(s57:Int)(w4:AD)(w11:X3)(w16:X3)(s58:Int)(w12:List X3)(w13:MP X3 Xe):Option ((List X3×MP X3 Xe)):=itE (fun s:Int×List X3×MP X3 Xe=>IS s10 s14 s15 s56 s57 w4 w11 w16 s.1 s.2.1 s.2.2) 70 (s58,w12,w13)
theorem aHf(s10:List Int)(s14:Int)(s15:Int)(s56:List Int)(s57:Int)(w4:AD)(w11:X3)(w16:X3)(s58:Int)(w12:List X3)(w13:MP X3 Xe):Le (OM s10 s14 s15 s56 s57 w4 w11 w16 s58 w12 w13) (aHe s10 s14 s15 s56 s57 w4 w11 w16 s58 w12 w13):=by unfold OM aHe;repeat' (first|exact Sf _ _ _ _ _ _ _ _ _ _ _|refine BG (fun _=>?_) _ _|exact Le.refl _)
def IR(s10:List Int)(s14:Int)(w4:AD)(w11:X3)(s15:Int)(w12:List X3)(w13:MP X3 Xe):Option ((Int×List X3×MP X3 Xe)⊕((Int×List X3×MP X3 Xe))):=
 AE (decide (s15<(w12.length:Int))) (
  AT w12 s15 fun x2=>
  AG (aVm w4 x2.a) fun r3=>
  AG (aVm w4 x2.b) fun r4=>
  AE (!(r3==r4)) (
   some (.inr (s15,w12,w13))) (
   AG (OM s10 s14 s15 s10 (s10.length:Int) w4 w11 x2 0 w12 w13) fun o11=>
   some (.inl ((AA .add .i64 s15 1),o11.1,o11.2)))) (
  some (.inr (s14,w12,w13)))
theorem Se(s10:List Int)(s14:Int)(w4:AD)(w11:X3)(s15:Int)(w12:List X3)(w13:MP X3 Xe):Le (IR s10 s14 w4 w11 s15 w12 w13) (LC s10 s14 w4 w11 s15 w12 w13):=by unfold IR LC;repeat' (first|exact aVn _ _|exact aHf _ _ _ _ _ _ _ _ _ _ _|refine AZ ?_ fun _=>?_|refine BJ ?_ ?_|refine Cs fun _=>?_|exact Le.refl _)
def OL(s10:List Int)(s14:Int)(w4:AD)(w11:X3)(s15:Int)(w12:List X3)(w13:MP X3 Xe):Option ((Int×List X3×MP X3 Xe)):=itE (fun s:Int×List X3×MP X3 Xe=>IR s10 s14 w4 w11 s.1 s.2.1 s.2.2) 70 (s15,w12,w13)
theorem aHc(s10:List Int)(s14:Int)(w4:AD)(w11:X3)(s15:Int)(w12:List X3)(w13:MP X3 Xe):Le (OL s10 s14 w4 w11 s15 w12 w13) (aHb s10 s14 w4 w11 s15 w12 w13):=by unfold OL aHb;repeat' (first|exact Se _ _ _ _ _ _ _|refine BG (fun _=>?_) _ _|exact Le.refl _)
def ON(w11:X3)(w13:MP X3 Xe)(w22:List Int)(w23:X3):Option ((List Int)):=itE (fun s:List Int×X3=>OO w11 w13 s.1 s.2) 70 (w22,w23)
theorem aHi(w11:X3)(w13:MP X3 Xe)(w22:List Int)(w23:X3):Le (ON w11 w13 w22 w23) (aHh w11 w13 w22 w23):=by unfold ON aHh;repeat' (first|refine BG (fun _=>?_) _ _|exact Le.refl _)
def aYu(a0:AD)(a1:List X2)(a2:Int)(a3:Int):Option (List Int×Bool):=
 AG (aU4 a0 a1) fun r1=>
 AG (OL r1 (-1) a0 (X3.mk a2 a3) 0 [X3.mk a2 a3] (Cb (Dk:MP X3 Xe) (X3.mk a2 a3) (Xe.mk (X3.mk 0 0) 0))) fun o12=>
 AE (decide (o12.1<0)) (
  some (([]:List Int),false)) (
  AT o12.2.1 o12.1 fun x13=>
  AG (ON (X3.mk a2 a3) o12.2.2 ([]:List Int) x13) fun o14=>
  AG (bAv o14) fun r15=>
  some (r15,true))
theorem aYv(a0:AD)(a1:List X2)(a2:Int)(a3:Int):Le (aYu a0 a1 a2 a3) (Xd a0 a1 a2 a3):=by unfold aYu Xd;repeat' (first|exact aQu _ _|exact aHc _ _ _ _ _ _ _|exact aHi _ _ _ _|exact bAw _|refine AZ ?_ fun _=>?_|refine BJ ?_ ?_|refine Cs fun _=>?_|exact Le.refl _)
def aXo(a0:AD)(a1:List X2)(a2:Int)(a3:Int):Option (Bool):=
 AG (aYu a0 a1 a2 a3) fun r1=>
 some (!r1.2)
theorem bB4(a0:AD)(a1:List X2)(a2:Int)(a3:Int):Le (aXo a0 a1 a2 a3) (Zv a0 a1 a2 a3):=by unfold aXo Zv;repeat' (first|exact aYv _ _ _ _|refine AZ ?_ fun _=>?_|exact Le.refl _)
def bDl:Option (Bool):=
 AG (bB2 (AD.mk ([113]:List UInt8) ([]:List Xm) ([]:List Yo) ([]:List Yq) ([Xg.mk ([115]:List UInt8) false true,Xg.mk ([116]:List UInt8) false true]) 0 ([]:List X5) ([]:List Yw) ([]:List Xr)) ([]:List X2)) fun r1=>
 AE (decide (r1=1)) (
  AG (aXo (AD.mk ([113]:List UInt8) ([]:List Xm) ([]:List Yo) ([]:List Yq) ([Xg.mk ([115]:List UInt8) false true,Xg.mk ([116]:List UInt8) false true]) 0 ([]:List X5) ([]:List Yw) ([]:List Xr)) ([]:List X2) 1 2) fun r2=>
  AE (r2) (
   AG (aXo (AD.mk ([113]:List UInt8) ([]:List Xm) ([]:List Yo) ([]:List Yq) ([Xg.mk ([115]:List UInt8) false true,Xg.mk ([116]:List UInt8) false true]) 0 ([]:List X5) ([]:List Yw) ([]:List Xr)) ([]:List X2) 1 0) fun r3=>
   some (!r3)) (
   some false)) (
  some false)
theorem bBw:Le (bDl) (Zq):=by unfold bDl Zq;repeat' (first|exact bB3 _ _|exact bB4 _ _ _ _|refine AZ ?_ fun _=>?_|refine BJ ?_ ?_|exact Le.refl _)
theorem bBv:Zq=some true:=bBw _ (by kernel_rfl)
theorem El{α β σ τ:Type}{step:σ->Option (σ⊕τ)}(l:List α)(mk:Nat->β->σ)(f:β->α->β)(fin:β->τ)(I:Nat->β->Prop)
 (h1:∀i x w,l[i]? =some x->I i w->step (mk i w)=some (.inl (mk (i+1) (f w x)))/\I (i+1) (f w x)) (h2:∀w,I l.length w->step (mk l.length w)=some (.inr (fin w))) (w:β) (h0:I 0 w):AQ step (mk 0 w)=some (fin (l.foldl f w)):=by
 have h:=Em (step:=step) l mk (fun _ w x=>(.inl (f w x):β⊕τ)) fin I (fun i x w hx hI=>⟨(h1 i x w hx hI).1,fun w' hw=>by cases hw;exact(h1 i x w hx hI).2⟩) h2 (l.length+1) 0 w (by omega) (by omega) h0
 rw[h,List.drop_zero]
 congr 1
 clear h h1 h2 h0
 generalize 0=i
 revert i w
 induction l with
 |nil=>intro w i;rfl
 |cons x xs ih=>intro w i;rw[Ng];exact ih _ _
theorem MW{q:AD}(hF:Dt q){S:Nat}(hS:S<4294967296):Yb q (S:Int)=some (aV6 q S):=by
 have h8:=hF.states;have h:YI (S:Int) q.states (q.states.length:Int) 0=_:=EO (step:=fun s=>HG (S:Int) q.states (q.states.length:Int) s) q.states (aSl S) (.inl ())
  (fun i st hi=>by
   have hil:=Dj hi;have h1:=At (n:=i) (by omega);have h2:=aPp (n:=S) (m:=2^i) hS (Nat.lt_of_lt_of_le (Nat.pow_lt_pow_right (by decide) (show i<32 by omega)) (by decide));simp only[HG,ltD hi,AI,AN hi,Aq hi (show q.states.length<=9223372036854775807 by omega),h1,Pz (show i<32 by omega),h2,aSl];rw[Ai (by omega)];have h3:((S&&&2^i:Nat):Int)=0↔S.testBit i=false:=by rw[<-PF];omega
   cases st.accept with
   |false=>simp[AE]
   |true=>
    rw[AI]
    cases hb:S.testBit i with
    |false=>rw[decide_eq_true (h3.2 hb)];simp[AE]
    |true=>rw[decide_eq_false (by rw[h3,hb];simp)];simp[AE])
  (by simp only[HG,ltI,AJ])
 unfold Yb aV6;rw[h,AB];cases Ng (GF (aSl S)) (fun _=>.inl ()) 0 q.states ()<;>rfl
abbrev PP:=Int×Int
def SmI(x:Int):Prop:=∃n:Nat,x=(n:Int)/\n<256
def nxP(q:AD)(z:PP)(m:Int):PP:=(nx q z.1 m,nx q z.2 m)
def aXp(q:AD)(z:PP)(m:Int):Bool:=decide (nx q z.1 m≠nx q z.2 m)
def NS(q:AD)(L:List Int)(z:PP):List PP:=(L.filter (aXp q z)).map (nxP q z)
theorem aWw{q:AD}(hR:Ag q)(hS:Cf q)(x m:Int):SmI (nx q x m):=⟨_,rfl,Nat.lt_of_lt_of_le (Ry hR _ _) (show 2^q.states.length<=2^8 from Nat.pow_le_pow_right (by decide) hS.states)⟩
theorem rcP{q:AD}(hR:Ag q)(hS:Cf q){L:List Int}{s:PP}(hs:SmI s.1/\SmI s.2):∀z,Rch (NS q L) s z->SmI z.1/\SmI z.2:=fun z h=>by
 cases h with
 |refl=>exact hs
 |step _ hy=>
  obtain⟨m,_,rfl⟩:=mm.1 hy
  exact⟨aWw hR hS _ _,aWw hR hS _ _⟩
theorem bdP{q:AD}(hR:Ag q)(hS:Cf q){L:List Int}{s:PP}(hs:SmI s.1/\SmI s.2):Bd (NS q L) s 65536:=fun o h1 h2=>by
 have hinj:(o.map fun z:PP=>z.1*256+z.2).Nodup:=by unfold List.Nodup;rw[List.pairwise_map];refine List.Pairwise.imp_of_mem (fun{a b} ha hb hab he=>hab ?_) h1;obtain⟨⟨n1,e1,l1⟩,⟨n2,e2,l2⟩⟩:=rcP hR hS hs a (h2 a ha);obtain⟨⟨n3,e3,l3⟩,⟨n4,e4,l4⟩⟩:=rcP hR hS hs b (h2 b hb);apply Prod.ext<;>omega
 have:=hinj.length_le_of_subset (l₂:=(List.range 65536).map (fun n:Nat=>(n:Int))) fun x hx=>by obtain⟨z,hz,rfl⟩:=mm.1 hx;obtain⟨⟨n1,e1,l1⟩,⟨n2,e2,l2⟩⟩:=rcP hR hS hs z (h2 z hz);exact mm.2 ⟨n1*256+n2,List.mem_range.2 (by omega),by rw[e1,e2];simp⟩
 simpa using this
def JR(q:AD)(z:PP):Bool:= !(Hy q z.1==Hy q z.2)
def Ev(q:AD)(L:List Int)(s:PP):Nat×List PP:=wlS (NS q L) (JR q) 65537 0 [s]
theorem aO0{q:AD}(hR:Ag q)(hS:Cf q)(L:List Int){s:PP}(hs:SmI s.1/\SmI s.2):WI (NS q L) s (Ev q L s).1 (Ev q L s).2/\(∀j x,j<(Ev q L s).1->(Ev q L s).2[j]? =some x->JR q x=false)/\((Ev q L s).1=(Ev q L s).2.length\/∃x,(Ev q L s).2[(Ev q L s).1]? =some x/\JR q x=true):=
 aQi (bdP hR hS hs) _ 65537 0 _ WI.init (fun j x hj=>by omega) (Nat.le_refl _)
def fP(q:AD)(x:PP)(w:List PP)(m:Int):List PP:=if aXp q x m=true/\nxP q x m∉w then w++[nxP q x m]else w
theorem aS9(q:AD)(x:PP)(L:List Int)(o:List PP):L.foldl (fP q x) o=EV o (NS q L x):=by unfold NS;rw[<-MX];congr 1;funext w m;unfold fP;by_cases h:aXp q x m=true/\nxP q x m∉w;rw[if_pos h,if_pos h];rw[if_neg h,if_neg h]
theorem aWi{q:AD}{x:PP}{w:List PP}{m:Int}{i:Nat}{y:PP}(h:w[i]? =some y):(fP q x w m)[i]? =some y:=by unfold fP;split;rw[List.getElem?_append_left (Dj h)];exact h;exact h
theorem aWj(q:AD)(x:PP)(w:List PP)(m:Int):(fP q x w m).length<=w.length+1:=by unfold fP;split;simp;omega
def mkR(z:PP):Xl:=⟨z.1,z.2⟩
theorem aTo{a b:PP}(h:mkR a=mkR b):a=b:=by unfold mkR at h;simp only[Xl.mk.injEq]at h;exact Prod.ext h.1 h.2
theorem Xl.eqb_dec(a b:Xl):Xl.eqb a b=decide (a=b):=by rw[Bool.eq_iff_iff,Xl.eqb_iff];simp
theorem aN5(o:List PP)(z:PP)(hl:o.length<=9223372036854775807):Zl (o.map mkR) (mkR z)=some (decide (z∈o)):=by
 have hl':(o.map mkR).length<=9223372036854775807:=by rw[List.length_map];exact hl
 have h:aSg (o.map mkR) (mkR z) 0=some (if(o.map mkR).all (fun y=> !decide (y=mkR z))=true then .inl ()else .inr ()):=Ju (step:=fun s=>JN (o.map mkR) (mkR z) s) (o.map mkR) (fun y=> !decide (y=mkR z)) (.inl ()) (.inr ())
  (fun i y hy=>by simp only[JN,ltD hy,AI,AN hy,Aq hy hl',Xl.eqb_dec,Dp];by_cases h:y=mkR z<;>simp[h])
  (by simp only[JN,ltI,AJ])
 unfold Zl;rw[h,AB];by_cases hz:z∈o;rw[if_neg,D6,decide_eq_true hz];rw[List.all_eq_true];intro h;have:=h (mkR z) (List.mem_map_of_mem hz);simp at this;rw[if_pos,CK,decide_eq_false hz];rw[List.all_eq_true];intro y hy;obtain⟨w,hw,rfl⟩:=mm.1 hy;have:¬mkR w=mkR z:=fun e=>hz (aTo e▸hw);simp[this]
theorem aE7{q:AD}(hF:Dt q)(hR:Ag q){L:List Int}(hL:Fp q L)(i:Nat){x:PP}(hx:SmI x.1/\SmI x.2){o:List PP}(ho:o[i]? =some x)(hl:o.length<=70000):aRh L (i:Int) q 0 (o.map mkR)=some ((EV o (NS q L x)).map mkR):=by
 have hll:=hL.len;have h:=El (step:=fun s:Int×List Xl=>Is L (i:Int) q s.1 s.2) L (fun j w=>((j:Int),w.map mkR)) (fP q x) (fun w=>w.map mkR) (fun j w=>w[i]? =some x/\w.length<=70000+j)
  (fun j m w hj hI=>by
   have hjl:=Dj hj;have hw:w.length<=9223372036854775807:=by have:=hI.2;omega
   have hwi:(w.map mkR)[i]? =some (mkR x):=by rw[List.getElem?_map,hI.1];rfl
   have hm:=List.mem_of_getElem? hj;refine⟨?_,aWi hI.1,Nat.le_trans (aWj _ _ _ _) (by have:=hI.2;omega)⟩;have n1:=(NC hF hR hL (x:=(mkR x).a) hx.1 hm).2;have n2:=(NC hF hR hL (x:=(mkR x).b) hx.2 hm).2;have hz:Xl.mk ((Da q (mkR x).a.toNat m.toNat:Nat):Int) ((Da q (mkR x).b.toNat m.toNat:Nat):Int)=mkR (nxP q x m):=rfl;simp only[Is,ltD hj,AI,aJv,AN hwi,AN hj,n1,n2,AB,hz,aN5 w _ hw,W2,Aq hj (show L.length<=9223372036854775807 by omega)];unfold fP aXp;by_cases h1:nx q x.1 m=nx q x.2 m;have e1:decide (((Da q (mkR x).a.toNat m.toNat:Nat):Int)=((Da q (mkR x).b.toNat m.toNat:Nat):Int))=true:=decide_eq_true h1;rw[e1];simp[h1,AE,AG];have e1:decide (((Da q (mkR x).a.toNat m.toNat:Nat):Int)=((Da q (mkR x).b.toNat m.toNat:Nat):Int))=false:=decide_eq_false h1;rw[e1,Bool.not_false,AI];by_cases h2:nxP q x m∈w;simp[h1,h2,AE,AG];simp only[h2,decide_false,Bool.not_false,AI];rw[KG (by have:=hI.2;simp;omega) (by decide),AB,AB];simp[h1])
  (fun w _=>by simp only[Is,ltI,AJ]) o ⟨ho,hl⟩
 rw[aS9]at h;exact h
theorem aE6{q:AD}(hF:Dt q)(hR:Ag q)(hS:Cf q){L:List Int}(hL:Fp q L){b:List X2}(he:Xw q b=some L){s:PP}(hs:SmI s.1/\SmI s.2):Y1 q b s.1 s.2=some (decide ((Ev q L s).1=(Ev q L s).2.length)):=by
 have hb:=bdP (L:=L) hR hS hs;have hacc:∀{x:Int},SmI x->Z4 q x=some (Hy q x):=fun{x} h=>by obtain⟨n,rfl,hn⟩:=h;rw[SE hF (by omega),Hy,Int.toNat_natCast]
 obtain⟨t,h,hQ⟩:=MF hb (JR q) (step:=fun s:Int×List Xl=>HA L q s.1 s.2) (fun i o st=>st=((i:Int),o.map mkR)) (fun i o t=>(i=o.length/\t=.inl ())\/(i<o.length/\t=.inr ()))
  (fun i x o st hI hr hx hp=>by
   subst hr;have hl:=hb o hI.nd hI.rc;have hsm:=rcP hR hS hs x (hI.rc x (List.mem_of_getElem? hx));have hwi:(o.map mkR)[i]? =some (mkR x):=by rw[List.getElem?_map,hx];rfl
   refine⟨_,?_,rfl⟩;have ha1:=hacc (x:=(mkR x).a) hsm.1;have ha2:=hacc (x:=(mkR x).b) hsm.2;have hp':(!(Hy q (mkR x).a==Hy q (mkR x).b))=false:=hp;simp only[HA,ltD hwi,AI,AN hwi,ha1,ha2,AB,hp',AJ,aE7 hF hR hL i hsm hx (by omega),Aq hwi (show(o.map mkR).length<=9223372036854775807 by rw[List.length_map];omega)])
  (fun i x o st hI hr hx hp=>by
   subst hr;have hsm:=rcP hR hS hs x (hI.rc x (List.mem_of_getElem? hx));have hwi:(o.map mkR)[i]? =some (mkR x):=by rw[List.getElem?_map,hx];rfl
   have ha1:=hacc (x:=(mkR x).a) hsm.1;have ha2:=hacc (x:=(mkR x).b) hsm.2;have hp':(!(Hy q (mkR x).a==Hy q (mkR x).b))=true:=hp;exact⟨.inr (),by simp only[HA,ltD hwi,AI,AN hwi,ha1,ha2,AB,hp'],.inr ⟨Dj hx,rfl⟩⟩)
  (fun o st _ hr=>by
   subst hr;have e:((o.length:Nat):Int)=((o.map mkR).length:Int):=by rw[List.length_map]
   exact⟨.inl (),by simp only[HA,e,ltI,AJ],.inl ⟨rfl,rfl⟩⟩) 65537 0 [s] ((0:Int),[mkR s]) WI.init rfl (Nat.le_refl _)
 have h':aRg L q 0 [mkR s]=some t:=h;unfold Y1;have e0:[Xl.mk s.1 s.2]=[mkR s]:=rfl;rw[he,AB,e0,h',AB];rcases hQ with⟨h1,rfl⟩|⟨h1,rfl⟩
 rw[CK,decide_eq_true (show(Ev q L s).1=(Ev q L s).2.length from h1)];rw[D6,decide_eq_false (show¬(Ev q L s).1=(Ev q L s).2.length from fun h=>by have h1:(Ev q L s).1<(Ev q L s).2.length:=h1;omega)]
theorem bDc{n:Nat}(h:n<=12):AA .shl .u32 1 (IntKind.wrap .u64 (n:Int))=((2^n:Nat):Int):=by rw[At (by omega),Pz (by omega)]
theorem Tu(q:AD)(b:List X2)(hW:∀t∈q.trans,MO t)(hb:b.length<=9223372036854775807):∃r,Zj q b=some r/\(r=true->Dt q/\Ag q/\Cf q/\BR b/\Yx q=some true/\∀d∈q.decls,d.types.length<=3):=by
 obtain⟨n,hn,hF⟩:=aYy q;unfold Zj;refine Bb hn ?_;refine BY (fun _=>⟨_,rfl,by simp⟩) (fun h0=>?_);have hF:=hF h0;obtain⟨r,hr,hR⟩:=bAy q hF hW;refine Bb hr ?_;refine E9 (fun _=>⟨_,rfl,by simp⟩) (fun h1=>?_);have hR2:=hR h1;subst h1;obtain⟨r3,hr3,hS⟩:=bA8 hF;refine Bb hr3 ?_;refine E9 (fun _=>⟨_,rfl,by simp⟩) (fun h2=>?_);obtain⟨r4,hr4,hB⟩:=aX3 q b hb;refine Bb hr4 ?_;refine E9 (fun _=>⟨_,rfl,by simp⟩) (fun h3=>?_);refine Di (fun _=>⟨_,rfl,by simp⟩) (fun h4=>?_);have hd:=hF.decls;obtain⟨o,ho,hQ⟩:=Al (step:=fun s=>JL b q s) q.decls.length (fun i=>∀d,q.decls[i]? =some d->d.types.length<=3) (fun o=>o=Sum.inl ()->∀d∈q.decls,d.types.length<=3)
  (fun i hi=>by obtain⟨x,hx,_⟩:=Aa hi;simp only[JL,ltD hx,AI,AN hx,Aq hx (show q.decls.length<=9223372036854775807 by omega)];by_cases h:(3:Int)<(x.types.length:Int);exact .inr ⟨.inr (),by rw[decide_eq_true h];rfl,fun h=>by cases h⟩;exact .inl ⟨by rw[decide_eq_false h];rfl,fun t h2=>by rw[hx,oe]at h2;subst h2;omega⟩)
  (fun hall=>⟨.inl (),by simp only[JL,ltI,AJ],fun _=>GC hall⟩)
 have ho':aSe b q 0=some o:=ho;refine Bb ho' ?_;have hall:∀{r':Bool},o=Sum.inl ()->(r'=true->Dt q/\Ag q/\Cf q/\BR b/\Yx q=some true/\∀d∈q.decls,d.types.length<=3):=fun e _=>⟨hF,hR2,hS h2,hB h3,hr,hQ e⟩;rcases o with⟨⟩|⟨⟩
 rw[CK];refine BY (fun _=>⟨_,rfl,hall rfl⟩) (fun h=>?_);obtain⟨x,hx,_⟩:=Aa (l:=b) (i:=0) (by omega);rw[show(0:Int)=((0:Nat):Int)from rfl,AN hx];exact⟨_,rfl,hall rfl⟩;rw[D6];exact⟨_,rfl,by simp⟩
section
variable {κ:Type} [DecidableEq κ]
def plc(ks:List κ)(k:κ):Nat:=(EV [] ks).idxOf k
theorem RK(o a b:List κ):EV o (a++b)=EV (EV o a) b:=by unfold EV;rw[List.foldl_append]
theorem aNj(o:List κ)(k:κ):EV o [k]=if k∈o then o else o++[k]:=rfl
theorem Pr{ks:List κ}{k:κ}(h:k∈ks):k∈EV [] ks:=GR.2 (.inr h)
theorem Eo:∀(l o:List κ),(EV o l).length<=o.length+l.length
 |[],o=>by simp[EV]
 |y::l,o=>by
  rw[D1];have:=Eo l (if y∈o then o else o++[y])
  split at this<;>rw[List.length_cons]<;>(try rw[List.length_append,List.length_singleton]at this)<;>rename_i h<;>simp only[h,if_true,if_false]<;>omega
theorem aP9{ks:List κ}{k:κ}(h:k∈ks):plc ks k<ks.length:=by have h1:=List.idxOf_lt_length_of_mem (Pr h);have h2:=Eo ks [];unfold plc;simp only[List.length_nil]at h2;omega
theorem aC2{l:List κ}{a b:κ}(ha:a∈l)(h:l.idxOf a=l.idxOf b):a=b:=by
 have h1:=List.idxOf_lt_length_of_mem ha;have h2:l[l.idxOf a]=a:=List.getElem_idxOf h1;have h3:l.idxOf b<l.length:=by omega
 have h4:l[l.idxOf b]=b:=List.getElem_idxOf h3;rw[<-h2,<-h4];simp only[h]
theorem aTr{ks:List κ}{a b:κ}(ha:a∈ks)(h:plc ks a=plc ks b):a=b:=aC2 (Pr ha) h
theorem aTs(ks r:List κ){k:κ}(h:k∈ks):plc (ks++r) k=plc ks k:=by unfold plc;rw[RK];obtain⟨t,e⟩:=H0 r (EV [] ks);rw[e,List.idxOf_append,if_pos (Pr h)]
end
section
variable {α κ μ:Type} [DecidableEq κ] [DecidableEq μ]
theorem aC3{f:α->κ}{g:α->μ}{x:α}:∀(r:List α),(∀y∈r,(f y=f x↔g y=g x))->(r.map f).idxOf (f x)=(r.map g).idxOf (g x)
 |[],_=>rfl
 |y::r,h=>by
  rw[List.map_cons,List.map_cons,List.idxOf_cons,List.idxOf_cons,aC3 r fun z hz=>h z (List.mem_cons_of_mem _ hz)];have:=h y (by simp);by_cases e:f y=f x;rw[beq_iff_eq.2 e,beq_iff_eq.2 (this.1 e)];have e2:¬g y=g x:=fun h'=>e (this.2 h');rw[beq_eq_false_iff_ne.2 e,beq_eq_false_iff_ne.2 e2]
theorem JP{f:α->κ}{g:α->μ}{l:List α}(h:∀x∈l,∀y∈l,(f x=f y↔g x=g y)):∀(a r:List α),(∀x∈a,x∈l)->(∀x∈r,x∈l)->∃r':List α,(∀x∈r',x∈l)/\EV (r.map f) (a.map f)=r'.map f/\EV (r.map g) (a.map g)=r'.map g
 |[],r,_,hr=>⟨r,hr,rfl,rfl⟩
 |x::a,r,ha,hr=>by
  rw[List.map_cons,List.map_cons,D1,D1];have hx:=ha x (by simp);have ha':∀y∈a,y∈l:=fun y hy=>ha y (List.mem_cons_of_mem _ hy);by_cases hm:f x∈r.map f;have hm2:g x∈r.map g:=by obtain⟨y,hy,e⟩:=mm.1 hm;exact mm.2 ⟨y,hy,(h y (hr y hy) x hx).1 e⟩
  rw[if_pos hm,if_pos hm2];exact JP h a r ha' hr;have hm2:g x∉r.map g:=fun hm2=>by obtain⟨y,hy,e⟩:=mm.1 hm2;exact hm (mm.2 ⟨y,hy,(h y (hr y hy) x hx).2 e⟩)
  rw[if_neg hm,if_neg hm2];have:=JP h a (r++[x]) ha' (fun y hy=>by
   rcases ma.1 hy with h1|h1
   exact hr y h1;rw[List.mem_singleton]at h1;exact h1▸hx)
  rw[List.map_append,List.map_append]at this;exact this
theorem R3{f:α->κ}{g:α->μ}{l:List α}(h:∀x∈l,∀y∈l,(f x=f y↔g x=g y)){x:α}(hx:x∈l):plc (l.map f) (f x)=plc (l.map g) (g x):=by obtain⟨r,hr,e1,e2⟩:=JP h l [] (fun x hx=>hx) (fun x hx=>by cases hx);unfold plc;have e1':EV [] (l.map f)=r.map f:=e1;have e2':EV [] (l.map g)=r.map g:=e2;rw[e1',e2'];exact aC3 r fun y hy=>h y (hr y hy) x hx
end
def nPr(l:List Int)(c:Int->Int):Nat:=(l.flatMap fun x=>l.filter fun y=>decide (c x=c y)).length
theorem aOm{α:Type}(l:List α)(f:α->Nat):∀(g:α->Nat),(∀x∈l,f x<=g x)->(l.map f).sum<=(l.map g).sum/\((∃x∈l,f x<g x)->(l.map f).sum<(l.map g).sum):=by
 intro g;induction l with
 |nil=>intro _;exact⟨Nat.le_refl _,fun⟨x,hx,_⟩=>by cases hx⟩
 |cons y l ih=>
  intro h
  obtain⟨a,b⟩:=ih fun x hx=>h x (List.mem_cons_of_mem _ hx)
  have hy:=h y (by simp)
  rw[List.map_cons,List.map_cons,List.sum_cons,List.sum_cons]
  refine⟨by omega,?_⟩
  rintro⟨x,hx,hlt⟩
  rcases mc.1 hx with rfl|hx
  omega
  have:=b ⟨x,hx,hlt⟩
  omega
theorem Tg(l:List Int)(p p':Int->Bool)(h:∀x∈l,p x=true->p' x=true):(l.filter p).length<=(l.filter p').length/\((∃x∈l,p x=false/\p' x=true)->(l.filter p).length<(l.filter p').length):=by
 induction l with
 |nil=>exact⟨Nat.le_refl _,fun⟨x,hx,_⟩=>by cases hx⟩
 |cons y l ih=>
  obtain⟨a,b⟩:=ih fun x hx=>h x (List.mem_cons_of_mem _ hx)
  have hy:=h y (by simp)
  rw[List.filter_cons,List.filter_cons]
  refine⟨?_,?_⟩
  cases e:p y<;>cases e':p' y
  simpa[e,e']using a
  simp;omega
  have:=hy e;rw[e']at this;cases this
  simpa using a
  rintro⟨x,hx,h1,h2⟩
  rcases mc.1 hx with rfl|hx
  rw[h1,h2];simp;omega
  have:=b ⟨x,hx,h1,h2⟩
  cases e:p y<;>cases e':p' y
  simpa using this
  simp;omega
  have:=hy e;rw[e']at this;cases this
  simpa using this
theorem aWv{l:List Int}{c d:Int->Int}(h:∀x∈l,∀y∈l,c x=c y->d x=d y):nPr l c<=nPr l d/\((∃x∈l,∃y∈l,c x≠c y/\d x=d y)->nPr l c<nPr l d):=by unfold nPr;rw[List.length_flatMap,List.length_flatMap];have key:∀x∈l,_:=fun x hx=>Tg l (fun y=>decide (c x=c y)) (fun y=>decide (d x=d y)) fun y hy e=>decide_eq_true (h x hx y hy (of_decide_eq_true e));obtain⟨a,b⟩:=aOm l (fun x=>(l.filter fun y=>decide (c x=c y)).length) (fun x=>(l.filter fun y=>decide (d x=d y)).length) fun x hx=>(key x hx).1;refine⟨a,?_⟩;rintro⟨x,hx,y,hy,h1,h2⟩;exact b ⟨x,hx,(key x hx).2 ⟨y,hy,decide_eq_false h1,decide_eq_true h2⟩⟩
def AlP(q:AD)(L:List Int)(x y:Int):Prop:=∀z,Rch (NS q L) (x,y) z->JR q z=false
theorem Tz{q:AD}(hR:Ag q)(hS:Cf q)(L:List Int){x y:Int}(hs:SmI x/\SmI y):(Ev q L (x,y)).1=(Ev q L (x,y)).2.length↔AlP q L x y:=by
 obtain⟨hW,hn,hE⟩:=aO0 hR hS L (s:=(x,y)) hs;constructor;intro h z hz;have hm:z∈(Ev q L (x,y)).2:=by
  induction hz with
  |refl=>exact List.mem_of_getElem? hW.hd
  |step _ hy ih=>
   obtain⟨j,hj⟩:=List.mem_iff_getElem?.1 ih
   exact hW.cl j _ (by rw[h];exact Dj hj) hj _ hy
 obtain⟨j,hj⟩:=List.mem_iff_getElem?.1 hm;exact hn j z (by rw[h];exact Dj hj) hj;intro h;rcases hE with h1|⟨z,hz,ha⟩
 exact h1;have:=h z (hW.rc z (List.mem_of_getElem? hz));rw[this]at ha;cases ha
theorem Ma{q:AD}{x y:Int}:JR q (x,y)=false↔Hy q x=Hy q y:=by unfold JR;cases Hy q x<;>cases Hy q y<;>simp
theorem AlP.of{q:AD}{L:List Int}(R:Int->Int->Prop)(h1:∀a b,R a b->Hy q a=Hy q b)(h2:∀a b m,R a b->m∈L->R (nx q a m) (nx q b m)){x y:Int}(h:R x y):AlP q L x y:=by
 intro z hz;have:R z.1 z.2:=by
  induction hz with
  |refl=>exact h
  |step _ hy ih=>
   obtain⟨m,hm,rfl⟩:=mm.1 hy
   exact h2 _ _ m ih (List.mem_filter.1 hm).1
 exact Ma.2 (h1 _ _ this)
theorem AlP.refl(q:AD)(L:List Int)(x:Int):AlP q L x x:=AlP.of (· = ·) (fun a b h=>by rw[h]) (fun a b m h _=>by rw[h]) rfl
theorem AlP.acc{q:AD}{L:List Int}{x y:Int}(h:AlP q L x y):Hy q x=Hy q y:=Ma.1 (h _ .refl)
theorem aOw{α:Type}{succ:α->List α}{s t z:α}(ht:t∈succ s)(h:Rch succ t z):Rch succ s z:=by
 induction h with
 |refl=>exact .step .refl ht
 |step _ hy ih=>exact .step ih hy
theorem AlP.step{q:AD}{L:List Int}{x y m:Int}(h:AlP q L x y)(hm:m∈L):AlP q L (nx q x m) (nx q y m):=by by_cases e:nx q x m=nx q y m;rw[e];exact AlP.refl q L _;intro z hz;exact h z (aOw (mm.2 ⟨m,List.mem_filter.2 ⟨hm,decide_eq_true e⟩,rfl⟩) hz)
def enc(v:Int):List UInt8:=[u8w v,u8w (AA .shr .i64 v 8)]
theorem PM{a b:Int}(ha:0<=a/\a<256)(hb:0<=b/\b<256):enc a=enc b↔a=b:=by refine⟨fun h=>?_,fun h=>by rw[h]⟩;have h1:u8w a=u8w b:=(List.cons.inj h).1;have e1:=MD (n:=a.toNat) (by omega);have e2:=MD (n:=b.toNat) (by omega);rw[Int.toNat_of_nonneg ha.1]at e1;rw[Int.toNat_of_nonneg hb.1]at e2;rw[h1,e2]at e1;omega
theorem Ll{f g:Int->Int}:∀L:List Int,(∀m∈L,(0<=f m/\f m<256)/\0<=g m/\g m<256)->((L.flatMap fun m=>enc (f m))=(L.flatMap fun m=>enc (g m))↔ ∀m∈L,f m=g m)
 |[],_=>by simp
 |m::L,h=>by
  rw[List.flatMap_cons,List.flatMap_cons];have h0:=h m (by simp);constructor;intro e;obtain⟨e1,e2⟩:=List.append_inj e rfl;intro k hk;rcases mc.1 hk with rfl|hk
  exact(PM h0.1 h0.2).1 e1;exact(Ll L fun m hm=>h m (List.mem_cons_of_mem _ hm)).1 e2 k hk;intro e;rw[e m (by simp),(Ll L fun m hm=>h m (List.mem_cons_of_mem _ hm)).2 fun k hk=>e k (List.mem_cons_of_mem _ hk)]
def kf(q:AD)(L:List Int)(c:Int->Int)(x:Int):List UInt8:=enc (c x)++L.flatMap fun m=>enc (c (nx q x m))
structure CI(q:AD)(L l:List Int)(c:Int->Int):Prop where
 bd:∀x∈l,0<=c x/\c x<256
 acc:∀x∈l,∀y∈l,c x=c y->Hy q x=Hy q y
 al:∀x∈l,∀y∈l,AlP q L x y->c x=c y
def Clo(q:AD)(L l:List Int):Prop:=∀x∈l,∀m∈L,nx q x m∈l
theorem Rn{q:AD}{L l:List Int}{c:Int->Int}(hl:Clo q L l)(hb:∀x∈l,0<=c x/\c x<256){x y:Int}(hx:x∈l)(hy:y∈l):kf q L c x=kf q L c y↔c x=c y/\∀m∈L,c (nx q x m)=c (nx q y m):=by unfold kf;have he:=Ll (f:=fun m=>c (nx q x m)) (g:=fun m=>c (nx q y m)) L fun m hm=>⟨hb _ (hl x hx m hm),hb _ (hl y hy m hm)⟩;constructor;intro e;obtain⟨e1,e2⟩:=List.append_inj e rfl;exact⟨(PM (hb x hx) (hb y hy)).1 e1,he.1 e2⟩;rintro⟨e1,e2⟩;rw[(PM (hb x hx) (hb y hy)).2 e1,he.2 e2]
def nxt(q:AD)(L l:List Int)(c:Int->Int)(x:Int):Int:=((plc (l.map (kf q L c)) (kf q L c x):Nat):Int)
theorem Jx{q:AD}{L l:List Int}{c:Int->Int}{x y:Int}(hx:x∈l):nxt q L l c x=nxt q L l c y↔kf q L c x=kf q L c y:=by unfold nxt;refine⟨fun h=>aTr (List.mem_map_of_mem hx) (by omega),fun h=>by rw[h]⟩
theorem CI.next{q:AD}{L l:List Int}{c:Int->Int}(hl:Clo q L l)(h:CI q L l c)(hn:l.length<=256):CI q L l (nxt q L l c):=by refine⟨fun x hx=>?_,fun x hx y hy e=>?_,fun x hx y hy e=>?_⟩;have:=aP9 (List.mem_map_of_mem (f:=kf q L c) hx);rw[List.length_map]at this;unfold nxt;omega;exact h.acc x hx y hy ((Rn hl h.bd hx hy).1 ((Jx hx).1 e)).1;exact(Jx hx).2 ((Rn hl h.bd hx hy).2 ⟨h.al x hx y hy e,fun m hm=>h.al _ (hl x hx m hm) _ (hl y hy m hm) (e.step hm)⟩)
def Can(l:List Int)(c:Int->Int):Prop:=∀x∈l,c x=((plc (l.map c) (c x):Nat):Int)
theorem Pn(q:AD)(L l:List Int)(c:Int->Int):Can l (nxt q L l c):=fun x hx=>by rw[R3 (f:=nxt q L l c) (g:=kf q L c) (fun x hx y _=>Jx hx) hx];rfl
open Classical in
def mu(l:List Int)(c:Int->Int):Nat:=2*nPr l c+if Can l c then 0 else 1
theorem bCv{q:AD}{L l:List Int}{c:Int->Int}(hl:Clo q L l)(h:CI q L l c)(hne:¬ ∀x∈l,nxt q L l c x=c x):mu l (nxt q L l c)<mu l c:=by
 have hsub:∀x∈l,∀y∈l,nxt q L l c x=nxt q L l c y->c x=c y:=fun x hx y hy e=>((Rn hl h.bd hx hy).1 ((Jx hx).1 e)).1;obtain⟨a,b⟩:=aWv hsub;unfold mu;rw[if_pos (Pn q L l c)];by_cases hex:∃x∈l,∃y∈l,nxt q L l c x≠nxt q L l c y/\c x=c y;have:=b hex;omega;have hiff:∀x∈l,∀y∈l,(nxt q L l c x=nxt q L l c y↔c x=c y):=fun x hx y hy=>⟨hsub x hx y hy,fun e=>by by_cases e2:nxt q L l c x=nxt q L l c y;exact e2;exact absurd ⟨x,hx,y,hy,e2,e⟩ hex⟩
 rw[if_neg];omega;intro hc;refine hne fun x hx=>?_;rw[hc x hx,Pn q L l c x hx,R3 hiff hx]
theorem Ty{q:AD}{L l:List Int}{c:Int->Int}(hl:Clo q L l)(h:CI q L l c)(hst:∀x∈l,nxt q L l c x=c x){x y:Int}(hx:x∈l)(hy:y∈l):c x=c y↔AlP q L x y:=by refine⟨fun e=>AlP.of (fun a b=>a∈l/\b∈l/\c a=c b) (fun a b h1=>h.acc a h1.1 b h1.2.1 h1.2.2) (fun a b m h1 hm=>?_) ⟨hx,hy,e⟩,h.al x hx y hy⟩;obtain⟨h1,h2,h3⟩:=h1;refine⟨hl a h1 m hm,hl b h2 m hm,?_⟩;exact((Rn hl h.bd h1 h2).1 ((Jx h1).1 (by rw[hst a h1,hst b h2,h3]))).2 m hm
theorem Tx{q:AD}{L l:List Int}{c:Int->Int}(hst:∀x∈l,nxt q L l c x=c x):Can l c:=fun x hx=>by have e:l.map c=l.map (nxt q L l c):=List.map_congr_left fun y hy=>(hst y hy).symm;have:=Pn q L l c x hx;rw[hst x hx]at this;rw[e];exact this
theorem aXb{α:Type}(a r:List α)(x v:α){n:Nat}(h:n=a.length):(a++x::r).set n v=a++v::r:=by
 subst h;induction a with
 |nil=>rfl
 |cons y a ih=>simp[ih]
def tab{α:Type}(l:List α)(f:α->Int)(i:Nat):List Int:=(l.take i).map f++List.replicate (l.length-i) 0
theorem aXc{α:Type}(l:List α)(f:α->Int):tab l f 0=List.replicate l.length 0:=by simp[tab]
theorem aXd{α:Type}(l:List α)(f:α->Int):tab l f l.length=l.map f:=by simp[tab]
theorem aEl{α:Type}(l:List α)(f:α->Int){i:Nat}(h:i<=l.length):(tab l f i).length=l.length:=by simp[tab];omega
theorem aQf{α:Type}{l:List α}(f:α->Int){i:Nat}{x:α}(hx:l[i]? =some x):tab l f i=(l.take i).map f++0::List.replicate (l.length-(i+1)) 0/\tab l f (i+1)=(l.take i).map f++f x::List.replicate (l.length-(i+1)) 0:=by have hi:=Dj hx;unfold tab;refine⟨by rw[show l.length-i=(l.length-(i+1))+1 by omega,List.replicate_succ],?_⟩;rw[List.take_add_one,hx];simp
theorem P4{α:Type}{l:List α}(f:α->Int){i:Nat}{x:α}(hx:l[i]? =some x):(tab l f i).set i (f x)=tab l f (i+1):=by have hi:=Dj hx;obtain⟨a,b⟩:=aQf f hx;rw[a,b,aXb _ _ _ _ (by simp;omega)]
theorem aO4{α:Type}{l:List α}(f:α->Int){i:Nat}{x:α}(hx:l[i]? =some x)(h:f x=0):tab l f (i+1)=tab l f i:=by obtain⟨a,b⟩:=aQf f hx;rw[a,b,h]
theorem Ri{α β:Type}(g:α->β):∀(l:List α) (o:List β),l.foldl (fun o x=>o++[g x]) o=o++l.map g
 |[],o=>by simp
 |x::l,o=>by rw[List.foldl_cons,Ri g l];simp
theorem Mq{α β:Type}(g:α->List β):∀(l:List α) (o:List β),l.foldl (fun o x=>o++g x) o=o++l.flatMap g
 |[],o=>by simp
 |x::l,o=>by rw[List.foldl_cons,Mq g l];simp
theorem Jf{κ:Type} [DecidableEq κ]{ks:List κ}{i:Nat}{k:κ}(hk:ks[i]? =some k):EV [] (ks.take (i+1))=if k∈EV [] (ks.take i)then EV [] (ks.take i)else EV [] (ks.take i)++[k]:=by rw[List.take_add_one,hk,Option.toList_some,RK,aNj]
def pos{κ:Type} [DecidableEq κ](F:List κ)(k:κ):Nat:=F.idxOf k
theorem aTt{κ:Type} [DecidableEq κ]{F:List κ}{k:κ}(r:List κ)(h:k∈F):pos (F++r) k=pos F k:=by unfold pos;rw[List.idxOf_append,if_pos h]
theorem aDx{κ:Type} [DecidableEq κ]{F:List κ}{k:κ}(h:k∉F):pos (F++[k]) k=F.length:=by unfold pos;rw[List.idxOf_append,if_neg h];simp
theorem R4{κ:Type} [DecidableEq κ]{ks:List κ}{i:Nat}{k:κ}(hk:ks[i]? =some k):pos (EV [] (ks.take (i+1))) k=plc ks k:=by
 have h:k∈ks.take (i+1):=by rw[List.take_add_one,hk];simp
 have:=aTs (ks.take (i+1)) (ks.drop (i+1)) h;rw[List.take_append_drop]at this;exact this.symm
structure Met(M:MP (List UInt8) Int)(F:List (List UInt8)):Prop where
 len:M.es.length=F.length
 get:∀k,BH 0 M k=if k∈F then(((pos F k:Nat):Int),true)else((0:Int),false)
theorem Met.put{M:MP (List UInt8) Int}{F:List (List UInt8)}(h:Met M F){k:List UInt8}(hk:k∉F):Met (Cb M k (F.length:Int)) (F++[k]):=by have hg:=h.get k;rw[if_neg hk]at hg;refine⟨?_,fun k'=>?_⟩;have:=(L1 (0:Int) M.clk k (F.length:Int) M.es (by show(BH 0 M k).2=false;rw[hg])).1;simp only[Cb,this];simp[h.len];rw[H6,h.get k'];by_cases e:k=k';subst e;rw[if_pos rfl,if_pos (by simp),aDx hk];rw[if_neg e];by_cases h2:k'∈F;rw[if_pos h2,if_pos (by simp[h2]),aTt _ h2];rw[if_neg h2,if_neg (by simp[h2];exact fun h=>e h.symm)]
theorem Pl{ks:List (List UInt8)}(hn:ks.length<=256):Y4 ks=some (ks.map fun k=>((plc ks k:Nat):Int)):=by
 obtain⟨o,h1,h2⟩:=BB (step:=fun s:Int×MP (List UInt8) Int×List Int=>GA ks (ks.length:Int) s.1 s.2.1 s.2.2)
  (fun s=>∃i:Nat,i<=ks.length/\s.1=(i:Int)/\Met s.2.1 (EV [] (ks.take i))/\s.2.2=tab ks (fun k=>((plc ks k:Nat):Int)) i) (fun s=>(ks.length-s.1).toNat) (fun o=>o=ks.map fun k=>((plc ks k:Nat):Int))
  (by rintro⟨a,M,w⟩ ⟨i,hi,rfl,hM,rfl⟩;simp only at hM⊢;by_cases he:i=ks.length;subst he;exact .inl ⟨_,by simp only[GA,ltI,AJ],aXd _ _⟩;right;obtain⟨k,hk,_⟩:=Aa (l:=ks) (i:=i) (by omega);have hl:=aEl ks (fun k=>((plc ks k:Nat):Int)) hi;have hs:=Jf hk;have hp:=R4 hk;have hg:=hM.get k;have hlen:=Eo (ks.take i) [];rw[List.length_take,List.length_nil]at hlen;by_cases hm:k∈EV [] (ks.take i);rw[if_pos hm]at hg hs;rw[hs]at hp;refine⟨(((i+1:Nat):Int),M,tab ks (fun k=>((plc ks k:Nat):Int)) (i+1)),?_,⟨i+1,by omega,rfl,by simp only;rw[hs];exact hM,rfl⟩,by simp only;omega⟩;simp only[GA,ltD hk,AI,XD,AN hk,XE,hg,Bool.not_true,AJ,AB,Aq hk (show ks.length<=9223372036854775807 by omega),hp];rw[Ai (by rw[hl];omega),Ai (by rw[hl];omega),AB,Int.toNat_natCast,P4 _ hk];rw[if_neg hm]at hg hs;have hM2:=hM.put hm;have hg2:=hM2.get k;rw[if_pos (by simp),<-hs,hp]at hg2;refine⟨(((i+1:Nat):Int),Cb M k ((EV [] (ks.take i)).length:Int),tab ks (fun k=>((plc ks k:Nat):Int)) (i+1)),?_,⟨i+1,by omega,rfl,by simp only;rw[hs];exact hM2,rfl⟩,by simp only;omega⟩;simp only[GA,ltD hk,AI,XD,AN hk,XE,hg,Bool.not_false,hM.len,Aq hk (show ks.length<=9223372036854775807 by omega)];rw[Ai (by omega),AB];simp only[hg2];rw[Ai (by rw[hl];omega),Ai (by rw[hl];omega),AB,Int.toNat_natCast,P4 _ hk])
  ((0:Int),Dk,List.replicate ks.length 0) ⟨0,Nat.zero_le _,rfl,⟨rfl,fun k=>rfl⟩,(aXc _ _).symm⟩
 subst h2;have h1':XF ks (ks.length:Int) 0 Dk (List.replicate ks.length 0)=_:=h1;unfold Y4;rw[Int.toNat_natCast,Ai ⟨by omega,BI (by omega) (by decide)⟩,h1',AB]
theorem UB{a b:List Int}(hn:a.length<=256)(hl:a.length=b.length):Yl a b=some (decide (a=b)):=by
 obtain⟨o,h1,h2⟩:=Al (step:=fun s=>HK a b (a.length:Int) s) a.length (fun i=>a[i]? =b[i]?) (fun o=>(o=Sum.inl ()/\a=b)\/(o=Sum.inr ()/\a≠b))
  (fun i hi=>by obtain⟨x,hx,_⟩:=Aa (l:=a) (i:=i) (by omega);obtain⟨y,hy,_⟩:=Aa (l:=b) (i:=i) (by omega);simp only[HK,ltD hx,AI,AN hx,AN hy,Aq hx (show a.length<=9223372036854775807 by omega)];by_cases e:x=y;subst e;exact .inl ⟨by rw[decide_eq_true rfl];rfl,by rw[hx,hy]⟩;refine .inr ⟨.inr (),by rw[decide_eq_false e];rfl,.inr ⟨rfl,fun h=>e ?_⟩⟩;subst h;rw[hx,oe]at hy;exact hy)
  (fun hall=>⟨.inl (),by simp only[HK,ltI,AJ],.inl ⟨rfl,List.ext_getElem? fun i=>by by_cases hi:i<a.length;exact hall i hi;rw[List.getElem?_eq_none_iff.2 (by omega),List.getElem?_eq_none_iff.2 (by omega)]⟩⟩)
 have h1':ZK a b (a.length:Int) 0=some o:=h1;unfold Yl;rw[hl,decide_eq_true rfl,Bool.not_true,AJ,<-hl,h1',AB];rcases h2 with⟨rfl,h⟩|⟨rfl,h⟩
 rw[CK,decide_eq_true h];rw[D6,decide_eq_false h]
theorem aWo{q:AD}(hF:Dt q)(hR:Ag q){L l:List Int}(hL:Fp q L)(hl:Clo q L l){c:Int->Int}{M:MP Int Int}(hM:∀x∈l,(BH 0 M x).1=c x){x:Int}(hx:x∈l)(hs:∀x∈l,SmI x):Yd q x (c x) L M=some (kf q L c x,M):=by
 have hll:=hL.len;have h:=El (step:=fun s:Int×List UInt8=>GB x L (L.length:Int) M q s.1 s.2) L (fun j w=>((j:Int),w)) (fun w m=>w++enc (c (nx q x m))) (fun w=>w) (fun j w=>w.length=2+2*j)
  (fun j m w hj hI=>by have hjl:=Dj hj;have hm:=List.mem_of_getElem? hj;have e1:=(NC hF hR hL (hs x hx) hm).1;have e2:(BH 0 M ((Da q x.toNat m.toNat:Nat):Int)).1=c (nx q x m):=hM _ (hl x hx m hm);refine⟨?_,by rw[List.length_append,hI];simp[enc];omega⟩;simp only[GB,ltD hj,AI,AN hj,e1,AB,e2,Aq hj (show L.length<=9223372036854775807 by omega)];rw[KG (by rw[hI];simp;omega) (by decide)];rfl)
  (fun w _=>by simp only[GB,ltI,AJ]) (enc (c x)) rfl
 rw[Mq]at h;have h':YP x L (L.length:Int) M q 0 [u8w (c x),u8w (AA .shr .i64 (c x) 8)]=_:=h;unfold Yd;rw[h',AB];rfl
theorem bCo{q:AD}{L l:List Int}{c:Int->Int}(hn:l.length<=256):∃M,Ue l L (l.map c) l (l.length:Int) q 0 Dk=some M/\∀x∈l,(BH 0 M x).1=c x:=by
 have h:=El (step:=fun s:Int×MP Int Int=>Gv l L (l.map c) l (l.length:Int) q s.1 s.2) l (fun j w=>((j:Int),w)) (fun w x=>Cb w x (c x)) (fun w=>w) (fun _ _=>True)
  (fun j x w hj _=>by
   have hx2:(l.map c)[j]? =some (c x):=by rw[List.getElem?_map,hj];rfl
   refine⟨?_,trivial⟩;simp only[Gv,ltD hj,AI,AN hj,AN hx2,Aq hj (show l.length<=9223372036854775807 by omega)])
  (fun w _=>by simp only[Gv,ltI,AJ]) Dk trivial
 refine⟨_,h,?_⟩;have:=aN2 (f:=fun w x=>Cb w x (c x)) l (fun j (w:MP Int Int)=>∀x∈l.take j,(BH 0 w x).1=c x) (fun j m w hm hI x hx=>by
  rw[H6];by_cases e:m=x;subst e;rw[if_pos rfl];rw[if_neg e];rw[List.take_add_one,hm,Option.toList_some,ma]at hx;rcases hx with hx|hx
  exact hI x hx;rw[List.mem_singleton]at hx;exact absurd hx.symm e) Dk (fun x hx=>by simp at hx)
 rwa [List.take_length]at this
theorem bCq{q:AD}(hF:Dt q)(hR:Ag q){L l:List Int}(hL:Fp q L)(hl:Clo q L l)(hn:l.length<=256){c:Int->Int}{M:MP Int Int}(hM:∀x∈l,(BH 0 M x).1=c x)(hs:∀x∈l,SmI x):Uh l L (l.map c) l (l.length:Int) q 0 M []=some (l.map (kf q L c)):=by
 have h:=El (step:=fun s:Int×MP Int Int×List (List UInt8)=>Fv l L (l.map c) l (l.length:Int) q s.1 s.2.1 s.2.2) l (fun j w=>((j:Int),M,w)) (fun w x=>w++[kf q L c x]) (fun w=>w) (fun j w=>w.length=j)
  (fun j x w hj hI=>by
   have hjl:=Dj hj;have hx2:(l.map c)[j]? =some (c x):=by rw[List.getElem?_map,hj];rfl
   refine⟨?_,by simp[hI]⟩;simp only[Fv,ltD hj,AI,AN hj,AN hx2,aWo hF hR hL hl hM (List.mem_of_getElem? hj) hs,AB,Aq hj (show l.length<=9223372036854775807 by omega)];rw[KG (by rw[hI];simp;omega) (by decide)])
  (fun w _=>by simp only[Fv,ltI,AJ]) [] rfl
 rw[Ri,List.nil_append]at h;exact h
theorem aTj{q:AD}(hF:Dt q)(hR:Ag q){L l:List Int}(hL:Fp q L)(hl:Clo q L l)(hn:l.length<=256)(hs:∀x∈l,SmI x)(c:Int->Int):Fu l L q (l.map c)=some (if l.map (nxt q L l c)=l.map c then .inr (l.map c)else .inl (l.map (nxt q L l c))):=by
 obtain⟨M,h1,hM⟩:=bCo (q:=q) (L:=L) (c:=c) hn;have h3:Y4 (l.map (kf q L c))=some (l.map (nxt q L l c)):=by rw[Pl (by rw[List.length_map];exact hn),List.map_map];rfl
 unfold Fu;rw[h1,AB,bCq hF hR hL hl hn hM hs,AB,h3,AB,UB (by simpa using hn) (by simp),AB,Dp];split<;>rfl
theorem aWp{q:AD}(hF:Dt q)(hR:Ag q){L l:List Int}(hL:Fp q L)(hl:Clo q L l)(hn:l.length<=256)(hs:∀x∈l,SmI x):∀(n:Nat) (c:Int->Int),mu l c<n->CI q L l c->∃c',Nz l L q (l.map c)=some (l.map c')/\CI q L l c'/\∀x∈l,nxt q L l c' x=c' x
 |0,_,h,_=>by omega
 |n+1,c,h,hC=>by
  rw[aFx,aTj hF hR hL hl hn hs];by_cases e:l.map (nxt q L l c)=l.map c;rw[if_pos e,Ad];exact⟨c,rfl,hC,fun x hx=>List.map_inj_left.1 e x hx⟩;rw[if_neg e,BC];have hlt:=bCv hl hC fun h=>e (List.map_congr_left h);exact aWp hF hR hL hl hn hs n _ (by omega) (hC.next hl hn)
def c0(q:AD)(x:Int):Int:=if Hy q x=true then 1 else 0
theorem bCf(q:AD)(L l:List Int):CI q L l (c0 q):=by refine⟨fun x _=>?_,fun x _ y _ e=>?_,fun x _ y _ e=>?_⟩;unfold c0;split<;>omega;unfold c0 at e;cases h1:Hy q x<;>cases h2:Hy q y<;>simp[h1,h2]at e⊢;unfold c0;rw[e.acc]
theorem bCn{q:AD}(hF:Dt q){L l:List Int}(hn:l.length<=256)(hs:∀x∈l,SmI x):UZ l L l (l.length:Int) q 0 (List.replicate l.length 0)=some (l.map (c0 q)):=by
 obtain⟨o,h1,h2⟩:=BB (step:=fun s:Int×List Int=>Ft l L l (l.length:Int) q s.1 s.2)
  (fun s=>∃i:Nat,i<=l.length/\s.1=(i:Int)/\s.2=tab l (c0 q) i) (fun s=>(l.length-s.1).toNat) (fun o=>o=l.map (c0 q))
  (by
   rintro⟨a,w⟩ ⟨i,hi,rfl,rfl⟩;simp only;by_cases he:i=l.length;subst he;exact .inl ⟨_,by simp only[Ft,ltI,AJ],aXd _ _⟩;right;obtain⟨x,hx,_⟩:=Aa (l:=l) (i:=i) (by omega);have hl:=aEl l (c0 q) hi;have ha:Yb q x=some (Hy q x):=by obtain⟨n,rfl,hn⟩:=hs x (List.mem_of_getElem? hx);rw[MW hF (by omega),Hy,Int.toNat_natCast]
   refine⟨(((i+1:Nat):Int),tab l (c0 q) (i+1)),?_,⟨i+1,by omega,rfl,rfl⟩,by simp only;omega⟩;simp only[Ft,ltD hx,AI,SK,AN hx,ha,AB,UY,Aq hx (show l.length<=9223372036854775807 by omega)];cases hc:Hy q x with
   |true=>
    have e:c0 q x=1:=by unfold c0;rw[hc];rfl
    rw[AI,Ai (by rw[hl];omega),Ai (by rw[hl];omega),AB,AB,Int.toNat_natCast,<-e,P4 _ hx]
   |false=>
    have e:c0 q x=0:=by unfold c0;rw[hc];rfl
    rw[AJ,AB,AB,aO4 _ hx e])
  ((0:Int),List.replicate l.length 0) ⟨0,Nat.zero_le _,rfl,(aXc _ _).symm⟩
 subst h2;exact h1
theorem SF{q:AD}(hF:Dt q)(hR:Ag q)(hS:Cf q){L:List Int}(hL:Fp q L){b:List X2}(he:X4 q b=some L){s:Nat}(hs:s<2^q.states.length):∃l c,X6 q b (s:Int)=some (l,l.map c)/\l.Perm (clo (Ht q L) 256 (s:Int))/\l.Pairwise (· <= ·)/\Can l c/\∀x∈l,∀y∈l,(c x=c y↔AlP q L x y):=by
 obtain⟨l,e1,hp,hsort⟩:=bBy hF hR hS hL he hs;have hb:=bdS (L:=L) hR hS hs;have hlen:=PK hb;have hn:l.length<=256:=by rw[hp.length_eq];exact hlen
 have hsm:∀x∈l,SmI x:=fun x hx=>rcS hR hS hs x ((JX hb).1 (hp.mem_iff.1 hx));have hl:Clo q L l:=fun x hx m hm=>by have h1:=(JX hb).1 (hp.mem_iff.1 hx);exact hp.mem_iff.2 ((JX hb).2 (.step h1 (mm.2 ⟨m,hm,rfl⟩)))
 obtain⟨c,h4,hC,hst⟩:=aWp hF hR hL hl hn hsm _ (c0 q) (Nat.lt_succ_self _) (bCf q L l);refine⟨l,c,?_,hp,hsort,Tx hst,fun x hx y hy=>Ty hl hC hst hx hy⟩;unfold X6;rw[e1,AB,he,AB,Int.toNat_natCast,Ai ⟨by omega,BI (by omega) (by decide)⟩,bCn hF hn hsm,AB,h4,AB]
theorem UK{l0 w:List Int}{i:Nat}{x:Int}(hx:l0[i]? =some x)(hl:w.length<=256)(hw:w.Pairwise (· <= ·)):∃k:Nat,aRr l0 (i:Int) w (w.length:Int)=some (k:Int)/\k<=w.length/\(∀y∈w.drop k,x<y)/\∀y∈w.take k,y<=x:=by
 obtain⟨o,h1,k,rfl,h2⟩:=BB (step:=fun s:Int=>LJ l0 (i:Int) w s) (fun s=>∃k:Nat,k<=w.length/\s=(k:Int)/\∀y∈w.drop k,x<y) (fun s=>s.toNat) (fun o=>∃k:Nat,o=(k:Int)/\k<=w.length/\(∀y∈w.drop k,x<y)/\∀y∈w.take k,y<=x)
  (by
   rintro s ⟨k,hk,rfl,hd⟩;simp only[LJ,Dp];by_cases h0:(0:Int)<(k:Int);rw[if_pos h0];obtain⟨y,hy,hdr⟩:=Aa (l:=w) (i:=k-1) (by omega);have hkk:k-1+1=k:=by omega
   rw[hkk]at hdr;rw[bDe (by omega) (by omega),AN hy,AN hx];by_cases hlt:x<y;rw[if_pos hlt];refine .inr ⟨((k-1:Nat):Int),rfl,⟨k-1,by omega,rfl,fun z hz=>?_⟩,by omega⟩;rw[hdr]at hz;rcases mc.1 hz with rfl|hz
   exact hlt;exact hd z hz;rw[if_neg hlt];refine .inl ⟨(k:Int),rfl,k,rfl,hk,hd,fun z hz=>?_⟩;obtain⟨j,hj⟩:=List.mem_iff_getElem?.1 hz;rw[List.getElem?_take]at hj;split at hj;rename_i hjk;have hjl:=Dj hj;have hyl:=Dj hy;have e1:w[j]=z:=by rw[List.getElem?_eq_getElem hjl,oe]at hj;exact hj
   have e2:w[k-1]=y:=by rw[List.getElem?_eq_getElem hyl,oe]at hy;exact hy
   by_cases hjk2:j=k-1;subst hjk2;omega;have:=List.pairwise_iff_getElem.1 hw j (k-1) hjl hyl (by omega);omega;cases hj;rw[if_neg h0];have:k=0:=by omega
   subst this;exact .inl ⟨((0:Nat):Int),rfl,0,rfl,Nat.zero_le _,hd,fun z hz=>by simp at hz⟩)
  (w.length:Int) ⟨w.length,Nat.le_refl _,rfl,fun y hy=>by simp at hy⟩
 exact⟨k,h1,h2⟩
theorem UJ{q:AD}{b:List X2}{s:Int}{l0:List Int}(h0:Y5 q b s=some l0)(hn:l0.length<=256):∃w,Yg q b s=some w/\w.Perm l0/\w.Pairwise (· <= ·):=by
 obtain⟨o,h1,h2⟩:=BB (step:=fun s:Int×List Int=>I2 l0 s.1 s.2) (fun s=>∃i:Nat,i<=l0.length/\s.1=(i:Int)/\s.2.Perm (l0.take i)/\s.2.Pairwise (· <= ·)) (fun s=>(l0.length-s.1).toNat) (fun o=>o.Perm l0/\o.Pairwise (· <= ·))
  (by
   rintro⟨a,w⟩ ⟨i,hi,rfl,hp,hw⟩;simp only at hp hw⊢;by_cases he:i=l0.length;subst he;rw[List.take_length]at hp;exact .inl ⟨w,by simp only[I2,ltI,AJ],hp,hw⟩;right;obtain⟨x,hx,_⟩:=Aa (l:=l0) (i:=i) (by omega);have hlw:w.length=i:=by rw[hp.length_eq,List.length_take];omega
   obtain⟨k,e1,hk,hd,ht⟩:=UK hx (by omega) hw;refine⟨(((i+1:Nat):Int),(w.take k++[x])++w.drop k),?_,⟨i+1,by omega,rfl,?_,?_⟩,by simp only;omega⟩;simp only[I2,ltD hx,AI,e1,AB,AN hx,Aq hx (show l0.length<=9223372036854775807 by omega)];have s1:sub w 0 (k:Int)=w.take k:=by rw[show(0:Int)=((0:Nat):Int)from rfl,P2];simp
   rw[s1,P1,Ai ⟨by omega,by omega,by omega⟩,Ai (BI (by simp;omega) (by decide)),Ai (BI (by simp;omega) (by decide)),Ai ⟨by omega,by omega,by omega⟩,Ai (BI (by simp;omega) (by decide))];rfl;rw[List.take_add_one,hx,Option.toList_some];have a1:((w.take k++[x])++w.drop k).Perm (w.take k++w.drop k++[x]):=by rw[List.append_assoc,List.append_assoc];exact List.Perm.append_left _ List.perm_append_comm
   rw[List.take_append_drop]at a1;exact a1.trans (hp.append_right _);have hw2:(w.take k++w.drop k).Pairwise (· <= ·):=by rw[List.take_append_drop];exact hw
   rw[List.pairwise_append]at hw2;rw[List.pairwise_append,List.pairwise_append];refine⟨⟨hw2.1,by simp,fun a ha c hc=>?_⟩,hw2.2.1,fun a ha c hc=>?_⟩;rw[List.mem_singleton]at hc;exact hc▸ht a ha;rcases ma.1 ha with h|h
   exact hw2.2.2 a h c hc;rw[List.mem_singleton]at h;have:=hd c hc;omega)
  ((0:Int),[]) ⟨0,Nat.zero_le _,rfl,by simp,by simp⟩
 have h1':aRq l0 0 []=some o:=h1;exact⟨o,by unfold Yg;rw[h0,AB,h1',AB],h2⟩
theorem aQb{q:AD}{b:List X2}{l:List Int}{c:Int->Int}(hA:∀x∈l,∀y∈l,Y1 q b x y=some (decide (c x=c y)))(hn:l.length<=256){i:Nat}{x:Int}(hx:l[i]? =some x)(w8:List Int){r:List Int}(hr:∀y∈r,y∈l)(hrn:r.length<=256):∀(suf pre:List Int),r=pre++suf->(∀y∈pre,c y≠c x)->Sz b l (i:Int) (r.length:Int) q r w8 (pre.length:Int)=some ((pos (r.map c) (c x):Nat):Int)
 |[],pre,e,hp=>by
  rw[List.append_nil]at e;subst e;rw[QU,Iq,decide_eq_false (by omega),AJ,Ad];have:c x∉r.map c:=fun h=>by obtain⟨y,hy,e⟩:=mm.1 h;exact hp y hy e
  have h2:pos (r.map c) (c x)=(r.map c).length:=List.idxOf_eq_length this;rw[h2,List.length_map]
 |y::suf,pre,e,hp=>by
  have hy:r[pre.length]? =some y:=by rw[e];simp
  have hyl:=hr y (List.mem_of_getElem? hy);rw[QU,Iq,ltD hy,AI,AN hy,AN hx,hA y hyl x (List.mem_of_getElem? hx),AB,Dp];have hnp:c x∉pre.map c:=fun h=>by obtain⟨z,hz,e⟩:=mm.1 h;exact hp z hz e
  by_cases hc:c y=c x;rw[if_pos hc,Ad];have:pos (r.map c) (c x)=pre.length:=by unfold pos;rw[e,List.map_append,List.idxOf_append,if_neg hnp,List.map_cons,hc,List.idxOf_cons_self,List.length_map,Nat.zero_add]
  rw[this];rw[if_neg hc,BC,Aq hy (by omega)];have:=aQb hA hn hx w8 hr hrn suf (pre++[y]) (by rw[e];simp) (fun z hz=>by
   rcases ma.1 hz with h|h
   exact hp z h;rw[List.mem_singleton]at h;exact h▸hc)
  rw[List.length_append,List.length_singleton]at this;exact this
theorem Pv{q:AD}{b:List X2}{l:List Int}{c:Int->Int}(hA:∀x∈l,∀y∈l,Y1 q b x y=some (decide (c x=c y)))(hn:l.length<=256)(hcan:Can l c):Xx q b l=some (l.map c):=by
 obtain⟨o,h1,h2⟩:=BB (step:=fun s:Int×List Int×List Int=>G9 b l q s.1 s.2.1 s.2.2) (fun s=>∃i:Nat,i<=l.length/\s.1=(i:Int)/\(∀y∈s.2.1,y∈l)/\s.2.1.map c=EV [] ((l.map c).take i)/\s.2.2=(l.take i).map c) (fun s=>(l.length-s.1).toNat) (fun o=>o=l.map c)
  (by
   rintro⟨a,r,w⟩ ⟨i,hi,rfl,hr,hF,rfl⟩;simp only at hr hF⊢;by_cases he:i=l.length;subst he;exact .inl ⟨l.map c,by simp only[G9,ltI,AJ,List.take_length],rfl⟩;right;obtain⟨x,hx,_⟩:=Aa (l:=l) (i:=i) (by omega);have hxl:=List.mem_of_getElem? hx;have hcx:(l.map c)[i]? =some (c x):=by rw[List.getElem?_map,hx];rfl
   have hrl:r.length<=i:=by have h:=Eo ((l.map c).take i) [];rw[<-hF,List.length_map,List.length_take,List.length_nil]at h;omega
   have hl6:=aQb hA hn hx ((l.take i).map c) hr (by omega) r [] rfl (fun y hy=>by cases hy);have hl6':Sz b l (i:Int) (r.length:Int) q r ((l.take i).map c) 0=_:=hl6;have hst:=Jf hcx;have hpt:=R4 hcx;have hcn:=hcan x hxl;rw[<-hF]at hst;rw[hst]at hpt;by_cases hm:c x∈r.map c;rw[if_pos hm]at hst hpt;have hlt:pos (r.map c) (c x)<r.length:=by have:=List.idxOf_lt_length_of_mem hm;rw[List.length_map]at this;exact this
   refine⟨(((i+1:Nat):Int),r,(l.take (i+1)).map c),?_,⟨i+1,by omega,rfl,hr,hst.symm,rfl⟩,by simp only;omega⟩;simp only[G9,ltD hx,AI,Wj,hl6',AB,Wl,decide_eq_false (show¬((pos (r.map c) (c x):Nat):Int)=(r.length:Int) by omega),AJ,Aq hx (show l.length<=9223372036854775807 by omega)];rw[KG (by simp;omega) (by decide),AB,hpt,<-hcn,List.take_add_one,hx];simp;rw[if_neg hm]at hst hpt;have hq:pos (r.map c) (c x)=r.length:=by have:pos (r.map c) (c x)=(r.map c).length:=List.idxOf_eq_length hm;rw[this,List.length_map]
   rw[aDx hm,List.length_map]at hpt;refine⟨(((i+1:Nat):Int),r++[x],(l.take (i+1)).map c),?_,⟨i+1,by omega,rfl,fun y hy=>?_,by simp only;rw[List.map_append];exact hst.symm,rfl⟩,by simp only;omega⟩;simp only[G9,ltD hx,AI,Wj,hl6',AB,Wl,hq,decide_true,AI,AN hx,Aq hx (show l.length<=9223372036854775807 by omega)];rw[KG (by simp;omega) (by decide),AB,KG (by simp;omega) (by decide),AB,hpt,<-hcn,List.take_add_one,hx];simp;rcases ma.1 hy with h|h
   exact hr y h;rw[List.mem_singleton]at h;exact h▸hxl)
  ((0:Int),[],[]) ⟨0,Nat.zero_le _,rfl,(fun y hy=>by cases hy),rfl,rfl⟩
 subst h2;have h1':aRf b l q 0 [] []=_:=h1;unfold Xx;rw[h1',AB]
theorem He{q:AD}(hF:Dt q)(hR:Ag q)(hS:Cf q){L:List Int}(hL:Fp q L){b:List X2}(he:X4 q b=some L)(he2:Xw q b=some L){s:Nat}(hs:s<2^q.states.length):∃l cs,X6 q b (s:Int)=some (l,cs)/\Yg q b (s:Int)=some l/\Xx q b l=some cs/\l.length<=256/\cs.length=l.length/\cs≠[]/\∀x∈cs,0<=x/\x<256:=by
 obtain⟨l,c,e1,hp,hso,hcan,hiff⟩:=SF hF hR hS hL he hs;have hb:=bdS (L:=L) hR hS hs;have hlen:=PK hb;have hn:l.length<=256:=by rw[hp.length_eq];exact hlen
 have hsm:∀x∈l,SmI x:=fun x hx=>rcS hR hS hs x ((JX hb).1 (hp.mem_iff.1 hx));obtain⟨w,e2,hp2,hso2⟩:=UJ (aZv hF hR hS hL he2 hs) hlen;have hwl:w=l:=List.Perm.eq_of_pairwise (fun a b _ _ h3 h4=>by omega) hso2 hso (hp2.trans hp.symm);subst hwl;have hA:∀x∈w,∀y∈w,Y1 q b x y=some (decide (c x=c y)):=fun x hx y hy=>by have h:=aE6 hF hR hS hL he2 (s:=(x,y)) ⟨hsm x hx,hsm y hy⟩;simp only at h;rw[h];congr 1;rw[decide_eq_decide];exact(Tz hR hS L ⟨hsm x hx,hsm y hy⟩).trans (hiff x hx y hy).symm
 refine⟨w,w.map c,e1,e2,Pv hA hn hcan,hn,by simp,fun h=>?_,fun x hx=>?_⟩;have h1:w=[]:=List.map_eq_nil_iff.1 h;have:(s:Int)∈w:=hp.mem_iff.2 ((JX hb).2 .refl);rw[h1]at this;cases this;obtain⟨y,hy,rfl⟩:=mm.1 hx;have h1:=aP9 (List.mem_map_of_mem (f:=c) hy);rw[List.length_map]at h1;rw[hcan y hy];omega
theorem Ru:∀(ys:List Int) (a:Int),ys.foldl (fun a x=>GO a (x+1)) (a+1)=ys.foldl GO a+1
 |[],_=>rfl
 |x::ys,a=>by
  rw[List.foldl_cons,List.foldl_cons,<-Ru ys];congr 1;unfold GO;split<;>split<;>omega
theorem aWr{q:AD}{b:List X2}{cs:List Int}(hn:cs.length<=256)(hb:∀x∈cs,0<=x/\x<256):aRn b cs q 0 0=some (cs.foldl (fun a x=>GO a (x+1)) 0):=
 El (step:=fun s:Int×Int=>Iy b cs q s.1 s.2) cs (fun j w=>(w,(j:Int))) (fun a x=>GO a (x+1)) (fun w=>w) (fun _ _=>True)
  (fun j x w hj _=>by have hx:=hb x (List.mem_of_getElem? hj);refine⟨?_,trivial⟩;simp only[Iy,ltD hj,AI,AN hj,Aq hj (show cs.length<=9223372036854775807 by omega)];rw[LV (by omega) (by omega)])
  (fun w _=>by simp only[Iy,ltI,AJ]) 0 trivial
theorem aUp{y:Int}{ys:List Int}(hn:(y::ys).length<=256):Yc (y::ys)=some (ys.foldl GO y):=by
 obtain⟨o,h1,h2⟩:=BB (step:=fun s:Int×Int=>HH (y::ys) s.1 s.2) (fun s=>∃i:Nat,1<=i/\i<=(y::ys).length/\s.2=(i:Int)/\s.1=(ys.take (i-1)).foldl GO y) (fun s=>((y::ys).length-s.2).toNat) (fun o=>o=ys.foldl GO y)
  (by
   rintro⟨m,a⟩ ⟨i,h1,hi,rfl,rfl⟩;simp only;by_cases he:i=(y::ys).length;subst he;refine .inl ⟨ys.foldl GO y,?_,rfl⟩;rw[HH,ltI,AJ,List.length_cons,Nat.add_sub_cancel,List.take_length];right;obtain⟨x,hx,_⟩:=Aa (l:=y::ys) (i:=i) (by omega);have hx2:ys[i-1]? =some x:=by rw[show i=(i-1)+1 by omega,List.getElem?_cons_succ]at hx;exact hx
   refine⟨((ys.take (i-1+1)).foldl GO y,((i+1:Nat):Int)),?_,⟨i+1,by omega,by omega,rfl,by simp only;rw[show i+1-1=i-1+1 by omega]⟩,by simp only;omega⟩;simp only[HH,ltD hx,AI,AN hx,Aq hx (show(y::ys).length<=9223372036854775807 by omega)];rw[List.take_add_one,hx2,Option.toList_some,List.foldl_append];rfl)
  (y,(1:Int)) ⟨1,Nat.le_refl _,by simp,rfl,by simp⟩
 subst h2;have h1':YM (y::ys) y 1=_:=h1;unfold Yc YL;rw[decide_eq_false (by rw[List.length_cons];omega),AJ,AB,Rj,h1',AB]
theorem aE8{q:AD}{b:List X2}{st:Nat}(hq:q.start=(st:Int))(h12:st<=12){l cs:List Int}(he:X6 q b ((2^st:Nat):Int)=some (l,cs))(hn:cs.length<=256)(h0:cs≠[])(hb:∀x∈cs,0<=x/\x<256):Zu q b=some (cs.foldl (fun a x=>GO a (x+1)) 0):=by
 cases cs with
 |nil=>exact absurd rfl h0
 |cons y ys=>
  have hy:=hb y (by simp)
  have e1:(y::ys).foldl (fun a x=>GO a (x+1)) 0=ys.foldl GO y+1:=by rw[List.foldl_cons,show GO 0 (y+1)=y+1 by unfold GO;rw[if_pos (by omega)],Ru]
  have hm:∀(ys:List Int) (a:Int),(0<=a/\a<256)->(∀x∈ys,0<=x/\x<256)->0<=ys.foldl GO a/\ys.foldl GO a<256:=by
   intro ys;induction ys with
   |nil=>exact fun a h _=>h
   |cons x ys ih=>
    intro a ha h
    refine ih _ ?_ fun z hz=>h z (List.mem_cons_of_mem _ hz)
    have:=h x (by simp)
    unfold GO
    split<;>omega
  have h2:=hm ys y hy fun x hx=>hb x (List.mem_cons_of_mem _ hx)
  unfold Zu
  rw[hq,Ai (by rw[At (by omega)];omega),bDc h12,he,AB,aUp hn,AB,LV (by omega) (by omega),e1]
theorem Nl{q:AD}(h:Yx q=some true):0<=q.start/\q.start<q.states.length:=by
 unfold Yx at h;obtain⟨r1,_,h⟩:=bS h;rcases iS h with⟨_,h⟩|⟨_,h⟩
 cases h;rcases iS h with⟨_,h⟩|⟨_,h⟩
 cases h;rcases iS h with⟨_,h⟩|⟨_,h⟩
 cases h;rcases iS h with⟨_,h⟩|⟨_,h⟩
 cases h;rcases iS h with⟨_,h⟩|⟨_,h⟩
 cases h;rcases iS h with⟨_,h⟩|⟨_,h⟩
 cases h;rcases iS h with⟨_,h⟩|⟨_,h⟩
 cases h;rcases iS h with⟨_,h⟩|⟨h1,h⟩
 cases h;rcases iS h with⟨_,h⟩|⟨h2,h⟩
 cases h;have a1:=of_decide_eq_false h1;have a2:=of_decide_eq_false h2;omega
theorem aZ4(q:AD)(b:List X2)(x:Int)(hW:∀t∈q.trans,MO t)(hb:b.length<=9223372036854775807)(hx:0<=x):Ya q b x=some true:=by
 obtain⟨r,hr,hP⟩:=Tu q b hW hb;unfold Ya;rw[hr,AB,bBv];cases r with
 |false=>rfl
 |true=>
  obtain⟨hF,hR,hS,hB,hT,h3⟩:=hP rfl
  have h12:=hF.states
  rw[Bool.not_true,AJ,Dp]
  split
  rfl
  rw[Ai (by rw[At (by omega)];omega),bDc h12,Dp]
  split
  rfl
  rename_i hlt
  obtain⟨n,rfl⟩:∃n:Nat,x=(n:Int):=⟨x.toNat,by omega⟩
  have hs:n<2^q.states.length:=by omega
  obtain⟨L,e1,e2,_,hL⟩:=aTx hF hR hS hT h3 hB
  obtain⟨l,cs,c1,c2,c3,hl,hcl,_,_⟩:=He hF hR hS hL e1 e2 hs
  obtain⟨hs0,hs1⟩:=Nl hT
  obtain⟨st,hst⟩:∃st:Nat,q.start=(st:Int):=⟨q.start.toNat,by omega⟩
  have hs2:2^st<2^q.states.length:=Nat.pow_lt_pow_right (by decide) (by omega)
  obtain⟨l',cs',d1,d2,d3,hl',hcl',hne,hbd⟩:=He hF hR hS hL e1 e2 hs2
  have hC:=aE8 hst (by omega) d1 (by omega) hne hbd
  obtain⟨o,g1,rfl⟩:=Al (step:=fun s=>Ix b l cs l cs q s) l.length (fun _=>True) (fun o=>o=Sum.inl ())
   (fun i hi=>by obtain⟨x,hx,_⟩:=Aa (l:=l) (i:=i) hi;obtain⟨y,hy,_⟩:=Aa (l:=cs) (i:=i) (by omega);refine .inl ⟨?_,trivial⟩;simp only[Ix,ltD hx,AI,AN hx,AN hy,decide_true,Bool.not_true,AJ,Aq hx (show l.length<=9223372036854775807 by omega)])
   (fun _=>⟨.inl (),by simp only[Ix,ltI,AJ],rfl⟩)
  have g1':aRm b l cs l cs q 0=some (.inl ()):=g1
  rw[c1,AB,c2,AB,c3,AB]
  simp only[decide_true,Bool.not_true,AJ]
  rw[g1',AB,CK,hst,Ai (by rw[At (by omega)];omega),bDc (by omega),d2,AB,d3,AB,aWr (by omega) hbd,AB,hC,AB,decide_eq_true rfl,AI]
  rfl
end
end Go.Ac
