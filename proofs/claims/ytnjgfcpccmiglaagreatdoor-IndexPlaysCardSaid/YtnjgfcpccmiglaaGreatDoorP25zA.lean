/- Own work: the plain law. -/
import Derived.Test.YtnjgfcpccmiglaaGreatDoorP25qH
import Derived.Test.YtnjgfcpccmiglaaGreatDoorAcD
set_option linter.unusedVariables false
set_option linter.unusedSimpArgs false
namespace Go.Ac
def BJ(l:List X0)(v:Int):X3×Bool:=match l.findSome? (fun s=>if s.var=v then some s.value else none)with
 |some x=>(x,true)
 |none=>(zV,false)
theorem aAr(l:List X0)(v:Int)(o:Unit⊕X3)(h:o=(l.findSome? (fun s=>if s.var=v then some (Sum.inr s.value:Unit⊕X3)else none)).getD (.inl ())):
 As o (fun _=>some (X3.mk 0 0 ([]:List UInt8) false,false)) (fun o4=>some (o4,true))=some (BJ l v):=by
 subst h
 have e:l.findSome? (fun s=>if s.var=v then some (Sum.inr s.value:Unit⊕X3)else none)=(l.findSome? (fun s=>if s.var=v then some s.value else none)).map Sum.inr:=by
  induction l with
  |nil=>rfl
  |cons s l ih=>rw[List.findSome?_cons,List.findSome?_cons];by_cases h:s.var=v<;>simp[h,ih]
 rw[e]
 unfold BJ
 cases l.findSome? (fun s=>if s.var=v then some s.value else none)<;>rfl
theorem W2(l:List X0)(v:Int)(hl:l.length<=9223372036854775807):Yv l v=some (BJ l v):=by
 unfold Yv aMp;rw[Ee l (fun _ s=>if s.var=v then some (Sum.inr s.value:Unit⊕X3)else none) (.inl ())
  (fun i x hx=>by simp only[Jq,ltD hx,AP,AN hx,Aq hx hl,CX];by_cases h:x.var=v<;>simp[h])
  (by simp only[Jq,ltI,AR]),Cf,AD]
 exact aAr l v _ rfl
theorem aMi(l:List X0)(v:Int)(hl:l.length<=9223372036854775807):Y5 l v=some (BJ l v):=by
 unfold Y5 Vp;rw[Ee l (fun _ s=>if s.var=v then some (Sum.inr s.value:Unit⊕X3)else none) (.inl ())
  (fun i x hx=>by simp only[Gr,ltD hx,AP,AN hx,Aq hx hl,CX];by_cases h:x.var=v<;>simp[h])
  (by simp only[Gr,ltI,AR]),Cf,AD]
 exact aAr l v _ rfl
theorem Cy{l:List X0}{v:Int}{x:X3}(h:BJ l v=(x,true)):X0.mk v x∈l:=by unfold BJ at h;split at h;rename_i y hy;cases h;obtain⟨s,hs,hv⟩:=List.exists_of_findSome?_eq_some hy;split at hv;rename_i e;cases hv;rw[<-e];exact hs;cases hv;cases h
theorem aO5{β:Type}{a b n:Nat}(h:a+b<=1073741824)(hn:n<=131072)(k:Option β):Az (fit a b n) k=k:=Ai (AU h hn) k
def KS(l:List X8)(n:List UInt8):Option Nat:=if l.any (fun d=>decide (d.name=n))=true then some (l.findIdx fun d=>decide (d.name=n))else none
theorem aYn(l:List X8)(n:List UInt8)(hl:l.length<=9223372036854775807):Yz l n=some (match KS l n with|some i=>(i:Int)|none=> -1):=by
 unfold Yz aHp;rw[Bj l (fun d=>decide (d.name=n))
  (fun i x hx=>by simp only[FH,ltD hx,AP,AN hx,Aq hx hl];simp only[AL];cases decide (x.name=n)<;>rfl)
  (by simp only[FH,ltI,AR]),AD]
 unfold KS;cases l.any _<;>rfl
theorem JI{l:List X8}{n:List UInt8}{i:Nat}(h:KS l n=some i):∃d,l[i]? =some d/\d.name=n:=by unfold KS at h;split at h;rename_i ha;cases h;obtain⟨d,hd,hn⟩:=List.any_eq_true.1 ha;have hlt:=List.findIdx_lt_length_of_exists (p:=fun d=>decide (d.name=n)) ⟨d,hd,hn⟩;exact⟨_,List.getElem?_eq_getElem hlt,by simpa using List.findIdx_getElem (w:=hlt)⟩;cases h
theorem aI2{l:List X8}{n:List UInt8}{j:Nat}{d:X8}(hj:l[j]? =some d)(hn:d.name=n):∃i,KS l n=some i/\i<=j:=by have ha:l.any (fun d=>decide (d.name=n))=true:=List.any_eq_true.2 ⟨d,List.mem_of_getElem? hj,by simpa using hn⟩;refine⟨l.findIdx fun d=>decide (d.name=n),by unfold KS;rw[if_pos ha],?_⟩;refine Nat.le_of_not_lt fun hlt=>?_;have:=List.not_of_lt_findIdx hlt;obtain⟨h1,rfl⟩:=List.getElem?_eq_some_iff.1 hj;simp[hn]at this
def aLp(l:List X8):Prop:=∀j d,l[j]? =some d->KS l d.name=some j
structure aT8(q:AA)(a:AX):Prop where
 two:a.kind=2->0<=a.n/\a.n<q.quants.length
 three:a.kind=3->0<=a.n/\a.n<q.frees.length
structure aVe(q:AA)(s:X2):Prop where
 event:0<=s.event
 decl:∃d,q.decls[s.event.toNat]? =some d/\s.args.length=d.types.length
 args:∀a∈s.args,aT8 q a
structure If(q:AA):Prop where
 decls:aLp q.decls
 quants:q.quants.length<=8
 symbols:∀s∈q.symbols,aVe q s
def aNn(a:List X3)(t:List Int):Bool:=decide (a.length=t.length)&&(a.zip t).all fun p=>decide (p.1.kind=p.2)&&vR p.1
def eR(l:List X8)(e:Xm):Bool:=match KS l e.name with
 |none=>false
 |some i=>match l[i]? with
  |none=>false
  |some d=>aNn e.args d.types
theorem aYv(l:List X8)(e:Xm)(hl:l.length<=9223372036854775807)(he:e.args.length<=9223372036854775807):Zc l e=some (eR l e):=by
 unfold Zc;rw[aYn l _ hl,AD];unfold eR;cases hf:KS l e.name with
 |none=>simp[AE]
 |some i=>
  obtain⟨d,hd,_⟩:=JI hf
  dsimp only
  rw[CX,if_neg (Int.not_lt.2 (Int.natCast_nonneg i)),AN hd,hd,AL,FT]
  dsimp only
  unfold aNn
  by_cases hl2:d.types.length=e.args.length
  rw[if_neg (by simp[hl2])]
  unfold aM0
  have hz:(e.args.zip d.types).length=e.args.length:=by simp[hl2]
  rw[A0 (e.args.zip d.types) (fun p=>decide (p.1.kind=p.2)&&vR p.1) (.inl ():Unit⊕Unit) (.inr ())
   (fun i z hz=>by obtain⟨hx,hy⟩:=Fe hz;simp only[Jw,ltD hx,AP,AN hx,AN hd,AN hy,Rz,AD,Aq hx he];by_cases h:z.1.kind=z.2<;>cases hv:vR z.1<;>simp[h,AE])
   (by rw[hz];simp only[Jw,ltI,AR]),AD]
  cases(e.args.zip d.types).all _<;>simp[As,hl2]
  rw[if_pos (by simp[hl2])]
  have:¬e.args.length=d.types.length:=fun h=>hl2 h.symm
  simp[this]

theorem bAv{i j:Nat}(h:i+j<4611686018427387904):IntKind.wrap .i64 (AB .shr .u64 (IntKind.wrap .u64 (AB .add .i64 (i:Int) (j:Int))) 1)=(((i+j)/2:Nat):Int):=by
 have e1:AB .add .i64 (i:Int) (j:Int)=((i+j:Nat):Int):=by rw[aIb (by omega) (by omega)];omega
 rw[e1,MZ (by omega)];have e2:AB .shr .u64 (((i+j:Nat)):Int) 1=(((i+j)/2^1:Nat):Int):=bAm (n:=i+j) (k:=1) (by decide);rw[e2,Nat.pow_one,aZ7 (by omega) (by omega)]
theorem aNv{step:Int×Int->Option ((Int×Int)⊕Int)}(n:Nat)(lt:Nat->Bool)
 (h1:∀i j:Nat,i<j->j<=n->step ((i:Int),(j:Int))=some (.inl (if lt ((i+j)/2)=true then((((i+j)/2+1:Nat):Int),(j:Int))else((i:Int),(((i+j)/2:Nat):Int)))))
 (h2:∀i:Nat,step ((i:Int),(i:Int))=some (.inr (i:Int))) (hm:∀a b,a<=b->b<n->lt b=true->lt a=true):
 ∃k:Nat,k<=n/\AZ step (0,(n:Int))=some (k:Int)/\(∀a,a<k->lt a=true)/\∀a,k<=a->a<n->lt a=false:=by
 obtain⟨t,ht,k,hk,rfl,p1,p2⟩:=Eb (step:=step) (fun s=>∃i j:Nat,s=((i:Int),(j:Int))/\i<=j/\j<=n/\(∀a,a<i->lt a=true)/\∀a,j<=a->a<n->lt a=false) (fun s=>(s.2-s.1).toNat)
  (fun t=>∃k:Nat,k<=n/\t=(k:Int)/\(∀a,a<k->lt a=true)/\∀a,k<=a->a<n->lt a=false)
  (by
   rintro s ⟨i,j,rfl,hij,hj,q1,q2⟩;rcases Nat.lt_or_ge i j with h|h
   right;cases hl:lt ((i+j)/2)with
   |true=>
    refine⟨((((i+j)/2+1:Nat):Int),(j:Int)),by rw[h1 i j h hj,hl];rfl,⟨(i+j)/2+1,j,rfl,by omega,hj,fun a ha=>hm a ((i+j)/2) (by omega) (by omega) hl,q2⟩,by simp only;omega⟩
   |false=>
    refine⟨((i:Int),(((i+j)/2:Nat):Int)),by rw[h1 i j h hj,hl];rfl,⟨i,(i+j)/2,rfl,by omega,by omega,q1,fun a ha hn=>?_⟩,by simp only;omega⟩
    rcases Nat.lt_or_ge a j with g|g
    cases hla:lt a with
    |false=>rfl
    |true=>rw[hm ((i+j)/2) a ha hn hla]at hl;cases hl
    exact q2 a g hn
   have:i=j:=by omega
   subst this;exact .inl ⟨(i:Int),h2 i,i,hj,rfl,q1,q2⟩)
  (0,(n:Int)) ⟨0,n,rfl,by omega,Nat.le_refl _,fun a ha=>by omega,fun a ha hn=>by omega⟩
 exact⟨k,hk,ht,p1,p2⟩

def SV(w:List X0):Prop:=w.Pairwise (fun a b=>a.var<b.var)/\∀s∈w,0<=s.var/\s.var<=63
theorem Fb:∀{a b:List X0},a.Pairwise (fun x y=>x.var<y.var)->b.Pairwise (fun x y=>x.var<y.var)->(∀s,s∈a↔s∈b)->a=b
 |[],[],_,_,_=>rfl
 |[],y::b,_,_,h=>by have:=(h y).2 (by simp);simp at this
 |x::a,[],_,_,h=>by have:=(h x).1 (by simp);simp at this
 |x::a,y::b,ha,hb,h=>by
  obtain⟨ha1,ha2⟩:=List.pairwise_cons.1 ha;obtain⟨hb1,hb2⟩:=List.pairwise_cons.1 hb;have hxy:x=y:=by
   rcases mc.1 ((h x).1 (by simp))with e|e
   exact e;rcases mc.1 ((h y).2 (by simp))with e2|e2
   exact e2.symm;have:=hb1 x e;have:=ha1 y e2;omega
  subst hxy;congr 1;refine Fb ha2 hb2 fun s=>⟨fun hs=>?_,fun hs=>?_⟩;rcases mc.1 ((h s).1 (List.mem_cons_of_mem _ hs))with e|e
  subst e;have:=ha1 s hs;omega;exact e;rcases mc.1 ((h s).2 (List.mem_cons_of_mem _ hs))with e|e
  subst e;have:=hb1 s hs;omega;exact e
def QS:List X0->X0->List X0
 |[],x=> [x]
 |y::l,x=>if x.var<y.var then x::y::l else y::QS l x
theorem Cb:∀(l:List X0) (x s:X0),s∈QS l x↔s=x\/s∈l
 |[],x,s=>by simp[QS]
 |y::l,x,s=>by
  unfold QS;split;simp;rw[mc,Cb l x s,mc];constructor;rintro(h|h|h)<;>simp[h];rintro(h|h|h)<;>simp[h]
theorem EE:∀(l:List X0) (x:X0),l.Pairwise (fun a b=>a.var<b.var)->(∀s∈l,s.var≠x.var)->(QS l x).Pairwise (fun a b=>a.var<b.var)
 |[],x,_,_=>by simp[QS]
 |y::l,x,h,hn=>by
  obtain⟨h1,h2⟩:=List.pairwise_cons.1 h;unfold QS;split;rename_i hxy;refine List.pairwise_cons.2 ⟨fun s hs=>?_,h⟩;rcases mc.1 hs with rfl|hs
  exact hxy;have:=h1 s hs;omega;rename_i hxy;refine List.pairwise_cons.2 ⟨fun s hs=>?_,EE l x h2 fun s hs=>hn s (List.mem_cons_of_mem _ hs)⟩;rcases(Cb l x s).1 hs with rfl|hs
  have:=hn y (by simp);omega;exact h1 s hs
theorem QT:∀(l:List X0) (x:X0),(QS l x).length=l.length+1
 |[],x=>rfl
 |y::l,x=>by unfold QS;split<;>simp[QT l x]
theorem Hf{l:List X0}{v:Int}(h:(BJ l v).2=false):∀s∈l,s.var≠v:=by
 intro s hs e;unfold BJ at h;cases hf:l.findSome? (fun s=>if s.var=v then some s.value else none)with
 |some x=>rw[hf]at h;cases h
 |none=>
  rw[List.findSome?_eq_none_iff]at hf
  have:=hf s hs
  simp[e]at this
theorem B5{l:List X0}(hl:l.Pairwise (fun a b=>a.var<b.var)){s:X0}(h:s∈l):BJ l s.var=(s.value,true):=by
 have key:∀(l:List X0),l.Pairwise (fun a b=>a.var<b.var)->s∈l->l.findSome? (fun t=>if t.var=s.var then some t.value else none)=some s.value:=by
  intro l;induction l with
  |nil=>intro _ h;simp at h
  |cons t l ih=>
   intro hp hs
   rw[List.findSome?_cons]
   obtain⟨h1,h2⟩:=List.pairwise_cons.1 hp
   rcases mc.1 hs with rfl|hs
   simp
   have:=h1 s hs
   rw[if_neg (by omega)]
   exact ih h2 hs
 unfold BJ;rw[key l hl h]
def K5(w:List X0)(x:X0):Option (List X0):=if(BJ w x.var).2=true then(if(BJ w x.var).1=x.value then some w else none)else some (QS w x)
theorem Hx{w w':List X0}{x:X0}(hw:SV w)(hx:0<=x.var/\x.var<=63)(h:K5 w x=some w'):SV w'/\w'.length<=w.length+1:=by
 unfold K5 at h;split at h;split at h;cases h;exact⟨hw,by omega⟩;cases h;rename_i hn;cases h;have hn':(BJ w x.var).2=false:=by simpa using hn
 refine⟨⟨EE w x hw.1 (Hf hn'),fun s hs=>?_⟩,by rw[QT];exact Nat.le_refl _⟩;rcases(Cb w x s).1 hs with rfl|hs
 exact hx;exact hw.2 s hs
theorem aN1{w:List X0}{x:X0}(hw:w.Pairwise (fun a b=>a.var<b.var))(hn:∀s∈w,s.var≠x.var){k:Nat}(hk:k<=w.length)(h1:∀j s,w[j]? =some s->j<k->s.var<x.var)(h2:∀j s,w[j]? =some s->k<=j->x.var<s.var):
 w.take k++[x]++w.drop k=QS w x:=by
 refine Fb ?_ (EE w x hw hn) fun s=>?_
 rw[List.append_assoc,List.singleton_append]
 have hd:∀s∈w.drop k,x.var<s.var:=fun s hs=>by obtain⟨j,hj,rfl⟩:=List.mem_iff_getElem.1 hs;rw[List.getElem_drop];exact h2 (k+j) _ (List.getElem?_eq_getElem (by simp at hj;omega)) (by omega)
 have htk:∀s∈w.take k,s.var<x.var:=fun s hs=>by obtain⟨j,hj,rfl⟩:=List.mem_iff_getElem.1 hs;rw[List.getElem_take];simp at hj;exact h1 j _ (List.getElem?_eq_getElem (by omega)) (by omega)
 refine List.pairwise_append.2 ⟨hw.sublist (List.take_sublist _ _),List.pairwise_cons.2 ⟨hd,hw.sublist (List.drop_sublist _ _)⟩,fun a ha b hb=>?_⟩
 rcases mc.1 hb with rfl|hb
 exact htk a ha
 have:=htk a ha;have:=hd b hb;omega
 rw[Cb]
 have hw2:s∈w↔s∈w.take k\/s∈w.drop k:=by
  conv=>lhs;rw[<-List.take_append_drop k w]
  rw[ma]
 rw[hw2]
 simp only[ma,List.mem_singleton]
 constructor
 rintro((h|h)|h)<;>simp[h]
 rintro(h|h|h)<;>simp[h]
def IG:List AX->List X3->List X0->List X0->Option (List X0×List X0)
 |a::al,x::xs,b,f=>
  if a.kind=1 then(if a.value=x then IG al xs b f else none)
  else if a.kind=2 then(match K5 b ⟨a.n,x⟩with|none=>none|some b'=>IG al xs b' f)
  else if a.kind=3 then(match K5 f ⟨a.n,x⟩with|none=>none|some f'=>IG al xs b f')
  else IG al xs b f
 |_,_,b,f=>some (b,f)
def aTr(a:AX):Prop:=(a.kind=2->0<=a.n/\a.n<=7)/\(a.kind=3->0<=a.n/\a.n<=63)
def B7(b:List X0):Prop:=∀s∈b,s.var<=7
theorem aLf{w w':List X0}{x:X0}(hw:B7 w)(hx:x.var<=7)(h:K5 w x=some w'):B7 w':=by
 unfold K5 at h;split at h;split at h;cases h;exact hw;cases h;cases h;intro s hs;rcases(Cb w x s).1 hs with rfl|hs
 exact hx;exact hw s hs
theorem FO:∀(al:List AX) (xs:List X3) (b f:List X0) (p:List X0×List X0),(∀a∈al,aTr a)->SV b->SV f->B7 b->IG al xs b f=some p->SV p.1/\SV p.2/\B7 p.1/\p.1.length<=b.length+al.length/\p.2.length<=f.length+al.length
 |[],xs,b,f,p,_,hb,hf,h7,h=>by simp only[IG]at h;cases h;exact⟨hb,hf,h7,by simp,by simp⟩
 |a::al,[],b,f,p,_,hb,hf,h7,h=>by simp only[IG]at h;cases h;exact⟨hb,hf,h7,by simp,by simp⟩
 |a::al,x::xs,b,f,p,hA,hb,hf,h7,h=>by
  have hA':∀a∈al,aTr a:=fun a h=>hA a (List.mem_cons_of_mem _ h);have hAa:=hA a (by simp);simp only[IG]at h;split at h;split at h;obtain⟨a1,a2,a3,a4,a5⟩:=FO al xs b f p hA' hb hf h7 h;exact⟨a1,a2,a3,by simp;omega,by simp;omega⟩;cases h;split at h;rename_i h2;split at h;cases h;rename_i b' hp;have hv:=hAa.1 h2;obtain⟨c1,c2⟩:=Hx hb (x:=⟨a.n,x⟩) ⟨hv.1,by simp only;omega⟩ hp;obtain⟨a1,a2,a3,a4,a5⟩:=FO al xs b' f p hA' c1 hf (aLf h7 (by simp only;omega) hp) h;exact⟨a1,a2,a3,by simp;omega,by simp;omega⟩;split at h;rename_i h3;split at h;cases h;rename_i f' hp;have hv:=hAa.2 h3;obtain⟨c1,c2⟩:=Hx hf (x:=⟨a.n,x⟩) hv hp;obtain⟨a1,a2,a3,a4,a5⟩:=FO al xs b f' p hA' hb c1 h7 h;exact⟨a1,a2,a3,by simp;omega,by simp;omega⟩;obtain⟨a1,a2,a3,a4,a5⟩:=FO al xs b f p hA' hb hf h7 h;exact⟨a1,a2,a3,by simp;omega,by simp;omega⟩
def N1(a b:List X0):Bool:=a.all fun s=> !(BJ b s.var).2||decide ((BJ b s.var).1=s.value)
theorem aRs(a b:List X0)(ha:a.length<=9223372036854775807)(hb:b.length<=9223372036854775807):Z4 a b=some (N1 a b):=by
 unfold Z4 aMu;rw[A0 a (fun s=> !(BJ b s.var).2||decide ((BJ b s.var).1=s.value)) (.inl ():Unit⊕Unit) (.inr ())
  (fun i x hx=>by simp only[Js,ltD hx,AP,AN hx,Aq hx ha,W2 b _ hb,AD,X3.eqb_dec];obtain⟨y,o⟩:=BJ b x.var;cases o;simp[AE];by_cases h:y=x.value<;>simp[AE,h])
  (by simp only[Js,ltI,AR]),AD]
 unfold N1;cases a.all _<;>rfl
theorem F2(x:X0)(v:Int):BJ [x] v=if x.var=v then(x.value,true)else(zV,false):=by unfold BJ;by_cases h:x.var=v<;>simp[h]
def DZ(a b:List X0)(v:Nat):Option X0:=
 if(BJ a v).2=true then some ⟨v,(BJ a v).1⟩else if(BJ b v).2=true then some ⟨v,(BJ b v).1⟩else none
def ID(a b:List X0):List X0:=(List.range 8).filterMap (DZ a b)
theorem aXv(a b:List X0)(ha:a.length<=9223372036854775807)(hb:b.length<=9223372036854775807):Yh a b=some (ID a b):=by
 unfold Yh aMm;have hg:∀(l:List X0) (v:Int),l.length<=9223372036854775807->Yv l v=some (BJ l v):=fun l v hl=>W2 l v hl;have h:=DF (step:=fun s:Int×List X0=>G0 a b s.1 s.2) (List.range 8) (fun w v=>w++(DZ a b v).toList) (fun w=>w) (fun i w=>w.length<=i)
  (fun i x w hx hI=>by
   have hi:i<8:=by simpa using BM hx
   have hxi:x=i:=by rw[List.getElem?_range hi]at hx;cases hx;rfl
   subst hxi;have hd:decide ((x:Int)<8)=true:=by simp;omega
   refine⟨?_,?_⟩;simp only[G0,hd,AP,aGm,hg a _ ha,hg b _ hb,AD,aGo,aGq,IA (show x<9223372036854775807 by omega),DZ];rw[aO5 (by simp;omega) (by decide),aO5 (by simp;omega) (by decide)];cases(BJ a (x:Int)).2<;>cases(BJ b (x:Int)).2<;>simp[AE,AG];unfold DZ;split;simpa using hI;split;simpa using hI;simp;omega)
  (fun w _=>by simp[G0,AE]) [] (by simp)
 rw[h,AD];congr 1;unfold ID;have key:∀(l:List Nat) (w:List X0),l.foldl (fun w v=>w++(DZ a b v).toList) w=w++l.filterMap (DZ a b):=by
  intro l;induction l with
  |nil=>intro w;simp
  |cons v l ih=>intro w;rw[List.foldl_cons,ih,List.filterMap_cons];cases DZ a b v<;>simp
 rw[key];simp
theorem Fd{a b:List X0}{v:Nat}{s:X0}(h:DZ a b v=some s):s.var=(v:Int):=by unfold DZ at h;split at h;cases h;rfl;split at h;cases h;rfl;cases h
theorem Kz(a b:List X0):(ID a b).Pairwise (fun x y=>x.var<y.var):=by
 unfold ID;have h8:(List.range 8).Pairwise (· < ·):=List.pairwise_lt_range
 rw[List.pairwise_filterMap];refine h8.imp fun{v w} hvw s hs t ht=>?_;have:=Fd hs;have:=Fd ht;omega
theorem Sw{a b:List X0}{s:X0}:s∈ID a b↔0<=s.var/\s.var<=7/\(BJ a s.var=(s.value,true)\/(BJ a s.var).2=false/\BJ b s.var=(s.value,true)):=by
 unfold ID;rw[List.mem_filterMap];constructor;rintro⟨v,hv,h⟩;have hv8:v<8:=by simpa using hv
 have hsv:=Fd h;refine⟨by omega,by omega,?_⟩;rw[hsv];unfold DZ at h;split at h;rename_i ha;cases h;left;simp only;rw[<-ha];rename_i ha;split at h;rename_i hb;cases h;right;exact⟨by simpa using ha,by simp only;rw[<-hb]⟩;cases h;rintro⟨h0,h7,h⟩;refine⟨s.var.toNat,by simp;omega,?_⟩;have e:((s.var.toNat:Nat):Int)=s.var:=by omega
 unfold DZ;rw[e];rcases h with h|⟨h,h'⟩
 rw[h];simp;rw[h,h'];simp
theorem aI3{b:List X0}{x:X0}(hb:SV b):N1 b [x]=(K5 b x).isSome:=by
 unfold N1 K5;cases hg:(BJ b x.var).2 with
 |true=>
  have hm:=Cy (l:=b) (v:=x.var) (x:=(BJ b x.var).1) (by rw[<-hg])
  by_cases hv:(BJ b x.var).1=x.value
  simp only[if_true,hv,Option.isSome_some]
  rw[List.all_eq_true]
  intro s hs
  rw[F2]
  by_cases h:x.var=s.var
  have:=B5 hb.1 hs
  rw[<-h]at this
  rw[this]at hv
  simp[h,<-hv]
  simp[h]
  simp only[if_true,hv,if_false,Option.isSome_none]
  rw[List.all_eq_false]
  refine⟨_,hm,?_⟩
  rw[F2]
  simp
  exact fun h=>hv h.symm
 |false=>
  simp only[Bool.false_eq_true,if_false,Option.isSome_some]
  rw[List.all_eq_true]
  intro s hs
  rw[F2]
  have:=Hf hg s hs
  have h':¬x.var=s.var:=fun h=>this h.symm
  simp[h']
theorem aCk{b w:List X0}{x:X0}(hb:SV b)(h7:B7 b)(hx:0<=x.var/\x.var<=7)(h:K5 b x=some w):ID b [x]=w:=by
 have hw:=Hx hb (x:=x) ⟨hx.1,by omega⟩ h;refine Fb (Kz _ _) hw.1.1 fun s=>?_;rw[Sw,F2];unfold K5 at h;split at h;rename_i hg;split at h;rename_i hv;cases h;constructor;rintro⟨_,_,h1|⟨h1,h2⟩⟩;exact Cy h1;split at h2;rename_i e;rw[e]at hg;rw[h1]at hg;cases hg;simp at h2;intro hs;exact⟨(hb.2 s hs).1,h7 s hs,.inl (B5 hb.1 hs)⟩;cases h;rename_i hg;have hg':(BJ b x.var).2=false:=by simpa using hg
 cases h;rw[Cb];constructor;rintro⟨_,_,h1|⟨h1,h2⟩⟩;exact .inr (Cy h1);split at h2;rename_i e;left;obtain⟨a,c⟩:=s;obtain⟨a',c'⟩:=x;simp only at e h2;subst e;simp at h2;rw[h2];simp at h2;rintro(rfl|hs);exact⟨hx.1,hx.2,.inr ⟨hg',by simp⟩⟩;exact⟨(hb.2 s hs).1,h7 s hs,.inl (B5 hb.1 hs)⟩
theorem aYr{w:List X0}{x:X0}(hw:SV w)(hn:∀s∈w,s.var≠x.var)(hl:w.length<=1000):Z7 w x=some (QS w x):=by
 unfold Z7 aMv;obtain⟨t,ht,k,hk,rfl,p1,p2⟩:=Eb (step:=fun s=>HJ w x s) (fun s=>∃i:Nat,s=(i:Int)/\i<=w.length/\∀j s,w[j]? =some s->i<=j->x.var<s.var) (fun s=>s.toNat)
  (fun t=>∃k:Nat,k<=w.length/\t=(k:Int)/\(∀j s,w[j]? =some s->j<k->s.var<x.var)/\∀j s,w[j]? =some s->k<=j->x.var<s.var)
  (by
   rintro s ⟨i,rfl,hi,hj⟩;cases i with
   |zero=>exact .inl ⟨0,by simp[HJ,AE],0,by omega,rfl,fun j s _ h=>by omega,hj⟩
   |succ i=>
    obtain⟨y,hy,_⟩:=A8 (l:=w) (i:=i) (by omega)
    have e:AB .sub .i64 ((i+1:Nat):Int) 1=(i:Int):=by rw[aO9 (by omega) (by omega)];omega
    have hd:decide ((0:Int)<((i+1:Nat):Int))=true:=by simp
    simp only[HJ,hd,AP,e,AN hy]
    by_cases h:x.var<y.var
    refine .inr ⟨_,by simp only[h,decide_true,AP],⟨i,rfl,by omega,fun j s hs hij=>?_⟩,by omega⟩
    rcases Nat.eq_or_lt_of_le hij with g|g
    subst g;rw[hy]at hs;cases hs;exact h
    exact hj j s hs g
    refine .inl ⟨_,by simp only[h,decide_false,AR],i+1,hi,rfl,fun j s hs hij=>?_,hj⟩
    have hyx:y.var<x.var:=by have:=hn y (List.mem_of_getElem? hy);omega
    rcases Nat.lt_or_ge j i with g|g
    obtain⟨a1,rfl⟩:=List.getElem?_eq_some_iff.1 hs
    obtain⟨a2,rfl⟩:=List.getElem?_eq_some_iff.1 hy
    have:=List.pairwise_iff_getElem.1 hw.1 j i a1 a2 g;omega
    have:j=i:=by omega
    subst this;rw[hy]at hs;cases hs;exact hyx)
  (w.length:Int) ⟨w.length,rfl,Nat.le_refl _,fun j s hs hij=>by have:=BM hs;omega⟩
 rw[ht,AD];have es:sub w 0 (k:Int)=w.take k:=by rw[show(0:Int)=((0:Nat):Int)from rfl,OV];rfl
 rw[es,aOx,Ai (by omega),aO5 (by simp;omega) (by decide),aO5 (by simp;omega) (by decide),Ai (by omega),aO5 (by simp;omega) (by decide)];rw[List.nil_append,aN1 hw.1 hn hk p1 p2]
theorem aI4{al:List AX}{e:Xm}{sy:X2}{s1 w6:Int}{w9:Ae}(hsy:sy.args=al)(hlen:al.length=e.args.length)(h12:al.length<=12)(hA:∀a∈al,aTr a):∀(n i:Nat) (b f:List X0),al.length-i=n->i<=al.length->SV b->SV f->B7 b->b.length<=i->f.length<=i->
 Rm s1 e w6 sy w9 b f (i:Int)=some (match IG (al.drop i) (e.args.drop i) b f with|none=>.inr ()|some p=>.inl p):=by
 subst hsy
 intro n
 induction n with
 |zero=>
  intro i b f hn hi _ _ _ _ _
  have:i=sy.args.length:=by omega
  subst this
  rw[PH]
  simp only[Gc,ltI,AR,DN]
  rw[List.drop_length];simp[IG]
 |succ n ih=>
  intro i b f hn hi hb hf h7 hbl hfl
  obtain⟨a,ha,hda⟩:=A8 (l:=sy.args) (i:=i) (by omega)
  obtain⟨x,hx,hdx⟩:=A8 (l:=e.args) (i:=i) (by omega)
  have hAa:=hA a (List.mem_of_getElem? ha)
  rw[PH,hda,hdx]
  simp only[Gc,ltD ha,AP,aFg,AN ha,AN hx,Aq ha (show sy.args.length<=9223372036854775807 by omega),X3.eqb_dec,VE,VF,VG]
  simp only[IG]
  by_cases h1:a.kind=1
  have h2:¬a.kind=2:=by omega
  have h3:¬a.kind=3:=by omega
  by_cases hv:a.value=x
  have ho:=ih (i+1) b f (by omega) (by omega) hb hf h7 (by omega) (by omega)
  simp[h1,hv,AE,Bh,AG,As];exact_mod_cast ho
  simp[h1,hv,AE,Bh,AG,As]
  by_cases h2:a.kind=2
  have h3:¬a.kind=3:=by omega
  have hvr:=hAa.1 h2
  rw[aRs _ _ (by omega) (by simp),aI3 (x:=⟨a.n,x⟩) hb,aXv _ _ (by omega) (by simp)]
  cases hp:K5 b ⟨a.n,x⟩with
  |none=>simp[h1,h2,AE,Bh,AG,As]
  |some b'=>
   obtain⟨c1,c2⟩:=Hx hb (x:=⟨a.n,x⟩) ⟨hvr.1,by simp only;omega⟩ hp
   rw[aCk hb h7 (x:=⟨a.n,x⟩) hvr hp]
   have ho:=ih (i+1) b' f (by omega) (by omega) c1 hf (aLf h7 (by simp only;omega) hp) (by omega) (by omega)
   simp[h1,h2,h3,AE,Bh,AG,As];exact_mod_cast ho
  by_cases h3:a.kind=3
  have hvr:=hAa.2 h3
  rw[W2 f _ (by omega)]
  unfold K5
  simp only
  cases hg:(BJ f a.n).2 with
  |true=>
   by_cases hv:(BJ f a.n).1=x
   have ho:=ih (i+1) b f (by omega) (by omega) hb hf h7 (by omega) (by omega)
   simp[h1,h2,h3,hg,hv,AE,Bh,AG,As];exact_mod_cast ho
   simp[h1,h2,h3,hg,hv,AE,Bh,AG,As]
  |false=>
   have hp:K5 f ⟨a.n,x⟩=some (QS f ⟨a.n,x⟩):=by unfold K5;simp[hg]
   obtain⟨c1,c2⟩:=Hx hf (x:=⟨a.n,x⟩) hvr hp
   have ho:=ih (i+1) b (QS f ⟨a.n,x⟩) (by omega) (by omega) hb c1 h7 (by omega) (by omega)
   have hput:=aYr (w:=f) (x:=⟨a.n,x⟩) hf (Hf hg) (by omega)
   simp[h1,h2,h3,hg,AE,Bh,AG,As,aSr,hput];exact_mod_cast ho
  have ho:=ih (i+1) b f (by omega) (by omega) hb hf h7 (by omega) (by omega)
  simp[h1,h2,h3,AE,Bh,AG,As];exact_mod_cast ho
def Mb(q:AA)(i:Nat)(e:Xm):Option Ae:=match q.symbols[i]? with
 |none=>none
 |some s=>match q.decls[s.event.toNat]? with
  |none=>none
  |some d=>if d.name=e.name/\s.args.length=e.args.length then(IG s.args e.args [] []).map fun p=>⟨i,p.1,p.2⟩else none
def N4(q:AA)(e:Xm):List Ae:=if eR q.decls e=true then(List.range q.symbols.length).filterMap fun i=>Mb q i e else []
theorem Ig:SV []:=⟨List.Pairwise.nil,by simp⟩
theorem aZq{q:AA}(hF:CV q)(hR:If q){s:X2}(hs:s∈q.symbols):∀a∈s.args,aTr a:=fun a ha=>by have:=(hR.symbols s hs).args a ha;have h8:=hR.quants;have hf:=hF.frees;exact⟨fun h=>by have:=this.two h;omega,fun h=>by have:=this.three h;omega⟩
def aO8(o:Option Ae):Ae×Bool:=match o with
 |some h=>(h,true)
 |none=>(⟨0,[],[]⟩,false)
theorem aW0{q:AA}(hF:CV q)(hR:If q){e:Xm}{i:Nat}(hi:i<q.symbols.length):Xt q i e=some (aO8 (Mb q i e)):=by
 obtain⟨s,hs,_⟩:=A8 hi;have hsm:=List.mem_of_getElem? hs;have hso:=hR.symbols s hsm;obtain⟨d,hd,hdl⟩:=hso.decl;unfold Xt Mb;rw[AN hs,B0 hd hso.event,hs,FT];simp only[hd];by_cases hn:d.name=e.name;by_cases hlen:s.args.length=e.args.length;have h12:=hF.args s hsm;have ho:=aI4 (sy:=s) (s1:=(i:Int)) (w6:=0) (w9:=⟨0,[],[]⟩) rfl hlen h12 (aZq hF hR hsm) _ 0 [] [] rfl (by omega) Ig Ig (fun s hs=>by simp at hs) (by simp) (by simp);rw[show(0:Int)=((0:Nat):Int)from rfl]at ho⊢;simp only[List.drop_zero]at ho;simp only[hn,hlen,and_self,if_true,decide_true,Bool.not_true,AR];rw[show Rm (i:Int) e ((0:Nat):Int) s (Ae.mk ((0:Nat):Int) [] []) [] [] ((0:Nat):Int)=_ from ho,AD];cases IG s.args e.args [] []with
 |none=>simp[As,aO8]
 |some p=>simp[As,aO8]
 simp[hn,hlen,AE,aO8];simp[hn,AE,aO8]
theorem IR{α β:Type}(g:α->Option β):∀(l:List α) (w:List β),l.foldl (fun w v=>w++(g v).toList) w=w++l.filterMap g:=by
 intro l;induction l with
 |nil=>intro w;simp
 |cons v l ih=>intro w;rw[List.foldl_cons,ih,List.filterMap_cons];cases g v<;>simp
theorem aBz{n i x:Nat}(h:(List.range n)[i]? =some x):x=i/\i<n:=by
 have hi:i<n:=by simpa using BM h
 rw[List.getElem?_range hi]at h;cases h;exact⟨rfl,hi⟩
theorem aZw{q:AA}(hF:CV q)(hR:If q){e:Xm}{h:Ae}(hh:h∈N4 q e):SV h.bind/\B7 h.bind/\h.bind.length<=12/\h.frees.length<=12/\SV h.frees:=by unfold N4 at hh;split at hh;obtain⟨i,_,hi⟩:=List.mem_filterMap.1 hh;unfold Mb at hi;split at hi;cases hi;rename_i s hs;have hsm:=List.mem_of_getElem? hs;split at hi;cases hi;split at hi;simp only[om]at hi;obtain⟨p,hp,rfl⟩:=hi;have h12:=hF.args s hsm;obtain⟨a1,a2,a3,a4,a5⟩:=FO _ _ _ _ _ (aZq hF hR hsm) Ig Ig (fun s hs=>by simp at hs) hp;simp only[List.length_nil]at a4 a5;exact⟨a1,a3,by simp only;omega,by simp only;omega,a2⟩;cases hi;simp at hh
theorem aKo:∀x:List UInt8,Op.bytesLess x x=false
 |[]=>rfl
 |a::x=>by simp[Op.bytesLess,aKo x]
theorem QA:∀{x y z:List UInt8},Op.bytesLess x y=true->Op.bytesLess y z=true->Op.bytesLess x z=true
 |[],[],_,h,_=>by simp[Op.bytesLess]at h
 |_::_,[],_,h,_=>by simp[Op.bytesLess]at h
 |[],_::_,[],_,h=>by simp[Op.bytesLess]at h
 |[],_::_,_::_,_,_=>rfl
 |_::_,_::_,[],_,h=>by simp[Op.bytesLess]at h
 |a::x,b::y,c::z,h1,h2=>by
  simp only[Op.bytesLess,Bool.or_eq_true,ba,decide_eq_true_eq,beq_iff_eq]at h1 h2⊢;rcases h1 with h1|⟨rfl,h1⟩
  rcases h2 with h2|⟨rfl,h2⟩
  exact .inl (UInt8.lt_trans h1 h2);exact .inl h1;rcases h2 with h2|⟨rfl,h2⟩
  exact .inl h2;exact .inr ⟨rfl,QA h1 h2⟩
theorem P9:∀{x y:List UInt8},x≠y->Op.bytesLess x y=true\/Op.bytesLess y x=true
 |[],[],h=>absurd rfl h
 |_::_,[],_=>.inr rfl
 |[],_::_,_=>.inl rfl
 |a::x,b::y,h=>by
  simp only[Op.bytesLess,Bool.or_eq_true,ba,decide_eq_true_eq,beq_iff_eq];by_cases hab:a=b;subst hab;rcases P9 (x:=x) (y:=y) (fun e=>h (by rw[e]))with g|g
  exact .inl (.inr ⟨rfl,g⟩);exact .inr (.inr ⟨rfl,g⟩);have:a<b\/b<a:=by rw[UInt8.lt_iff_toNat_lt,UInt8.lt_iff_toNat_lt];have:a.toNat≠b.toNat:=fun e=>hab (UInt8.toNat_inj.1 e);omega
  rcases this with g|g
  exact .inl (.inl g);exact .inr (.inl g)
theorem ZQ:∀(x y:List UInt8),(match ((x.zip y).findSome? fun z=>if z.1=z.2 then none else some (Sum.inr (decide (z.1<z.2)):Unit⊕Bool)).getD (.inl ())with| .inl _=>decide (x.length<y.length)| .inr b=>b)=Op.bytesLess x y
 |[],[]=>rfl
 |_::_,[]=>rfl
 |[],_::_=>by simp[Op.bytesLess]
 |a::x,b::y=>by
  rw[List.zip_cons_cons,List.findSome?_cons];by_cases h:a=b;subst h;simp only[if_true,Op.bytesLess,beq_self_eq_true,Bool.true_and,<-ZQ x y];have:decide (a<a)=false:=by simp
  rw[this,Bool.false_or];simp only[List.length_cons,Nat.add_lt_add_iff_right];simp[h,Op.bytesLess]
theorem aYm(x y:List UInt8)(hx:x.length<=9223372036854775807)(hy:y.length<=9223372036854775807):Yy x y=some (Op.bytesLess x y):=by
 unfold Yy aHn;have hz:(x.zip y).length=min x.length y.length:=by simp
 rw[Ee (x.zip y) (fun _ z=>if z.1=z.2 then none else some (Sum.inr (decide (z.1<z.2)):Unit⊕Bool)) (.inl ())
  (fun i z h=>by obtain⟨h1,h2⟩:=Fe h;simp only[FF,ltD h1,ltD h2,AP,AN h1,AN h2,Aq h1 hx];by_cases e:z.1=z.2;simp[e,AE];have:¬(z.1.toNat:Int)=(z.2.toNat:Int):=fun g=>e (UInt8.toNat_inj.1 (by omega));have:(decide ((z.1.toNat:Int)<(z.2.toNat:Int)))=decide (z.1<z.2):=decide_eq_decide.2 (by rw[UInt8.lt_iff_toNat_lt];omega);rw[this,if_neg e];simp[*,AE])
  (by
   rw[hz];rcases Nat.le_total x.length y.length with h|h
   rw[Nat.min_eq_left h];simp only[FF,ltI,AR];rw[Nat.min_eq_right h];simp only[FF,ltI,AR];cases decide ((y.length:Int)<(x.length:Int))<;>rfl),AD,Cf,<-ZQ]
 cases((x.zip y).findSome? fun z=>if z.1=z.2 then none else some (Sum.inr (decide (z.1<z.2)):Unit⊕Bool)).getD (.inl ())<;>simp[As]
theorem aJ8{v:X3}(h:vR v=true):(v.kind=1/\v.str=[]/\v.bool=false)\/(v.kind=2/\v.int=0/\v.bool=false/\v.str.length<=4096)\/(v.kind=3/\v.int=0/\v.str=[]):=by unfold vR at h;split at h;left;simp at h;exact⟨by assumption,h.1,h.2⟩;split at h;right;left;simp at h;exact⟨by assumption,h.1.1,h.1.2,h.2⟩;split at h;right;right;simp at h;exact⟨by assumption,h.1,h.2⟩;cases h
theorem RN{w w':List X0}{x s:X0}(h:K5 w x=some w')(hs:s∈w'):s=x\/s∈w:=by unfold K5 at h;split at h;split at h;cases h;exact .inr hs;cases h;cases h;exact(Cb w x s).1 hs
theorem QP:∀(al:List AX) (xs:List X3) (b f:List X0) (p:List X0×List X0),IG al xs b f=some p->∀s∈p.1,s∈b\/s.value∈xs
 |[],xs,b,f,p,h=>by simp only[IG]at h;cases h;exact fun s hs=>.inl hs
 |a::al,[],b,f,p,h=>by simp only[IG]at h;cases h;exact fun s hs=>.inl hs
 |a::al,x::xs,b,f,p,h=>by
  simp only[IG]at h;have go:∀b f,IG al xs b f=some p->∀s∈p.1,s∈b\/s.value∈x::xs:=fun b f h s hs=>(QP al xs b f p h s hs).imp id (List.mem_cons_of_mem _);split at h;split at h;exact go b f h;cases h;split at h;split at h;cases h;rename_i b' hp;intro s hs;rcases go b' f h s hs with g|g
  rcases RN hp g with rfl|g
  exact .inr (by simp);exact .inl g;exact .inr g;split at h;split at h;cases h;rename_i f' hp;exact go b f' h;exact go b f h
theorem aSq{q:AA}{e:Xm}{i:Nat}{h:Ae}(hi:Mb q i e=some h):h.symbol=i/\∀s∈h.bind,s.value∈e.args:=by unfold Mb at hi;split at hi;cases hi;split at hi;cases hi;split at hi;simp only[om]at hi;obtain⟨p,hp,rfl⟩:=hi;exact⟨rfl,fun s hs=>(QP _ _ _ _ _ hp s hs).resolve_left (by simp)⟩;cases hi
theorem aNo{l:List X8}{e:Xm}(h:eR l e=true):∀v∈e.args,vR v=true:=by unfold eR at h;split at h;cases h;split at h;cases h;rename_i d hd;unfold aNn at h;simp only[ba,decide_eq_true_eq,List.all_eq_true]at h;intro v hv;obtain⟨i,hi⟩:=List.mem_iff_getElem?.1 hv;obtain⟨t,ht,_⟩:=A8 (l:=d.types) (i:=i) (by have:=BM hi;omega);exact(h.2 (v,t) (List.mem_iff_getElem?.2 ⟨i,by rw[List.getElem?_zip_eq_some];exact⟨hi,ht⟩⟩)).2
theorem aT2{q:AA}{e:Xm}{h:Ae}(hh:h∈N4 q e):eR q.decls e=true/\∃i,i<q.symbols.length/\Mb q i e=some h:=by unfold N4 at hh;split at hh;rename_i he;obtain⟨i,hi,hs⟩:=List.mem_filterMap.1 hh;exact⟨he,i,List.mem_range.1 hi,hs⟩;simp at hh
theorem aI5(q:AA)(e:Xm)(hF:CV q):(N4 q e).length<=1000:=by unfold N4;split;refine Nat.le_trans (List.length_filterMap_le _ _) ?_;rw[List.length_range];exact Nat.le_trans hF.symbols (by decide);simp
theorem aYk{q:AA}{e:Xm}(hF:CV q)(hR:If q):Yw q e=some ((List.range q.symbols.length).filterMap fun i=>Mb q i e):=by
 have hs:=hF.symbols;unfold Yw aMq;have h:=DF (step:=fun s:Int×List Ae=>HF q e s.1 s.2) (List.range q.symbols.length) (fun w i=>w++(Mb q i e).toList) (fun w=>w) (fun i w=>w.length<=i)
  (fun i x w hx hI=>by
   obtain⟨rfl,hi⟩:=aBz hx;have hlt:decide ((x:Int)<(q.symbols.length:Int))=true:=by simp;omega
   refine⟨?_,by cases Mb q x e<;>simp<;>omega⟩;simp only[HF,hlt,AP,aHf,aW0 hF hR hi,AD,aHh,IA (show x<9223372036854775807 by omega)];rw[aO5 (by simp;omega) (by decide)];cases Mb q x e<;>simp[aO8,AE,AG])
  (fun w _=>by rw[List.length_range];simp only[HF,ltI,AR]) [] (by simp)
 rw[h,AD,IR];simp
def MW(a b:List X0):Bool:=a.all fun s=>decide (BJ b s.var=(s.value,true))
theorem aYx(a b:List X0)(ha:a.length<=9223372036854775807)(hb:b.length<=9223372036854775807):Zd a b=some (MW a b):=by
 unfold Zd aM1;rw[A0 a (fun s=>decide (BJ b s.var=(s.value,true))) (.inl ()) (.inr ())
  (fun i x hx=>by simp only[Jx,ltD hx,AP,AN hx,Aq hx ha,W2 b _ hb,AD,X3.eqb_dec];obtain⟨y,o⟩:=BJ b x.var;cases o;simp[AE];by_cases h:y=x.value<;>simp[AE,h])
  (by simp only[Jx,ltI,AR]),AD]
 unfold MW;cases a.all _<;>rfl
def BR(b:List X0):Prop:=b.Pairwise (fun x y=>x.var<y.var)/\∀s∈b,0<=s.var/\s.var<=7/\vR s.value=true
theorem JX:∀(b:List X0) (lo:Int),b.Pairwise (fun x y=>x.var<y.var)->(∀s∈b,lo<=s.var/\s.var<=7)->b.length<=(8-lo).toNat
 |[],_,_,_=>by simp
 |x::b,lo,hp,h=>by
  rw[List.pairwise_cons]at hp;have h1:=JX b (x.var+1) hp.2 fun s hs=>⟨by have:=hp.1 s hs;omega,(h s (List.mem_cons_of_mem _ hs)).2⟩;have h2:=h x (by simp);rw[List.length_cons];omega
theorem aPe{b:List X0}(h:BR b):b.length<=8:=by have:=JX b 0 h.1 fun s hs=>⟨(h.2 s hs).1,(h.2 s hs).2.1⟩;omega
def okB(l:List X0)(i:Nat):Prop:=∀j,j<i->∃x,l[j]? =some x/\0<=x.var/\x.var<=7/\vR x.value=true/\∀y,0<j->l[j-1]? =some y->y.var<x.var
theorem aBs{l:List X0}(h:okB l l.length):BR l:=by
 have get:∀j (hj:j<l.length),0<=l[j].var/\l[j].var<=7/\vR l[j].value=true/\∀(_:0<j) (h2:j-1<l.length),l[j-1].var<l[j].var:=by intro j hj;obtain⟨x,hx,h1,h2,h5,h3⟩:=h j hj;obtain⟨_,rfl⟩:=List.getElem?_eq_some_iff.1 hx;exact⟨h1,h2,h5,fun h0 h4=>h3 _ h0 (List.getElem?_eq_getElem h4)⟩
 refine⟨List.pairwise_iff_getElem.2 ?_,fun s hs=>?_⟩;intro i j hi hj hij;induction j with
 |zero=>omega
 |succ j ih=>
  have h1:=(get (j+1) hj).2.2.2 (by omega) (by simp;omega)
  simp only[Nat.add_sub_cancel]at h1
  rcases Nat.lt_or_ge i j with h2|h2
  have:=ih (by omega) h2;omega
  have:i=j:=by omega
  subst this;exact h1
 obtain⟨j,hj,rfl⟩:=List.mem_iff_getElem.1 hs;exact⟨(get j hj).1,(get j hj).2.1,(get j hj).2.2.1⟩
theorem MF(l:List X0)(hl:l.length<=9223372036854775807):∃b,Zg l=some b/\(b=true->BR l):=by
 unfold Zg aM4;obtain⟨t,ht,hQ⟩:=Eb (step:=fun s=>HK l s) (fun s=>∃i:Nat,s=(i:Int)/\i<=l.length/\okB l i) (fun s=>(l.length-s).toNat) (fun t=>t=.inl ()->okB l l.length)
  (by
   rintro s ⟨i,rfl,hi,hok⟩;by_cases he:i=l.length;subst he;exact .inl ⟨.inl (),by simp only[HK,ltI,AR],fun _=>hok⟩;obtain⟨x,hx,_⟩:=A8 (l:=l) (i:=i) (by omega);simp only[HK,ltD hx,AP,AN hx,Rz,AD,Aq hx hl,CX];have hgo:(∀y,0<i->l[i-1]? =some y->y.var<x.var)->¬x.var<0->¬7<x.var->vR x.value=true->okB l (i+1):=by
    intro h1 h2 h3 h5 j hj;rcases Nat.lt_or_ge j i with h4|h4
    exact hok j h4;have:j=i:=by omega
    subst this;exact⟨x,hx,by omega,by omega,h5,h1⟩
   by_cases h1:x.var<0;exact .inl ⟨.inr (),by simp[h1],by simp⟩;by_cases h2:7<x.var;exact .inl ⟨.inr (),by simp[h1,h2],by simp⟩;cases hb:vR x.value with
   |false=>exact .inl ⟨.inr (),by simp[h1,h2,AE],by simp⟩
   |true=>
    by_cases h3:0<i
    obtain⟨y,hy,_⟩:=A8 (l:=l) (i:=i-1) (by omega)
    have e:AB .sub .i64 (i:Int) 1=((i-1:Nat):Int):=by rw[aO9 (by omega) (by omega)];omega
    rw[e,AN hy]
    by_cases h4:x.var<=y.var
    exact .inl ⟨.inr (),by simp[h1,h2,h3,h4,AE],by simp⟩
    refine .inr ⟨((i+1:Nat):Int),by simp[h1,h2,h3,h4,AE],⟨i+1,rfl,by omega,hgo (fun z _ hz=>?_) h1 h2 hb⟩,by omega⟩
    rw[hy]at hz;cases hz;omega
    refine .inr ⟨((i+1:Nat):Int),by simp[h1,h2,h3,AE],⟨i+1,rfl,by omega,hgo (fun z h0=>absurd h0 h3) h1 h2 hb⟩,by omega⟩)
  (0:Int) ⟨0,rfl,by omega,fun j hj=>by omega⟩
 rw[ht,AD];rcases t with _|_
 exact⟨true,rfl,fun _=>aBs (hQ rfl)⟩;exact⟨false,rfl,by simp⟩
end Go.Ac
