/- Own work: the plain law. -/
import Derived.Test.YtgcfokfcilgnlaaGreatP23px
set_option linter.unusedVariables false
set_option linter.unusedSimpArgs false
namespace Go.Ac
noncomputable section
theorem aU1{self:Int->Int->Int->List Int->Option (List Int)}{a b:Nat}(lim:Int)(s8 s9 fl:Bool)(t pv:Int){w1:List Int}(hl:w1.length<=60000)(hb:b<=w1.length)(hab:a<b)(hL:Lo a b w1):
 ∃o w2,Jg self (a:Int) (b:Int) lim s8 s9 t pv fl w1=some o/\Pm a b w1 w2/\(o= .inl w2\/o= .inr w2/\So a b w2):=by
 unfold Jg
 cases fl with
 |false=>exact⟨_,w1,rfl,Pm.refl _ _ _,.inl rfl⟩
 |true=>
  obtain⟨f,w2,e1,e2,e3⟩:=aVo a b w1 (by omega) hb hab hL
  rw [AI,e1,AB]
  cases f with
  |true=>exact⟨_,w2,rfl,e2,.inr ⟨rfl,e3 rfl⟩⟩
  |false=>exact⟨_,w2,rfl,e2,.inl rfl⟩
theorem aU0{self:Int->Int->Int->List Int->Option (List Int)}{a b:Nat}(lim:Int)(s8 s9:Bool){w:List Int}(hS:Slf self (b-a))(hl:w.length<=60000)(hb:b<=w.length)(hab:a<=b)(hL:Lo a b w):
 ∃o,NA self (a:Int) (b:Int) lim s8 s9 w=some o/\((∃w',o= .inr w'/\Pm a b w w'/\So a b w')\/ ∃x,o= .inl x/\Rd a b w x):=by
 unfold NA
 rw [ZA (n:=b) (m:=a) (by omega)]
 by_cases h12:b-a<=12
 obtain⟨w',e1,e2,e3⟩:=aU7 a b w (by omega) hb hab
 exact⟨_,by rw [decide_eq_true (by omega),AI,e1,AB],.inl ⟨w',rfl,e2,e3⟩⟩
 rw [decide_eq_false (by omega),AH]
 by_cases hlim:lim=0
 obtain⟨w',e1,e2,e3⟩:=aNl a b w (by omega) hb (by omega)
 exact⟨_,by rw [decide_eq_true hlim,AI,e1,AB],.inl ⟨w',rfl,e2,e3⟩⟩
 rw [decide_eq_false hlim,AH]
 obtain⟨l1,w1,e1,e2⟩: ∃l1 w1,NB self (a:Int) (b:Int) lim s8 s9 ((b-a:Nat):Int) (!s8) w=some (l1,w1)/\Pm a b w w1:=by
  unfold NB;cases s8 with
  |true=>exact⟨_,_,rfl,Pm.refl _ _ _⟩
  |false=>
   obtain⟨w1,e1,e2⟩:=aP0 a b w hl hb (by omega)
   exact⟨_,w1,by rw [Bool.not_false,AI,e1,AB],e2⟩
 have hl1:=e2.len
 obtain⟨pv,hint,f1,p,rfl,p1,p2⟩:=aQm a b w1 (by omega) (by omega) (by omega)
 obtain⟨p',hint',w2,g1,g2,g3,g4⟩: ∃(p':Nat) (hint':Int) (w2:List Int),NC self (a:Int) (b:Int) l1 s8 s9 ((b-a:Nat):Int) (p:Int) hint (decide (hint=2)) w1=some ((p':Int),hint',w2)/\a<=p'/\p'<b/\Pm a b w1 w2:=by unfold NC;by_cases h2:hint=2;obtain⟨w2,g1,g2⟩:=aQs a b w1 (by omega) (by omega) hab;refine⟨b-1-(p-a),1,w2, ?_,by omega,by omega,g2⟩;rw [decide_eq_true h2,AI,g1,AB,Dm (by omega),ZA (n:=p) (m:=a) (by omega),ZA (n:=b-1) (m:=p-a) (by omega)];exact⟨p,hint,w1,by rw [decide_eq_false h2,AH],p1,p2,Pm.refl _ _ _⟩
 have h02:=e2.trans g4
 have hL2:=hL.pm h02
 have hl2:=h02.len
 have fin: ∀fl:Bool,∃o,(AJ (Jg self (a:Int) (b:Int) l1 s8 s9 ((b-a:Nat):Int) (p':Int) fl w2) fun o9=>
  CQ o9 (fun o10=>aN1 self (a:Int) (b:Int) ((b-a:Nat):Int) l1 s8 s9 (p':Int) o10) (fun o11=>some (.inr o11)))=some o/\((∃w',o= .inr w'/\Pm a b w w'/\So a b w')\/ ∃x,o= .inl x/\Rd a b w x):=fun fl=>by
  obtain⟨o,w3,h1,h2,h3⟩:=aU1 (self:=self) l1 s8 s9 fl ((b-a:Nat):Int) (p':Int) (w1:=w2) (by omega) (by omega) (by omega) hL2
  rw [h1,AB]
  rcases h3 with rfl|⟨rfl,h3⟩
  obtain⟨x,x1,x2⟩:=aN2 ((b-a:Nat):Int) l1 s8 s9 hS hl hb ⟨g2,g3⟩ (by omega) (h02.trans h2) (hL2.pm h2)
  exact⟨_,by rw [CR,x1],.inr ⟨x,rfl,x2⟩⟩
  exact⟨_,EI _ _ _,.inl ⟨w3,rfl,h02.trans h2,h3⟩⟩
 rw [e1,AB]
 simp only
 rw [f1,AB]
 simp only
 rw [g1,AB]
 simp only
 cases s8 with
 |true=>cases s9 with
  |true=>rw [AI,AI];exact fin (decide (hint'=1))
  |false=>rw [AI,AH];exact fin false
 |false=>rw [AH];exact fin false
theorem aQl{self:Int->Int->Int->List Int->Option (List Int)}{N:Nat}(hS:Slf self N): ∀(m a b:Nat) (lim:Int) (s8 s9:Bool) (w:List Int),b-a<=m->b-a<=N->w.length<=60000->b<=w.length->a<=b->Lo a b w->
 ∃w',Ps self (a:Int) (b:Int) lim s8 s9 w=some w'/\Pm a b w w'/\So a b w':=by
 intro m
 induction m using Nat.strongRecOn with
 |ind m ih=>
  intro a b lim s8 s9 w hm hN hl hb hab hL
  rw [aBa]
  unfold Hn
  obtain⟨o,e1,e2⟩:=aU0 lim s8 s9 (fun a' b' l w' h1 h2 h3 h4 h5=>hS a' b' l w' (by omega) h2 h3 h4 h5) hl hb hab hL
  rw [e1,AB]
  rcases e2 with⟨w',rfl,f1,f2⟩|⟨x,rfl,f1⟩
  exact⟨w',by rw [EI,Ad],f1,f2⟩
  obtain⟨a',b',x1,x2,k1,k2,k3,k4,k5,k6,k7,k8⟩:=f1
  have hl5:=k5.len
  obtain⟨w',g1,g2,g3⟩:=ih (b'-a') (by omega) a' b' x.2.2.1 x.2.2.2.1 x.2.2.2.2.1 x.2.2.2.2.2 (Nat.le_refl _) (by omega) (by omega) (by omega) k2 k6
  refine⟨w', ?_,k5.trans (g2.mono k1 k3),fun p q p1 p2 p3=> ?_⟩
  rw [CR,BD]
  simp only
  rw [x1,x2];exact g1
  by_cases c1:p<a'
  rw [g2.out p (by omega)]
  by_cases c2:a'<=q/\q<b'
  obtain⟨q',q1,q2,q3⟩:=g2.src q c2.1 c2.2
  rw [q3];exact k7 p q' p1 c1 (by omega) (by omega)
  rw [g2.out q (by omega)];exact k7 p q p1 c1 p2 p3
  by_cases c2:b'<=q
  rw [g2.out q (by omega)]
  by_cases c3:p<b'
  obtain⟨p',q1,q2,q3⟩:=g2.src p (by omega) c3
  rw [q3];exact k8 p' q (by omega) (by omega) c2 p3
  rw [g2.out p (by omega)];exact k8 p q p1 p2 c2 p3
  exact g3 p q (by omega) p2 (by omega)
theorem aVf: ∀n,Slf (aI2 n) n:=by
 intro n;induction n with
 |zero=>intro a b lim w h;omega
 |succ n ih=>
  intro a b lim w h1 h2 h3 h4 h5
  obtain⟨w',e1,e2,e3⟩:=aQl ih (b-a) a b lim true true w (Nat.le_refl _) (by omega) h4 h3 h2 h5
  refine⟨w', ?_,e2,e3⟩
  show aKk (aI2 n) (a:Int) (b:Int) lim w=some w'
  unfold aKk
  rw [e1,AB]
theorem Rm{w:List Int}(hl:w.length<=60000): ∃w',Q7 w=some w'/\w'.Perm w/\w'.Pairwise (· <= ·):=by obtain⟨k,e1,_⟩:=aIx (n:=w.length) (by omega);obtain⟨w',f1,f2,f3⟩:=aVf 100000 0 w.length (k:Int) w (by omega) (by omega) (Nat.le_refl _) hl (fun h=>by omega);refine⟨w', ?_,f2.perm, ?_⟩;unfold Q7;rw [Aw (by omega),e1,AB];have f1':X9 0 (w.length:Int) (k:Int) w=some w':=f1;rw [f1',AB];rw [List.pairwise_iff_getElem];intro i j hi hj hij;have:=f3 i j (by omega) hij (by have:=f2.len;omega);rw [I9 hi,I9 hj];exact this
theorem Fv{l m:List Int}(h1:l.Pairwise (· <= ·))(h2:m.Pairwise (· <= ·))(hp:l.Perm m):l=m:=
 List.Perm.eq_of_pairwise (fun a b _ _ h3 h4=>by omega) h1 h2 hp
theorem aAa{w l:List Int}(hl:w.length<=60000)(hs:l.Pairwise (· <= ·))(hp:l.Perm w):Qz w=some l:=by unfold Qz;refine aM1 fun p hp'=> ?_;obtain⟨w',e1,e2,e3⟩:=Rm (w:=p) (by rw [hp'.length_eq];exact hl);rw [e1,Fv e3 hs (e2.trans (hp'.trans hp.symm))]
theorem XD{α:Type}{le:α->α->Bool}{x y:α}{l:List α}:y∈MG le x l↔y=x\/y∈l:=by rw [(G2 le x l).mem_iff,mc]
theorem HF{α:Type}{le:α->α->Bool}(h1: ∀a b,le a b=true\/le b a=true)(h2: ∀a b c,le a b=true->le b c=true->le a c=true)(x:α): ∀{l:List α},l.Pairwise (fun a b=>le a b=true)->(MG le x l).Pairwise (fun a b=>le a b=true)
 |[],_=>by simp [MG]
 |y::l,h=>by
  obtain⟨ha,hb⟩:=List.pairwise_cons.1 h;rw [MG];split;rename_i hxy;refine List.pairwise_cons.2 ⟨fun z hz=> ?_,h⟩;rcases mc.1 hz with rfl|hz
  exact hxy;exact h2 _ _ _ hxy (ha z hz);rename_i hxy;refine List.pairwise_cons.2 ⟨fun z hz=> ?_,HF h1 h2 x hb⟩;rcases XD.1 hz with rfl|hz
  rcases h1 y z with h|h
  exact h;rw [hxy]at h;cases h;exact ha z hz
theorem Ep{α:Type}{le:α->α->Bool}(h1: ∀a b,le a b=true\/le b a=true)(h2: ∀a b c,le a b=true->le b c=true->le a c=true): ∀(l:List α),(Mj le l).Pairwise (fun a b=>le a b=true)
 |[]=>List.Pairwise.nil
 |x::l=>HF h1 h2 x (Ep h1 h2 l)
theorem Eo(xs:List Int):(aIi xs).Pairwise (· <= ·):=
 (Ep (le:=fun a b:Int=>decide (a<=b)) (fun a b=>by simp only [decide_eq_true_eq];omega) (fun a b c h1 h2=>by simp only [decide_eq_true_eq]at*;omega) xs).imp fun h=>by simpa using h
theorem JH{V:Type}(S:List (Int×V)):(aH0 S).Pairwise (fun a b=>a.1<=b.1):=
 (Ep (le:=fun a b:Int×V=>decide (a.1<=b.1)) (fun a b=>by simp only [decide_eq_true_eq];omega) (fun a b c h1 h2=>by simp only [decide_eq_true_eq]at*;omega) S).imp fun h=>by simpa using h
structure aOm(n:Nat)(l:List Aq):Prop extends aRc l where
 sym: ∀h∈l,0<=h.symbol/\h.symbol<n
theorem aMq{a b:Nat}(h:a+b<18446744073709551616):AA .add .u64 (a:Int) (b:Int)=((a+b:Nat):Int):=by show IntKind.wrap .u64 ((a:Int)+(b:Int))=_;rw [<-Int.natCast_add];exact Aw h
theorem aJ9{n:Nat}(hn:n<=12){l:List Aq}(hl:aOm n l): ∃M:Nat,Z0 l=some (M:Int)/\M<18446744073709551616/\ ∀k:Nat,M.testBit k=true↔ ∃h∈l,h.symbol=(k:Int):=by
 have hln:=hl.len;obtain⟨o,ho,M,rfl,hQ⟩:=BE (step:=fun s:Int×Int=>If l s.1 s.2)
  (fun s=> ∃(j w:Nat),s=((w:Int),(j:Int))/\j<=l.length/\w<2^12/\ ∀k:Nat,w.testBit k=true↔ ∃i,i<j/\ ∃h,l[i]? =some h/\h.symbol=(k:Int))
  (fun s=>(l.length-s.2).toNat)
  (fun o=> ∃M:Nat,o=(M:Int)/\M<18446744073709551616/\ ∀k:Nat,M.testBit k=true↔ ∃h∈l,h.symbol=(k:Int))
  (by
   rintro s ⟨j,w,rfl,hj,hw,hm⟩;by_cases he:j=l.length;subst he;refine .inl ⟨(w:Int),by simp only [If,ltI,AH],w,rfl,Nat.lt_of_lt_of_le hw (by decide),fun k=> ?_⟩;rw [hm k];constructor;rintro⟨i,_,h,hi,hs⟩;exact⟨h,List.mem_of_getElem? hi,hs⟩;rintro⟨h,hh,hs⟩;obtain⟨i,hi⟩:=List.mem_iff_getElem?.1 hh;exact⟨i,(List.getElem?_eq_some_iff.1 hi).1,h,hi,hs⟩;right;obtain⟨y,hy,_⟩:=AY (l:=l) (i:=j) (by omega);have hsy:=hl.sym y (List.mem_of_getElem? hy);obtain⟨z,hz⟩: ∃z:Nat,y.symbol=(z:Int):=⟨y.symbol.toNat,by omega⟩;have hz12:z<12:=by omega
   have hwz:w<2^z:=Nat.lt_pow_two_of_testBit w fun i hi=>by
    cases hb:w.testBit i with
    |false=>rfl
    |true=>
     exfalso
     obtain⟨a,ha,h,hh,hs⟩:=(hm i).1 hb
     obtain⟨p1,e1⟩:=List.getElem?_eq_some_iff.1 hh
     obtain⟨p2,e2⟩:=List.getElem?_eq_some_iff.1 hy
     have:=List.pairwise_iff_getElem.1 hl.rise a j p1 p2 ha
     rw [e1,e2]at this
     omega
   have hor:w+2^z=2^z|||w:=by have:=Nat.two_pow_add_eq_or_of_lt hwz 1;rw [Nat.mul_one]at this;rw [Nat.add_comm];exact this
   have hp12:2^z<2^12:=Nat.pow_lt_pow_right (by decide) hz12;have hlt12:w+2^z<2^12:=by rw [hor];exact Nat.or_lt_two_pow hp12 hw
   have hwz2:IntKind.wrap .u64 (z:Int)=(z:Int):=Aw (by omega);refine⟨(((w+2^z:Nat):Int),((j+1:Nat):Int)), ?_,⟨j+1,w+2^z,rfl,by omega,hlt12,fun k=> ?_⟩,by simp only;omega⟩;simp only [If,ltD hy,AI,AN hy,hz,hwz2,Ak (show(0:Int)<=(z:Int) by omega),Ap hy (show l.length<=9223372036854775807 by omega)];rw [aIk (by omega),aMq (Nat.lt_of_lt_of_le hlt12 (by decide))];rw [hor,Nat.testBit_or,Nat.testBit_two_pow,Bool.or_eq_true,decide_eq_true_eq,hm k];constructor;rintro(h|⟨i,hi,a⟩);exact⟨j,by omega,y,hy,by rw [hz,h]⟩;exact⟨i,by omega,a⟩;rintro⟨i,hi,h,hh,hs⟩;rcases Nat.lt_or_ge i j with g|g
   exact .inr ⟨i,g,h,hh,hs⟩;have:i=j:=by omega
   subst this;rw [hy,oe]at hh;subst hh;exact .inl (by omega))
  ((0:Int),(0:Int)) ⟨0,0,rfl,by omega,by decide,fun k=>by simp⟩
 have ho':aL3 l 0 0=some (M:Int):=ho;exact⟨M,by unfold Z0;rw [ho',AB],hQ⟩
theorem Fp{α:Type}(f:Nat->α->Nat)(P:α->Nat->Prop)(hf: ∀w x k,(f w x).testBit k=true↔w.testBit k=true\/P x k): ∀(l:List α) (w k:Nat),(l.foldl f w).testBit k=true↔w.testBit k=true\/ ∃x∈l,P x k
 |[],w,k=>by simp
 |x::l,w,k=>by
  rw [List.foldl_cons,Fp f P hf l,hf];constructor;rintro((h|h)|⟨y,hy,h⟩);exact .inl h;exact .inr ⟨x,by simp,h⟩;exact .inr ⟨y,List.mem_cons_of_mem _ hy,h⟩;rintro(h|⟨y,hy,h⟩);exact .inl (.inl h);rcases mc.1 hy with rfl|hy
  exact .inl (.inr h);exact .inr ⟨y,hy,h⟩
theorem aN4(q:AD)(M s k:Nat):(toN q M s).testBit k=true↔ ∃t∈q.trans,(t.from_=(s:Int)/\M.testBit t.symbol.toNat=true)/\t.to.toNat=k:=by
 unfold toN;rw [Fp (toF M s) (fun t k=>(t.from_=(s:Int)/\M.testBit t.symbol.toNat=true)/\t.to.toNat=k) (fun w t k=>by unfold toF;by_cases h:t.from_=(s:Int)/\M.testBit t.symbol.toNat=true;rw [if_pos h,Nat.testBit_or,Nat.testBit_two_pow,Bool.or_eq_true,decide_eq_true_eq];exact⟨fun a=>a.elim .inl fun b=> .inr ⟨h,b⟩,fun a=>a.elim .inl fun b=> .inr b.2⟩;rw [if_neg h];exact⟨.inl,fun a=>a.elim id fun b=>absurd b.1 h⟩)]
 simp
theorem YC(q:AD)(S M k:Nat):(EO q S M).testBit k=true↔ ∃s,s<q.states.length/\S.testBit s=true/\(aJj q M s).testBit k=true:=by
 unfold EO;rw [Fp (LF q S M) (fun s k=>S.testBit s=true/\(aJj q M s).testBit k=true) (fun w s k=>by unfold LF;by_cases h:S.testBit s=true;rw [if_pos h,Nat.testBit_or,Bool.or_eq_true];exact⟨fun a=>a.elim .inl fun b=> .inr ⟨h,b⟩,fun a=>a.elim .inl fun b=> .inr b.2⟩;rw [if_neg h];exact⟨.inl,fun a=>a.elim id fun b=>absurd b.1 h⟩)]
 simp only [List.mem_range,Nat.zero_testBit,Bool.false_eq_true,false_or]
theorem QY{q:AD}(hF:Df q)(hR:Af q)(hS:Ck q)(e:X8)(b:List X2):aOm q.symbols.length (((List.range q.symbols.length).filterMap fun i=>JD q i e).filter fun h=>Dx h.bind b):=by
 have hsy:=hF.symbols;have hmem: ∀h∈(List.range q.symbols.length).filterMap (fun i=>JD q i e),∃i,i<q.symbols.length/\JD q i e=some h:=fun h hh=>by obtain⟨i,hi,hh⟩:=List.mem_filterMap.1 hh;exact⟨i,List.mem_range.1 hi,hh⟩
 refine⟨⟨fun h hh=> ?_, ?_, ?_⟩,fun h hh=> ?_⟩;obtain⟨i,_,hi⟩:=hmem h (List.mem_filter.1 hh).1;exact XA hR hS hi;refine List.Pairwise.filter _ ?_;rw [List.pairwise_filterMap];refine List.Pairwise.imp ?_ (List.pairwise_lt_range (n:=q.symbols.length));intro i j hij a ha c hc;have h1:=(MD ha).1;have h2:=(MD hc).1;omega;have h1:=List.length_filter_le (fun h:Aq=>Dx h.bind b) ((List.range q.symbols.length).filterMap fun i=>JD q i e);have h2:=List.length_filterMap_le (fun i=>JD q i e) (List.range q.symbols.length);rw [List.length_range]at h2;omega;obtain⟨i,hi,hh⟩:=hmem h (List.mem_filter.1 hh).1;have:=(MD hh).1;omega

theorem Hb(l:List X0)(v:X0)(hl:l.length<=1000000):Q3 l v=some (decide (v∈l)):=by
 have hloop:aGq l (l.length:Int) v 0=some (if(l.any fun t=>decide (v=t))=true then .inr ((l.findIdx fun t=>decide (v=t):Nat):Int)else .inl ()):=by unfold aGq;refine Dk (step:=fun s=>Im l (l.length:Int) v s) l (fun t=>decide (v=t)) (fun i x hx=> ?_) ?_;simp only [Im,ltD hx,AI,AN hx,X0.eqb_dec,Ap hx (show l.length<=9223372036854775807 by omega)];by_cases h:v=x<;>simp [h,AE];simp only [Im,ltI,AH]
 have hany:(l.any fun t=>decide (v=t))=decide (v∈l):=by rw [Bool.eq_iff_iff,List.any_eq_true];simp
 unfold Q3 Za;rw [hloop,AB,hany];by_cases h:v∈l;simp only [h,decide_true,if_true,EI,AB];simp;simp only [h,decide_false,Bool.false_eq_true,if_false,CR,AB];rfl
theorem FU{w:List X0}{x v:X0}:v∈Mt w x↔v=x\/v∈w:=by unfold Mt;by_cases h:x∈w;rw [if_pos h];exact⟨.inr,fun hh=>hh.elim (fun e=>e▸h) id⟩;rw [if_neg h];simp only [ma,mc,List.mem_filter];cases ltV v x<;>simp<;>constructor<;>(intro hh;rcases hh with a|b<;>simp_all)
theorem Ri{x:X0}:Zo x=some (true,[x]):=by
 have hb:Y4 ([]:List X0) x ([]:List X0)=some (0,false):=by unfold Y4 aEo;rw [Ah];simp [Gs,Uh,AE,AJ,CS]
 unfold Zo aG3 U3 aQ6;rw [hb];simp [AJ,AE,fit]
theorem aOj{w:List X0}(h:w.length<=1000):Qd w=some (w,w):=by unfold Qd U4 O6;rw [if_pos (By (by omega) (by decide))];rfl



theorem G4{α β τ:Type}{step:β×Int->Option (β×Int⊕τ)}(l:List α)(f:β->α->β)(fin:β->τ)(I:Nat->β->Prop)
 (h1: ∀(i:Nat) x w,l[i]? =some x->I i w->step (w,(i:Int))=some (.inl (f w x,((i+1:Nat):Int)))/\I (i+1) (f w x))
 (h2: ∀w,I l.length w->step (w,(l.length:Int))=some (.inr (fin w))) (w:β) (h0:I 0 w):AR step (w,0)=some (fin (l.foldl f w)):=by
 have h:=E2 (step:=step) l (fun i w=>(w,(i:Int))) (fun _ w x=>(.inl (f w x):β⊕τ)) fin I (fun i x w hx hI=>⟨(h1 i x w hx hI).1,fun w' hw=>by cases hw;exact(h1 i x w hx hI).2⟩) h2 (l.length+1) 0 w (by omega) (by omega) h0
 rw [show(w,(0:Int))=(w,((0:Nat):Int))from rfl,h,List.drop_zero]
 congr 1
 clear h h1 h2 h0
 generalize 0=i
 revert i w
 induction l with
 |nil=>intro w i;rfl
 |cons x xs ih=>intro w i;rw [N6];exact ih _ _
def J3(k:Int)(w:List X0)(a:CH):List X0:=if a.kind=1/\a.value.kind=k then Mt w a.value else w
def DZ(q:AD)(k:Int):List X0:=q.symbols.foldl (fun w s=>s.args.foldl (J3 k) w) (if k=3 then [X0.mk 3 0 [] false,X0.mk 3 0 [] true]else [])
theorem I8{α β:Type}(I:Nat->β->Prop)(f:β->α->β): ∀(l:List α) (i:Nat) (w:β),(∀(j:Nat) x w,x∈l->I j w->I (j+1) (f w x))->I i w->I (i+l.length) (l.foldl f w)
 |[],i,w,_,h0=>h0
 |x::l,i,w,h,h0=>by
  rw [List.foldl_cons,List.length_cons,show i+(l.length+1)=(i+1)+l.length by omega];exact I8 I f l (i+1) _ (fun j y w hy=>h j y w (List.mem_cons_of_mem _ hy)) (h i x w (by simp) h0)
theorem M0(k:Int):SW (if k=3 then [X0.mk 3 0 [] false,X0.mk 3 0 [] true]else []):=by
 split;refine⟨?_, ?_⟩;simp [ltV];intro v hv;simp only [mc,List.not_mem_nil,or_false]at hv;rcases hv with rfl|rfl<;>decide
 exact⟨List.Pairwise.nil,by simp⟩
theorem Kv{k:Int}{w:List X0}{a:CH}{n:Nat}(ha:a.kind=1->vR a.value=true)(hw:SW w)(hl:w.length<=n):SW (J3 k w a)/\(J3 k w a).length<=n+1:=by unfold J3;split;rename_i h;have:=Ld hw (ha h.1);refine⟨this.1, ?_⟩;rw [this.2];split<;>omega;exact⟨hw,by omega⟩
theorem Kw{q:AD}(hF:Df q)(hR:Af q){s:X3}(hs:s∈q.symbols){k:Int}{w:List X0}{n:Nat}(hw:SW w)(hl:w.length<=n):SW (s.args.foldl (J3 k) w)/\(s.args.foldl (J3 k) w).length<=n+12:=by have h:=I8 (fun i w=>SW w/\w.length<=n+i) (J3 k) s.args 0 w (fun j a w ha hI=>Kv ((hR.symbols s hs).args a ha).one hI.1 hI.2) ⟨hw,by omega⟩;have:=hF.args s hs;exact⟨h.1,by omega⟩
theorem cons_inv{q:AD}(hF:Df q)(hR:Af q)(k:Int):SW (DZ q k)/\(DZ q k).length<=200:=by
 have h:=I8 (fun i w=>SW w/\w.length<=2+12*i) (fun w s=>s.args.foldl (J3 k) w) q.symbols 0 (if k=3 then [X0.mk 3 0 [] false,X0.mk 3 0 [] true]else [])
  (fun j s w hs hI=>by have:=Kw hF hR hs (k:=k) hI.1 hI.2;exact⟨this.1,by omega⟩) ⟨M0 k,by split<;>simp⟩
 have:=hF.symbols;exact⟨h.1,by unfold DZ;omega⟩
theorem aSq{q:AD}(hF:Df q)(hR:Af q)(k:Int):Xk q k=some (DZ q k):=by
 have hsy:=hF.symbols;have hb:TQ k (decide (k=3)) q=some (if k=3 then [X0.mk 3 0 [] false,X0.mk 3 0 [] true]else []):=by unfold TQ Qc;rw [Do];split;simp only [AB,Ri];rw [Lb (w:=[X0.mk 3 0 [] false]) ⟨by simp,by simp;decide⟩ (by decide) (by simp)];rfl;rfl
 have hin: ∀(s:X3) (i:Int) (w:List X0),s∈q.symbols->SW w->w.length<=200->aCi k q.symbols (q.symbols.length:Int) i s.args (s.args.length:Int) 0 w=some (s.args.foldl (J3 k) w):=by intro s i w hs hw hl;have ha:=hF.args s hs;unfold aCi;refine Db (step:=fun z:Int×List X0=>H8 k q.symbols (q.symbols.length:Int) i s.args (s.args.length:Int) z.1 z.2) s.args (J3 k) id (fun j w=>SW w/\w.length<=200+j) (fun j a w hx hI=> ?_) (fun w _=> ?_) w ⟨hw,by omega⟩;have hv:=((hR.symbols s hs).args a (List.mem_of_getElem? hx)).one;have hlt:=(List.getElem?_eq_some_iff.1 hx).1;refine⟨?_,Kv hv hI.1 hI.2⟩;simp only [H8,ltD hx,AI,aCf,AN hx,Ap hx (show s.args.length<=9223372036854775807 by omega),TS];unfold J3;by_cases h1:a.kind=1<;>by_cases h2:a.value.kind=k;rw [Do,if_pos h1,Do,if_pos h2,if_pos ⟨h1,h2⟩,Lb hI.1 (hv h1) (by have:=hI.2;omega)];rfl;rw [Do,if_pos h1,Do,if_neg h2,if_neg (fun h=>h2 h.2)];rfl;rw [Do,if_neg h1,if_neg (fun h=>h1 h.1)];rfl;rw [Do,if_neg h1,if_neg (fun h=>h1 h.1)];rfl;simp only [H8,ltI,AH,id]
 unfold Xk Qw aKy;rw [AB,hb,AB,Db (step:=fun z:Int×List X0=>H7 k q.symbols (q.symbols.length:Int) z.1 z.2) q.symbols (fun w s=>s.args.foldl (J3 k) w) id (fun j w=>SW w/\w.length<=2+12*j)
  (fun j s w hx hI=>by have hs:=List.mem_of_getElem? hx;have hlt:=(List.getElem?_eq_some_iff.1 hx).1;have:=Kw hF hR hs (k:=k) hI.1 hI.2;refine⟨?_,this.1,by omega⟩;simp only [H7,ltD hx,AI,AN hx,Ap hx (show q.symbols.length<=9223372036854775807 by omega)];rw [hin s _ w hs hI.1 (by have:=hI.2;omega)];rfl)
  (fun w _=>by simp only [H7,ltI,AH,id]) _ ⟨M0 k,by split<;>simp⟩,AB]
 have hc:=cons_inv hF hR k;show AJ (Qd (DZ q k)) _=_;rw [aOj (by omega)];rfl
theorem aO8{q:AD}(hF:Df q)(hR:Af q)(k:Int):Xj q k=some (DZ q k):=by
 have hsy:=hF.symbols;have hb:TK k (decide (k=3)) q=some (if k=3 then [X0.mk 3 0 [] false,X0.mk 3 0 [] true]else []):=by unfold TK;rw [Do];split<;>rfl
 have hin: ∀(s:X3) (i:Nat) (w:List X0),q.symbols[i]? =some s->SW w->w.length<=200->aCc k (i:Int) q w 0=some (s.args.foldl (J3 k) w):=by intro s i w hxs hw hl;have hs:=List.mem_of_getElem? hxs;have ha:=hF.args s hs;unfold aCc;refine G4 (step:=fun z:List X0×Int=>H6 k (i:Int) q z.1 z.2) s.args (J3 k) id (fun j w=>SW w/\w.length<=200+j) (fun j a w hx hI=> ?_) (fun w _=> ?_) w ⟨hw,by omega⟩;have hv:=((hR.symbols s hs).args a (List.mem_of_getElem? hx)).one;have hlt:=(List.getElem?_eq_some_iff.1 hx).1;refine⟨?_,Kv hv hI.1 hI.2⟩;simp only [H6,AN hxs,ltD hx,AI,aB9,AN hx,Ap hx (show s.args.length<=9223372036854775807 by omega),TL];unfold J3;by_cases h1:a.kind=1<;>by_cases h2:a.value.kind=k;rw [Do,if_pos h1,Do,if_pos h2,if_pos ⟨h1,h2⟩,aFe hI.1 (hv h1) (by have:=hI.2;omega)];rfl;rw [Do,if_pos h1,Do,if_neg h2,if_neg (fun h=>h2 h.2)];rfl;rw [Do,if_neg h1,if_neg (fun h=>h1 h.1)];rfl;rw [Do,if_neg h1,if_neg (fun h=>h1 h.1)];rfl;simp only [H6,AN hxs,ltI,AH,id]
 unfold Xj aKx;rw [hb,AB,G4 (step:=fun z:List X0×Int=>H5 k q z.1 z.2) q.symbols (fun w s=>s.args.foldl (J3 k) w) id (fun j w=>SW w/\w.length<=2+12*j)
  (fun j s w hx hI=>by have hs:=List.mem_of_getElem? hx;have hlt:=(List.getElem?_eq_some_iff.1 hx).1;have:=Kw hF hR hs (k:=k) hI.1 hI.2;refine⟨?_,this.1,by omega⟩;simp only [H5,ltD hx,AI,Ap hx (show q.symbols.length<=9223372036854775807 by omega)];rw [hin s j w hx hI.1 (by have:=hI.2;omega)];rfl)
  (fun w _=>by simp only [H5,ltI,AH,id]) _ ⟨M0 k,by split<;>simp⟩,AB]
 rfl
def GN(k:Int)(j:Nat):X0:=if k=1 then⟨k,(j:Int),[],false⟩else⟨k,0,List.replicate j 97,false⟩
theorem aH8{k:Int}{i j:Nat}(h:GN k i=GN k j):i=j:=by
 unfold GN at h;split at h;injection h with _ h2;omega
 injection h with _ _ h3
 have:=congrArg List.length h3;simpa using this
theorem MT(k:Int)(j:Nat):(GN k j).kind=k:=by unfold GN;split<;>rfl
theorem YA{k:Int}{j:Nat}(hk:k=1\/k=2)(hj:j<=1000):vR (GN k j)=true:=by
 unfold GN vR;rcases hk with rfl|rfl
 simp;simp;omega
theorem aJu{α:Type} [DecidableEq α](f:Nat->α)(hf: ∀i j,f i=f j->i=j): ∀(n:Nat) (l:List α),(∀i,i<n->f i∈l)->n<=l.length
 |0,_,_=>Nat.zero_le _
 |n+1,l,h=>by
  have hm:=h n (by omega);have:=aJu f hf n (l.erase (f n)) (fun i hi=>(List.mem_erase_of_ne (fun e=>by have:=hf _ _ e;omega)).2 (h i (by omega)));rw [List.length_erase_of_mem hm]at this;have:0<l.length:=List.length_pos_of_mem hm;omega
theorem aOl{w:List X0}{v:X0}(hw:SW w)(hv:vR v=true)(hl:w.length<=900):Qg w v=some (decide (v∈w)):=by unfold Qg;rw [aFe hw hv hl,AB,(Ld hw hv).2];by_cases h:v∈w;simp [h];simp only [h,if_false,decide_false,oe,decide_eq_false_iff_not];omega
theorem MU(k:Int)(j:Nat)(hk:k=1\/k=2)(hj:j<=1000)(l:List X0)(z:X0):Uc k l z (GN k j)=some (GN k (j+1))/\Uk k l z (GN k j)=some (GN k (j+1)):=by
 unfold Uc Uk aEc aEr GN;rcases hk with rfl|rfl
 simp only [if_true,decide_true,AI,AB];rw [Lj (by omega) (by omega)];simp;simp only [show¬(2:Int)=1 by decide,if_false,decide_false,AH,List.length_replicate];rw [Ak (by simp;omega)];simp [AJ,List.replicate_succ']
theorem PP{k:Int}(hk:k=1\/k=2){l w:List X0}(hl:l.length<=1000)(hw:SW w)(hwl:w.length<=900)(hm: ∀v,v.kind=k->(v∈w↔v∈l))(z:X0): ∀(m j:Nat),j+m<=900->(∃i,j<=i/\i<j+m/\GN k i∉l)-> ∃i,j<=i/\i<j+m/\GN k i∉l/\P7 k l z (GN k j)=some (GN k i)/\Ul k w z (GN k j)=some (GN k i)
 |0,j,_,⟨i,h1,h2,_⟩=>by omega
 |m+1,j,hj,⟨i,h1,h2,h3⟩=>by
  have e1:Q3 l (GN k j)=some (decide (GN k j∈l)):=Hb _ _ (by omega);have e2:Qg w (GN k j)=some (decide (GN k j∈l)):=by rw [aOl hw (YA hk (by omega)) hwl];simp only [hm _ (MT k j)]
  by_cases h:GN k j∈l;have hne:i≠j:=fun e=>h3 (e▸h);obtain⟨i',a1,a2,a3,a4,a5⟩:=PP hk hl hw hwl hm z m (j+1) (by omega) ⟨i,by omega,by omega,h3⟩;refine⟨i',by omega,by omega,a3, ?_, ?_⟩;rw [Ol];unfold IM;rw [e1,AB];simp only [h,decide_true,AI,(MU k j hk (by omega) l z).1,AB,BD];exact a4;rw [On];unfold IO;rw [e2,AB];simp only [h,decide_true,AI,(MU k j hk (by omega) w z).2,AB,BD];exact a5;refine⟨j,by omega,by omega,h, ?_, ?_⟩;rw [Ol];unfold IM;rw [e1,AB];simp only [h,decide_false,AH,Ad];rw [On];unfold IO;rw [e2,AB];simp only [h,decide_false,AH,Ad]
def EC(n:Nat)(p:Nat->Bool):Nat:=(List.range n).foldl (fun w i=>if p i=true then w|||2^i else w) 0
theorem J5(n:Nat)(p:Nat->Bool):EC (n+1) p=if p n=true then EC n p|||2^n else EC n p:=by unfold EC;rw [List.range_succ,List.foldl_append];rfl
theorem Ez(n:Nat)(p:Nat->Bool)(k:Nat):(EC n p).testBit k=true↔k<n/\p k=true:=by
 induction n with
 |zero=>simp [EC]
 |succ n ih=>
  rw [J5]
  split
  rename_i h
  rw [Nat.testBit_or,Nat.testBit_two_pow,Bool.or_eq_true,decide_eq_true_eq,ih]
  constructor
  rintro(⟨a,b⟩|rfl)
  exact⟨by omega,b⟩
  exact⟨by omega,h⟩
  rintro⟨a,b⟩
  by_cases hk:n=k
  exact .inr hk
  exact .inl ⟨by omega,b⟩
  rename_i h
  rw [ih]
  constructor
  rintro⟨a,b⟩;exact⟨by omega,b⟩
  rintro⟨a,b⟩
  refine⟨?_,b⟩
  by_cases hk:n=k
  subst hk;exact absurd b h
  omega
theorem HV(n:Nat)(p:Nat->Bool):EC n p<2^n:=Nat.lt_pow_two_of_testBit _ fun i hi=>by
 cases h:(EC n p).testBit i with
 |false=>rfl
 |true=>have:=(Ez n p i).1 h;omega
theorem Oy{a b:Nat}(h: ∀k,a.testBit k=true↔b.testBit k=true):a=b:=Nat.eq_of_testBit_eq fun i=>by rw [Bool.eq_iff_iff];exact h i
theorem MN{step:Int×Int->Option (Int×Int⊕Int)}{n:Nat}(hn:n<=12)(p:Nat->Bool)
 (h1: ∀i w:Nat,i<n->w<4096->step ((w:Int),(i:Int))=some (.inl (((if p i=true then w|||2^i else w:Nat):Int),((i+1:Nat):Int))))
 (h2: ∀w:Nat,step ((w:Int),(n:Int))=some (.inr (w:Int))):AR step (0,0)=some ((EC n p:Nat):Int):=by
 refine aH3 (fun s=> ∃i:Nat,i<=n/\s=(((EC i p:Nat):Int),(i:Int))) (fun s=>(n-s.2).toNat) (fun _=>((EC n p:Nat):Int)) ?_ (0,0) ⟨0,by omega,rfl⟩
 rintro s ⟨i,hi,rfl⟩
 by_cases he:i=n
 subst he;exact .inl (h2 _)
 have hlt:EC i p<4096:=Nat.lt_of_lt_of_le (HV i p) (show 2^i<=2^12 from Nat.pow_le_pow_right (by decide) (by omega))
 refine .inr ⟨_,h1 i (EC i p) (by omega) hlt,⟨i+1,by omega,by rw [J5]⟩, ?_,rfl⟩
 simp only;omega
def RY(b:List X2)(a:CH)(x:X0):Bool:=if a.kind=1 then decide (a.value=x)else if a.kind=2 then decide (D6 b a.n=(x,true))else true
theorem Mo{w b:List X2}(h:Dx w b=true){s:X2}(hs:s∈w):D6 b s.var=(s.value,true):=by unfold Dx at h;have:=(List.all_eq_true.1 h) s hs;simpa using this
theorem ZL{w b:List X2}{x:X2}:Dx (Nk w x) b=true↔D6 b x.var=(x.value,true)/\Dx w b=true:=by unfold Dx;simp only [List.all_eq_true,decide_eq_true_eq,ET];constructor;intro h;exact⟨h x (.inl rfl),fun s hs=>h s (.inr hs)⟩;rintro⟨h1,h2⟩ s (rfl|hs);exact h1;exact h2 s hs
theorem PA(b:List X2): ∀(al:List CH) (xs:List X0) (bd f:List X2),al.length=xs.length->(∀a∈al,a.kind≠3)->
 ((∃p,HK al xs bd f=some p/\Dx p.1 b=true)↔Dx bd b=true/\ ∀z∈al.zip xs,RY b z.1 z.2=true)
 |[],[],bd,f,_,_=>by simp [HK]
 |[],x::xs,bd,f,h,_=>by simp at h
 |a::al,[],bd,f,h,_=>by simp at h
 |a::al,x::xs,bd,f,hl,hk=>by
  have hl':al.length=xs.length:=by simpa using hl
  have hk': ∀a∈al,a.kind≠3:=fun y hy=>hk y (List.mem_cons_of_mem _ hy);have h3:=hk a (by simp);have ih:=fun bd f=>PA b al xs bd f hl' hk';rw [HK,List.zip_cons_cons];simp only [List.forall_mem_cons];unfold RY;by_cases k1:a.kind=1;rw [if_pos k1,if_pos k1];by_cases hv:a.value=x;rw [if_pos hv,ih];simp [hv,RY];rw [if_neg hv];simp [hv];rw [if_neg k1,if_neg k1];by_cases k2:a.kind=2;rw [if_pos k2,if_pos k2];unfold MZ;by_cases hg:(D6 bd a.n).2=true;simp only [hg,if_true];have hge:D6 bd a.n=((D6 bd a.n).1,true):=by rw [<-hg]
  by_cases hv:(D6 bd a.n).1=x;simp only [hv,if_true];rw [ih];constructor;rintro⟨u,z⟩;have:=Mo u (FN hge);simp only [hv]at this;exact⟨u,by simp [this],z⟩;rintro⟨u,_,z⟩;exact⟨u,z⟩;simp only [hv,if_false];constructor;rintro⟨p,hp,_⟩;cases hp;rintro⟨u,z,_⟩;have:=Mo u (FN hge);simp only [decide_eq_true_eq]at z;rw [z]at this;exact absurd (by simpa using this.symm) hv;simp only [hg,if_false,Bool.false_eq_true];rw [ih,ZL];simp only [decide_eq_true_eq];constructor;rintro⟨⟨h1,h2⟩,z⟩;exact⟨h2,h1,z⟩;rintro⟨h2,h1,z⟩;exact⟨⟨h1,h2⟩,z⟩;rw [if_neg k2,if_neg h3,if_neg k2,ih];simp [RY]
def Ni(q:AD)(b:List X2)(d:Nat)(args:List X0)(i:Nat):Bool:=match q.symbols[i]? with
 |some s=>decide (s.event=(d:Int))&&(s.args.zip args).all fun z=>RY b z.1 z.2
 |none=>false
def mkM(q:AD)(b:List X2)(d:Nat)(args:List X0):Nat:=EC q.symbols.length (Ni q b d args)
theorem RQ{q:AD}(hR:Af q)(hS:Ck q){s:X3}(hs:s∈q.symbols): ∀a∈s.args,a.kind≠3:=fun a ha h=>by have:=((hR.symbols s hs).args a ha).three h;rw [hS.frees]at this;simp at this;omega
theorem W2{q:AD}(hR:Af q){i j:Nat}{d d':Xd}(h1:q.decls[i]? =some d)(h2:q.decls[j]? =some d')(hn:d.name=d'.name):i=j:=by have a1:=hR.decls i d h1;have a2:=hR.decls j d' h2;rw [hn,a2]at a1;exact(Option.some.inj a1).symm
theorem XB{q:AD}(hR:Af q)(hS:Ck q)(b:List X2){e:X8}{d i:Nat}{dd:Xd}(hd:q.decls[d]? =some dd)(hn:e.name=dd.name)(hl:e.args.length=dd.types.length):
 (∃h,JD q i e=some h/\Dx h.bind b=true)↔Ni q b d e.args i=true:=by
 unfold JD Ni
 cases hs:q.symbols[i]? with
 |none=>simp
 |some s=>
  have hsm:=List.mem_of_getElem? hs
  obtain⟨d',hd',hlen⟩:=(hR.symbols s hsm).decl
  have h0:=(hR.symbols s hsm).event
  simp only [hd',ba,decide_eq_true_eq]
  by_cases he:s.event=(d:Int)
  have:s.event.toNat=d:=by omega
  rw [this,hd]at hd'
  cases hd'
  rw [if_pos ⟨hn.symm,by omega⟩]
  have:=PA b s.args e.args [] [] (by omega) (RQ hR hS hsm)
  rw [List.all_eq_true]
  constructor
  rintro⟨h,hh,hu⟩
  obtain⟨p,hp,rfl⟩:=om.1 hh
  exact⟨he,(this.1 ⟨p,hp,hu⟩).2⟩
  rintro⟨_,hz⟩
  obtain⟨p,hp,hu⟩:=this.2 ⟨by simp [Dx],hz⟩
  exact⟨_,by rw [hp];rfl,hu⟩
  constructor
  rintro⟨h,hh,_⟩
  split at hh
  rename_i hc
  have:=W2 hR hd' hd (by rw [hc.1,hn])
  omega
  cases hh
  rintro⟨h,_⟩;exact absurd h he
theorem aNq{q:AD}(hF:Df q)(hR:Af q)(hS:Ck q)(b:List X2){e:X8}{d:Nat}{dd:Xd}(hd:q.decls[d]? =some dd)(hn:e.name=dd.name)(hl:e.args.length=dd.types.length):
 Z0 (((List.range q.symbols.length).filterMap fun i=>JD q i e).filter fun h=>Dx h.bind b)=some ((mkM q b d e.args:Nat):Int):=by
 obtain⟨M,hM,_,hb⟩:=aJ9 hF.symbols (QY hF hR hS e b)
 rw [hM]
 congr 2
 apply Oy
 intro k
 rw [hb]
 unfold mkM
 rw [Ez]
 simp only [List.mem_filter,List.mem_filterMap,List.mem_range]
 constructor
 rintro⟨h,⟨⟨i,hi,hh⟩,hu⟩,hk⟩
 have hik:i=k:=by have:=(MD hh).1;omega
 subst hik
 exact⟨hi,(XB hR hS b hd hn hl).1 ⟨h,hh,hu⟩⟩
 rintro⟨hk,hf⟩
 obtain⟨h,hh,hu⟩:=(XB hR hS b hd hn hl).2 hf
 exact⟨h,⟨⟨k,hk,hh⟩,hu⟩,(MD hh).1⟩
theorem aQk{q:AD}(hF:Df q)(d:Nat):Yf q (d:Int)=some ((mkM q [] d []:Nat):Int):=by
 have hsy:=hF.symbols;have h:=MN (step:=fun s:Int×Int=>IU (d:Int) q.symbols (q.symbols.length:Int) s.1 s.2) hsy (Ni q [] d []) (fun i w hi hw=>by
  obtain⟨x,hx,_⟩:=AY hi;have hwi:IntKind.wrap .u64 (i:Int)=(i:Int):=Aw (by omega);simp only [IU,ltD hx,AI,aFg,AN hx,aFi,hwi,Ak (show(0:Int)<=(i:Int) by omega),Ap hx (show q.symbols.length<=9223372036854775807 by omega)];unfold Ni;rw [hx];by_cases he:x.event=(d:Int);simp only [he,decide_true,AI,AB,List.zip_nil_right,List.all_nil,Bool.and_self,if_true];rw [aIk (by omega),orU (by omega) (Nat.lt_of_lt_of_le (Nat.pow_lt_pow_right (by decide) (show i<12 by omega)) (by decide))];simp only [he,decide_false,AH,AB,Bool.false_and,Bool.false_eq_true,if_false]) (fun w=>by
  simp only [IU,ltI,AH])
 unfold Yf aLq;rw [h,AB];rfl
theorem aOk(b:List X2)(v:Int)(hb:b.length<=1000):Zb b v=some (D6 b v):=by
 have hl:=EF (step:=fun s=>In v b (b.length:Int) zV s) b (fun _ t=>if t.var=v then some (Sum.inr t.value:Unit⊕X0)else none) (.inl ())
  (fun i x hx=>by simp only [In,ltD hx,AI,AN hx,Ap hx (show b.length<=9223372036854775807 by omega)];by_cases h:x.var=v<;>simp [h,AE]) (by simp only [In,ltI,AH])
 unfold Zb aMb;have hz:(X0.mk 0 0 ([]:List UInt8) false)=zV:=rfl;rw [hz,hl,AB,Dc (fun t:X2=>if t.var=v then some (Sum.inr t.value:Unit⊕X0)else none)]
 unfold D6;have:(b.findSome? fun t=>if t.var=v then some (Sum.inr t.value:Unit⊕X0)else none)=(b.findSome? fun s=>if s.var=v then some s.value else none).map Sum.inr:=by
  clear hl hb;induction b with
  |nil=>rfl
  |cons x b ih=>
   rw [List.findSome?_cons,List.findSome?_cons]
   by_cases h:x.var=v
   simp [h]
   simp only [h,if_false];exact ih
 rw [this];cases(b.findSome? fun s=>if s.var=v then some s.value else none)<;>rfl
theorem aNf(p:Xp)(a:CH)(x:X0)(hb:p.b.length<=1000):Qq p a x=some (RY p.b a x):=by
 unfold Qq RY;rw [aOk _ _ hb];by_cases k1:a.kind=1;simp [k1,AE,X0.eqb_dec];by_cases k2:a.kind=2;simp only [k2,decide_true,AI,if_true,show¬(2:Int)=1 by decide,decide_false,AH,if_false,AB];cases hg:D6 p.b a.n with
 |mk v f=>cases f with
  |true=>simp [AE,X0.eqb_dec]
  |false=>simp [AE]
 simp [k1,k2,AE]
def HP(q:AD)(b:List X2)(d k:Nat)(v:X0)(i:Nat):Bool:=match q.symbols[i]? with
 |some s=>decide (s.event=(d:Int))&&(match s.args[k]? with
  |some a=>RY b a v
  |none=>false)
 |none=>false
theorem aN6{q:AD}(hF:Df q)(hR:Af q){b:List X2}(hb:b.length<=1000){d k:Nat}{dd:Xd}(hd:q.decls[d]? =some dd)(hk:k<dd.types.length)(v:X0):
 Ya (Xp.mk q b (d:Int) (k:Int)) v=some ((EC q.symbols.length (HP q b d k v):Nat):Int):=by
 have hsy:=hF.symbols
 have h:=MN (step:=fun s:Int×Int=>IS q.symbols (q.symbols.length:Int) (Xp.mk q b (d:Int) (k:Int)) v s.1 s.2) hsy (HP q b d k v) (fun i w hi hw=>by
  obtain⟨x,hx,_⟩:=AY hi;have hwi:IntKind.wrap .u64 (i:Int)=(i:Int):=Aw (by omega);have hxm:=List.mem_of_getElem? hx;simp only [IS,ltD hx,AI,aE6,AN hx,Uv,hwi,Ak (show(0:Int)<=(i:Int) by omega),Ap hx (show q.symbols.length<=9223372036854775807 by omega)];unfold HP;rw [hx];by_cases he:x.event=(d:Int);obtain⟨d',hd',hlen⟩:=(hR.symbols x hxm).decl;have:x.event.toNat=d:=by omega
  rw [this,hd]at hd';cases hd';obtain⟨a,ha,_⟩:=AY (l:=x.args) (i:=k) (by omega);simp only [he,decide_true,AI,AN ha,ha,Bool.true_and];rw [aNf (Xp.mk q b (d:Int) (k:Int)) a v hb,AB];cases RY b a v with
  |true=>
   simp only [AI,if_true,AB]
   rw [aIk (by omega),orU (by omega) (Nat.lt_of_lt_of_le (Nat.pow_lt_pow_right (by decide) (show i<12 by omega)) (by decide))]
  |false=>simp only [AH,Bool.false_eq_true,if_false,AB]
  simp only [he,decide_false,AH,AB,Bool.false_and,Bool.false_eq_true,if_false]) (fun w=>by
  simp only [IS,ltI,AH])
 unfold Ya aLn
 simp only
 rw [h,AB]
theorem ZQ{α β:Type}: ∀{al:List α} {xs:List β} {a:α} (v:β),al[xs.length]? =some a->al.zip (xs++[v])=al.zip xs++[(a,v)]
 |a::al,[],_,v,h=>by simp at h;subst h;simp
 |[],xs,_,v,h=>by simp at h
 |a::al,x::xs,a',v,h=>by
  simp only [List.length_cons,List.getElem?_cons_succ]at h;simp [ZQ v h]
theorem XV{q:AD}(hR:Af q){b:List X2}{d:Nat}{dd:Xd}(hd:q.decls[d]? =some dd){args:List X0}(hk:args.length<dd.types.length)(v:X0):
 mkM q b d args&&&EC q.symbols.length (HP q b d args.length v)=mkM q b d (args++[v]):=by
 apply Oy
 intro k
 unfold mkM
 rw [Nat.testBit_and,ba,Ez,Ez,Ez]
 unfold Ni HP
 cases hs:q.symbols[k]? with
 |none=>simp
 |some s=>
  have hxm:=List.mem_of_getElem? hs
  simp only [ba,decide_eq_true_eq]
  by_cases he:s.event=(d:Int)
  obtain⟨d',hd',hlen⟩:=(hR.symbols s hxm).decl
  have:s.event.toNat=d:=by omega
  rw [this,hd]at hd';cases hd'
  obtain⟨a,ha,_⟩:=AY (l:=s.args) (i:=args.length) (by omega)
  rw [ZQ v ha,List.all_append,ha]
  simp [he]
  constructor
  rintro⟨⟨h1,h2⟩,_,h3⟩;exact⟨h1,h2,h3⟩
  rintro⟨h1,h2,h3⟩;exact⟨⟨h1,h2⟩,h1,h3⟩
  simp [he]
theorem aJq(q:AD)(b:List X2)(d:Nat):mkM q b d []=mkM q [] d []:=by unfold mkM;congr 1;funext i;unfold Ni;cases q.symbols[i]? <;>simp
theorem aOp{k:Int}(hk:k=1\/k=2){l w:List X0}(hl:l.length<=800)(hw:SW w)(hwl:w.length<=900)(hm: ∀v,v.kind=k->(v∈w↔v∈l)): ∃v,Y2 k l=some (v,true)/\Y5 k w=some v/\v∉l/\v.kind=k/\vR v=true:=by
 have hex: ∃i,0<=i/\i<0+(l.length+1)/\GN k i∉l:=by apply Classical.byContradiction;intro hn;have:=aJu (GN k) (fun i j h=>aH8 h) (l.length+1) l (fun i hi=>Classical.byContradiction fun h=>hn ⟨i,by omega,by omega,h⟩);omega
 obtain⟨i,_,hi,hni,a4,a5⟩:=PP hk (by omega) hw hwl hm (X0.mk 0 0 [] false) (l.length+1) 0 (by omega) hex;have h0:GN k 0=X0.mk k 0 [] false:=by unfold GN;split<;>rfl
 rw [h0]at a4 a5;refine⟨GN k i, ?_, ?_,hni,MT k i,YA hk (by omega)⟩;unfold Y2;rcases hk with rfl|rfl
 simp only [decide_true,Bool.not_true,AH,a4,AB];simp only [show¬(2:Int)=1 by decide,decide_false,decide_true,Bool.not_false,Bool.not_true,AI,AH,a4,AB];unfold Y5;rw [a5,AB]
theorem I3{q:AD}{k:Int}{v:X0}:v∈DZ q k↔(k=3/\(v=⟨3,0,[],false⟩\/v=⟨3,0,[],true⟩))\/ ∃s∈q.symbols,∃a∈s.args,a.kind=1/\a.value.kind=k/\v=a.value:=by
 have h1: ∀(l:List CH) (w:List X0),v∈l.foldl (J3 k) w↔v∈w\/ ∃a∈l,a.kind=1/\a.value.kind=k/\v=a.value:=by
  intro l;induction l with
  |nil=>intro w;simp
  |cons a l ih=>
   intro w
   rw [List.foldl_cons,ih]
   have:v∈J3 k w a↔v∈w\/(a.kind=1/\a.value.kind=k/\v=a.value):=by unfold J3;split;rename_i h;rw [FU];simp [h.1,h.2,or_comm];rename_i h;constructor;exact .inl;rintro(h2|⟨a1,a2,_⟩);exact h2;exact absurd ⟨a1,a2⟩ h
   rw [this]
   constructor
   rintro((h|h)|⟨b,hb,h⟩)
   exact .inl h
   exact .inr ⟨a,by simp,h⟩
   exact .inr ⟨b,List.mem_cons_of_mem _ hb,h⟩
   rintro(h|⟨b,hb,h⟩)
   exact .inl (.inl h)
   rcases mc.1 hb with rfl|hb
   exact .inl (.inr h)
   exact .inr ⟨b,hb,h⟩
 have h2: ∀(l:List X3) (w:List X0),v∈l.foldl (fun w s=>s.args.foldl (J3 k) w) w↔v∈w\/ ∃s∈l,∃a∈s.args,a.kind=1/\a.value.kind=k/\v=a.value:=by
  intro l;induction l with
  |nil=>intro w;simp
  |cons a l ih=>
   intro w
   rw [List.foldl_cons,ih,h1]
   constructor
   rintro((h|h)|⟨b,hb,h⟩)
   exact .inl h
   exact .inr ⟨a,by simp,h⟩
   exact .inr ⟨b,List.mem_cons_of_mem _ hb,h⟩
   rintro(h|⟨b,hb,h⟩)
   exact .inl (.inl h)
   rcases mc.1 hb with rfl|hb
   exact .inl (.inr h)
   exact .inr ⟨b,hb,h⟩
 unfold DZ;rw [h2];by_cases hk:k=3;simp [hk];simp [hk]
theorem QT{q:AD}{k:Int}{v:X0}(h:v∈DZ q k):v.kind=k:=by
 rcases I3.1 h with⟨rfl,rfl|rfl⟩|⟨s,_,a,_,_,hk,rfl⟩
 rfl;rfl;exact hk
theorem Re{l:List X0}(hl:l.length<=1000):Xi [l,[]]=some l:=by
 have h1:TD [l,[]] [l,[]] 2 0 0=some (l.length:Int):=by
  rw [Ka];unfold Gd TB TC;rw [show decide ((0:Int)<2)=true from rfl,AI,XC,Lj (a:=0) (b:=(l.length:Int)) (by omega) (by omega),decide_eq_false (by omega),AH,AB,AB,BD];simp only;rw [Ka];unfold Gd TB TC;have e1:AA .add .i64 0 1=1:=Lj (a:=0) (b:=1) (by omega) (by omega);have e2:AA .add .i64 1 1=2:=Lj (a:=1) (b:=1) (by omega) (by omega);rw [e1,show decide ((1:Int)<2)=true from rfl,AI,aJn];have e3:AA .add .i64 (0+(l.length:Int)) (([]:List X0).length:Int)=(l.length:Int):=by rw [Lj (by simp<;>omega) (by simp<;>omega)];simp
  rw [e3,decide_eq_false (by omega),AH,AB,AB,BD,e2];simp only;rw [Ka];unfold Gd;rw [show decide ((2:Int)<2)=false from rfl,AH,Ad]
 have h2:TG [l,[]] 2 0 []=some l:=by have e1:AA .add .i64 0 1=1:=Lj (a:=0) (b:=1) (by omega) (by omega);have e2:AA .add .i64 1 1=2:=Lj (a:=1) (b:=1) (by omega) (by omega);rw [Kb];unfold Ge;rw [show decide ((0:Int)<2)=true from rfl,AI,XC,Ak (By (by simp;omega) (by decide)),BD,e1];simp only [List.nil_append];rw [Kb];unfold Ge;rw [show decide ((1:Int)<2)=true from rfl,AI,aJn,Ak (By (by simp;omega) (by decide)),BD,e2];simp only [List.append_nil];rw [Kb];unfold Ge;rw [show decide ((2:Int)<2)=false from rfl,AH,Ad]
 unfold Xi;have hln:(([l,[]]:List (List X0)).length:Int)=2:=rfl;rw [hln,h1,AB];have hg:Qy (l.length:Int)=some []:=by unfold Qy aHr;rw [if_pos ⟨by omega,by simp;omega,by omega⟩]
 rw [hg,AB,h2,AB]
def LV(t:Int)(w:List X0)(s:X2):List X0:=if s.value.kind=t/\s.value∉w then w++[s.value]else w
def Jl(t:Int)(w:List X0)(s:X2):List X0:=if s.value.kind=t then Mt w s.value else w
theorem O1(t:Int)(v:X0): ∀(b:List X2) (w:List X0),v∈b.foldl (LV t) w↔v∈w\/ ∃s∈b,s.value=v/\v.kind=t
 |[],w=>by simp
 |s::b,w=>by
  rw [List.foldl_cons,O1 t v b];have:v∈LV t w s↔v∈w\/(s.value=v/\v.kind=t):=by unfold LV;split;rename_i h;simp only [ma,List.mem_singleton];constructor;rintro(h2|rfl);exact .inl h2;exact .inr ⟨rfl,h.1⟩;rintro(h2|⟨rfl,_⟩);exact .inl h2;exact .inr rfl;rename_i h;constructor;exact .inl;rintro(h2|⟨rfl,h3⟩);exact h2;exact Classical.byContradiction fun hn=>h ⟨h3,hn⟩
  rw [this];simp only [mc,exists_eq_or_imp];rw [or_assoc]
theorem FE(t:Int)(v:X0): ∀(b:List X2) (w:List X0),v∈b.foldl (Jl t) w↔v∈w\/ ∃s∈b,s.value=v/\v.kind=t
 |[],w=>by simp
 |s::b,w=>by
  rw [List.foldl_cons,FE t v b];have:v∈Jl t w s↔v∈w\/(s.value=v/\v.kind=t):=by unfold Jl;split;rename_i h;rw [FU];constructor;rintro(rfl|h2);exact .inr ⟨rfl,h⟩;exact .inl h2;rintro(h2|⟨rfl,_⟩);exact .inr h2;exact .inl rfl;rename_i h;constructor;exact .inl;rintro(h2|⟨rfl,h3⟩);exact h2;exact absurd h3 h
  rw [this];simp only [mc,exists_eq_or_imp];rw [or_assoc]
theorem Wr(t:Int)(w:List X0)(s:X2):(LV t w s).length<=w.length+1:=by unfold LV;split<;>simp
theorem O0(t:Int): ∀(b:List X2) (w:List X0),(b.foldl (LV t) w).length<=w.length+b.length
 |[],w=>by simp
 |s::b,w=>by
  rw [List.foldl_cons];have h1:=O0 t b (LV t w s);have h2:(LV t w s).length<=w.length+1:=by unfold LV;split<;>simp
  simp only [List.length_cons];omega
theorem O2{t:Int}: ∀{b:List X2} {w:List X0},(∀s∈b,vR s.value=true)->SW w->SW (b.foldl (Jl t) w)/\(b.foldl (Jl t) w).length<=w.length+b.length
 |[],w,_,hw=>⟨hw,by simp⟩
 |s::b,w,hb,hw=>by
  rw [List.foldl_cons];have h2:SW (Jl t w s)/\(Jl t w s).length<=w.length+1:=by unfold Jl;split;have:=Ld hw (hb s (by simp));exact⟨this.1,by rw [this.2];split<;>omega⟩;exact⟨hw,by omega⟩
  have h1:=O2 (t:=t) (fun s hs=>hb s (List.mem_cons_of_mem _ hs)) h2.1;refine⟨h1.1, ?_⟩;simp only [List.length_cons];omega
theorem vR3{v:X0}(hv:vR v=true)(hk:v.kind=3):v=⟨3,0,[],false⟩\/v=⟨3,0,[],true⟩:=by
 obtain⟨k,i,s,b⟩:=v;simp only at hk;subst hk;rcases HZ hv with h|h|h
 simp at h;simp at h;obtain⟨_,h2,h3⟩:=h;simp only at h2 h3;subst h2;subst h3;cases b<;>simp
structure aSd(q:AD)(b:List X2)(t:Int)(jl rl:List X0):Prop where
 same: ∀v,v∈jl↔v∈rl
 jlen:jl.length<=300
 rlen:rl.length<=300
 kind: ∀v∈rl,v.kind=t/\vR v=true
 whole: ∀v,vR v=true->v.kind=t-> ∃v'∈rl,∀s∈q.symbols,∀a∈s.args,RY b a v'=RY b a v
theorem ZO{q:AD}(hF:Df q)(hR:Af q){b:List X2}(hB:BR b){d k:Nat}{dd:Xd}{t:Int}(hd:q.decls[d]? =some dd)(ht:dd.types[k]? =some t)(h13:1<=t/\t<=3):
 ∃jl rl,Y1 (Xp.mk q b (d:Int) (k:Int)) []=some jl/\Y8 q t b []=some rl/\aSd q b t jl rl:=by
 have hbl:=Rb hB
 have hbv: ∀s∈b,vR s.value=true:=fun s hs=>(hB.2 s hs).2.2
 obtain⟨hcw,hcl⟩:=cons_inv hF hR t
 have hjl:=O0 t b (DZ q t)
 have hG:=O2 (t:=t) hbv hcw
 have hmem: ∀v,v∈b.foldl (Jl t) (DZ q t)↔v∈b.foldl (LV t) (DZ q t):=fun v=>by rw [FE,O1]
 have hkind: ∀v∈b.foldl (Jl t) (DZ q t),v.kind=t:=fun v hv=>by
  rcases(FE t v b _).1 hv with h|⟨s,_,_,h⟩
  exact QT h;exact h
 --the program's loop over the binding
 have e1:aD9 [] t b (b.length:Int) 0 (DZ q t)=some (b.foldl (LV t) (DZ q t)):=by unfold aD9;refine Db (step:=fun s:Int×List X0=>IL [] t b (b.length:Int) s.1 s.2) b (LV t) (fun w=>w) (fun i w=>w.length<=200+i) (fun i x w hx hI=> ?_) (fun w _=>by simp only [IL,ltI,AH]) _ (by omega);have hlt:=(List.getElem?_eq_some_iff.1 hx).1;refine⟨?_,by have:=Wr t w x;omega⟩;simp only [IL,ltD hx,AI,aD6,UZ,AN hx,Ap hx (show b.length<=9223372036854775807 by omega)];unfold LV;by_cases h1:x.value.kind=t;rw [Do,if_pos h1,Hb _ _ (by omega),AB];by_cases h2:x.value∈w;rw [decide_eq_true h2,if_neg (fun h=>h.2 h2)];rfl;rw [decide_eq_false h2,if_pos ⟨h1,h2⟩,Bool.not_false,AI,Ak (By (by simp;omega) (by decide))];rfl;rw [Do,if_neg h1,if_neg (fun h=>h1 h.1)];rfl
 have e2:aEz t b [] (DZ q t) 0=some (b.foldl (Jl t) (DZ q t)):=by unfold aEz;refine G4 (step:=fun s:List X0×Int=>IQ t b [] s.1 s.2) b (Jl t) (fun w=>w) (fun i w=>SW w/\w.length<=200+i) (fun i x w hx hI=> ?_) (fun w _=>by simp only [IQ,ltI,AH]) _ ⟨hcw,by omega⟩;have hlt:=(List.getElem?_eq_some_iff.1 hx).1;have hxv:=hbv x (List.mem_of_getElem? hx);have hput:=Ld hI.1 hxv;refine⟨?_, ?_⟩;simp only [IQ,ltD hx,AI,aEv,aEx,AN hx,Ap hx (show b.length<=9223372036854775807 by omega)];unfold Jl;by_cases h1:x.value.kind=t;rw [Do,if_pos h1,if_pos h1,aFe hI.1 hxv (by have:=hI.2;omega)];rfl;rw [Do,if_neg h1,if_neg h1];rfl;unfold Jl;split;refine⟨hput.1, ?_⟩;rw [hput.2];have:=hI.2;split<;>omega;exact⟨hI.1,by have:=hI.2;omega⟩
 have eJ:Y1 (Xp.mk q b (d:Int) (k:Int)) []=(AJ (Y2 t (b.foldl (LV t) (DZ q t))) fun r11=>AJ (P6 r11.2 (b.foldl (LV t) (DZ q t)) r11.1) fun o12=>some o12):=by unfold Y1;simp only;rw [AN hd,AN ht,aSq hF hR,AB,e1,AB,Re (by omega),AB]
 by_cases h3:t=3
 subst h3
 have hN:Y2 3 (b.foldl (LV 3) (DZ q 3))=some (X0.mk 0 0 [] false,false):=by unfold Y2;rfl
 refine⟨_,_,by rw [eJ,hN,AB];unfold P6;rfl, ?_,fun v=>(hmem v).symm,by omega,by omega,fun v hv=>⟨hkind v hv,hG.1.2 v hv⟩,fun v hv hk=>⟨v, ?_,fun _ _ _ _=>rfl⟩⟩
 unfold Y8
 rw [aO8 hF hR,AB,e2,AB];rfl
 rw [FE]
 exact .inl (I3.2 (.inl ⟨rfl,vR3 hv hk⟩))
 have h12:t=1\/t=2:=by omega
 obtain⟨nv,n1,n2,n3,n4,n5⟩:=aOp h12 (l:=b.foldl (LV t) (DZ q t)) (w:=b.foldl (Jl t) (DZ q t)) (by omega) hG.1 (by omega) (fun v _=>hmem v)
 have hput:=Ld hG.1 n5
 refine⟨b.foldl (LV t) (DZ q t)++[nv],Mt (b.foldl (Jl t) (DZ q t)) nv, ?_, ?_,fun v=> ?_,by simp;omega,by rw [hput.2];split<;>omega,fun v hv=> ?_,fun v hv hk=> ?_⟩
 rw [eJ,n1,AB]
 unfold P6
 simp only
 rw [AI,Ak (By (by simp;omega) (by decide)),AB]
 unfold Y8
 have hof:Yg [] t=some []:=by unfold Yg;rw [aFo];unfold Kf;rfl
 have hun:Yy (b.foldl (Jl t) (DZ q t)) []=some (b.foldl (Jl t) (DZ q t)):=by unfold Yy;rw [aGd];unfold Ki;rfl
 rw [aO8 hF hR,AB,e2,AB,decide_eq_false h3,AH,hof,AB,hun,AB,n2,AB,aFe hG.1 n5 (by omega),AB]
 rw [FU,hmem,ma,List.mem_singleton,or_comm]
 rcases FU.1 hv with rfl|h
 exact⟨n4,n5⟩
 exact⟨hkind v h,hG.1.2 v h⟩
 by_cases hin:v∈b.foldl (Jl t) (DZ q t)
 exact⟨v,FU.2 (.inr hin),fun _ _ _ _=>rfl⟩
 refine⟨nv,FU.2 (.inl rfl),fun s hs a ha=> ?_⟩
 have hnv:nv∉b.foldl (Jl t) (DZ q t):=fun h=>n3 ((hmem nv).1 h)
 have key: ∀x:X0,(x.kind=t->x∈b.foldl (Jl t) (DZ q t))->x≠v/\x≠nv:=fun x hx=>by refine⟨fun e=>hin (e▸hx (by rw [e];exact hk)),fun e=>hnv (e▸hx (by rw [e];exact n4))⟩
 unfold RY
 by_cases k1:a.kind=1
 have:=key a.value (fun h=>(FE t _ b _).2 (.inl (I3.2 (.inr ⟨s,hs,a,ha,k1,h,rfl⟩))))
 rw [if_pos k1,if_pos k1,decide_eq_false this.1,decide_eq_false this.2]
 rw [if_neg k1,if_neg k1]
 by_cases k2:a.kind=2
 rw [if_pos k2,if_pos k2]
 cases hg:D6 b a.n with
 |mk x f=>
  cases f with
  |false=>simp
  |true=>
   have:=key x (fun h=>(FE t _ b _).2 (.inr ⟨_,FN hg,rfl,h⟩))
   rw [decide_eq_false (fun e=>this.2 (by simpa using e)),decide_eq_false (fun e=>this.1 (by simpa using e))]
 rw [if_neg k2,if_neg k2]
structure KS(S:List (Int×Bool))(P:Nat->Prop):Prop where
 nd:(S.map (·.1)).Nodup
 tr: ∀x∈S,x.2=true
 is: ∀x:Int,x∈S.map (·.1)↔ ∃n:Nat,x=(n:Int)/\P n
theorem XZ{α β:Type}(f:α->β): ∀{l:List α},(l.map f).Nodup->l.Nodup
 |[],_=>List.nodup_nil
 |a::l,h=>by
  rw [List.map_cons,List.nodup_cons]at h;exact List.nodup_cons.2 ⟨fun hm=>h.1 (mm.2 ⟨a,hm,rfl⟩),XZ f h.2⟩
theorem KS.perm{S S':List (Int×Bool)}{P:Nat->Prop}(h:KS S P)(h':KS S' P):S.Perm S':=by
 rw [List.perm_ext_iff_of_nodup (XZ _ h.nd) (XZ _ h'.nd)];have key: ∀{A B:List (Int×Bool)},KS A P->KS B P-> ∀a∈A,a∈B:=fun{A B} hA hB a ha=>by obtain⟨b,hb,e⟩:=mm.1 ((hB.is a.1).2 ((hA.is a.1).1 (mm.2 ⟨a,ha,rfl⟩)));have:b=a:=Prod.ext e (by rw [hB.tr b hb,hA.tr a ha]);exact this▸hb
 exact fun a=>⟨key h h' a,key h' h a⟩
theorem KS.of_perm{S S':List (Int×Bool)}{P:Nat->Prop}(h:KS S P)(hp:S'.Perm S):KS S' P:=
 ⟨(hp.map _).nodup_iff.2 h.nd,fun x hx=>h.tr x (hp.mem_iff.1 hx),fun x=>by rw [(hp.map _).mem_iff,h.is]⟩
theorem KS.can{S S':List (Int×Bool)}{P:Nat->Prop}(h:KS S P)(h':KS S' P):aH0 S=aH0 S':=by have h1:=h.of_perm (F5 S);have h2:=h'.of_perm (F5 S');refine List.Perm.eq_of_pairwise (le:=fun a b:Int×Bool=>a.1<=b.1) (fun a b ha hb e1 e2=> ?_) (JH S) (JH S') (h1.perm h2);exact Prod.ext (by omega) (by rw [h1.tr a ha,h2.tr b hb])
theorem KS.congr{S:List (Int×Bool)}{P Q:Nat->Prop}(h:KS S P)(hq: ∀n,P n↔Q n):KS S Q:=⟨h.nd,h.tr,fun x=>by rw [h.is];simp only [hq]⟩
theorem KS.nil:KS [] (fun _=>False):=⟨List.nodup_nil,(fun x hx=>by cases hx),fun x=>by simp⟩
theorem JR(k:Int)(v:Bool)(x:Int): ∀S:List (Int×Bool),x∈(GF k v S).map (·.1)↔x=k\/x∈S.map (·.1)
 |[]=>by simp [GF]
 |y::S=>by
  rw [GF];split;rename_i h;simp [h];rename_i h;simp only [List.map_cons,mc,JR k v x S];constructor;rintro(h|h|h);exact .inr (.inl h);exact .inl h;exact .inr (.inr h);rintro(h|h|h);exact .inr (.inl h);exact .inl h;exact .inr (.inr h)
theorem YK(k:Int)(v:Bool): ∀{S:List (Int×Bool)},(S.map (·.1)).Nodup->((GF k v S).map (·.1)).Nodup
 |[],_=>by simp [GF]
 |y::S,h=>by
  rw [List.map_cons,List.nodup_cons]at h;rw [GF];split;rename_i e;rw [List.map_cons,List.nodup_cons];exact⟨by rw [<-e];exact h.1,h.2⟩;rename_i e;rw [List.map_cons,List.nodup_cons];refine⟨fun hm=> ?_,YK k v h.2⟩;rcases(JR k v y.1 S).1 hm with h2|h2
  exact e h2;exact h.1 h2
theorem YM(k:Int): ∀{S:List (Int×Bool)},(∀x∈S,x.2=true)-> ∀x∈GF k true S,x.2=true
 |[],_,x,hx=>by simp [GF]at hx;rw [hx]
 |y::S,h,x,hx=>by
  rw [GF]at hx;split at hx;rcases mc.1 hx with rfl|hx
  rfl;exact h x (List.mem_cons_of_mem _ hx);rcases mc.1 hx with rfl|hx
  exact h _ (by simp);exact YM k (fun z hz=>h z (List.mem_cons_of_mem _ hz)) x hx
theorem KS.put{S:List (Int×Bool)}{P:Nat->Prop}(h:KS S P)(m:Nat):KS (GF (m:Int) true S) (fun n=>P n\/n=m):=by refine⟨YK _ _ h.nd,YM _ h.tr,fun x=> ?_⟩;rw [JR,h.is];constructor;rintro(rfl|⟨n,rfl,hn⟩);exact⟨m,rfl,.inr rfl⟩;exact⟨n,rfl,.inl hn⟩;rintro⟨n,rfl,hn|rfl⟩;exact .inr ⟨n,rfl,hn⟩;exact .inl rfl
theorem Lz(k x:Int): ∀{S:List (Int×Bool)},(S.map (·.1)).Nodup->(x∈(Nc k S).map (·.1)↔x≠k/\x∈S.map (·.1))
 |[],_=>by simp [Nc]
 |y::S,h=>by
  rw [List.map_cons,List.nodup_cons]at h;rw [Nc];split;rename_i e;rw [List.map_cons,mc];constructor;intro hx;exact⟨fun e2=>h.1 (by rw [e,<-e2];exact hx),.inr hx⟩;rintro⟨h1,h2|h2⟩;exact absurd (h2.trans e) h1;exact h2;rename_i e;rw [List.map_cons,mc,List.map_cons,mc,Lz k x h.2];constructor;rintro(h1|⟨h1,h2⟩);exact⟨fun e2=>e (h1.symm.trans e2),.inl h1⟩;exact⟨h1,.inr h2⟩;rintro⟨h1,h2|h2⟩;exact .inl h2;exact .inr ⟨h1,h2⟩
theorem K5(k:Int): ∀(S:List (Int×Bool)),(Nc k S).Sublist S
 |[]=>List.Sublist.refl _
 |y::S=>by
  rw [Nc];split;exact List.sublist_cons_self _ _;exact(K5 k S).cons_cons y
theorem KS.del{S:List (Int×Bool)}{P:Nat->Prop}(h:KS S P):KS (Nc 0 S) (fun n=>P n/\n≠0):=by refine⟨h.nd.sublist ((K5 0 S).map _),fun x hx=>h.tr x ((K5 0 S).subset hx),fun x=> ?_⟩;rw [Lz 0 x h.nd,h.is];constructor;rintro⟨h1,n,rfl,hn⟩;exact⟨n,rfl,hn,by omega⟩;rintro⟨n,rfl,hn,h0⟩;exact⟨by omega,n,rfl,hn⟩
theorem L9{α σ:Type}(f:σ->α->σ): ∀(l:List α) (s:σ),Ef (fun x s=>some (f s x)) s l=some (l.foldl f s)
 |[],_=>rfl
 |x::l,s=>by rw [Ef,AB,List.foldl_cons];exact L9 f l _
theorem KS.fold{P:Nat->Prop}(f:Nat->Nat): ∀{p:List (Int×Bool)} {S:List (Int×Bool)} {Q:Nat->Prop},(∀x∈p,∃n:Nat,x.1=(n:Int)/\P n)->KS S Q->
 KS (p.foldl (fun s x=>GF ((f x.1.toNat:Nat):Int) true s) S) (fun n=>Q n\/ ∃x∈p,n=f x.1.toNat)
 |[],S,Q,_,h=>h.congr fun n=>by simp
 |x::p,S,Q,hp,h=>by
  rw [List.foldl_cons];refine(KS.fold f (fun y hy=>hp y (List.mem_cons_of_mem _ hy)) (h.put (f x.1.toNat))).congr fun n=> ?_;simp only [mc,exists_eq_or_imp];rw [or_assoc]
theorem L5{S0 S:List (Int×Bool)}{P Q:Nat->Prop}(f:Nat->Nat){c:List (Int×Bool)->List (Int×Bool)}(hc:c=fun s=>aH0 s){step:Int×Bool->List (Int×Bool)->Option (List (Int×Bool))}
 (hs: ∀(n:Nat) (v:Bool) (s:List (Int×Bool)),P n->step ((n:Int),v) s=some (GF ((f n:Nat):Int) true s)) (h0:KS S0 P) (h:KS S Q):
 ∃S',F3 c S0 step S=some S'/\KS S' (fun n=>Q n\/ ∃m,P m/\n=f m):=by
 have run: ∀p:List (Int×Bool),p.Perm S0->Ef step S p=some (p.foldl (fun s x=>GF ((f x.1.toNat:Nat):Int) true s) S)/\KS (p.foldl (fun s x=>GF ((f x.1.toNat:Nat):Int) true s) S) (fun n=>Q n\/ ∃m,P m/\n=f m):=fun p hp=>by
  have hk:=h0.of_perm hp;have hx: ∀x∈p,∃n:Nat,x.1=(n:Int)/\P n:=fun x hx=>(hk.is x.1).1 (mm.2 ⟨x,hx,rfl⟩);constructor;rw [<-L9 (fun s x=>GF ((f x.1.toNat:Nat):Int) true s) p S];clear hp hk;revert hx;generalize S=s;revert s;induction p with
  |nil=>intro s _;rfl
  |cons x p ih=>
   intro s hx
   obtain⟨n,e,hn⟩:=hx x (by simp)
   obtain⟨x1,x2⟩:=x
   simp only at e
   subst e
   rw [Ef,Ef,hs n x2 s hn]
   exact ih _ fun y hy=>hx y (List.mem_cons_of_mem _ hy)
  refine(KS.fold f hx h).congr fun n=> ?_;constructor;rintro(h1|⟨x,hxp,rfl⟩);exact .inl h1;obtain⟨m,e,hm⟩:=hx x hxp;exact .inr ⟨m,hm,by rw [e];rfl⟩;rintro(h1|⟨m,hm,rfl⟩);exact .inl h1;obtain⟨x,hxp,e⟩:=mm.1 ((hk.is (m:Int)).2 ⟨m,rfl,hm⟩);exact .inr ⟨x,hxp,by rw [e];rfl⟩
 obtain⟨r0,k0⟩:=run S0 (List.Perm.refl _)
 refine⟨aH0 (S0.foldl (fun s x=>GF ((f x.1.toNat:Nat):Int) true s) S),L4 fun p hp=> ?_,k0.of_perm (F5 _)⟩
 obtain⟨r1,k1⟩:=run p hp
 exact⟨_,r1,by rw [hc];exact k1.can k0⟩
def VS(q:AD)(b:List X2)(t:Int)(v:X0):Prop:= ∃rl,Y8 q t b []=some rl/\v∈rl
def MS(q:AD)(b:List X2)(d:Nat)(dd:Xd)(k n:Nat):Prop:= ∃args:List X0,args.length=k/\(∀(j:Nat) v t,args[j]? =some v->dd.types[j]? =some t->VS q b t v)/\n=mkM q b d args
theorem aJ6{q:AD}(hF:Df q){b:List X2}{d:Nat}{dd:Xd}{k n:Nat}(h:MS q b d dd k n):n<4096:=by obtain⟨args,_,_,rfl⟩:=h;have:=hF.symbols;exact Nat.lt_of_lt_of_le (HV _ _) (show 2^q.symbols.length<=2^12 from Nat.pow_le_pow_right (by decide) this)
theorem aJ8{q:AD}{b:List X2}{d:Nat}{dd:Xd}{n:Nat}:MS q b d dd 0 n↔n=mkM q [] d []:=by constructor;rintro⟨args,hl,_,rfl⟩;rw [List.eq_nil_of_length_eq_zero hl,aJq];rintro rfl;exact⟨[],rfl,(fun j v t h=>by simp at h),(aJq q b d).symm⟩
theorem aJ7{q:AD}(hR:Af q){b:List X2}{d k:Nat}{dd:Xd}{t:Int}(hd:q.decls[d]? =some dd)(ht:dd.types[k]? =some t){n:Nat}:
 MS q b d dd (k+1) n↔ ∃v,VS q b t v/\ ∃m,MS q b d dd k m/\n=m&&&EC q.symbols.length (HP q b d k v):=by
 have hk:=(List.getElem?_eq_some_iff.1 ht).1
 constructor
 rintro⟨args,hl,hv,rfl⟩
 obtain⟨v,hvk,_⟩:=AY (l:=args) (i:=k) (by omega)
 have hsplit:args=args.take k++[v]:=by have h1:args.take (k+1)=args:=List.take_of_length_le (by omega);rw [List.take_add_one,hvk]at h1;exact h1.symm
 have hlt:(args.take k).length=k:=by rw [List.length_take];omega
 refine⟨v,hv k v t hvk ht,_,⟨args.take k,hlt,fun j w t' hj ht'=>hv j w t' ?_ ht',rfl⟩, ?_⟩
 rw [hsplit,List.getElem?_append_left ((List.getElem?_eq_some_iff.1 hj).1)];exact hj
 have:=XV hR (b:=b) hd (args:=args.take k) (by omega) v
 rw [hlt]at this
 rw [this,<-hsplit]
 rintro⟨v,hv,m,⟨args,hl,ha,rfl⟩,rfl⟩
 refine⟨args++[v],by simp [hl],fun j w t' hj ht'=> ?_, ?_⟩
 by_cases hj2:j<args.length
 rw [List.getElem?_append_left hj2]at hj;exact ha j w t' hj ht'
 have hj3:=(List.getElem?_eq_some_iff.1 hj).1
 simp at hj3
 have:j=k:=by omega
 subst this
 rw [<-hl,List.getElem?_append_right (Nat.le_refl _)]at hj
 simp at hj
 subst hj
 rw [ht]at ht';cases ht'
 exact hv
 rw [<-hl];exact XV hR hd (by omega) v
theorem ZJ{q:AD}{d:Nat}{dd:Xd}(hT: ∀d∈q.decls,∀t∈d.types,(1:Int)<=t/\t<=3)(hd:q.decls[d]? =some dd){k:Nat}{t:Int}(ht:dd.types[k]? =some t):1<=t/\t<=3:=
 hT dd (List.mem_of_getElem? hd) t (List.mem_of_getElem? ht)
theorem XX{q:AD}(hF:Df q)(hR:Af q)(hT: ∀d∈q.decls,∀t∈d.types,(1:Int)<=t/\t<=3){b:List X2}(hB:BR b){d k:Nat}{dd:Xd}{t:Int}(hd:q.decls[d]? =some dd)(ht:dd.types[k]? =some t){S0:List (Int×Bool)}(h0:KS S0 (MS q b d dd k)):
 ∃S',Xl (Xp.mk q b (d:Int) (k:Int)) S0=some S'/\KS S' (MS q b d dd (k+1)):=by
 have hbl:=Rb hB
 have hk:=(List.getElem?_eq_some_iff.1 ht).1
 obtain⟨jl,rl,hj,hr,hV⟩:=ZO hF hR hB hd ht (ZJ hT hd ht)
 have hsy:=hF.symbols
 have hW: ∀v,EC q.symbols.length (HP q b d k v)<4096:=fun v=>Nat.lt_of_lt_of_le (HV _ _) (show 2^q.symbols.length<=2^12 from Nat.pow_le_pow_right (by decide) hsy)
 obtain⟨S',hS,hK⟩:=BE (step:=fun s:Int×List (Int×Bool)=>H9 jl (jl.length:Int) S0 (Xp.mk q b (d:Int) (k:Int)) s.1 s.2)
  (fun s=> ∃i:Nat,s.1=(i:Int)/\i<=jl.length/\KS s.2 (fun n=> ∃v∈jl.take i,∃m,MS q b d dd k m/\n=m&&&EC q.symbols.length (HP q b d k v)))
  (fun s=>(jl.length-s.1).toNat)
  (fun S'=>KS S' (fun n=> ∃v∈jl,∃m,MS q b d dd k m/\n=m&&&EC q.symbols.length (HP q b d k v)))
  (by
   rintro⟨s,S⟩ ⟨i,rfl,hi,hS⟩;simp only at hS⊢;have hjl:=hV.jlen;by_cases he:i=jl.length;subst he;rw [List.take_length]at hS;exact .inl ⟨S,by simp only [H9,ltI,AH],hS⟩;right;obtain⟨x,hx,_⟩:=AY (l:=jl) (i:=i) (by omega);obtain⟨S2,e2,k2⟩:=L5 (f:=fun m=>m&&&EC q.symbols.length (HP q b d k x)) (S:=S) (c:=Kc ((EC q.symbols.length (HP q b d k x):Nat):Int) jl (jl.length:Int) (i:Int) S0 (Xp.mk q b (d:Int) (k:Int))) rfl
    (step:=fun(x_1:Int×Bool) (s:List (Int×Bool))=>Gh ((EC q.symbols.length (HP q b d k x):Nat):Int) jl (jl.length:Int) (i:Int) S0 (Xp.mk q b (d:Int) (k:Int)) x_1.1 x_1.2 s)
    (fun n v s hn=>by simp only [Gh];have h1:=aJ6 hF hn;have h2:=hW x;rw [aUz (by omega) (by omega)]) h0 hS
   refine⟨(((i+1:Nat):Int),S2), ?_,⟨i+1,rfl,by omega,k2.congr fun n=> ?_⟩,by simp only;omega⟩;simp only [H9,ltD hx,AI,AN hx,Ap hx (show jl.length<=9223372036854775807 by omega)];rw [aN6 hF hR (by omega) hd hk x,AB];unfold aCk aK0;rw [e2,AB,AB];rw [List.take_add_one,hx];simp only [Option.toList_some,ma,List.mem_singleton];constructor;rintro(⟨v,hv,h⟩|⟨m,hm,h⟩);exact⟨v,.inl hv,h⟩;exact⟨x,.inr rfl,m,hm,h⟩;rintro⟨v,hv|rfl,h⟩;exact .inl ⟨v,hv,h⟩;obtain⟨m,hm,h⟩:=h;exact .inr ⟨m,hm,h⟩)
  ((0:Int),[]) ⟨0,rfl,by omega,KS.nil.congr fun n=>by simp⟩
 refine⟨S', ?_,hK.congr fun n=> ?_⟩
 unfold Xl aKz
 rw [hj,AB,hS,AB]
 rw [aJ7 hR hd ht]
 constructor
 rintro⟨v,hv,h⟩;exact⟨v,⟨rl,hr,(hV.same v).1 hv⟩,h⟩
 rintro⟨v,⟨rl',hr',hv⟩,h⟩
 rw [hr]at hr';cases hr'
 exact⟨v,(hV.same v).2 hv,h⟩
def DS(q:AD)(b:List X2)(i n:Nat):Prop:= ∃d dd,d<i/\q.decls[d]? =some dd/\MS q b d dd dd.types.length n
theorem aNa{q:AD}(hF:Df q)(hR:Af q)(hT: ∀d∈q.decls,∀t∈d.types,(1:Int)<=t/\t<=3){b:List X2}(hB:BR b){d:Nat}{dd:Xd}(hd:q.decls[d]? =some dd)(h3:dd.types.length<=8)(s15:Int)(w5:List (Int×Bool)):
 ∃S',aKe b (d:Int) s15 (d:Int) (dd.types.length:Int) q w5 0 (GF ((mkM q [] d []:Nat):Int) true [])=some S'/\KS S' (MS q b d dd dd.types.length):=by
 obtain⟨S',hS,hK⟩:=BE (step:=fun s:Int×List (Int×Bool)=>Hf b (d:Int) s15 (d:Int) (dd.types.length:Int) q w5 s.1 s.2)
  (fun s=> ∃k:Nat,s.1=(k:Int)/\k<=dd.types.length/\KS s.2 (MS q b d dd k)) (fun s=>(dd.types.length-s.1).toNat) (fun S'=>KS S' (MS q b d dd dd.types.length))
  (by rintro⟨s,S⟩ ⟨k,rfl,hk,hS⟩;simp only at hS⊢;by_cases he:k=dd.types.length;subst he;exact .inl ⟨S,by simp only [Hf,ltI,AH],hS⟩;right;obtain⟨t,ht,_⟩:=AY (l:=dd.types) (i:=k) (by omega);obtain⟨S2,e2,k2⟩:=XX hF hR hT hB hd ht hS;refine⟨(((k+1:Nat):Int),S2), ?_,⟨k+1,rfl,by omega,k2⟩,by simp only;omega⟩;simp only [Hf,ltD ht,AI,Ap ht (show dd.types.length<=9223372036854775807 by omega)];rw [e2,AB])
  ((0:Int),GF ((mkM q [] d []:Nat):Int) true []) ⟨0,rfl,by omega,(KS.nil.put (mkM q [] d [])).congr fun n=>by rw [aJ8];simp⟩
 exact⟨S',hS,hK⟩
theorem aQa{q:AD}(hF:Df q)(hR:Af q)(hT: ∀d∈q.decls,∀t∈d.types,(1:Int)<=t/\t<=3)(h3: ∀d∈q.decls,d.types.length<=3){b:List X2}(hB:BR b):
 ∃S',aKd b (q.decls.length:Int) q 0 []=some S'/\KS S' (DS q b q.decls.length):=by
 have hdl:=hF.decls
 obtain⟨S',hS,hK⟩:=BE (step:=fun s:Int×List (Int×Bool)=>He b (q.decls.length:Int) q s.1 s.2)
  (fun s=> ∃i:Nat,s.1=(i:Int)/\i<=q.decls.length/\KS s.2 (DS q b i)) (fun s=>(q.decls.length-s.1).toNat) (fun S'=>KS S' (DS q b q.decls.length))
  (by
   rintro⟨s,S⟩ ⟨i,rfl,hi,hS⟩;simp only at hS⊢;by_cases he:i=q.decls.length;subst he;exact .inl ⟨S,by simp only [He,ltI,AH],hS⟩;right;obtain⟨dd,hd,_⟩:=AY (l:=q.decls) (i:=i) (by omega);obtain⟨S2,e2,k2⟩:=aNa hF hR hT hB hd (by have:=h3 dd (List.mem_of_getElem? hd);omega) (q.decls.length:Int) S;obtain⟨S3,e3,k3⟩:=L5 (f:=fun m=>m) (S:=S) (c:=KY b (q.decls.length:Int) (i:Int) q S2) rfl
    (step:=fun(x_1:Int×Bool) (s:List (Int×Bool))=>Hg b (q.decls.length:Int) (i:Int) q S2 x_1.1 x_1.2 s) (fun n v s hn=>rfl) k2 hS
   refine⟨(((i+1:Nat):Int),S3), ?_,⟨i+1,rfl,by omega,k3.congr fun n=> ?_⟩,by simp only;omega⟩;simp only [He,ltD hd,AI,AN hd,Ap hd (show q.decls.length<=9223372036854775807 by omega)];rw [aQk hF,AB,e2,AB];unfold aAc aKf;rw [e3,AB,AB];constructor;rintro(⟨d,d2,h1,h2,h3⟩|⟨m,hm,rfl⟩);exact⟨d,d2,by omega,h2,h3⟩;exact⟨i,dd,by omega,hd,hm⟩;rintro⟨d,d2,h1,h2,h3⟩;by_cases hdi:d=i;subst hdi;rw [hd]at h2;cases h2;exact .inr ⟨n,h3,rfl⟩;exact .inl ⟨d,d2,by omega,h2,h3⟩)
  ((0:Int),[]) ⟨0,rfl,by omega,KS.nil.congr fun n=>⟨fun h=>h.elim,fun⟨d,_,h,_⟩=>by omega⟩⟩
 exact⟨S',hS,hK⟩
structure RS(L:List Int)(P:Nat->Prop):Prop where
 up:L.Pairwise (· < ·)
 is: ∀x:Int,x∈L↔ ∃n:Nat,x=(n:Int)/\P n
theorem RS.uniq{L M:List Int}{P:Nat->Prop}(h:RS L P)(k:RS M P):L=M:=by
 have nd: ∀{A:List Int},A.Pairwise (· < ·)->A.Nodup:=fun h=>h.imp fun h=>by omega
 exact Fv (h.up.imp fun h=>by omega) (k.up.imp fun h=>by omega) ((List.perm_ext_iff_of_nodup (nd h.up) (nd k.up)).2 fun x=>by rw [h.is,k.is])
theorem RS.len{L:List Int}{P:Nat->Prop}{m:Nat}(h:RS L P)(hP: ∀n,P n->n<m):L.length<=m:=by
 have h1:L.Nodup:=h.up.imp fun h=>by omega
 have:=h1.length_le_of_subset (l₂:=(List.range m).map (fun n:Nat=>(n:Int))) fun x hx=>by obtain⟨n,rfl,hn⟩:=(h.is x).1 hx;exact mm.2 ⟨n,List.mem_range.2 (hP n hn),rfl⟩
 simpa using this
def aKc(q:AD)(b:List X2)(n:Nat):Prop:=DS q b q.decls.length n/\n≠0
theorem M1{q:AD}(hF:Df q){b:List X2}{n:Nat}(h:aKc q b n):n<4096:=by obtain⟨⟨d,dd,_,_,hm⟩,_⟩:=h;exact aJ6 hF hm
theorem aVc{S:List (Int×Bool)}{P:Nat->Prop}(h:KS S P)(hl:S.length<=4096): ∃w,aKh S []=some w/\w.Perm (S.map (·.1)):=by
 have run: ∀(p:List (Int×Bool)) (w:List Int),p.length+w.length<=4096->Ef (fun(x:Int×Bool) (s:List Int)=>Fi S x.1 x.2 s) w p=some (w++p.map (·.1)):=by
  intro p;induction p with
  |nil=>intro w _;simp [Ef]
  |cons x p ih=>
   intro w hw
   rw [List.length_cons]at hw
   have e:Fi S x.1 x.2 w=some (w++[x.1]):=by unfold Fi;exact Ak (By (by simp;omega) (by decide)) _
   rw [Ef,e,AB,ih _ (by simp;omega)]
   simp
 refine⟨aIi (S.map (·.1)),L4 fun p hp=>⟨_,run p [] (by rw [hp.length_eq];simp;omega), ?_⟩,EH _⟩
 show aIi ([]++p.map (·.1))=aIi (S.map (·.1))
 rw [List.nil_append];exact Fv (Eo _) (Eo _) ((EH _).trans ((hp.map _).trans (EH _).symm))
theorem aSe{q:AD}(hF:Df q)(hR:Af q)(hT: ∀d∈q.decls,∀t∈d.types,(1:Int)<=t/\t<=3)(h3: ∀d∈q.decls,d.types.length<=3){b:List X2}(hB:BR b):
 ∃L,X4 q b=some L/\RS L (aKc q b):=by
 obtain⟨S,e1,k1⟩:=aQa hF hR hT h3 hB
 have k2:KS (Nc 0 S) (aKc q b):=k1.del
 have hlen:(Nc 0 S).length<=4096:=by
  have:=k2.nd.length_le_of_subset (l₂:=(List.range 4096).map (fun n:Nat=>(n:Int))) fun x hx=>by obtain⟨n,rfl,hn⟩:=(k2.is x).1 hx;exact mm.2 ⟨n,List.mem_range.2 (M1 hF hn),rfl⟩
  simpa using this
 obtain⟨w,e2,p2⟩:=aVc k2 hlen
 have hsort:=aAa (w:=w) (l:=aIi w) (by rw [p2.length_eq];simp;omega) (Eo w) (EH w)
 refine⟨aIi w, ?_, ?_,fun x=> ?_⟩
 unfold X4
 rw [e1,AB]
 unfold aAe
 rw [e2,AB,AB,hsort,AB]
 have hnd:(aIi w).Nodup:=((EH w).trans p2).nodup_iff.2 k2.nd
 exact List.Pairwise.imp (fun h=>by have h1:=h.1;have h2:=h.2;omega) ((Eo w).and hnd)
 rw [((EH w).trans p2).mem_iff,k2.is]
def EvP(q:AD)(b:List X2)(dd:Xd)(args:List X0)(e:X8):Prop:=
 ∃tail:List X0,args.length+tail.length=dd.types.length/\(∀(j:Nat) v t,tail[j]? =some v->dd.types[args.length+j]? =some t->VS q b t v)/\e=X8.mk dd.name (args++tail)
theorem ZV{q:AD}{b:List X2}{dd:Xd}{args:List X0}(hl:args.length=dd.types.length)(e:X8):EvP q b dd args e↔e=X8.mk dd.name args:=by constructor;rintro⟨tail,h1,_,rfl⟩;rw [List.eq_nil_of_length_eq_zero (show tail.length=0 by omega),List.append_nil];rintro rfl;exact⟨[],by simpa using hl,(fun j v t h=>by simp at h),by rw [List.append_nil]⟩
theorem ZW{q:AD}{b:List X2}{dd:Xd}{args:List X0}{t:Int}(ht:dd.types[args.length]? =some t)(e:X8):EvP q b dd args e↔ ∃v,VS q b t v/\EvP q b dd (args++[v]) e:=by
 have hk:=(List.getElem?_eq_some_iff.1 ht).1;constructor;rintro⟨tail,h1,h2,rfl⟩;cases tail with
 |nil=>simp at h1;omega
 |cons v tail=>
  refine⟨v,h2 0 v t rfl ht,tail,by simp at h1⊢;omega,fun j w t' hj ht'=> ?_,by simp⟩
  refine h2 (j+1) w t' (by simpa using hj) ?_
  rw [<-ht'];congr 1;simp;omega
 rintro⟨v,hv,tail,h1,h2,rfl⟩;refine⟨v::tail,by simp at h1⊢;omega,fun j w t' hj ht'=> ?_,by simp⟩;cases j with
 |zero=>
  simp at hj ht'
  subst hj
  rw [ht]at ht';cases ht'
  exact hv
 |succ j=>
  refine h2 j w t' (by simpa using hj) ?_
  rw [<-ht'];congr 1;simp;omega
theorem N1{r:Nat}(h:r<=3):300^r<=27000000:=by
 have:r=0\/r=1\/r=2\/r=3:=by omega
 rcases this with rfl|rfl|rfl|rfl<;>decide
theorem W7{q:AD}(hF:Df q)(hR:Af q)(hT: ∀d∈q.decls,∀t∈d.types,(1:Int)<=t/\t<=3){b:List X2}(hB:BR b){d:Nat}{dd:Xd}(hd:q.decls[d]? =some dd)(h3:dd.types.length<=3):
 ∀(n r:Nat) (args:List X0),r<n->args.length+r=dd.types.length-> ∃evs,aI3 n q (d:Int) b [] args=some evs/\(∀e,e∈evs↔EvP q b dd args e)/\evs.length<=300^r:=by
 intro n
 induction n with
 |zero=>intro r args h;omega
 |succ n ih=>
  intro r args hr hl
  show∃evs,aPf (aI3 n) q (d:Int) b [] args=some evs/\_
  unfold aPf
  rw [AN hd]
  cases r with
  |zero=>
   refine⟨[X8.mk dd.name args], ?_,fun e=> ?_,by simp⟩
   rw [decide_eq_true (by omega),AI,AN hd]
   rw [ZV (by omega),List.mem_singleton]
  |succ r=>
   obtain⟨t,ht,_⟩:=AY (l:=dd.types) (i:=args.length) (by omega)
   obtain⟨jl,rl,_,hrl,hV⟩:=ZO hF hR hB hd ht (ZJ hT hd ht)
   have hc:=N1 (r:=r) (by omega)
   have hp:300^(r+1)=300*300^r:=by rw [Nat.pow_succ,Nat.mul_comm]
   have hlp:300^(r+1)<=27000000:=N1 (by omega)
   obtain⟨evs,e1,e2,e3⟩:=BE (step:=fun s:Int×List X8=>IP (aI3 n) (d:Int) b [] args rl q s.1 s.2)
    (fun s=> ∃i:Nat,s.1=(i:Int)/\i<=rl.length/\(∀e,e∈s.2↔ ∃v∈rl.take i,EvP q b dd (args++[v]) e)/\s.2.length<=i*300^r)
    (fun s=>(rl.length-s.1).toNat) (fun evs=>(∀e,e∈evs↔ ∃v∈rl,EvP q b dd (args++[v]) e)/\evs.length<=rl.length*300^r)
    (by rintro⟨s,w⟩ ⟨i,rfl,hi,hm,hw⟩;simp only at hm hw⊢;by_cases he:i=rl.length;subst he;rw [List.take_length]at hm;exact .inl ⟨w,by simp only [IP,ltI,AH],hm,hw⟩;right;obtain⟨x,hx,_⟩:=AY (l:=rl) (i:=i) (by omega);obtain⟨ev,f1,f2,f3⟩:=ih r (args++[x]) (by omega) (by simp;omega);have hrlen:=hV.rlen;have hi3:i*300^r<=300*300^r:=Nat.mul_le_mul_right _ (by omega);refine⟨(((i+1:Nat):Int),w++ev), ?_,⟨i+1,rfl,by omega,fun e=> ?_, ?_⟩,by simp only;omega⟩;simp only [IP,ltD hx,AI,AN hx,Ap hx (show rl.length<=9223372036854775807 by omega),List.nil_append];rw [Ak (By (by simp;omega) (by decide)),Ak (By (by simp;omega) (by decide)),f1,AB,Ak (By (by omega) (by decide))];rw [List.take_add_one,hx,ma,hm,f2];simp only [Option.toList_some,ma,List.mem_singleton];constructor;rintro(⟨v,hv,h⟩|h);exact⟨v,.inl hv,h⟩;exact⟨x,.inr rfl,h⟩;rintro⟨v,hv|rfl,h⟩;exact .inl ⟨v,hv,h⟩;exact .inr h;simp only [List.length_append];rw [Nat.succ_mul];omega)
    ((0:Int),[]) ⟨0,rfl,by omega,fun e=>by simp,by simp⟩
   have e1':aLl (aI3 n) (d:Int) b [] args rl q 0 []=some evs:=e1
   refine⟨evs, ?_,fun e=> ?_, ?_⟩
   rw [decide_eq_false (by omega),AH,AN hd,AN ht,hrl,AB,e1',AB]
   rw [e2,ZW ht]
   constructor
   rintro⟨v,hv,h⟩;exact⟨v,⟨rl,hrl,hv⟩,h⟩
   rintro⟨v,⟨rl',h1,hv⟩,h⟩
   rw [hrl]at h1;cases h1
   exact⟨v,hv,h⟩
   have:=hV.rlen
   have h1:rl.length*300^r<=300*300^r:=Nat.mul_le_mul_right _ this
   omega
theorem aQp(L:List Int)(x:Int)(hl:L.length<=5000): ∀k,k<=L.length->(∀i,k<=i->i<L.length->x<ga L i)-> ∃j:Nat,VR L x (k:Int)=some (j:Int)/\j<=k/\(∀i,j<=i->i<L.length->x<ga L i)/\(0<j->ga L (j-1)<=x):=by
 intro k;induction k with
 |zero=>
  intro hk hg
  refine⟨0, ?_,Nat.le_refl _,hg,fun h=>by omega⟩
  rw [Ot]
  unfold IZ
  rw [decide_eq_false (by omega),AH,Ad]
 |succ k ih=>
  intro hk hg
  rw [Ot]
  unfold IZ
  rw [decide_eq_true (by omega),AI,Dm (by omega),Nat.add_sub_cancel,Es (by omega)]
  by_cases h:x<ga L k
  obtain⟨j,e1,e2,e3,e4⟩:=ih (by omega) (fun i h1 h2=>by by_cases hi:i=k;subst hi;exact h;exact hg i (by omega) h2)
  exact⟨j,by rw [decide_eq_true h,AI,BD];exact e1,by omega,e3,e4⟩
  refine⟨k+1,by rw [decide_eq_false h,AH,Ad],Nat.le_refl _,hg,fun _=> ?_⟩
  rw [Nat.add_sub_cancel];omega
theorem RS.put{L:List Int}{P:Nat->Prop}(h:RS L P)(hl:L.length<=4500)(m:Nat): ∃L',Yq L (m:Int)=some L'/\RS L' (fun n=>P n\/n=m):=by
 obtain⟨j,e1,e2,e3,e4⟩:=aQp L (m:Int) (by omega) L.length (Nat.le_refl _) (fun i h1 h2=>by omega);have hup: ∀p q,p<q->q<L.length->ga L p<ga L q:=fun p q h1 h2=>by have:=(List.pairwise_iff_getElem.1 h.up) p q (by omega) h2 h1;rwa [I9,I9]at this
 unfold Yq;rw [e1,AB];by_cases hin:0<j/\ga L (j-1)=(m:Int);refine⟨L, ?_,h.up,fun x=> ?_⟩;rw [decide_eq_true (by omega),AI,Dm (by omega),Es (by omega),decide_eq_true hin.2,AI];rw [h.is];constructor;rintro⟨n,rfl,hn⟩;exact⟨n,rfl,.inl hn⟩;rintro⟨n,rfl,hn|rfl⟩;exact⟨n,rfl,hn⟩;have:((n:Nat):Int)∈L:=by rw [<-hin.2,<-I9 (show j-1<L.length by omega)];exact List.getElem_mem _
 exact(h.is _).1 this;have hlow: ∀i,i<j->ga L i<(m:Int):=fun i hi=>by have h1:=e4 (by omega);have h2:ga L (j-1)≠(m:Int):=fun e=>hin ⟨by omega,e⟩;by_cases hij:i=j-1;subst hij;omega;have:=hup i (j-1) (by omega) (by omega);omega
 have hrun:(AW ((0:Int)<=0/\(0:Int)<=(j:Int)/\(j:Int)<=(L.length:Int)) (AW (fit ([]:List Int).length (sub L 0 (j:Int)).length 8) (AW (fit (([]:List Int)++(sub L 0 (j:Int))).length [(m:Int)].length 8) (AW ((0:Int)<=(j:Int)/\((j:Int):Int)<=(L.length:Int)/\(L.length:Int)<=(L.length:Int)) (AW (fit ((([]:List Int)++(sub L 0 (j:Int)))++[(m:Int)]).length (sub L (j:Int) (L.length:Int)).length 8) (some (((([]:List Int)++(sub L 0 (j:Int)))++[(m:Int)])++(sub L (j:Int) (L.length:Int)))))))):Option (List Int))=some (L.take j++(m:Int)::L.drop j):=by
  have s1:sub L 0 (j:Int)=L.take j:=by have:=ZC L 0 j;simpa using this
  rw [s1,ZB,Ak ⟨by omega,by omega,by omega⟩,Ak (By (by simp;omega) (by decide)),Ak (By (by simp;omega) (by decide)),Ak ⟨by omega,by omega,by omega⟩,Ak (By (by simp;omega) (by decide))];simp
 refine⟨L.take j++(m:Int)::L.drop j, ?_, ?_,fun x=> ?_⟩;by_cases hj:0<j;rw [decide_eq_true (by omega),AI,Dm (by omega),Es (by omega),decide_eq_false (fun e=>hin ⟨hj,e⟩),AH];exact hrun;rw [decide_eq_false (by omega),AH];exact hrun;rw [List.pairwise_append,List.pairwise_cons];refine⟨h.up.sublist (List.take_sublist _ _),⟨fun a ha=> ?_,h.up.sublist (List.drop_sublist _ _)⟩,fun a ha c hc=> ?_⟩;obtain⟨i,hi⟩:=List.mem_iff_getElem?.1 ha;rw [List.getElem?_drop]at hi;obtain⟨h1,h2⟩:=List.getElem?_eq_some_iff.1 hi;rw [<-h2,I9];exact e3 _ (by omega) h1;obtain⟨i,hi⟩:=List.mem_iff_getElem?.1 ha;rw [List.getElem?_take]at hi;split at hi;rename_i hij;obtain⟨h1,h2⟩:=List.getElem?_eq_some_iff.1 hi;have ha':a<(m:Int):=by rw [<-h2,I9];exact hlow i hij
 rcases mc.1 hc with rfl|hc
 exact ha';obtain⟨k,hk⟩:=List.mem_iff_getElem?.1 hc;rw [List.getElem?_drop]at hk;obtain⟨g1,g2⟩:=List.getElem?_eq_some_iff.1 hk;have:(m:Int)<c:=by rw [<-g2,I9];exact e3 _ (by omega) g1
 omega;cases hi;have hmem:x∈L↔x∈L.take j\/x∈L.drop j:=by rw [<-ma,List.take_append_drop]
 rw [ma,mc];constructor;rintro(h1|rfl|h1);obtain⟨n,rfl,hn⟩:=(h.is x).1 (hmem.2 (.inl h1));exact⟨n,rfl,.inl hn⟩;exact⟨m,rfl,.inr rfl⟩;obtain⟨n,rfl,hn⟩:=(h.is x).1 (hmem.2 (.inr h1));exact⟨n,rfl,.inl hn⟩;rintro⟨n,rfl,hn|rfl⟩;rcases hmem.1 ((h.is _).2 ⟨n,rfl,hn⟩)with h1|h1
 exact .inl h1;exact .inr (.inr h1);exact .inr (.inl rfl)
theorem RS.congr{L:List Int}{P Q:Nat->Prop}(h:RS L P)(hq: ∀n,P n↔Q n):RS L Q:=⟨h.up,fun x=>by rw [h.is];simp only [hq]⟩
theorem aHu{q:AD}(hF:Df q)(hR:Af q){i:Nat}{e:X8}{h:Aq}(hh:JD q i e=some h):h.bind.length<=12:=by unfold JD at hh;split at hh;cases hh;rename_i s hs;split at hh;cases hh;split at hh;have hsm:=List.mem_of_getElem? hs;obtain⟨p,hp,rfl⟩:=om.1 hh;have:=I7 s.args e.args [] [] p (aV1 hF hR hsm) ⟨List.Pairwise.nil,by simp⟩ ⟨List.Pairwise.nil,by simp⟩ (fun s hs=>by simp at hs) hp;have h12:=hF.args s hsm;have:=this.2.2.2.1;simp at this;simp only;omega;cases hh
theorem aP6{q:AD}(hF:Df q)(hR:Af q)(hS:Ck q){b:List X2}(hB:BR b){d:Nat}{dd:Xd}(hd:q.decls[d]? =some dd)(args:List X0)(hl:args.length=dd.types.length):
 ∃l1 l2,Y9 q (X8.mk dd.name args)=some l1/\Yb l1 b=some l2/\Z0 l2=some ((mkM q b d args:Nat):Int):=by
 have hsy:=hF.symbols
 have hbl:=Rb hB
 have hlen:((List.range q.symbols.length).filterMap fun i=>JD q i (X8.mk dd.name args)).length<=1000:=by have h2:=List.length_filterMap_le (fun i=>JD q i (X8.mk dd.name args)) (List.range q.symbols.length);rw [List.length_range]at h2;omega
 have hbind: ∀h∈(List.range q.symbols.length).filterMap (fun i=>JD q i (X8.mk dd.name args)),h.bind.length<=9223372036854775807:=fun h hh=>by obtain⟨i,hi,hh2⟩:=List.mem_filterMap.1 hh;have:=aHu hF hR hh2;omega
 exact⟨_,_,aTh hF hR,aTk hlen hbind (by omega),aNq hF hR hS b hd rfl hl⟩
theorem aU9{q:AD}(hF:Df q)(hR:Af q)(hS:Ck q){b:List X2}(hB:BR b){d:Nat}{dd:Xd}(hd:q.decls[d]? =some dd){evs:List X8}(hev: ∀e,e∈evs↔EvP q b dd [] e)(hel:evs.length<=27000000){L:List Int}(hL:RS L (fun n=>DS q b d n/\n≠0)):
 ∃L',aK3 b (d:Int) evs q L 0=some L'/\RS L' (fun n=>DS q b (d+1) n/\n≠0):=by
 have hDS: ∀{i n},DS q b i n->n<4096:=fun⟨_,_,_,_,hm⟩=>aJ6 hF hm
 obtain⟨L',e1,e2⟩:=BE (step:=fun s:List Int×Int=>Gi b (d:Int) evs q s.1 s.2)
  (fun s=> ∃i:Nat,s.2=(i:Int)/\i<=evs.length/\RS s.1 (fun n=>(DS q b d n/\n≠0)\/ ∃e∈evs.take i,n=mkM q b d e.args/\n≠0))
  (fun s=>(evs.length-s.2).toNat) (fun L'=>RS L' (fun n=>(DS q b d n/\n≠0)\/ ∃e∈evs,n=mkM q b d e.args/\n≠0))
  (by
   rintro⟨w,s⟩ ⟨i,rfl,hi,hw⟩;simp only at hw⊢;by_cases he:i=evs.length;subst he;rw [List.take_length]at hw;exact .inl ⟨w,by simp only [Gi,ltI,AH],hw⟩;right;obtain⟨x,hx,_⟩:=AY (l:=evs) (i:=i) (by omega);obtain⟨tail,t1,_,rfl⟩:=(hev x).1 (List.mem_of_getElem? hx);rw [List.nil_append]at hx;obtain⟨l1,l2,m1,m2,m3⟩:=aP6 hF hR hS hB hd tail (by simpa using t1);have hmlt: ∀l,mkM q b d l<4096:=fun l=>Nat.lt_of_lt_of_le (HV _ _) (show 2^q.symbols.length<=2^12 from Nat.pow_le_pow_right (by decide) hF.symbols);have hwl:w.length<=4500:=Nat.le_trans (hw.len (m:=4096) fun n hn=>by
    rcases hn with h|⟨e,_,h,_⟩
    exact hDS h.1;rw [h];exact hmlt _) (by decide)
   have hstep:Gi b (d:Int) evs q w (i:Int)=(AJ (Pw b w (d:Int) evs (i:Int) ((mkM q b d tail:Nat):Int) (!decide (((mkM q b d tail:Nat):Int)=0)) q) fun o=>some (.inl (o,((i+1:Nat):Int)))):=by simp only [Gi,ltD hx,AI,aCo,AN hx,Ap hx (show evs.length<=9223372036854775807 by omega)];rw [m1,AB,m2,AB,m3,AB];cases(Pw b w (d:Int) evs (i:Int) ((mkM q b d tail:Nat):Int) (!decide (((mkM q b d tail:Nat):Int)=0)) q)<;>rfl
   rw [hstep];unfold Pw;by_cases h0:mkM q b d tail=0;refine⟨(w,((i+1:Nat):Int)),by rw [h0];rfl,⟨i+1,rfl,by omega,hw.congr fun n=> ?_⟩,by simp only;omega⟩;rw [List.take_add_one,hx];simp only [Option.toList_some,ma,List.mem_singleton];constructor;rintro(h|⟨e,he,h⟩);exact .inl h;exact .inr ⟨e,.inl he,h⟩;rintro(h|⟨e,he|rfl,h,h'⟩);exact .inl h;exact .inr ⟨e,he,h,h'⟩;exact absurd (h.trans h0) h';obtain⟨L2,p1,p2⟩:=hw.put hwl (mkM q b d tail);refine⟨(L2,((i+1:Nat):Int)),by rw [decide_eq_false (by omega),Bool.not_false,AI,p1];rfl,⟨i+1,rfl,by omega,p2.congr fun n=> ?_⟩,by simp only;omega⟩;rw [List.take_add_one,hx];simp only [Option.toList_some,ma,List.mem_singleton];constructor;rintro((h|⟨e,he,h⟩)|rfl);exact .inl h;exact .inr ⟨e,.inl he,h⟩;exact .inr ⟨_,.inr rfl,rfl,h0⟩;rintro(h|⟨e,he|rfl,h,h'⟩);exact .inl (.inl h);exact .inl (.inr ⟨e,he,h,h'⟩);exact .inr h)
  (L,(0:Int)) ⟨0,rfl,by omega,hL.congr fun n=>by simp⟩
 refine⟨L',e1,e2.congr fun n=> ?_⟩
 constructor
 rintro(⟨⟨d',dd',h1,h2,h3⟩,h0⟩|⟨e,he,h,h0⟩)
 exact⟨⟨d',dd',by omega,h2,h3⟩,h0⟩
 obtain⟨tail,t1,t2,rfl⟩:=(hev e).1 he
 refine⟨⟨d,dd,by omega,hd,tail,by simpa using t1,fun j v t hj ht=>t2 j v t hj (by simpa using ht), ?_⟩,h0⟩
 simpa using h
 rintro⟨⟨d',dd',h1,h2,h3⟩,h0⟩
 by_cases hdd:d'=d
 subst hdd
 rw [hd]at h2;cases h2
 obtain⟨args,a1,a2,rfl⟩:=h3
 exact .inr ⟨X8.mk dd.name args,(hev _).2 ⟨args,by simpa using a1,fun j v t hj ht=>a2 j v t hj (by simpa using ht),by simp⟩,rfl,h0⟩
 exact .inl ⟨⟨d',dd',by omega,h2,h3⟩,h0⟩
theorem aSt{q:AD}(hF:Df q)(hR:Af q)(hS:Ck q)(hT: ∀d∈q.decls,∀t∈d.types,(1:Int)<=t/\t<=3)(h3: ∀d∈q.decls,d.types.length<=3){b:List X2}(hB:BR b):
 ∃L,Xm q b=some L/\RS L (aKc q b):=by
 have hdl:=hF.decls
 obtain⟨L,e1,e2⟩:=BE (step:=fun s:List Int×Int=>IA b q s.1 s.2)
  (fun s=> ∃i:Nat,s.2=(i:Int)/\i<=q.decls.length/\RS s.1 (fun n=>DS q b i n/\n≠0)) (fun s=>(q.decls.length-s.2).toNat) (fun L=>RS L (aKc q b))
  (by rintro⟨w,s⟩ ⟨i,rfl,hi,hw⟩;simp only at hw⊢;by_cases he:i=q.decls.length;subst he;exact .inl ⟨w,by simp only [IA,ltI,AH],hw⟩;right;obtain⟨dd,hd,_⟩:=AY (l:=q.decls) (i:=i) (by omega);have h3':=h3 dd (List.mem_of_getElem? hd);obtain⟨evs,f1,f2,f3⟩:=W7 hF hR hT hB hd h3' 100000 dd.types.length [] (by omega) (by simp);have hp:=N1 h3';obtain⟨L2,g1,g2⟩:=aU9 hF hR hS hB hd f2 (by omega) hw;refine⟨(L2,((i+1:Nat):Int)), ?_,⟨i+1,rfl,by omega,g2⟩,by simp only;omega⟩;have f1':Y6 q (i:Int) b [] []=some evs:=f1;simp only [IA,ltD hd,AI,Ap hd (show q.decls.length<=9223372036854775807 by omega)];rw [f1',AB,g1,AB])
  ([],(0:Int)) ⟨0,rfl,by omega,⟨List.Pairwise.nil,fun x=>⟨fun h=>by simp at h,fun⟨n,_,⟨_,_,h,_⟩,_⟩=>by omega⟩⟩⟩
 exact⟨L,by unfold Xm aK2;rw [e1,AB],e2⟩
theorem Le{q:AD}(hF:Df q)(hR:Af q)(hS:Ck q)(hT: ∀d∈q.decls,∀t∈d.types,(1:Int)<=t/\t<=3)(h3: ∀d∈q.decls,d.types.length<=3){b:List X2}(hB:BR b):
 ∃L,X4 q b=some L/\Xm q b=some L/\RS L (aKc q b):=by
 obtain⟨L,e1,e2⟩:=aSe hF hR hT h3 hB
 obtain⟨M,f1,f2⟩:=aSt hF hR hS hT h3 hB
 exact⟨L,e1,by rw [f1,e2.uniq f2],e2⟩
theorem ML{σ τ:Type}{step:σ->Option (σ⊕τ)}{I:σ->Prop}(hI: ∀s s',I s->step s=some (.inl s')->I s'){s:σ}{t:τ}(h0:I s)(h:AR step s=some t): ∃s',I s'/\step s'=some (.inr t):=by
 obtain⟨n,hn⟩:=F9.1 h;clear h;induction n generalizing s with
 |zero=>simp [itE]at hn
 |succ n ih=>
  simp only [itE]at hn
  split at hn
  cases hn
  rename_i s' hs;exact ih (hI s s' h0 hs) hn
  rename_i t' hs;cases hn;exact⟨s,h0,hs⟩
theorem aP3{l:List Xd}{i:Nat}{x:Xd}(hx:l[i]? =some x)(hl:x.types.length<=8)(h:aDu l (i:Int) 0=some (.inl ())): ∀t∈x.types,1<=t/\t<=3:=by
 have hstep: ∀n:Nat,Ew l (i:Int) (n:Int)=match x.types[n]? with
  |some t=>if t<1\/3<t then some (.inr (.inr ()))else some (.inl ((n+1:Nat):Int))
  |none=>some (.inr (.inl ())):=fun n=>by
  unfold Ew
  rw [AN hx]
  cases ht:x.types[n]? with
  |none=>
   have:=List.getElem?_eq_none_iff.1 ht
   rw [decide_eq_false (by omega),AH]
  |some t=>
   simp only [ltD ht,AI,AN hx,AN ht,Ap ht (show x.types.length<=9223372036854775807 by omega),Do]
   by_cases h1:t<1
   simp [h1]
   by_cases h2:3<t
   simp [h1,h2]
   simp [h1,h2]
 obtain⟨s',⟨n,rfl,hn⟩,hs⟩:=ML (step:=fun s=>Ew l (i:Int) s) (I:=fun s=> ∃n:Nat,s=(n:Int)/\ ∀j t,j<n->x.types[j]? =some t->1<=t/\t<=3)
  (by
   rintro s s' ⟨n,rfl,hn⟩ hs;rw [hstep]at hs;cases ht:x.types[n]? with
   |none=>rw [ht]at hs;cases hs
   |some t=>
    rw [ht]at hs
    simp only at hs
    split at hs
    cases hs
    rename_i hc
    cases hs
    refine⟨n+1,rfl,fun j u hj hu=> ?_⟩
    by_cases hjn:j=n
    subst hjn;rw [ht]at hu;cases hu;omega
    exact hn j u (by omega) hu) ⟨0,rfl,fun j t hj=>by omega⟩ h
 rw [hstep]at hs;intro t ht;obtain⟨j,hj⟩:=List.mem_iff_getElem?.1 ht;refine hn j t ?_ hj;cases hx2:x.types[n]? with
 |none=>
  have h1:=List.getElem?_eq_none_iff.1 hx2
  have h2:=(List.getElem?_eq_some_iff.1 hj).1
  omega
 |some u=>
  rw [hx2]at hs
  simp only at hs
  split at hs<;>cases hs
theorem aP2{l:List Xd}(hl:l.length<=1000){o:Unit⊕(Int×Int)}(h:aDs l 0=some o)(ho: ∀r,o= .inr r->r.1=0): ∀d∈l,∀t∈d.types,1<=t/\t<=3:=by
 have fwd: ∀(n:Nat) (y:Int⊕(Unit⊕(Int×Int))),Ev l (n:Int)=some y->(y= .inr (.inl ())/\l.length<=n)\/(y= .inl ((n+1:Nat):Int)/\ ∀d,l[n]? =some d-> ∀t∈d.types,1<=t/\t<=3)\/ ∃r,y= .inr (.inr r)/\r.1≠0:=by
  intro n y hy;unfold Ev at hy;rcases iS hy with⟨h1,hy⟩|⟨h1,hy⟩
  have hlt:n<l.length:=by have:=of_decide_eq_true h1;omega
  obtain⟨x,hx,_⟩:=AY hlt;rw [AN hx]at hy;obtain⟨r2,_,hy⟩:=bS hy;rcases iS hy with⟨_,hy⟩|⟨_,hy⟩
  cases hy;exact .inr (.inr ⟨_,rfl,by simp⟩);rw [AN hx]at hy;obtain⟨r4,_,hy⟩:=bS hy;rcases iS hy with⟨_,hy⟩|⟨_,hy⟩
  cases hy;exact .inr (.inr ⟨_,rfl,by simp⟩);rw [AN hx]at hy;rcases iS hy with⟨_,hy⟩|⟨h8,hy⟩
  cases hy;exact .inr (.inr ⟨_,rfl,by simp⟩);have h8:=of_decide_eq_false h8;obtain⟨o11,h2,hy⟩:=bS hy;cases o11 with
  |inl u=>
   cases hy
   refine .inr (.inl ⟨by rw [LT (by omega)],fun d hd=> ?_⟩)
   rw [hx]at hd;cases hd
   exact aP3 hx (by omega) h2
  |inr u=>cases hy;exact .inr (.inr ⟨_,rfl,by simp⟩)
  cases hy;have:=of_decide_eq_false h1;exact .inl ⟨rfl,by omega⟩
 obtain⟨s',⟨n,rfl,hn⟩,hs⟩:=ML (step:=fun s=>Ev l s) (I:=fun s=> ∃n:Nat,s=(n:Int)/\ ∀j d,j<n->l[j]? =some d-> ∀t∈d.types,1<=t/\t<=3)
  (by
   rintro s s' ⟨n,rfl,hn⟩ hs;rcases fwd n _ hs with⟨h1,_⟩|⟨h1,h2⟩|⟨r,h1,_⟩
   cases h1;cases h1;refine⟨n+1,rfl,fun j d hj hd=> ?_⟩;by_cases hjn:j=n;subst hjn;exact h2 d hd;exact hn j d (by omega) hd;cases h1) ⟨0,rfl,fun j d hj=>by omega⟩ h
 rcases fwd n _ hs with⟨h1,h2⟩|⟨h1,h2⟩|⟨r,h1,h2⟩
 intro d hd;obtain⟨j,hj⟩:=List.mem_iff_getElem?.1 hd;exact hn j d (by have:=(List.getElem?_eq_some_iff.1 hj).1;omega) hj;cases h1;cases h1;exact absurd (ho r rfl) h2
theorem Mz{q:AD}(hF:Df q)(h:Yo q=some true): ∀d∈q.decls,∀t∈d.types,(1:Int)<=t/\t<=3:=by
 unfold Yo at h;obtain⟨r1,h1,h⟩:=bS h;rcases iS h with⟨_,h⟩|⟨h2,h⟩
 cases h;have hr:r1.1=0:=by simpa using h2
 unfold Xx at h1;rcases iS h1 with⟨_,h1⟩|⟨_,h1⟩
 cases h1;simp at hr;obtain⟨o14,h3,h1⟩:=bS h1;have hd:=hF.decls;refine aP2 (by omega) h3 fun r hr2=> ?_;subst hr2;cases h1;exact hr
section
variable {α σ τ:Type} [DecidableEq α]
def J2(o l:List α):List α:=l.foldl (fun o x=>if x∈o then o else o++[x]) o
theorem Ee(o l:List α)(x:α):J2 o (x::l)=J2 (if x∈o then o else o++[x]) l:=rfl
theorem HU: ∀{l o:List α} {x:α},x∈J2 o l↔x∈o\/x∈l
 |[],o,x=>by simp [J2]
 |y::l,o,x=>by
  rw [Ee,HU];by_cases h:y∈o;rw [if_pos h,mc];constructor;rintro(h1|h1);exact .inl h1;exact .inr (.inr h1);rintro(h1|rfl|h1);exact .inl h1;exact .inl h;exact .inr h1;rw [if_neg h,ma,List.mem_singleton,mc,or_assoc]
theorem Wa: ∀{l o:List α},o.Nodup->(J2 o l).Nodup
 |[],o,h=>h
 |y::l,o,h=>by
  rw [Ee];apply Wa;by_cases hy:y∈o;rw [if_pos hy];exact h;rw [if_neg hy,List.nodup_append];exact⟨h,by simp,fun a ha b hb e=>hy (by rw [List.mem_singleton]at hb;rw [<-hb,<-e];exact ha)⟩
theorem Kr: ∀(l o:List α),∃r,J2 o l=o++r
 |[],o=>⟨[],by simp [J2]⟩
 |y::l,o=>by
  rw [Ee];obtain⟨r,h⟩:=Kr l (if y∈o then o else o++[y])
  rw [h];by_cases hy:y∈o;rw [if_pos hy];exact⟨r,rfl⟩;rw [if_neg hy];exact⟨[y]++r,by simp⟩
theorem Kq{l o:List α}{j:Nat}{x:α}(h:o[j]? =some x):(J2 o l)[j]? =some x:=by obtain⟨r,e⟩:=Kr l o;rw [e,List.getElem?_append_left (List.getElem?_eq_some_iff.1 h).1];exact h
theorem aG8(l o:List α):o.length<=(J2 o l).length:=by obtain⟨r,e⟩:=Kr l o;rw [e,List.length_append];omega
inductive Rch(succ:α->List α)(s:α):α->Prop
 |refl:Rch succ s s
 |step {x y:α}:Rch succ s x->y∈succ x->Rch succ s y
structure WI(succ:α->List α)(s:α)(i:Nat)(o:List α):Prop where
 nd:o.Nodup
 hd:o[0]? =some s
 le:i<=o.length
 rc: ∀x∈o,Rch succ s x
 cl: ∀j x,j<i->o[j]? =some x-> ∀y∈succ x,y∈o
variable {succ:α->List α} {s:α}
theorem WI.init:WI succ s 0 [s]:=⟨by simp,rfl,Nat.zero_le _,fun x hx=>by rw [List.mem_singleton]at hx;subst hx;exact .refl,fun j x hj=>by omega⟩
theorem WI.step{i:Nat}{o:List α}(h:WI succ s i o){x:α}(hx:o[i]? =some x):WI succ s (i+1) (J2 o (succ x)):=by
 have hi:=(List.getElem?_eq_some_iff.1 hx).1;refine⟨Wa h.nd,Kq h.hd,Nat.le_trans hi (aG8 _ _),fun y hy=> ?_,fun j y hj hy z hz=> ?_⟩;rcases HU.1 hy with hy|hy
 exact h.rc y hy;exact(h.rc x (List.mem_of_getElem? hx)).step hy;have hj2:j<o.length:=by omega
 obtain⟨w,hw,_⟩:=AY hj2;have e:w=y:=by rw [Kq hw,oe]at hy;exact hy
 subst e;by_cases hji:j=i;subst hji;rw [hx,oe]at hw;subst hw;exact HU.2 (.inr hz);exact HU.2 (.inl (h.cl j w (by omega) hw z hz))
def wl(succ:α->List α):Nat->Nat->List α->List α
 |0,_,o=>o
 |n+1,i,o=>match o[i]? with
  |none=>o
  |some x=>wl succ n (i+1) (J2 o (succ x))
def Bd(succ:α->List α)(s:α)(N:Nat):Prop:= ∀o:List α,o.Nodup->(∀x∈o,Rch succ s x)->o.length<=N
theorem aQ2{N:Nat}(hN:Bd succ s N): ∀(n i:Nat) (o:List α),WI succ s i o->N+1<=n+i->WI succ s (wl succ n i o).length (wl succ n i o)
 |0,i,o,h,hn=>by have:=h.le;have:=hN o h.nd h.rc;omega
 |n+1,i,o,h,hn=>by
  rw [wl];split;rename_i e;have:=List.getElem?_eq_none_iff.1 e;have he:i=o.length:=by have:=h.le;omega
  subst he;exact h;rename_i x hx;exact aQ2 hN n (i+1) _ (h.step hx) (by omega)
theorem ZP{N:Nat}(hN:Bd succ s N){step:σ->Option (σ⊕τ)}(mk:Nat->List α->σ)(fin:List α->τ)
 (h1: ∀i x o,WI succ s i o->o[i]? =some x->step (mk i o)=some (.inl (mk (i+1) (J2 o (succ x)))))
 (h2: ∀o,WI succ s o.length o->step (mk o.length o)=some (.inr (fin o))): ∀(n i:Nat) (o:List α),WI succ s i o->N+1<=n+i->AR step (mk i o)=some (fin (wl succ n i o))
 |0,i,o,h,hn=>by have:=h.le;have:=hN o h.nd h.rc;omega
 |n+1,i,o,h,hn=>by
  rw [wl,Ah];cases e:o[i]? with
  |none=>
   have:=List.getElem?_eq_none_iff.1 e
   have he:i=o.length:=by have:=h.le;omega
   subst he
   rw [h2 o h,Ad]
  |some x=>
   rw [h1 i x o h e,BD]
   exact ZP hN mk fin h1 h2 n (i+1) _ (h.step e) (by omega)
def clo(succ:α->List α)(N:Nat)(s:α):List α:=wl succ (N+1) 0 [s]
theorem Wy{N:Nat}(hN:Bd succ s N):WI succ s (clo succ N s).length (clo succ N s):=aQ2 hN _ _ _ WI.init (Nat.le_refl _)
theorem Gx{N:Nat}(hN:Bd succ s N){x:α}:x∈clo succ N s↔Rch succ s x:=by
 have h:=Wy hN;refine⟨h.rc x,fun hx=> ?_⟩;induction hx with
 |refl=>exact List.mem_of_getElem? h.hd
 |step hx hy ih=>
  obtain⟨j,hj⟩:=List.mem_iff_getElem?.1 ih
  exact h.cl j _ (List.getElem?_eq_some_iff.1 hj).1 hj _ hy
theorem Na{N:Nat}(hN:Bd succ s N):(clo succ N s).length<=N:=hN _ (Wy hN).nd (Wy hN).rc
end
theorem aJb{succ:Int->List Int}{s:Int}{N:Nat}(h: ∀x,Rch succ s x->0<=x/\x<N):Bd succ s N:=fun o h1 h2=>by
 have:=h1.length_le_of_subset (l₂:=(List.range N).map (fun n:Nat=>(n:Int))) fun x hx=>by obtain⟨a,b⟩:=h x (h2 x hx);exact mm.2 ⟨x.toNat,List.mem_range.2 (by omega),by omega⟩
 simpa using this
theorem Lk{α β:Type} [DecidableEq α](p:β->Bool)(g:β->α): ∀(l:List β) (o:List α),l.foldl (fun o t=>if p t=true/\g t∉o then o++[g t]else o) o=J2 o ((l.filter p).map g)
 |[],o=>rfl
 |t::l,o=>by
  rw [List.foldl_cons,Lk p g l,List.filter_cons];by_cases h:p t=true;rw [if_pos h,List.map_cons,Ee];by_cases h2:g t∈o;simp [h2];simp [h,h2];simp [h]
theorem aNg(q:AD)(hW: ∀t∈q.trans,Jw t): ∃r,Z7 q=some r/\(r=true->Df q/\Af q/\Yo q=some true/\ ∀d∈q.decls,d.types.length<=3):=by
 obtain⟨n,hn,hF⟩:=aSj q;unfold Z7;refine BW hn ?_;refine BT (fun _=>⟨_,rfl,by simp⟩) (fun h0=> ?_);have hF:=hF h0;obtain⟨r,hr,hR⟩:=aTr q hF hW;refine BW hr ?_;refine Ek (fun _=>⟨_,rfl,by simp⟩) (fun h1=> ?_);have hR2:=hR h1;have hd:=hF.decls;obtain⟨o,ho,hQ⟩:=Ao (step:=fun s=>Ij q s) q.decls.length (fun i=> ∀d,q.decls[i]? =some d->d.types.length<=3) (fun o=>o=Sum.inl ()-> ∀d∈q.decls,d.types.length<=3)
  (fun i hi=>by obtain⟨x,hx,_⟩:=AY hi;simp only [Ij,ltD hx,AI,AN hx,Ap hx (show q.decls.length<=9223372036854775807 by omega)];by_cases h:3<x.types.length;exact .inr ⟨.inr (),by rw [decide_eq_true (by omega)];rfl,fun h=>by cases h⟩;exact .inl ⟨by rw [decide_eq_false (by omega)];rfl,fun t h2=>by rw [hx,oe]at h2;subst h2;omega⟩)
  (fun hall=>⟨.inl (),by simp only [Ij,ltI,AH],fun _=>Fk hall⟩)
 have ho':aL8 q 0=some o:=ho;refine BW ho' ?_;subst h1;rcases o with⟨⟩|⟨⟩
 rw [CR];exact⟨_,rfl,fun _=>⟨hF,hR2,hr,hQ rfl⟩⟩;rw [EI];exact⟨_,rfl,by simp⟩
def G8(q:AD)(x:Int):List Int:=(q.trans.filter fun t=>decide (t.from_=x)).map (·.to)
theorem ZD{q:AD}{x y:Int}:y∈G8 q x↔ ∃t∈q.trans,t.from_=x/\t.to=y:=by simp [G8,and_assoc]
theorem rcT{q:AD}(hR:Af q){s:Int}(hs:0<=s/\s<q.states.length): ∀x,Rch (G8 q) s x->0<=x/\x<q.states.length:=fun x h=>by
 cases h with
 |refl=>exact hs
 |step _ hy=>
  obtain⟨t,ht,_,rfl⟩:=ZD.1 hy
  exact(hR.ends t ht).2.2
theorem bdT{q:AD}(hR:Af q){s:Int}(hs:0<=s/\s<q.states.length):Bd (G8 q) s q.states.length:=aJb (rcT hR hs)
theorem Rf(l:List Int)(x:Int)(hl:l.length<=9223372036854775807):Z9 l x=some (if l.any (fun y=>decide (x=y))=true then((l.findIdx (fun y=>decide (x=y)):Nat):Int)else-1):=by
 have h:aMa l x (l.length:Int) 0=_:=Dk (step:=fun s=>Il l x (l.length:Int) s) l (fun y=>decide (x=y))
  (fun i y hy=>by simp only [Il,ltD hy,AI,AN hy,Ap hy hl,Do];by_cases h:x=y<;>simp [h])
  (by simp only [Il,ltI,AH])
 unfold Z9;rw [h,AB];split;rfl;rfl
theorem LZ(l:List Int)(x:Int)(hl:l.length<=9223372036854775807):Ql l x=some (decide (x∈l)):=by unfold Ql;rw [Rf l x hl,AB];congr 1;rw [Bool.eq_iff_iff,decide_eq_true_eq,decide_eq_true_eq];split;rename_i h;rw [List.any_eq_true]at h;obtain⟨y,hy,h⟩:=h;have:=of_decide_eq_true h;subst this;exact⟨fun _=>hy,fun _=>by omega⟩;rename_i h;refine⟨fun h=>by omega,fun hx=>absurd (List.any_eq_true.2 ⟨x,hx,by simp⟩) h⟩
theorem aVv{q:AD}(hF:Df q)(i:Nat){x:Int}{o:List Int}(hx:o[i]? =some x)(ho:o.length<=1000):aK5 (i:Int) q.trans (q.trans.length:Int) q 0 o=some (J2 o (G8 q x)):=by
 have ht:=hF.trans;have h:=Db (step:=fun s:Int×List Int=>ID (i:Int) q.trans (q.trans.length:Int) q s.1 s.2) q.trans (fun o t=>if decide (t.from_=x)=true/\t.to∉o then o++[t.to]else o) id (fun j w=>w[i]? =some x/\w.length<=1000+j)
  (fun j t w hj hI=>by
   have hjl:=Bv hj;have hw:w.length<=9223372036854775807:=by have:=hI.2;omega
   refine⟨?_, ?_⟩;simp only [ID,ltD hj,AI,aC2,AN hj,AN hI.1,LZ w t.to hw,AB,To,Ap hj (show q.trans.length<=9223372036854775807 by omega)];rw [Do];by_cases h1:t.from_=x;rw [if_pos h1];by_cases h2:t.to∈w;simp [h1,h2,AE,AJ];simp only [h2,decide_false,Bool.not_false,AI];rw [K3 (by have:=hI.2;simp;omega) (by decide),AB,AB];simp [h1];simp [h1,AE,AJ];split;exact⟨by rw [List.getElem?_append_left (Bv hI.1)];exact hI.1,by have:=hI.2;simp;omega⟩;exact⟨hI.1,by have:=hI.2;omega⟩)
  (fun w _=>by simp only [ID,ltI,AH];rfl) o ⟨hx,ho⟩
 refine Eq.trans h ?_;rw [Lk (fun t:Xc=>decide (t.from_=x)) (fun t=>t.to)];rfl
theorem aPb{q:AD}(hF:Df q)(hR:Af q){s:Int}(hs:0<=s/\s<q.states.length):Xr q s=some (clo (G8 q) q.states.length s):=by
 have hb:=bdT hR hs;have hst:=hF.states;have h:=ZP hb (step:=fun s:Int×List Int=>IC q s.1 s.2) (fun i o=>((i:Int),o)) id
  (fun i x o hI hx=>by have hl:=hb o hI.nd hI.rc;simp only [IC,ltD hx,AI,aVv hF i hx (by omega),AB,Ap hx (show o.length<=9223372036854775807 by omega)])
  (fun o hI=>by simp only [IC,ltI,AH];rfl) _ 0 [s] WI.init (Nat.le_refl _)
 have h':aK4 q 0 [s]=some (clo (G8 q) q.states.length s):=h;unfold Xr;rw [h',AB]
def okS(q:AD)(j:Nat):Prop:= ∀st,q.states[j]? =some st->st.accept=true/\st.next=false
def noS(q:AD)(j:Nat):Prop:= ∀st,q.states[j]? =some st->st.accept=false
def Mi(q:AD)(s:Int):Prop:= ∀j:Nat,Rch (G8 q) s (j:Int)->okS q j
def aHk(q:AD)(s:Int):Prop:= ∀j:Nat,Rch (G8 q) s (j:Int)->noS q j
open Classical in
def EL(q:AD)(s:Int):Int:=if Mi q s then 1 else if aHk q s then 2 else 0
theorem HX{l:List Int}{p:Int->Bool}:decide ((0:Int)<=if l.any p=true then((l.findIdx p:Nat):Int)else-1)=l.any p:=by split;rename_i h;rw [h];simp;rename_i h;simp at h;simpa using h
theorem CF1(l:List Int)(q:AD)(p:Int->Bool)(hl:l.length<=9223372036854775807)(hp: ∀x∈l,Qm x q=some (p x)):Qn l q=some (l.any p):=by
 have h:aMe l q (l.length:Int) 0=_:=Dk (step:=fun s=>Ir l q (l.length:Int) s) l p
  (fun i y hy=>by simp only [Ir,ltD hy,AI,AN hy,hp y (List.mem_of_getElem? hy),AB,Ap hy hl,BG];cases p y<;>rfl)
  (by simp only [Ir,ltI,AH])
 unfold Qn Zf;rw [h,AB,<-HX];split<;>rfl
theorem CF2(l:List Int)(q:AD)(p:Int->Bool)(hl:l.length<=9223372036854775807)(hp: ∀x∈l,Qo x q=some (p x)):Qp l q=some (l.any p):=by
 have h:aMf l q (l.length:Int) 0=_:=Dk (step:=fun s=>Is l q (l.length:Int) s) l p
  (fun i y hy=>by simp only [Is,ltD hy,AI,AN hy,hp y (List.mem_of_getElem? hy),AB,Ap hy hl,BG];cases p y<;>rfl)
  (by simp only [Is,ltI,AH])
 unfold Qp Zg;rw [h,AB,<-HX];split<;>rfl
theorem aMi{q:AD}(hF:Df q)(hR:Af q){s:Int}(hs:0<=s/\s<q.states.length):Zl q s=some (EL q s):=by
 have hb:=bdT hR hs;have hst:=hF.states;have hlen:=Na hb;have hget: ∀x∈clo (G8 q) q.states.length s,∃st,q.states[x.toNat]? =some st/\0<=x:=fun x hx=>by have:=rcT hR hs x ((Gx hb).1 hx);obtain⟨st,h,_⟩:=W8 this.1 this.2;exact⟨st,h,this.1⟩
 have e1:=CF1 (clo (G8 q) q.states.length s) q (fun x=>match q.states[x.toNat]? with|some st=> !st.accept||st.next|none=>false) (by omega) (fun x hx=>by obtain⟨st,h,h0⟩:=hget x hx;unfold Qm;rw [Du h h0,Du h h0,h];simp only;cases st.accept<;>rfl)
 have e2:=CF2 (clo (G8 q) q.states.length s) q (fun x=>match q.states[x.toNat]? with|some st=>st.accept|none=>false) (by omega) (fun x hx=>by obtain⟨st,h,h0⟩:=hget x hx;unfold Qo;rw [Du h h0,h])
 unfold Zl EL;rw [decide_eq_false (by omega),AH,decide_eq_false (by omega),AH,aPb hF hR hs,AB,e1,AB,BG];by_cases c1:Mi q s;rw [if_pos c1,if_pos];rw [Bool.not_eq_true',List.any_eq_false];intro x hx;obtain⟨st,h,h0⟩:=hget x hx;have:=c1 x.toNat (by rw [Int.toNat_of_nonneg h0];exact(Gx hb).1 hx) st h;rw [h];simp [this];rw [if_neg c1,if_neg];rw [e2,AB,BG];by_cases c2:aHk q s;rw [if_pos c2,if_pos];rw [Bool.not_eq_true',List.any_eq_false];intro x hx;obtain⟨st,h,h0⟩:=hget x hx;have:=c2 x.toNat (by rw [Int.toNat_of_nonneg h0];exact(Gx hb).1 hx) st h;rw [h];simp [this];rw [if_neg c2,if_neg];intro h;rw [Bool.not_eq_true',List.any_eq_false]at h;refine c2 fun j hj st hst=> ?_;have:=h _ ((Gx hb).2 hj);rw [Int.toNat_natCast,hst]at this;simpa using this;intro h;rw [Bool.not_eq_true',List.any_eq_false]at h;refine c1 fun j hj st hst=> ?_;have:=h _ ((Gx hb).2 hj);rw [Int.toNat_natCast,hst]at this;simpa using this
def InS(q:AD)(l:List Yk):Prop:= ∀c∈l,0<=c.state/\c.state<q.states.length
def aJl(q:AD)(l:List Yk):Int:=if(l.any fun c=>decide (EL q c.state=1))=true then 1 else if(l.all fun c=>decide (EL q c.state=2))=true then 2 else 0
theorem aU8(q:AD)(s:Int):EL q s=1\/EL q s=2\/EL q s=0:=by unfold EL;by_cases h1:Mi q s;exact .inl (if_pos h1);rw [if_neg h1];by_cases h2:aHk q s;exact .inr (.inl (if_pos h2));exact .inr (.inr (if_neg h2))
def gI(b:Bool):Int:=if b=true then 2 else 0
theorem aSy{q:AD}(hF:Df q)(hR:Af q){l:List Yk}(hl:l.length<=1000)(hi:InS q l):Xs q l=some (aJl q l):=by
 have h:aK6 l (l.length:Int) q 2 0=some (if(l.any fun c=>decide (EL q c.state=1))=true then .inr ()else .inl (gI (l.all fun c=>decide (EL q c.state=2)))):=by
  obtain⟨o,ho,hQ⟩:=BE (step:=fun s:Int×Int=>Gk l (l.length:Int) q s.1 s.2)
   (fun s=> ∃i:Nat,s.2=(i:Int)/\i<=l.length/\(∀c∈l.take i,EL q c.state≠1)/\s.1=gI ((l.take i).all fun c=>decide (EL q c.state=2)))
   (fun s=>(l.length-s.2).toNat)
   (fun o=>o=(if(l.any fun c=>decide (EL q c.state=1))=true then .inr ()else .inl (gI (l.all fun c=>decide (EL q c.state=2)))))
   (by
    rintro⟨n,m⟩ ⟨i,rfl,hi2,ha,hb⟩;simp only at hb;subst hb;by_cases he:i=l.length;subst he;refine .inl ⟨_,by simp only [Gk,ltI,AH];rfl, ?_⟩;rw [List.take_length]at*;have hne: ¬(l.any fun c=>decide (EL q c.state=1))=true:=by rw [List.any_eq_true];rintro⟨c,hc,h⟩;exact ha c hc (of_decide_eq_true h)
    rw [if_neg hne];obtain⟨c,hc,_⟩:=AY (l:=l) (i:=i) (by omega);have hcm:=List.mem_of_getElem? hc;have ht:l.take (i+1)=l.take i++[c]:=by rw [List.take_add_one,hc];rfl
    have hk:=aMi hF hR (hi c hcm);by_cases e:EL q c.state=1;refine .inl ⟨.inr (), ?_, ?_⟩;simp only [Gk,ltD hc,AI,Tt,AN hc,hk,AB,Tu,Tv,e,decide_true,EI];rw [if_pos];rw [List.any_eq_true];exact⟨c,hcm,decide_eq_true e⟩;refine .inr ⟨(gI ((l.take i).all (fun c=>decide (EL q c.state=2))&&decide (EL q c.state=2)),((i+1:Nat):Int)), ?_,⟨i+1,rfl,by omega, ?_, ?_⟩,by simp only;omega⟩;simp only [Gk,ltD hc,AI,Tt,AN hc,hk,AB,Tu,Tv,e,decide_false,AH,aC9,Ap hc (show l.length<=9223372036854775807 by omega)];rcases aU8 q c.state with h|h|h
    exact absurd h e;rw [h];cases(l.take i).all (fun c=>decide (EL q c.state=2))<;>rfl;rw [h];cases(l.take i).all (fun c=>decide (EL q c.state=2))<;>rfl;intro x hx;rw [ht]at hx;rcases ma.1 hx with h|h
    exact ha x h;rw [List.mem_singleton]at h;exact h▸e;rw [ht];simp)
   (2,(0:Int)) ⟨0,rfl,by omega,by simp,by simp [gI]⟩
  rw [<-hQ];exact ho
 unfold Xs aJl;rw [h,AB];split<;>rfl
def MSt{K V:Type}(m:MP K V):Prop:= ∀e∈m.es,e.1<m.clk
theorem Pe{K V:Type}(c:Nat)(k:K)(z v:V): ∀l:List (Nat×K×V),(∀e∈l,e.1<c)->aNz (c:Int) v (l++[(c,k,z)])=l++[(c,k,v)]
 |[],_=>by simp [aNz]
 |x::xs,h=>by
  have:=h x (by simp);rw [List.cons_append,aNz,if_neg (by omega),Pe c k z v xs fun e he=>h e (List.mem_cons_of_mem _ he)];rfl
section
variable {K V:Type} [DecidableEq K]
theorem K7(z:V)(c:Nat)(k:K)(v:V)(k':K): ∀l:List (Nat×K×V),LW z k' (Ms c k v l).2=if k=k' then(v,true)else LW z k' l
 |[]=>by
  simp only [Ms,LW]
 |x::xs=>by
  rw [Ms];split;rename_i h;by_cases e:k=k';rw [if_pos e,LW,if_pos (h.trans e)];rw [if_neg e,LW,LW,if_neg (by rw [h];exact e),if_neg (by rw [h];exact e)];rename_i h;by_cases e:k=k';rw [if_pos e,LW,if_neg (by rw [<-e];exact h),K7 z c k v k' xs,if_pos e];rw [if_neg e,LW,LW,K7 z c k v k' xs,if_neg e]
theorem FV(z:V)(m:MP K V)(k:K)(v:V)(k':K):DU z (C8 m k v) k'=if k=k' then(v,true)else DU z m k':=K7 z _ _ _ _ _
theorem PZ(z:V)(c:Nat)(k:K)(v:V): ∀l:List (Nat×K×V),(LW z k l).2=false->Ms c k v l=(c+1,l++[(c,k,v)])/\KC c z k l=((c+1,l++[(c,k,z)]),z,c)
 |[],_=>⟨rfl,rfl⟩
 |x::xs,h=>by
  rw [LW]at h;split at h;cases h;rename_i hx;obtain⟨a,b⟩:=PZ z c k v xs h;rw [Ms,if_neg hx,KC,if_neg hx,a,b];exact⟨rfl,rfl⟩
theorem aJr{z:V}{m:MP K V}{k:K}(v:V)(h:(DU z m k).2=false)(hm:MSt m):Je z m k=m.clk/\XU (Ei z m k) ((Je z m k:Nat):Int)=true/\LE (Ei z m k) ((Je z m k:Nat):Int) v=C8 m k v/\MSt (C8 m k v)/\(C8 m k v).clk=m.clk+1:=by
 obtain⟨a,b⟩:=PZ z m.clk k v m.es h;refine⟨by simp [Je,b],by simp [XU,Ei,Je,b], ?_, ?_,by simp [C8,a]⟩;simp only [LE,Ei,Je,C8,a,b,Pe m.clk k z v m.es hm];intro e he;simp only [C8,a]at he⊢;rcases ma.1 he with h|h
 have:=hm e h;omega;rw [List.mem_singleton]at h;subst h;simp
theorem aH7(z:V)(k:K):DU z (EN:MP K V) k=(z,false):=rfl
end
section
variable {α σ τ:Type} [DecidableEq α] {succ:α->List α} {s:α}
def wlS(succ:α->List α)(p:α->Bool):Nat->Nat->List α->Nat×List α
 |0,i,o=>(i,o)
 |n+1,i,o=>match o[i]? with
  |none=>(i,o)
  |some x=>if p x=true then(i,o)else wlS succ p n (i+1) (J2 o (succ x))
theorem Ha{N:Nat}(hN:Bd succ s N)(p:α->Bool){step:σ->Option (σ⊕τ)}(R:Nat->List α->σ->Prop)(Q:Nat->List α->τ->Prop)
 (h1: ∀i x o st,WI succ s i o->R i o st->o[i]? =some x->p x=false-> ∃st',step st=some (.inl st')/\R (i+1) (J2 o (succ x)) st')
 (h2: ∀i x o st,WI succ s i o->R i o st->o[i]? =some x->p x=true-> ∃t,step st=some (.inr t)/\Q i o t)
 (h3: ∀o st,WI succ s o.length o->R o.length o st-> ∃t,step st=some (.inr t)/\Q o.length o t): ∀(n i:Nat) (o:List α) (st:σ),WI succ s i o->R i o st->N+1<=n+i->
 ∃t,AR step st=some t/\Q (wlS succ p n i o).1 (wlS succ p n i o).2 t
 |0,i,o,st,h,_,hn=>by have:=h.le;have:=hN o h.nd h.rc;omega
 |n+1,i,o,st,h,hr,hn=>by
  rw [wlS,Ah];cases e:o[i]? with
  |none=>
   have:=List.getElem?_eq_none_iff.1 e
   have he:i=o.length:=by have:=h.le;omega
   subst he
   obtain⟨t,a,b⟩:=h3 o st h hr
   exact⟨t,by rw [a,Ad],b⟩
  |some x=>
   simp only
   cases hp:p x with
   |true=>
    obtain⟨t,a,b⟩:=h2 i x o st h hr e hp
    exact⟨t,by rw [a,Ad],b⟩
   |false=>
    obtain⟨st',a,b⟩:=h1 i x o st h hr e hp
    rw [a,BD]
    exact Ha hN p R Q h1 h2 h3 n (i+1) _ st' (h.step e) b (by omega)
theorem aJ1(succ:α->List α){p:α->Bool}(hp: ∀x,p x=false): ∀(n i:Nat) (o:List α),(wlS succ p n i o).2=wl succ n i o
 |0,_,_=>rfl
 |n+1,i,o=>by
  rw [wlS,wl];cases o[i]? with
  |none=>rfl
  |some x=>simp only [hp x,Bool.false_eq_true,if_false];exact aJ1 succ hp n (i+1) _
end
def Fa(q:AD)(L:List Int)(x:Int):List Int:=L.map fun m=>((EO q x.toNat m.toNat:Nat):Int)
theorem PS{q:AD}(hR:Af q)(S M:Nat):EO q S M<2^q.states.length:=by apply Nat.lt_pow_two_of_testBit;intro k hk;rw [<-Bool.not_eq_true,YC];rintro⟨s,hs,_,hf⟩;unfold aJj at hf;split at hf;rw [Nat.testBit_two_pow]at hf;have:=of_decide_eq_true hf;omega;obtain⟨t,ht,_,he⟩:=(aN4 q M s k).1 hf;have:=(hR.ends t ht).2.2;omega
structure Et(q:AD)(L:List Int):Prop where
 len:L.length<=5000
 up:L.Pairwise (· < ·)
 lt: ∀x∈L,∃n:Nat,x=(n:Int)/\n<4096
theorem aNv{q:AD}(hF:Df q)(hR:Af q)(hS:Ck q)(hT:Yo q=some true)(h3: ∀d∈q.decls,d.types.length<=3){b:List X2}(hB:BR b): ∃L,X4 q b=some L/\Xm q b=some L/\RS L (aKc q b)/\Et q L:=by obtain⟨L,e1,e2,hL⟩:=Le hF hR hS (Mz hF hT) h3 hB;refine⟨L,e1,e2,hL,Nat.le_trans (hL.len fun n hn=>M1 hF hn) (by decide),hL.up,fun x hx=> ?_⟩;obtain⟨n,rfl,hn⟩:=(hL.is x).1 hx;exact⟨n,rfl,M1 hF hn⟩
theorem rcS{q:AD}(hR:Af q)(hS:Ck q){L:List Int}{s:Nat}(hs:s<2^q.states.length): ∀x,Rch (Fa q L) (s:Int) x-> ∃n:Nat,x=(n:Int)/\n<256:=fun x h=>by
 have h8:2^q.states.length<=256:=show 2^q.states.length<=2^8 from Nat.pow_le_pow_right (by decide) hS.states;cases h with
 |refl=>exact⟨s,rfl,by omega⟩
 |step _ hy=>
  obtain⟨m,_,rfl⟩:=mm.1 hy
  exact⟨_,rfl,by have:=PS hR;exact Nat.lt_of_lt_of_le (this _ _) h8⟩
theorem bdS{q:AD}(hR:Af q)(hS:Ck q){L:List Int}{s:Nat}(hs:s<2^q.states.length):Bd (Fa q L) (s:Int) 256:=aJb fun x hx=>by obtain⟨n,rfl,h⟩:=rcS hR hS hs x hx;omega
theorem aP8(l:List Int)(x:Int)(hl:l.length<=9223372036854775807):Zd l x=some (decide (x∈l)):=by
 have h:aMd l x 0=_:=EF (step:=fun s=>Ip l x s) l (fun _ y=>if y=x then some (Sum.inr ():Unit⊕Unit)else none) (.inl ())
  (fun i y hy=>by simp only [Ip,ltD hy,AI,AN hy,Ap hy hl,Do];by_cases h:y=x<;>simp [h])
  (by simp only [Ip,ltI,AH])
 unfold Zd;rw [h,AB,Dc];by_cases hx:x∈l;have:l.findSome? (fun y=>if y=x then some (Sum.inr ():Unit⊕Unit)else none)=some (.inr ()):=by
  obtain⟨y,hy⟩:=Option.isSome_iff_exists.1 (List.findSome?_isSome_iff.2 (⟨x,hx,by simp⟩: ∃y,y∈l/\(if y=x then some (Sum.inr ():Unit⊕Unit)else none).isSome=true))
  rw [hy];cases y with
  |inl u=>
   obtain⟨z,_,hz⟩:=List.exists_of_findSome?_eq_some hy
   split at hz<;>simp at hz
  |inr u=>rfl
 rw [this];simp [hx,CQ];have:l.findSome? (fun y=>if y=x then some (Sum.inr ():Unit⊕Unit)else none)=none:=by rw [List.findSome?_eq_none_iff];intro y hy;exact if_neg fun e=>hx (by rw [<-e];exact hy)
 rw [this];simp [hx,CQ]
theorem PU{q:AD}(hF:Df q)(hR:Af q){L:List Int}(hL:Et q L){x m:Int}(hx: ∃n:Nat,x=(n:Int)/\n<256)(hm:m∈L):Xg q x m=some ((EO q x.toNat m.toNat:Nat):Int)/\Xf q x m=some ((EO q x.toNat m.toNat:Nat):Int):=by obtain⟨n,rfl,hn⟩:=hx;obtain⟨k,rfl,hk⟩:=hL.lt m hm;exact⟨aSm hF hR (by omega) (by omega),aSl hF hR (by omega) (by omega)⟩
def aMp(S:Nat)(i:Nat)(st:Xb):Option (Unit⊕Unit):=if st.accept=true/\S.testBit i=true then some (.inr ())else none
def aPx(q:AD)(S:Nat):Bool:=match N6 (Fo (aMp S)) (fun _=> .inl ()) 0 q.states ()with
 | .inl _=>false
 | .inr _=>true
theorem FD{q:AD}(hF:Df q){S:Nat}(hS:S<4294967296):Yl q (S:Int)=some (aPx q S):=by
 have h8:=hF.states;have h:aLv (S:Int) q.states (q.states.length:Int) 0=_:=EF (step:=fun s=>IW (S:Int) q.states (q.states.length:Int) s) q.states (aMp S) (.inl ())
  (fun i st hi=>by
   have hil:=Bv hi;have h1:=Aw (n:=i) (by omega);have h2:=aI9 (n:=S) (m:=2^i) hS (Nat.lt_of_lt_of_le (Nat.pow_lt_pow_right (by decide) (show i<32 by omega)) (by decide));simp only [IW,ltD hi,AI,AN hi,Ap hi (show q.states.length<=9223372036854775807 by omega),h1,N9 (show i<32 by omega),h2,aMp];rw [Ak (by omega)];have h3:((S&&&2^i:Nat):Int)=0↔S.testBit i=false:=by rw [<-NV];omega
   cases st.accept with
   |false=>simp [AE]
   |true=>
    rw [AI]
    cases hb:S.testBit i with
    |false=>rw [decide_eq_true (h3.2 hb)];simp [AE]
    |true=>rw [decide_eq_false (by rw [h3,hb];simp)];simp [AE])
  (by simp only [IW,ltI,AH])
 unfold Yl aPx;rw [h,AB];cases N6 (Fo (aMp S)) (fun _=> .inl ()) 0 q.states ()<;>rfl
theorem Ju{q:AD}(hF:Df q){S:Nat}(hS:S<4294967296):Yu q (S:Int)=some (aPx q S):=by
 have h8:=hF.states;have h:aLx (S:Int) q 0=_:=EF (step:=fun s=>Ib (S:Int) q s) q.states (aMp S) (.inl ())
  (fun i st hi=>by
   have hil:=Bv hi;have h1:=Aw (n:=i) (by omega);simp only [Ib,ltD hi,AI,AN hi,Ap hi (show q.states.length<=9223372036854775807 by omega),h1,OA (k:= .u32) (n:=S) (s:=i) (show i<32 by omega),aVt,NW,aMp];rw [Ak (by omega)];cases hb:S.testBit i with
   |false=>simp [AE]
   |true=>
    simp only [if_true]
    rw [show decide (((1:Nat):Int)=1)=true from rfl,AI]
    cases st.accept<;>simp [AE])
  (by simp only [Ib,ltI,AH])
 unfold Yu aPx;rw [h,AB];cases N6 (Fo (aMp S)) (fun _=> .inl ()) 0 q.states ()<;>rfl
def HS(q:AD)(x:Int):Bool:=aPx q x.toNat
def RR(q:AD)(l:List Int):Int:=if(l.all (HS q))=true then 1 else if(l.all fun x=> !HS q x)=true then 2 else 0
theorem RT{q:AD}{l m:List Int}(h:l.Perm m):RR q l=RR q m:=by
 have: ∀p:Int->Bool,l.all p=m.all p:=fun p=>by rw [Bool.eq_iff_iff,List.all_eq_true,List.all_eq_true];exact⟨fun g x hx=>g x (h.mem_iff.2 hx),fun g x hx=>g x (h.mem_iff.1 hx)⟩
 unfold RR;rw [this,this]
def aI1(l:List Int):Prop:= ∀x∈l,∃n:Nat,x=(n:Int)/\n<256
theorem aN0{q:AD}(hF:Df q){l:List Int}(hl:l.length<=9223372036854775807)(hs:aI1 l):Qt q l=some (RR q l):=by
 have e1:Qr l q=some (l.any fun x=> !HS q x):=by
  have h:aMg l q (l.length:Int) 0=_:=Dk (step:=fun s=>It l q (l.length:Int) s) l (fun x=> !HS q x)
   (fun i y hy=>by obtain⟨n,rfl,hn⟩:=hs y (List.mem_of_getElem? hy);simp only [It,ltD hy,AI,AN hy,U1,FD hF (show n<4294967296 by omega),AB,Ap hy hl,HS,Int.toNat_natCast];rw [BG];split<;>simp_all)
   (by simp only [It,ltI,AH])
  unfold Qr Zh;rw [h,AB,<-HX];split<;>rfl
 have e2:Qs l q=some (l.any (HS q)):=by
  have h:aMh l q (l.length:Int) 0=_:=Dk (step:=fun s=>Iu l q (l.length:Int) s) l (HS q)
   (fun i y hy=>by obtain⟨n,rfl,hn⟩:=hs y (List.mem_of_getElem? hy);simp only [Iu,ltD hy,AI,AN hy,U2,FD hF (show n<4294967296 by omega),AB,Ap hy hl,HS,Int.toNat_natCast];rw [BG];split<;>simp_all)
   (by simp only [Iu,ltI,AH])
  unfold Qs Zi;rw [h,AB,<-HX];split<;>rfl
 unfold Qt RR;rw [e1,AB,e2,AB,BG,BG,List.all_eq_not_any_not,List.all_eq_not_any_not];simp only [Bool.not_not];split;rfl;split<;>rfl
abbrev TR:=List Int×MP Int Int×MP Int Int
def D9(q:AD)(x:Int)(t:TR)(m:Int):TR:=if((EO q x.toNat m.toNat:Nat):Int)∈t.1 then t else(t.1++[((EO q x.toNat m.toNat:Nat):Int)],C8 t.2.1 ((EO q x.toNat m.toNat:Nat):Int) x,C8 t.2.2 ((EO q x.toNat m.toNat:Nat):Int) m)
structure TI(t:TR):Prop where
 st:MSt t.2.1
 clk:t.2.1.clk=t.1.length
 get: ∀k,(DU 0 t.2.1 k).2=decide (k∈t.1)
theorem TI.step{t:TR}(h:TI t)(q:AD)(x m:Int):TI (D9 q x t m):=by unfold D9;split;exact h;rename_i hn;obtain⟨_,_,_,h4,h5⟩:=aJr (m:=t.2.1) (z:=(0:Int)) (k:=((EO q x.toNat m.toNat:Nat):Int)) x (by rw [h.get];simp [hn]) h.st;refine⟨h4,by rw [h5,h.clk];simp,fun k=> ?_⟩;simp only;rw [FV];split;rename_i e;simp [e];rename_i e;rw [h.get];have e2:k≠((EO q x.toNat m.toNat:Nat):Int):=fun h=>e h.symm;simp [e2]
theorem TI.fold{q:AD}{x:Int}: ∀{l:List Int} {t:TR},TI t->TI (l.foldl (D9 q x) t)
 |[],_,h=>h
 |m::l,t,h=>by rw [List.foldl_cons];exact TI.fold (h.step q x m)
theorem JZ{q:AD}{x:Int}: ∀(l:List Int) (t:TR),(l.foldl (D9 q x) t).1=J2 t.1 (Fa q l x)
 |[],_=>rfl
 |m::l,t=>by
  rw [List.foldl_cons,JZ l];show _=J2 t.1 (_::Fa q l x);rw [Ee];congr 1;unfold D9;split<;>rfl
theorem YX{q:AD}{x m:Int}{t:TR}{i:Nat}{y:Int}(h:t.1[i]? =some y):(D9 q x t m).1[i]? =some y:=by unfold D9;split;exact h;rw [List.getElem?_append_left (Bv h)];exact h
theorem YY(q:AD)(x m:Int)(t:TR):(D9 q x t m).1.length<=t.1.length+1:=by unfold D9;split;omega;simp
theorem TI.init(s:Int):TI ([s],C8 (EN:MP Int Int) s s,EN):=by refine⟨fun e he=> ?_,rfl,fun k=> ?_⟩;simp [C8,Ms,EN]at he⊢;subst he;simp;rw [FV,aH7];split;rename_i e;simp [e];rename_i e;have e2:k≠s:=fun h=>e h.symm;simp [e2]
theorem Mh{q:AD}(hF:Df q)(hR:Af q){L:List Int}(hL:Et q L)(i:Nat){x:Int}(hx: ∃n:Nat,x=(n:Int)/\n<256){t:TR}(ho:t.1[i]? =some x)(hl:t.1.length<=1000)(hT:TI t):aLa L (i:Int) L (L.length:Int) q 0 t.1 t.2.1 t.2.2=some (L.foldl (D9 q x) t):=by
 have hll:=hL.len;exact Db (step:=fun s:Int×TR=>IG L (i:Int) L (L.length:Int) q s.1 s.2.1 s.2.2.1 s.2.2.2) L (D9 q x) id (fun j t=>t.1[i]? =some x/\t.1.length<=1000+j/\TI t)
  (fun j m t hj hI=>by
   have hjl:=Bv hj;obtain⟨hg,hn,hT⟩:=hI;refine⟨?_,YX hg,Nat.le_trans (YY _ _ _ _) (by omega),hT.step q x m⟩;have hc:(0:Int)<=(i:Int)/\(i:Int)+1<=(t.1.length:Int):=by have:=Bv hg;omega
   simp only [IG,ltD hj,AI,aDm,AN hj,Ak hc,AN hg,(PU hF hR hL hx (List.mem_of_getElem? hj)).1,AB,aDo,Ap hj (show L.length<=9223372036854775807 by omega),hT.get];unfold D9;by_cases h2:((EO q x.toNat m.toNat:Nat):Int)∈t.1;simp [h2,AE,AJ];obtain⟨g1,g2,g3,_,_⟩:=aJr (m:=t.2.1) (z:=(0:Int)) (k:=((EO q x.toNat m.toNat:Nat):Int)) x (by rw [hT.get];simp [h2]) hT.st;rw [if_neg h2];simp only [h2,decide_false,Bool.not_false,AI];rw [Ak (by rw [g1,hT.clk];omega),Ak g2,K3 (by simp;omega) (by decide),g3,AB,AB])
  (fun w _=>by simp only [IG,ltI,AH];rfl) t ⟨ho,hl,hT⟩
theorem aS2{q:AD}(hF:Df q)(hR:Af q)(hS:Ck q){L:List Int}(hL:Et q L){b:List X2}(he:X4 q b=some L){s:Nat}(hs:s<2^q.states.length): ∃F B,Xw q b (s:Int)=some (clo (Fa q L) 256 (s:Int),F,B):=by
 have hb:=bdS (L:=L) hR hS hs;obtain⟨t,h,hQ⟩:=Ha hb (fun _=>false) (step:=fun s:Int×List Int×MP Int Int×MP Int Int=>IF L q s.1 s.2.1 s.2.2.1 s.2.2.2) (fun i o st=> ∃F B,st=((i:Int),o,F,B)/\TI (o,F,B)) (fun _ o t=> ∃F B,t=(o,F,B))
  (fun i x o st hI hr hx _=>by
   obtain⟨F,B,rfl,hT⟩:=hr;have hl:=hb o hI.nd hI.rc;have e:=Mh hF hR hL i (rcS hR hS hs x (hI.rc x (List.mem_of_getElem? hx))) (t:=(o,F,B)) hx (by simp only;omega) hT;have e1:=JZ (q:=q) (x:=x) L (o,F,B);have e2:=TI.fold (q:=q) (x:=x) (l:=L) hT;refine⟨(((i+1:Nat):Int),L.foldl (D9 q x) (o,F,B)), ?_,(L.foldl (D9 q x) (o,F,B)).2.1,(L.foldl (D9 q x) (o,F,B)).2.2, ?_, ?_⟩;have hc:(0:Int)<=(i:Int)/\(i:Int)+1<=(o.length:Int):=by have:=Bv hx;omega
   simp only at e;simp only [IF,ltD hx,AI,Ak hc,AN hx,U0,AB,AH,e,Ap hx (show o.length<=9223372036854775807 by omega)];rw [<-e1];rw [<-e1];exact e2)
  (fun i x o st _ _ _ hp=>by cases hp)
  (fun o st _ hr=>by obtain⟨F,B,rfl,_⟩:=hr;exact⟨(o,F,B),by simp only [IF,ltI,AH],F,B,rfl⟩) 257 0 [(s:Int)] ((0:Nat),[(s:Int)],C8 (EN:MP Int Int) s s,EN) WI.init ⟨_,_,rfl,TI.init _⟩ (Nat.le_refl _)
 obtain⟨F,B,rfl⟩:=hQ;rw [aJ1 _ (fun _=>rfl)]at h;have h':aK9 L q 0 [(s:Int)] (C8 (EN:MP Int Int) s s) EN=some (clo (Fa q L) 256 (s:Int),F,B):=h;refine⟨F,B, ?_⟩;unfold Xw;rw [he,AB,h',AB]
theorem Wz{q:AD}(hR:Af q)(hS:Ck q){L:List Int}{s:Nat}(hs:s<2^q.states.length):aI1 (clo (Fa q L) 256 (s:Int)):=fun x hx=>rcS hR hS hs x ((Gx (bdS hR hS hs)).1 hx)
theorem aRl{q:AD}(hF:Df q)(hR:Af q)(hS:Ck q){L:List Int}(hL:Et q L){b:List X2}(he:X4 q b=some L){s:Nat}(hs:s<2^q.states.length): ∃l,Qb q b (s:Int)=some l/\l.Perm (clo (Fa q L) 256 (s:Int))/\l.Pairwise (· <= ·):=by obtain⟨F,B,h⟩:=aS2 hF hR hS hL he hs;have hlen:=Na (bdS (L:=L) hR hS hs);obtain⟨l,e1,e2,e3⟩:=Rm (w:=clo (Fa q L) 256 (s:Int)) (by omega);refine⟨l, ?_,e2,e3⟩;unfold Qb;rw [h,AB,e1,AB]
theorem aUu{q:AD}(hF:Df q)(hR:Af q)(hS:Ck q){L:List Int}(hL:Et q L){b:List X2}(he:X4 q b=some L){s:Nat}(hs:s<2^q.states.length):Zy q b (s:Int)=some (RR q (clo (Fa q L) 256 (s:Int))):=by obtain⟨l,h1,h2,_⟩:=aRl hF hR hS hL he hs;have hlen:=Na (bdS (L:=L) hR hS hs);unfold Zy;rw [h1,AB,aN0 hF (by rw [h2.length_eq];omega) (fun x hx=>Wz hR hS hs x (h2.mem_iff.1 hx)),AB,RT h2]
def exQ:AD:=AD.mk ([113]:List UInt8) ([]:List Xd) ([]:List Yc) ([]:List Ye) ([Xb.mk ([115]:List UInt8) false true,Xb.mk ([116]:List UInt8) true false]) 0 ([]:List X3) ([]:List Yj) ([]:List Xc)
theorem exF:Df exQ:=⟨by decide,by decide,by decide,by decide,by decide,by decide,by decide,(fun s h=>by cases h),(fun s h=>by cases h)⟩
theorem exR:Af exQ:=⟨(fun j d h=>by cases h),by decide,(fun s h=>by cases h),(fun s h=>by cases h),(fun s h=>by cases h),(fun s h=>by cases h)⟩
theorem exS:Ck exQ:=⟨rfl,by decide,by decide,by decide,fun s h=>by cases h⟩
theorem exT{s x:Int}(h:Rch (G8 exQ) s x):x=s:=by
 cases h with
 |refl=>rfl
 |step _ h=>cases h
theorem aNd:X4 exQ []=some []:=by
 obtain⟨L,e1,_,hL⟩:=Le exF exR exS (fun d h=>by cases h) (fun d h=>by cases h) (b:=[]) ⟨List.Pairwise.nil,fun s h=>by cases h⟩;have:L=[]:=by
  cases L with
  |nil=>rfl
  |cons y l=>
   obtain⟨n,_,⟨d,dd,h,_⟩,_⟩:=(hL.is y).1 (by simp)
   exact absurd h (Nat.not_lt_zero _)
 rw [<-this];exact e1
theorem aUt:Zp=some true:=by
 have h0:Zl exQ 0=some 1:=by
  rw [aMi exF exR (by decide)];have hs:Mi exQ 0:=fun j hj st hst=>by
   have e:=exT hj;have:j=0:=by omega
   subst this;cases hst;exact⟨rfl,rfl⟩
  unfold EL;rw [if_pos hs]
 have hd:aHk exQ 1:=fun j hj st hst=>by
  have e:=exT hj;have:j=1:=by omega
  subst this;cases hst;rfl
 have h1:Zl exQ 1=some 2:=by
  rw [aMi exF exR (by decide)];have hs: ¬Mi exQ 1:=fun h=>by have:=(h 1 .refl _ rfl).1;cases this
  unfold EL;rw [if_neg hs,if_pos hd]
 have h2:Xs exQ []=some 2:=by rw [aSy exF exR (by decide) (fun c h=>by cases h)];rfl
 have h3:Zy exQ [] 1=some 1:=by have:=aUu exF exR exS (L:=[]) ⟨by decide,List.Pairwise.nil,fun x h=>by cases h⟩ aNd (s:=1) (by decide);exact this.trans (by kernel_rfl)
 show(AJ (Zl exQ 0) fun r1=>AE (decide (r1=1)) (AJ (Zl exQ 1) fun r2=>AE (decide (r2=2)) (AJ (Xs exQ []) fun r3=>AE (decide (r3=2)) (AJ (Zy exQ [] 1) fun r4=>some (decide (r4=1))) (some false)) (some false)) (some false))=some true;rw [h0,h1,h2,h3];rfl
theorem aIl(q:AD)(b:List X2)(hW: ∀t∈q.trans,Jw t)(hb:b.length<=9223372036854775807): ∃r,Qk q b=some r/\(r=true->Df q/\Af q/\Ck q/\BR b/\Yo q=some true/\ ∀d∈q.decls,d.types.length<=3):=by obtain⟨r1,hr1,hP⟩:=aNg q hW;unfold Qk;refine BW hr1 ?_;refine Ek (fun _=>⟨_,rfl,by simp⟩) (fun h1=> ?_);obtain⟨hF,hR,hr,h3⟩:=hP h1;obtain⟨r2,hr2,hS⟩:=aT0 hF;refine BW hr2 ?_;refine Ek (fun _=>⟨_,rfl,by simp⟩) (fun h2=> ?_);obtain⟨r3,hr3,hB⟩:=aRj q b hb;refine BW hr3 ?_;refine Ek (fun _=>⟨_,rfl,by simp⟩) (fun h4=> ?_);refine Da (fun _=>⟨_,rfl,by simp⟩) (fun h5=> ?_);refine BT (fun _=>⟨_,rfl,fun _=>⟨hF,hR,hS h2,hB h4,hr,h3⟩⟩) (fun h6=> ?_);obtain⟨x,hx,_⟩:=AY (l:=b) (i:=0) (by omega);rw [show(0:Int)=((0:Nat):Int)from rfl,AN hx];exact⟨_,rfl,fun _=>⟨hF,hR,hS h2,hB h4,hr,h3⟩⟩
theorem aWa{n:Nat}(h:n<=12):AA .shl .u32 1 (IntKind.wrap .u64 (n:Int))=((2^n:Nat):Int):=by rw [Aw (by omega),N9 (by omega)]
theorem aJ2{α:Type} [DecidableEq α]{succ:α->List α}{s:α}{N:Nat}(hN:Bd succ s N)(p:α->Bool): ∀(n i:Nat) (o:List α),WI succ s i o->(∀j x,j<i->o[j]? =some x->p x=false)->N+1<=n+i->
 WI succ s (wlS succ p n i o).1 (wlS succ p n i o).2/\(∀j x,j<(wlS succ p n i o).1->(wlS succ p n i o).2[j]? =some x->p x=false)/\((wlS succ p n i o).1=(wlS succ p n i o).2.length\/ ∃x,(wlS succ p n i o).2[(wlS succ p n i o).1]? =some x/\p x=true)
 |0,i,o,h,_,hn=>by have:=h.le;have:=hN o h.nd h.rc;omega
 |n+1,i,o,h,hp,hn=>by
  rw [wlS];cases e:o[i]? with
  |none=>
   have:=List.getElem?_eq_none_iff.1 e
   exact⟨h,hp,.inl (show i=o.length by have:=h.le;omega)⟩
  |some x=>
   simp only
   cases hx:p x with
   |true=>exact⟨h,hp,.inr ⟨x,e,hx⟩⟩
   |false=>
    refine aJ2 hN p n (i+1) _ (h.step e) (fun j y hj hy=> ?_) (by omega)
    have hj2:j<o.length:=by have:=Bv e;omega
    obtain⟨w,hw,_⟩:=AY hj2
    have e2:w=y:=by rw [Kq hw,oe]at hy;exact hy
    subst e2
    by_cases hji:j=i
    subst hji;rw [e,oe]at hw;exact hw▸hx
    exact hp j w (by omega) hw
inductive Way(q:AD)(L:List Int):Int->Nat->Int->Prop
 |nil {x:Int}:Way q L x 0 x
 |cons {x y m:Int} {k:Nat}:m∈L->Way q L ((EO q x.toNat m.toNat:Nat):Int) k y->Way q L x (k+1) y
theorem Way.snoc{q:AD}{L:List Int}{x y m:Int}{k:Nat}(h:Way q L x k y)(hm:m∈L):Way q L x (k+1) ((EO q y.toNat m.toNat:Nat):Int):=by
 induction h with
 |nil=>exact .cons hm .nil
 |cons h1 _ ih=>exact .cons h1 ih
def nx(q:AD)(x m:Int):Int:=((EO q x.toNat m.toNat:Nat):Int)
def Par(q:AD)(L o:List Int)(j pj:Nat)(m:Int):Prop:= ∃x,o[pj]? =some x/\o[j]? =some (nx q x m)/\m∈L/\(∀p x',p<pj->o[p]? =some x'-> ∀m'∈L,nx q x' m'∈o.take j)/\ ∀m'∈L,m'<m->nx q x m'∈o.take j
theorem Par.app{q:AD}{L o:List Int}{j pj:Nat}{m:Int}(h:Par q L o j pj m)(r:List Int):Par q L (o++r) j pj m:=by obtain⟨x,h1,h2,h3,h4,h5⟩:=h;have e:(o++r).take j=o.take j:=List.take_append_of_le_length (Nat.le_of_lt (Bv h2));refine⟨x,by rw [List.getElem?_append_left (Bv h1)];exact h1,by rw [List.getElem?_append_left (Bv h2)];exact h2,h3,fun p x' hp hx'=> ?_,by rw [e];exact h5⟩;rw [e];refine h4 p x' hp ?_;rw [List.getElem?_append_left (Nat.lt_trans hp (Bv h1))]at hx';exact hx'
structure CX(q:AD)(L:List Int)(i:Nat)(x:Int)(k:Nat)(o:List Int):Prop where
 get:o[i]? =some x
 cl: ∀p x',p<i->o[p]? =some x'-> ∀m'∈L,nx q x' m'∈o
 dn: ∀m'∈L.take k,nx q x m'∈o
theorem aN3{L:List Int}(h:L.Pairwise (· < ·)){k:Nat}{m m':Int}(hk:L[k]? =some m)(hm:m'∈L)(hlt:m'<m):m'∈L.take k:=by
 obtain⟨j,hj⟩:=List.mem_iff_getElem?.1 hm;have hkl:=Bv hk;have hjl:=Bv hj;have e1:L[k]=m:=by rw [List.getElem?_eq_getElem hkl,oe]at hk;exact hk
 have e2:L[j]=m':=by rw [List.getElem?_eq_getElem hjl,oe]at hj;exact hj
 by_cases h1:j<k;exact List.mem_of_getElem? (i:=j) (by rw [List.getElem?_take,if_pos h1];exact hj);exfalso;by_cases h2:j=k;subst h2;omega;have:=List.pairwise_iff_getElem.1 h k j hkl hjl (by omega);omega
theorem CX.new{q:AD}{L:List Int}(hL:Et q L){i k:Nat}{x m:Int}{o:List Int}(h:CX q L i x k o)(hm:L[k]? =some m):Par q L (o++[nx q x m]) o.length i m:=by have e:(o++[nx q x m]).take o.length=o:=List.take_left;refine⟨x,by rw [List.getElem?_append_left (Bv h.get)];exact h.get,by simp,List.mem_of_getElem? hm,fun p x' hp hx'=> ?_,fun m' hm' hlt=> ?_⟩;rw [e];refine h.cl p x' hp ?_;rw [List.getElem?_append_left (Nat.lt_trans hp (Bv h.get))]at hx';exact hx';rw [e];exact h.dn m' (aN3 hL.up hm hm' hlt)
theorem CX.step{q:AD}{L:List Int}{i k:Nat}{x m:Int}{o:List Int}(h:CX q L i x k o)(hm:L[k]? =some m):CX q L i x (k+1) (if nx q x m∈o then o else o++[nx q x m]):=by
 have hsub: ∀y∈o,y∈(if nx q x m∈o then o else o++[nx q x m]):=fun y hy=>by split;exact hy;exact ml _ hy
 have hin:nx q x m∈(if nx q x m∈o then o else o++[nx q x m]):=by split;assumption;simp
 have hget: ∀(p:Nat) x',p<o.length->(if nx q x m∈o then o else o++[nx q x m])[p]? =some x'->o[p]? =some x':=fun p x' hp hx'=>by split at hx';exact hx';rw [List.getElem?_append_left hp]at hx';exact hx'
 have hi:=Bv h.get;refine⟨?_,fun p x' hp hx' m' hm'=>hsub _ (h.cl p x' hp (hget p x' (by omega) hx') m' hm'),fun m' hm'=> ?_⟩;split;exact h.get;rw [List.getElem?_append_left hi];exact h.get;rw [List.take_add_one,hm]at hm';rcases ma.1 hm' with h'|h'
 exact hsub _ (h.dn m' h');simp at h';subst h';exact hin
theorem CX.of{q:AD}{L:List Int}{s:Int}{i:Nat}{o:List Int}(h:WI (Fa q L) s i o){x:Int}(hx:o[i]? =some x):CX q L i x 0 o:=
 ⟨hx,fun p x' hp hx' m' hm'=>h.cl p x' hp hx' _ (mm.2 ⟨m',hm',rfl⟩),fun m' hm'=>by simp at hm'⟩
theorem PC{α β:Type}{f:β->α->β}(L:List α)(I:Nat->β->Prop)(h: ∀j m w,L[j]? =some m->I j w->I (j+1) (f w m))(w:β)(h0:I 0 w):I L.length (L.foldl f w):=by
 have key: ∀(n j:Nat) (w:β),L.length-j=n->j<=L.length->I j w->I L.length ((L.drop j).foldl f w):=by
  intro n;induction n with
  |zero=>
   intro j w hn hj hI
   have:j=L.length:=by omega
   subst this
   rw [List.drop_length];exact hI
  |succ n ih=>
   intro j w hn hj hI
   obtain⟨x,hx,hd⟩:=AY (l:=L) (i:=j) (by omega)
   rw [hd,List.foldl_cons]
   exact ih (j+1) _ (by omega) (by omega) (h j x w hx hI)
 have:=key _ 0 w rfl (Nat.zero_le _) h0;rwa [List.drop_zero]at this
abbrev FR:=List Int×List Int
def JY(q:AD)(i:Nat)(x:Int)(t:FR)(m:Int):FR:=if nx q x m∈t.1 then t else(t.1++[nx q x m],t.2++[(t.2[i]?.getD 0)+1])
theorem LS(q:AD)(i:Nat)(x m:Int)(t:FR):(JY q i x t m).1=if nx q x m∈t.1 then t.1 else t.1++[nx q x m]:=by unfold JY;split<;>rfl
structure FI(q:AD)(L:List Int)(t:FR):Prop where
 len:t.2.length=t.1.length
 zero:t.2[0]? =some 0
 bd: ∀j f,t.2[j]? =some f-> ∃k:Nat,f=(k:Int)/\k<=j
 par: ∀j,0<j->j<t.1.length-> ∃pj m f,pj<j/\Par q L t.1 j pj m/\t.2[pj]? =some f/\t.2[j]? =some (f+1)
theorem FI.step{q:AD}{L:List Int}(hL:Et q L){t:FR}(h:FI q L t){i k:Nat}{x m:Int}(hc:CX q L i x k t.1)(hm:L[k]? =some m):FI q L (JY q i x t m):=by
 unfold JY;split;exact h;have hi:=Bv hc.get;have hi2:i<t.2.length:=by rw [h.len];exact hi
 obtain⟨g,hg,_⟩:=AY hi2;have h0:=Bv h.zero;obtain⟨k0,rfl,hk0⟩:=h.bd i g hg;refine⟨by simp [h.len],by rw [List.getElem?_append_left h0];exact h.zero,fun j f hf=> ?_,fun j hj0 hj=> ?_⟩;by_cases hj:j<t.2.length;rw [List.getElem?_append_left hj]at hf;exact h.bd j f hf;have hj2:=Bv hf;rw [List.length_append,List.length_singleton]at hj2;have he:j=t.2.length:=by omega
 subst he;rw [List.getElem?_append_right (Nat.le_refl _),Nat.sub_self,List.getElem?_cons_zero,oe,hg]at hf;exact⟨k0+1,by rw [<-hf];simp,by omega⟩;rw [List.length_append,List.length_singleton]at hj;by_cases hjl:j<t.1.length;obtain⟨pj,m',f,a1,a2,a3,a4⟩:=h.par j hj0 hjl;exact⟨pj,m',f,a1,a2.app _,by rw [List.getElem?_append_left (Bv a3)];exact a3,by rw [List.getElem?_append_left (Bv a4)];exact a4⟩;have he:j=t.1.length:=by omega
 subst he;refine⟨i,m,(k0:Int),hi,hc.new hL hm,by rw [List.getElem?_append_left hi2];exact hg, ?_⟩;rw [<-h.len,List.getElem?_append_right (Nat.le_refl _),Nat.sub_self,List.getElem?_cons_zero,hg];rfl
theorem FI.way{q:AD}{L:List Int}{t:FR}(h:FI q L t){s:Int}(h0:t.1[0]? =some s): ∀(n j:Nat) y f,j<n->t.1[j]? =some y->t.2[j]? =some f-> ∃k:Nat,f=(k:Int)/\Way q L s k y
 |0,j,y,f,hn,_,_=>by omega
 |n+1,j,y,f,hn,hy,hf=>by
  by_cases hj:j=0;subst hj;rw [h0,oe]at hy;rw [h.zero,oe]at hf;subst hy;subst hf;exact⟨0,rfl,.nil⟩;obtain⟨pj,m,g,a1,⟨x,b1,b2,b3,_⟩,a3,a4⟩:=h.par j (by omega) (Bv hy);obtain⟨k,rfl,hw⟩:=FI.way h h0 n pj x g (by omega) b1 a3;rw [hy,oe]at b2;rw [hf,oe]at a4;subst b2;subst a4;exact⟨k+1,by simp,hw.snoc b3⟩
theorem Mk{q:AD}{i:Nat}{x:Int}: ∀(l:List Int) (t:FR),(l.foldl (JY q i x) t).1=J2 t.1 (Fa q l x)
 |[],_=>rfl
 |m::l,t=>by
  rw [List.foldl_cons,Mk l];show _=J2 t.1 (_::Fa q l x);rw [Ee,LS];rfl
theorem FI.fold{q:AD}{L:List Int}(hL:Et q L){t:FR}(h:FI q L t){i:Nat}{x:Int}(hc:CX q L i x 0 t.1):FI q L (L.foldl (JY q i x) t):=
 (PC L (fun k t=>FI q L t/\CX q L i x k t.1) (fun j m t hm h=>⟨h.1.step hL h.2 hm,by rw [LS];exact h.2.step hm⟩) t ⟨h,hc⟩).1
theorem aAb{q:AD}(hF:Df q)(hR:Af q){L:List Int}(hL:Et q L)(acc:Bool)(i:Nat){x:Int}(hx: ∃n:Nat,x=(n:Int)/\n<256){t:FR}(hc:CX q L i x 0 t.1)(hl:t.1.length<=1000)(hT:FI q L t):aK8 acc L (i:Int) q 0 t.1 t.2=some (L.foldl (JY q i x) t):=by
 have hll:=hL.len;exact Db (step:=fun s:Int×FR=>IE acc L (i:Int) q s.1 s.2.1 s.2.2) L (JY q i x) id (fun j t=>CX q L i x j t.1/\t.1.length<=1000+j/\FI q L t)
  (fun j m t hj hI=>by have hjl:=Bv hj;obtain⟨hg,hn,hT⟩:=hI;have hgl:=Bv hg.get;refine⟨?_,by rw [LS];exact hg.step hj, ?_,hT.step hL hg hj⟩;obtain⟨g,hg2,_⟩:=AY (l:=t.2) (i:=i) (by rw [hT.len];exact hgl);obtain⟨k,rfl,hk⟩:=hT.bd i g hg2;simp only [IE,ltD hj,AI,aDe,AN hj,AN hg.get,(PU hF hR hL hx (List.mem_of_getElem? hj)).2,aP8 t.1 _ (by omega),AB,aDg,Ap hj (show L.length<=9223372036854775807 by omega)];unfold JY nx;by_cases h2:((EO q x.toNat m.toNat:Nat):Int)∈t.1;simp [h2,AE,AJ];rw [if_neg h2];simp only [h2,decide_false,Bool.not_false,AI,AN hg2];rw [K3 (by simp;omega) (by decide),K3 (by simp [hT.len];omega) (by decide),AB,AB,hg2,LT (by omega)];rfl;rw [LS];split;omega;simp;omega)
  (fun w _=>by simp only [IE,ltI,AH];rfl) t ⟨hc,hl,hT⟩
def D3(q:AD)(L:List Int)(acc:Bool)(s:Nat):Nat×List Int:=wlS (Fa q L) (fun x=>HS q x==acc) 257 0 [(s:Int)]
theorem OB{q:AD}(hR:Af q)(hS:Ck q)(L:List Int)(acc:Bool){s:Nat}(hs:s<2^q.states.length):WI (Fa q L) (s:Int) (D3 q L acc s).1 (D3 q L acc s).2/\(∀j x,j<(D3 q L acc s).1->(D3 q L acc s).2[j]? =some x->(HS q x==acc)=false)/\((D3 q L acc s).1=(D3 q L acc s).2.length\/ ∃x,(D3 q L acc s).2[(D3 q L acc s).1]? =some x/\(HS q x==acc)=true):=
 aJ2 (bdS hR hS hs) _ 257 0 _ WI.init (fun j x hj=>by omega) (Nat.le_refl _)
theorem OG{q:AD}(hF:Df q)(hR:Af q)(hS:Ck q){L:List Int}(hL:Et q L){b:List X2}(he:Xm q b=some L)(acc:Bool){s:Nat}(hs:s<2^q.states.length):
 ∃r:Int,Xu q b (s:Int) acc=some r/\((D3 q L acc s).1=(D3 q L acc s).2.length/\r= -1\/ ∃(k:Nat) (y:Int) (far:List Int),r=(k:Int)/\FI q L ((D3 q L acc s).2,far)/\far[(D3 q L acc s).1]? =some r/\(D3 q L acc s).2[(D3 q L acc s).1]? =some y/\(HS q y==acc)=true/\Way q L (s:Int) k y):=by
 have hb:=bdS (L:=L) hR hS hs
 have hsm: ∀x,Rch (Fa q L) (s:Int) x-> ∃n:Nat,x=(n:Int)/\n<256:=rcS hR hS hs
 have hacc: ∀{x:Int} {n:Nat},x=(n:Int)->n<256->Yu q x=some (HS q x):=fun{x n} e h=>by subst e;rw [Ju hF (by omega),HS,Int.toNat_natCast]
 obtain⟨t,h,hQ⟩:=Ha hb (fun x=>HS q x==acc) (step:=fun s:Int×List Int×List Int=>Gn acc L q s.1 s.2.1 s.2.2) (fun i o st=> ∃far,st=((i:Int),o,far)/\FI q L (o,far))
  (fun i o t=>(i=o.length/\t= .inl ())\/ ∃far r,t= .inr r/\FI q L (o,far)/\far[i]? =some r)
  (fun i x o st hI hr hx hp=>by obtain⟨far,rfl,hT⟩:=hr;have hl:=hb o hI.nd hI.rc;obtain⟨n,hn,hn2⟩:=hsm x (hI.rc x (List.mem_of_getElem? hx));have e:=aAb hF hR hL acc i ⟨n,hn,hn2⟩ (t:=(o,far)) (CX.of hI hx) (by simp only;omega) hT;have e1:=Mk (q:=q) (i:=i) (x:=x) L (o,far);have e2:=hT.fold hL (CX.of hI hx);refine⟨(((i+1:Nat):Int),L.foldl (JY q i x) (o,far)), ?_,(L.foldl (JY q i x) (o,far)).2, ?_, ?_⟩;simp only at e;simp only [Gn,ltD hx,AI,AN hx,hacc hn hn2,AB,hp,AH,e,Ap hx (show o.length<=9223372036854775807 by omega)];rw [<-e1];rw [<-e1];exact e2)
  (fun i x o st hI hr hx hp=>by obtain⟨far,rfl,hT⟩:=hr;obtain⟨n,hn,hn2⟩:=hsm x (hI.rc x (List.mem_of_getElem? hx));obtain⟨g,hg,_⟩:=AY (l:=far) (i:=i) (by have:=hT.len;simp only at this;rw [this];exact Bv hx);exact⟨.inr g,by simp only [Gn,ltD hx,AI,AN hx,hacc hn hn2,AB,hp,AN hg],.inr ⟨far,g,rfl,hT,hg⟩⟩)
  (fun o st _ hr=>by obtain⟨far,rfl,_⟩:=hr;exact⟨.inl (),by simp only [Gn,ltI,AH],.inl ⟨rfl,rfl⟩⟩) 257 0 [(s:Int)] ((0:Int),[(s:Int)],[0]) WI.init
  ⟨[0],rfl,rfl,rfl,fun j f hf=>by
   have hj:j=0:=by have:=Bv hf;simp at this;omega
   subst hj;simp at hf;exact⟨0,by omega,Nat.le_refl _⟩,fun j h0 hj=>by simp at hj;omega⟩ (Nat.le_refl _)
 have h':aK7 acc L q 0 [(s:Int)] [0]=some t:=h
 obtain⟨o1,o2,o3⟩:=OB hR hS L acc hs
 unfold Xu
 rw [he,AB,h',AB]
 rcases hQ with⟨hi,rfl⟩|⟨far,r,rfl,hT,hg⟩
 exact⟨-1,rfl,.inl ⟨hi,rfl⟩⟩
 refine⟨r,rfl,.inr ?_⟩
 have hlt:(D3 q L acc s).1<(D3 q L acc s).2.length:=by have h1:=Bv hg;have h2:=hT.len;simp only at h2;rw [h2]at h1;exact h1
 rcases o3 with h|⟨y,hy,hp⟩
 omega
 obtain⟨k,hk,hw⟩:=hT.way o1.hd _ _ _ _ (Nat.lt_succ_self _) hy hg
 exact⟨k,y,far,hk,hT,hg,hy,hp,hw⟩
structure PT(q:AD)(L:List Int)(t:TR):Prop where
 ti:TI t
 par: ∀j,0<j->j<t.1.length-> ∃pj m x y,pj<j/\Par q L t.1 j pj m/\t.1[pj]? =some x/\t.1[j]? =some y/\(DU 0 t.2.1 y).1=x/\(DU 0 t.2.2 y).1=m
theorem aNy(q:AD)(x m:Int)(t:TR):(D9 q x t m).1=if nx q x m∈t.1 then t.1 else t.1++[nx q x m]:=by unfold D9 nx;split<;>rfl
theorem PT.step{q:AD}{L:List Int}(hL:Et q L){t:TR}(h:PT q L t){i k:Nat}{x m:Int}(hc:CX q L i x k t.1)(hm:L[k]? =some m):PT q L (D9 q x t m):=by
 refine⟨h.ti.step q x m, ?_⟩;unfold D9;split;exact h.par;rename_i hn;intro j hj0 hj;have hi:=Bv hc.get;rw [List.length_append,List.length_singleton]at hj;by_cases hjl:j<t.1.length;obtain⟨pj,m',x',y,a1,a2,a3,a4,a5,a6⟩:=h.par j hj0 hjl;have hne:nx q x m≠y:=fun e=>hn (by show nx q x m∈_;rw [e];exact List.mem_of_getElem? a4);refine⟨pj,m',x',y,a1,a2.app _,by rw [List.getElem?_append_left (Bv a3)];exact a3,by rw [List.getElem?_append_left (Bv a4)];exact a4, ?_, ?_⟩;show(DU 0 (C8 t.2.1 (nx q x m) x) y).1=x';rw [FV,if_neg hne];exact a5;show(DU 0 (C8 t.2.2 (nx q x m) m) y).1=m';rw [FV,if_neg hne];exact a6;have he:j=t.1.length:=by omega
 subst he;refine⟨i,m,x,nx q x m,hi,hc.new hL hm,by rw [List.getElem?_append_left hi];exact hc.get,by simp [nx], ?_, ?_⟩;show(DU 0 (C8 t.2.1 (nx q x m) x) (nx q x m)).1=x;rw [FV,if_pos rfl];show(DU 0 (C8 t.2.2 (nx q x m) m) (nx q x m)).1=m;rw [FV,if_pos rfl]
theorem PT.fold{q:AD}{L:List Int}(hL:Et q L){t:TR}(h:PT q L t){i:Nat}{x:Int}(hc:CX q L i x 0 t.1):PT q L (L.foldl (D9 q x) t):=
 (PC L (fun k t=>PT q L t/\CX q L i x k t.1) (fun j m t hm h=>⟨h.1.step hL h.2 hm,by rw [aNy];exact h.2.step hm⟩) t ⟨h,hc⟩).1
theorem RP{q:AD}(hF:Df q)(hR:Af q){L:List Int}(hL:Et q L)(q2:AD)(acc:Bool)(i:Nat){x:Int}(hx: ∃n:Nat,x=(n:Int)/\n<256){t:TR}(ho:t.1[i]? =some x)(hl:t.1.length<=1000)(hT:TI t):aLg q2 acc L (i:Int) L (L.length:Int) q 0 t.1 t.2.1 t.2.2=some (L.foldl (D9 q x) t):=by rw [<-Mh hF hR hL i hx ho hl hT];rfl
theorem RO{q:AD}(hF:Df q)(hR:Af q)(hS:Ck q){L:List Int}(hL:Et q L){b:List X2}(he:X4 q b=some L)(acc:Bool){s:Nat}(hs:s<2^q.states.length):
 ∃o F B,Xz q b (s:Int) q acc=some (o,F,B)/\PT q L ((D3 q L acc s).2,F,B)/\((D3 q L acc s).1=(D3 q L acc s).2.length/\o=(D3 q L acc s).2\/(D3 q L acc s).1<(D3 q L acc s).2.length/\o=(D3 q L acc s).2.take ((D3 q L acc s).1+1)):=by
 have hb:=bdS (L:=L) hR hS hs
 have hacc: ∀{x:Int} {n:Nat},x=(n:Int)->n<256->Yl q x=some (HS q x):=fun{x n} e h=>by subst e;rw [FD hF (by omega),HS,Int.toNat_natCast]
 obtain⟨t,h,hQ⟩:=Ha hb (fun x=>HS q x==acc) (step:=fun s:Int×List Int×MP Int Int×MP Int Int=>Gr q acc L q s.1 s.2.1 s.2.2.1 s.2.2.2) (fun i o st=> ∃F B,st=((i:Int),o,F,B)/\PT q L (o,F,B))
  (fun i o t=> ∃o' F B,t=(o',F,B)/\PT q L (o,F,B)/\(i=o.length/\o'=o\/i<o.length/\o'=o.take (i+1)))
  (fun i x o st hI hr hx hp=>by
   obtain⟨F,B,rfl,hT⟩:=hr;have hl:=hb o hI.nd hI.rc;obtain⟨n,hn,hn2⟩:=rcS hR hS hs x (hI.rc x (List.mem_of_getElem? hx));have e:=RP hF hR hL q acc i ⟨n,hn,hn2⟩ (t:=(o,F,B)) hx (by simp only;omega) hT.ti;have e1:=JZ (q:=q) (x:=x) L (o,F,B);have e2:=hT.fold hL (CX.of hI hx);refine⟨(((i+1:Nat):Int),L.foldl (D9 q x) (o,F,B)), ?_,(L.foldl (D9 q x) (o,F,B)).2.1,(L.foldl (D9 q x) (o,F,B)).2.2, ?_, ?_⟩;have hc:(0:Int)<=(i:Int)/\(i:Int)+1<=(o.length:Int):=by have:=Bv hx;omega
   simp only at e;simp only [Gr,ltD hx,AI,Ak hc,AN hx,Qu,hacc hn hn2,AB,hp,AH,e,Ap hx (show o.length<=9223372036854775807 by omega)];rw [<-e1];rw [<-e1];exact e2)
  (fun i x o st hI hr hx hp=>by
   obtain⟨F,B,rfl,hT⟩:=hr;have hl:=hb o hI.nd hI.rc;have hxl:=Bv hx;obtain⟨n,hn,hn2⟩:=rcS hR hS hs x (hI.rc x (List.mem_of_getElem? hx));have hc:(0:Int)<=(i:Int)/\(i:Int)+1<=(o.length:Int):=by omega
   refine⟨(o.take (i+1),F,B), ?_,_,F,B,rfl,hT,.inr ⟨hxl,rfl⟩⟩;simp only [Gr,ltD hx,AI,Ak hc,AN hx,Qu,hacc hn hn2,AB,hp,Ap hx (show o.length<=9223372036854775807 by omega),Int.toNat_natCast];rw [Ak (by omega)])
  (fun o st _ hr=>by obtain⟨F,B,rfl,hT⟩:=hr;exact⟨(o,F,B),by simp only [Gr,ltI,AH],o,F,B,rfl,hT,.inl ⟨rfl,rfl⟩⟩) 257 0 [(s:Int)] ((0:Int),[(s:Int)],C8 (EN:MP Int Int) s s,EN) WI.init ⟨_,_,rfl,TI.init _,fun j h0 hj=>by simp at hj;omega⟩ (Nat.le_refl _)
 obtain⟨o',F,B,rfl,h1,h2⟩:=hQ
 have h':aLf q acc L q 0 [(s:Int)] (C8 (EN:MP Int Int) s s) EN=some (o',F,B):=h
 refine⟨o',F,B, ?_,h1,h2⟩
 unfold Xz
 rw [he,AB,h',AB]
theorem aQi{o:List Int}(h:o.Nodup){i j:Nat}{x:Int}(hi:o[i]? =some x)(hj:o[j]? =some x):i=j:=by
 have a:=Bv hi;have b:=Bv hj;have e1:o[i]=x:=by rw [List.getElem?_eq_getElem a,oe]at hi;exact hi
 have e2:o[j]=x:=by rw [List.getElem?_eq_getElem b,oe]at hj;exact hj
 rcases Nat.lt_trichotomy i j with h1|h1|h1
 exact absurd (e1.trans e2.symm) (List.pairwise_iff_getElem.1 h i j a b h1);exact h1;exact absurd (e2.trans e1.symm) (List.pairwise_iff_getElem.1 h j i b a h1)
theorem aNr{o:List Int}(h:o.Nodup){j:Nat}{x:Int}(hj:o[j]? =some x):x∉o.take j:=fun hx=>by obtain⟨i,hi⟩:=List.mem_iff_getElem?.1 hx;rw [List.getElem?_take]at hi;split at hi;rename_i hlt;have:=aQi h hi hj;omega;cases hi
theorem Par.uniq{q:AD}{L o:List Int}(hn:o.Nodup){j p1 p2:Nat}{m1 m2:Int}(h1:Par q L o j p1 m1)(h2:Par q L o j p2 m2):p1=p2:=by
 have key: ∀{p1 p2:Nat} {m1 m2:Int},Par q L o j p1 m1->Par q L o j p2 m2-> ¬p1<p2:=by rintro p1 p2 m1 m2 ⟨x,a1,a2,a3,_⟩ ⟨x',b1,b2,b3,b4,_⟩ hlt;exact aNr hn a2 (b4 p1 x hlt a1 m1 a3)
 have:=key h1 h2;have:=key h2 h1;omega
structure Chn(q:AD)(L o ms:List Int)(js:Nat->Nat)(j:Nat):Prop where
 zero:js 0=0
 last:js ms.length=j
 par: ∀i m,ms[i]? =some m->js i<js (i+1)/\Par q L o (js (i+1)) (js i) m
theorem YI{q:AD}{L:List Int}{t:TR}(h:PT q L t)(hn:t.1.Nodup){s:Int}(h0:t.1[0]? =some s): ∀(n j:Nat) (y:Int) (w:List Int),j<n->t.1[j]? =some y->w.length+j<=1000-> ∃ms js,VV s t.2.1 t.2.2 y w=some (w++ms.reverse)/\Chn q L t.1 ms js j/\ms.length<=j
 |0,j,y,w,hj,_,_=>by omega
 |n+1,j,y,w,hj,hy,hw=>by
  have hstep:VV s t.2.1 t.2.2 y w=CS (Kh s t.2.1 t.2.2 y w) (fun z:Int×List Int=>VV s t.2.1 t.2.2 z.1 z.2):=Ah _ _;rw [hstep];unfold Kh;by_cases hj0:j=0;subst hj0;rw [h0,oe]at hy;subst hy;rw [decide_eq_true rfl];exact⟨[],fun _=>0,by simp [AE,CS],⟨rfl,rfl,fun i m hm=>by simp at hm⟩,Nat.zero_le _⟩;obtain⟨pj,m,x,y',a1,a2,a3,a4,a5,a6⟩:=h.par j (by omega) (Bv hy);rw [hy,oe]at a4;subst a4;have hne:y≠s:=fun e=>hj0 (aQi hn hy (e▸h0));obtain⟨ms,js,b1,b2,b3⟩:=YI h hn h0 n pj x (w++[m]) (by omega) a3 (by simp;omega);refine⟨ms++[m],fun k=>if k<=ms.length then js k else j, ?_,⟨?_, ?_,fun i m' hm'=> ?_⟩,by simp;omega⟩
  rw [decide_eq_false hne,Bool.not_false,AI,K3 (by simp;omega) (by decide),BD];simp only [a5,a6,b1];simp;rw [if_pos (Nat.zero_le _)];exact b2.zero;rw [List.length_append,List.length_singleton,if_neg (by omega)];by_cases hi:i<ms.length;rw [List.getElem?_append_left hi]at hm';rw [if_pos (Nat.le_of_lt hi),if_pos (Nat.succ_le_of_lt hi)];exact b2.par i m' hm';have hil:=Bv hm';rw [List.length_append,List.length_singleton]at hil;have he:i=ms.length:=by omega
  subst he;rw [List.getElem?_append_right (Nat.le_refl _),Nat.sub_self,List.getElem?_cons_zero,oe]at hm';subst hm';rw [if_pos (Nat.le_refl _),if_neg (by omega),b2.last];exact⟨a1,a2⟩
theorem Pk{w:List Int}(hl:w.length<=100000):Zc w=some w.reverse:=by
 obtain⟨o,h1,h2⟩:=BE (step:=fun s:Int×Int×List Int=>Io s.1 s.2.1 s.2.2)
  (fun s=> ∃i:Nat,s.1=(i:Int)/\s.2.1=(w.length:Int)-1-i/\2*i<=w.length/\s.2.2.length=w.length/\ ∀k,k<w.length->s.2.2[k]? =if k<i\/w.length-1-i<k then w[w.length-1-k]? else w[k]?)
  (fun s=>(w.length-2*s.1).toNat) (fun o=>o=w.reverse)
  (by
   rintro⟨a,b,v⟩ ⟨i,rfl,hb,hi,hv,hk⟩;simp only at hb hv hk;subst hb;by_cases hc:(i:Int)<(w.length:Int)-1-i;right;have e1:(w.length:Int)-1-i=((w.length-1-i:Nat):Int):=by omega
   obtain⟨x1,hx1,_⟩:=AY (l:=v) (i:=w.length-1-i) (by omega);obtain⟨x2,hx2,_⟩:=AY (l:=v) (i:=i) (by omega);have g1:=hk (w.length-1-i) (by omega);rw [if_neg (by omega),hx1]at g1;have g2:=hk i (by omega);rw [if_neg (by omega),hx2]at g2;refine⟨(((i+1:Nat):Int),(w.length:Int)-1-((i+1:Nat):Int),(v.set i x1).set (w.length-1-i) x2), ?_,⟨i+1,rfl,rfl,by omega,by simp [hv],fun k hkl=> ?_⟩,by simp only;omega⟩;rw [Io];simp only [decide_eq_true hc,AI];simp only [e1];rw [Ak (by omega),AN hx1,Ak (by omega),AN hx2,Ak (by omega),Ak (by omega),Ak (by rw [List.length_set];omega),Ak (by rw [List.length_set];omega),LT (by omega),OC (by omega) (by omega),Int.toNat_natCast,Int.toNat_natCast];have e3:((w.length-1-i:Nat):Int)-1=(w.length:Int)-1-((i+1:Nat):Int):=by omega
   rw [e3];rw [List.getElem?_set,List.getElem?_set,List.length_set];by_cases c1:w.length-1-i=k;rw [if_pos c1,if_pos (by omega),if_pos (by omega),g2];congr 1;omega;rw [if_neg c1];by_cases c2:i=k;rw [if_pos c2,if_pos (by omega),if_pos (by omega),g1];congr 1;omega;rw [if_neg c2,hk k hkl];by_cases c3:k<i\/w.length-1-i<k;rw [if_pos c3,if_pos (by omega)];rw [if_neg c3,if_neg (by omega)];left;refine⟨v,by simp only [Io,decide_eq_false hc,AH], ?_⟩;apply List.ext_getElem?;intro k;by_cases hkl:k<w.length;rw [hk k hkl,List.getElem?_reverse hkl];by_cases c3:k<i\/w.length-1-i<k;rw [if_pos c3];rw [if_neg c3];congr 1;omega;rw [List.getElem?_eq_none_iff.2 (by omega),List.getElem?_eq_none_iff.2 (by simp;omega)])
  ((0:Int),(w.length:Int)-1,w) ⟨0,rfl,by simp,by omega,rfl,fun k hk=>by rw [if_neg (by omega)]⟩
 subst h2;have h1':aMc 0 ((w.length:Int)-1) w=some w.reverse:=h1;unfold Zc;rw [OC (by omega) (by omega),h1',AB]
theorem aTv{q:AD}(hF:Df q)(hR:Af q)(hS:Ck q){L:List Int}(hL:Et q L){b:List X2}(he:X4 q b=some L)(acc:Bool){s:Nat}(hs:s<2^q.states.length):
 (D3 q L acc s).1=(D3 q L acc s).2.length/\Yr q b (s:Int) acc=some ([],false)\/
 (D3 q L acc s).1<(D3 q L acc s).2.length/\ ∃ms js,Yr q b (s:Int) acc=some (ms,true)/\Chn q L (D3 q L acc s).2 ms js (D3 q L acc s).1:=by
 obtain⟨o,F,B,h1,h2,h3⟩:=RO hF hR hS hL he acc hs
 obtain⟨k1,k2,k3⟩:=OB hR hS L acc hs
 have hlen:=bdS (L:=L) hR hS hs _ k1.nd k1.rc
 have hacc: ∀x∈(D3 q L acc s).2,Yl q x=some (HS q x):=fun x hx=>by obtain⟨n,rfl,hn⟩:=rcS hR hS hs x (k1.rc x hx);rw [FD hF (by omega),HS,Int.toNat_natCast]
 have h0l:=Bv k1.hd
 unfold Yr
 rw [h1,AB]
 simp only
 rcases h3 with⟨c1,rfl⟩|⟨c1,rfl⟩
 refine .inl ⟨c1, ?_⟩
 obtain⟨x,hx,_⟩:=AY (l:=(D3 q L acc s).2) (i:=(D3 q L acc s).2.length-1) (by omega)
 have hp:=k2 ((D3 q L acc s).2.length-1) x (by omega) hx
 have e:AA .sub .i64 ((D3 q L acc s).2.length:Int) 1=(((D3 q L acc s).2.length-1:Nat):Int):=aQx (by omega) (by omega)
 rw [e,Ak (by omega),AN hx,hacc x (List.mem_of_getElem? hx),AB,hp]
 rfl
 refine .inr ⟨c1, ?_⟩
 obtain⟨x,hx,_⟩:=AY (l:=(D3 q L acc s).2) (i:=(D3 q L acc s).1) c1
 have hp:(HS q x==acc)=true:=by
  rcases k3 with h|⟨y,hy,hp⟩
  omega;rw [hx,oe]at hy;exact hy▸hp
 have hl2:((D3 q L acc s).2.take ((D3 q L acc s).1+1)).length=(D3 q L acc s).1+1:=by rw [List.length_take];omega
 have hx2:((D3 q L acc s).2.take ((D3 q L acc s).1+1))[(D3 q L acc s).1]? =some x:=by rw [List.getElem?_take,if_pos (by omega)];exact hx
 have e:AA .sub .i64 (((D3 q L acc s).1+1:Nat):Int) 1=((D3 q L acc s).1:Int):=by rw [aQx (by omega) (by omega)];simp
 obtain⟨ms,js,f1,f2,f3⟩:=YI (t:=((D3 q L acc s).2,F,B)) h2 k1.nd k1.hd _ _ x [] (Nat.lt_succ_self _) hx (by simp;omega)
 simp only [List.nil_append]at f1
 refine⟨ms,js, ?_,f2⟩
 rw [hl2,e,Ak (by omega),AN hx2,hacc x (List.mem_of_getElem? hx),AB,hp,Bool.not_true,AH,f1,AB,Pk (by simp;omega),AB,List.reverse_reverse]
theorem aJi{q:AD}{L o far:List Int}(hn:o.Nodup)(hT:FI q L (o,far)){ms:List Int}{js:Nat->Nat}{j:Nat}(hc:Chn q L o ms js j): ∀i,i<=ms.length->far[js i]? =some (i:Int)
 |0,_=>by rw [hc.zero];exact hT.zero
 |i+1,hi=>by
  obtain⟨m,hm,_⟩:=AY (l:=ms) (i:=i) (by omega);have ih:=aJi hn hT hc i (by omega);obtain⟨h1,h2⟩:=hc.par i m hm;obtain⟨x,_,h3,_⟩:=id h2;obtain⟨pj,m',f,a1,a2,a3,a4⟩:=hT.par (js (i+1)) (by omega) (Bv h3);have:=Par.uniq hn h2 a2;subst this;rw [ih,oe]at a3;rw [a4,<-a3];simp
theorem KT{q:AD}{L o ms:List Int}{js:Nat->Nat}{j:Nat}(hc:Chn q L o ms js j): ∀(k:Nat) (z y:Int),Way q L z k y->k<=ms.length->z∈o.take (js (ms.length-k))->y∈o.take j
 |0,z,y,hw,_,hz=>by
  cases hw;rw [Nat.sub_zero,hc.last]at hz;exact hz
 |k+1,z,y,hw,hk,hz=>by
  cases hw with
  |cons hm hw2=>
   rename_i m'
   obtain⟨m,hmm,_⟩:=AY (l:=ms) (i:=ms.length-(k+1)) (by omega)
   obtain⟨h1,x,h2,h3,h4,h5,h6⟩:=hc.par _ m hmm
   have e:ms.length-(k+1)+1=ms.length-k:=by omega
   rw [e]at h5
   refine KT hc k _ y hw2 (by omega) ?_
   obtain⟨p,hp⟩:=List.mem_iff_getElem?.1 hz
   rw [List.getElem?_take]at hp
   split at hp
   rename_i hlt
   exact h5 p z hlt hp m' hm
   cases hp
theorem aIe{q:AD}(hF:Df q)(hR:Af q)(hS:Ck q){L:List Int}(hL:Et q L){b:List X2}(he:Xm q b=some L)(acc:Bool){o ms:List Int}{js:Nat->Nat}{j:Nat}(hc:Chn q L o ms js j)(hno: ∀y∈o.take j,(HS q y==acc)=false)(hms:ms.length<=1000)(s10:Bool){i:Nat}{m x:Int}(hm:ms[i]? =some m)(hx:o[js i]? =some x)(hxs: ∃n:Nat,x=(n:Int)/\n<256):
 aLi b acc ms s10 (ms.length:Int) L x (i:Int) q false 0=some (.inl true):=by
 have hll:=hL.len
 have hil:=Bv hm
 obtain⟨_,x',h2,h3,h4,h5,h6⟩:=hc.par i m hm
 rw [hx,oe]at h2
 subst h2
 obtain⟨r,h1,h2⟩:=BE (step:=fun s:Bool×Int=>IK b acc ms s10 (ms.length:Int) L x (i:Int) q s.1 s.2) (fun s=> ∃k:Nat,s.2=(k:Int)/\k<=L.length/\(s.1=true\/m∈L.drop k)) (fun s=>(L.length-s.2).toNat) (fun r=>r= .inl true)
  (by
   rintro⟨mt,kk⟩ ⟨k,rfl,hk,hmt⟩;simp only at hmt⊢;by_cases hke:k=L.length;subst hke;rw [List.drop_length]at hmt;refine .inl ⟨.inl mt,by simp only [IK,ltI,AH], ?_⟩;rcases hmt with h|h
   rw [h];cases h;right;obtain⟨y,hy,hdr⟩:=AY (l:=L) (i:=k) (by omega);have hyL:=List.mem_of_getElem? hy;refine⟨(mt||decide (y=m),((k+1:Nat):Int)), ?_,⟨k+1,rfl,by omega, ?_⟩,by simp only;omega⟩;have hN:=(PU hF hR hL hxs hyL).2;obtain⟨r,hr,hcase⟩:=OG hF hR hS hL he acc (PS hR x.toNat y.toNat);have hsub:AA .sub .i64 (AA .sub .i64 (ms.length:Int) (i:Int)) 1=((ms.length-i-1:Nat):Int):=by
    have e0:AA .sub .i64 (ms.length:Int) (i:Int)=((ms.length-i:Nat):Int):=by rw [OC (by omega) (by omega)];omega
    rw [e0,OC (by omega) (by omega)];omega
   simp only [IK,ltD hy,AI,AN hy,AN hm,hN,hr,AB,hsub,Ap hy (show L.length<=9223372036854775807 by omega)];rw [Do];split;rename_i hlt;have hne: ¬r=((ms.length-i-1:Nat):Int):=fun e=>by
    rcases hcase with⟨_,h⟩|⟨k',z,far,h,_,_,_,hz,hw⟩
    omega;have hk':k'=ms.length-i-1:=by omega
    subst hk';have hin:=h6 y hyL hlt;have e1:i+1=ms.length-(ms.length-i-1):=by omega
    rw [e1]at hin;have:=hno z (KT hc _ _ z hw (by omega) hin);rw [hz]at this;cases this
   rw [decide_eq_false hne,AH];cases mt<;>rfl;cases mt<;>rfl;rw [hdr]at hmt;rcases hmt with h|h
   exact .inl (by simp [h]);rcases mc.1 h with h|h
   exact .inl (by simp [h]);exact .inr h)
  (false,(0:Int)) ⟨0,rfl,by omega,.inr (by simpa using h4)⟩
 rw [<-h2];exact h1
theorem aS8(q:AD)(b:List X2)(x:Int)(acc:Bool)(hW: ∀t∈q.trans,Jw t)(hb:b.length<=9223372036854775807)(hx:0<=x):Y0 q b x acc=some true:=by
 obtain⟨r,hr,hP⟩:=aIl q b hW hb;unfold Y0;rw [hr,AB,aUt];cases r with
 |false=>rfl
 |true=>
  obtain⟨hF,hR,hS,hB,hT,h3⟩:=hP rfl
  have h12:=hF.states
  rw [Bool.not_true,AH,Ak (by rw [Aw (by omega)];omega),aWa h12,Do]
  split
  rfl
  rename_i hlt
  obtain⟨n,rfl⟩: ∃n:Nat,x=(n:Int):=⟨x.toNat,by omega⟩
  have hs:n<2^q.states.length:=by omega
  obtain⟨L,e1,e2,_,hL⟩:=aNv hF hR hS hT h3 hB
  obtain⟨k1,k2,k3⟩:=OB hR hS L acc hs
  have hlen:=bdS (L:=L) hR hS hs _ k1.nd k1.rc
  obtain⟨r,hr,hcase⟩:=OG hF hR hS hL e2 acc hs
  rcases aTv hF hR hS hL e1 acc hs with⟨c1,hp⟩|⟨c1,ms,js,hp,hc⟩
  rw [hp,AB,hr,AB]
  have hr1:r= -1:=by
   rcases hcase with⟨_,h⟩|⟨_,_,_,_,_,_,h,_⟩
   exact h;have:=Bv h;omega
  subst hr1
  rfl
  rcases hcase with⟨h,_⟩|⟨k,y,far,rfl,hFI,hfar,hy,hacc,hw⟩
  omega
  have hms:ms.length=k:=by have:=aJi k1.nd hFI hc ms.length (Nat.le_refl _);rw [hc.last,hfar,oe]at this;omega
  subst hms
  have hno: ∀z∈(D3 q L acc n).2.take (D3 q L acc n).1,(HS q z==acc)=false:=fun z hz=>by obtain⟨p,hp⟩:=List.mem_iff_getElem?.1 hz;rw [List.getElem?_take]at hp;split at hp;rename_i hlt;exact k2 p z hlt hp;cases hp
  have hmsl:ms.length<=256:=by obtain⟨k',h1,h2⟩:=hFI.bd _ _ hfar;omega
  have hsm: ∀(p:Nat) z,(D3 q L acc n).2[p]? =some z-> ∃m:Nat,z=(m:Int)/\m<256:=fun p z hz=>rcS hR hS hs z (k1.rc z (List.mem_of_getElem? hz))
  obtain⟨o,ho,hQ⟩:=BE (step:=fun s:Int×Int=>IJ b acc ms true (ms.length:Int) L q s.1 s.2)
   (fun s=> ∃i:Nat,s.2=(i:Int)/\i<=ms.length/\(D3 q L acc n).2[js i]? =some s.1) (fun s=>(ms.length-s.2).toNat) (fun o=>o= .inl y)
   (by rintro⟨z,ii⟩ ⟨i,rfl,hi,hz⟩;simp only at hz;by_cases hie:i=ms.length;subst hie;rw [hc.last,hy,oe]at hz;exact .inl ⟨_,by simp only [IJ,ltI,AH];rfl,by simp [hz]⟩;obtain⟨m,hm,_⟩:=AY (l:=ms) (i:=i) (by omega);obtain⟨_,x',a1,a2,a3,_⟩:=hc.par i m hm;rw [hz,oe]at a1;subst a1;refine .inr ⟨(nx q z m,((i+1:Nat):Int)), ?_,⟨i+1,rfl,by omega,a2⟩,by simp only;omega⟩;simp only [IJ,ltD hm,AI,aIe hF hR hS hL e2 acc hc hno (by omega) true hm hz (hsm _ _ hz),AB,CR,Bool.not_true,AH,AN hm,(PU hF hR hL (hsm _ _ hz) a3).2,Ap hm (show ms.length<=9223372036854775807 by omega)];rfl)
   ((n:Int),(0:Int)) ⟨0,rfl,Nat.zero_le _,by rw [hc.zero];exact k1.hd⟩
  subst hQ
  have ho':aLh b acc ms true (ms.length:Int) L q (n:Int) 0=some (.inl y):=ho
  obtain⟨yn,rfl,hyn⟩:=hsm _ _ hy
  rw [hp,AB,hr,AB,decide_eq_false (by omega),AH,e2,AB,ho',AB,CR,AI,decide_eq_true rfl,AI,Ju hF (by omega),AB]
  rw [HS,Int.toNat_natCast]at hacc
  rw [hacc]
  rfl
end
end Go.Ac
