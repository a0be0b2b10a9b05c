/- Own work: the plain law. -/
import Derived.Test.YtgcfokfcilgnlaaGreatP23mx
set_option linter.unusedVariables false
set_option linter.unusedSimpArgs false
namespace Go.Ac
noncomputable section
theorem aXr{self:Int->Int->Int->List Int->Option (List Int)}{a b:Nat}(lim:Int)(s8 s9:Bool){w:List Int}(hS:Slf self (b-a))(hl:w.length<=60000)(hb:b<=w.length)(hab:a<=b)(hL:Lo a b w):
 ∃o,NX self (a:Int) (b:Int) lim s8 s9 w=some o/\((∃w',o=.inr w'/\Pm a b w w'/\So a b w')\/∃x,o=.inl x/\Rd a b w x):=by
 unfold NX
 rw[aAy (n:=b) (m:=a) (by omega)]
 by_cases h12:b-a<=12
 obtain⟨w',e1,e2,e3⟩:=aXz a b w (by omega) hb hab
 exact⟨_,by rw[decide_eq_true (by omega),AI,e1,AB],.inl ⟨w',rfl,e2,e3⟩⟩
 rw[decide_eq_false (by omega),AG]
 by_cases hlim:lim=0
 obtain⟨w',e1,e2,e3⟩:=aPy a b w (by omega) hb (by omega)
 exact⟨_,by rw[decide_eq_true hlim,AI,e1,AB],.inl ⟨w',rfl,e2,e3⟩⟩
 rw[decide_eq_false hlim,AG]
 obtain⟨l1,w1,e1,e2⟩:∃l1 w1,NY self (a:Int) (b:Int) lim s8 s9 ((b-a:Nat):Int) (!s8) w=some (l1,w1)/\Pm a b w w1:=by
  unfold NY;cases s8 with
  |true=>exact⟨_,_,rfl,Pm.refl _ _ _⟩
  |false=>
   obtain⟨w1,e1,e2⟩:=aSm a b w hl hb (by omega)
   exact⟨_,w1,by rw[Bool.not_false,AI,e1,AB],e2⟩
 have hl1:=e2.len
 obtain⟨pv,hint,f1,p,rfl,p1,p2⟩:=aTa a b w1 (by omega) (by omega) (by omega)
 obtain⟨p',hint',w2,g1,g2,g3,g4⟩:∃(p':Nat) (hint':Int) (w2:List Int),NZ self (a:Int) (b:Int) l1 s8 s9 ((b-a:Nat):Int) (p:Int) hint (decide (hint=2)) w1=some ((p':Int),hint',w2)/\a<=p'/\p'<b/\Pm a b w1 w2:=by unfold NZ;by_cases h2:hint=2;obtain⟨w2,g1,g2⟩:=aTg a b w1 (by omega) (by omega) hab;refine⟨b-1-(p-a),1,w2,?_,by omega,by omega,g2⟩;rw[decide_eq_true h2,AI,g1,AB,Dv (by omega),aAy (n:=p) (m:=a) (by omega),aAy (n:=b-1) (m:=p-a) (by omega)];exact⟨p,hint,w1,by rw[decide_eq_false h2,AG],p1,p2,Pm.refl _ _ _⟩
 have h02:=e2.trans g4
 have hL2:=hL.pm h02
 have hl2:=h02.len
 have fin:∀fl:Bool,∃o,(AJ (Jv self (a:Int) (b:Int) l1 s8 s9 ((b-a:Nat):Int) (p':Int) fl w2) fun o9=>
  CH o9 (fun o10=>aQi self (a:Int) (b:Int) ((b-a:Nat):Int) l1 s8 s9 (p':Int) o10) (fun o11=>some (.inr o11)))=some o/\((∃w',o=.inr w'/\Pm a b w w'/\So a b w')\/∃x,o=.inl x/\Rd a b w x):=fun fl=>by
  obtain⟨o,w3,h1,h2,h3⟩:=aXs (self:=self) l1 s8 s9 fl ((b-a:Nat):Int) (p':Int) (w1:=w2) (by omega) (by omega) (by omega) hL2
  rw[h1,AB]
  rcases h3 with rfl|⟨rfl,h3⟩
  obtain⟨x,x1,x2⟩:=aQj ((b-a:Nat):Int) l1 s8 s9 hS hl hb ⟨g2,g3⟩ (by omega) (h02.trans h2) (hL2.pm h2)
  exact⟨_,by rw[CR,x1],.inr ⟨x,rfl,x2⟩⟩
  exact⟨_,ED _ _ _,.inl ⟨w3,rfl,h02.trans h2,h3⟩⟩
 rw[e1,AB]
 simp only
 rw[f1,AB]
 simp only
 rw[g1,AB]
 simp only
 cases s8 with
 |true=>cases s9 with
  |true=>rw[AI,AI];exact fin (decide (hint'=1))
  |false=>rw[AI,AG];exact fin false
 |false=>rw[AG];exact fin false
theorem aS9{self:Int->Int->Int->List Int->Option (List Int)}{N:Nat}(hS:Slf self N):∀(m a b:Nat) (lim:Int) (s8 s9:Bool) (w:List Int),b-a<=m->b-a<=N->w.length<=60000->b<=w.length->a<=b->Lo a b w->
 ∃w',QG self (a:Int) (b:Int) lim s8 s9 w=some w'/\Pm a b w w'/\So a b w':=by
 intro m
 induction m using Nat.strongRecOn with
 |ind m ih=>
  intro a b lim s8 s9 w hm hN hl hb hab hL
  rw[aCw]
  unfold Ht
  obtain⟨o,e1,e2⟩:=aXr lim s8 s9 (fun a' b' l w' h1 h2 h3 h4 h5=>hS a' b' l w' (by omega) h2 h3 h4 h5) hl hb hab hL
  rw[e1,AB]
  rcases e2 with⟨w',rfl,f1,f2⟩|⟨x,rfl,f1⟩
  exact⟨w',by rw[ED,Ad],f1,f2⟩
  obtain⟨a',b',x1,x2,k1,k2,k3,k4,k5,k6,k7,k8⟩:=f1
  have hl5:=k5.len
  obtain⟨w',g1,g2,g3⟩:=ih (b'-a') (by omega) a' b' x.2.2.1 x.2.2.2.1 x.2.2.2.2.1 x.2.2.2.2.2 (Nat.le_refl _) (by omega) (by omega) (by omega) k2 k6
  refine⟨w',?_,k5.trans (g2.mono k1 k3),fun p q p1 p2 p3=>?_⟩
  rw[CR,BF]
  simp only
  rw[x1,x2];exact g1
  by_cases c1:p<a'
  rw[g2.out p (by omega)]
  by_cases c2:a'<=q/\q<b'
  obtain⟨q',q1,q2,q3⟩:=g2.src q c2.1 c2.2
  rw[q3];exact k7 p q' p1 c1 (by omega) (by omega)
  rw[g2.out q (by omega)];exact k7 p q p1 c1 p2 p3
  by_cases c2:b'<=q
  rw[g2.out q (by omega)]
  by_cases c3:p<b'
  obtain⟨p',q1,q2,q3⟩:=g2.src p (by omega) c3
  rw[q3];exact k8 p' q (by omega) (by omega) c2 p3
  rw[g2.out p (by omega)];exact k8 p q p1 p2 c2 p3
  exact g3 p q (by omega) p2 (by omega)
theorem aX8:∀n,Slf (aK8 n) n:=by
 intro n;induction n with
 |zero=>intro a b lim w h;omega
 |succ n ih=>
  intro a b lim w h1 h2 h3 h4 h5
  obtain⟨w',e1,e2,e3⟩:=aS9 ih (b-a) a b lim true true w (Nat.le_refl _) (by omega) h4 h3 h2 h5
  refine⟨w',?_,e2,e3⟩
  show aMs (aK8 n) (a:Int) (b:Int) lim w=some w'
  unfold aMs
  rw[e1,AB]
theorem NO{w:List Int}(hl:w.length<=60000):∃w',Q4 w=some w'/\w'.Perm w/\w'.Pairwise (· <= ·):=by obtain⟨k,e1,_⟩:=aK4 (n:=w.length) (by omega);obtain⟨w',f1,f2,f3⟩:=aX8 100000 0 w.length (k:Int) w (by omega) (by omega) (Nat.le_refl _) hl (fun h=>by omega);refine⟨w',?_,f2.perm,?_⟩;unfold Q4;rw[Aq (by omega),e1,AB];have f1':X9 0 (w.length:Int) (k:Int) w=some w':=f1;rw[f1',AB];rw[List.pairwise_iff_getElem];intro i j hi hj hij;have:=f3 i j (by omega) hij (by have:=f2.len;omega);rw[JP hi,JP hj];exact this
theorem Fv{l m:List Int}(h1:l.Pairwise (· <= ·))(h2:m.Pairwise (· <= ·))(hp:l.Perm m):l=m:=
 List.Perm.eq_of_pairwise (fun a b _ _ h3 h4=>by omega) h1 h2 hp
theorem aBx{w l:List Int}(hl:w.length<=60000)(hs:l.Pairwise (· <= ·))(hp:l.Perm w):U3 w=some l:=by unfold U3;refine aPe fun p hp'=>?_;obtain⟨w',e1,e2,e3⟩:=NO (w:=p) (by rw[hp'.length_eq];exact hl);rw[e1,Fv e3 hs (e2.trans (hp'.trans hp.symm))]
theorem YY{α:Type}{le:α->α->Bool}{x y:α}{l:List α}:y∈Mc le x l↔y=x\/y∈l:=by rw[(G4 le x l).mem_iff,mc]
theorem HK{α:Type}{le:α->α->Bool}(h1:∀a b,le a b=true\/le b a=true)(h2:∀a b c,le a b=true->le b c=true->le a c=true)(x:α):∀{l:List α},l.Pairwise (fun a b=>le a b=true)->(Mc le x l).Pairwise (fun a b=>le a b=true)
 |[],_=>by simp[Mc]
 |y::l,h=>by
  obtain⟨ha,hb⟩:=List.pairwise_cons.1 h;rw[Mc];split;rename_i hxy;refine List.pairwise_cons.2 ⟨fun z hz=>?_,h⟩;rcases mc.1 hz with rfl|hz
  exact hxy;exact h2 _ _ _ hxy (ha z hz);rename_i hxy;refine List.pairwise_cons.2 ⟨fun z hz=>?_,HK h1 h2 x hb⟩;rcases YY.1 hz with rfl|hz
  rcases h1 y z with h|h
  exact h;rw[hxy]at h;cases h;exact ha z hz
theorem Ev{α:Type}{le:α->α->Bool}(h1:∀a b,le a b=true\/le b a=true)(h2:∀a b c,le a b=true->le b c=true->le a c=true):∀(l:List α),(M3 le l).Pairwise (fun a b=>le a b=true)
 |[]=>List.Pairwise.nil
 |x::l=>HK h1 h2 x (Ev h1 h2 l)
theorem Eu(xs:List Int):(aKo xs).Pairwise (· <= ·):=
 (Ev (le:=fun a b:Int=>decide (a<=b)) (fun a b=>by simp only[decide_eq_true_eq];omega) (fun a b c h1 h2=>by simp only[decide_eq_true_eq]at*;omega) xs).imp fun h=>by simpa using h
theorem JX{V:Type}(S:List (Int×V)):(aJ5 S).Pairwise (fun a b=>a.1<=b.1):=
 (Ev (le:=fun a b:Int×V=>decide (a.1<=b.1)) (fun a b=>by simp only[decide_eq_true_eq];omega) (fun a b c h1 h2=>by simp only[decide_eq_true_eq]at*;omega) S).imp fun h=>by simpa using h
structure aQ4(n:Nat)(l:List Ar):Prop extends aT2 l where
 sym:∀h∈l,0<=h.symbol/\h.symbol<n
theorem aO3{a b:Nat}(h:a+b<18446744073709551616):AA .add .u64 (a:Int) (b:Int)=((a+b:Nat):Int):=by show IntKind.wrap .u64 ((a:Int)+(b:Int))=_;rw[<-Int.natCast_add];exact Aq h
theorem aMg{n:Nat}(hn:n<=12){l:List Ar}(hl:aQ4 n l):∃M:Nat,Z3 l=some (M:Int)/\M<18446744073709551616/\∀k:Nat,M.testBit k=true↔ ∃h∈l,h.symbol=(k:Int):=by
 have hln:=hl.len;obtain⟨o,ho,M,rfl,hQ⟩:=BC (step:=fun s:Int×Int=>Is l s.1 s.2)
  (fun s=>∃(j w:Nat),s=((w:Int),(j:Int))/\j<=l.length/\w<2^12/\∀k:Nat,w.testBit k=true↔ ∃i,i<j/\∃h,l[i]? =some h/\h.symbol=(k:Int))
  (fun s=>(l.length-s.2).toNat)
  (fun o=>∃M:Nat,o=(M:Int)/\M<18446744073709551616/\∀k:Nat,M.testBit k=true↔ ∃h∈l,h.symbol=(k:Int))
  (by
   rintro s ⟨j,w,rfl,hj,hw,hm⟩;by_cases he:j=l.length;subst he;refine .inl ⟨(w:Int),by simp only[Is,ltI,AG],w,rfl,Nat.lt_of_lt_of_le hw (by decide),fun k=>?_⟩;rw[hm k];constructor;rintro⟨i,_,h,hi,hs⟩;exact⟨h,List.mem_of_getElem? hi,hs⟩;rintro⟨h,hh,hs⟩;obtain⟨i,hi⟩:=List.mem_iff_getElem?.1 hh;exact⟨i,(List.getElem?_eq_some_iff.1 hi).1,h,hi,hs⟩;right;obtain⟨y,hy,_⟩:=AZ (l:=l) (i:=j) (by omega);have hsy:=hl.sym y (List.mem_of_getElem? hy);obtain⟨z,hz⟩:∃z:Nat,y.symbol=(z:Int):=⟨y.symbol.toNat,by omega⟩;have hz12:z<12:=by omega
   have hwz:w<2^z:=Nat.lt_pow_two_of_testBit w fun i hi=>by
    cases hb:w.testBit i with
    |false=>rfl
    |true=>
     exfalso
     obtain⟨a,ha,h,hh,hs⟩:=(hm i).1 hb
     obtain⟨p1,e1⟩:=List.getElem?_eq_some_iff.1 hh
     obtain⟨p2,e2⟩:=List.getElem?_eq_some_iff.1 hy
     have:=List.pairwise_iff_getElem.1 hl.rise a j p1 p2 ha
     rw[e1,e2]at this
     omega
   have hor:w+2^z=2^z|||w:=by have:=Nat.two_pow_add_eq_or_of_lt hwz 1;rw[Nat.mul_one]at this;rw[Nat.add_comm];exact this
   have hp12:2^z<2^12:=Nat.pow_lt_pow_right (by decide) hz12;have hlt12:w+2^z<2^12:=by rw[hor];exact Nat.or_lt_two_pow hp12 hw
   have hwz2:IntKind.wrap .u64 (z:Int)=(z:Int):=Aq (by omega);refine⟨(((w+2^z:Nat):Int),((j+1:Nat):Int)),?_,⟨j+1,w+2^z,rfl,by omega,hlt12,fun k=>?_⟩,by simp only;omega⟩;simp only[Is,ltD hy,AI,AN hy,hz,hwz2,Aw (show(0:Int)<=(z:Int) by omega),Ag hy (show l.length<=9223372036854775807 by omega)];rw[aAq (by omega),aO3 (Nat.lt_of_lt_of_le hlt12 (by decide))];rw[hor,Nat.testBit_or,Nat.testBit_two_pow,Bool.or_eq_true,decide_eq_true_eq,hm k];constructor;rintro(h|⟨i,hi,a⟩);exact⟨j,by omega,y,hy,by rw[hz,h]⟩;exact⟨i,by omega,a⟩;rintro⟨i,hi,h,hh,hs⟩;rcases Nat.lt_or_ge i j with g|g
   exact .inr ⟨i,g,h,hh,hs⟩;have:i=j:=by omega
   subst this;rw[hy,oe]at hh;subst hh;exact .inl (by omega))
  ((0:Int),(0:Int)) ⟨0,0,rfl,by omega,by decide,fun k=>by simp⟩
 have ho':aOe l 0 0=some (M:Int):=ho;exact⟨M,by unfold Z3;rw[ho',AB],hQ⟩
theorem Fp{α:Type}(f:Nat->α->Nat)(P:α->Nat->Prop)(hf:∀w x k,(f w x).testBit k=true↔w.testBit k=true\/P x k):∀(l:List α) (w k:Nat),(l.foldl f w).testBit k=true↔w.testBit k=true\/∃x∈l,P x k
 |[],w,k=>by simp
 |x::l,w,k=>by
  rw[List.foldl_cons,Fp f P hf l,hf];constructor;rintro((h|h)|⟨y,hy,h⟩);exact .inl h;exact .inr ⟨x,by simp,h⟩;exact .inr ⟨y,List.mem_cons_of_mem _ hy,h⟩;rintro(h|⟨y,hy,h⟩);exact .inl (.inl h);rcases mc.1 hy with rfl|hy
  exact .inl (.inr h);exact .inr ⟨y,hy,h⟩
theorem aQk(q:AD)(M s k:Nat):(toN q M s).testBit k=true↔ ∃t∈q.trans,(t.from_=(s:Int)/\M.testBit t.symbol.toNat=true)/\t.to.toNat=k:=by
 unfold toN;rw[Fp (toF M s) (fun t k=>(t.from_=(s:Int)/\M.testBit t.symbol.toNat=true)/\t.to.toNat=k) (fun w t k=>by unfold toF;by_cases h:t.from_=(s:Int)/\M.testBit t.symbol.toNat=true;rw[if_pos h,Nat.testBit_or,Nat.testBit_two_pow,Bool.or_eq_true,decide_eq_true_eq];exact⟨fun a=>a.elim .inl fun b=>.inr ⟨h,b⟩,fun a=>a.elim .inl fun b=>.inr b.2⟩;rw[if_neg h];exact⟨.inl,fun a=>a.elim id fun b=>absurd b.1 h⟩)]
 simp
theorem ZU(q:AD)(S M k:Nat):(Dg q S M).testBit k=true↔ ∃s,s<q.states.length/\S.testBit s=true/\(aLo q M s).testBit k=true:=by
 unfold Dg;rw[Fp (LW q S M) (fun s k=>S.testBit s=true/\(aLo q M s).testBit k=true) (fun w s k=>by unfold LW;by_cases h:S.testBit s=true;rw[if_pos h,Nat.testBit_or,Bool.or_eq_true];exact⟨fun a=>a.elim .inl fun b=>.inr ⟨h,b⟩,fun a=>a.elim .inl fun b=>.inr b.2⟩;rw[if_neg h];exact⟨.inl,fun a=>a.elim id fun b=>absurd b.1 h⟩)]
 simp only[List.mem_range,Nat.zero_testBit,Bool.false_eq_true,false_or]
theorem Rb{q:AD}(hF:DF q)(hR:Af q)(hS:CI q)(e:X8)(b:List X2):aQ4 q.symbols.length (((List.range q.symbols.length).filterMap fun i=>JT q i e).filter fun h=>D5 h.bind b):=by
 have hsy:=hF.symbols;have hmem:∀h∈(List.range q.symbols.length).filterMap (fun i=>JT q i e),∃i,i<q.symbols.length/\JT q i e=some h:=fun h hh=>by obtain⟨i,hi,hh⟩:=List.mem_filterMap.1 hh;exact⟨i,List.mem_range.1 hi,hh⟩
 refine⟨⟨fun h hh=>?_,?_,?_⟩,fun h hh=>?_⟩;obtain⟨i,_,hi⟩:=hmem h (List.mem_filter.1 hh).1;exact YV hR hS hi;refine List.Pairwise.filter _ ?_;rw[List.pairwise_filterMap];refine List.Pairwise.imp ?_ (List.pairwise_lt_range (n:=q.symbols.length));intro i j hij a ha c hc;have h1:=(MZ ha).1;have h2:=(MZ hc).1;omega;have h1:=List.length_filter_le (fun h:Ar=>D5 h.bind b) ((List.range q.symbols.length).filterMap fun i=>JT q i e);have h2:=List.length_filterMap_le (fun i=>JT q i e) (List.range q.symbols.length);rw[List.length_range]at h2;omega;obtain⟨i,hi,hh⟩:=hmem h (List.mem_filter.1 hh).1;have:=(MZ hh).1;omega

theorem He(l:List X0)(v:X0)(hl:l.length<=1000000):Qa l v=some (decide (v∈l)):=by
 have hloop:aIu l (l.length:Int) v 0=some (if(l.any fun t=>decide (v=t))=true then .inr ((l.findIdx fun t=>decide (v=t):Nat):Int)else .inl ()):=by unfold aIu;refine Dt (step:=fun s=>Iz l (l.length:Int) v s) l (fun t=>decide (v=t)) (fun i x hx=>?_) ?_;simp only[Iz,ltD hx,AI,AN hx,X0.eqb_dec,Ag hx (show l.length<=9223372036854775807 by omega)];by_cases h:v=x<;>simp[h,AE];simp only[Iz,ltI,AG]
 have hany:(l.any fun t=>decide (v=t))=decide (v∈l):=by rw[Bool.eq_iff_iff,List.any_eq_true];simp
 unfold Qa Zd;rw[hloop,AB,hany];by_cases h:v∈l;simp only[h,decide_true,if_true,ED,AB];simp;simp only[h,decide_false,Bool.false_eq_true,if_false,CR,AB];rfl
theorem FV{w:List X0}{x v:X0}:v∈NF w x↔v=x\/v∈w:=by unfold NF;by_cases h:x∈w;rw[if_pos h];exact⟨.inr,fun hh=>hh.elim (fun e=>e▸h) id⟩;rw[if_neg h];simp only[ma,mc,List.mem_filter];cases ltV v x<;>simp<;>constructor<;>(intro hh;rcases hh with a|b<;>simp_all)
theorem R4{x:X0}:Zs x=some (true,[x]):=by
 have hb:Y6 ([]:List X0) x ([]:List X0)=some (0,false):=by unfold Y6 aGn;rw[Al];simp[Gu,VV,AE,AJ,CY]
 unfold Zs aI7 U8 aTu;rw[hb];simp[AJ,AE,fit]
theorem aQ0{w:List X0}(h:w.length<=1000):Qi w=some (w,w):=by unfold Qi U9 PY;rw[if_pos (B0 (by omega) (by decide))];rfl



theorem G6{α β τ:Type}{step:β×Int->Option (β×Int⊕τ)}(l:List α)(f:β->α->β)(fin:β->τ)(I:Nat->β->Prop)
 (h1:∀(i:Nat) x w,l[i]? =some x->I i w->step (w,(i:Int))=some (.inl (f w x,((i+1:Nat):Int)))/\I (i+1) (f w x))
 (h2:∀w,I l.length w->step (w,(l.length:Int))=some (.inr (fin w))) (w:β) (h0:I 0 w):AQ step (w,0)=some (fin (l.foldl f w)):=by
 have h:=E7 (step:=step) l (fun i w=>(w,(i:Int))) (fun _ w x=>(.inl (f w x):β⊕τ)) fin I (fun i x w hx hI=>⟨(h1 i x w hx hI).1,fun w' hw=>by cases hw;exact(h1 i x w hx hI).2⟩) h2 (l.length+1) 0 w (by omega) (by omega) h0
 rw[show(w,(0:Int))=(w,((0:Nat):Int))from rfl,h,List.drop_zero]
 congr 1
 clear h h1 h2 h0
 generalize 0=i
 revert i w
 induction l with
 |nil=>intro w i;rfl
 |cons x xs ih=>intro w i;rw[Lt];exact ih _ _
def KK(k:Int)(w:List X0)(a:BW):List X0:=if a.kind=1/\a.value.kind=k then NF w a.value else w
def De(q:AD)(k:Int):List X0:=q.symbols.foldl (fun w s=>s.args.foldl (KK k) w) (if k=3 then [X0.mk 3 0 [] false,X0.mk 3 0 [] true]else [])
theorem JO{α β:Type}(I:Nat->β->Prop)(f:β->α->β):∀(l:List α) (i:Nat) (w:β),(∀(j:Nat) x w,x∈l->I j w->I (j+1) (f w x))->I i w->I (i+l.length) (l.foldl f w)
 |[],i,w,_,h0=>h0
 |x::l,i,w,h,h0=>by
  rw[List.foldl_cons,List.length_cons,show i+(l.length+1)=(i+1)+l.length by omega];exact JO I f l (i+1) _ (fun j y w hy=>h j y w (List.mem_cons_of_mem _ hy)) (h i x w (by simp) h0)
theorem NM(k:Int):SW (if k=3 then [X0.mk 3 0 [] false,X0.mk 3 0 [] true]else []):=by
 split;refine⟨?_,?_⟩;simp[ltV];intro v hv;simp only[mc,List.not_mem_nil,or_false]at hv;rcases hv with rfl|rfl<;>decide
 exact⟨List.Pairwise.nil,by simp⟩
theorem LD{k:Int}{w:List X0}{a:BW}{n:Nat}(ha:a.kind=1->vR a.value=true)(hw:SW w)(hl:w.length<=n):SW (KK k w a)/\(KK k w a).length<=n+1:=by unfold KK;split;rename_i h;have:=L1 hw (ha h.1);refine⟨this.1,?_⟩;rw[this.2];split<;>omega;exact⟨hw,by omega⟩
theorem LE{q:AD}(hF:DF q)(hR:Af q){s:X3}(hs:s∈q.symbols){k:Int}{w:List X0}{n:Nat}(hw:SW w)(hl:w.length<=n):SW (s.args.foldl (KK k) w)/\(s.args.foldl (KK k) w).length<=n+12:=by have h:=JO (fun i w=>SW w/\w.length<=n+i) (KK k) s.args 0 w (fun j a w ha hI=>LD ((hR.symbols s hs).args a ha).one hI.1 hI.2) ⟨hw,by omega⟩;have:=hF.args s hs;exact⟨h.1,by omega⟩
theorem cons_inv{q:AD}(hF:DF q)(hR:Af q)(k:Int):SW (De q k)/\(De q k).length<=200:=by
 have h:=JO (fun i w=>SW w/\w.length<=2+12*i) (fun w s=>s.args.foldl (KK k) w) q.symbols 0 (if k=3 then [X0.mk 3 0 [] false,X0.mk 3 0 [] true]else [])
  (fun j s w hs hI=>by have:=LE hF hR hs (k:=k) hI.1 hI.2;exact⟨this.1,by omega⟩) ⟨NM k,by split<;>simp⟩
 have:=hF.symbols;exact⟨h.1,by unfold De;omega⟩
theorem aVj{q:AD}(hF:DF q)(hR:Af q)(k:Int):Xm q k=some (De q k):=by
 have hsy:=hF.symbols;have hb:T6 k (decide (k=3)) q=some (if k=3 then [X0.mk 3 0 [] false,X0.mk 3 0 [] true]else []):=by unfold T6 Qh;rw[Dj];split;simp only[AB,R4];rw[Lx (w:=[X0.mk 3 0 [] false]) ⟨by simp,by simp;decide⟩ (by decide) (by simp)];rfl;rfl
 have hin:∀(s:X3) (i:Int) (w:List X0),s∈q.symbols->SW w->w.length<=200->aEf k q.symbols (q.symbols.length:Int) i s.args (s.args.length:Int) 0 w=some (s.args.foldl (KK k) w):=by intro s i w hs hw hl;have ha:=hF.args s hs;unfold aEf;refine Ci (step:=fun z:Int×List X0=>IH k q.symbols (q.symbols.length:Int) i s.args (s.args.length:Int) z.1 z.2) s.args (KK k) id (fun j w=>SW w/\w.length<=200+j) (fun j a w hx hI=>?_) (fun w _=>?_) w ⟨hw,by omega⟩;have hv:=((hR.symbols s hs).args a (List.mem_of_getElem? hx)).one;have hlt:=(List.getElem?_eq_some_iff.1 hx).1;refine⟨?_,LD hv hI.1 hI.2⟩;simp only[IH,ltD hx,AI,aEc,AN hx,Ag hx (show s.args.length<=9223372036854775807 by omega),T7];unfold KK;by_cases h1:a.kind=1<;>by_cases h2:a.value.kind=k;rw[Dj,if_pos h1,Dj,if_pos h2,if_pos ⟨h1,h2⟩,Lx hI.1 (hv h1) (by have:=hI.2;omega)];rfl;rw[Dj,if_pos h1,Dj,if_neg h2,if_neg (fun h=>h2 h.2)];rfl;rw[Dj,if_neg h1,if_neg (fun h=>h1 h.1)];rfl;rw[Dj,if_neg h1,if_neg (fun h=>h1 h.1)];rfl;simp only[IH,ltI,AG,id]
 unfold Xm U0 aNb;rw[AB,hb,AB,Ci (step:=fun z:Int×List X0=>IG k q.symbols (q.symbols.length:Int) z.1 z.2) q.symbols (fun w s=>s.args.foldl (KK k) w) id (fun j w=>SW w/\w.length<=2+12*j)
  (fun j s w hx hI=>by have hs:=List.mem_of_getElem? hx;have hlt:=(List.getElem?_eq_some_iff.1 hx).1;have:=LE hF hR hs (k:=k) hI.1 hI.2;refine⟨?_,this.1,by omega⟩;simp only[IG,ltD hx,AI,AN hx,Ag hx (show q.symbols.length<=9223372036854775807 by omega)];rw[hin s _ w hs hI.1 (by have:=hI.2;omega)];rfl)
  (fun w _=>by simp only[IG,ltI,AG,id]) _ ⟨NM k,by split<;>simp⟩,AB]
 have hc:=cons_inv hF hR k;show AJ (Qi (De q k)) _=_;rw[aQ0 (by omega)];rfl
theorem aRx{q:AD}(hF:DF q)(hR:Af q)(k:Int):Xk q k=some (De q k):=by
 have hsy:=hF.symbols;have hb:Tr k (decide (k=3)) q=some (if k=3 then [X0.mk 3 0 [] false,X0.mk 3 0 [] true]else []):=by unfold Tr;rw[Dj];split<;>rfl
 have hin:∀(s:X3) (i:Nat) (w:List X0),q.symbols[i]? =some s->SW w->w.length<=200->aD4 k (i:Int) q w 0=some (s.args.foldl (KK k) w):=by intro s i w hxs hw hl;have hs:=List.mem_of_getElem? hxs;have ha:=hF.args s hs;unfold aD4;refine G6 (step:=fun z:List X0×Int=>IF k (i:Int) q z.1 z.2) s.args (KK k) id (fun j w=>SW w/\w.length<=200+j) (fun j a w hx hI=>?_) (fun w _=>?_) w ⟨hw,by omega⟩;have hv:=((hR.symbols s hs).args a (List.mem_of_getElem? hx)).one;have hlt:=(List.getElem?_eq_some_iff.1 hx).1;refine⟨?_,LD hv hI.1 hI.2⟩;simp only[IF,AN hxs,ltD hx,AI,aD1,AN hx,Ag hx (show s.args.length<=9223372036854775807 by omega),Ts];unfold KK;by_cases h1:a.kind=1<;>by_cases h2:a.value.kind=k;rw[Dj,if_pos h1,Dj,if_pos h2,if_pos ⟨h1,h2⟩,aHd hI.1 (hv h1) (by have:=hI.2;omega)];rfl;rw[Dj,if_pos h1,Dj,if_neg h2,if_neg (fun h=>h2 h.2)];rfl;rw[Dj,if_neg h1,if_neg (fun h=>h1 h.1)];rfl;rw[Dj,if_neg h1,if_neg (fun h=>h1 h.1)];rfl;simp only[IF,AN hxs,ltI,AG,id]
 unfold Xk aM8;rw[hb,AB,G6 (step:=fun z:List X0×Int=>IE k q z.1 z.2) q.symbols (fun w s=>s.args.foldl (KK k) w) id (fun j w=>SW w/\w.length<=2+12*j)
  (fun j s w hx hI=>by have hs:=List.mem_of_getElem? hx;have hlt:=(List.getElem?_eq_some_iff.1 hx).1;have:=LE hF hR hs (k:=k) hI.1 hI.2;refine⟨?_,this.1,by omega⟩;simp only[IE,ltD hx,AI,Ag hx (show q.symbols.length<=9223372036854775807 by omega)];rw[hin s j w hx hI.1 (by have:=hI.2;omega)];rfl)
  (fun w _=>by simp only[IE,ltI,AG,id]) _ ⟨NM k,by split<;>simp⟩,AB]
 rfl
def GP(k:Int)(j:Nat):X0:=if k=1 then⟨k,(j:Int),[],false⟩else⟨k,0,List.replicate j 97,false⟩
theorem aKf{k:Int}{i j:Nat}(h:GP k i=GP k j):i=j:=by
 unfold GP at h;split at h;injection h with _ h2;omega
 injection h with _ _ h3
 have:=congrArg List.length h3;simpa using this
theorem Mn(k:Int)(j:Nat):(GP k j).kind=k:=by unfold GP;split<;>rfl
theorem ZS{k:Int}{j:Nat}(hk:k=1\/k=2)(hj:j<=1000):vR (GP k j)=true:=by
 unfold GP vR;rcases hk with rfl|rfl
 simp;simp;omega
theorem aL0{α:Type} [DecidableEq α](f:Nat->α)(hf:∀i j,f i=f j->i=j):∀(n:Nat) (l:List α),(∀i,i<n->f i∈l)->n<=l.length
 |0,_,_=>Nat.zero_le _
 |n+1,l,h=>by
  have hm:=h n (by omega);have:=aL0 f hf n (l.erase (f n)) (fun i hi=>(List.mem_erase_of_ne (fun e=>by have:=hf _ _ e;omega)).2 (h i (by omega)));rw[List.length_erase_of_mem hm]at this;have:0<l.length:=List.length_pos_of_mem hm;omega
theorem aQ3{w:List X0}{v:X0}(hw:SW w)(hv:vR v=true)(hl:w.length<=900):Ql w v=some (decide (v∈w)):=by unfold Ql;rw[aHd hw hv hl,AB,(L1 hw hv).2];by_cases h:v∈w;simp[h];simp only[h,if_false,decide_false,oe,decide_eq_false_iff_not];omega
theorem Mo(k:Int)(j:Nat)(hk:k=1\/k=2)(hj:j<=1000)(l:List X0)(z:X0):VP k l z (GP k j)=some (GP k (j+1))/\VY k l z (GP k j)=some (GP k (j+1)):=by
 unfold VP VY aGb aGq GP;rcases hk with rfl|rfl
 simp only[if_true,decide_true,AI,AB];rw[L8 (by omega) (by omega)];simp;simp only[show¬(2:Int)=1 by decide,if_false,decide_false,AG,List.length_replicate];rw[Aw (by simp;omega)];simp[AJ,List.replicate_succ']
theorem Ps{k:Int}(hk:k=1\/k=2){l w:List X0}(hl:l.length<=1000)(hw:SW w)(hwl:w.length<=900)(hm:∀v,v.kind=k->(v∈w↔v∈l))(z:X0):∀(m j:Nat),j+m<=900->(∃i,j<=i/\i<j+m/\GP k i∉l)->∃i,j<=i/\i<j+m/\GP k i∉l/\QV k l z (GP k j)=some (GP k i)/\VZ k w z (GP k j)=some (GP k i)
 |0,j,_,⟨i,h1,h2,_⟩=>by omega
 |m+1,j,hj,⟨i,h1,h2,h3⟩=>by
  have e1:Qa l (GP k j)=some (decide (GP k j∈l)):=He _ _ (by omega);have e2:Ql w (GP k j)=some (decide (GP k j∈l)):=by rw[aQ3 hw (ZS hk (by omega)) hwl];simp only[hm _ (Mn k j)]
  by_cases h:GP k j∈l;have hne:i≠j:=fun e=>h3 (e▸h);obtain⟨i',a1,a2,a3,a4,a5⟩:=Ps hk hl hw hwl hm z m (j+1) (by omega) ⟨i,by omega,by omega,h3⟩;refine⟨i',by omega,by omega,a3,?_,?_⟩;rw[PD];unfold IY;rw[e1,AB];simp only[h,decide_true,AI,(Mo k j hk (by omega) l z).1,AB,BF];exact a4;rw[PF];unfold Ia;rw[e2,AB];simp only[h,decide_true,AI,(Mo k j hk (by omega) w z).2,AB,BF];exact a5;refine⟨j,by omega,by omega,h,?_,?_⟩;rw[PD];unfold IY;rw[e1,AB];simp only[h,decide_false,AG,Ad];rw[PF];unfold Ia;rw[e2,AB];simp only[h,decide_false,AG,Ad]
def EJ(n:Nat)(p:Nat->Bool):Nat:=(List.range n).foldl (fun w i=>if p i=true then w|||2^i else w) 0
theorem KM(n:Nat)(p:Nat->Bool):EJ (n+1) p=if p n=true then EJ n p|||2^n else EJ n p:=by unfold EJ;rw[List.range_succ,List.foldl_append];rfl
theorem E5(n:Nat)(p:Nat->Bool)(k:Nat):(EJ n p).testBit k=true↔k<n/\p k=true:=by
 induction n with
 |zero=>simp[EJ]
 |succ n ih=>
  rw[KM]
  split
  rename_i h
  rw[Nat.testBit_or,Nat.testBit_two_pow,Bool.or_eq_true,decide_eq_true_eq,ih]
  constructor
  rintro(⟨a,b⟩|rfl)
  exact⟨by omega,b⟩
  exact⟨by omega,h⟩
  rintro⟨a,b⟩
  by_cases hk:n=k
  exact .inr hk
  exact .inl ⟨by omega,b⟩
  rename_i h
  rw[ih]
  constructor
  rintro⟨a,b⟩;exact⟨by omega,b⟩
  rintro⟨a,b⟩
  refine⟨?_,b⟩
  by_cases hk:n=k
  subst hk;exact absurd b h
  omega
theorem HZ(n:Nat)(p:Nat->Bool):EJ n p<2^n:=Nat.lt_pow_two_of_testBit _ fun i hi=>by
 cases h:(EJ n p).testBit i with
 |false=>rfl
 |true=>have:=(E5 n p i).1 h;omega
theorem PO{a b:Nat}(h:∀k,a.testBit k=true↔b.testBit k=true):a=b:=Nat.eq_of_testBit_eq fun i=>by rw[Bool.eq_iff_iff];exact h i
theorem Mj{step:Int×Int->Option (Int×Int⊕Int)}{n:Nat}(hn:n<=12)(p:Nat->Bool)
 (h1:∀i w:Nat,i<n->w<4096->step ((w:Int),(i:Int))=some (.inl (((if p i=true then w|||2^i else w:Nat):Int),((i+1:Nat):Int))))
 (h2:∀w:Nat,step ((w:Int),(n:Int))=some (.inr (w:Int))):AQ step (0,0)=some ((EJ n p:Nat):Int):=by
 refine aJ8 (fun s=>∃i:Nat,i<=n/\s=(((EJ i p:Nat):Int),(i:Int))) (fun s=>(n-s.2).toNat) (fun _=>((EJ n p:Nat):Int)) ?_ (0,0) ⟨0,by omega,rfl⟩
 rintro s ⟨i,hi,rfl⟩
 by_cases he:i=n
 subst he;exact .inl (h2 _)
 have hlt:EJ i p<4096:=Nat.lt_of_lt_of_le (HZ i p) (show 2^i<=2^12 from Nat.pow_le_pow_right (by decide) (by omega))
 refine .inr ⟨_,h1 i (EJ i p) (by omega) hlt,⟨i+1,by omega,by rw[KM]⟩,?_,rfl⟩
 simp only;omega
def Ru(b:List X2)(a:BW)(x:X0):Bool:=if a.kind=1 then decide (a.value=x)else if a.kind=2 then decide (EF b a.n=(x,true))else true
theorem NA{w b:List X2}(h:D5 w b=true){s:X2}(hs:s∈w):EF b s.var=(s.value,true):=by unfold D5 at h;have:=(List.all_eq_true.1 h) s hs;simpa using this
theorem aBa{w b:List X2}{x:X2}:D5 (N8 w x) b=true↔EF b x.var=(x.value,true)/\D5 w b=true:=by unfold D5;simp only[List.all_eq_true,decide_eq_true_eq,EW];constructor;intro h;exact⟨h x (.inl rfl),fun s hs=>h s (.inr hs)⟩;rintro⟨h1,h2⟩ s (rfl|hs);exact h1;exact h2 s hs
theorem Pd(b:List X2):∀(al:List BW) (xs:List X0) (bd f:List X2),al.length=xs.length->(∀a∈al,a.kind≠3)->
 ((∃p,HP al xs bd f=some p/\D5 p.1 b=true)↔D5 bd b=true/\∀z∈al.zip xs,Ru b z.1 z.2=true)
 |[],[],bd,f,_,_=>by simp[HP]
 |[],x::xs,bd,f,h,_=>by simp at h
 |a::al,[],bd,f,h,_=>by simp at h
 |a::al,x::xs,bd,f,hl,hk=>by
  have hl':al.length=xs.length:=by simpa using hl
  have hk':∀a∈al,a.kind≠3:=fun y hy=>hk y (List.mem_cons_of_mem _ hy);have h3:=hk a (by simp);have ih:=fun bd f=>Pd b al xs bd f hl' hk';rw[HP,List.zip_cons_cons];simp only[List.forall_mem_cons];unfold Ru;by_cases k1:a.kind=1;rw[if_pos k1,if_pos k1];by_cases hv:a.value=x;rw[if_pos hv,ih];simp[hv,Ru];rw[if_neg hv];simp[hv];rw[if_neg k1,if_neg k1];by_cases k2:a.kind=2;rw[if_pos k2,if_pos k2];unfold Mu;by_cases hg:(EF bd a.n).2=true;simp only[hg,if_true];have hge:EF bd a.n=((EF bd a.n).1,true):=by rw[<-hg]
  by_cases hv:(EF bd a.n).1=x;simp only[hv,if_true];rw[ih];constructor;rintro⟨u,z⟩;have:=NA u (FQ hge);simp only[hv]at this;exact⟨u,by simp[this],z⟩;rintro⟨u,_,z⟩;exact⟨u,z⟩;simp only[hv,if_false];constructor;rintro⟨p,hp,_⟩;cases hp;rintro⟨u,z,_⟩;have:=NA u (FQ hge);simp only[decide_eq_true_eq]at z;rw[z]at this;exact absurd (by simpa using this.symm) hv;simp only[hg,if_false,Bool.false_eq_true];rw[ih,aBa];simp only[decide_eq_true_eq];constructor;rintro⟨⟨h1,h2⟩,z⟩;exact⟨h2,h1,z⟩;rintro⟨h2,h1,z⟩;exact⟨⟨h1,h2⟩,z⟩;rw[if_neg k2,if_neg h3,if_neg k2,ih];simp[Ru]
def N6(q:AD)(b:List X2)(d:Nat)(args:List X0)(i:Nat):Bool:=match q.symbols[i]? with
 |some s=>decide (s.event=(d:Int))&&(s.args.zip args).all fun z=>Ru b z.1 z.2
 |none=>false
def mkM(q:AD)(b:List X2)(d:Nat)(args:List X0):Nat:=EJ q.symbols.length (N6 q b d args)
theorem Rp{q:AD}(hR:Af q)(hS:CI q){s:X3}(hs:s∈q.symbols):∀a∈s.args,a.kind≠3:=fun a ha h=>by have:=((hR.symbols s hs).args a ha).three h;rw[hS.frees]at this;simp at this;omega
theorem YM{q:AD}(hR:Af q){i j:Nat}{d d':Xe}(h1:q.decls[i]? =some d)(h2:q.decls[j]? =some d')(hn:d.name=d'.name):i=j:=by have a1:=hR.decls i d h1;have a2:=hR.decls j d' h2;rw[hn,a2]at a1;exact(Option.some.inj a1).symm
theorem YW{q:AD}(hR:Af q)(hS:CI q)(b:List X2){e:X8}{d i:Nat}{dd:Xe}(hd:q.decls[d]? =some dd)(hn:e.name=dd.name)(hl:e.args.length=dd.types.length):
 (∃h,JT q i e=some h/\D5 h.bind b=true)↔N6 q b d e.args i=true:=by
 unfold JT N6
 cases hs:q.symbols[i]? with
 |none=>simp
 |some s=>
  have hsm:=List.mem_of_getElem? hs
  obtain⟨d',hd',hlen⟩:=(hR.symbols s hsm).decl
  have h0:=(hR.symbols s hsm).event
  simp only[hd',ba,decide_eq_true_eq]
  by_cases he:s.event=(d:Int)
  have:s.event.toNat=d:=by omega
  rw[this,hd]at hd'
  cases hd'
  rw[if_pos ⟨hn.symm,by omega⟩]
  have:=Pd b s.args e.args [] [] (by omega) (Rp hR hS hsm)
  rw[List.all_eq_true]
  constructor
  rintro⟨h,hh,hu⟩
  obtain⟨p,hp,rfl⟩:=om.1 hh
  exact⟨he,(this.1 ⟨p,hp,hu⟩).2⟩
  rintro⟨_,hz⟩
  obtain⟨p,hp,hu⟩:=this.2 ⟨by simp[D5],hz⟩
  exact⟨_,by rw[hp];rfl,hu⟩
  constructor
  rintro⟨h,hh,_⟩
  split at hh
  rename_i hc
  have:=YM hR hd' hd (by rw[hc.1,hn])
  omega
  cases hh
  rintro⟨h,_⟩;exact absurd h he
theorem aP3{q:AD}(hF:DF q)(hR:Af q)(hS:CI q)(b:List X2){e:X8}{d:Nat}{dd:Xe}(hd:q.decls[d]? =some dd)(hn:e.name=dd.name)(hl:e.args.length=dd.types.length):
 Z3 (((List.range q.symbols.length).filterMap fun i=>JT q i e).filter fun h=>D5 h.bind b)=some ((mkM q b d e.args:Nat):Int):=by
 obtain⟨M,hM,_,hb⟩:=aMg hF.symbols (Rb hF hR hS e b)
 rw[hM]
 congr 2
 apply PO
 intro k
 rw[hb]
 unfold mkM
 rw[E5]
 simp only[List.mem_filter,List.mem_filterMap,List.mem_range]
 constructor
 rintro⟨h,⟨⟨i,hi,hh⟩,hu⟩,hk⟩
 have hik:i=k:=by have:=(MZ hh).1;omega
 subst hik
 exact⟨hi,(YW hR hS b hd hn hl).1 ⟨h,hh,hu⟩⟩
 rintro⟨hk,hf⟩
 obtain⟨h,hh,hu⟩:=(YW hR hS b hd hn hl).2 hf
 exact⟨h,⟨⟨k,hk,hh⟩,hu⟩,(MZ hh).1⟩
theorem aS8{q:AD}(hF:DF q)(d:Nat):Yh q (d:Int)=some ((mkM q [] d []:Nat):Int):=by
 have hsy:=hF.symbols;have h:=Mj (step:=fun s:Int×Int=>Ig (d:Int) q.symbols (q.symbols.length:Int) s.1 s.2) hsy (N6 q [] d []) (fun i w hi hw=>by
  obtain⟨x,hx,_⟩:=AZ hi;have hwi:IntKind.wrap .u64 (i:Int)=(i:Int):=Aq (by omega);simp only[Ig,ltD hx,AI,aHf,AN hx,aHh,hwi,Aw (show(0:Int)<=(i:Int) by omega),Ag hx (show q.symbols.length<=9223372036854775807 by omega)];unfold N6;rw[hx];by_cases he:x.event=(d:Int);simp only[he,decide_true,AI,AB,List.zip_nil_right,List.all_nil,Bool.and_self,if_true];rw[aAq (by omega),orU (by omega) (Nat.lt_of_lt_of_le (Nat.pow_lt_pow_right (by decide) (show i<12 by omega)) (by decide))];simp only[he,decide_false,AG,AB,Bool.false_and,Bool.false_eq_true,if_false]) (fun w=>by
  simp only[Ig,ltI,AG])
 unfold Yh aNz;rw[h,AB];rfl
theorem aQ2(b:List X2)(v:Int)(hb:b.length<=1000):Ze b v=some (EF b v):=by
 have hl:=DG (step:=fun s=>I0 v b (b.length:Int) zV s) b (fun _ t=>if t.var=v then some (Sum.inr t.value:Unit⊕X0)else none) (.inl ())
  (fun i x hx=>by simp only[I0,ltD hx,AI,AN hx,Ag hx (show b.length<=9223372036854775807 by omega)];by_cases h:x.var=v<;>simp[h,AE]) (by simp only[I0,ltI,AG])
 unfold Ze aOm;have hz:(X0.mk 0 0 ([]:List UInt8) false)=zV:=rfl;rw[hz,hl,AB,Dh (fun t:X2=>if t.var=v then some (Sum.inr t.value:Unit⊕X0)else none)]
 unfold EF;have:(b.findSome? fun t=>if t.var=v then some (Sum.inr t.value:Unit⊕X0)else none)=(b.findSome? fun s=>if s.var=v then some s.value else none).map Sum.inr:=by
  clear hl hb;induction b with
  |nil=>rfl
  |cons x b ih=>
   rw[List.findSome?_cons,List.findSome?_cons]
   by_cases h:x.var=v
   simp[h]
   simp only[h,if_false];exact ih
 rw[this];cases(b.findSome? fun s=>if s.var=v then some s.value else none)<;>rfl
theorem aPs(p:Xr)(a:BW)(x:X0)(hb:p.b.length<=1000):Qu p a x=some (Ru p.b a x):=by
 unfold Qu Ru;rw[aQ2 _ _ hb];by_cases k1:a.kind=1;simp[k1,AE,X0.eqb_dec];by_cases k2:a.kind=2;simp only[k2,decide_true,AI,if_true,show¬(2:Int)=1 by decide,decide_false,AG,if_false,AB];cases hg:EF p.b a.n with
 |mk v f=>cases f with
  |true=>simp[AE,X0.eqb_dec]
  |false=>simp[AE]
 simp[k1,k2,AE]
def HU(q:AD)(b:List X2)(d k:Nat)(v:X0)(i:Nat):Bool:=match q.symbols[i]? with
 |some s=>decide (s.event=(d:Int))&&(match s.args[k]? with
  |some a=>Ru b a v
  |none=>false)
 |none=>false
theorem aQm{q:AD}(hF:DF q)(hR:Af q){b:List X2}(hb:b.length<=1000){d k:Nat}{dd:Xe}(hd:q.decls[d]? =some dd)(hk:k<dd.types.length)(v:X0):
 Yc (Xr.mk q b (d:Int) (k:Int)) v=some ((EJ q.symbols.length (HU q b d k v):Nat):Int):=by
 have hsy:=hF.symbols
 have h:=Mj (step:=fun s:Int×Int=>Ie q.symbols (q.symbols.length:Int) (Xr.mk q b (d:Int) (k:Int)) v s.1 s.2) hsy (HU q b d k v) (fun i w hi hw=>by
  obtain⟨x,hx,_⟩:=AZ hi;have hwi:IntKind.wrap .u64 (i:Int)=(i:Int):=Aq (by omega);have hxm:=List.mem_of_getElem? hx;simp only[Ie,ltD hx,AI,aG5,AN hx,Vj,hwi,Aw (show(0:Int)<=(i:Int) by omega),Ag hx (show q.symbols.length<=9223372036854775807 by omega)];unfold HU;rw[hx];by_cases he:x.event=(d:Int);obtain⟨d',hd',hlen⟩:=(hR.symbols x hxm).decl;have:x.event.toNat=d:=by omega
  rw[this,hd]at hd';cases hd';obtain⟨a,ha,_⟩:=AZ (l:=x.args) (i:=k) (by omega);simp only[he,decide_true,AI,AN ha,ha,Bool.true_and];rw[aPs (Xr.mk q b (d:Int) (k:Int)) a v hb,AB];cases Ru b a v with
  |true=>
   simp only[AI,if_true,AB]
   rw[aAq (by omega),orU (by omega) (Nat.lt_of_lt_of_le (Nat.pow_lt_pow_right (by decide) (show i<12 by omega)) (by decide))]
  |false=>simp only[AG,Bool.false_eq_true,if_false,AB]
  simp only[he,decide_false,AG,AB,Bool.false_and,Bool.false_eq_true,if_false]) (fun w=>by
  simp only[Ie,ltI,AG])
 unfold Yc aNw
 simp only
 rw[h,AB]
theorem aBe{α β:Type}:∀{al:List α} {xs:List β} {a:α} (v:β),al[xs.length]? =some a->al.zip (xs++[v])=al.zip xs++[(a,v)]
 |a::al,[],_,v,h=>by simp at h;subst h;simp
 |[],xs,_,v,h=>by simp at h
 |a::al,x::xs,a',v,h=>by
  simp only[List.length_cons,List.getElem?_cons_succ]at h;simp[aBe v h]
theorem ZN{q:AD}(hR:Af q){b:List X2}{d:Nat}{dd:Xe}(hd:q.decls[d]? =some dd){args:List X0}(hk:args.length<dd.types.length)(v:X0):
 mkM q b d args&&&EJ q.symbols.length (HU q b d args.length v)=mkM q b d (args++[v]):=by
 apply PO
 intro k
 unfold mkM
 rw[Nat.testBit_and,ba,E5,E5,E5]
 unfold N6 HU
 cases hs:q.symbols[k]? with
 |none=>simp
 |some s=>
  have hxm:=List.mem_of_getElem? hs
  simp only[ba,decide_eq_true_eq]
  by_cases he:s.event=(d:Int)
  obtain⟨d',hd',hlen⟩:=(hR.symbols s hxm).decl
  have:s.event.toNat=d:=by omega
  rw[this,hd]at hd';cases hd'
  obtain⟨a,ha,_⟩:=AZ (l:=s.args) (i:=args.length) (by omega)
  rw[aBe v ha,List.all_append,ha]
  simp[he]
  constructor
  rintro⟨⟨h1,h2⟩,_,h3⟩;exact⟨h1,h2,h3⟩
  rintro⟨h1,h2,h3⟩;exact⟨⟨h1,h2⟩,h1,h3⟩
  simp[he]
theorem aLw(q:AD)(b:List X2)(d:Nat):mkM q b d []=mkM q [] d []:=by unfold mkM;congr 1;funext i;unfold N6;cases q.symbols[i]? <;>simp
theorem aQ9{k:Int}(hk:k=1\/k=2){l w:List X0}(hl:l.length<=800)(hw:SW w)(hwl:w.length<=900)(hm:∀v,v.kind=k->(v∈w↔v∈l)):∃v,Y4 k l=some (v,true)/\Y7 k w=some v/\v∉l/\v.kind=k/\vR v=true:=by
 have hex:∃i,0<=i/\i<0+(l.length+1)/\GP k i∉l:=by apply Classical.byContradiction;intro hn;have:=aL0 (GP k) (fun i j h=>aKf h) (l.length+1) l (fun i hi=>Classical.byContradiction fun h=>hn ⟨i,by omega,by omega,h⟩);omega
 obtain⟨i,_,hi,hni,a4,a5⟩:=Ps hk (by omega) hw hwl hm (X0.mk 0 0 [] false) (l.length+1) 0 (by omega) hex;have h0:GP k 0=X0.mk k 0 [] false:=by unfold GP;split<;>rfl
 rw[h0]at a4 a5;refine⟨GP k i,?_,?_,hni,Mn k i,ZS hk (by omega)⟩;unfold Y4;rcases hk with rfl|rfl
 simp only[decide_true,Bool.not_true,AG,a4,AB];simp only[show¬(2:Int)=1 by decide,decide_false,decide_true,Bool.not_false,Bool.not_true,AI,AG,a4,AB];unfold Y7;rw[a5,AB]
theorem JI{q:AD}{k:Int}{v:X0}:v∈De q k↔(k=3/\(v=⟨3,0,[],false⟩\/v=⟨3,0,[],true⟩))\/∃s∈q.symbols,∃a∈s.args,a.kind=1/\a.value.kind=k/\v=a.value:=by
 have h1:∀(l:List BW) (w:List X0),v∈l.foldl (KK k) w↔v∈w\/∃a∈l,a.kind=1/\a.value.kind=k/\v=a.value:=by
  intro l;induction l with
  |nil=>intro w;simp
  |cons a l ih=>
   intro w
   rw[List.foldl_cons,ih]
   have:v∈KK k w a↔v∈w\/(a.kind=1/\a.value.kind=k/\v=a.value):=by unfold KK;split;rename_i h;rw[FV];simp[h.1,h.2,or_comm];rename_i h;constructor;exact .inl;rintro(h2|⟨a1,a2,_⟩);exact h2;exact absurd ⟨a1,a2⟩ h
   rw[this]
   constructor
   rintro((h|h)|⟨b,hb,h⟩)
   exact .inl h
   exact .inr ⟨a,by simp,h⟩
   exact .inr ⟨b,List.mem_cons_of_mem _ hb,h⟩
   rintro(h|⟨b,hb,h⟩)
   exact .inl (.inl h)
   rcases mc.1 hb with rfl|hb
   exact .inl (.inr h)
   exact .inr ⟨b,hb,h⟩
 have h2:∀(l:List X3) (w:List X0),v∈l.foldl (fun w s=>s.args.foldl (KK k) w) w↔v∈w\/∃s∈l,∃a∈s.args,a.kind=1/\a.value.kind=k/\v=a.value:=by
  intro l;induction l with
  |nil=>intro w;simp
  |cons a l ih=>
   intro w
   rw[List.foldl_cons,ih,h1]
   constructor
   rintro((h|h)|⟨b,hb,h⟩)
   exact .inl h
   exact .inr ⟨a,by simp,h⟩
   exact .inr ⟨b,List.mem_cons_of_mem _ hb,h⟩
   rintro(h|⟨b,hb,h⟩)
   exact .inl (.inl h)
   rcases mc.1 hb with rfl|hb
   exact .inl (.inr h)
   exact .inr ⟨b,hb,h⟩
 unfold De;rw[h2];by_cases hk:k=3;simp[hk];simp[hk]
theorem RW{q:AD}{k:Int}{v:X0}(h:v∈De q k):v.kind=k:=by
 rcases JI.1 h with⟨rfl,rfl|rfl⟩|⟨s,_,a,_,_,hk,rfl⟩
 rfl;rfl;exact hk
theorem Ry{l:List X0}(hl:l.length<=1000):Xj [l,[]]=some l:=by
 have h1:Tl [l,[]] [l,[]] 2 0 0=some (l.length:Int):=by
  rw[Kr];unfold Gf Tj Tk;rw[show decide ((0:Int)<2)=true from rfl,AI,YX,L8 (a:=0) (b:=(l.length:Int)) (by omega) (by omega),decide_eq_false (by omega),AG,AB,AB,BF];simp only;rw[Kr];unfold Gf Tj Tk;have e1:AA .add .i64 0 1=1:=L8 (a:=0) (b:=1) (by omega) (by omega);have e2:AA .add .i64 1 1=2:=L8 (a:=1) (b:=1) (by omega) (by omega);rw[e1,show decide ((1:Int)<2)=true from rfl,AI,aLs];have e3:AA .add .i64 (0+(l.length:Int)) (([]:List X0).length:Int)=(l.length:Int):=by rw[L8 (by simp<;>omega) (by simp<;>omega)];simp
  rw[e3,decide_eq_false (by omega),AG,AB,AB,BF,e2];simp only;rw[Kr];unfold Gf;rw[show decide ((2:Int)<2)=false from rfl,AG,Ad]
 have h2:To [l,[]] 2 0 []=some l:=by have e1:AA .add .i64 0 1=1:=L8 (a:=0) (b:=1) (by omega) (by omega);have e2:AA .add .i64 1 1=2:=L8 (a:=1) (b:=1) (by omega) (by omega);rw[Ks];unfold Gg;rw[show decide ((0:Int)<2)=true from rfl,AI,YX,Aw (B0 (by simp;omega) (by decide)),BF,e1];simp only[List.nil_append];rw[Ks];unfold Gg;rw[show decide ((1:Int)<2)=true from rfl,AI,aLs,Aw (B0 (by simp;omega) (by decide)),BF,e2];simp only[List.append_nil];rw[Ks];unfold Gg;rw[show decide ((2:Int)<2)=false from rfl,AG,Ad]
 unfold Xj;have hln:(([l,[]]:List (List X0)).length:Int)=2:=rfl;rw[hln,h1,AB];have hg:U2 (l.length:Int)=some []:=by unfold U2 aJw;rw[if_pos ⟨by omega,by simp;omega,by omega⟩]
 rw[hg,AB,h2,AB]
def Ln(t:Int)(w:List X0)(s:X2):List X0:=if s.value.kind=t/\s.value∉w then w++[s.value]else w
def J0(t:Int)(w:List X0)(s:X2):List X0:=if s.value.kind=t then NF w s.value else w
theorem PS(t:Int)(v:X0):∀(b:List X2) (w:List X0),v∈b.foldl (Ln t) w↔v∈w\/∃s∈b,s.value=v/\v.kind=t
 |[],w=>by simp
 |s::b,w=>by
  rw[List.foldl_cons,PS t v b];have:v∈Ln t w s↔v∈w\/(s.value=v/\v.kind=t):=by unfold Ln;split;rename_i h;simp only[ma,List.mem_singleton];constructor;rintro(h2|rfl);exact .inl h2;exact .inr ⟨rfl,h.1⟩;rintro(h2|⟨rfl,_⟩);exact .inl h2;exact .inr rfl;rename_i h;constructor;exact .inl;rintro(h2|⟨rfl,h3⟩);exact h2;exact Classical.byContradiction fun hn=>h ⟨h3,hn⟩
  rw[this];simp only[mc,exists_eq_or_imp];rw[or_assoc]
theorem FI(t:Int)(v:X0):∀(b:List X2) (w:List X0),v∈b.foldl (J0 t) w↔v∈w\/∃s∈b,s.value=v/\v.kind=t
 |[],w=>by simp
 |s::b,w=>by
  rw[List.foldl_cons,FI t v b];have:v∈J0 t w s↔v∈w\/(s.value=v/\v.kind=t):=by unfold J0;split;rename_i h;rw[FV];constructor;rintro(rfl|h2);exact .inr ⟨rfl,h⟩;exact .inl h2;rintro(h2|⟨rfl,_⟩);exact .inr h2;exact .inl rfl;rename_i h;constructor;exact .inl;rintro(h2|⟨rfl,h3⟩);exact h2;exact absurd h3 h
  rw[this];simp only[mc,exists_eq_or_imp];rw[or_assoc]
theorem YC(t:Int)(w:List X0)(s:X2):(Ln t w s).length<=w.length+1:=by unfold Ln;split<;>simp
theorem PR(t:Int):∀(b:List X2) (w:List X0),(b.foldl (Ln t) w).length<=w.length+b.length
 |[],w=>by simp
 |s::b,w=>by
  rw[List.foldl_cons];have h1:=PR t b (Ln t w s);have h2:(Ln t w s).length<=w.length+1:=by unfold Ln;split<;>simp
  simp only[List.length_cons];omega
theorem PT{t:Int}:∀{b:List X2} {w:List X0},(∀s∈b,vR s.value=true)->SW w->SW (b.foldl (J0 t) w)/\(b.foldl (J0 t) w).length<=w.length+b.length
 |[],w,_,hw=>⟨hw,by simp⟩
 |s::b,w,hb,hw=>by
  rw[List.foldl_cons];have h2:SW (J0 t w s)/\(J0 t w s).length<=w.length+1:=by unfold J0;split;have:=L1 hw (hb s (by simp));exact⟨this.1,by rw[this.2];split<;>omega⟩;exact⟨hw,by omega⟩
  have h1:=PT (t:=t) (fun s hs=>hb s (List.mem_cons_of_mem _ hs)) h2.1;refine⟨h1.1,?_⟩;simp only[List.length_cons];omega
theorem vR3{v:X0}(hv:vR v=true)(hk:v.kind=3):v=⟨3,0,[],false⟩\/v=⟨3,0,[],true⟩:=by
 obtain⟨k,i,s,b⟩:=v;simp only at hk;subst hk;rcases Hd hv with h|h|h
 simp at h;simp at h;obtain⟨_,h2,h3⟩:=h;simp only at h2 h3;subst h2;subst h3;cases b<;>simp
structure aU6(q:AD)(b:List X2)(t:Int)(jl rl:List X0):Prop where
 same:∀v,v∈jl↔v∈rl
 jlen:jl.length<=300
 rlen:rl.length<=300
 kind:∀v∈rl,v.kind=t/\vR v=true
 whole:∀v,vR v=true->v.kind=t->∃v'∈rl,∀s∈q.symbols,∀a∈s.args,Ru b a v'=Ru b a v
theorem aBd{q:AD}(hF:DF q)(hR:Af q){b:List X2}(hB:BR b){d k:Nat}{dd:Xe}{t:Int}(hd:q.decls[d]? =some dd)(ht:dd.types[k]? =some t)(h13:1<=t/\t<=3):
 ∃jl rl,Y2 (Xr.mk q b (d:Int) (k:Int)) []=some jl/\Ya q t b []=some rl/\aU6 q b t jl rl:=by
 have hbl:=Rx hB
 have hbv:∀s∈b,vR s.value=true:=fun s hs=>(hB.2 s hs).2.2
 obtain⟨hcw,hcl⟩:=cons_inv hF hR t
 have hjl:=PR t b (De q t)
 have hG:=PT (t:=t) hbv hcw
 have hmem:∀v,v∈b.foldl (J0 t) (De q t)↔v∈b.foldl (Ln t) (De q t):=fun v=>by rw[FI,PS]
 have hkind:∀v∈b.foldl (J0 t) (De q t),v.kind=t:=fun v hv=>by
  rcases(FI t v b _).1 hv with h|⟨s,_,_,h⟩
  exact RW h;exact h
 --the program's loop over the binding
 have e1:aF3 [] t b (b.length:Int) 0 (De q t)=some (b.foldl (Ln t) (De q t)):=by unfold aF3;refine Ci (step:=fun s:Int×List X0=>IV [] t b (b.length:Int) s.1 s.2) b (Ln t) (fun w=>w) (fun i w=>w.length<=200+i) (fun i x w hx hI=>?_) (fun w _=>by simp only[IV,ltI,AG]) _ (by omega);have hlt:=(List.getElem?_eq_some_iff.1 hx).1;refine⟨?_,by have:=YC t w x;omega⟩;simp only[IV,ltD hx,AI,aF0,VI,AN hx,Ag hx (show b.length<=9223372036854775807 by omega)];unfold Ln;by_cases h1:x.value.kind=t;rw[Dj,if_pos h1,He _ _ (by omega),AB];by_cases h2:x.value∈w;rw[decide_eq_true h2,if_neg (fun h=>h.2 h2)];rfl;rw[decide_eq_false h2,if_pos ⟨h1,h2⟩,Bool.not_false,AI,Aw (B0 (by simp;omega) (by decide))];rfl;rw[Dj,if_neg h1,if_neg (fun h=>h1 h.1)];rfl
 have e2:aGy t b [] (De q t) 0=some (b.foldl (J0 t) (De q t)):=by unfold aGy;refine G6 (step:=fun s:List X0×Int=>Ic t b [] s.1 s.2) b (J0 t) (fun w=>w) (fun i w=>SW w/\w.length<=200+i) (fun i x w hx hI=>?_) (fun w _=>by simp only[Ic,ltI,AG]) _ ⟨hcw,by omega⟩;have hlt:=(List.getElem?_eq_some_iff.1 hx).1;have hxv:=hbv x (List.mem_of_getElem? hx);have hput:=L1 hI.1 hxv;refine⟨?_,?_⟩;simp only[Ic,ltD hx,AI,aGu,aGw,AN hx,Ag hx (show b.length<=9223372036854775807 by omega)];unfold J0;by_cases h1:x.value.kind=t;rw[Dj,if_pos h1,if_pos h1,aHd hI.1 hxv (by have:=hI.2;omega)];rfl;rw[Dj,if_neg h1,if_neg h1];rfl;unfold J0;split;refine⟨hput.1,?_⟩;rw[hput.2];have:=hI.2;split<;>omega;exact⟨hI.1,by have:=hI.2;omega⟩
 have eJ:Y2 (Xr.mk q b (d:Int) (k:Int)) []=(AJ (Y4 t (b.foldl (Ln t) (De q t))) fun r11=>AJ (QU r11.2 (b.foldl (Ln t) (De q t)) r11.1) fun o12=>some o12):=by unfold Y2;simp only;rw[AN hd,AN ht,aVj hF hR,AB,e1,AB,Ry (by omega),AB]
 by_cases h3:t=3
 subst h3
 have hN:Y4 3 (b.foldl (Ln 3) (De q 3))=some (X0.mk 0 0 [] false,false):=by unfold Y4;rfl
 refine⟨_,_,by rw[eJ,hN,AB];unfold QU;rfl,?_,fun v=>(hmem v).symm,by omega,by omega,fun v hv=>⟨hkind v hv,hG.1.2 v hv⟩,fun v hv hk=>⟨v,?_,fun _ _ _ _=>rfl⟩⟩
 unfold Ya
 rw[aRx hF hR,AB,e2,AB];rfl
 rw[FI]
 exact .inl (JI.2 (.inl ⟨rfl,vR3 hv hk⟩))
 have h12:t=1\/t=2:=by omega
 obtain⟨nv,n1,n2,n3,n4,n5⟩:=aQ9 h12 (l:=b.foldl (Ln t) (De q t)) (w:=b.foldl (J0 t) (De q t)) (by omega) hG.1 (by omega) (fun v _=>hmem v)
 have hput:=L1 hG.1 n5
 refine⟨b.foldl (Ln t) (De q t)++[nv],NF (b.foldl (J0 t) (De q t)) nv,?_,?_,fun v=>?_,by simp;omega,by rw[hput.2];split<;>omega,fun v hv=>?_,fun v hv hk=>?_⟩
 rw[eJ,n1,AB]
 unfold QU
 simp only
 rw[AI,Aw (B0 (by simp;omega) (by decide)),AB]
 unfold Ya
 have hof:Yi [] t=some []:=by unfold Yi;rw[aHn];unfold Kw;rfl
 have hun:Z1 (b.foldl (J0 t) (De q t)) []=some (b.foldl (J0 t) (De q t)):=by unfold Z1;rw[aIh];unfold Ky;rfl
 rw[aRx hF hR,AB,e2,AB,decide_eq_false h3,AG,hof,AB,hun,AB,n2,AB,aHd hG.1 n5 (by omega),AB]
 rw[FV,hmem,ma,List.mem_singleton,or_comm]
 rcases FV.1 hv with rfl|h
 exact⟨n4,n5⟩
 exact⟨hkind v h,hG.1.2 v h⟩
 by_cases hin:v∈b.foldl (J0 t) (De q t)
 exact⟨v,FV.2 (.inr hin),fun _ _ _ _=>rfl⟩
 refine⟨nv,FV.2 (.inl rfl),fun s hs a ha=>?_⟩
 have hnv:nv∉b.foldl (J0 t) (De q t):=fun h=>n3 ((hmem nv).1 h)
 have key:∀x:X0,(x.kind=t->x∈b.foldl (J0 t) (De q t))->x≠v/\x≠nv:=fun x hx=>by refine⟨fun e=>hin (e▸hx (by rw[e];exact hk)),fun e=>hnv (e▸hx (by rw[e];exact n4))⟩
 unfold Ru
 by_cases k1:a.kind=1
 have:=key a.value (fun h=>(FI t _ b _).2 (.inl (JI.2 (.inr ⟨s,hs,a,ha,k1,h,rfl⟩))))
 rw[if_pos k1,if_pos k1,decide_eq_false this.1,decide_eq_false this.2]
 rw[if_neg k1,if_neg k1]
 by_cases k2:a.kind=2
 rw[if_pos k2,if_pos k2]
 cases hg:EF b a.n with
 |mk x f=>
  cases f with
  |false=>simp
  |true=>
   have:=key x (fun h=>(FI t _ b _).2 (.inr ⟨_,FQ hg,rfl,h⟩))
   rw[decide_eq_false (fun e=>this.2 (by simpa using e)),decide_eq_false (fun e=>this.1 (by simpa using e))]
 rw[if_neg k2,if_neg k2]
structure KS(S:List (Int×Bool))(P:Nat->Prop):Prop where
 nd:(S.map (·.1)).Nodup
 tr:∀x∈S,x.2=true
 is:∀x:Int,x∈S.map (·.1)↔ ∃n:Nat,x=(n:Int)/\P n
theorem ZR{α β:Type}(f:α->β):∀{l:List α},(l.map f).Nodup->l.Nodup
 |[],_=>List.nodup_nil
 |a::l,h=>by
  rw[List.map_cons,List.nodup_cons]at h;exact List.nodup_cons.2 ⟨fun hm=>h.1 (mm.2 ⟨a,hm,rfl⟩),ZR f h.2⟩
theorem KS.perm{S S':List (Int×Bool)}{P:Nat->Prop}(h:KS S P)(h':KS S' P):S.Perm S':=by
 rw[List.perm_ext_iff_of_nodup (ZR _ h.nd) (ZR _ h'.nd)];have key:∀{A B:List (Int×Bool)},KS A P->KS B P->∀a∈A,a∈B:=fun{A B} hA hB a ha=>by obtain⟨b,hb,e⟩:=mm.1 ((hB.is a.1).2 ((hA.is a.1).1 (mm.2 ⟨a,ha,rfl⟩)));have:b=a:=Prod.ext e (by rw[hB.tr b hb,hA.tr a ha]);exact this▸hb
 exact fun a=>⟨key h h' a,key h' h a⟩
theorem KS.of_perm{S S':List (Int×Bool)}{P:Nat->Prop}(h:KS S P)(hp:S'.Perm S):KS S' P:=
 ⟨(hp.map _).nodup_iff.2 h.nd,fun x hx=>h.tr x (hp.mem_iff.1 hx),fun x=>by rw[(hp.map _).mem_iff,h.is]⟩
theorem KS.can{S S':List (Int×Bool)}{P:Nat->Prop}(h:KS S P)(h':KS S' P):aJ5 S=aJ5 S':=by have h1:=h.of_perm (F7 S);have h2:=h'.of_perm (F7 S');refine List.Perm.eq_of_pairwise (le:=fun a b:Int×Bool=>a.1<=b.1) (fun a b ha hb e1 e2=>?_) (JX S) (JX S') (h1.perm h2);exact Prod.ext (by omega) (by rw[h1.tr a ha,h2.tr b hb])
theorem KS.congr{S:List (Int×Bool)}{P Q:Nat->Prop}(h:KS S P)(hq:∀n,P n↔Q n):KS S Q:=⟨h.nd,h.tr,fun x=>by rw[h.is];simp only[hq]⟩
theorem KS.nil:KS [] (fun _=>False):=⟨List.nodup_nil,(fun x hx=>by cases hx),fun x=>by simp⟩
theorem Ji(k:Int)(v:Bool)(x:Int):∀S:List (Int×Bool),x∈(GH k v S).map (·.1)↔x=k\/x∈S.map (·.1)
 |[]=>by simp[GH]
 |y::S=>by
  rw[GH];split;rename_i h;simp[h];rename_i h;simp only[List.map_cons,mc,Ji k v x S];constructor;rintro(h|h|h);exact .inr (.inl h);exact .inl h;exact .inr (.inr h);rintro(h|h|h);exact .inr (.inl h);exact .inl h;exact .inr (.inr h)
theorem aAc(k:Int)(v:Bool):∀{S:List (Int×Bool)},(S.map (·.1)).Nodup->((GH k v S).map (·.1)).Nodup
 |[],_=>by simp[GH]
 |y::S,h=>by
  rw[List.map_cons,List.nodup_cons]at h;rw[GH];split;rename_i e;rw[List.map_cons,List.nodup_cons];exact⟨by rw[<-e];exact h.1,h.2⟩;rename_i e;rw[List.map_cons,List.nodup_cons];refine⟨fun hm=>?_,aAc k v h.2⟩;rcases(Ji k v y.1 S).1 hm with h2|h2
  exact e h2;exact h.1 h2
theorem aAe(k:Int):∀{S:List (Int×Bool)},(∀x∈S,x.2=true)->∀x∈GH k true S,x.2=true
 |[],_,x,hx=>by simp[GH]at hx;rw[hx]
 |y::S,h,x,hx=>by
  rw[GH]at hx;split at hx;rcases mc.1 hx with rfl|hx
  rfl;exact h x (List.mem_cons_of_mem _ hx);rcases mc.1 hx with rfl|hx
  exact h _ (by simp);exact aAe k (fun z hz=>h z (List.mem_cons_of_mem _ hz)) x hx
theorem KS.put{S:List (Int×Bool)}{P:Nat->Prop}(h:KS S P)(m:Nat):KS (GH (m:Int) true S) (fun n=>P n\/n=m):=by refine⟨aAc _ _ h.nd,aAe _ h.tr,fun x=>?_⟩;rw[Ji,h.is];constructor;rintro(rfl|⟨n,rfl,hn⟩);exact⟨m,rfl,.inr rfl⟩;exact⟨n,rfl,.inl hn⟩;rintro⟨n,rfl,hn|rfl⟩;exact .inr ⟨n,rfl,hn⟩;exact .inl rfl
theorem MK(k x:Int):∀{S:List (Int×Bool)},(S.map (·.1)).Nodup->(x∈(Nz k S).map (·.1)↔x≠k/\x∈S.map (·.1))
 |[],_=>by simp[Nz]
 |y::S,h=>by
  rw[List.map_cons,List.nodup_cons]at h;rw[Nz];split;rename_i e;rw[List.map_cons,mc];constructor;intro hx;exact⟨fun e2=>h.1 (by rw[e,<-e2];exact hx),.inr hx⟩;rintro⟨h1,h2|h2⟩;exact absurd (h2.trans e) h1;exact h2;rename_i e;rw[List.map_cons,mc,List.map_cons,mc,MK k x h.2];constructor;rintro(h1|⟨h1,h2⟩);exact⟨fun e2=>e (h1.symm.trans e2),.inl h1⟩;exact⟨h1,.inr h2⟩;rintro⟨h1,h2|h2⟩;exact .inl h2;exact .inr ⟨h1,h2⟩
theorem LP(k:Int):∀(S:List (Int×Bool)),(Nz k S).Sublist S
 |[]=>List.Sublist.refl _
 |y::S=>by
  rw[Nz];split;exact List.sublist_cons_self _ _;exact(LP k S).cons_cons y
theorem KS.del{S:List (Int×Bool)}{P:Nat->Prop}(h:KS S P):KS (Nz 0 S) (fun n=>P n/\n≠0):=by refine⟨h.nd.sublist ((LP 0 S).map _),fun x hx=>h.tr x ((LP 0 S).subset hx),fun x=>?_⟩;rw[MK 0 x h.nd,h.is];constructor;rintro⟨h1,n,rfl,hn⟩;exact⟨n,rfl,hn,by omega⟩;rintro⟨n,rfl,hn,h0⟩;exact⟨by omega,n,rfl,hn⟩
theorem MU{α σ:Type}(f:σ->α->σ):∀(l:List α) (s:σ),Ej (fun x s=>some (f s x)) s l=some (l.foldl f s)
 |[],_=>rfl
 |x::l,s=>by rw[Ej,AB,List.foldl_cons];exact MU f l _
theorem KS.fold{P:Nat->Prop}(f:Nat->Nat):∀{p:List (Int×Bool)} {S:List (Int×Bool)} {Q:Nat->Prop},(∀x∈p,∃n:Nat,x.1=(n:Int)/\P n)->KS S Q->
 KS (p.foldl (fun s x=>GH ((f x.1.toNat:Nat):Int) true s) S) (fun n=>Q n\/∃x∈p,n=f x.1.toNat)
 |[],S,Q,_,h=>h.congr fun n=>by simp
 |x::p,S,Q,hp,h=>by
  rw[List.foldl_cons];refine(KS.fold f (fun y hy=>hp y (List.mem_cons_of_mem _ hy)) (h.put (f x.1.toNat))).congr fun n=>?_;simp only[mc,exists_eq_or_imp];rw[or_assoc]
theorem MO{S0 S:List (Int×Bool)}{P Q:Nat->Prop}(f:Nat->Nat){c:List (Int×Bool)->List (Int×Bool)}(hc:c=fun s=>aJ5 s){step:Int×Bool->List (Int×Bool)->Option (List (Int×Bool))}
 (hs:∀(n:Nat) (v:Bool) (s:List (Int×Bool)),P n->step ((n:Int),v) s=some (GH ((f n:Nat):Int) true s)) (h0:KS S0 P) (h:KS S Q):
 ∃S',F5 c S0 step S=some S'/\KS S' (fun n=>Q n\/∃m,P m/\n=f m):=by
 have run:∀p:List (Int×Bool),p.Perm S0->Ej step S p=some (p.foldl (fun s x=>GH ((f x.1.toNat:Nat):Int) true s) S)/\KS (p.foldl (fun s x=>GH ((f x.1.toNat:Nat):Int) true s) S) (fun n=>Q n\/∃m,P m/\n=f m):=fun p hp=>by
  have hk:=h0.of_perm hp;have hx:∀x∈p,∃n:Nat,x.1=(n:Int)/\P n:=fun x hx=>(hk.is x.1).1 (mm.2 ⟨x,hx,rfl⟩);constructor;rw[<-MU (fun s x=>GH ((f x.1.toNat:Nat):Int) true s) p S];clear hp hk;revert hx;generalize S=s;revert s;induction p with
  |nil=>intro s _;rfl
  |cons x p ih=>
   intro s hx
   obtain⟨n,e,hn⟩:=hx x (by simp)
   obtain⟨x1,x2⟩:=x
   simp only at e
   subst e
   rw[Ej,Ej,hs n x2 s hn]
   exact ih _ fun y hy=>hx y (List.mem_cons_of_mem _ hy)
  refine(KS.fold f hx h).congr fun n=>?_;constructor;rintro(h1|⟨x,hxp,rfl⟩);exact .inl h1;obtain⟨m,e,hm⟩:=hx x hxp;exact .inr ⟨m,hm,by rw[e];rfl⟩;rintro(h1|⟨m,hm,rfl⟩);exact .inl h1;obtain⟨x,hxp,e⟩:=mm.1 ((hk.is (m:Int)).2 ⟨m,rfl,hm⟩);exact .inr ⟨x,hxp,by rw[e];rfl⟩
 obtain⟨r0,k0⟩:=run S0 (List.Perm.refl _)
 refine⟨aJ5 (S0.foldl (fun s x=>GH ((f x.1.toNat:Nat):Int) true s) S),MN fun p hp=>?_,k0.of_perm (F7 _)⟩
 obtain⟨r1,k1⟩:=run p hp
 exact⟨_,r1,by rw[hc];exact k1.can k0⟩
def VS(q:AD)(b:List X2)(t:Int)(v:X0):Prop:=∃rl,Ya q t b []=some rl/\v∈rl
def MS(q:AD)(b:List X2)(d:Nat)(dd:Xe)(k n:Nat):Prop:=∃args:List X0,args.length=k/\(∀(j:Nat) v t,args[j]? =some v->dd.types[j]? =some t->VS q b t v)/\n=mkM q b d args
theorem aMd{q:AD}(hF:DF q){b:List X2}{d:Nat}{dd:Xe}{k n:Nat}(h:MS q b d dd k n):n<4096:=by obtain⟨args,_,_,rfl⟩:=h;have:=hF.symbols;exact Nat.lt_of_lt_of_le (HZ _ _) (show 2^q.symbols.length<=2^12 from Nat.pow_le_pow_right (by decide) this)
theorem aMf{q:AD}{b:List X2}{d:Nat}{dd:Xe}{n:Nat}:MS q b d dd 0 n↔n=mkM q [] d []:=by constructor;rintro⟨args,hl,_,rfl⟩;rw[List.eq_nil_of_length_eq_zero hl,aLw];rintro rfl;exact⟨[],rfl,(fun j v t h=>by simp at h),(aLw q b d).symm⟩
theorem aMe{q:AD}(hR:Af q){b:List X2}{d k:Nat}{dd:Xe}{t:Int}(hd:q.decls[d]? =some dd)(ht:dd.types[k]? =some t){n:Nat}:
 MS q b d dd (k+1) n↔ ∃v,VS q b t v/\∃m,MS q b d dd k m/\n=m&&&EJ q.symbols.length (HU q b d k v):=by
 have hk:=(List.getElem?_eq_some_iff.1 ht).1
 constructor
 rintro⟨args,hl,hv,rfl⟩
 obtain⟨v,hvk,_⟩:=AZ (l:=args) (i:=k) (by omega)
 have hsplit:args=args.take k++[v]:=by have h1:args.take (k+1)=args:=List.take_of_length_le (by omega);rw[List.take_add_one,hvk]at h1;exact h1.symm
 have hlt:(args.take k).length=k:=by rw[List.length_take];omega
 refine⟨v,hv k v t hvk ht,_,⟨args.take k,hlt,fun j w t' hj ht'=>hv j w t' ?_ ht',rfl⟩,?_⟩
 rw[hsplit,List.getElem?_append_left ((List.getElem?_eq_some_iff.1 hj).1)];exact hj
 have:=ZN hR (b:=b) hd (args:=args.take k) (by omega) v
 rw[hlt]at this
 rw[this,<-hsplit]
 rintro⟨v,hv,m,⟨args,hl,ha,rfl⟩,rfl⟩
 refine⟨args++[v],by simp[hl],fun j w t' hj ht'=>?_,?_⟩
 by_cases hj2:j<args.length
 rw[List.getElem?_append_left hj2]at hj;exact ha j w t' hj ht'
 have hj3:=(List.getElem?_eq_some_iff.1 hj).1
 simp at hj3
 have:j=k:=by omega
 subst this
 rw[<-hl,List.getElem?_append_right (Nat.le_refl _)]at hj
 simp at hj
 subst hj
 rw[ht]at ht';cases ht'
 exact hv
 rw[<-hl];exact ZN hR hd (by omega) v
theorem aA8{q:AD}{d:Nat}{dd:Xe}(hT:∀d∈q.decls,∀t∈d.types,(1:Int)<=t/\t<=3)(hd:q.decls[d]? =some dd){k:Nat}{t:Int}(ht:dd.types[k]? =some t):1<=t/\t<=3:=
 hT dd (List.mem_of_getElem? hd) t (List.mem_of_getElem? ht)
theorem ZP{q:AD}(hF:DF q)(hR:Af q)(hT:∀d∈q.decls,∀t∈d.types,(1:Int)<=t/\t<=3){b:List X2}(hB:BR b){d k:Nat}{dd:Xe}{t:Int}(hd:q.decls[d]? =some dd)(ht:dd.types[k]? =some t){S0:List (Int×Bool)}(h0:KS S0 (MS q b d dd k)):
 ∃S',Xn (Xr.mk q b (d:Int) (k:Int)) S0=some S'/\KS S' (MS q b d dd (k+1)):=by
 have hbl:=Rx hB
 have hk:=(List.getElem?_eq_some_iff.1 ht).1
 obtain⟨jl,rl,hj,hr,hV⟩:=aBd hF hR hB hd ht (aA8 hT hd ht)
 have hsy:=hF.symbols
 have hW:∀v,EJ q.symbols.length (HU q b d k v)<4096:=fun v=>Nat.lt_of_lt_of_le (HZ _ _) (show 2^q.symbols.length<=2^12 from Nat.pow_le_pow_right (by decide) hsy)
 obtain⟨S',hS,hK⟩:=BC (step:=fun s:Int×List (Int×Bool)=>II jl (jl.length:Int) S0 (Xr.mk q b (d:Int) (k:Int)) s.1 s.2)
  (fun s=>∃i:Nat,s.1=(i:Int)/\i<=jl.length/\KS s.2 (fun n=>∃v∈jl.take i,∃m,MS q b d dd k m/\n=m&&&EJ q.symbols.length (HU q b d k v)))
  (fun s=>(jl.length-s.1).toNat)
  (fun S'=>KS S' (fun n=>∃v∈jl,∃m,MS q b d dd k m/\n=m&&&EJ q.symbols.length (HU q b d k v)))
  (by
   rintro⟨s,S⟩ ⟨i,rfl,hi,hS⟩;simp only at hS⊢;have hjl:=hV.jlen;by_cases he:i=jl.length;subst he;rw[List.take_length]at hS;exact .inl ⟨S,by simp only[II,ltI,AG],hS⟩;right;obtain⟨x,hx,_⟩:=AZ (l:=jl) (i:=i) (by omega);obtain⟨S2,e2,k2⟩:=MO (f:=fun m=>m&&&EJ q.symbols.length (HU q b d k x)) (S:=S) (c:=Kt ((EJ q.symbols.length (HU q b d k x):Nat):Int) jl (jl.length:Int) (i:Int) S0 (Xr.mk q b (d:Int) (k:Int))) rfl
    (step:=fun(x_1:Int×Bool) (s:List (Int×Bool))=>Gm ((EJ q.symbols.length (HU q b d k x):Nat):Int) jl (jl.length:Int) (i:Int) S0 (Xr.mk q b (d:Int) (k:Int)) x_1.1 x_1.2 s)
    (fun n v s hn=>by simp only[Gm];have h1:=aMd hF hn;have h2:=hW x;rw[aTs (by omega) (by omega)]) h0 hS
   refine⟨(((i+1:Nat):Int),S2),?_,⟨i+1,rfl,by omega,k2.congr fun n=>?_⟩,by simp only;omega⟩;simp only[II,ltD hx,AI,AN hx,Ag hx (show jl.length<=9223372036854775807 by omega)];rw[aQm hF hR (by omega) hd hk x,AB];unfold aEh aNd;rw[e2,AB,AB];rw[List.take_add_one,hx];simp only[Option.toList_some,ma,List.mem_singleton];constructor;rintro(⟨v,hv,h⟩|⟨m,hm,h⟩);exact⟨v,.inl hv,h⟩;exact⟨x,.inr rfl,m,hm,h⟩;rintro⟨v,hv|rfl,h⟩;exact .inl ⟨v,hv,h⟩;obtain⟨m,hm,h⟩:=h;exact .inr ⟨m,hm,h⟩)
  ((0:Int),[]) ⟨0,rfl,by omega,KS.nil.congr fun n=>by simp⟩
 refine⟨S',?_,hK.congr fun n=>?_⟩
 unfold Xn aNc
 rw[hj,AB,hS,AB]
 rw[aMe hR hd ht]
 constructor
 rintro⟨v,hv,h⟩;exact⟨v,⟨rl,hr,(hV.same v).1 hv⟩,h⟩
 rintro⟨v,⟨rl',hr',hv⟩,h⟩
 rw[hr]at hr';cases hr'
 exact⟨v,(hV.same v).2 hv,h⟩
def DS(q:AD)(b:List X2)(i n:Nat):Prop:=∃d dd,d<i/\q.decls[d]? =some dd/\MS q b d dd dd.types.length n
theorem aPn{q:AD}(hF:DF q)(hR:Af q)(hT:∀d∈q.decls,∀t∈d.types,(1:Int)<=t/\t<=3){b:List X2}(hB:BR b){d:Nat}{dd:Xe}(hd:q.decls[d]? =some dd)(h3:dd.types.length<=8)(s15:Int)(w5:List (Int×Bool)):
 ∃S',aMm b (d:Int) s15 (d:Int) (dd.types.length:Int) q w5 0 (GH ((mkM q [] d []:Nat):Int) true [])=some S'/\KS S' (MS q b d dd dd.types.length):=by
 obtain⟨S',hS,hK⟩:=BC (step:=fun s:Int×List (Int×Bool)=>Hk b (d:Int) s15 (d:Int) (dd.types.length:Int) q w5 s.1 s.2)
  (fun s=>∃k:Nat,s.1=(k:Int)/\k<=dd.types.length/\KS s.2 (MS q b d dd k)) (fun s=>(dd.types.length-s.1).toNat) (fun S'=>KS S' (MS q b d dd dd.types.length))
  (by rintro⟨s,S⟩ ⟨k,rfl,hk,hS⟩;simp only at hS⊢;by_cases he:k=dd.types.length;subst he;exact .inl ⟨S,by simp only[Hk,ltI,AG],hS⟩;right;obtain⟨t,ht,_⟩:=AZ (l:=dd.types) (i:=k) (by omega);obtain⟨S2,e2,k2⟩:=ZP hF hR hT hB hd ht hS;refine⟨(((k+1:Nat):Int),S2),?_,⟨k+1,rfl,by omega,k2⟩,by simp only;omega⟩;simp only[Hk,ltD ht,AI,Ag ht (show dd.types.length<=9223372036854775807 by omega)];rw[e2,AB])
  ((0:Int),GH ((mkM q [] d []:Nat):Int) true []) ⟨0,rfl,by omega,(KS.nil.put (mkM q [] d [])).congr fun n=>by rw[aMf];simp⟩
 exact⟨S',hS,hK⟩
theorem aSy{q:AD}(hF:DF q)(hR:Af q)(hT:∀d∈q.decls,∀t∈d.types,(1:Int)<=t/\t<=3)(h3:∀d∈q.decls,d.types.length<=3){b:List X2}(hB:BR b):
 ∃S',aMl b (q.decls.length:Int) q 0 []=some S'/\KS S' (DS q b q.decls.length):=by
 have hdl:=hF.decls
 obtain⟨S',hS,hK⟩:=BC (step:=fun s:Int×List (Int×Bool)=>Hj b (q.decls.length:Int) q s.1 s.2)
  (fun s=>∃i:Nat,s.1=(i:Int)/\i<=q.decls.length/\KS s.2 (DS q b i)) (fun s=>(q.decls.length-s.1).toNat) (fun S'=>KS S' (DS q b q.decls.length))
  (by
   rintro⟨s,S⟩ ⟨i,rfl,hi,hS⟩;simp only at hS⊢;by_cases he:i=q.decls.length;subst he;exact .inl ⟨S,by simp only[Hj,ltI,AG],hS⟩;right;obtain⟨dd,hd,_⟩:=AZ (l:=q.decls) (i:=i) (by omega);obtain⟨S2,e2,k2⟩:=aPn hF hR hT hB hd (by have:=h3 dd (List.mem_of_getElem? hd);omega) (q.decls.length:Int) S;obtain⟨S3,e3,k3⟩:=MO (f:=fun m=>m) (S:=S) (c:=Kp b (q.decls.length:Int) (i:Int) q S2) rfl
    (step:=fun(x_1:Int×Bool) (s:List (Int×Bool))=>Hl b (q.decls.length:Int) (i:Int) q S2 x_1.1 x_1.2 s) (fun n v s hn=>rfl) k2 hS
   refine⟨(((i+1:Nat):Int),S3),?_,⟨i+1,rfl,by omega,k3.congr fun n=>?_⟩,by simp only;omega⟩;simp only[Hj,ltD hd,AI,AN hd,Ag hd (show q.decls.length<=9223372036854775807 by omega)];rw[aS8 hF,AB,e2,AB];unfold aBy aMn;rw[e3,AB,AB];constructor;rintro(⟨d,d2,h1,h2,h3⟩|⟨m,hm,rfl⟩);exact⟨d,d2,by omega,h2,h3⟩;exact⟨i,dd,by omega,hd,hm⟩;rintro⟨d,d2,h1,h2,h3⟩;by_cases hdi:d=i;subst hdi;rw[hd]at h2;cases h2;exact .inr ⟨n,h3,rfl⟩;exact .inl ⟨d,d2,by omega,h2,h3⟩)
  ((0:Int),[]) ⟨0,rfl,by omega,KS.nil.congr fun n=>⟨fun h=>h.elim,fun⟨d,_,h,_⟩=>by omega⟩⟩
 exact⟨S',hS,hK⟩
structure RS(L:List Int)(P:Nat->Prop):Prop where
 up:L.Pairwise (· < ·)
 is:∀x:Int,x∈L↔ ∃n:Nat,x=(n:Int)/\P n
theorem RS.uniq{L M:List Int}{P:Nat->Prop}(h:RS L P)(k:RS M P):L=M:=by
 have nd:∀{A:List Int},A.Pairwise (· < ·)->A.Nodup:=fun h=>h.imp fun h=>by omega
 exact Fv (h.up.imp fun h=>by omega) (k.up.imp fun h=>by omega) ((List.perm_ext_iff_of_nodup (nd h.up) (nd k.up)).2 fun x=>by rw[h.is,k.is])
theorem RS.len{L:List Int}{P:Nat->Prop}{m:Nat}(h:RS L P)(hP:∀n,P n->n<m):L.length<=m:=by
 have h1:L.Nodup:=h.up.imp fun h=>by omega
 have:=h1.length_le_of_subset (l₂:=(List.range m).map (fun n:Nat=>(n:Int))) fun x hx=>by obtain⟨n,rfl,hn⟩:=(h.is x).1 hx;exact mm.2 ⟨n,List.mem_range.2 (hP n hn),rfl⟩
 simpa using this
def aMk(q:AD)(b:List X2)(n:Nat):Prop:=DS q b q.decls.length n/\n≠0
theorem NN{q:AD}(hF:DF q){b:List X2}{n:Nat}(h:aMk q b n):n<4096:=by obtain⟨⟨d,dd,_,_,hm⟩,_⟩:=h;exact aMd hF hm
theorem aX6{S:List (Int×Bool)}{P:Nat->Prop}(h:KS S P)(hl:S.length<=4096):∃w,aMp S []=some w/\w.Perm (S.map (·.1)):=by
 have run:∀(p:List (Int×Bool)) (w:List Int),p.length+w.length<=4096->Ej (fun(x:Int×Bool) (s:List Int)=>Fj S x.1 x.2 s) w p=some (w++p.map (·.1)):=by
  intro p;induction p with
  |nil=>intro w _;simp[Ej]
  |cons x p ih=>
   intro w hw
   rw[List.length_cons]at hw
   have e:Fj S x.1 x.2 w=some (w++[x.1]):=by unfold Fj;exact Aw (B0 (by simp;omega) (by decide)) _
   rw[Ej,e,AB,ih _ (by simp;omega)]
   simp
 refine⟨aKo (S.map (·.1)),MN fun p hp=>⟨_,run p [] (by rw[hp.length_eq];simp;omega),?_⟩,EN _⟩
 show aKo ([]++p.map (·.1))=aKo (S.map (·.1))
 rw[List.nil_append];exact Fv (Eu _) (Eu _) ((EN _).trans ((hp.map _).trans (EN _).symm))
theorem aU7{q:AD}(hF:DF q)(hR:Af q)(hT:∀d∈q.decls,∀t∈d.types,(1:Int)<=t/\t<=3)(h3:∀d∈q.decls,d.types.length<=3){b:List X2}(hB:BR b):
 ∃L,X4 q b=some L/\RS L (aMk q b):=by
 obtain⟨S,e1,k1⟩:=aSy hF hR hT h3 hB
 have k2:KS (Nz 0 S) (aMk q b):=k1.del
 have hlen:(Nz 0 S).length<=4096:=by
  have:=k2.nd.length_le_of_subset (l₂:=(List.range 4096).map (fun n:Nat=>(n:Int))) fun x hx=>by obtain⟨n,rfl,hn⟩:=(k2.is x).1 hx;exact mm.2 ⟨n,List.mem_range.2 (NN hF hn),rfl⟩
  simpa using this
 obtain⟨w,e2,p2⟩:=aX6 k2 hlen
 have hsort:=aBx (w:=w) (l:=aKo w) (by rw[p2.length_eq];simp;omega) (Eu w) (EN w)
 refine⟨aKo w,?_,?_,fun x=>?_⟩
 unfold X4
 rw[e1,AB]
 unfold aB0
 rw[e2,AB,AB,hsort,AB]
 have hnd:(aKo w).Nodup:=((EN w).trans p2).nodup_iff.2 k2.nd
 exact List.Pairwise.imp (fun h=>by have h1:=h.1;have h2:=h.2;omega) ((Eu w).and hnd)
 rw[((EN w).trans p2).mem_iff,k2.is]
def EvP(q:AD)(b:List X2)(dd:Xe)(args:List X0)(e:X8):Prop:=
 ∃tail:List X0,args.length+tail.length=dd.types.length/\(∀(j:Nat) v t,tail[j]? =some v->dd.types[args.length+j]? =some t->VS q b t v)/\e=X8.mk dd.name (args++tail)
theorem aBm{q:AD}{b:List X2}{dd:Xe}{args:List X0}(hl:args.length=dd.types.length)(e:X8):EvP q b dd args e↔e=X8.mk dd.name args:=by constructor;rintro⟨tail,h1,_,rfl⟩;rw[List.eq_nil_of_length_eq_zero (show tail.length=0 by omega),List.append_nil];rintro rfl;exact⟨[],by simpa using hl,(fun j v t h=>by simp at h),by rw[List.append_nil]⟩
theorem aBn{q:AD}{b:List X2}{dd:Xe}{args:List X0}{t:Int}(ht:dd.types[args.length]? =some t)(e:X8):EvP q b dd args e↔ ∃v,VS q b t v/\EvP q b dd (args++[v]) e:=by
 have hk:=(List.getElem?_eq_some_iff.1 ht).1;constructor;rintro⟨tail,h1,h2,rfl⟩;cases tail with
 |nil=>simp at h1;omega
 |cons v tail=>
  refine⟨v,h2 0 v t rfl ht,tail,by simp at h1⊢;omega,fun j w t' hj ht'=>?_,by simp⟩
  refine h2 (j+1) w t' (by simpa using hj) ?_
  rw[<-ht'];congr 1;simp;omega
 rintro⟨v,hv,tail,h1,h2,rfl⟩;refine⟨v::tail,by simp at h1⊢;omega,fun j w t' hj ht'=>?_,by simp⟩;cases j with
 |zero=>
  simp at hj ht'
  subst hj
  rw[ht]at ht';cases ht'
  exact hv
 |succ j=>
  refine h2 j w t' (by simpa using hj) ?_
  rw[<-ht'];congr 1;simp;omega
theorem OR{r:Nat}(h:r<=3):300^r<=27000000:=by
 have:r=0\/r=1\/r=2\/r=3:=by omega
 rcases this with rfl|rfl|rfl|rfl<;>decide
theorem YR{q:AD}(hF:DF q)(hR:Af q)(hT:∀d∈q.decls,∀t∈d.types,(1:Int)<=t/\t<=3){b:List X2}(hB:BR b){d:Nat}{dd:Xe}(hd:q.decls[d]? =some dd)(h3:dd.types.length<=3):
 ∀(n r:Nat) (args:List X0),r<n->args.length+r=dd.types.length->∃evs,aK9 n q (d:Int) b [] args=some evs/\(∀e,e∈evs↔EvP q b dd args e)/\evs.length<=300^r:=by
 intro n
 induction n with
 |zero=>intro r args h;omega
 |succ n ih=>
  intro r args hr hl
  show∃evs,aR4 (aK9 n) q (d:Int) b [] args=some evs/\_
  unfold aR4
  rw[AN hd]
  cases r with
  |zero=>
   refine⟨[X8.mk dd.name args],?_,fun e=>?_,by simp⟩
   rw[decide_eq_true (by omega),AI,AN hd]
   rw[aBm (by omega),List.mem_singleton]
  |succ r=>
   obtain⟨t,ht,_⟩:=AZ (l:=dd.types) (i:=args.length) (by omega)
   obtain⟨jl,rl,_,hrl,hV⟩:=aBd hF hR hB hd ht (aA8 hT hd ht)
   have hc:=OR (r:=r) (by omega)
   have hp:300^(r+1)=300*300^r:=by rw[Nat.pow_succ,Nat.mul_comm]
   have hlp:300^(r+1)<=27000000:=OR (by omega)
   obtain⟨evs,e1,e2,e3⟩:=BC (step:=fun s:Int×List X8=>Ib (aK9 n) (d:Int) b [] args rl q s.1 s.2)
    (fun s=>∃i:Nat,s.1=(i:Int)/\i<=rl.length/\(∀e,e∈s.2↔ ∃v∈rl.take i,EvP q b dd (args++[v]) e)/\s.2.length<=i*300^r)
    (fun s=>(rl.length-s.1).toNat) (fun evs=>(∀e,e∈evs↔ ∃v∈rl,EvP q b dd (args++[v]) e)/\evs.length<=rl.length*300^r)
    (by rintro⟨s,w⟩ ⟨i,rfl,hi,hm,hw⟩;simp only at hm hw⊢;by_cases he:i=rl.length;subst he;rw[List.take_length]at hm;exact .inl ⟨w,by simp only[Ib,ltI,AG],hm,hw⟩;right;obtain⟨x,hx,_⟩:=AZ (l:=rl) (i:=i) (by omega);obtain⟨ev,f1,f2,f3⟩:=ih r (args++[x]) (by omega) (by simp;omega);have hrlen:=hV.rlen;have hi3:i*300^r<=300*300^r:=Nat.mul_le_mul_right _ (by omega);refine⟨(((i+1:Nat):Int),w++ev),?_,⟨i+1,rfl,by omega,fun e=>?_,?_⟩,by simp only;omega⟩;simp only[Ib,ltD hx,AI,AN hx,Ag hx (show rl.length<=9223372036854775807 by omega),List.nil_append];rw[Aw (B0 (by simp;omega) (by decide)),Aw (B0 (by simp;omega) (by decide)),f1,AB,Aw (B0 (by omega) (by decide))];rw[List.take_add_one,hx,ma,hm,f2];simp only[Option.toList_some,ma,List.mem_singleton];constructor;rintro(⟨v,hv,h⟩|h);exact⟨v,.inl hv,h⟩;exact⟨x,.inr rfl,h⟩;rintro⟨v,hv|rfl,h⟩;exact .inl ⟨v,hv,h⟩;exact .inr h;simp only[List.length_append];rw[Nat.succ_mul];omega)
    ((0:Int),[]) ⟨0,rfl,by omega,fun e=>by simp,by simp⟩
   have e1':aNu (aK9 n) (d:Int) b [] args rl q 0 []=some evs:=e1
   refine⟨evs,?_,fun e=>?_,?_⟩
   rw[decide_eq_false (by omega),AG,AN hd,AN ht,hrl,AB,e1',AB]
   rw[e2,aBn ht]
   constructor
   rintro⟨v,hv,h⟩;exact⟨v,⟨rl,hrl,hv⟩,h⟩
   rintro⟨v,⟨rl',h1,hv⟩,h⟩
   rw[hrl]at h1;cases h1
   exact⟨v,hv,h⟩
   have:=hV.rlen
   have h1:rl.length*300^r<=300*300^r:=Nat.mul_le_mul_right _ this
   omega
theorem aTd(L:List Int)(x:Int)(hl:L.length<=5000):∀k,k<=L.length->(∀i,k<=i->i<L.length->x<ga L i)->∃j:Nat,WB L x (k:Int)=some (j:Int)/\j<=k/\(∀i,j<=i->i<L.length->x<ga L i)/\(0<j->ga L (j-1)<=x):=by
 intro k;induction k with
 |zero=>
  intro hk hg
  refine⟨0,?_,Nat.le_refl _,hg,fun h=>by omega⟩
  rw[PI]
  unfold Il
  rw[decide_eq_false (by omega),AG,Ad]
 |succ k ih=>
  intro hk hg
  rw[PI]
  unfold Il
  rw[decide_eq_true (by omega),AI,Dv (by omega),Nat.add_sub_cancel,Ey (by omega)]
  by_cases h:x<ga L k
  obtain⟨j,e1,e2,e3,e4⟩:=ih (by omega) (fun i h1 h2=>by by_cases hi:i=k;subst hi;exact h;exact hg i (by omega) h2)
  exact⟨j,by rw[decide_eq_true h,AI,BF];exact e1,by omega,e3,e4⟩
  refine⟨k+1,by rw[decide_eq_false h,AG,Ad],Nat.le_refl _,hg,fun _=>?_⟩
  rw[Nat.add_sub_cancel];omega
theorem RS.put{L:List Int}{P:Nat->Prop}(h:RS L P)(hl:L.length<=4500)(m:Nat):∃L',Ys L (m:Int)=some L'/\RS L' (fun n=>P n\/n=m):=by
 obtain⟨j,e1,e2,e3,e4⟩:=aTd L (m:Int) (by omega) L.length (Nat.le_refl _) (fun i h1 h2=>by omega);have hup:∀p q,p<q->q<L.length->ga L p<ga L q:=fun p q h1 h2=>by have:=(List.pairwise_iff_getElem.1 h.up) p q (by omega) h2 h1;rwa [JP,JP]at this
 unfold Ys;rw[e1,AB];by_cases hin:0<j/\ga L (j-1)=(m:Int);refine⟨L,?_,h.up,fun x=>?_⟩;rw[decide_eq_true (by omega),AI,Dv (by omega),Ey (by omega),decide_eq_true hin.2,AI];rw[h.is];constructor;rintro⟨n,rfl,hn⟩;exact⟨n,rfl,.inl hn⟩;rintro⟨n,rfl,hn|rfl⟩;exact⟨n,rfl,hn⟩;have:((n:Nat):Int)∈L:=by rw[<-hin.2,<-JP (show j-1<L.length by omega)];exact List.getElem_mem _
 exact(h.is _).1 this;have hlow:∀i,i<j->ga L i<(m:Int):=fun i hi=>by have h1:=e4 (by omega);have h2:ga L (j-1)≠(m:Int):=fun e=>hin ⟨by omega,e⟩;by_cases hij:i=j-1;subst hij;omega;have:=hup i (j-1) (by omega) (by omega);omega
 have hrun:(AY ((0:Int)<=0/\(0:Int)<=(j:Int)/\(j:Int)<=(L.length:Int)) (AY (fit ([]:List Int).length (sub L 0 (j:Int)).length 8) (AY (fit (([]:List Int)++(sub L 0 (j:Int))).length [(m:Int)].length 8) (AY ((0:Int)<=(j:Int)/\((j:Int):Int)<=(L.length:Int)/\(L.length:Int)<=(L.length:Int)) (AY (fit ((([]:List Int)++(sub L 0 (j:Int)))++[(m:Int)]).length (sub L (j:Int) (L.length:Int)).length 8) (some (((([]:List Int)++(sub L 0 (j:Int)))++[(m:Int)])++(sub L (j:Int) (L.length:Int)))))))):Option (List Int))=some (L.take j++(m:Int)::L.drop j):=by
  have s1:sub L 0 (j:Int)=L.take j:=by have:=aA0 L 0 j;simpa using this
  rw[s1,aAz,Aw ⟨by omega,by omega,by omega⟩,Aw (B0 (by simp;omega) (by decide)),Aw (B0 (by simp;omega) (by decide)),Aw ⟨by omega,by omega,by omega⟩,Aw (B0 (by simp;omega) (by decide))];simp
 refine⟨L.take j++(m:Int)::L.drop j,?_,?_,fun x=>?_⟩;by_cases hj:0<j;rw[decide_eq_true (by omega),AI,Dv (by omega),Ey (by omega),decide_eq_false (fun e=>hin ⟨hj,e⟩),AG];exact hrun;rw[decide_eq_false (by omega),AG];exact hrun;rw[List.pairwise_append,List.pairwise_cons];refine⟨h.up.sublist (List.take_sublist _ _),⟨fun a ha=>?_,h.up.sublist (List.drop_sublist _ _)⟩,fun a ha c hc=>?_⟩;obtain⟨i,hi⟩:=List.mem_iff_getElem?.1 ha;rw[List.getElem?_drop]at hi;obtain⟨h1,h2⟩:=List.getElem?_eq_some_iff.1 hi;rw[<-h2,JP];exact e3 _ (by omega) h1;obtain⟨i,hi⟩:=List.mem_iff_getElem?.1 ha;rw[List.getElem?_take]at hi;split at hi;rename_i hij;obtain⟨h1,h2⟩:=List.getElem?_eq_some_iff.1 hi;have ha':a<(m:Int):=by rw[<-h2,JP];exact hlow i hij
 rcases mc.1 hc with rfl|hc
 exact ha';obtain⟨k,hk⟩:=List.mem_iff_getElem?.1 hc;rw[List.getElem?_drop]at hk;obtain⟨g1,g2⟩:=List.getElem?_eq_some_iff.1 hk;have:(m:Int)<c:=by rw[<-g2,JP];exact e3 _ (by omega) g1
 omega;cases hi;have hmem:x∈L↔x∈L.take j\/x∈L.drop j:=by rw[<-ma,List.take_append_drop]
 rw[ma,mc];constructor;rintro(h1|rfl|h1);obtain⟨n,rfl,hn⟩:=(h.is x).1 (hmem.2 (.inl h1));exact⟨n,rfl,.inl hn⟩;exact⟨m,rfl,.inr rfl⟩;obtain⟨n,rfl,hn⟩:=(h.is x).1 (hmem.2 (.inr h1));exact⟨n,rfl,.inl hn⟩;rintro⟨n,rfl,hn|rfl⟩;rcases hmem.1 ((h.is _).2 ⟨n,rfl,hn⟩)with h1|h1
 exact .inl h1;exact .inr (.inr h1);exact .inr (.inl rfl)
theorem RS.congr{L:List Int}{P Q:Nat->Prop}(h:RS L P)(hq:∀n,P n↔Q n):RS L Q:=⟨h.up,fun x=>by rw[h.is];simp only[hq]⟩
theorem aJz{q:AD}(hF:DF q)(hR:Af q){i:Nat}{e:X8}{h:Ar}(hh:JT q i e=some h):h.bind.length<=12:=by unfold JT at hh;split at hh;cases hh;rename_i s hs;split at hh;cases hh;split at hh;have hsm:=List.mem_of_getElem? hs;obtain⟨p,hp,rfl⟩:=om.1 hh;have:=JN s.args e.args [] [] p (aYu hF hR hsm) ⟨List.Pairwise.nil,by simp⟩ ⟨List.Pairwise.nil,by simp⟩ (fun s hs=>by simp at hs) hp;have h12:=hF.args s hsm;have:=this.2.2.2.1;simp at this;simp only;omega;cases hh
theorem aSv{q:AD}(hF:DF q)(hR:Af q)(hS:CI q){b:List X2}(hB:BR b){d:Nat}{dd:Xe}(hd:q.decls[d]? =some dd)(args:List X0)(hl:args.length=dd.types.length):
 ∃l1 l2,Yb q (X8.mk dd.name args)=some l1/\Yd l1 b=some l2/\Z3 l2=some ((mkM q b d args:Nat):Int):=by
 have hsy:=hF.symbols
 have hbl:=Rx hB
 have hlen:((List.range q.symbols.length).filterMap fun i=>JT q i (X8.mk dd.name args)).length<=1000:=by have h2:=List.length_filterMap_le (fun i=>JT q i (X8.mk dd.name args)) (List.range q.symbols.length);rw[List.length_range]at h2;omega
 have hbind:∀h∈(List.range q.symbols.length).filterMap (fun i=>JT q i (X8.mk dd.name args)),h.bind.length<=9223372036854775807:=fun h hh=>by obtain⟨i,hi,hh2⟩:=List.mem_filterMap.1 hh;have:=aJz hF hR hh2;omega
 exact⟨_,_,aWc hF hR,aWf hlen hbind (by omega),aP3 hF hR hS b hd rfl hl⟩
theorem aX2{q:AD}(hF:DF q)(hR:Af q)(hS:CI q){b:List X2}(hB:BR b){d:Nat}{dd:Xe}(hd:q.decls[d]? =some dd){evs:List X8}(hev:∀e,e∈evs↔EvP q b dd [] e)(hel:evs.length<=27000000){L:List Int}(hL:RS L (fun n=>DS q b d n/\n≠0)):
 ∃L',aNg b (d:Int) evs q L 0=some L'/\RS L' (fun n=>DS q b (d+1) n/\n≠0):=by
 have hDS:∀{i n},DS q b i n->n<4096:=fun⟨_,_,_,_,hm⟩=>aMd hF hm
 obtain⟨L',e1,e2⟩:=BC (step:=fun s:List Int×Int=>Gn b (d:Int) evs q s.1 s.2)
  (fun s=>∃i:Nat,s.2=(i:Int)/\i<=evs.length/\RS s.1 (fun n=>(DS q b d n/\n≠0)\/∃e∈evs.take i,n=mkM q b d e.args/\n≠0))
  (fun s=>(evs.length-s.2).toNat) (fun L'=>RS L' (fun n=>(DS q b d n/\n≠0)\/∃e∈evs,n=mkM q b d e.args/\n≠0))
  (by
   rintro⟨w,s⟩ ⟨i,rfl,hi,hw⟩;simp only at hw⊢;by_cases he:i=evs.length;subst he;rw[List.take_length]at hw;exact .inl ⟨w,by simp only[Gn,ltI,AG],hw⟩;right;obtain⟨x,hx,_⟩:=AZ (l:=evs) (i:=i) (by omega);obtain⟨tail,t1,_,rfl⟩:=(hev x).1 (List.mem_of_getElem? hx);rw[List.nil_append]at hx;obtain⟨l1,l2,m1,m2,m3⟩:=aSv hF hR hS hB hd tail (by simpa using t1);have hmlt:∀l,mkM q b d l<4096:=fun l=>Nat.lt_of_lt_of_le (HZ _ _) (show 2^q.symbols.length<=2^12 from Nat.pow_le_pow_right (by decide) hF.symbols);have hwl:w.length<=4500:=Nat.le_trans (hw.len (m:=4096) fun n hn=>by
    rcases hn with h|⟨e,_,h,_⟩
    exact hDS h.1;rw[h];exact hmlt _) (by decide)
   have hstep:Gn b (d:Int) evs q w (i:Int)=(AJ (QK b w (d:Int) evs (i:Int) ((mkM q b d tail:Nat):Int) (!decide (((mkM q b d tail:Nat):Int)=0)) q) fun o=>some (.inl (o,((i+1:Nat):Int)))):=by simp only[Gn,ltD hx,AI,aEl,AN hx,Ag hx (show evs.length<=9223372036854775807 by omega)];rw[m1,AB,m2,AB,m3,AB];cases(QK b w (d:Int) evs (i:Int) ((mkM q b d tail:Nat):Int) (!decide (((mkM q b d tail:Nat):Int)=0)) q)<;>rfl
   rw[hstep];unfold QK;by_cases h0:mkM q b d tail=0;refine⟨(w,((i+1:Nat):Int)),by rw[h0];rfl,⟨i+1,rfl,by omega,hw.congr fun n=>?_⟩,by simp only;omega⟩;rw[List.take_add_one,hx];simp only[Option.toList_some,ma,List.mem_singleton];constructor;rintro(h|⟨e,he,h⟩);exact .inl h;exact .inr ⟨e,.inl he,h⟩;rintro(h|⟨e,he|rfl,h,h'⟩);exact .inl h;exact .inr ⟨e,he,h,h'⟩;exact absurd (h.trans h0) h';obtain⟨L2,p1,p2⟩:=hw.put hwl (mkM q b d tail);refine⟨(L2,((i+1:Nat):Int)),by rw[decide_eq_false (by omega),Bool.not_false,AI,p1];rfl,⟨i+1,rfl,by omega,p2.congr fun n=>?_⟩,by simp only;omega⟩;rw[List.take_add_one,hx];simp only[Option.toList_some,ma,List.mem_singleton];constructor;rintro((h|⟨e,he,h⟩)|rfl);exact .inl h;exact .inr ⟨e,.inl he,h⟩;exact .inr ⟨_,.inr rfl,rfl,h0⟩;rintro(h|⟨e,he|rfl,h,h'⟩);exact .inl (.inl h);exact .inl (.inr ⟨e,he,h,h'⟩);exact .inr h)
  (L,(0:Int)) ⟨0,rfl,by omega,hL.congr fun n=>by simp⟩
 refine⟨L',e1,e2.congr fun n=>?_⟩
 constructor
 rintro(⟨⟨d',dd',h1,h2,h3⟩,h0⟩|⟨e,he,h,h0⟩)
 exact⟨⟨d',dd',by omega,h2,h3⟩,h0⟩
 obtain⟨tail,t1,t2,rfl⟩:=(hev e).1 he
 refine⟨⟨d,dd,by omega,hd,tail,by simpa using t1,fun j v t hj ht=>t2 j v t hj (by simpa using ht),?_⟩,h0⟩
 simpa using h
 rintro⟨⟨d',dd',h1,h2,h3⟩,h0⟩
 by_cases hdd:d'=d
 subst hdd
 rw[hd]at h2;cases h2
 obtain⟨args,a1,a2,rfl⟩:=h3
 exact .inr ⟨X8.mk dd.name args,(hev _).2 ⟨args,by simpa using a1,fun j v t hj ht=>a2 j v t hj (by simpa using ht),by simp⟩,rfl,h0⟩
 exact .inl ⟨⟨d',dd',by omega,h2,h3⟩,h0⟩
theorem aVm{q:AD}(hF:DF q)(hR:Af q)(hS:CI q)(hT:∀d∈q.decls,∀t∈d.types,(1:Int)<=t/\t<=3)(h3:∀d∈q.decls,d.types.length<=3){b:List X2}(hB:BR b):
 ∃L,Xo q b=some L/\RS L (aMk q b):=by
 have hdl:=hF.decls
 obtain⟨L,e1,e2⟩:=BC (step:=fun s:List Int×Int=>IJ b q s.1 s.2)
  (fun s=>∃i:Nat,s.2=(i:Int)/\i<=q.decls.length/\RS s.1 (fun n=>DS q b i n/\n≠0)) (fun s=>(q.decls.length-s.2).toNat) (fun L=>RS L (aMk q b))
  (by rintro⟨w,s⟩ ⟨i,rfl,hi,hw⟩;simp only at hw⊢;by_cases he:i=q.decls.length;subst he;exact .inl ⟨w,by simp only[IJ,ltI,AG],hw⟩;right;obtain⟨dd,hd,_⟩:=AZ (l:=q.decls) (i:=i) (by omega);have h3':=h3 dd (List.mem_of_getElem? hd);obtain⟨evs,f1,f2,f3⟩:=YR hF hR hT hB hd h3' 100000 dd.types.length [] (by omega) (by simp);have hp:=OR h3';obtain⟨L2,g1,g2⟩:=aX2 hF hR hS hB hd f2 (by omega) hw;refine⟨(L2,((i+1:Nat):Int)),?_,⟨i+1,rfl,by omega,g2⟩,by simp only;omega⟩;have f1':Y8 q (i:Int) b [] []=some evs:=f1;simp only[IJ,ltD hd,AI,Ag hd (show q.decls.length<=9223372036854775807 by omega)];rw[f1',AB,g1,AB])
  ([],(0:Int)) ⟨0,rfl,by omega,⟨List.Pairwise.nil,fun x=>⟨fun h=>by simp at h,fun⟨n,_,⟨_,_,h,_⟩,_⟩=>by omega⟩⟩⟩
 exact⟨L,by unfold Xo aNf;rw[e1,AB],e2⟩
theorem L3{q:AD}(hF:DF q)(hR:Af q)(hS:CI q)(hT:∀d∈q.decls,∀t∈d.types,(1:Int)<=t/\t<=3)(h3:∀d∈q.decls,d.types.length<=3){b:List X2}(hB:BR b):
 ∃L,X4 q b=some L/\Xo q b=some L/\RS L (aMk q b):=by
 obtain⟨L,e1,e2⟩:=aU7 hF hR hT h3 hB
 obtain⟨M,f1,f2⟩:=aVm hF hR hS hT h3 hB
 exact⟨L,e1,by rw[f1,e2.uniq f2],e2⟩
theorem Mi{σ τ:Type}{step:σ->Option (σ⊕τ)}{I:σ->Prop}(hI:∀s s',I s->step s=some (.inl s')->I s'){s:σ}{t:τ}(h0:I s)(h:AQ step s=some t):∃s',I s'/\step s'=some (.inr t):=by
 obtain⟨n,hn⟩:=GB.1 h;clear h;induction n generalizing s with
 |zero=>simp[itE]at hn
 |succ n ih=>
  simp only[itE]at hn
  split at hn
  cases hn
  rename_i s' hs;exact ih (hI s s' h0 hs) hn
  rename_i t' hs;cases hn;exact⟨s,h0,hs⟩
theorem aSp{l:List Xe}{i:Nat}{x:Xe}(hx:l[i]? =some x)(hl:x.types.length<=8)(h:aFr l (i:Int) 0=some (.inl ())):∀t∈x.types,1<=t/\t<=3:=by
 have hstep:∀n:Nat,E3 l (i:Int) (n:Int)=match x.types[n]? with
  |some t=>if t<1\/3<t then some (.inr (.inr ()))else some (.inl ((n+1:Nat):Int))
  |none=>some (.inr (.inl ())):=fun n=>by
  unfold E3
  rw[AN hx]
  cases ht:x.types[n]? with
  |none=>
   have:=List.getElem?_eq_none_iff.1 ht
   rw[decide_eq_false (by omega),AG]
  |some t=>
   simp only[ltD ht,AI,AN hx,AN ht,Ag ht (show x.types.length<=9223372036854775807 by omega),Dj]
   by_cases h1:t<1
   simp[h1]
   by_cases h2:3<t
   simp[h1,h2]
   simp[h1,h2]
 obtain⟨s',⟨n,rfl,hn⟩,hs⟩:=Mi (step:=fun s=>E3 l (i:Int) s) (I:=fun s=>∃n:Nat,s=(n:Int)/\∀j t,j<n->x.types[j]? =some t->1<=t/\t<=3)
  (by
   rintro s s' ⟨n,rfl,hn⟩ hs;rw[hstep]at hs;cases ht:x.types[n]? with
   |none=>rw[ht]at hs;cases hs
   |some t=>
    rw[ht]at hs
    simp only at hs
    split at hs
    cases hs
    rename_i hc
    cases hs
    refine⟨n+1,rfl,fun j u hj hu=>?_⟩
    by_cases hjn:j=n
    subst hjn;rw[ht]at hu;cases hu;omega
    exact hn j u (by omega) hu) ⟨0,rfl,fun j t hj=>by omega⟩ h
 rw[hstep]at hs;intro t ht;obtain⟨j,hj⟩:=List.mem_iff_getElem?.1 ht;refine hn j t ?_ hj;cases hx2:x.types[n]? with
 |none=>
  have h1:=List.getElem?_eq_none_iff.1 hx2
  have h2:=(List.getElem?_eq_some_iff.1 hj).1
  omega
 |some u=>
  rw[hx2]at hs
  simp only at hs
  split at hs<;>cases hs
theorem aSo{l:List Xe}(hl:l.length<=1000){o:Unit⊕(Int×Int)}(h:aFp l 0=some o)(ho:∀r,o=.inr r->r.1=0):∀d∈l,∀t∈d.types,1<=t/\t<=3:=by
 have fwd:∀(n:Nat) (y:Int⊕(Unit⊕(Int×Int))),E2 l (n:Int)=some y->(y=.inr (.inl ())/\l.length<=n)\/(y=.inl ((n+1:Nat):Int)/\∀d,l[n]? =some d->∀t∈d.types,1<=t/\t<=3)\/∃r,y=.inr (.inr r)/\r.1≠0:=by
  intro n y hy;unfold E2 at hy;rcases iS hy with⟨h1,hy⟩|⟨h1,hy⟩
  have hlt:n<l.length:=by have:=of_decide_eq_true h1;omega
  obtain⟨x,hx,_⟩:=AZ hlt;rw[AN hx]at hy;obtain⟨r2,_,hy⟩:=bS hy;rcases iS hy with⟨_,hy⟩|⟨_,hy⟩
  cases hy;exact .inr (.inr ⟨_,rfl,by simp⟩);rw[AN hx]at hy;obtain⟨r4,_,hy⟩:=bS hy;rcases iS hy with⟨_,hy⟩|⟨_,hy⟩
  cases hy;exact .inr (.inr ⟨_,rfl,by simp⟩);rw[AN hx]at hy;rcases iS hy with⟨_,hy⟩|⟨h8,hy⟩
  cases hy;exact .inr (.inr ⟨_,rfl,by simp⟩);have h8:=of_decide_eq_false h8;obtain⟨o11,h2,hy⟩:=bS hy;cases o11 with
  |inl u=>
   cases hy
   refine .inr (.inl ⟨by rw[M5 (by omega)],fun d hd=>?_⟩)
   rw[hx]at hd;cases hd
   exact aSp hx (by omega) h2
  |inr u=>cases hy;exact .inr (.inr ⟨_,rfl,by simp⟩)
  cases hy;have:=of_decide_eq_false h1;exact .inl ⟨rfl,by omega⟩
 obtain⟨s',⟨n,rfl,hn⟩,hs⟩:=Mi (step:=fun s=>E2 l s) (I:=fun s=>∃n:Nat,s=(n:Int)/\∀j d,j<n->l[j]? =some d->∀t∈d.types,1<=t/\t<=3)
  (by
   rintro s s' ⟨n,rfl,hn⟩ hs;rcases fwd n _ hs with⟨h1,_⟩|⟨h1,h2⟩|⟨r,h1,_⟩
   cases h1;cases h1;refine⟨n+1,rfl,fun j d hj hd=>?_⟩;by_cases hjn:j=n;subst hjn;exact h2 d hd;exact hn j d (by omega) hd;cases h1) ⟨0,rfl,fun j d hj=>by omega⟩ h
 rcases fwd n _ hs with⟨h1,h2⟩|⟨h1,h2⟩|⟨r,h1,h2⟩
 intro d hd;obtain⟨j,hj⟩:=List.mem_iff_getElem?.1 hd;exact hn j d (by have:=(List.getElem?_eq_some_iff.1 hj).1;omega) hj;cases h1;cases h1;exact absurd (ho r rfl) h2
theorem NL{q:AD}(hF:DF q)(h:Yq q=some true):∀d∈q.decls,∀t∈d.types,(1:Int)<=t/\t<=3:=by
 unfold Yq at h;obtain⟨r1,h1,h⟩:=bS h;rcases iS h with⟨_,h⟩|⟨h2,h⟩
 cases h;have hr:r1.1=0:=by simpa using h2
 unfold Xz at h1;rcases iS h1 with⟨_,h1⟩|⟨_,h1⟩
 cases h1;simp at hr;obtain⟨o14,h3,h1⟩:=bS h1;have hd:=hF.decls;refine aSo (by omega) h3 fun r hr2=>?_;subst hr2;cases h1;exact hr
section
variable {α σ τ:Type} [DecidableEq α]
def En(o l:List α):List α:=l.foldl (fun o x=>if x∈o then o else o++[x]) o
theorem D1(o l:List α)(x:α):En o (x::l)=En (if x∈o then o else o++[x]) l:=rfl
theorem Dy:∀{l o:List α} {x:α},x∈En o l↔x∈o\/x∈l
 |[],o,x=>by simp[En]
 |y::l,o,x=>by
  rw[D1,Dy];by_cases h:y∈o;rw[if_pos h,mc];constructor;rintro(h1|h1);exact .inl h1;exact .inr (.inr h1);rintro(h1|rfl|h1);exact .inl h1;exact .inl h;exact .inr h1;rw[if_neg h,ma,List.mem_singleton,mc,or_assoc]
theorem I9:∀{l o:List α},o.Nodup->(En o l).Nodup
 |[],o,h=>h
 |y::l,o,h=>by
  rw[D1];apply I9;by_cases hy:y∈o;rw[if_pos hy];exact h;rw[if_neg hy,List.nodup_append];exact⟨h,by simp,fun a ha b hb e=>hy (by rw[List.mem_singleton]at hb;rw[<-hb,<-e];exact ha)⟩
theorem K9:∀(l o:List α),∃r,En o l=o++r
 |[],o=>⟨[],by simp[En]⟩
 |y::l,o=>by
  rw[D1];obtain⟨r,h⟩:=K9 l (if y∈o then o else o++[y])
  rw[h];by_cases hy:y∈o;rw[if_pos hy];exact⟨r,rfl⟩;rw[if_neg hy];exact⟨[y]++r,by simp⟩
theorem K7{l o:List α}{j:Nat}{x:α}(h:o[j]? =some x):(En o l)[j]? =some x:=by obtain⟨r,e⟩:=K9 l o;rw[e,List.getElem?_append_left (List.getElem?_eq_some_iff.1 h).1];exact h
theorem aJb(l o:List α):o.length<=(En o l).length:=by obtain⟨r,e⟩:=K9 l o;rw[e,List.length_append];omega
inductive Rch(succ:α->List α)(s:α):α->Prop
 |refl:Rch succ s s
 |step {x y:α}:Rch succ s x->y∈succ x->Rch succ s y
structure WI(succ:α->List α)(s:α)(i:Nat)(o:List α):Prop where
 nd:o.Nodup
 hd:o[0]? =some s
 le:i<=o.length
 rc:∀x∈o,Rch succ s x
 cl:∀j x,j<i->o[j]? =some x->∀y∈succ x,y∈o
variable {succ:α->List α} {s:α}
theorem WI.init:WI succ s 0 [s]:=⟨by simp,rfl,Nat.zero_le _,fun x hx=>by rw[List.mem_singleton]at hx;subst hx;exact .refl,fun j x hj=>by omega⟩
theorem WI.step{i:Nat}{o:List α}(h:WI succ s i o){x:α}(hx:o[i]? =some x):WI succ s (i+1) (En o (succ x)):=by
 have hi:=(List.getElem?_eq_some_iff.1 hx).1;refine⟨I9 h.nd,K7 h.hd,Nat.le_trans hi (aJb _ _),fun y hy=>?_,fun j y hj hy z hz=>?_⟩;rcases Dy.1 hy with hy|hy
 exact h.rc y hy;exact(h.rc x (List.mem_of_getElem? hx)).step hy;have hj2:j<o.length:=by omega
 obtain⟨w,hw,_⟩:=AZ hj2;have e:w=y:=by rw[K7 hw,oe]at hy;exact hy
 subst e;by_cases hji:j=i;subst hji;rw[hx,oe]at hw;subst hw;exact Dy.2 (.inr hz);exact Dy.2 (.inl (h.cl j w (by omega) hw z hz))
def wl(succ:α->List α):Nat->Nat->List α->List α
 |0,_,o=>o
 |n+1,i,o=>match o[i]? with
  |none=>o
  |some x=>wl succ n (i+1) (En o (succ x))
def Bd(succ:α->List α)(s:α)(N:Nat):Prop:=∀o:List α,o.Nodup->(∀x∈o,Rch succ s x)->o.length<=N
theorem aTp{N:Nat}(hN:Bd succ s N):∀(n i:Nat) (o:List α),WI succ s i o->N+1<=n+i->WI succ s (wl succ n i o).length (wl succ n i o)
 |0,i,o,h,hn=>by have:=h.le;have:=hN o h.nd h.rc;omega
 |n+1,i,o,h,hn=>by
  rw[wl];split;rename_i e;have:=List.getElem?_eq_none_iff.1 e;have he:i=o.length:=by have:=h.le;omega
  subst he;exact h;rename_i x hx;exact aTp hN n (i+1) _ (h.step hx) (by omega)
theorem OZ{N:Nat}(hN:Bd succ s N){step:σ->Option (σ⊕τ)}(mk:Nat->List α->σ)(fin:List α->τ)
 (h1:∀i x o,WI succ s i o->o[i]? =some x->step (mk i o)=some (.inl (mk (i+1) (En o (succ x)))))
 (h2:∀o,WI succ s o.length o->step (mk o.length o)=some (.inr (fin o))):∀(n i:Nat) (o:List α),WI succ s i o->N+1<=n+i->AQ step (mk i o)=some (fin (wl succ n i o))
 |0,i,o,h,hn=>by have:=h.le;have:=hN o h.nd h.rc;omega
 |n+1,i,o,h,hn=>by
  rw[wl,Al];cases e:o[i]? with
  |none=>
   have:=List.getElem?_eq_none_iff.1 e
   have he:i=o.length:=by have:=h.le;omega
   subst he
   rw[h2 o h,Ad]
  |some x=>
   rw[h1 i x o h e,BF]
   exact OZ hN mk fin h1 h2 n (i+1) _ (h.step e) (by omega)
def clo(succ:α->List α)(N:Nat)(s:α):List α:=wl succ (N+1) 0 [s]
theorem PX{N:Nat}(hN:Bd succ s N):WI succ s (clo succ N s).length (clo succ N s):=aTp hN _ _ _ WI.init (Nat.le_refl _)
theorem Eo{N:Nat}(hN:Bd succ s N){x:α}:x∈clo succ N s↔Rch succ s x:=by
 have h:=PX hN;refine⟨h.rc x,fun hx=>?_⟩;induction hx with
 |refl=>exact List.mem_of_getElem? h.hd
 |step hx hy ih=>
  obtain⟨j,hj⟩:=List.mem_iff_getElem?.1 ih
  exact h.cl j _ (List.getElem?_eq_some_iff.1 hj).1 hj _ hy
theorem JG{N:Nat}(hN:Bd succ s N):(clo succ N s).length<=N:=hN _ (PX hN).nd (PX hN).rc
end
theorem aLh{succ:Int->List Int}{s:Int}{N:Nat}(h:∀x,Rch succ s x->0<=x/\x<N):Bd succ s N:=fun o h1 h2=>by
 have:=h1.length_le_of_subset (l₂:=(List.range N).map (fun n:Nat=>(n:Int))) fun x hx=>by obtain⟨a,b⟩:=h x (h2 x hx);exact mm.2 ⟨x.toNat,List.mem_range.2 (by omega),by omega⟩
 simpa using this
theorem I8{α β:Type} [DecidableEq α](p:β->Bool)(g:β->α):∀(l:List β) (o:List α),l.foldl (fun o t=>if p t=true/\g t∉o then o++[g t]else o) o=En o ((l.filter p).map g)
 |[],o=>rfl
 |t::l,o=>by
  rw[List.foldl_cons,I8 p g l,List.filter_cons];by_cases h:p t=true;rw[if_pos h,List.map_cons,D1];by_cases h2:g t∈o;simp[h2];simp[h,h2];simp[h]
theorem aPt(q:AD)(hW:∀t∈q.trans,KC t):∃r,Zb q=some r/\(r=true->DF q/\Af q/\Yq q=some true/\∀d∈q.decls,d.types.length<=3):=by
 obtain⟨n,hn,hF⟩:=aVc q;unfold Zb;refine BY hn ?_;refine BT (fun _=>⟨_,rfl,by simp⟩) (fun h0=>?_);have hF:=hF h0;obtain⟨r,hr,hR⟩:=aWn q hF hW;refine BY hr ?_;refine Ep (fun _=>⟨_,rfl,by simp⟩) (fun h1=>?_);have hR2:=hR h1;have hd:=hF.decls;obtain⟨o,ho,hQ⟩:=An (step:=fun s=>Ix q s) q.decls.length (fun i=>∀d,q.decls[i]? =some d->d.types.length<=3) (fun o=>o=Sum.inl ()->∀d∈q.decls,d.types.length<=3)
  (fun i hi=>by obtain⟨x,hx,_⟩:=AZ hi;simp only[Ix,ltD hx,AI,AN hx,Ag hx (show q.decls.length<=9223372036854775807 by omega)];by_cases h:3<x.types.length;exact .inr ⟨.inr (),by rw[decide_eq_true (by omega)];rfl,fun h=>by cases h⟩;exact .inl ⟨by rw[decide_eq_false (by omega)];rfl,fun t h2=>by rw[hx,oe]at h2;subst h2;omega⟩)
  (fun hall=>⟨.inl (),by simp only[Ix,ltI,AG],fun _=>Fl hall⟩)
 have ho':aOk q 0=some o:=ho;refine BY ho' ?_;subst h1;rcases o with⟨⟩|⟨⟩
 rw[CR];exact⟨_,rfl,fun _=>⟨hF,hR2,hr,hQ rfl⟩⟩;rw[ED];exact⟨_,rfl,by simp⟩
def HD(q:AD)(x:Int):List Int:=(q.trans.filter fun t=>decide (t.from_=x)).map (·.to)
theorem aA1{q:AD}{x y:Int}:y∈HD q x↔ ∃t∈q.trans,t.from_=x/\t.to=y:=by simp[HD,and_assoc]
theorem rcT{q:AD}(hR:Af q){s:Int}(hs:0<=s/\s<q.states.length):∀x,Rch (HD q) s x->0<=x/\x<q.states.length:=fun x h=>by
 cases h with
 |refl=>exact hs
 |step _ hy=>
  obtain⟨t,ht,_,rfl⟩:=aA1.1 hy
  exact(hR.ends t ht).2.2
theorem bdT{q:AD}(hR:Af q){s:Int}(hs:0<=s/\s<q.states.length):Bd (HD q) s q.states.length:=aLh (rcT hR hs)
theorem Rz(l:List Int)(x:Int)(hl:l.length<=9223372036854775807):Yt l x=some (if l.any (fun y=>decide (x=y))=true then((l.findIdx (fun y=>decide (x=y)):Nat):Int)else-1):=by
 have h:aH7 l x (l.length:Int) 0=_:=Dt (step:=fun s=>Gw l x (l.length:Int) s) l (fun y=>decide (x=y))
  (fun i y hy=>by simp only[Gw,ltD hy,AI,AN hy,Ag hy hl,Dj];by_cases h:x=y<;>simp[h])
  (by simp only[Gw,ltI,AG])
 unfold Yt;rw[h,AB];split;rfl;rfl
theorem E0(l:List Int)(x:Int)(hl:l.length<=9223372036854775807):Q8 l x=some (decide (x∈l)):=by unfold Q8;rw[Rz l x hl,AB];congr 1;rw[Bool.eq_iff_iff,decide_eq_true_eq,decide_eq_true_eq];split;rename_i h;rw[List.any_eq_true]at h;obtain⟨y,hy,h⟩:=h;have:=of_decide_eq_true h;subst this;exact⟨fun _=>hy,fun _=>by omega⟩;rename_i h;refine⟨fun h=>by omega,fun hx=>absurd (List.any_eq_true.2 ⟨x,hx,by simp⟩) h⟩
theorem aYn{q:AD}(hF:DF q)(i:Nat){x:Int}{o:List Int}(hx:o[i]? =some x)(ho:o.length<=1000):aNi (i:Int) q.trans (q.trans.length:Int) q 0 o=some (En o (HD q x)):=by
 have ht:=hF.trans;have h:=Ci (step:=fun s:Int×List Int=>IM (i:Int) q.trans (q.trans.length:Int) q s.1 s.2) q.trans (fun o t=>if decide (t.from_=x)=true/\t.to∉o then o++[t.to]else o) id (fun j w=>w[i]? =some x/\w.length<=1000+j)
  (fun j t w hj hI=>by
   have hjl:=DX hj;have hw:w.length<=9223372036854775807:=by have:=hI.2;omega
   refine⟨?_,?_⟩;simp only[IM,ltD hj,AI,aEz,AN hj,AN hI.1,E0 w t.to hw,AB,UT,Ag hj (show q.trans.length<=9223372036854775807 by omega)];rw[Dj];by_cases h1:t.from_=x;rw[if_pos h1];by_cases h2:t.to∈w;simp[h1,h2,AE,AJ];simp only[h2,decide_false,Bool.not_false,AI];rw[KP (by have:=hI.2;simp;omega) (by decide),AB,AB];simp[h1];simp[h1,AE,AJ];split;exact⟨by rw[List.getElem?_append_left (DX hI.1)];exact hI.1,by have:=hI.2;simp;omega⟩;exact⟨hI.1,by have:=hI.2;omega⟩)
  (fun w _=>by simp only[IM,ltI,AG];rfl) o ⟨hx,ho⟩
 refine Eq.trans h ?_;rw[I8 (fun t:Xd=>decide (t.from_=x)) (fun t=>t.to)];rfl
theorem aR1{q:AD}(hF:DF q)(hR:Af q){s:Int}(hs:0<=s/\s<q.states.length):Xt q s=some (clo (HD q) q.states.length s):=by
 have hb:=bdT hR hs;have hst:=hF.states;have h:=OZ hb (step:=fun s:Int×List Int=>IL q s.1 s.2) (fun i o=>((i:Int),o)) id
  (fun i x o hI hx=>by have hl:=hb o hI.nd hI.rc;simp only[IL,ltD hx,AI,aYn hF i hx (by omega),AB,Ag hx (show o.length<=9223372036854775807 by omega)])
  (fun o hI=>by simp only[IL,ltI,AG];rfl) _ 0 [s] WI.init (Nat.le_refl _)
 have h':aNh q 0 [s]=some (clo (HD q) q.states.length s):=h;unfold Xt;rw[h',AB]
def okS(q:AD)(j:Nat):Prop:=∀st,q.states[j]? =some st->st.accept=true/\st.next=false
def noS(q:AD)(j:Nat):Prop:=∀st,q.states[j]? =some st->st.accept=false
def M2(q:AD)(s:Int):Prop:=∀j:Nat,Rch (HD q) s (j:Int)->okS q j
def aJp(q:AD)(s:Int):Prop:=∀j:Nat,Rch (HD q) s (j:Int)->noS q j
open Classical in
def EQ(q:AD)(s:Int):Int:=if M2 q s then 1 else if aJp q s then 2 else 0
theorem Hb{l:List Int}{p:Int->Bool}:decide ((0:Int)<=if l.any p=true then((l.findIdx p:Nat):Int)else-1)=l.any p:=by split;rename_i h;rw[h];simp;rename_i h;simp at h;simpa using h
theorem CF1(l:List Int)(q:AD)(p:Int->Bool)(hl:l.length<=9223372036854775807)(hp:∀x∈l,Qq x q=some (p x)):Qr l q=some (l.any p):=by
 have h:aOo l q (l.length:Int) 0=_:=Dt (step:=fun s=>I3 l q (l.length:Int) s) l p
  (fun i y hy=>by simp only[I3,ltD hy,AI,AN hy,hp y (List.mem_of_getElem? hy),AB,Ag hy hl,BE];cases p y<;>rfl)
  (by simp only[I3,ltI,AG])
 unfold Qr Zh;rw[h,AB,<-Hb];split<;>rfl
theorem CF2(l:List Int)(q:AD)(p:Int->Bool)(hl:l.length<=9223372036854775807)(hp:∀x∈l,Qs x q=some (p x)):Qt l q=some (l.any p):=by
 have h:aOp l q (l.length:Int) 0=_:=Dt (step:=fun s=>I4 l q (l.length:Int) s) l p
  (fun i y hy=>by simp only[I4,ltD hy,AI,AN hy,hp y (List.mem_of_getElem? hy),AB,Ag hy hl,BE];cases p y<;>rfl)
  (by simp only[I4,ltI,AG])
 unfold Qt Zi;rw[h,AB,<-Hb];split<;>rfl
theorem aOt{q:AD}(hF:DF q)(hR:Af q){s:Int}(hs:0<=s/\s<q.states.length):Zo q s=some (EQ q s):=by
 have hb:=bdT hR hs;have hst:=hF.states;have hlen:=JG hb;have hget:∀x∈clo (HD q) q.states.length s,∃st,q.states[x.toNat]? =some st/\0<=x:=fun x hx=>by have:=rcT hR hs x ((Eo hb).1 hx);obtain⟨st,h,_⟩:=YS this.1 this.2;exact⟨st,h,this.1⟩
 have e1:=CF1 (clo (HD q) q.states.length s) q (fun x=>match q.states[x.toNat]? with|some st=> !st.accept||st.next|none=>false) (by omega) (fun x hx=>by obtain⟨st,h,h0⟩:=hget x hx;unfold Qq;rw[D3 h h0,D3 h h0,h];simp only;cases st.accept<;>rfl)
 have e2:=CF2 (clo (HD q) q.states.length s) q (fun x=>match q.states[x.toNat]? with|some st=>st.accept|none=>false) (by omega) (fun x hx=>by obtain⟨st,h,h0⟩:=hget x hx;unfold Qs;rw[D3 h h0,h])
 unfold Zo EQ;rw[decide_eq_false (by omega),AG,decide_eq_false (by omega),AG,aR1 hF hR hs,AB,e1,AB,BE];by_cases c1:M2 q s;rw[if_pos c1,if_pos];rw[Bool.not_eq_true',List.any_eq_false];intro x hx;obtain⟨st,h,h0⟩:=hget x hx;have:=c1 x.toNat (by rw[Int.toNat_of_nonneg h0];exact(Eo hb).1 hx) st h;rw[h];simp[this];rw[if_neg c1,if_neg];rw[e2,AB,BE];by_cases c2:aJp q s;rw[if_pos c2,if_pos];rw[Bool.not_eq_true',List.any_eq_false];intro x hx;obtain⟨st,h,h0⟩:=hget x hx;have:=c2 x.toNat (by rw[Int.toNat_of_nonneg h0];exact(Eo hb).1 hx) st h;rw[h];simp[this];rw[if_neg c2,if_neg];intro h;rw[Bool.not_eq_true',List.any_eq_false]at h;refine c2 fun j hj st hst=>?_;have:=h _ ((Eo hb).2 hj);rw[Int.toNat_natCast,hst]at this;simpa using this;intro h;rw[Bool.not_eq_true',List.any_eq_false]at h;refine c1 fun j hj st hst=>?_;have:=h _ ((Eo hb).2 hj);rw[Int.toNat_natCast,hst]at this;simpa using this
def InS(q:AD)(l:List Yn):Prop:=∀c∈l,0<=c.state/\c.state<q.states.length
def aLq(q:AD)(l:List Yn):Int:=if(l.any fun c=>decide (EQ q c.state=1))=true then 1 else if(l.all fun c=>decide (EQ q c.state=2))=true then 2 else 0
theorem aX1(q:AD)(s:Int):EQ q s=1\/EQ q s=2\/EQ q s=0:=by unfold EQ;by_cases h1:M2 q s;exact .inl (if_pos h1);rw[if_neg h1];by_cases h2:aJp q s;exact .inr (.inl (if_pos h2));exact .inr (.inr (if_neg h2))
def gI(b:Bool):Int:=if b=true then 2 else 0
theorem aVr{q:AD}(hF:DF q)(hR:Af q){l:List Yn}(hl:l.length<=1000)(hi:InS q l):Xu q l=some (aLq q l):=by
 have h:aNj l (l.length:Int) q 2 0=some (if(l.any fun c=>decide (EQ q c.state=1))=true then .inr ()else .inl (gI (l.all fun c=>decide (EQ q c.state=2)))):=by
  obtain⟨o,ho,hQ⟩:=BC (step:=fun s:Int×Int=>Gq l (l.length:Int) q s.1 s.2)
   (fun s=>∃i:Nat,s.2=(i:Int)/\i<=l.length/\(∀c∈l.take i,EQ q c.state≠1)/\s.1=gI ((l.take i).all fun c=>decide (EQ q c.state=2)))
   (fun s=>(l.length-s.2).toNat)
   (fun o=>o=(if(l.any fun c=>decide (EQ q c.state=1))=true then .inr ()else .inl (gI (l.all fun c=>decide (EQ q c.state=2)))))
   (by
    rintro⟨n,m⟩ ⟨i,rfl,hi2,ha,hb⟩;simp only at hb;subst hb;by_cases he:i=l.length;subst he;refine .inl ⟨_,by simp only[Gq,ltI,AG];rfl,?_⟩;rw[List.take_length]at*;have hne:¬(l.any fun c=>decide (EQ q c.state=1))=true:=by rw[List.any_eq_true];rintro⟨c,hc,h⟩;exact ha c hc (of_decide_eq_true h)
    rw[if_neg hne];obtain⟨c,hc,_⟩:=AZ (l:=l) (i:=i) (by omega);have hcm:=List.mem_of_getElem? hc;have ht:l.take (i+1)=l.take i++[c]:=by rw[List.take_add_one,hc];rfl
    have hk:=aOt hF hR (hi c hcm);by_cases e:EQ q c.state=1;refine .inl ⟨.inr (),?_,?_⟩;simp only[Gq,ltD hc,AI,UY,AN hc,hk,AB,UZ,Ub,e,decide_true,ED];rw[if_pos];rw[List.any_eq_true];exact⟨c,hcm,decide_eq_true e⟩;refine .inr ⟨(gI ((l.take i).all (fun c=>decide (EQ q c.state=2))&&decide (EQ q c.state=2)),((i+1:Nat):Int)),?_,⟨i+1,rfl,by omega,?_,?_⟩,by simp only;omega⟩;simp only[Gq,ltD hc,AI,UY,AN hc,hk,AB,UZ,Ub,e,decide_false,AG,aE6,Ag hc (show l.length<=9223372036854775807 by omega)];rcases aX1 q c.state with h|h|h
    exact absurd h e;rw[h];cases(l.take i).all (fun c=>decide (EQ q c.state=2))<;>rfl;rw[h];cases(l.take i).all (fun c=>decide (EQ q c.state=2))<;>rfl;intro x hx;rw[ht]at hx;rcases ma.1 hx with h|h
    exact ha x h;rw[List.mem_singleton]at h;exact h▸e;rw[ht];simp)
   (2,(0:Int)) ⟨0,rfl,by omega,by simp,by simp[gI]⟩
  rw[<-hQ];exact ho
 unfold Xu aLq;rw[h,AB];split<;>rfl
def MSt{K V:Type}(m:MP K V):Prop:=∀e∈m.es,e.1<m.clk
theorem P3{K V:Type}(c:Nat)(k:K)(z v:V):∀l:List (Nat×K×V),(∀e∈l,e.1<c)->aQh (c:Int) v (l++[(c,k,z)])=l++[(c,k,v)]
 |[],_=>by simp[aQh]
 |x::xs,h=>by
  have:=h x (by simp);rw[List.cons_append,aQh,if_neg (by omega),P3 c k z v xs fun e he=>h e (List.mem_cons_of_mem _ he)];rfl
section
variable {K V:Type} [DecidableEq K]
theorem LR(z:V)(c:Nat)(k:K)(v:V)(k':K):∀l:List (Nat×K×V),Lr z k' (NE c k v l).2=if k=k' then(v,true)else Lr z k' l
 |[]=>by
  simp only[NE,Lr]
 |x::xs=>by
  rw[NE];split;rename_i h;by_cases e:k=k';rw[if_pos e,Lr,if_pos (h.trans e)];rw[if_neg e,Lr,Lr,if_neg (by rw[h];exact e),if_neg (by rw[h];exact e)];rename_i h;by_cases e:k=k';rw[if_pos e,Lr,if_neg (by rw[<-e];exact h),LR z c k v k' xs,if_pos e];rw[if_neg e,Lr,Lr,LR z c k v k' xs,if_neg e]
theorem Pp(z:V)(m:MP K V)(k:K)(v:V)(k':K):J4 z (Eg m k v) k'=if k=k' then(v,true)else J4 z m k':=LR z _ _ _ _ _
theorem Py(z:V)(c:Nat)(k:K)(v:V):∀l:List (Nat×K×V),(Lr z k l).2=false->NE c k v l=(c+1,l++[(c,k,v)])/\KV c z k l=((c+1,l++[(c,k,z)]),z,c)
 |[],_=>⟨rfl,rfl⟩
 |x::xs,h=>by
  rw[Lr]at h;split at h;cases h;rename_i hx;obtain⟨a,b⟩:=Py z c k v xs h;rw[NE,if_neg hx,KV,if_neg hx,a,b];exact⟨rfl,rfl⟩
theorem aLx{z:V}{m:MP K V}{k:K}(v:V)(h:(J4 z m k).2=false)(hm:MSt m):OM z m k=m.clk/\aKd (G7 z m k) ((OM z m k:Nat):Int)=true/\Ri (G7 z m k) ((OM z m k:Nat):Int) v=Eg m k v/\MSt (Eg m k v)/\(Eg m k v).clk=m.clk+1:=by
 obtain⟨a,b⟩:=Py z m.clk k v m.es h;refine⟨by simp[OM,b],by simp[aKd,G7,OM,b],?_,?_,by simp[Eg,a]⟩;simp only[Ri,G7,OM,Eg,a,b,P3 m.clk k z v m.es hm];intro e he;simp only[Eg,a]at he⊢;rcases ma.1 he with h|h
 have:=hm e h;omega;rw[List.mem_singleton]at h;subst h;simp
theorem aKc(z:V)(k:K):J4 z (G8:MP K V) k=(z,false):=rfl
end
section
variable {α σ τ:Type} [DecidableEq α] {succ:α->List α} {s:α}
def wlS(succ:α->List α)(p:α->Bool):Nat->Nat->List α->Nat×List α
 |0,i,o=>(i,o)
 |n+1,i,o=>match o[i]? with
  |none=>(i,o)
  |some x=>if p x=true then(i,o)else wlS succ p n (i+1) (En o (succ x))
theorem Lm{N:Nat}(hN:Bd succ s N)(p:α->Bool){step:σ->Option (σ⊕τ)}(R:Nat->List α->σ->Prop)(Q:Nat->List α->τ->Prop)
 (h1:∀i x o st,WI succ s i o->R i o st->o[i]? =some x->p x=false->∃st',step st=some (.inl st')/\R (i+1) (En o (succ x)) st')
 (h2:∀i x o st,WI succ s i o->R i o st->o[i]? =some x->p x=true->∃t,step st=some (.inr t)/\Q i o t)
 (h3:∀o st,WI succ s o.length o->R o.length o st->∃t,step st=some (.inr t)/\Q o.length o t):∀(n i:Nat) (o:List α) (st:σ),WI succ s i o->R i o st->N+1<=n+i->
 ∃t,AQ step st=some t/\Q (wlS succ p n i o).1 (wlS succ p n i o).2 t
 |0,i,o,st,h,_,hn=>by have:=h.le;have:=hN o h.nd h.rc;omega
 |n+1,i,o,st,h,hr,hn=>by
  rw[wlS,Al];cases e:o[i]? with
  |none=>
   have:=List.getElem?_eq_none_iff.1 e
   have he:i=o.length:=by have:=h.le;omega
   subst he
   obtain⟨t,a,b⟩:=h3 o st h hr
   exact⟨t,by rw[a,Ad],b⟩
  |some x=>
   simp only
   cases hp:p x with
   |true=>
    obtain⟨t,a,b⟩:=h2 i x o st h hr e hp
    exact⟨t,by rw[a,Ad],b⟩
   |false=>
    obtain⟨st',a,b⟩:=h1 i x o st h hr e hp
    rw[a,BF]
    exact Lm hN p R Q h1 h2 h3 n (i+1) _ st' (h.step e) b (by omega)
theorem aL8(succ:α->List α){p:α->Bool}(hp:∀x,p x=false):∀(n i:Nat) (o:List α),(wlS succ p n i o).2=wl succ n i o
 |0,_,_=>rfl
 |n+1,i,o=>by
  rw[wlS,wl];cases o[i]? with
  |none=>rfl
  |some x=>simp only[hp x,Bool.false_eq_true,if_false];exact aL8 succ hp n (i+1) _
end
theorem K8{α β:Type} [DecidableEq α](g:β->α):∀(l:List β) (o:List α),l.foldl (fun o m=>if g m∈o then o else o++[g m]) o=En o (l.map g)
 |[],o=>rfl
 |m::l,o=>by rw[List.foldl_cons,K8 g l];rfl
def Dn(q:AD)(L:List Int)(x:Int):List Int:=L.map fun m=>((Dg q x.toNat m.toNat:Nat):Int)
theorem FW{q:AD}(hR:Af q)(S M:Nat):Dg q S M<2^q.states.length:=by apply Nat.lt_pow_two_of_testBit;intro k hk;rw[<-Bool.not_eq_true,ZU];rintro⟨s,hs,_,hf⟩;unfold aLo at hf;split at hf;rw[Nat.testBit_two_pow]at hf;have:=of_decide_eq_true hf;omega;obtain⟨t,ht,_,he⟩:=(aQk q M s k).1 hf;have:=(hR.ends t ht).2.2;omega
structure Fa(q:AD)(L:List Int):Prop where
 len:L.length<=5000
 up:L.Pairwise (· < ·)
 lt:∀x∈L,∃n:Nat,x=(n:Int)/\n<4096
theorem aQe{q:AD}(hF:DF q)(hR:Af q)(hS:CI q)(hT:Yq q=some true)(h3:∀d∈q.decls,d.types.length<=3){b:List X2}(hB:BR b):∃L,X4 q b=some L/\Xo q b=some L/\RS L (aMk q b)/\Fa q L:=by obtain⟨L,e1,e2,hL⟩:=L3 hF hR hS (NL hF hT) h3 hB;refine⟨L,e1,e2,hL,Nat.le_trans (hL.len fun n hn=>NN hF hn) (by decide),hL.up,fun x hx=>?_⟩;obtain⟨n,rfl,hn⟩:=(hL.is x).1 hx;exact⟨n,rfl,NN hF hn⟩
theorem rcS{q:AD}(hR:Af q)(hS:CI q){L:List Int}{s:Nat}(hs:s<2^q.states.length):∀x,Rch (Dn q L) (s:Int) x->∃n:Nat,x=(n:Int)/\n<256:=fun x h=>by
 have h8:2^q.states.length<=256:=show 2^q.states.length<=2^8 from Nat.pow_le_pow_right (by decide) hS.states;cases h with
 |refl=>exact⟨s,rfl,by omega⟩
 |step _ hy=>
  obtain⟨m,_,rfl⟩:=mm.1 hy
  exact⟨_,rfl,by have:=FW hR;exact Nat.lt_of_lt_of_le (this _ _) h8⟩
theorem bdS{q:AD}(hR:Af q)(hS:CI q){L:List Int}{s:Nat}(hs:s<2^q.states.length):Bd (Dn q L) (s:Int) 256:=aLh fun x hx=>by obtain⟨n,rfl,h⟩:=rcS hR hS hs x hx;omega
theorem YU(l:List Int)(x:Int)(hl:l.length<=9223372036854775807):Yu l x=some (decide (x∈l)):=by
 have h:aN5 l x 0=_:=DG (step:=fun s=>Im l x s) l (fun _ y=>if y=x then some (Sum.inr ():Unit⊕Unit)else none) (.inl ())
  (fun i y hy=>by simp only[Im,ltD hy,AI,AN hy,Ag hy hl,Dj];by_cases h:y=x<;>simp[h])
  (by simp only[Im,ltI,AG])
 unfold Yu;rw[h,AB,Dh];by_cases hx:x∈l;have:l.findSome? (fun y=>if y=x then some (Sum.inr ():Unit⊕Unit)else none)=some (.inr ()):=by
  obtain⟨y,hy⟩:=Option.isSome_iff_exists.1 (List.findSome?_isSome_iff.2 (⟨x,hx,by simp⟩:∃y,y∈l/\(if y=x then some (Sum.inr ():Unit⊕Unit)else none).isSome=true))
  rw[hy];cases y with
  |inl u=>
   obtain⟨z,_,hz⟩:=List.exists_of_findSome?_eq_some hy
   split at hz<;>simp at hz
  |inr u=>rfl
 rw[this];simp[hx,CH];have:l.findSome? (fun y=>if y=x then some (Sum.inr ():Unit⊕Unit)else none)=none:=by rw[List.findSome?_eq_none_iff];intro y hy;exact if_neg fun e=>hx (by rw[<-e];exact hy)
 rw[this];simp[hx,CH]
theorem Mp{q:AD}(hF:DF q)(hR:Af q){L:List Int}(hL:Fa q L){x m:Int}(hx:∃n:Nat,x=(n:Int)/\n<256)(hm:m∈L):Xh q x m=some ((Dg q x.toNat m.toNat:Nat):Int)/\Xg q x m=some ((Dg q x.toNat m.toNat:Nat):Int):=by obtain⟨n,rfl,hn⟩:=hx;obtain⟨k,rfl,hk⟩:=hL.lt m hm;exact⟨aVf hF hR (by omega) (by omega),aVe hF hR (by omega) (by omega)⟩
theorem aQ1{q:AD}(hF:DF q)(hR:Af q){L:List Int}(hL:Fa q L)(i:Nat){x:Int}(hx:∃n:Nat,x=(n:Int)/\n<256){o:List Int}(ho:o[i]? =some x)(hl:o.length<=1000):aNn L (i:Int) q 0 o=some (En o (Dn q L x)):=by
 have hll:=hL.len;have h:=Ci (step:=fun s:Int×List Int=>IQ L (i:Int) q s.1 s.2) L (fun o m=>if((Dg q x.toNat m.toNat:Nat):Int)∈o then o else o++[((Dg q x.toNat m.toNat:Nat):Int)]) id (fun j w=>w[i]? =some x/\w.length<=1000+j)
  (fun j m w hj hI=>by
   have hjl:=DX hj;have hw:w.length<=9223372036854775807:=by have:=hI.2;omega
   refine⟨?_,?_⟩;simp only[IQ,ltD hj,AI,aFj,AN hj,AN hI.1,(Mp hF hR hL hx (List.mem_of_getElem? hj)).2,YU w _ hw,AB,aFl,Ag hj (show L.length<=9223372036854775807 by omega)];by_cases h2:((Dg q x.toNat m.toNat:Nat):Int)∈w;simp[h2,AE,AJ];rw[if_neg h2];simp only[h2,decide_false,Bool.not_false,AI];rw[KP (by have:=hI.2;simp;omega) (by decide),AB,AB];split;exact⟨hI.1,by have:=hI.2;omega⟩;exact⟨by rw[List.getElem?_append_left (DX hI.1)];exact hI.1,by have:=hI.2;simp;omega⟩)
  (fun w _=>by simp only[IQ,ltI,AG];rfl) o ⟨ho,hl⟩
 refine Eq.trans h ?_;rw[K8 (fun m:Int=>((Dg q x.toNat m.toNat:Nat):Int))];rfl
theorem aVx{q:AD}(hF:DF q)(hR:Af q)(hS:CI q){L:List Int}(hL:Fa q L){b:List X2}(he:Xo q b=some L){s:Nat}(hs:s<2^q.states.length):Xy q b (s:Int)=some (clo (Dn q L) 256 (s:Int)):=by
 have hb:=bdS (L:=L) hR hS hs;have h:=OZ hb (step:=fun s:Int×List Int=>IP L q s.1 s.2) (fun i o=>((i:Int),o)) id
  (fun i x o hI hx=>by have hl:=hb o hI.nd hI.rc;simp only[IP,ltD hx,AI,aQ1 hF hR hL i (rcS hR hS hs x (hI.rc x (List.mem_of_getElem? hx))) hx (by omega),AB,Ag hx (show o.length<=9223372036854775807 by omega)])
  (fun o hI=>by simp only[IP,ltI,AG];rfl) _ 0 [(s:Int)] WI.init (Nat.le_refl _)
 have h':aNm L q 0 [(s:Int)]=some (clo (Dn q L) 256 (s:Int)):=h;unfold Xy;rw[he,AB,h',AB]
def aO2(S:Nat)(i:Nat)(st:Xc):Option (Unit⊕Unit):=if st.accept=true/\S.testBit i=true then some (.inr ())else none
def aQt(q:AD)(S:Nat):Bool:=match Lt (Ez (aO2 S)) (fun _=>.inl ()) 0 q.states ()with
 | .inl _=>false
 | .inr _=>true
theorem KI{q:AD}(hF:DF q){S:Nat}(hS:S<4294967296):Z0 q (S:Int)=some (aQt q S):=by
 have h8:=hF.states;have h:aOc (S:Int) q.states (q.states.length:Int) 0=_:=DG (step:=fun s=>Iq (S:Int) q.states (q.states.length:Int) s) q.states (aO2 S) (.inl ())
  (fun i st hi=>by
   have hil:=DX hi;have h1:=Aq (n:=i) (by omega);have h2:=aLf (n:=S) (m:=2^i) hS (Nat.lt_of_lt_of_le (Nat.pow_lt_pow_right (by decide) (show i<32 by omega)) (by decide));simp only[Iq,ltD hi,AI,AN hi,Ag hi (show q.states.length<=9223372036854775807 by omega),h1,OX (show i<32 by omega),h2,aO2];rw[Aw (by omega)];have h3:((S&&&2^i:Nat):Int)=0↔S.testBit i=false:=by rw[<-LK];omega
   cases st.accept with
   |false=>simp[AE]
   |true=>
    rw[AI]
    cases hb:S.testBit i with
    |false=>rw[decide_eq_true (h3.2 hb)];simp[AE]
    |true=>rw[decide_eq_false (by rw[h3,hb];simp)];simp[AE])
  (by simp only[Iq,ltI,AG])
 unfold Z0 aQt;rw[h,AB];cases Lt (Ez (aO2 S)) (fun _=>.inl ()) 0 q.states ()<;>rfl
theorem P8{q:AD}(hF:DF q){S:Nat}(hS:S<4294967296):Zf q (S:Int)=some (aQt q S):=by
 have h8:=hF.states;have h:aOn (S:Int) q 0=_:=DG (step:=fun s=>I1 (S:Int) q s) q.states (aO2 S) (.inl ())
  (fun i st hi=>by
   have hil:=DX hi;have h1:=Aq (n:=i) (by omega);simp only[I1,ltD hi,AI,AN hi,Ag hi (show q.states.length<=9223372036854775807 by omega),h1,OY (k:=.u32) (n:=S) (s:=i) (show i<32 by omega),aTz,LL,aO2];rw[Aw (by omega)];cases hb:S.testBit i with
   |false=>simp[AE]
   |true=>
    simp only[if_true]
    rw[show decide (((1:Nat):Int)=1)=true from rfl,AI]
    cases st.accept<;>simp[AE])
  (by simp only[I1,ltI,AG])
 unfold Zf aQt;rw[h,AB];cases Lt (Ez (aO2 S)) (fun _=>.inl ()) 0 q.states ()<;>rfl
def HX(q:AD)(x:Int):Bool:=aQt q x.toNat
def Lk(q:AD)(l:List Int):Int:=if(l.all (HX q))=true then 1 else if(l.all fun x=> !HX q x)=true then 2 else 0
theorem Kj{q:AD}{l m:List Int}(h:l.Perm m):Lk q l=Lk q m:=by
 have:∀p:Int->Bool,l.all p=m.all p:=fun p=>by rw[Bool.eq_iff_iff,List.all_eq_true,List.all_eq_true];exact⟨fun g x hx=>g x (h.mem_iff.2 hx),fun g x hx=>g x (h.mem_iff.1 hx)⟩
 unfold Lk;rw[this,this]
def Hh(l:List Int):Prop:=∀x∈l,∃n:Nat,x=(n:Int)/\n<256
theorem aA2{q:AD}(hF:DF q){l:List Int}(hl:l.length<=9223372036854775807)(hs:Hh l):Qg q l=some (Lk q l):=by
 have e1:Qv l q=some (l.any fun x=> !HX q x):=by
  have h:aOq l q (l.length:Int) 0=_:=Dt (step:=fun s=>I5 l q (l.length:Int) s) l (fun x=> !HX q x)
   (fun i y hy=>by obtain⟨n,rfl,hn⟩:=hs y (List.mem_of_getElem? hy);simp only[I5,ltD hy,AI,AN hy,U5,KI hF (show n<4294967296 by omega),AB,Ag hy hl,HX,Int.toNat_natCast];rw[BE];split<;>simp_all)
   (by simp only[I5,ltI,AG])
  unfold Qv Zj;rw[h,AB,<-Hb];split<;>rfl
 have e2:Qw l q=some (l.any (HX q)):=by
  have h:aOr l q (l.length:Int) 0=_:=Dt (step:=fun s=>I6 l q (l.length:Int) s) l (HX q)
   (fun i y hy=>by obtain⟨n,rfl,hn⟩:=hs y (List.mem_of_getElem? hy);simp only[I6,ltD hy,AI,AN hy,U6,KI hF (show n<4294967296 by omega),AB,Ag hy hl,HX,Int.toNat_natCast];rw[BE];split<;>simp_all)
   (by simp only[I6,ltI,AG])
  unfold Qw Zk;rw[h,AB,<-Hb];split<;>rfl
 unfold Qg Lk;rw[e1,AB,e2,AB,BE,BE,List.all_eq_not_any_not,List.all_eq_not_any_not];simp only[Bool.not_not];split;rfl;split<;>rfl
abbrev TR:=List Int×MP Int Int×MP Int Int
def Fw(q:AD)(x:Int)(t:TR)(m:Int):TR:=if((Dg q x.toNat m.toNat:Nat):Int)∈t.1 then t else(t.1++[((Dg q x.toNat m.toNat:Nat):Int)],Eg t.2.1 ((Dg q x.toNat m.toNat:Nat):Int) x,Eg t.2.2 ((Dg q x.toNat m.toNat:Nat):Int) m)
structure TI(t:TR):Prop where
 st:MSt t.2.1
 clk:t.2.1.clk=t.1.length
 get:∀k,(J4 0 t.2.1 k).2=decide (k∈t.1)
theorem TI.step{t:TR}(h:TI t)(q:AD)(x m:Int):TI (Fw q x t m):=by unfold Fw;split;exact h;rename_i hn;obtain⟨_,_,_,h4,h5⟩:=aLx (m:=t.2.1) (z:=(0:Int)) (k:=((Dg q x.toNat m.toNat:Nat):Int)) x (by rw[h.get];simp[hn]) h.st;refine⟨h4,by rw[h5,h.clk];simp,fun k=>?_⟩;simp only;rw[Pp];split;rename_i e;simp[e];rename_i e;rw[h.get];have e2:k≠((Dg q x.toNat m.toNat:Nat):Int):=fun h=>e h.symm;simp[e2]
theorem TI.fold{q:AD}{x:Int}:∀{l:List Int} {t:TR},TI t->TI (l.foldl (Fw q x) t)
 |[],_,h=>h
 |m::l,t,h=>by rw[List.foldl_cons];exact TI.fold (h.step q x m)
theorem M4{q:AD}{x:Int}:∀(l:List Int) (t:TR),(l.foldl (Fw q x) t).1=En t.1 (Dn q l x)
 |[],_=>rfl
 |m::l,t=>by
  rw[List.foldl_cons,M4 l];show _=En t.1 (_::Dn q l x);rw[D1];congr 1;unfold Fw;split<;>rfl
theorem aAu{q:AD}{x m:Int}{t:TR}{i:Nat}{y:Int}(h:t.1[i]? =some y):(Fw q x t m).1[i]? =some y:=by unfold Fw;split;exact h;rw[List.getElem?_append_left (DX h)];exact h
theorem aAv(q:AD)(x m:Int)(t:TR):(Fw q x t m).1.length<=t.1.length+1:=by unfold Fw;split;omega;simp
theorem TI.init(s:Int):TI ([s],Eg (G8:MP Int Int) s s,G8):=by refine⟨fun e he=>?_,rfl,fun k=>?_⟩;simp[Eg,NE,G8]at he⊢;subst he;simp;rw[Pp,aKc];split;rename_i e;simp[e];rename_i e;have e2:k≠s:=fun h=>e h.symm;simp[e2]
theorem aAp{q:AD}(hF:DF q)(hR:Af q){L:List Int}(hL:Fa q L)(i:Nat){x:Int}(hx:∃n:Nat,x=(n:Int)/\n<256){t:TR}(ho:t.1[i]? =some x)(hl:t.1.length<=1000)(hT:TI t):aNl L (i:Int) L (L.length:Int) q 0 t.1 t.2.1 t.2.2=some (L.foldl (Fw q x) t):=by
 have hll:=hL.len;exact Ci (step:=fun s:Int×TR=>IO L (i:Int) L (L.length:Int) q s.1 s.2.1 s.2.2.1 s.2.2.2) L (Fw q x) id (fun j t=>t.1[i]? =some x/\t.1.length<=1000+j/\TI t)
  (fun j m t hj hI=>by
   have hjl:=DX hj;obtain⟨hg,hn,hT⟩:=hI;refine⟨?_,aAu hg,Nat.le_trans (aAv _ _ _ _) (by omega),hT.step q x m⟩;have hc:(0:Int)<=(i:Int)/\(i:Int)+1<=(t.1.length:Int):=by have:=DX hg;omega
   simp only[IO,ltD hj,AI,aFd,AN hj,Aw hc,AN hg,(Mp hF hR hL hx (List.mem_of_getElem? hj)).1,AB,aFf,Ag hj (show L.length<=9223372036854775807 by omega),hT.get];unfold Fw;by_cases h2:((Dg q x.toNat m.toNat:Nat):Int)∈t.1;simp[h2,AE,AJ];obtain⟨g1,g2,g3,_,_⟩:=aLx (m:=t.2.1) (z:=(0:Int)) (k:=((Dg q x.toNat m.toNat:Nat):Int)) x (by rw[hT.get];simp[h2]) hT.st;rw[if_neg h2];simp only[h2,decide_false,Bool.not_false,AI];rw[Aw (by rw[g1,hT.clk];omega),Aw g2,KP (by simp;omega) (by decide),g3,AB,AB])
  (fun w _=>by simp only[IO,ltI,AG];rfl) t ⟨ho,hl,hT⟩
theorem aVv{q:AD}(hF:DF q)(hR:Af q)(hS:CI q){L:List Int}(hL:Fa q L){b:List X2}(he:X4 q b=some L){s:Nat}(hs:s<2^q.states.length):∃F B,Xx q b (s:Int)=some (clo (Dn q L) 256 (s:Int),F,B):=by
 have hb:=bdS (L:=L) hR hS hs;obtain⟨t,h,hQ⟩:=Lm hb (fun _=>false) (step:=fun s:Int×List Int×MP Int Int×MP Int Int=>IN L q s.1 s.2.1 s.2.2.1 s.2.2.2) (fun i o st=>∃F B,st=((i:Int),o,F,B)/\TI (o,F,B)) (fun _ o t=>∃F B,t=(o,F,B))
  (fun i x o st hI hr hx _=>by
   obtain⟨F,B,rfl,hT⟩:=hr;have hl:=hb o hI.nd hI.rc;have e:=aAp hF hR hL i (rcS hR hS hs x (hI.rc x (List.mem_of_getElem? hx))) (t:=(o,F,B)) hx (by simp only;omega) hT;have e1:=M4 (q:=q) (x:=x) L (o,F,B);have e2:=TI.fold (q:=q) (x:=x) (l:=L) hT;refine⟨(((i+1:Nat):Int),L.foldl (Fw q x) (o,F,B)),?_,(L.foldl (Fw q x) (o,F,B)).2.1,(L.foldl (Fw q x) (o,F,B)).2.2,?_,?_⟩;have hc:(0:Int)<=(i:Int)/\(i:Int)+1<=(o.length:Int):=by have:=DX hx;omega
   simp only at e;simp only[IN,ltD hx,AI,Aw hc,AN hx,U4,AB,AG,e,Ag hx (show o.length<=9223372036854775807 by omega)];rw[<-e1];rw[<-e1];exact e2)
  (fun i x o st _ _ _ hp=>by cases hp)
  (fun o st _ hr=>by obtain⟨F,B,rfl,_⟩:=hr;exact⟨(o,F,B),by simp only[IN,ltI,AG],F,B,rfl⟩) 257 0 [(s:Int)] ((0:Nat),[(s:Int)],Eg (G8:MP Int Int) s s,G8) WI.init ⟨_,_,rfl,TI.init _⟩ (Nat.le_refl _)
 obtain⟨F,B,rfl⟩:=hQ;rw[aL8 _ (fun _=>rfl)]at h;have h':aNk L q 0 [(s:Int)] (Eg (G8:MP Int Int) s s) G8=some (clo (Dn q L) 256 (s:Int),F,B):=h;refine⟨F,B,?_⟩;unfold Xx;rw[he,AB,h',AB]
theorem YK{q:AD}(hR:Af q)(hS:CI q){L:List Int}{s:Nat}(hs:s<2^q.states.length):Hh (clo (Dn q L) 256 (s:Int)):=fun x hx=>rcS hR hS hs x ((Eo (bdS hR hS hs)).1 hx)
theorem aOw{q:AD}(hF:DF q)(hR:Af q)(hS:CI q){L:List Int}(hL:Fa q L){b:List X2}(he:X4 q b=some L){s:Nat}(hs:s<2^q.states.length):∃l,Zr q b (s:Int)=some l/\l.Perm (clo (Dn q L) 256 (s:Int))/\l.Pairwise (· <= ·):=by obtain⟨F,B,h⟩:=aVv hF hR hS hL he hs;have hlen:=JG (bdS (L:=L) hR hS hs);obtain⟨l,e1,e2,e3⟩:=NO (w:=clo (Dn q L) 256 (s:Int)) (by omega);refine⟨l,?_,e2,e3⟩;unfold Zr;rw[h,AB,e1,AB]
theorem aT7{q:AD}(hF:DF q)(hR:Af q)(hS:CI q){L:List Int}(hL:Fa q L){b:List X2}(he:X4 q b=some L){s:Nat}(hs:s<2^q.states.length):Q5 q b (s:Int)=some (Lk q (clo (Dn q L) 256 (s:Int))):=by obtain⟨l,h1,h2,_⟩:=aOw hF hR hS hL he hs;have hlen:=JG (bdS (L:=L) hR hS hs);unfold Q5;rw[h1,AB,aA2 hF (by rw[h2.length_eq];omega) (fun x hx=>YK hR hS hs x (h2.mem_iff.1 hx)),AB,Kj h2]
def exQ:AD:=AD.mk ([113]:List UInt8) ([]:List Xe) ([]:List Ye) ([]:List Yg) ([Xc.mk ([115]:List UInt8) false true,Xc.mk ([116]:List UInt8) true false]) 0 ([]:List X3) ([]:List Ym) ([]:List Xd)
theorem exF:DF exQ:=⟨by decide,by decide,by decide,by decide,by decide,by decide,by decide,(fun s h=>by cases h),(fun s h=>by cases h)⟩
theorem exR:Af exQ:=⟨(fun j d h=>by cases h),by decide,(fun s h=>by cases h),(fun s h=>by cases h),(fun s h=>by cases h),(fun s h=>by cases h)⟩
theorem exS:CI exQ:=⟨rfl,by decide,by decide,by decide,fun s h=>by cases h⟩
theorem exT{s x:Int}(h:Rch (HD exQ) s x):x=s:=by
 cases h with
 |refl=>rfl
 |step _ h=>cases h
theorem aPq:X4 exQ []=some []:=by
 obtain⟨L,e1,_,hL⟩:=L3 exF exR exS (fun d h=>by cases h) (fun d h=>by cases h) (b:=[]) ⟨List.Pairwise.nil,fun s h=>by cases h⟩;have:L=[]:=by
  cases L with
  |nil=>rfl
  |cons y l=>
   obtain⟨n,_,⟨d,dd,h,_⟩,_⟩:=(hL.is y).1 (by simp)
   exact absurd h (Nat.not_lt_zero _)
 rw[<-this];exact e1
theorem aT5:Q0=some true:=by
 have h0:Zo exQ 0=some 1:=by
  rw[aOt exF exR (by decide)];have hs:M2 exQ 0:=fun j hj st hst=>by
   have e:=exT hj;have:j=0:=by omega
   subst this;cases hst;exact⟨rfl,rfl⟩
  unfold EQ;rw[if_pos hs]
 have hd:aJp exQ 1:=fun j hj st hst=>by
  have e:=exT hj;have:j=1:=by omega
  subst this;cases hst;rfl
 have h1:Zo exQ 1=some 2:=by
  rw[aOt exF exR (by decide)];have hs:¬M2 exQ 1:=fun h=>by have:=(h 1 .refl _ rfl).1;cases this
  unfold EQ;rw[if_neg hs,if_pos hd]
 have h2:Xu exQ []=some 2:=by rw[aVr exF exR (by decide) (fun c h=>by cases h)];rfl
 have h3:Q5 exQ [] 1=some 1:=by have:=aT7 exF exR exS (L:=[]) ⟨by decide,List.Pairwise.nil,fun x h=>by cases h⟩ aPq (s:=1) (by decide);exact this.trans (by kernel_rfl)
 show(AJ (Zo exQ 0) fun r1=>AE (decide (r1=1)) (AJ (Zo exQ 1) fun r2=>AE (decide (r2=2)) (AJ (Xu exQ []) fun r3=>AE (decide (r3=2)) (AJ (Q5 exQ [] 1) fun r4=>some (decide (r4=1))) (some false)) (some false)) (some false))=some true;rw[h0,h1,h2,h3];rfl
theorem aKq(q:AD)(b:List X2)(hW:∀t∈q.trans,KC t)(hb:b.length<=9223372036854775807):∃r,Qp q b=some r/\(r=true->DF q/\Af q/\CI q/\BR b/\Yq q=some true/\∀d∈q.decls,d.types.length<=3):=by obtain⟨r1,hr1,hP⟩:=aPt q hW;unfold Qp;refine BY hr1 ?_;refine Ep (fun _=>⟨_,rfl,by simp⟩) (fun h1=>?_);obtain⟨hF,hR,hr,h3⟩:=hP h1;obtain⟨r2,hr2,hS⟩:=aWv hF;refine BY hr2 ?_;refine Ep (fun _=>⟨_,rfl,by simp⟩) (fun h2=>?_);obtain⟨r3,hr3,hB⟩:=aUd q b hb;refine BY hr3 ?_;refine Ep (fun _=>⟨_,rfl,by simp⟩) (fun h4=>?_);refine Df (fun _=>⟨_,rfl,by simp⟩) (fun h5=>?_);refine BT (fun _=>⟨_,rfl,fun _=>⟨hF,hR,hS h2,hB h4,hr,h3⟩⟩) (fun h6=>?_);obtain⟨x,hx,_⟩:=AZ (l:=b) (i:=0) (by omega);rw[show(0:Int)=((0:Nat):Int)from rfl,AN hx];exact⟨_,rfl,fun _=>⟨hF,hR,hS h2,hB h4,hr,h3⟩⟩
theorem aY4{n:Nat}(h:n<=12):AA .shl .u32 1 (IntKind.wrap .u64 (n:Int))=((2^n:Nat):Int):=by rw[Aq (by omega),OX (by omega)]
theorem aL9{α:Type} [DecidableEq α]{succ:α->List α}{s:α}{N:Nat}(hN:Bd succ s N)(p:α->Bool):∀(n i:Nat) (o:List α),WI succ s i o->(∀j x,j<i->o[j]? =some x->p x=false)->N+1<=n+i->
 WI succ s (wlS succ p n i o).1 (wlS succ p n i o).2/\(∀j x,j<(wlS succ p n i o).1->(wlS succ p n i o).2[j]? =some x->p x=false)/\((wlS succ p n i o).1=(wlS succ p n i o).2.length\/∃x,(wlS succ p n i o).2[(wlS succ p n i o).1]? =some x/\p x=true)
 |0,i,o,h,_,hn=>by have:=h.le;have:=hN o h.nd h.rc;omega
 |n+1,i,o,h,hp,hn=>by
  rw[wlS];cases e:o[i]? with
  |none=>
   have:=List.getElem?_eq_none_iff.1 e
   exact⟨h,hp,.inl (show i=o.length by have:=h.le;omega)⟩
  |some x=>
   simp only
   cases hx:p x with
   |true=>exact⟨h,hp,.inr ⟨x,e,hx⟩⟩
   |false=>
    refine aL9 hN p n (i+1) _ (h.step e) (fun j y hj hy=>?_) (by omega)
    have hj2:j<o.length:=by have:=DX e;omega
    obtain⟨w,hw,_⟩:=AZ hj2
    have e2:w=y:=by rw[K7 hw,oe]at hy;exact hy
    subst e2
    by_cases hji:j=i
    subst hji;rw[e,oe]at hw;exact hw▸hx
    exact hp j w (by omega) hw
def aKu(s:X3):Bool:=s.args.any fun a=>decide (a.kind=2)
def nmG(M:Nat)(i:Nat)(s:X3):Option (Unit⊕Unit):=if M.testBit i=true/\aKu s=true then some (.inr ())else none
def nmB(q:AD)(M:Nat):Bool:=match Lt (Ez (nmG M)) (fun _=>.inl ()) 0 q.symbols ()with
 | .inl _=>false
 | .inr _=>true
theorem aBl{s:X3}(hl:s.args.length<=12):Qx s.args=some (aKu s):=by
 have h:aOs s.args (s.args.length:Int) 0=_:=DG (step:=fun i=>I7 s.args (s.args.length:Int) i) s.args (fun i x=>if(fun a:BW=>decide (a.kind=2)) x=true then some (Sum.inr (i:Int):Unit⊕Int)else none) (.inl ())
  (fun i x hx=>by simp only[I7,ltD hx,AI,AN hx,U7,AB,Ag hx (show s.args.length<=9223372036854775807 by omega),Dj];by_cases h:x.kind=2<;>simp[h])
  (by simp only[I7,ltI,AG])
 unfold Qx Zl;rw[h,HA,AB];unfold aKu;by_cases ha:(s.args.any fun a=>decide (a.kind=2))=true;rw[if_pos ha,ED,AB,ha,decide_eq_true (by omega)];rw[if_neg ha,CR,AB];rw[Bool.not_eq_true]at ha;rw[ha];rfl
theorem aKe{q:AD}(hF:DF q){M:Nat}(hM:M<4096):Z9 q (M:Int)=some (nmB q M):=by
 have h8:=hF.symbols;have h:aOi (M:Int) q.symbols (q.symbols.length:Int) 0=_:=DG (step:=fun s=>Iv (M:Int) q.symbols (q.symbols.length:Int) s) q.symbols (nmG M) (.inl ())
  (fun i st hi=>by
   have hil:=DX hi;have h1:=Aq (n:=i) (by omega);have h2:=aTs (n:=M) (m:=2^i) (by omega) (Nat.lt_of_lt_of_le (Nat.pow_lt_pow_right (by decide) (show i<64 by omega)) (by decide));simp only[Iv,ltD hi,AI,AN hi,Ag hi (show q.symbols.length<=9223372036854775807 by omega),h1,aAq (show i<64 by omega),h2,aBl (hF.args st (List.mem_of_getElem? hi)),AB,nmG];rw[Aw (by omega)];have h3:((M&&&2^i:Nat):Int)=0↔M.testBit i=false:=by rw[<-LK];omega
   cases hb:M.testBit i with
   |false=>rw[decide_eq_true (h3.2 hb)];simp[AE]
   |true=>
    rw[decide_eq_false (by rw[h3,hb];simp)]
    cases aKu st<;>simp[AE])
  (by simp only[Iv,ltI,AG])
 unfold Z9 nmB;rw[h,AB];cases Lt (Ez (nmG M)) (fun _=>.inl ()) 0 q.symbols ()<;>rfl
theorem aBt{q:AD}{i:Nat}{s:X3}(hs:q.symbols[i]? =some s)(hl:s.args.length<=12)(M:Int):aF8 M (i:Int) q 0=some (if aKu s=true then .inr ()else .inl ()):=by
 have h:aF8 M (i:Int) q 0=some (if s.args.all (fun a=> !decide (a.kind=2))=true then .inl ()else .inr ()):=Jb (step:=fun j=>IX M (i:Int) q j) s.args (fun a=> !decide (a.kind=2)) (.inl ()) (.inr ())
  (fun j a ha=>by rw[IX,AN hs,ltD ha];simp only[AI,AN hs,AN ha,Ag ha (show s.args.length<=9223372036854775807 by omega),Dj];by_cases h:a.kind=2<;>simp[h])
  (by simp only[IX,AN hs,ltI,AG])
 rw[h];have:(s.args.all fun a=> !decide (a.kind=2))= !aKu s:=by unfold aKu;rw[List.not_any_eq_all_not]
 rw[this];cases aKu s<;>rfl
theorem aBs{q:AD}(hF:DF q){M:Nat}(hM:M<4096):Y3 q (M:Int)=some (nmB q M):=by
 have h8:=hF.symbols;have h:aNr (M:Int) q 0=_:=DG (step:=fun s=>IW (M:Int) q s) q.symbols (nmG M) (.inl ())
  (fun i st hi=>by
   have hil:=DX hi;have h1:=Aq (n:=i) (by omega);simp only[IW,ltD hi,AI,aF5,Ag hi (show q.symbols.length<=9223372036854775807 by omega),h1,aT0 (n:=M) (k:=i) (show i<=64 by omega),aTz,LL,aBt hi (hF.args st (List.mem_of_getElem? hi)),AB,nmG];rw[Aw (by omega)];cases hb:M.testBit i with
   |false=>simp[AE,AJ,CH]
   |true=>cases aKu st<;>simp[AE,AJ,CH])
  (by simp only[IW,ltI,AG])
 unfold Y3 nmB;rw[h,AB];cases Lt (Ez (nmG M)) (fun _=>.inl ()) 0 q.symbols ()<;>rfl
def nmI(q:AD)(m:Int):Bool:=nmB q m.toNat
theorem ZV{q:AD}(hF:DF q){L:List Int}(hL:Fa q L){m:Int}(hm:m∈L):Z9 q m=some (nmI q m)/\Y3 q m=some (nmI q m):=by obtain⟨n,rfl,hn⟩:=hL.lt m hm;unfold nmI;rw[Int.toNat_natCast];exact⟨aKe hF hn,aBs hF hn⟩
def nxS(q:AD)(x m:Int):Int:=((Dg q x.toNat m.toNat:Nat):Int)
def aQr(q:AD)(L A:List Int)(z:Int):Prop:=∃a∈A,∃m∈L,nmI q m=true/\Rch (Dn q L) (nxS q a m) z
structure MV(q:AD)(L A:List Int)(out:List Int):Prop where
 ds:∃ds:List Int,ds.Nodup/\(∀x,x∈ds↔x∈out)/\out.length*2<=ds.length*(ds.length+1)
 cl:∀x∈out,∀z,Rch (Dn q L) x z->z∈out
 me:∀x∈out,aQr q L A x
theorem aAg{α:Type}{succ:α->List α}{a b c:α}(h1:Rch succ a b)(h2:Rch succ b c):Rch succ a c:=by
 induction h2 with
 |refl=>exact h1
 |step _ hy ih=>exact .step ih hy
theorem MV.small{q:AD}(hR:Af q)(hS:CI q){L A out:List Int}(h:MV q L A out):∀x∈out,∃n:Nat,x=(n:Int)/\n<256:=fun x hx=>by obtain⟨a,_,m,_,_,hr⟩:=h.me x hx;exact rcS hR hS (FW hR a.toNat m.toNat) x hr
theorem MV.len{q:AD}(hR:Af q)(hS:CI q){L A out:List Int}(h:MV q L A out):out.length<=32896:=by
 obtain⟨ds,h1,h2,h3⟩:=h.ds;have hd:ds.length<=256:=by
  have:=h1.length_le_of_subset (l₂:=(List.range 256).map (fun n:Nat=>(n:Int))) fun x hx=>by obtain⟨n,rfl,hn⟩:=h.small hR hS x ((h2 x).1 hx);exact mm.2 ⟨n,List.mem_range.2 hn,rfl⟩
  simpa using this
 have:ds.length*(ds.length+1)<=256*257:=Nat.mul_le_mul hd (Nat.succ_le_succ hd);omega
theorem MV.add{q:AD}{L A out:List Int}(h:MV q L A out){y:Int}(hy:y∉out){l:List Int}(hn:l.Nodup)(hl:∀z,z∈l↔Rch (Dn q L) y z){a m:Int}(ha:a∈A)(hm:m∈L)(hnm:nmI q m=true)(he:y=nxS q a m):MV q L A (out++l):=by
 obtain⟨ds,h1,h2,h3⟩:=h.ds;refine⟨⟨En ds l,I9 h1,fun x=>?_,?_⟩,fun x hx z hz=>?_,fun x hx=>?_⟩;rw[Dy,h2,ma];have hyl:y∈l:=(hl y).2 .refl;have d1:ds.length+1<=(En ds l).length:=by
  have:=(List.nodup_cons.2 ⟨fun h=>hy ((h2 y).1 h),h1⟩).length_le_of_subset (l₂:=En ds l) fun x hx=>by
   rcases mc.1 hx with rfl|hx
   exact Dy.2 (.inr hyl);exact Dy.2 (.inl hx)
  simpa using this
 have d2:l.length<=(En ds l).length:=hn.length_le_of_subset fun x hx=>Dy.2 (.inr hx);generalize (En ds l).length=d' at d1 d2;obtain⟨e,rfl⟩:∃e,d'=e+1:=⟨d'-1,by omega⟩;have h4:=Nat.mul_le_mul (show ds.length<=e by omega) d1;have h5:(e+1)*(e+1+1)=e*(e+1)+2*(e+1):=by rw[Nat.mul_succ,Nat.add_mul e 1 (e+1)];omega
 rw[List.length_append,h5];omega;rcases ma.1 hx with hx|hx
 exact ml _ (h.cl x hx z hz);exact mr _ ((hl z).2 (aAg ((hl x).1 hx) hz));rcases ma.1 hx with hx|hx
 exact h.me x hx;exact⟨a,ha,m,hm,hnm,he▸(hl x).1 hx⟩
theorem aQ8{q:AD}(hF:DF q)(hR:Af q)(hS:CI q){L:List Int}(hL:Fa q L){b:List X2}(he:X4 q b=some L)(s:Int){m:Int}(hm:m∈L)(hnm:nmI q m=true)(n2:Int)(s15:List Int)(n1:Int){A:List Int}(hA:A.length<=256)(hsm:∀x∈A,∃n:Nat,x=(n:Int)/\n<256){out:List Int}(h:MV q L A out):
 ∃out',aNa b s m s15 n1 n2 A (A.length:Int) q 0 out=some out'/\MV q L A out'/\(∀x∈out,x∈out')/\∀a∈A,nxS q a m∈out':=by
 obtain⟨o,h1,h2⟩:=BC (step:=fun u:Int×List Int=>Gi b s m s15 n1 n2 A (A.length:Int) q u.1 u.2)
  (fun u=>∃i:Nat,i<=A.length/\u.1=(i:Int)/\MV q L A u.2/\(∀x∈out,x∈u.2)/\∀a∈A.take i,nxS q a m∈u.2) (fun u=>(A.length-u.1).toNat) (fun o=>MV q L A o/\(∀x∈out,x∈o)/\∀a∈A,nxS q a m∈o)
  (by
   rintro⟨p,w⟩ ⟨i,hi,rfl,hM,hsub,hdn⟩;simp only at hM hsub hdn⊢;by_cases hie:i=A.length;subst hie;rw[List.take_length]at hdn;exact .inl ⟨w,by simp only[Gi,ltI,AG],hM,hsub,hdn⟩;right;obtain⟨x,hx,_⟩:=AZ (l:=A) (i:=i) (by omega);have hxA:=List.mem_of_getElem? hx;have hlen:=hM.len hR hS;have e1:=(Mp hF hR hL (hsm x hxA) hm).1;by_cases hin:nxS q x m∈w;refine⟨(((i+1:Nat):Int),w),?_,⟨i+1,by omega,rfl,hM,hsub,fun a ha=>?_⟩,by simp only;omega⟩;have hin':((Dg q x.toNat m.toNat:Nat):Int)∈w:=hin;simp only[Gi,ltD hx,AI,Ty,AN hx,e1,AB,E0 w _ (show w.length<=9223372036854775807 by omega),Tz,decide_eq_true hin',Bool.not_true,AG,Ag hx (show A.length<=9223372036854775807 by omega)];rw[List.take_add_one,hx,Option.toList_some,ma,List.mem_singleton]at ha;rcases ha with ha|rfl
   exact hdn a ha;exact hin;obtain⟨l,f1,f2,_⟩:=aOw hF hR hS hL he (FW hR x.toNat m.toNat);have hb:=bdS (L:=L) hR hS (FW hR x.toNat m.toNat);have hcl:=JG hb;have hll:l.length<=256:=by rw[f2.length_eq];exact hcl
   have hlm:∀z,z∈l↔Rch (Dn q L) (nxS q x m) z:=fun z=>by rw[f2.mem_iff];exact Eo hb
   have hM2:=hM.add hin (f2.nodup_iff.2 (PX hb).nd) hlm hxA hm hnm rfl;refine⟨(((i+1:Nat):Int),w++l),?_,⟨i+1,by omega,rfl,hM2,fun y hy=>ml _ (hsub y hy),fun a ha=>?_⟩,by simp only;omega⟩;have hin':¬((Dg q x.toNat m.toNat:Nat):Int)∈w:=hin;simp only[Gi,ltD hx,AI,Ty,AN hx,e1,AB,E0 w _ (show w.length<=9223372036854775807 by omega),Tz,decide_eq_false hin',Bool.not_false,f1,Ag hx (show A.length<=9223372036854775807 by omega)];rw[KP (by omega) (by decide),AB,AB];rw[List.take_add_one,hx,Option.toList_some,ma,List.mem_singleton]at ha;rcases ha with ha|rfl
   exact ml _ (hdn a ha);exact mr _ ((hlm _).2 .refl))
  ((0:Int),out) ⟨0,Nat.zero_le _,rfl,h,fun x hx=>hx,fun a ha=>by simp at ha⟩
 exact⟨o,h1,h2⟩
theorem aQ7{q:AD}(hF:DF q)(hR:Af q)(hS:CI q){L:List Int}(hL:Fa q L){b:List X2}(he:X4 q b=some L){s:Nat}{A:List Int}(hAll:Zr q b (s:Int)=some A)(hA:A.length<=256)(hsm:∀x∈A,∃n:Nat,x=(n:Int)/\n<256):
 ∃out,aM9 b (s:Int) L (L.length:Int) q 0 []=some out/\MV q L A out/\∀z,aQr q L A z->z∈out:=by
 have hll:=hL.len
 obtain⟨o,h1,h2,h3⟩:=BC (step:=fun u:Int×List Int=>Gh b (s:Int) L (L.length:Int) q u.1 u.2)
  (fun u=>∃i:Nat,i<=L.length/\u.1=(i:Int)/\MV q L A u.2/\∀m∈L.take i,nmI q m=true->∀a∈A,nxS q a m∈u.2) (fun u=>(L.length-u.1).toNat) (fun o=>MV q L A o/\∀m∈L,nmI q m=true->∀a∈A,nxS q a m∈o)
  (by
   rintro⟨p,w⟩ ⟨i,hi,rfl,hM,hdn⟩;simp only at hM hdn⊢;by_cases hie:i=L.length;subst hie;rw[List.take_length]at hdn;exact .inl ⟨w,by simp only[Gh,ltI,AG],hM,hdn⟩;right;obtain⟨m,hm,_⟩:=AZ (l:=L) (i:=i) (by omega);have hmL:=List.mem_of_getElem? hm;have e1:=(ZV hF hL hmL).1;cases hb:nmI q m with
   |false=>
    refine⟨(((i+1:Nat):Int),w),?_,⟨i+1,by omega,rfl,hM,fun m' hm' hn'=>?_⟩,by simp only;omega⟩
    simp only[Gh,ltD hm,AI,Tx,AN hm,e1,hb,AB,Bool.not_false,Ag hm (show L.length<=9223372036854775807 by omega)]
    rw[List.take_add_one,hm,Option.toList_some,ma,List.mem_singleton]at hm'
    rcases hm' with hm'|rfl
    exact hdn m' hm' hn'
    rw[hb]at hn';cases hn'
   |true=>
    obtain⟨w',g1,g2,g3,g4⟩:=aQ8 hF hR hS hL he (s:Int) hmL hb (i:Int) L (L.length:Int) hA hsm hM
    refine⟨(((i+1:Nat):Int),w'),?_,⟨i+1,by omega,rfl,g2,fun m' hm' hn'=>?_⟩,by simp only;omega⟩
    simp only[Gh,ltD hm,AI,Tx,AN hm,e1,hb,AB,Bool.not_true,AG,hAll,g1,Ag hm (show L.length<=9223372036854775807 by omega)]
    rw[List.take_add_one,hm,Option.toList_some,ma,List.mem_singleton]at hm'
    rcases hm' with hm'|rfl
    exact fun a ha=>g3 _ (hdn m' hm' hn' a ha)
    exact g4)
  ((0:Int),[]) ⟨0,Nat.zero_le _,rfl,⟨⟨[],by simp,by simp,by simp⟩,by simp,by simp⟩,fun m hm=>by simp at hm⟩
 refine⟨o,h1,h2,fun z hz=>?_⟩
 obtain⟨a,ha,m,hm,hn,hr⟩:=hz
 exact h2.cl _ (h3 m hm hn a ha) z hr
open Go.Lib
theorem Fy{xs:List Int}{m:Nat}{x:Int}(h:xs[m]? =some x):xs.toArray[m]! =x:=by
 have hl:=DX h;have e:xs[m]=x:=by rw[List.getElem?_eq_getElem hl,oe]at h;exact h
 rw[getElem!_pos xs.toArray m (by simpa using hl)];simpa using e
theorem aXu{xs:List Int}(h:xs.Pairwise (· <= ·)):(cpE xs).Pairwise (· < ·)/\∀z,z∈cpE xs↔z∈xs:=by
 have key:∀m,m<=xs.length->(compactUpTo xs.toArray m).Pairwise (· < ·)/\∀z,z∈compactUpTo xs.toArray m↔z∈xs.take m:=by
  intro m;induction m with
  |zero=>intro _;exact⟨by simp[compactUpTo],by simp[compactUpTo]⟩
  |succ m ih=>
   intro hm
   obtain⟨p1,p2⟩:=ih (by omega)
   obtain⟨x,hx,_⟩:=AZ (l:=xs) (i:=m) (by omega)
   rw[compactUpTo_succ,List.take_add_one,hx,Option.toList_some,Fy hx]
   by_cases hk:keeps xs.toArray m=true
   rw[if_pos hk]
   refine⟨List.pairwise_append.2 ⟨p1,by simp,fun a ha c hc=>?_⟩,fun z=>by rw[ma,ma,p2]⟩
   rw[List.mem_singleton]at hc
   subst hc
   have ha2:=(p2 a).1 ha
   obtain⟨j,hj⟩:=List.mem_iff_getElem?.1 ha2
   rw[List.getElem?_take]at hj
   split at hj
   rename_i hjm
   obtain⟨y,hy,_⟩:=AZ (l:=xs) (i:=m-1) (by omega)
   have hne:c≠y:=by
    unfold keeps at hk;rw[decide_eq_true_eq,Fy hx,Fy hy]at hk;rcases hk with h0|h0
    omega;exact h0
   have l1:=DX hj;have l2:=DX hy;have l3:=DX hx
   have e1:xs[j]=a:=by rw[List.getElem?_eq_getElem l1,oe]at hj;exact hj
   have e2:xs[m-1]=y:=by rw[List.getElem?_eq_getElem l2,oe]at hy;exact hy
   have e3:xs[m]=c:=by rw[List.getElem?_eq_getElem l3,oe]at hx;exact hx
   have q1:=List.pairwise_iff_getElem.1 h (m-1) m l2 l3 (by omega)
   by_cases hjj:j=m-1
   subst hjj;omega
   have:=List.pairwise_iff_getElem.1 h j (m-1) l1 l2 (by omega)
   omega
   cases hj
   rw[if_neg hk,List.append_nil]
   refine⟨p1,fun z=>?_⟩
   rw[p2,ma,List.mem_singleton]
   refine⟨.inl,fun hz=>hz.elim id fun e=>?_⟩
   subst e
   unfold keeps at hk
   simp only[decide_eq_true_eq,not_or,Decidable.not_not]at hk
   obtain⟨y,hy,_⟩:=AZ (l:=xs) (i:=m-1) (by omega)
   have e2:=hk.2
   rw[Fy hx,Fy hy]at e2
   subst e2
   exact List.mem_of_getElem? (i:=m-1) (by rw[List.getElem?_take,if_pos (by omega)];exact hy)
 have:=key xs.length (Nat.le_refl _);rw[List.take_length]at this;exact this
def M6{α:Type}(st:List α)(succ:α->List α):Option α->List (Option α)
 |none=>st.map some
 |some x=>(succ x).map some
def emb{α:Type}(o:List α):List (Option α):=none::o.map some
theorem JL{α:Type}{o:List α}{x:α}:some x∈emb o↔x∈o:=by simp[emb]
theorem K6{α:Type} [DecidableEq α]:∀(l o:List α),En (emb o) (l.map some)=emb (En o l)
 |[],_=>rfl
 |x::l,o=>by
  rw[List.map_cons,D1,D1,<-K6 l];by_cases h:x∈o;rw[if_pos h,if_pos (JL.2 h)];rw[if_neg h,if_neg fun h2=>h (JL.1 h2)];congr 1;simp[emb]
theorem KJ{α:Type} [DecidableEq α]:∀(l o:List α),(o++l).Nodup->En o l=o++l
 |[],o,_=>by simp[En]
 |x::l,o,h=>by
  rw[D1];have hx:x∉o:=fun hx=>(List.nodup_append.1 h).2.2 x hx x (by simp) rfl;rw[if_neg hx,KJ l (o++[x]) (by simpa using h)];simp
theorem PZ{α:Type} [DecidableEq α]{succ:α->List α}{st:List α}(h:st.Nodup):WI (M6 st succ) none 1 (emb st):=by
 have:=(WI.init (succ:=M6 st succ) (s:=none)).step (x:=none) rfl;rw[show En [none] (M6 st succ none)=emb st from by show En (emb []) (st.map some)=_;rw[K6,KJ st [] (by simpa using h),List.nil_append]]at this
 exact this
theorem N0{α:Type}{succ:α->List α}{st:List α}{z:α}:Rch (M6 st succ) none (some z)↔ ∃y∈st,Rch succ y z:=by
 constructor;have key:∀w,Rch (M6 st succ) none w->∀z,w=some z->∃y∈st,Rch succ y z:=by
  intro w hw;induction hw with
  |refl=>intro z h;cases h
  |step hx hy ih=>
   rename_i x y
   intro z hz
   subst hz
   cases x with
   |none=>
    obtain⟨y,hy,e⟩:=mm.1 hy
    cases e
    exact⟨_,hy,.refl⟩
   |some x=>
    obtain⟨y,hy,e⟩:=mm.1 hy
    cases e
    obtain⟨y0,h0,h1⟩:=ih x rfl
    exact⟨y0,h0,.step h1 hy⟩
 exact fun h=>key _ h z rfl;rintro⟨y,hy,hr⟩;induction hr with
 |refl=>exact .step .refl (mm.2 ⟨_,hy,rfl⟩)
 |step _ hz ih=>exact .step ih (mm.2 ⟨_,hz,rfl⟩)
theorem aSu{q:AD}(hR:Af q)(hS:CI q){L st:List Int}(hs:∀x∈st,∃n:Nat,x=(n:Int)/\n<2^q.states.length):Bd (M6 st (Dn q L)) none 257:=fun o h1 h2=>by
 have:=h1.length_le_of_subset (l₂:=none::(List.range 256).map fun n:Nat=>some (n:Int)) fun x hx=>by
  cases x with
  |none=>simp
  |some z=>
   obtain⟨y,hy,hr⟩:=N0.1 (h2 _ hx)
   obtain⟨n,rfl,hn⟩:=hs y hy
   obtain⟨k,rfl,hk⟩:=rcS hR hS hn z hr
   exact List.mem_cons_of_mem _ (mm.2 ⟨k,List.mem_range.2 hk,rfl⟩)
 simpa using this
theorem aQa{q:AD}(hF:DF q)(hR:Af q){L:List Int}(hL:Fa q L){A:List Int}{i:Nat}{x:Int}(hx:A[i]? =some x)(hsm:∃n:Nat,x=(n:Int)/\n<256){o:List Int}(hl:o.length<=100000):aM1 L A (i:Int) q 0 o=some (En o ((L.filter (nmI q)).map (nxS q x))):=by
 have hll:=hL.len;have h:=Ci (step:=fun s:Int×List Int=>H4 L A (i:Int) q s.1 s.2) L (fun o m=>if nmI q m=true/\nxS q x m∉o then o++[nxS q x m]else o) id (fun j w=>w.length<=100000+j)
  (fun j m w hj hI=>by
   have hjl:=DX hj;have hm:=List.mem_of_getElem? hj;refine⟨?_,by split<;>(try rw[List.length_append,List.length_singleton])<;>omega⟩
   simp only[H4,ltD hj,AI,aC4,AN hj,AN hx,(Mp hF hR hL hsm hm).2,(ZV hF hL hm).2,YU w _ (show w.length<=9223372036854775807 by omega),AB,TA,Ag hj (show L.length<=9223372036854775807 by omega)];cases hn:nmI q m with
   |false=>simp[AE,AJ]
   |true=>
    by_cases h2:((Dg q x.toNat m.toNat:Nat):Int)∈w
    have h3:nxS q x m∈w:=h2
    simp[h2,h3,AE,AJ]
    have h3:¬nxS q x m∈w:=h2
    simp only[h2,decide_false,Bool.not_false,AI]
    rw[KP (by simp;omega) (by decide),AB,AB]
    simp[h3]
    rfl)
  (fun w _=>by simp only[H4,ltI,AG];rfl) o (by omega)
 rw[I8 (nmI q) (nxS q x)]at h;exact h
def stM(q:AD)(L A:List Int):List Int:=A.foldl (fun o x=>En o ((L.filter (nmI q)).map (nxS q x))) []
theorem Lj(q:AD)(L:List Int):∀(A o:List Int) (z:Int),z∈A.foldl (fun o x=>En o ((L.filter (nmI q)).map (nxS q x))) o↔z∈o\/∃a∈A,∃m∈L,nmI q m=true/\z=nxS q a m
 |[],o,z=>by simp
 |x::A,o,z=>by
  rw[List.foldl_cons,Lj q L A,Dy];constructor;rintro((h|h)|⟨a,ha,h⟩);exact .inl h;obtain⟨m,hm,e⟩:=mm.1 h;obtain⟨h1,h2⟩:=List.mem_filter.1 hm;exact .inr ⟨x,by simp,m,h1,h2,e.symm⟩;exact .inr ⟨a,by simp[ha],h⟩;rintro(h|⟨a,ha,m,hm,hn,rfl⟩);exact .inl (.inl h);rcases mc.1 ha with rfl|ha
  exact .inl (.inr (mm.2 ⟨m,List.mem_filter.2 ⟨hm,hn⟩,rfl⟩));exact .inr ⟨a,ha,m,hm,hn,rfl⟩
theorem aL5(q:AD)(L:List Int):∀(A o:List Int),o.Nodup->(A.foldl (fun o x=>En o ((L.filter (nmI q)).map (nxS q x))) o).Nodup
 |[],_,h=>h
 |x::A,o,h=>by rw[List.foldl_cons];exact aL5 q L A _ (I9 h)
theorem Pr{l:List Int}(h:l.Nodup)(hs:∀x∈l,∃n:Nat,x=(n:Int)/\n<256):l.length<=256:=by
 have:=h.length_le_of_subset (l₂:=(List.range 256).map (fun n:Nat=>(n:Int))) fun x hx=>by obtain⟨n,rfl,hn⟩:=hs x hx;exact mm.2 ⟨n,List.mem_range.2 hn,rfl⟩
 simpa using this
theorem aS5{q:AD}(hR:Af q)(x m:Int):∃n:Nat,nxS q x m=(n:Int)/\n<2^q.states.length:=⟨_,rfl,FW hR _ _⟩
theorem aS6{q:AD}(hR:Af q)(hS:CI q)(x m:Int):∃n:Nat,nxS q x m=(n:Int)/\n<256:=⟨_,rfl,Nat.lt_of_lt_of_le (FW hR _ _) (show 2^q.states.length<=2^8 from Nat.pow_le_pow_right (by decide) hS.states)⟩
theorem aP9{q:AD}(hF:DF q)(hR:Af q)(hS:CI q){L:List Int}(hL:Fa q L){A:List Int}(hA:A.length<=256)(hsm:∀x∈A,∃n:Nat,x=(n:Int)/\n<256):aM0 L A q 0 []=some (stM q L A):=by
 have h:=Ci (step:=fun s:Int×List Int=>H3 L A q s.1 s.2) A (fun o x=>En o ((L.filter (nmI q)).map (nxS q x))) id (fun j w=>w.Nodup/\∀x∈w,∃n:Nat,x=(n:Int)/\n<256)
  (fun j x w hj hI=>by
   have hl:=Pr hI.1 hI.2;refine⟨?_,I9 hI.1,fun z hz=>?_⟩;simp only[H3,ltD hj,AI,aQa hF hR hL hj (hsm x (List.mem_of_getElem? hj)) (show w.length<=100000 by omega),AB,Ag hj (show A.length<=9223372036854775807 by omega)];rcases Dy.1 hz with h|h
   exact hI.2 z h;obtain⟨m,_,rfl⟩:=mm.1 h;exact aS6 hR hS x m)
  (fun w _=>by simp only[H3,ltI,AG];rfl) [] ⟨by simp,by simp⟩
 exact h
theorem aQc{q:AD}(hF:DF q)(hR:Af q){L:List Int}(hL:Fa q L)(i:Nat){x:Int}(hx:∃n:Nat,x=(n:Int)/\n<256){o:List Int}(ho:o[i]? =some x)(hl:o.length<=1000):aM3 L (i:Int) q 0 o=some (En o (Dn q L x)):=by
 have hll:=hL.len;have h:=Ci (step:=fun s:Int×List Int=>H6 L (i:Int) q s.1 s.2) L (fun o m=>if((Dg q x.toNat m.toNat:Nat):Int)∈o then o else o++[((Dg q x.toNat m.toNat:Nat):Int)]) id (fun j w=>w[i]? =some x/\w.length<=1000+j)
  (fun j m w hj hI=>by
   have hjl:=DX hj;have hw:w.length<=9223372036854775807:=by have:=hI.2;omega
   refine⟨?_,?_⟩;simp only[H6,ltD hj,AI,Om,AN hj,AN hI.1,(Mp hF hR hL hx (List.mem_of_getElem? hj)).2,YU w _ hw,AB,On,Ag hj (show L.length<=9223372036854775807 by omega)];by_cases h2:((Dg q x.toNat m.toNat:Nat):Int)∈w;simp[h2,AE,AJ];rw[if_neg h2];simp only[h2,decide_false,Bool.not_false,AI];rw[KP (by have:=hI.2;simp;omega) (by decide),AB,AB];split;exact⟨hI.1,by have:=hI.2;omega⟩;refine⟨by rw[List.getElem?_append_left (DX hI.1)];exact hI.1,by rw[List.length_append,List.length_singleton];have:=hI.2;omega⟩)
  (fun w _=>by simp only[H6,ltI,AG];rfl) o ⟨ho,by omega⟩
 rw[K8]at h;exact h
theorem aQb{q:AD}(hF:DF q)(hR:Af q)(hS:CI q){L:List Int}(hL:Fa q L){st:List Int}(hn:st.Nodup)(hs:∀x∈st,∃n:Nat,x=(n:Int)/\n<2^q.states.length):∃o,aM2 L q 0 st=some o/\o.Nodup/\∀z,z∈o↔ ∃y∈st,Rch (Dn q L) y z:=by
 have hb:=aSu (L:=L) hR hS hs;have hsm:∀z,Rch (M6 st (Dn q L)) none (some z)->∃n:Nat,z=(n:Int)/\n<256:=fun z hz=>by obtain⟨y,hy,hr⟩:=N0.1 hz;obtain⟨n,rfl,hn⟩:=hs y hy;exact rcS hR hS hn z hr
 obtain⟨o1,h,o2,hQ1,rfl⟩:=Lm hb (fun _=>false) (step:=fun s:Int×List Int=>H5 L q s.1 s.2) (fun i o u=>∃k:Nat,i=k+1/\∃o1,o=emb o1/\u=((k:Int),o1)) (fun _ o t=>∃o1,o=emb o1/\t=o1)
  (fun i x o u hI hr hx _=>by
   obtain⟨k,rfl,o1,rfl,rfl⟩:=hr;have hl:=hb _ hI.nd hI.rc;have hl1:o1.length<=256:=by simpa[emb]using hl
   unfold emb at hx;rw[List.getElem?_cons_succ,List.getElem?_map]at hx;obtain⟨x1,hx1,rfl⟩:=om.1 hx;have hs1:=hsm x1 (hI.rc _ (JL.2 (List.mem_of_getElem? hx1)));refine⟨(((k+1:Nat):Int),En o1 (Dn q L x1)),?_,k+1,rfl,En o1 (Dn q L x1),K6 _ _,rfl⟩;simp only[H5,ltD hx1,AI,aQc hF hR hL k hs1 hx1 (show o1.length<=1000 by omega),AB,Ag hx1 (show o1.length<=9223372036854775807 by omega)])
  (fun i x o u _ _ _ h=>by cases h)
  (fun o u _ hr=>by
   obtain⟨k,hk,o1,rfl,rfl⟩:=hr;have e:k=o1.length:=by simp[emb]at hk;omega
   subst e;exact⟨o1,by simp only[H5,ltI,AG],o1,rfl,rfl⟩) 258 1 (emb st) ((0:Int),st) (PZ hn) ⟨0,rfl,st,rfl,rfl⟩ (by omega)
 obtain⟨w1,_,w3⟩:=aL9 hb (fun _=>false) 258 1 (emb st) (PZ hn) (fun _ _ _ _=>rfl) (by omega);have he:=w3.resolve_right (by rintro⟨_,_,h⟩;cases h);rw[hQ1]at w1 he;rw[he]at w1;refine⟨o1,h,?_,fun z=>?_⟩;have h1:=w1.nd;unfold emb at h1;have h2:=(List.nodup_cons.1 h1).2;exact(List.pairwise_map.1 h2).imp fun h e=>h (congrArg some e);rw[<-N0 (succ:=Dn q L)];refine⟨fun hz=>w1.rc _ (JL.2 hz),fun hz=>?_⟩;have key:∀u,Rch (M6 st (Dn q L)) none u->u∈emb o1:=by
  intro u hu;induction hu with
  |refl=>simp[emb]
  |step _ hy ih=>
   obtain⟨j,hj⟩:=List.mem_iff_getElem?.1 ih
   exact w1.cl j _ (DX hj) hj _ hy
 exact JL.1 (key _ hz)
theorem aBq{q:AD}{L A B:List Int}(h:∀x,x∈A↔x∈B)(z:Int):aQr q L A z↔aQr q L B z:=by unfold aQr;constructor<;>rintro⟨a,ha,r⟩;exact⟨a,(h a).1 ha,r⟩;exact⟨a,(h a).2 ha,r⟩
theorem aBr{q:AD}(hF:DF q)(hR:Af q)(hS:CI q){L:List Int}(hL:Fa q L){b:List X2}(he:X4 q b=some L)(he2:Xo q b=some L){s:Nat}(hs:s<2^q.states.length):∃l w,Xl q b (s:Int)=some l/\Xb q b (s:Int)=some w/\l.Perm w/\l.Pairwise (· <= ·)/\w.length<=256/\Hh w/\w.Nodup:=by
 have hb:=bdS (L:=L) hR hS hs;have hcl:=JG hb;obtain⟨A,a1,a2,_⟩:=aOw hF hR hS hL he hs;have hA:A.length<=256:=by rw[a2.length_eq];exact hcl
 have hAs:∀x∈A,∃n:Nat,x=(n:Int)/\n<256:=fun x hx=>rcS hR hS hs x ((Eo hb).1 (a2.mem_iff.1 hx));obtain⟨out,o1,o2,o3⟩:=aQ7 hF hR hS hL he a1 hA hAs;have hol:=o2.len hR hS;obtain⟨so,s1,s2,s3⟩:=NO (w:=out) (by omega);obtain⟨c1,c2⟩:=aXu s3;have hCs:∀x∈clo (Dn q L) 256 (s:Int),∃n:Nat,x=(n:Int)/\n<256:=fun x hx=>rcS hR hS hs x ((Eo hb).1 hx);have hst:∀x∈stM q L (clo (Dn q L) 256 (s:Int)),∃n:Nat,x=(n:Int)/\n<2^q.states.length:=fun x hx=>by
  rcases(Lj q L _ [] x).1 hx with h|⟨a,_,m,_,_,rfl⟩
  cases h;exact aS5 hR a m
 have hnd0:(stM q L (clo (Dn q L) 256 (s:Int))).Nodup:=aL5 q L _ [] (by simp);obtain⟨w,w1,w2,w3⟩:=aQb hF hR hS hL hnd0 hst;have hmem:∀z,z∈w↔aQr q L A z:=fun z=>by
  rw[w3,aBq (fun x=>a2.mem_iff (a:=x))];constructor;rintro⟨y,hy,hr⟩;rcases(Lj q L _ [] y).1 hy with h|⟨a,ha,m,hm,hn,rfl⟩
  cases h;exact⟨a,ha,m,hm,hn,hr⟩;rintro⟨a,ha,m,hm,hn,hr⟩;exact⟨_,(Lj q L _ [] _).2 (.inr ⟨a,ha,m,hm,hn,rfl⟩),hr⟩
 have hws:Hh w:=fun z hz=>o2.small hR hS z (o3 z ((hmem z).1 hz));have hnd:(cpE so).Nodup:=c1.imp fun h=>by omega
 refine⟨cpE so,w,?_,?_,?_,c1.imp fun h=>by omega,Pr w2 hws,hws,w2⟩;unfold Xl Ua LO;rw[he,AB,o1,AB,s1,AB,AB];unfold Xb;rw[he2,AB,aVx hF hR hS hL he2 hs,AB,aP9 hF hR hS hL hcl hCs,AB,w1,AB];refine(List.perm_ext_iff_of_nodup hnd w2).2 fun z=>?_;rw[c2,s2.mem_iff,hmem];exact⟨o2.me z,o3 z⟩
theorem aBp{q:AD}(hF:DF q){l:List Int}(hl:l.length<=100000)(hs:Hh l):aN2 l q 0 0=some ((l.countP (HX q):Nat):Int):=by
 obtain⟨o,ho,h1⟩:=BC (step:=fun s:Int×Int=>Ih l q s.1 s.2)
  (fun s=>∃i:Nat,s.2=(i:Int)/\i<=l.length/\s.1=(((l.take i).countP (HX q):Nat):Int)) (fun s=>(l.length-s.2).toNat) (fun o=>o=((l.countP (HX q):Nat):Int))
  (by
   rintro⟨n,m⟩ ⟨i,rfl,hi,hb⟩;simp only at hb;subst hb;by_cases he:i=l.length;subst he;exact .inl ⟨_,by simp only[Ih,ltI,AG,List.take_length],rfl⟩;obtain⟨x,hx,_⟩:=AZ (l:=l) (i:=i) (by omega);obtain⟨n,rfl,hn⟩:=hs x (List.mem_of_getElem? hx);have hc:=List.countP_le_length (p:=HX q) (l:=l.take i);rw[List.length_take]at hc;refine .inr ⟨((((l.take (i+1)).countP (HX q):Nat):Int),((i+1:Nat):Int)),?_,⟨i+1,rfl,by omega,rfl⟩,by simp only;omega⟩;have ha:HX q (n:Int)=aQt q n:=by rw[HX,Int.toNat_natCast]
   simp only[Ih,ltD hx,AI,aHp,aHr,AN hx,P8 hF (show n<4294967296 by omega),AB,Ag hx (show l.length<=9223372036854775807 by omega),List.take_add_one,hx,Option.toList_some,List.countP_append,List.countP_singleton,ha];rw[BE];split;rw[M5 (by omega),AB,AB];rw[AB,AB];rfl)
  ((0:Int),(0:Int)) ⟨0,rfl,by omega,by simp⟩
 rw[<-h1];exact ho
theorem R3(s8:List Int)(s9:Nat)(w:List Int){x:Int}(hx:s8[s9]? =some x)(hw:w.length<=5000)(h:x∈w):aNq w s8 (s9:Int) false 0=some true:=by
 obtain⟨o,h1,h2⟩:=BC (step:=fun s:Bool×Int=>IU w s8 (s9:Int) s.1 s.2) (fun s=>∃i:Nat,s.2=(i:Int)/\i<=w.length/\(s.1=true\/x∈w.drop i)) (fun s=>(w.length-s.2).toNat) (fun o=>o=true)
  (by
   rintro⟨m,s⟩ ⟨i,rfl,hi,hm⟩;simp only at hm⊢;by_cases he:i=w.length;subst he;rw[List.drop_length]at hm;refine .inl ⟨m,by simp only[IU,ltI,AG],?_⟩;rcases hm with h|h
   exact h;cases h;right;obtain⟨y,hy,hdr⟩:=AZ (l:=w) (i:=i) (by omega);refine⟨(m||decide (y=x),((i+1:Nat):Int)),?_,⟨i+1,rfl,by omega,?_⟩,by simp only;omega⟩;simp only[IU,ltD hy,AI,AN hy,AN hx,Ag hy (show w.length<=9223372036854775807 by omega)];cases m with
   |true=>rfl
   |false=>rfl
   rw[hdr]at hm;rcases hm with h|h
   exact .inl (by simp[h]);rcases mc.1 h with h|h
   exact .inl (by simp[h]);exact .inr h)
  (false,(0:Int)) ⟨0,rfl,by omega,.inr (by simpa using h)⟩
 rw[<-h2];exact h1
theorem R2{l w:List Int}(hw:w.length<=5000)(hl:l.length<=5000)(hm:∀x∈l,x∈w)(hs:l.Pairwise (· <= ·))(hn:l.Nodup):aFw w l 0=some (.inl ()):=by
 obtain⟨o,h1,h2⟩:=An (step:=fun s=>IT w l s) l.length (fun _=>True) (fun o=>o=.inl ())
  (fun i hi=>by
   obtain⟨x,hx,_⟩:=AZ hi;left;refine⟨?_,trivial⟩;simp only[IT,ltD hx,AI,R3 l i w hx hw (hm x (List.mem_of_getElem? hx)),AB,Bool.not_true,AG,Ag hx (show l.length<=9223372036854775807 by omega)];rw[Dj];split;rename_i h0;obtain⟨y,hy,_⟩:=AZ (l:=l) (i:=i-1) (by omega);rw[aYm (by omega) (by omega),AN hx,AN hy,decide_eq_false,AG];have hi1:i-1<l.length:=by omega
   have e1:y=l[i-1]:=by rw[List.getElem?_eq_getElem hi1,oe]at hy;exact hy.symm
   have e2:x=l[i]:=by rw[List.getElem?_eq_getElem hi,oe]at hx;exact hx.symm
   have a1:=List.pairwise_iff_getElem.1 hs (i-1) i hi1 hi (by omega);have a2:=List.pairwise_iff_getElem.1 hn (i-1) i hi1 hi (by omega);rw[e1,e2];omega;rfl)
  (fun _=>⟨.inl (),by simp only[IT,ltI,AG],rfl⟩)
 rw[<-h2];exact h1
theorem aBo{q:AD}(hF:DF q){b:List X2}{s:Int}{l:List Int}(hA:Xb q b s=some l)(hl:l.length<=100000)(hs:Hh l):Yj q b s=some (Lk q l):=by
 unfold Yj Lk;rw[hA,AB,aBp hF hl hs,AB,Dj,Dj];have h1:(((l.countP (HX q):Nat):Int)=(l.length:Int))↔(l.all (HX q))=true:=by rw[List.all_eq_true,<-List.countP_eq_length];omega
 have h2:(((l.countP (HX q):Nat):Int)=0)↔(l.all fun x=> !HX q x)=true:=by rw[List.all_eq_true];have:=List.countP_eq_zero (p:=HX q) (l:=l);simp only[Bool.not_eq_true'];rw[show(((l.countP (HX q):Nat):Int)=0)↔l.countP (HX q)=0 by omega,this];simp
 by_cases c1:(l.all (HX q))=true;rw[if_pos (h1.2 c1),if_pos c1];rw[if_neg (fun h=>c1 (h1.1 h)),if_neg c1];by_cases c2:(l.all fun x=> !HX q x)=true;rw[if_pos (h2.2 c2),if_pos c2];rw[if_neg (fun h=>c2 (h2.1 h)),if_neg c2]
theorem aV2(q:AD)(b:List X2)(x:Int)(hW:∀t∈q.trans,KC t)(hb:b.length<=9223372036854775807)(hx:0<=x):Y1 q b x=some true:=by
 obtain⟨r,hr,hP⟩:=aKq q b hW hb;unfold Y1;rw[hr,AB,aT5];cases r with
 |false=>rfl
 |true=>
  obtain⟨hF,hR,hS,hB,hT,h3⟩:=hP rfl
  have h12:=hF.states
  rw[Bool.not_true,AG,Aw (by rw[Aq (by omega)];omega),aY4 h12,Dj]
  split
  rfl
  rename_i hlt
  obtain⟨n,rfl⟩:∃n:Nat,x=(n:Int):=⟨x.toNat,by omega⟩
  have hs:n<2^q.states.length:=by omega
  obtain⟨L,e1,e2,_,hL⟩:=aQe hF hR hS hT h3 hB
  obtain⟨l,w,m1,m2,hp,hso,hwl,hws,hwn⟩:=aBr hF hR hS hL e1 e2 hs
  have hls:Hh l:=fun z hz=>hws z (hp.mem_iff.1 hz)
  have hLa:Qy q b (n:Int)=some (Lk q w):=by unfold Qy;rw[m1,AB,aA2 hF (by rw[hp.length_eq];omega) hls,AB,Kj hp]
  have hl1:aFw w l 0=some (.inl ()):=R2 (by omega) (by rw[hp.length_eq];omega) (fun z hz=>hp.mem_iff.1 hz) hso (hp.nodup_iff.2 hwn)
  rw[m2,AB,m1,AB,hp.length_eq,decide_eq_true rfl,Bool.not_true,AG,hLa,AB,aBo hF m2 (by omega) hws,AB,decide_eq_true rfl,Bool.not_true,AG,hl1,AB,CR,AB]
end
end Go.Ac
