/- Own work: the plain law. -/
import Derived.Test.YtaacajciajkodaaGreatP36ax
set_option linter.unusedVariables false
set_option linter.unusedSimpArgs false
namespace Go.Ac
noncomputable section
theorem HU{α:Type}{le:α->α->Bool}(h1:∀a b,le a b=true\/le b a=true)(h2:∀a b c,le a b=true->le b c=true->le a c=true)(x:α):∀{l:List α},l.Pairwise (fun a b=>le a b=true)->(Mi le x l).Pairwise (fun a b=>le a b=true)
 |[],_=>by simp[Mi]
 |y::l,h=>by
  obtain⟨ha,hb⟩:=List.pairwise_cons.1 h;rw[Mi];split;rename_i hxy;refine List.pairwise_cons.2 ⟨fun z hz=>?_,h⟩;rcases mc.1 hz with rfl|hz
  exact hxy;exact h2 _ _ _ hxy (ha z hz);rename_i hxy;refine List.pairwise_cons.2 ⟨fun z hz=>?_,HU h1 h2 x hb⟩;rcases aA2.1 hz with rfl|hz
  rcases h1 y z with h|h
  exact h;rw[hxy]at h;cases h;exact ha z hz
theorem Ep{α:Type}{le:α->α->Bool}(h1:∀a b,le a b=true\/le b a=true)(h2:∀a b c,le a b=true->le b c=true->le a c=true):∀(l:List α),(M7 le l).Pairwise (fun a b=>le a b=true)
 |[]=>List.Pairwise.nil
 |x::l=>HU h1 h2 x (Ep h1 h2 l)
theorem Dp(xs:List Int):(aCx xs).Pairwise (· <= ·):=
 (Ep (le:=fun a b:Int=>decide (a<=b)) (fun a b=>by simp only[decide_eq_true_eq];omega) (fun a b c h1 h2=>by simp only[decide_eq_true_eq]at*;omega) xs).imp fun h=>by simpa using h
theorem JS{V:Type}(S:List (Int×V)):(aL6 S).Pairwise (fun a b=>a.1<=b.1):=
 (Ep (le:=fun a b:Int×V=>decide (a.1<=b.1)) (fun a b=>by simp only[decide_eq_true_eq];omega) (fun a b c h1 h2=>by simp only[decide_eq_true_eq]at*;omega) S).imp fun h=>by simpa using h
def TC(xs:List Int):Option (List Int):=AE (Nat.ble xs.length 60000) (some (aCx xs)) none
theorem aMt(xs:List Int):Le (TC xs) (Qm xs):=by
 intro r h;unfold TC at h;rcases iS h with⟨h1,h⟩|⟨h1,h⟩
 cases si h;exact Pf (by simpa using h1) (Dp xs) (Dh xs);cases h
theorem aDb{w l:List Int}(hl:w.length<=60000)(hs:l.Pairwise (· <= ·))(hp:l.Perm w):Q0 w=some l:=by obtain⟨w',e1,e2,e3⟩:=TX hl;rw[e1,Eq e3 hs (e2.trans hp.symm)]
theorem aCb(xs:List Int):Le (TC xs) (Q0 xs):=by
 intro r h;unfold TC at h;rcases iS h with⟨h1,h⟩|⟨h1,h⟩
 cases si h;exact aDb (by simpa using h1) (Dp xs) (Dh xs);cases h
structure aR3(n:Nat)(l:List Ap):Prop extends aUw l where
 sym:∀h∈l,0<=h.symbol/\h.symbol<n
theorem aP9{a b:Nat}(h:a+b<18446744073709551616):AA .add .u64 (a:Int) (b:Int)=((a+b:Nat):Int):=by show IntKind.wrap .u64 ((a:Int)+(b:Int))=_;rw[<-Int.natCast_add];exact As h
theorem aOh{n:Nat}(hn:n<=12){l:List Ap}(hl:aR3 n l):∃M:Nat,Z8 l=some (M:Int)/\M<18446744073709551616/\∀k:Nat,M.testBit k=true↔ ∃h∈l,h.symbol=(k:Int):=by
 have hln:=hl.len;obtain⟨o,ho,M,rfl,hQ⟩:=BY (step:=fun s:Int×Int=>Iw l s.1 s.2)
  (fun s=>∃(j w:Nat),s=((w:Int),(j:Int))/\j<=l.length/\w<2^12/\∀k:Nat,w.testBit k=true↔ ∃i,i<j/\∃h,l[i]? =some h/\h.symbol=(k:Int))
  (fun s=>(l.length-s.2).toNat)
  (fun o=>∃M:Nat,o=(M:Int)/\M<18446744073709551616/\∀k:Nat,M.testBit k=true↔ ∃h∈l,h.symbol=(k:Int))
  (by
   rintro s ⟨j,w,rfl,hj,hw,hm⟩;by_cases he:j=l.length;subst he;refine .inl ⟨(w:Int),by simp only[Iw,ltI,AI],w,rfl,Nat.lt_of_lt_of_le hw (by decide),fun k=>?_⟩;rw[hm k];constructor;rintro⟨i,_,h,hi,hs⟩;exact⟨h,List.mem_of_getElem? hi,hs⟩;rintro⟨h,hh,hs⟩;obtain⟨i,hi⟩:=List.mem_iff_getElem?.1 hh;exact⟨i,(List.getElem?_eq_some_iff.1 hi).1,h,hi,hs⟩;right;obtain⟨y,hy,_⟩:=Ab (l:=l) (i:=j) (by omega);have hsy:=hl.sym y (List.mem_of_getElem? hy);obtain⟨z,hz⟩:∃z:Nat,y.symbol=(z:Int):=⟨y.symbol.toNat,by omega⟩;have hz12:z<12:=by omega
   have hwz:w<2^z:=Nat.lt_pow_two_of_testBit w fun i hi=>by
    cases hb:w.testBit i with
    |false=>rfl
    |true=>
     exfalso
     obtain⟨a,ha,h,hh,hs⟩:=(hm i).1 hb
     obtain⟨p1,e1⟩:=List.getElem?_eq_some_iff.1 hh
     obtain⟨p2,e2⟩:=List.getElem?_eq_some_iff.1 hy
     have:=List.pairwise_iff_getElem.1 hl.rise a j p1 p2 ha
     rw[e1,e2]at this
     omega
   have hor:w+2^z=2^z|||w:=by have:=Nat.two_pow_add_eq_or_of_lt hwz 1;rw[Nat.mul_one]at this;rw[Nat.add_comm];exact this
   have hp12:2^z<2^12:=Nat.pow_lt_pow_right (by decide) hz12;have hlt12:w+2^z<2^12:=by rw[hor];exact Nat.or_lt_two_pow hp12 hw
   have hwz2:IntKind.wrap .u64 (z:Int)=(z:Int):=As (by omega);refine⟨(((w+2^z:Nat):Int),((j+1:Nat):Int)),?_,⟨j+1,w+2^z,rfl,by omega,hlt12,fun k=>?_⟩,by simp only;omega⟩;simp only[Iw,ltD hy,AJ,AP hy,hz,hwz2,Av (show(0:Int)<=(z:Int) by omega),A9 hy (show l.length<=9223372036854775807 by omega)];rw[aMs (by omega),aP9 (Nat.lt_of_lt_of_le hlt12 (by decide))];rw[hor,Nat.testBit_or,Nat.testBit_two_pow,Bool.or_eq_true,decide_eq_true_eq,hm k];constructor;rintro(h|⟨i,hi,a⟩);exact⟨j,by omega,y,hy,by rw[hz,h]⟩;exact⟨i,by omega,a⟩;rintro⟨i,hi,h,hh,hs⟩;rcases Nat.lt_or_ge i j with g|g
   exact .inr ⟨i,g,h,hh,hs⟩;have:i=j:=by omega
   subst this;rw[hy,oe]at hh;subst hh;exact .inl (by omega))
  ((0:Int),(0:Int)) ⟨0,0,rfl,by omega,by decide,fun k=>by simp⟩
 have ho':aPu l 0 0=some (M:Int):=ho;exact⟨M,by unfold Z8;rw[ho',AB],hQ⟩
theorem F5{α:Type}(f:Nat->α->Nat)(P:α->Nat->Prop)(hf:∀w x k,(f w x).testBit k=true↔w.testBit k=true\/P x k):∀(l:List α) (w k:Nat),(l.foldl f w).testBit k=true↔w.testBit k=true\/∃x∈l,P x k
 |[],w,k=>by simp
 |x::l,w,k=>by
  rw[List.foldl_cons,F5 f P hf l,hf];constructor;rintro((h|h)|⟨y,hy,h⟩);exact .inl h;exact .inr ⟨x,by simp,h⟩;exact .inr ⟨y,List.mem_cons_of_mem _ hy,h⟩;rintro(h|⟨y,hy,h⟩);exact .inl (.inl h);rcases mc.1 hy with rfl|hy
  exact .inl (.inr h);exact .inr ⟨y,hy,h⟩
theorem aRk(q:AD)(M s k:Nat):(toN q M s).testBit k=true↔ ∃t∈q.trans,(t.from_=(s:Int)/\M.testBit t.symbol.toNat=true)/\t.to.toNat=k:=by
 unfold toN;rw[F5 (toF M s) (fun t k=>(t.from_=(s:Int)/\M.testBit t.symbol.toNat=true)/\t.to.toNat=k) (fun w t k=>by unfold toF;by_cases h:t.from_=(s:Int)/\M.testBit t.symbol.toNat=true;rw[if_pos h,Nat.testBit_or,Nat.testBit_two_pow,Bool.or_eq_true,decide_eq_true_eq];exact⟨fun a=>a.elim .inl fun b=>.inr ⟨h,b⟩,fun a=>a.elim .inl fun b=>.inr b.2⟩;rw[if_neg h];exact⟨.inl,fun a=>a.elim id fun b=>absurd b.1 h⟩)]
 simp
theorem aBp(q:AD)(S M k:Nat):(EP q S M).testBit k=true↔ ∃s,s<q.states.length/\S.testBit s=true/\(aNs q M s).testBit k=true:=by
 unfold EP;rw[F5 (LZ q S M) (fun s k=>S.testBit s=true/\(aNs q M s).testBit k=true) (fun w s k=>by unfold LZ;by_cases h:S.testBit s=true;rw[if_pos h,Nat.testBit_or,Bool.or_eq_true];exact⟨fun a=>a.elim .inl fun b=>.inr ⟨h,b⟩,fun a=>a.elim .inl fun b=>.inr b.2⟩;rw[if_neg h];exact⟨.inl,fun a=>a.elim id fun b=>absurd b.1 h⟩)]
 simp only[List.mem_range,Nat.zero_testBit,Bool.false_eq_true,false_or]
theorem Sv{q:AD}(hF:EG q)(hR:Ao q)(hS:DE q)(e:Xd)(b:List X2):aR3 q.symbols.length (((List.range q.symbols.length).filterMap fun i=>JO q i e).filter fun h=>Dz h.bind b):=by
 have hsy:=hF.symbols;have hmem:∀h∈(List.range q.symbols.length).filterMap (fun i=>JO q i e),∃i,i<q.symbols.length/\JO q i e=some h:=fun h hh=>by obtain⟨i,hi,hh⟩:=List.mem_filterMap.1 hh;exact⟨i,List.mem_range.1 hi,hh⟩
 refine⟨⟨fun h hh=>?_,?_,?_⟩,fun h hh=>?_⟩;obtain⟨i,_,hi⟩:=hmem h (List.mem_filter.1 hh).1;exact aAz hR hS hi;refine List.Pairwise.filter _ ?_;rw[List.pairwise_filterMap];refine List.Pairwise.imp ?_ (List.pairwise_lt_range (n:=q.symbols.length));intro i j hij a ha c hc;have h1:=(Mf ha).1;have h2:=(Mf hc).1;omega;have h1:=List.length_filter_le (fun h:Ap=>Dz h.bind b) ((List.range q.symbols.length).filterMap fun i=>JO q i e);have h2:=List.length_filterMap_le (fun i=>JO q i e) (List.range q.symbols.length);rw[List.length_range]at h2;omega;obtain⟨i,hi,hh⟩:=hmem h (List.mem_filter.1 hh).1;have:=(Mf hh).1;omega

theorem Hn(l:List X0)(v:X0)(hl:l.length<=1000000):Zo l v=some (decide (v∈l)):=by
 have hloop:SP l (l.length:Int) v 0=some (if(l.any fun t=>decide (v=t))=true then .inr ((l.findIdx fun t=>decide (v=t):Nat):Int)else .inl ()):=by unfold SP;refine KX (step:=fun s=>G5 l (l.length:Int) v s) l (fun t=>decide (v=t)) (fun i x hx=>?_) ?_;simp only[G5,ltD hx,AJ,AP hx,X0.eqb_dec,A9 hx (show l.length<=9223372036854775807 by omega)];by_cases h:v=x<;>simp[h,AE];simp only[G5,ltI,AI]
 have hany:(l.any fun t=>decide (v=t))=decide (v∈l):=by rw[Bool.eq_iff_iff,List.any_eq_true];simp
 unfold Zo Yf;rw[hloop,AB,hany];by_cases h:v∈l;simp only[h,decide_true,if_true,D9,AB];simp;simp only[h,decide_false,Bool.false_eq_true,if_false,CQ,AB];rfl
theorem FW{w:List X0}{x v:X0}:v∈NK w x↔v=x\/v∈w:=by unfold NK;by_cases h:x∈w;rw[if_pos h];exact⟨.inr,fun hh=>hh.elim (fun e=>e▸h) id⟩;rw[if_neg h];simp only[ma,mc,List.mem_filter];cases ltV v x<;>simp<;>constructor<;>(intro hh;rcases hh with a|b<;>simp_all)
theorem TS{x:X0}:Zk x=some (true,[x]):=by
 have hb:Xz ([]:List X0) x ([]:List X0)=some (0,false):=by unfold Xz SF;rw[Ah];simp[Fz,Vy,AE,AG,CW]
 unfold Zk ZH Qq aUq;rw[hb];simp[AG,AE,fit]
theorem aR0{w:List X0}(h:w.length<=1000):Qd w=some (w,w):=by unfold Qd Qr QU;rw[if_pos (B2 (by omega) (by decide))];rfl



theorem HJ{α β τ:Type}{step:β×Int->Option (β×Int⊕τ)}(l:List α)(f:β->α->β)(fin:β->τ)(I:Nat->β->Prop)
 (h1:∀(i:Nat) x w,l[i]? =some x->I i w->step (w,(i:Int))=some (.inl (f w x,((i+1:Nat):Int)))/\I (i+1) (f w x))
 (h2:∀w,I l.length w->step (w,(l.length:Int))=some (.inr (fin w))) (w:β) (h0:I 0 w):AR step (w,0)=some (fin (l.foldl f w)):=by
 have h:=Ek (step:=step) l (fun i w=>(w,(i:Int))) (fun _ w x=>(.inl (f w x):β⊕τ)) fin I (fun i x w hx hI=>⟨(h1 i x w hx hI).1,fun w' hw=>by cases hw;exact(h1 i x w hx hI).2⟩) h2 (l.length+1) 0 w (by omega) (by omega) h0
 rw[show(w,(0:Int))=(w,((0:Nat):Int))from rfl,h,List.drop_zero]
 congr 1
 clear h h1 h2 h0
 generalize 0=i
 revert i w
 induction l with
 |nil=>intro w i;rfl
 |cons x xs ih=>intro w i;rw[NM];exact ih _ _
def KF(k:Int)(w:List X0)(a:Bz):List X0:=if a.kind=1/\a.value.kind=k then NK w a.value else w
def Df(q:AD)(k:Int):List X0:=q.symbols.foldl (fun w s=>s.args.foldl (KF k) w) (if k=3 then [X0.mk 3 0 [] false,X0.mk 3 0 [] true]else [])
theorem JJ{α β:Type}(I:Nat->β->Prop)(f:β->α->β):∀(l:List α) (i:Nat) (w:β),(∀(j:Nat) x w,x∈l->I j w->I (j+1) (f w x))->I i w->I (i+l.length) (l.foldl f w)
 |[],i,w,_,h0=>h0
 |x::l,i,w,h,h0=>by
  rw[List.foldl_cons,List.length_cons,show i+(l.length+1)=(i+1)+l.length by omega];exact JJ I f l (i+1) _ (fun j y w hy=>h j y w (List.mem_cons_of_mem _ hy)) (h i x w (by simp) h0)
theorem NS(k:Int):SW (if k=3 then [X0.mk 3 0 [] false,X0.mk 3 0 [] true]else []):=by
 split;refine⟨?_,?_⟩;simp[ltV];intro v hv;simp only[mc,List.not_mem_nil,or_false]at hv;rcases hv with rfl|rfl<;>decide
 exact⟨List.Pairwise.nil,by simp⟩
theorem LG{k:Int}{w:List X0}{a:Bz}{n:Nat}(ha:a.kind=1->vR a.value=true)(hw:SW w)(hl:w.length<=n):SW (KF k w a)/\(KF k w a).length<=n+1:=by unfold KF;split;rename_i h;have:=L3 hw (ha h.1);refine⟨this.1,?_⟩;rw[this.2];split<;>omega;exact⟨hw,by omega⟩
theorem LH{q:AD}(hF:EG q)(hR:Ao q){s:X5}(hs:s∈q.symbols){k:Int}{w:List X0}{n:Nat}(hw:SW w)(hl:w.length<=n):SW (s.args.foldl (KF k) w)/\(s.args.foldl (KF k) w).length<=n+12:=by have h:=JJ (fun i w=>SW w/\w.length<=n+i) (KF k) s.args 0 w (fun j a w ha hI=>LG ((hR.symbols s hs).args a ha).one hI.1 hI.2) ⟨hw,by omega⟩;have:=hF.args s hs;exact⟨h.1,by omega⟩
theorem cons_inv{q:AD}(hF:EG q)(hR:Ao q)(k:Int):SW (Df q k)/\(Df q k).length<=200:=by
 have h:=JJ (fun i w=>SW w/\w.length<=2+12*i) (fun w s=>s.args.foldl (KF k) w) q.symbols 0 (if k=3 then [X0.mk 3 0 [] false,X0.mk 3 0 [] true]else [])
  (fun j s w hs hI=>by have:=LH hF hR hs (k:=k) hI.1 hI.2;exact⟨this.1,by omega⟩) ⟨NS k,by split<;>simp⟩
 have:=hF.symbols;exact⟨h.1,by unfold Df;omega⟩
theorem aVr{q:AD}(hF:EG q)(hR:Ao q)(k:Int):Xa q k=some (Df q k):=by
 have hsy:=hF.symbols;have hb:Ns k (decide (k=3)) q=some (if k=3 then [X0.mk 3 0 [] false,X0.mk 3 0 [] true]else []):=by unfold Ns Q7;rw[D0];split;simp only[AB,TS];rw[Lz (w:=[X0.mk 3 0 [] false]) ⟨by simp,by simp;decide⟩ (by decide) (by simp)];rfl;rfl
 have hin:∀(s:X5) (i:Int) (w:List X0),s∈q.symbols->SW w->w.length<=200->Rt k q.symbols (q.symbols.length:Int) i s.args (s.args.length:Int) 0 w=some (s.args.foldl (KF k) w):=by intro s i w hs hw hl;have ha:=hF.args s hs;unfold Rt;refine Ej (step:=fun z:Int×List X0=>Fq k q.symbols (q.symbols.length:Int) i s.args (s.args.length:Int) z.1 z.2) s.args (KF k) id (fun j w=>SW w/\w.length<=200+j) (fun j a w hx hI=>?_) (fun w _=>?_) w ⟨hw,by omega⟩;have hv:=((hR.symbols s hs).args a (List.mem_of_getElem? hx)).one;have hlt:=(List.getElem?_eq_some_iff.1 hx).1;refine⟨?_,LG hv hI.1 hI.2⟩;simp only[Fq,ltD hx,AJ,Rr,AP hx,A9 hx (show s.args.length<=9223372036854775807 by omega),Nv];unfold KF;by_cases h1:a.kind=1<;>by_cases h2:a.value.kind=k;rw[D0,if_pos h1,D0,if_pos h2,if_pos ⟨h1,h2⟩,Lz hI.1 (hv h1) (by have:=hI.2;omega)];rfl;rw[D0,if_pos h1,D0,if_neg h2,if_neg (fun h=>h2 h.2)];rfl;rw[D0,if_neg h1,if_neg (fun h=>h1 h.1)];rfl;rw[D0,if_neg h1,if_neg (fun h=>h1 h.1)];rfl;simp only[Fq,ltI,AI,id]
 unfold Xa Qk UH;rw[AB,hb,AB,Ej (step:=fun z:Int×List X0=>Fp k q.symbols (q.symbols.length:Int) z.1 z.2) q.symbols (fun w s=>s.args.foldl (KF k) w) id (fun j w=>SW w/\w.length<=2+12*j)
  (fun j s w hx hI=>by have hs:=List.mem_of_getElem? hx;have hlt:=(List.getElem?_eq_some_iff.1 hx).1;have:=LH hF hR hs (k:=k) hI.1 hI.2;refine⟨?_,this.1,by omega⟩;simp only[Fp,ltD hx,AJ,AP hx,A9 hx (show q.symbols.length<=9223372036854775807 by omega)];rw[hin s _ w hs hI.1 (by have:=hI.2;omega)];rfl)
  (fun w _=>by simp only[Fp,ltI,AI,id]) _ ⟨NS k,by split<;>simp⟩,AB]
 have hc:=cons_inv hF hR k;show AG (Qd (Df q k)) _=_;rw[aR0 (by omega)];rfl
theorem aSr{q:AD}(hF:EG q)(hR:Ao q)(k:Int):Xv q k=some (Df q k):=by
 have hsy:=hF.symbols;have hb:Vg k (decide (k=3)) q=some (if k=3 then [X0.mk 3 0 [] false,X0.mk 3 0 [] true]else []):=by unfold Vg;rw[D0];split<;>rfl
 have hin:∀(s:X5) (i:Nat) (w:List X0),q.symbols[i]? =some s->SW w->w.length<=200->aHd k (i:Int) q w 0=some (s.args.foldl (KF k) w):=by intro s i w hxs hw hl;have hs:=List.mem_of_getElem? hxs;have ha:=hF.args s hs;unfold aHd;refine HJ (step:=fun z:List X0×Int=>IY k (i:Int) q z.1 z.2) s.args (KF k) id (fun j w=>SW w/\w.length<=200+j) (fun j a w hx hI=>?_) (fun w _=>?_) w ⟨hw,by omega⟩;have hv:=((hR.symbols s hs).args a (List.mem_of_getElem? hx)).one;have hlt:=(List.getElem?_eq_some_iff.1 hx).1;refine⟨?_,LG hv hI.1 hI.2⟩;simp only[IY,AP hxs,ltD hx,AJ,aHa,AP hx,A9 hx (show s.args.length<=9223372036854775807 by omega),Vh];unfold KF;by_cases h1:a.kind=1<;>by_cases h2:a.value.kind=k;rw[D0,if_pos h1,D0,if_pos h2,if_pos ⟨h1,h2⟩,aJz hI.1 (hv h1) (by have:=hI.2;omega)];rfl;rw[D0,if_pos h1,D0,if_neg h2,if_neg (fun h=>h2 h.2)];rfl;rw[D0,if_neg h1,if_neg (fun h=>h1 h.1)];rfl;rw[D0,if_neg h1,if_neg (fun h=>h1 h.1)];rfl;simp only[IY,AP hxs,ltI,AI,id]
 unfold Xv aO2;rw[hb,AB,HJ (step:=fun z:List X0×Int=>IX k q z.1 z.2) q.symbols (fun w s=>s.args.foldl (KF k) w) id (fun j w=>SW w/\w.length<=2+12*j)
  (fun j s w hx hI=>by have hs:=List.mem_of_getElem? hx;have hlt:=(List.getElem?_eq_some_iff.1 hx).1;have:=LH hF hR hs (k:=k) hI.1 hI.2;refine⟨?_,this.1,by omega⟩;simp only[IX,ltD hx,AJ,A9 hx (show q.symbols.length<=9223372036854775807 by omega)];rw[hin s j w hx hI.1 (by have:=hI.2;omega)];rfl)
  (fun w _=>by simp only[IX,ltI,AI,id]) _ ⟨NS k,by split<;>simp⟩,AB]
 rfl
def Gb(k:Int)(j:Nat):X0:=if k=1 then⟨k,(j:Int),[],false⟩else⟨k,0,List.replicate j 97,false⟩
theorem aMg{k:Int}{i j:Nat}(h:Gb k i=Gb k j):i=j:=by
 unfold Gb at h;split at h;injection h with _ h2;omega
 injection h with _ _ h3
 have:=congrArg List.length h3;simpa using this
theorem Ms(k:Int)(j:Nat):(Gb k j).kind=k:=by unfold Gb;split<;>rfl
theorem aBn{k:Int}{j:Nat}(hk:k=1\/k=2)(hj:j<=1000):vR (Gb k j)=true:=by
 unfold Gb vR;rcases hk with rfl|rfl
 simp;simp;omega
theorem aN3{α:Type} [DecidableEq α](f:Nat->α)(hf:∀i j,f i=f j->i=j):∀(n:Nat) (l:List α),(∀i,i<n->f i∈l)->n<=l.length
 |0,_,_=>Nat.zero_le _
 |n+1,l,h=>by
  have hm:=h n (by omega);have:=aN3 f hf n (l.erase (f n)) (fun i hi=>(List.mem_erase_of_ne (fun e=>by have:=hf _ _ e;omega)).2 (h i (by omega)));rw[List.length_erase_of_mem hm]at this;have:0<l.length:=List.length_pos_of_mem hm;omega
theorem aR2{w:List X0}{v:X0}(hw:SW w)(hv:vR v=true)(hl:w.length<=900):Qg w v=some (decide (v∈w)):=by unfold Qg;rw[aJz hw hv hl,AB,(L3 hw hv).2];by_cases h:v∈w;simp[h];simp only[h,if_false,decide_false,oe,decide_eq_false_iff_not];omega
theorem Mt(k:Int)(j:Nat)(hk:k=1\/k=2)(hj:j<=1000)(l:List X0)(z:X0):R8 k l z (Gb k j)=some (Gb k (j+1))/\Wg k l z (Gb k j)=some (Gb k (j+1)):=by
 unfold R8 Wg aG2 aI1 Gb;rcases hk with rfl|rfl
 simp only[if_true,decide_true,AJ,AB];rw[MC (by omega) (by omega)];simp;simp only[show¬(2:Int)=1 by decide,if_false,decide_false,AI,List.length_replicate];rw[Av (by simp;omega)];simp[AG,List.replicate_succ']
theorem RG{k:Int}(hk:k=1\/k=2){l w:List X0}(hl:l.length<=1000)(hw:SW w)(hwl:w.length<=900)(hm:∀v,v.kind=k->(v∈w↔v∈l))(z:X0):∀(m j:Nat),j+m<=900->(∃i,j<=i/\i<j+m/\Gb k i∉l)->∃i,j<=i/\i<j+m/\Gb k i∉l/\L6 k l z (Gb k j)=some (Gb k i)/\Wh k w z (Gb k j)=some (Gb k i)
 |0,j,_,⟨i,h1,h2,_⟩=>by omega
 |m+1,j,hj,⟨i,h1,h2,h3⟩=>by
  have e1:Zo l (Gb k j)=some (decide (Gb k j∈l)):=Hn _ _ (by omega);have e2:Qg w (Gb k j)=some (decide (Gb k j∈l)):=by rw[aR2 hw (aBn hk (by omega)) hwl];simp only[hm _ (Ms k j)]
  by_cases h:Gb k j∈l;have hne:i≠j:=fun e=>h3 (e▸h);obtain⟨i',a1,a2,a3,a4,a5⟩:=RG hk hl hw hwl hm z m (j+1) (by omega) ⟨i,by omega,by omega,h3⟩;refine⟨i',by omega,by omega,a3,?_,?_⟩;rw[Py];unfold Fx;rw[e1,AB];simp only[h,decide_true,AJ,(Mt k j hk (by omega) l z).1,AB,BF];exact a4;rw[QF];unfold Ih;rw[e2,AB];simp only[h,decide_true,AJ,(Mt k j hk (by omega) w z).2,AB,BF];exact a5;refine⟨j,by omega,by omega,h,?_,?_⟩;rw[Py];unfold Fx;rw[e1,AB];simp only[h,decide_false,AI,Ae];rw[QF];unfold Ih;rw[e2,AB];simp only[h,decide_false,AI,Ae]
def EI(n:Nat)(p:Nat->Bool):Nat:=(List.range n).foldl (fun w i=>if p i=true then w|||2^i else w) 0
theorem KH(n:Nat)(p:Nat->Bool):EI (n+1) p=if p n=true then EI n p|||2^n else EI n p:=by unfold EI;rw[List.range_succ,List.foldl_append];rfl
theorem E2(n:Nat)(p:Nat->Bool)(k:Nat):(EI n p).testBit k=true↔k<n/\p k=true:=by
 induction n with
 |zero=>simp[EI]
 |succ n ih=>
  rw[KH]
  split
  rename_i h
  rw[Nat.testBit_or,Nat.testBit_two_pow,Bool.or_eq_true,decide_eq_true_eq,ih]
  constructor
  rintro(⟨a,b⟩|rfl)
  exact⟨by omega,b⟩
  exact⟨by omega,h⟩
  rintro⟨a,b⟩
  by_cases hk:n=k
  exact .inr hk
  exact .inl ⟨by omega,b⟩
  rename_i h
  rw[ih]
  constructor
  rintro⟨a,b⟩;exact⟨by omega,b⟩
  rintro⟨a,b⟩
  refine⟨?_,b⟩
  by_cases hk:n=k
  subst hk;exact absurd b h
  omega
theorem Hi(n:Nat)(p:Nat->Bool):EI n p<2^n:=Nat.lt_pow_two_of_testBit _ fun i hi=>by
 cases h:(EI n p).testBit i with
 |false=>rfl
 |true=>have:=(E2 n p i).1 h;omega
theorem QM{a b:Nat}(h:∀k,a.testBit k=true↔b.testBit k=true):a=b:=Nat.eq_of_testBit_eq fun i=>by rw[Bool.eq_iff_iff];exact h i
theorem Mo{step:Int×Int->Option (Int×Int⊕Int)}{n:Nat}(hn:n<=12)(p:Nat->Bool)
 (h1:∀i w:Nat,i<n->w<4096->step ((w:Int),(i:Int))=some (.inl (((if p i=true then w|||2^i else w:Nat):Int),((i+1:Nat):Int))))
 (h2:∀w:Nat,step ((w:Int),(n:Int))=some (.inr (w:Int))):AR step (0,0)=some ((EI n p:Nat):Int):=by
 refine aL9 (fun s=>∃i:Nat,i<=n/\s=(((EI i p:Nat):Int),(i:Int))) (fun s=>(n-s.2).toNat) (fun _=>((EI n p:Nat):Int)) ?_ (0,0) ⟨0,by omega,rfl⟩
 rintro s ⟨i,hi,rfl⟩
 by_cases he:i=n
 subst he;exact .inl (h2 _)
 have hlt:EI i p<4096:=Nat.lt_of_lt_of_le (Hi i p) (show 2^i<=2^12 from Nat.pow_le_pow_right (by decide) (by omega))
 refine .inr ⟨_,h1 i (EI i p) (by omega) hlt,⟨i+1,by omega,by rw[KH]⟩,?_,rfl⟩
 simp only;omega
def TI(b:List X2)(a:Bz)(x:X0):Bool:=if a.kind=1 then decide (a.value=x)else if a.kind=2 then decide (EB b a.n=(x,true))else true
theorem ND{w b:List X2}(h:Dz w b=true){s:X2}(hs:s∈w):EB b s.var=(s.value,true):=by unfold Dz at h;have:=(List.all_eq_true.1 h) s hs;simpa using this
theorem aCo{w b:List X2}{x:X2}:Dz (O7 w x) b=true↔EB b x.var=(x.value,true)/\Dz w b=true:=by unfold Dz;simp only[List.all_eq_true,decide_eq_true_eq,EV];constructor;intro h;exact⟨h x (.inl rfl),fun s hs=>h s (.inr hs)⟩;rintro⟨h1,h2⟩ s (rfl|hs);exact h1;exact h2 s hs
theorem QY(b:List X2):∀(al:List Bz) (xs:List X0) (bd f:List X2),al.length=xs.length->(∀a∈al,a.kind≠3)->
 ((∃p,HZ al xs bd f=some p/\Dz p.1 b=true)↔Dz bd b=true/\∀z∈al.zip xs,TI b z.1 z.2=true)
 |[],[],bd,f,_,_=>by simp[HZ]
 |[],x::xs,bd,f,h,_=>by simp at h
 |a::al,[],bd,f,h,_=>by simp at h
 |a::al,x::xs,bd,f,hl,hk=>by
  have hl':al.length=xs.length:=by simpa using hl
  have hk':∀a∈al,a.kind≠3:=fun y hy=>hk y (List.mem_cons_of_mem _ hy);have h3:=hk a (by simp);have ih:=fun bd f=>QY b al xs bd f hl' hk';rw[HZ,List.zip_cons_cons];simp only[List.forall_mem_cons];unfold TI;by_cases k1:a.kind=1;rw[if_pos k1,if_pos k1];by_cases hv:a.value=x;rw[if_pos hv,ih];simp[hv,TI];rw[if_neg hv];simp[hv];rw[if_neg k1,if_neg k1];by_cases k2:a.kind=2;rw[if_pos k2,if_pos k2];unfold My;by_cases hg:(EB bd a.n).2=true;simp only[hg,if_true];have hge:EB bd a.n=((EB bd a.n).1,true):=by rw[<-hg]
  by_cases hv:(EB bd a.n).1=x;simp only[hv,if_true];rw[ih];constructor;rintro⟨u,z⟩;have:=ND u (FR hge);simp only[hv]at this;exact⟨u,by simp[this],z⟩;rintro⟨u,_,z⟩;exact⟨u,z⟩;simp only[hv,if_false];constructor;rintro⟨p,hp,_⟩;cases hp;rintro⟨u,z,_⟩;have:=ND u (FR hge);simp only[decide_eq_true_eq]at z;rw[z]at this;exact absurd (by simpa using this.symm) hv;simp only[hg,if_false,Bool.false_eq_true];rw[ih,aCo];simp only[decide_eq_true_eq];constructor;rintro⟨⟨h1,h2⟩,z⟩;exact⟨h2,h1,z⟩;rintro⟨h2,h1,z⟩;exact⟨⟨h1,h2⟩,z⟩;rw[if_neg k2,if_neg h3,if_neg k2,ih];simp[TI]
def O5(q:AD)(b:List X2)(d:Nat)(args:List X0)(i:Nat):Bool:=match q.symbols[i]? with
 |some s=>decide (s.event=(d:Int))&&(s.args.zip args).all fun z=>TI b z.1 z.2
 |none=>false
def mkM(q:AD)(b:List X2)(d:Nat)(args:List X0):Nat:=EI q.symbols.length (O5 q b d args)
theorem TB{q:AD}(hR:Ao q)(hS:DE q){s:X5}(hs:s∈q.symbols):∀a∈s.args,a.kind≠3:=fun a ha h=>by have:=((hR.symbols s hs).args a ha).three h;rw[hS.frees]at this;simp at this;omega
theorem aAr{q:AD}(hR:Ao q){i j:Nat}{d d':Xl}(h1:q.decls[i]? =some d)(h2:q.decls[j]? =some d')(hn:d.name=d'.name):i=j:=by have a1:=hR.decls i d h1;have a2:=hR.decls j d' h2;rw[hn,a2]at a1;exact(Option.some.inj a1).symm
theorem aA0{q:AD}(hR:Ao q)(hS:DE q)(b:List X2){e:Xd}{d i:Nat}{dd:Xl}(hd:q.decls[d]? =some dd)(hn:e.name=dd.name)(hl:e.args.length=dd.types.length):
 (∃h,JO q i e=some h/\Dz h.bind b=true)↔O5 q b d e.args i=true:=by
 unfold JO O5
 cases hs:q.symbols[i]? with
 |none=>simp
 |some s=>
  have hsm:=List.mem_of_getElem? hs
  obtain⟨d',hd',hlen⟩:=(hR.symbols s hsm).decl
  have h0:=(hR.symbols s hsm).event
  simp only[hd',ba,decide_eq_true_eq]
  by_cases he:s.event=(d:Int)
  have:s.event.toNat=d:=by omega
  rw[this,hd]at hd'
  cases hd'
  rw[if_pos ⟨hn.symm,by omega⟩]
  have:=QY b s.args e.args [] [] (by omega) (TB hR hS hsm)
  rw[List.all_eq_true]
  constructor
  rintro⟨h,hh,hu⟩
  obtain⟨p,hp,rfl⟩:=om.1 hh
  exact⟨he,(this.1 ⟨p,hp,hu⟩).2⟩
  rintro⟨_,hz⟩
  obtain⟨p,hp,hu⟩:=this.2 ⟨by simp[Dz],hz⟩
  exact⟨_,by rw[hp];rfl,hu⟩
  constructor
  rintro⟨h,hh,_⟩
  split at hh
  rename_i hc
  have:=aAr hR hd' hd (by rw[hc.1,hn])
  omega
  cases hh
  rintro⟨h,_⟩;exact absurd h he
theorem aQ7{q:AD}(hF:EG q)(hR:Ao q)(hS:DE q)(b:List X2){e:Xd}{d:Nat}{dd:Xl}(hd:q.decls[d]? =some dd)(hn:e.name=dd.name)(hl:e.args.length=dd.types.length):
 Z8 (((List.range q.symbols.length).filterMap fun i=>JO q i e).filter fun h=>Dz h.bind b)=some ((mkM q b d e.args:Nat):Int):=by
 obtain⟨M,hM,_,hb⟩:=aOh hF.symbols (Sv hF hR hS e b)
 rw[hM]
 congr 2
 apply QM
 intro k
 rw[hb]
 unfold mkM
 rw[E2]
 simp only[List.mem_filter,List.mem_filterMap,List.mem_range]
 constructor
 rintro⟨h,⟨⟨i,hi,hh⟩,hu⟩,hk⟩
 have hik:i=k:=by have:=(Mf hh).1;omega
 subst hik
 exact⟨hi,(aA0 hR hS b hd hn hl).1 ⟨h,hh,hu⟩⟩
 rintro⟨hk,hf⟩
 obtain⟨h,hh,hu⟩:=(aA0 hR hS b hd hn hl).2 hf
 exact⟨h,⟨⟨k,hk,hh⟩,hu⟩,(Mf hh).1⟩
theorem aT3{q:AD}(hF:EG q)(d:Nat):Y5 q (d:Int)=some ((mkM q [] d []:Nat):Int):=by
 have hsy:=hF.symbols;have h:=Mo (step:=fun s:Int×Int=>G3 (d:Int) q.symbols (q.symbols.length:Int) s.1 s.2) hsy (O5 q [] d []) (fun i w hi hw=>by
  obtain⟨x,hx,_⟩:=Ab hi;have hwi:IntKind.wrap .u64 (i:Int)=(i:Int):=As (by omega);simp only[G3,ltD hx,AJ,aH9,AP hx,aIb,hwi,Av (show(0:Int)<=(i:Int) by omega),A9 hx (show q.symbols.length<=9223372036854775807 by omega)];unfold O5;rw[hx];by_cases he:x.event=(d:Int);simp only[he,decide_true,AJ,AB,List.zip_nil_right,List.all_nil,Bool.and_self,if_true];rw[aMs (by omega),orU (by omega) (Nat.lt_of_lt_of_le (Nat.pow_lt_pow_right (by decide) (show i<12 by omega)) (by decide))];simp only[he,decide_false,AI,AB,Bool.false_and,Bool.false_eq_true,if_false]) (fun w=>by
  simp only[G3,ltI,AI])
 unfold Y5 WM;rw[h,AB];rfl
theorem aR1(b:List X2)(v:Int)(hb:b.length<=1000):Yg b v=some (EB b v):=by
 have hl:=Ei (step:=fun s=>G6 v b (b.length:Int) zV s) b (fun _ t=>if t.var=v then some (Sum.inr t.value:Unit⊕X0)else none) (.inl ())
  (fun i x hx=>by simp only[G6,ltD hx,AJ,AP hx,A9 hx (show b.length<=9223372036854775807 by omega)];by_cases h:x.var=v<;>simp[h,AE]) (by simp only[G6,ltI,AI])
 unfold Yg Wv;have hz:(X0.mk 0 0 ([]:List UInt8) false)=zV:=rfl;rw[hz,hl,AB,ED (fun t:X2=>if t.var=v then some (Sum.inr t.value:Unit⊕X0)else none)]
 unfold EB;have:(b.findSome? fun t=>if t.var=v then some (Sum.inr t.value:Unit⊕X0)else none)=(b.findSome? fun s=>if s.var=v then some s.value else none).map Sum.inr:=by
  clear hl hb;induction b with
  |nil=>rfl
  |cons x b ih=>
   rw[List.findSome?_cons,List.findSome?_cons]
   by_cases h:x.var=v
   simp[h]
   simp only[h,if_false];exact ih
 rw[this];cases(b.findSome? fun s=>if s.var=v then some s.value else none)<;>rfl
theorem aQx(p:Xq)(a:Bz)(x:X0)(hb:p.b.length<=1000):Zq p a x=some (TI p.b a x):=by
 unfold Zq TI;rw[aR1 _ _ hb];by_cases k1:a.kind=1;simp[k1,AE,X0.eqb_dec];by_cases k2:a.kind=2;simp only[k2,decide_true,AJ,if_true,show¬(2:Int)=1 by decide,decide_false,AI,if_false,AB];cases hg:EB p.b a.n with
 |mk v f=>cases f with
  |true=>simp[AE,X0.eqb_dec]
  |false=>simp[AE]
 simp[k1,k2,AE]
def Hd(q:AD)(b:List X2)(d k:Nat)(v:X0)(i:Nat):Bool:=match q.symbols[i]? with
 |some s=>decide (s.event=(d:Int))&&(match s.args[k]? with
  |some a=>TI b a v
  |none=>false)
 |none=>false
theorem aRm{q:AD}(hF:EG q)(hR:Ao q){b:List X2}(hb:b.length<=1000){d k:Nat}{dd:Xl}(hd:q.decls[d]? =some dd)(hk:k<dd.types.length)(v:X0):
 Xu (Xq.mk q b (d:Int) (k:Int)) v=some ((EI q.symbols.length (Hd q b d k v):Nat):Int):=by
 have hsy:=hF.symbols
 have h:=Mo (step:=fun s:Int×Int=>Fy q.symbols (q.symbols.length:Int) (Xq.mk q b (d:Int) (k:Int)) v s.1 s.2) hsy (Hd q b d k v) (fun i w hi hw=>by
  obtain⟨x,hx,_⟩:=Ab hi;have hwi:IntKind.wrap .u64 (i:Int)=(i:Int):=As (by omega);have hxm:=List.mem_of_getElem? hx;simp only[Fy,ltD hx,AJ,SA,AP hx,ON,hwi,Av (show(0:Int)<=(i:Int) by omega),A9 hx (show q.symbols.length<=9223372036854775807 by omega)];unfold Hd;rw[hx];by_cases he:x.event=(d:Int);obtain⟨d',hd',hlen⟩:=(hR.symbols x hxm).decl;have:x.event.toNat=d:=by omega
  rw[this,hd]at hd';cases hd';obtain⟨a,ha,_⟩:=Ab (l:=x.args) (i:=k) (by omega);simp only[he,decide_true,AJ,AP ha,ha,Bool.true_and];rw[aQx (Xq.mk q b (d:Int) (k:Int)) a v hb,AB];cases TI b a v with
  |true=>
   simp only[AJ,if_true,AB]
   rw[aMs (by omega),orU (by omega) (Nat.lt_of_lt_of_le (Nat.pow_lt_pow_right (by decide) (show i<12 by omega)) (by decide))]
  |false=>simp only[AI,Bool.false_eq_true,if_false,AB]
  simp only[he,decide_false,AI,AB,Bool.false_and,Bool.false_eq_true,if_false]) (fun w=>by
  simp only[Fy,ltI,AI])
 unfold Xu Vd
 simp only
 rw[h,AB]
theorem aCs{α β:Type}:∀{al:List α} {xs:List β} {a:α} (v:β),al[xs.length]? =some a->al.zip (xs++[v])=al.zip xs++[(a,v)]
 |a::al,[],_,v,h=>by simp at h;subst h;simp
 |[],xs,_,v,h=>by simp at h
 |a::al,x::xs,a',v,h=>by
  simp only[List.length_cons,List.getElem?_cons_succ]at h;simp[aCs v h]
theorem aBj{q:AD}(hR:Ao q){b:List X2}{d:Nat}{dd:Xl}(hd:q.decls[d]? =some dd){args:List X0}(hk:args.length<dd.types.length)(v:X0):
 mkM q b d args&&&EI q.symbols.length (Hd q b d args.length v)=mkM q b d (args++[v]):=by
 apply QM
 intro k
 unfold mkM
 rw[Nat.testBit_and,ba,E2,E2,E2]
 unfold O5 Hd
 cases hs:q.symbols[k]? with
 |none=>simp
 |some s=>
  have hxm:=List.mem_of_getElem? hs
  simp only[ba,decide_eq_true_eq]
  by_cases he:s.event=(d:Int)
  obtain⟨d',hd',hlen⟩:=(hR.symbols s hxm).decl
  have:s.event.toNat=d:=by omega
  rw[this,hd]at hd';cases hd'
  obtain⟨a,ha,_⟩:=Ab (l:=s.args) (i:=args.length) (by omega)
  rw[aCs v ha,List.all_append,ha]
  simp[he]
  constructor
  rintro⟨⟨h1,h2⟩,_,h3⟩;exact⟨h1,h2,h3⟩
  rintro⟨h1,h2,h3⟩;exact⟨⟨h1,h2⟩,h1,h3⟩
  simp[he]
theorem aN0(q:AD)(b:List X2)(d:Nat):mkM q b d []=mkM q [] d []:=by unfold mkM;congr 1;funext i;unfold O5;cases q.symbols[i]? <;>simp
theorem aR6{k:Int}(hk:k=1\/k=2){l w:List X0}(hl:l.length<=800)(hw:SW w)(hwl:w.length<=900)(hm:∀v,v.kind=k->(v∈w↔v∈l)):∃v,Xt k l=some (v,true)/\Yb k w=some v/\v∉l/\v.kind=k/\vR v=true:=by
 have hex:∃i,0<=i/\i<0+(l.length+1)/\Gb k i∉l:=by apply Classical.byContradiction;intro hn;have:=aN3 (Gb k) (fun i j h=>aMg h) (l.length+1) l (fun i hi=>Classical.byContradiction fun h=>hn ⟨i,by omega,by omega,h⟩);omega
 obtain⟨i,_,hi,hni,a4,a5⟩:=RG hk (by omega) hw hwl hm (X0.mk 0 0 [] false) (l.length+1) 0 (by omega) hex;have h0:Gb k 0=X0.mk k 0 [] false:=by unfold Gb;split<;>rfl
 rw[h0]at a4 a5;refine⟨Gb k i,?_,?_,hni,Ms k i,aBn hk (by omega)⟩;unfold Xt;rcases hk with rfl|rfl
 simp only[decide_true,Bool.not_true,AI,a4,AB];simp only[show¬(2:Int)=1 by decide,decide_false,decide_true,Bool.not_false,Bool.not_true,AJ,AI,a4,AB];unfold Yb;rw[a5,AB]
theorem JC{q:AD}{k:Int}{v:X0}:v∈Df q k↔(k=3/\(v=⟨3,0,[],false⟩\/v=⟨3,0,[],true⟩))\/∃s∈q.symbols,∃a∈s.args,a.kind=1/\a.value.kind=k/\v=a.value:=by
 have h1:∀(l:List Bz) (w:List X0),v∈l.foldl (KF k) w↔v∈w\/∃a∈l,a.kind=1/\a.value.kind=k/\v=a.value:=by
  intro l;induction l with
  |nil=>intro w;simp
  |cons a l ih=>
   intro w
   rw[List.foldl_cons,ih]
   have:v∈KF k w a↔v∈w\/(a.kind=1/\a.value.kind=k/\v=a.value):=by unfold KF;split;rename_i h;rw[FW];simp[h.1,h.2,or_comm];rename_i h;constructor;exact .inl;rintro(h2|⟨a1,a2,_⟩);exact h2;exact absurd ⟨a1,a2⟩ h
   rw[this]
   constructor
   rintro((h|h)|⟨b,hb,h⟩)
   exact .inl h
   exact .inr ⟨a,by simp,h⟩
   exact .inr ⟨b,List.mem_cons_of_mem _ hb,h⟩
   rintro(h|⟨b,hb,h⟩)
   exact .inl (.inl h)
   rcases mc.1 hb with rfl|hb
   exact .inl (.inr h)
   exact .inr ⟨b,hb,h⟩
 have h2:∀(l:List X5) (w:List X0),v∈l.foldl (fun w s=>s.args.foldl (KF k) w) w↔v∈w\/∃s∈l,∃a∈s.args,a.kind=1/\a.value.kind=k/\v=a.value:=by
  intro l;induction l with
  |nil=>intro w;simp
  |cons a l ih=>
   intro w
   rw[List.foldl_cons,ih,h1]
   constructor
   rintro((h|h)|⟨b,hb,h⟩)
   exact .inl h
   exact .inr ⟨a,by simp,h⟩
   exact .inr ⟨b,List.mem_cons_of_mem _ hb,h⟩
   rintro(h|⟨b,hb,h⟩)
   exact .inl (.inl h)
   rcases mc.1 hb with rfl|hb
   exact .inl (.inr h)
   exact .inr ⟨b,hb,h⟩
 unfold Df;rw[h2];by_cases hk:k=3;simp[hk];simp[hk]
theorem Sp{q:AD}{k:Int}{v:X0}(h:v∈Df q k):v.kind=k:=by
 rcases JC.1 h with⟨rfl,rfl|rfl⟩|⟨s,_,a,_,_,hk,rfl⟩
 rfl;rfl;exact hk
theorem TP{l:List X0}(hl:l.length<=1000):Xj [l,[]]=some l:=by
 have h1:OA [l,[]] [l,[]] 2 0 0=some (l.length:Int):=by
  rw[Kt];unfold Fu U4 U5;rw[show decide ((0:Int)<2)=true from rfl,AJ,aA1,MC (a:=0) (b:=(l.length:Int)) (by omega) (by omega),decide_eq_false (by omega),AI,AB,AB,BF];simp only;rw[Kt];unfold Fu U4 U5;have e1:AA .add .i64 0 1=1:=MC (a:=0) (b:=1) (by omega) (by omega);have e2:AA .add .i64 1 1=2:=MC (a:=1) (b:=1) (by omega) (by omega);rw[e1,show decide ((1:Int)<2)=true from rfl,AJ,aNv];have e3:AA .add .i64 (0+(l.length:Int)) (([]:List X0).length:Int)=(l.length:Int):=by rw[MC (by simp<;>omega) (by simp<;>omega)];simp
  rw[e3,decide_eq_false (by omega),AI,AB,AB,BF,e2];simp only;rw[Kt];unfold Fu;rw[show decide ((2:Int)<2)=false from rfl,AI,Ae]
 have h2:OC [l,[]] 2 0 []=some l:=by have e1:AA .add .i64 0 1=1:=MC (a:=0) (b:=1) (by omega) (by omega);have e2:AA .add .i64 1 1=2:=MC (a:=1) (b:=1) (by omega) (by omega);rw[Ku];unfold Fv;rw[show decide ((0:Int)<2)=true from rfl,AJ,aA1,Av (B2 (by simp;omega) (by decide)),BF,e1];simp only[List.nil_append];rw[Ku];unfold Fv;rw[show decide ((1:Int)<2)=true from rfl,AJ,aNv,Av (B2 (by simp;omega) (by decide)),BF,e2];simp only[List.append_nil];rw[Ku];unfold Fv;rw[show decide ((2:Int)<2)=false from rfl,AI,Ae]
 unfold Xj;have hln:(([l,[]]:List (List X0)).length:Int)=2:=rfl;rw[hln,h1,AB];have hg:Ql (l.length:Int)=some []:=by unfold Ql aLw;rw[if_pos ⟨by omega,by simp;omega,by omega⟩]
 rw[hg,AB,h2,AB]
def Lt(t:Int)(w:List X0)(s:X2):List X0:=if s.value.kind=t/\s.value∉w then w++[s.value]else w
def Jz(t:Int)(w:List X0)(s:X2):List X0:=if s.value.kind=t then NK w s.value else w
theorem QP(t:Int)(v:X0):∀(b:List X2) (w:List X0),v∈b.foldl (Lt t) w↔v∈w\/∃s∈b,s.value=v/\v.kind=t
 |[],w=>by simp
 |s::b,w=>by
  rw[List.foldl_cons,QP t v b];have:v∈Lt t w s↔v∈w\/(s.value=v/\v.kind=t):=by unfold Lt;split;rename_i h;simp only[ma,List.mem_singleton];constructor;rintro(h2|rfl);exact .inl h2;exact .inr ⟨rfl,h.1⟩;rintro(h2|⟨rfl,_⟩);exact .inl h2;exact .inr rfl;rename_i h;constructor;exact .inl;rintro(h2|⟨rfl,h3⟩);exact h2;exact Classical.byContradiction fun hn=>h ⟨h3,hn⟩
  rw[this];simp only[mc,exists_eq_or_imp];rw[or_assoc]
theorem FJ(t:Int)(v:X0):∀(b:List X2) (w:List X0),v∈b.foldl (Jz t) w↔v∈w\/∃s∈b,s.value=v/\v.kind=t
 |[],w=>by simp
 |s::b,w=>by
  rw[List.foldl_cons,FJ t v b];have:v∈Jz t w s↔v∈w\/(s.value=v/\v.kind=t):=by unfold Jz;split;rename_i h;rw[FW];constructor;rintro(rfl|h2);exact .inr ⟨rfl,h⟩;exact .inl h2;rintro(h2|⟨rfl,_⟩);exact .inr h2;exact .inl rfl;rename_i h;constructor;exact .inl;rintro(h2|⟨rfl,h3⟩);exact h2;exact absurd h3 h
  rw[this];simp only[mc,exists_eq_or_imp];rw[or_assoc]
theorem aAi(t:Int)(w:List X0)(s:X2):(Lt t w s).length<=w.length+1:=by unfold Lt;split<;>simp
theorem QO(t:Int):∀(b:List X2) (w:List X0),(b.foldl (Lt t) w).length<=w.length+b.length
 |[],w=>by simp
 |s::b,w=>by
  rw[List.foldl_cons];have h1:=QO t b (Lt t w s);have h2:(Lt t w s).length<=w.length+1:=by unfold Lt;split<;>simp
  simp only[List.length_cons];omega
theorem QQ{t:Int}:∀{b:List X2} {w:List X0},(∀s∈b,vR s.value=true)->SW w->SW (b.foldl (Jz t) w)/\(b.foldl (Jz t) w).length<=w.length+b.length
 |[],w,_,hw=>⟨hw,by simp⟩
 |s::b,w,hb,hw=>by
  rw[List.foldl_cons];have h2:SW (Jz t w s)/\(Jz t w s).length<=w.length+1:=by unfold Jz;split;have:=L3 hw (hb s (by simp));exact⟨this.1,by rw[this.2];split<;>omega⟩;exact⟨hw,by omega⟩
  have h1:=QQ (t:=t) (fun s hs=>hb s (List.mem_cons_of_mem _ hs)) h2.1;refine⟨h1.1,?_⟩;simp only[List.length_cons];omega
theorem vR3{v:X0}(hv:vR v=true)(hk:v.kind=3):v=⟨3,0,[],false⟩\/v=⟨3,0,[],true⟩:=by
 obtain⟨k,i,s,b⟩:=v;simp only at hk;subst hk;rcases Hm hv with h|h|h
 simp at h;simp at h;obtain⟨_,h2,h3⟩:=h;simp only at h2 h3;subst h2;subst h3;cases b<;>simp
structure aVi(q:AD)(b:List X2)(t:Int)(jl rl:List X0):Prop where
 same:∀v,v∈jl↔v∈rl
 jlen:jl.length<=300
 rlen:rl.length<=300
 kind:∀v∈rl,v.kind=t/\vR v=true
 whole:∀v,vR v=true->v.kind=t->∃v'∈rl,∀s∈q.symbols,∀a∈s.args,TI b a v'=TI b a v
theorem aCr{q:AD}(hF:EG q)(hR:Ao q){b:List X2}(hB:BR b){d k:Nat}{dd:Xl}{t:Int}(hd:q.decls[d]? =some dd)(ht:dd.types[k]? =some t)(h13:1<=t/\t<=3):
 ∃jl rl,Xo (Xq.mk q b (d:Int) (k:Int)) []=some jl/\Yj q t b []=some rl/\aVi q b t jl rl:=by
 have hbl:=TO hB
 have hbv:∀s∈b,vR s.value=true:=fun s hs=>(hB.2 s hs).2.2
 obtain⟨hcw,hcl⟩:=cons_inv hF hR t
 have hjl:=QO t b (Df q t)
 have hG:=QQ (t:=t) hbv hcw
 have hmem:∀v,v∈b.foldl (Jz t) (Df q t)↔v∈b.foldl (Lt t) (Df q t):=fun v=>by rw[FJ,QP]
 have hkind:∀v∈b.foldl (Jz t) (Df q t),v.kind=t:=fun v hv=>by
  rcases(FJ t v b _).1 hv with h|⟨s,_,_,h⟩
  exact Sp h;exact h
 --the program's loop over the binding
 have e1:R3 [] t b (b.length:Int) 0 (Df q t)=some (b.foldl (Lt t) (Df q t)):=by unfold R3;refine Ej (step:=fun s:Int×List X0=>Fw [] t b (b.length:Int) s.1 s.2) b (Lt t) (fun w=>w) (fun i w=>w.length<=200+i) (fun i x w hx hI=>?_) (fun w _=>by simp only[Fw,ltI,AI]) _ (by omega);have hlt:=(List.getElem?_eq_some_iff.1 hx).1;refine⟨?_,by have:=aAi t w x;omega⟩;simp only[Fw,ltD hx,AJ,R2,OJ,AP hx,A9 hx (show b.length<=9223372036854775807 by omega)];unfold Lt;by_cases h1:x.value.kind=t;rw[D0,if_pos h1,Hn _ _ (by omega),AB];by_cases h2:x.value∈w;rw[decide_eq_true h2,if_neg (fun h=>h.2 h2)];rfl;rw[decide_eq_false h2,if_pos ⟨h1,h2⟩,Bool.not_false,AJ,Av (B2 (by simp;omega) (by decide))];rfl;rw[D0,if_neg h1,if_neg (fun h=>h1 h.1)];rfl
 have e2:aJn t b [] (Df q t) 0=some (b.foldl (Jz t) (Df q t)):=by unfold aJn;refine HJ (step:=fun s:List X0×Int=>Ik t b [] s.1 s.2) b (Jz t) (fun w=>w) (fun i w=>SW w/\w.length<=200+i) (fun i x w hx hI=>?_) (fun w _=>by simp only[Ik,ltI,AI]) _ ⟨hcw,by omega⟩;have hlt:=(List.getElem?_eq_some_iff.1 hx).1;have hxv:=hbv x (List.mem_of_getElem? hx);have hput:=L3 hI.1 hxv;refine⟨?_,?_⟩;simp only[Ik,ltD hx,AJ,aJj,aJl,AP hx,A9 hx (show b.length<=9223372036854775807 by omega)];unfold Jz;by_cases h1:x.value.kind=t;rw[D0,if_pos h1,if_pos h1,aJz hI.1 hxv (by have:=hI.2;omega)];rfl;rw[D0,if_neg h1,if_neg h1];rfl;unfold Jz;split;refine⟨hput.1,?_⟩;rw[hput.2];have:=hI.2;split<;>omega;exact⟨hI.1,by have:=hI.2;omega⟩
 have eJ:Xo (Xq.mk q b (d:Int) (k:Int)) []=(AG (Xt t (b.foldl (Lt t) (Df q t))) fun r11=>AG (OK r11.2 (b.foldl (Lt t) (Df q t)) r11.1) fun o12=>some o12):=by unfold Xo;simp only;rw[AP hd,AP ht,aVr hF hR,AB,e1,AB,TP (by omega),AB]
 by_cases h3:t=3
 subst h3
 have hN:Xt 3 (b.foldl (Lt 3) (Df q 3))=some (X0.mk 0 0 [] false,false):=by unfold Xt;rfl
 refine⟨_,_,by rw[eJ,hN,AB];unfold OK;rfl,?_,fun v=>(hmem v).symm,by omega,by omega,fun v hv=>⟨hkind v hv,hG.1.2 v hv⟩,fun v hv hk=>⟨v,?_,fun _ _ _ _=>rfl⟩⟩
 unfold Yj
 rw[aSr hF hR,AB,e2,AB];rfl
 rw[FJ]
 exact .inl (JC.2 (.inl ⟨rfl,vR3 hv hk⟩))
 have h12:t=1\/t=2:=by omega
 obtain⟨nv,n1,n2,n3,n4,n5⟩:=aR6 h12 (l:=b.foldl (Lt t) (Df q t)) (w:=b.foldl (Jz t) (Df q t)) (by omega) hG.1 (by omega) (fun v _=>hmem v)
 have hput:=L3 hG.1 n5
 refine⟨b.foldl (Lt t) (Df q t)++[nv],NK (b.foldl (Jz t) (Df q t)) nv,?_,?_,fun v=>?_,by simp;omega,by rw[hput.2];split<;>omega,fun v hv=>?_,fun v hv hk=>?_⟩
 rw[eJ,n1,AB]
 unfold OK
 simp only
 rw[AJ,Av (B2 (by simp;omega) (by decide)),AB]
 unfold Yj
 have hof:Yp [] t=some []:=by unfold Yp;rw[aJ4];unfold K1;rfl
 have hun:Z6 (b.foldl (Jz t) (Df q t)) []=some (b.foldl (Jz t) (Df q t)):=by unfold Z6;rw[aKu];unfold K3;rfl
 rw[aSr hF hR,AB,e2,AB,decide_eq_false h3,AI,hof,AB,hun,AB,n2,AB,aJz hG.1 n5 (by omega),AB]
 rw[FW,hmem,ma,List.mem_singleton,or_comm]
 rcases FW.1 hv with rfl|h
 exact⟨n4,n5⟩
 exact⟨hkind v h,hG.1.2 v h⟩
 by_cases hin:v∈b.foldl (Jz t) (Df q t)
 exact⟨v,FW.2 (.inr hin),fun _ _ _ _=>rfl⟩
 refine⟨nv,FW.2 (.inl rfl),fun s hs a ha=>?_⟩
 have hnv:nv∉b.foldl (Jz t) (Df q t):=fun h=>n3 ((hmem nv).1 h)
 have key:∀x:X0,(x.kind=t->x∈b.foldl (Jz t) (Df q t))->x≠v/\x≠nv:=fun x hx=>by refine⟨fun e=>hin (e▸hx (by rw[e];exact hk)),fun e=>hnv (e▸hx (by rw[e];exact n4))⟩
 unfold TI
 by_cases k1:a.kind=1
 have:=key a.value (fun h=>(FJ t _ b _).2 (.inl (JC.2 (.inr ⟨s,hs,a,ha,k1,h,rfl⟩))))
 rw[if_pos k1,if_pos k1,decide_eq_false this.1,decide_eq_false this.2]
 rw[if_neg k1,if_neg k1]
 by_cases k2:a.kind=2
 rw[if_pos k2,if_pos k2]
 cases hg:EB b a.n with
 |mk x f=>
  cases f with
  |false=>simp
  |true=>
   have:=key x (fun h=>(FJ t _ b _).2 (.inr ⟨_,FR hg,rfl,h⟩))
   rw[decide_eq_false (fun e=>this.2 (by simpa using e)),decide_eq_false (fun e=>this.1 (by simpa using e))]
 rw[if_neg k2,if_neg k2]
structure KS(S:List (Int×Bool))(P:Nat->Prop):Prop where
 nd:(S.map (·.1)).Nodup
 tr:∀x∈S,x.2=true
 is:∀x:Int,x∈S.map (·.1)↔ ∃n:Nat,x=(n:Int)/\P n
theorem aBm{α β:Type}(f:α->β):∀{l:List α},(l.map f).Nodup->l.Nodup
 |[],_=>List.nodup_nil
 |a::l,h=>by
  rw[List.map_cons,List.nodup_cons]at h;exact List.nodup_cons.2 ⟨fun hm=>h.1 (mm.2 ⟨a,hm,rfl⟩),aBm f h.2⟩
theorem KS.perm{S S':List (Int×Bool)}{P:Nat->Prop}(h:KS S P)(h':KS S' P):S.Perm S':=by
 rw[List.perm_ext_iff_of_nodup (aBm _ h.nd) (aBm _ h'.nd)];have key:∀{A B:List (Int×Bool)},KS A P->KS B P->∀a∈A,a∈B:=fun{A B} hA hB a ha=>by obtain⟨b,hb,e⟩:=mm.1 ((hB.is a.1).2 ((hA.is a.1).1 (mm.2 ⟨a,ha,rfl⟩)));have:b=a:=Prod.ext e (by rw[hB.tr b hb,hA.tr a ha]);exact this▸hb
 exact fun a=>⟨key h h' a,key h' h a⟩
theorem KS.of_perm{S S':List (Int×Bool)}{P:Nat->Prop}(h:KS S P)(hp:S'.Perm S):KS S' P:=
 ⟨(hp.map _).nodup_iff.2 h.nd,fun x hx=>h.tr x (hp.mem_iff.1 hx),fun x=>by rw[(hp.map _).mem_iff,h.is]⟩
theorem KS.can{S S':List (Int×Bool)}{P:Nat->Prop}(h:KS S P)(h':KS S' P):aL6 S=aL6 S':=by have h1:=h.of_perm (GL S);have h2:=h'.of_perm (GL S');refine List.Perm.eq_of_pairwise (le:=fun a b:Int×Bool=>a.1<=b.1) (fun a b ha hb e1 e2=>?_) (JS S) (JS S') (h1.perm h2);exact Prod.ext (by omega) (by rw[h1.tr a ha,h2.tr b hb])
theorem KS.congr{S:List (Int×Bool)}{P Q:Nat->Prop}(h:KS S P)(hq:∀n,P n↔Q n):KS S Q:=⟨h.nd,h.tr,fun x=>by rw[h.is];simp only[hq]⟩
theorem KS.nil:KS [] (fun _=>False):=⟨List.nodup_nil,(fun x hx=>by cases hx),fun x=>by simp⟩
theorem Jf(k:Int)(v:Bool)(x:Int):∀S:List (Int×Bool),x∈(GC k v S).map (·.1)↔x=k\/x∈S.map (·.1)
 |[]=>by simp[GC]
 |y::S=>by
  rw[GC];split;rename_i h;simp[h];rename_i h;simp only[List.map_cons,mc,Jf k v x S];constructor;rintro(h|h|h);exact .inr (.inl h);exact .inl h;exact .inr (.inr h);rintro(h|h|h);exact .inr (.inl h);exact .inl h;exact .inr (.inr h)
theorem aBw(k:Int)(v:Bool):∀{S:List (Int×Bool)},(S.map (·.1)).Nodup->((GC k v S).map (·.1)).Nodup
 |[],_=>by simp[GC]
 |y::S,h=>by
  rw[List.map_cons,List.nodup_cons]at h;rw[GC];split;rename_i e;rw[List.map_cons,List.nodup_cons];exact⟨by rw[<-e];exact h.1,h.2⟩;rename_i e;rw[List.map_cons,List.nodup_cons];refine⟨fun hm=>?_,aBw k v h.2⟩;rcases(Jf k v y.1 S).1 hm with h2|h2
  exact e h2;exact h.1 h2
theorem aBy(k:Int):∀{S:List (Int×Bool)},(∀x∈S,x.2=true)->∀x∈GC k true S,x.2=true
 |[],_,x,hx=>by simp[GC]at hx;rw[hx]
 |y::S,h,x,hx=>by
  rw[GC]at hx;split at hx;rcases mc.1 hx with rfl|hx
  rfl;exact h x (List.mem_cons_of_mem _ hx);rcases mc.1 hx with rfl|hx
  exact h _ (by simp);exact aBy k (fun z hz=>h z (List.mem_cons_of_mem _ hz)) x hx
theorem KS.put{S:List (Int×Bool)}{P:Nat->Prop}(h:KS S P)(m:Nat):KS (GC (m:Int) true S) (fun n=>P n\/n=m):=by refine⟨aBw _ _ h.nd,aBy _ h.tr,fun x=>?_⟩;rw[Jf,h.is];constructor;rintro(rfl|⟨n,rfl,hn⟩);exact⟨m,rfl,.inr rfl⟩;exact⟨n,rfl,.inl hn⟩;rintro⟨n,rfl,hn|rfl⟩;exact .inr ⟨n,rfl,hn⟩;exact .inl rfl
theorem MT(k x:Int):∀{S:List (Int×Bool)},(S.map (·.1)).Nodup->(x∈(NI k S).map (·.1)↔x≠k/\x∈S.map (·.1))
 |[],_=>by simp[NI]
 |y::S,h=>by
  rw[List.map_cons,List.nodup_cons]at h;rw[NI];split;rename_i e;rw[List.map_cons,mc];constructor;intro hx;exact⟨fun e2=>h.1 (by rw[e,<-e2];exact hx),.inr hx⟩;rintro⟨h1,h2|h2⟩;exact absurd (h2.trans e) h1;exact h2;rename_i e;rw[List.map_cons,mc,List.map_cons,mc,MT k x h.2];constructor;rintro(h1|⟨h1,h2⟩);exact⟨fun e2=>e (h1.symm.trans e2),.inl h1⟩;exact⟨h1,.inr h2⟩;rintro⟨h1,h2|h2⟩;exact .inl h2;exact .inr ⟨h1,h2⟩
theorem LP(k:Int):∀(S:List (Int×Bool)),(NI k S).Sublist S
 |[]=>List.Sublist.refl _
 |y::S=>by
  rw[NI];split;exact List.sublist_cons_self _ _;exact(LP k S).cons_cons y
theorem KS.del{S:List (Int×Bool)}{P:Nat->Prop}(h:KS S P):KS (NI 0 S) (fun n=>P n/\n≠0):=by refine⟨h.nd.sublist ((LP 0 S).map _),fun x hx=>h.tr x ((LP 0 S).subset hx),fun x=>?_⟩;rw[MT 0 x h.nd,h.is];constructor;rintro⟨h1,n,rfl,hn⟩;exact⟨n,rfl,hn,by omega⟩;rintro⟨n,rfl,hn,h0⟩;exact⟨by omega,n,rfl,hn⟩
theorem Mb{α σ:Type}(f:σ->α->σ):∀(l:List α) (s:σ),D6 (fun x s=>some (f s x)) s l=some (l.foldl f s)
 |[],_=>rfl
 |x::l,s=>by rw[D6,AB,List.foldl_cons];exact Mb f l _
theorem KS.fold{P:Nat->Prop}(f:Nat->Nat):∀{p:List (Int×Bool)} {S:List (Int×Bool)} {Q:Nat->Prop},(∀x∈p,∃n:Nat,x.1=(n:Int)/\P n)->KS S Q->
 KS (p.foldl (fun s x=>GC ((f x.1.toNat:Nat):Int) true s) S) (fun n=>Q n\/∃x∈p,n=f x.1.toNat)
 |[],S,Q,_,h=>h.congr fun n=>by simp
 |x::p,S,Q,hp,h=>by
  rw[List.foldl_cons];refine(KS.fold f (fun y hy=>hp y (List.mem_cons_of_mem _ hy)) (h.put (f x.1.toNat))).congr fun n=>?_;simp only[mc,exists_eq_or_imp];rw[or_assoc]
theorem MX{S0 S:List (Int×Bool)}{P Q:Nat->Prop}(f:Nat->Nat){c:List (Int×Bool)->List (Int×Bool)}(hc:c=fun s=>aL6 s){step:Int×Bool->List (Int×Bool)->Option (List (Int×Bool))}
 (hs:∀(n:Nat) (v:Bool) (s:List (Int×Bool)),P n->step ((n:Int),v) s=some (GC ((f n:Nat):Int) true s)) (h0:KS S0 P) (h:KS S Q):
 ∃S',Fe c S0 step S=some S'/\KS S' (fun n=>Q n\/∃m,P m/\n=f m):=by
 have run:∀p:List (Int×Bool),p.Perm S0->D6 step S p=some (p.foldl (fun s x=>GC ((f x.1.toNat:Nat):Int) true s) S)/\KS (p.foldl (fun s x=>GC ((f x.1.toNat:Nat):Int) true s) S) (fun n=>Q n\/∃m,P m/\n=f m):=fun p hp=>by
  have hk:=h0.of_perm hp;have hx:∀x∈p,∃n:Nat,x.1=(n:Int)/\P n:=fun x hx=>(hk.is x.1).1 (mm.2 ⟨x,hx,rfl⟩);constructor;rw[<-Mb (fun s x=>GC ((f x.1.toNat:Nat):Int) true s) p S];clear hp hk;revert hx;generalize S=s;revert s;induction p with
  |nil=>intro s _;rfl
  |cons x p ih=>
   intro s hx
   obtain⟨n,e,hn⟩:=hx x (by simp)
   obtain⟨x1,x2⟩:=x
   simp only at e
   subst e
   rw[D6,D6,hs n x2 s hn]
   exact ih _ fun y hy=>hx y (List.mem_cons_of_mem _ hy)
  refine(KS.fold f hx h).congr fun n=>?_;constructor;rintro(h1|⟨x,hxp,rfl⟩);exact .inl h1;obtain⟨m,e,hm⟩:=hx x hxp;exact .inr ⟨m,hm,by rw[e];rfl⟩;rintro(h1|⟨m,hm,rfl⟩);exact .inl h1;obtain⟨x,hxp,e⟩:=mm.1 ((hk.is (m:Int)).2 ⟨m,rfl,hm⟩);exact .inr ⟨x,hxp,by rw[e];rfl⟩
 obtain⟨r0,k0⟩:=run S0 (List.Perm.refl _)
 refine⟨aL6 (S0.foldl (fun s x=>GC ((f x.1.toNat:Nat):Int) true s) S),JG fun p hp=>?_,k0.of_perm (GL _)⟩
 obtain⟨r1,k1⟩:=run p hp
 exact⟨_,r1,by rw[hc];exact k1.can k0⟩
def VS(q:AD)(b:List X2)(t:Int)(v:X0):Prop:=∃rl,Yj q t b []=some rl/\v∈rl
def MS(q:AD)(b:List X2)(d:Nat)(dd:Xl)(k n:Nat):Prop:=∃args:List X0,args.length=k/\(∀(j:Nat) v t,args[j]? =some v->dd.types[j]? =some t->VS q b t v)/\n=mkM q b d args
theorem aOe{q:AD}(hF:EG q){b:List X2}{d:Nat}{dd:Xl}{k n:Nat}(h:MS q b d dd k n):n<4096:=by obtain⟨args,_,_,rfl⟩:=h;have:=hF.symbols;exact Nat.lt_of_lt_of_le (Hi _ _) (show 2^q.symbols.length<=2^12 from Nat.pow_le_pow_right (by decide) this)
theorem aOg{q:AD}{b:List X2}{d:Nat}{dd:Xl}{n:Nat}:MS q b d dd 0 n↔n=mkM q [] d []:=by constructor;rintro⟨args,hl,_,rfl⟩;rw[List.eq_nil_of_length_eq_zero hl,aN0];rintro rfl;exact⟨[],rfl,(fun j v t h=>by simp at h),(aN0 q b d).symm⟩
theorem aOf{q:AD}(hR:Ao q){b:List X2}{d k:Nat}{dd:Xl}{t:Int}(hd:q.decls[d]? =some dd)(ht:dd.types[k]? =some t){n:Nat}:
 MS q b d dd (k+1) n↔ ∃v,VS q b t v/\∃m,MS q b d dd k m/\n=m&&&EI q.symbols.length (Hd q b d k v):=by
 have hk:=(List.getElem?_eq_some_iff.1 ht).1
 constructor
 rintro⟨args,hl,hv,rfl⟩
 obtain⟨v,hvk,_⟩:=Ab (l:=args) (i:=k) (by omega)
 have hsplit:args=args.take k++[v]:=by have h1:args.take (k+1)=args:=List.take_of_length_le (by omega);rw[List.take_add_one,hvk]at h1;exact h1.symm
 have hlt:(args.take k).length=k:=by rw[List.length_take];omega
 refine⟨v,hv k v t hvk ht,_,⟨args.take k,hlt,fun j w t' hj ht'=>hv j w t' ?_ ht',rfl⟩,?_⟩
 rw[hsplit,List.getElem?_append_left ((List.getElem?_eq_some_iff.1 hj).1)];exact hj
 have:=aBj hR (b:=b) hd (args:=args.take k) (by omega) v
 rw[hlt]at this
 rw[this,<-hsplit]
 rintro⟨v,hv,m,⟨args,hl,ha,rfl⟩,rfl⟩
 refine⟨args++[v],by simp[hl],fun j w t' hj ht'=>?_,?_⟩
 by_cases hj2:j<args.length
 rw[List.getElem?_append_left hj2]at hj;exact ha j w t' hj ht'
 have hj3:=(List.getElem?_eq_some_iff.1 hj).1
 simp at hj3
 have:j=k:=by omega
 subst this
 rw[<-hl,List.getElem?_append_right (Nat.le_refl _)]at hj
 simp at hj
 subst hj
 rw[ht]at ht';cases ht'
 exact hv
 rw[<-hl];exact aBj hR hd (by omega) v
theorem aCm{q:AD}{d:Nat}{dd:Xl}(hT:∀d∈q.decls,∀t∈d.types,(1:Int)<=t/\t<=3)(hd:q.decls[d]? =some dd){k:Nat}{t:Int}(ht:dd.types[k]? =some t):1<=t/\t<=3:=
 hT dd (List.mem_of_getElem? hd) t (List.mem_of_getElem? ht)
theorem aBk{q:AD}(hF:EG q)(hR:Ao q)(hT:∀d∈q.decls,∀t∈d.types,(1:Int)<=t/\t<=3){b:List X2}(hB:BR b){d k:Nat}{dd:Xl}{t:Int}(hd:q.decls[d]? =some dd)(ht:dd.types[k]? =some t){S0:List (Int×Bool)}(h0:KS S0 (MS q b d dd k)):
 ∃S',Xi (Xq.mk q b (d:Int) (k:Int)) S0=some S'/\KS S' (MS q b d dd (k+1)):=by
 have hbl:=TO hB
 have hk:=(List.getElem?_eq_some_iff.1 ht).1
 obtain⟨jl,rl,hj,hr,hV⟩:=aCr hF hR hB hd ht (aCm hT hd ht)
 have hsy:=hF.symbols
 have hW:∀v,EI q.symbols.length (Hd q b d k v)<4096:=fun v=>Nat.lt_of_lt_of_le (Hi _ _) (show 2^q.symbols.length<=2^12 from Nat.pow_le_pow_right (by decide) hsy)
 obtain⟨S',hS,hK⟩:=BY (step:=fun s:Int×List (Int×Bool)=>Fs jl (jl.length:Int) S0 (Xq.mk q b (d:Int) (k:Int)) s.1 s.2)
  (fun s=>∃i:Nat,s.1=(i:Int)/\i<=jl.length/\KS s.2 (fun n=>∃v∈jl.take i,∃m,MS q b d dd k m/\n=m&&&EI q.symbols.length (Hd q b d k v)))
  (fun s=>(jl.length-s.1).toNat)
  (fun S'=>KS S' (fun n=>∃v∈jl,∃m,MS q b d dd k m/\n=m&&&EI q.symbols.length (Hd q b d k v)))
  (by
   rintro⟨s,S⟩ ⟨i,rfl,hi,hS⟩;simp only at hS⊢;have hjl:=hV.jlen;by_cases he:i=jl.length;subst he;rw[List.take_length]at hS;exact .inl ⟨S,by simp only[Fs,ltI,AI],hS⟩;right;obtain⟨x,hx,_⟩:=Ab (l:=jl) (i:=i) (by omega);obtain⟨S2,e2,k2⟩:=MX (f:=fun m=>m&&&EI q.symbols.length (Hd q b d k x)) (S:=S) (c:=IL ((EI q.symbols.length (Hd q b d k x):Nat):Int) jl (jl.length:Int) (i:Int) S0 (Xq.mk q b (d:Int) (k:Int))) rfl
    (step:=fun(x_1:Int×Bool) (s:List (Int×Bool))=>Ft ((EI q.symbols.length (Hd q b d k x):Nat):Int) jl (jl.length:Int) (i:Int) S0 (Xq.mk q b (d:Int) (k:Int)) x_1.1 x_1.2 s)
    (fun n v s hn=>by simp only[Ft];have h1:=aOe hF hn;have h2:=hW x;rw[aY7 (by omega) (by omega)]) h0 hS
   refine⟨(((i+1:Nat):Int),S2),?_,⟨i+1,rfl,by omega,k2.congr fun n=>?_⟩,by simp only;omega⟩;simp only[Fs,ltD hx,AJ,AP hx,A9 hx (show jl.length<=9223372036854775807 by omega)];rw[aRm hF hR (by omega) hd hk x,AB];unfold Ry U1;rw[e2,AB,AB];rw[List.take_add_one,hx];simp only[Option.toList_some,ma,List.mem_singleton];constructor;rintro(⟨v,hv,h⟩|⟨m,hm,h⟩);exact⟨v,.inl hv,h⟩;exact⟨x,.inr rfl,m,hm,h⟩;rintro⟨v,hv|rfl,h⟩;exact .inl ⟨v,hv,h⟩;obtain⟨m,hm,h⟩:=h;exact .inr ⟨m,hm,h⟩)
  ((0:Int),[]) ⟨0,rfl,by omega,KS.nil.congr fun n=>by simp⟩
 refine⟨S',?_,hK.congr fun n=>?_⟩
 unfold Xi Uy
 rw[hj,AB,hS,AB]
 rw[aOf hR hd ht]
 constructor
 rintro⟨v,hv,h⟩;exact⟨v,⟨rl,hr,(hV.same v).1 hv⟩,h⟩
 rintro⟨v,⟨rl',hr',hv⟩,h⟩
 rw[hr]at hr';cases hr'
 exact⟨v,(hV.same v).2 hv,h⟩
def DS(q:AD)(b:List X2)(i n:Nat):Prop:=∃d dd,d<i/\q.decls[d]? =some dd/\MS q b d dd dd.types.length n
theorem aQt{q:AD}(hF:EG q)(hR:Ao q)(hT:∀d∈q.decls,∀t∈d.types,(1:Int)<=t/\t<=3){b:List X2}(hB:BR b){d:Nat}{dd:Xl}(hd:q.decls[d]? =some dd)(h3:dd.types.length<=8)(s15:Int)(w5:List (Int×Bool)):
 ∃S',Tc b (d:Int) s15 (d:Int) (dd.types.length:Int) q w5 0 (GC ((mkM q [] d []:Nat):Int) true [])=some S'/\KS S' (MS q b d dd dd.types.length):=by
 obtain⟨S',hS,hK⟩:=BY (step:=fun s:Int×List (Int×Bool)=>Fm b (d:Int) s15 (d:Int) (dd.types.length:Int) q w5 s.1 s.2)
  (fun s=>∃k:Nat,s.1=(k:Int)/\k<=dd.types.length/\KS s.2 (MS q b d dd k)) (fun s=>(dd.types.length-s.1).toNat) (fun S'=>KS S' (MS q b d dd dd.types.length))
  (by rintro⟨s,S⟩ ⟨k,rfl,hk,hS⟩;simp only at hS⊢;by_cases he:k=dd.types.length;subst he;exact .inl ⟨S,by simp only[Fm,ltI,AI],hS⟩;right;obtain⟨t,ht,_⟩:=Ab (l:=dd.types) (i:=k) (by omega);obtain⟨S2,e2,k2⟩:=aBk hF hR hT hB hd ht hS;refine⟨(((k+1:Nat):Int),S2),?_,⟨k+1,rfl,by omega,k2⟩,by simp only;omega⟩;simp only[Fm,ltD ht,AJ,A9 ht (show dd.types.length<=9223372036854775807 by omega)];rw[e2,AB])
  ((0:Int),GC ((mkM q [] d []:Nat):Int) true []) ⟨0,rfl,by omega,(KS.nil.put (mkM q [] d [])).congr fun n=>by rw[aOg];simp⟩
 exact⟨S',hS,hK⟩
theorem aTv{q:AD}(hF:EG q)(hR:Ao q)(hT:∀d∈q.decls,∀t∈d.types,(1:Int)<=t/\t<=3)(h3:∀d∈q.decls,d.types.length<=3){b:List X2}(hB:BR b):
 ∃S',TZ b (q.decls.length:Int) q 0 []=some S'/\KS S' (DS q b q.decls.length):=by
 have hdl:=hF.decls
 obtain⟨S',hS,hK⟩:=BY (step:=fun s:Int×List (Int×Bool)=>Fl b (q.decls.length:Int) q s.1 s.2)
  (fun s=>∃i:Nat,s.1=(i:Int)/\i<=q.decls.length/\KS s.2 (DS q b i)) (fun s=>(q.decls.length-s.1).toNat) (fun S'=>KS S' (DS q b q.decls.length))
  (by
   rintro⟨s,S⟩ ⟨i,rfl,hi,hS⟩;simp only at hS⊢;by_cases he:i=q.decls.length;subst he;exact .inl ⟨S,by simp only[Fl,ltI,AI],hS⟩;right;obtain⟨dd,hd,_⟩:=Ab (l:=q.decls) (i:=i) (by omega);obtain⟨S2,e2,k2⟩:=aQt hF hR hT hB hd (by have:=h3 dd (List.mem_of_getElem? hd);omega) (q.decls.length:Int) S;obtain⟨S3,e3,k3⟩:=MX (f:=fun m=>m) (S:=S) (c:=Hu b (q.decls.length:Int) (i:Int) q S2) rfl
    (step:=fun(x_1:Int×Bool) (s:List (Int×Bool))=>Gg b (q.decls.length:Int) (i:Int) q S2 x_1.1 x_1.2 s) (fun n v s hn=>rfl) k2 hS
   refine⟨(((i+1:Nat):Int),S3),?_,⟨i+1,rfl,by omega,k3.congr fun n=>?_⟩,by simp only;omega⟩;simp only[Fl,ltD hd,AJ,AP hd,A9 hd (show q.decls.length<=9223372036854775807 by omega)];rw[aT3 hF,AB,e2,AB];unfold RX Tf;rw[e3,AB,AB];constructor;rintro(⟨d,d2,h1,h2,h3⟩|⟨m,hm,rfl⟩);exact⟨d,d2,by omega,h2,h3⟩;exact⟨i,dd,by omega,hd,hm⟩;rintro⟨d,d2,h1,h2,h3⟩;by_cases hdi:d=i;subst hdi;rw[hd]at h2;cases h2;exact .inr ⟨n,h3,rfl⟩;exact .inl ⟨d,d2,by omega,h2,h3⟩)
  ((0:Int),[]) ⟨0,rfl,by omega,KS.nil.congr fun n=>⟨fun h=>h.elim,fun⟨d,_,h,_⟩=>by omega⟩⟩
 exact⟨S',hS,hK⟩
structure RS(L:List Int)(P:Nat->Prop):Prop where
 up:L.Pairwise (· < ·)
 is:∀x:Int,x∈L↔ ∃n:Nat,x=(n:Int)/\P n
theorem RS.uniq{L M:List Int}{P:Nat->Prop}(h:RS L P)(k:RS M P):L=M:=by
 have nd:∀{A:List Int},A.Pairwise (· < ·)->A.Nodup:=fun h=>h.imp fun h=>by omega
 exact Eq (h.up.imp fun h=>by omega) (k.up.imp fun h=>by omega) ((List.perm_ext_iff_of_nodup (nd h.up) (nd k.up)).2 fun x=>by rw[h.is,k.is])
theorem RS.len{L:List Int}{P:Nat->Prop}{m:Nat}(h:RS L P)(hP:∀n,P n->n<m):L.length<=m:=by
 have h1:L.Nodup:=h.up.imp fun h=>by omega
 have:=h1.length_le_of_subset (l₂:=(List.range m).map (fun n:Nat=>(n:Int))) fun x hx=>by obtain⟨n,rfl,hn⟩:=(h.is x).1 hx;exact mm.2 ⟨n,List.mem_range.2 (hP n hn),rfl⟩
 simpa using this
def aOk(q:AD)(b:List X2)(n:Nat):Prop:=DS q b q.decls.length n/\n≠0
theorem NT{q:AD}(hF:EG q){b:List X2}{n:Nat}(h:aOk q b n):n<4096:=by obtain⟨⟨d,dd,_,_,hm⟩,_⟩:=h;exact aOe hF hm
theorem aZm{S:List (Int×Bool)}{P:Nat->Prop}(h:KS S P)(hl:S.length<=4096):∃w,Ti S []=some w/\w.Perm (S.map (·.1)):=by
 have run:∀(p:List (Int×Bool)) (w:List Int),p.length+w.length<=4096->D6 (fun(x:Int×Bool) (s:List Int)=>Eu S x.1 x.2 s) w p=some (w++p.map (·.1)):=by
  intro p;induction p with
  |nil=>intro w _;simp[D6]
  |cons x p ih=>
   intro w hw
   rw[List.length_cons]at hw
   have e:Eu S x.1 x.2 w=some (w++[x.1]):=by unfold Eu;exact Av (B2 (by simp;omega) (by decide)) _
   rw[D6,e,AB,ih _ (by simp;omega)]
   simp
 refine⟨aCx (S.map (·.1)),JG fun p hp=>⟨_,run p [] (by rw[hp.length_eq];simp;omega),?_⟩,Dh _⟩
 show aCx ([]++p.map (·.1))=aCx (S.map (·.1))
 rw[List.nil_append];exact Eq (Dp _) (Dp _) ((Dh _).trans ((hp.map _).trans (Dh _).symm))
theorem aVj{q:AD}(hF:EG q)(hR:Ao q)(hT:∀d∈q.decls,∀t∈d.types,(1:Int)<=t/\t<=3)(h3:∀d∈q.decls,d.types.length<=3){b:List X2}(hB:BR b):
 ∃L,X4 q b=some L/\RS L (aOk q b):=by
 obtain⟨S,e1,k1⟩:=aTv hF hR hT h3 hB
 have k2:KS (NI 0 S) (aOk q b):=k1.del
 have hlen:(NI 0 S).length<=4096:=by
  have:=k2.nd.length_le_of_subset (l₂:=(List.range 4096).map (fun n:Nat=>(n:Int))) fun x hx=>by obtain⟨n,rfl,hn⟩:=(k2.is x).1 hx;exact mm.2 ⟨n,List.mem_range.2 (NT hF hn),rfl⟩
  simpa using this
 obtain⟨w,e2,p2⟩:=aZm k2 hlen
 have hsort:=Pf (w:=w) (l:=aCx w) (by rw[p2.length_eq];simp;omega) (Dp w) (Dh w)
 refine⟨aCx w,?_,?_,fun x=>?_⟩
 unfold X4
 rw[e1,AB]
 unfold RY
 rw[e2,AB,AB,hsort,AB]
 have hnd:(aCx w).Nodup:=((Dh w).trans p2).nodup_iff.2 k2.nd
 exact List.Pairwise.imp (fun h=>by have h1:=h.1;have h2:=h.2;omega) ((Dp w).and hnd)
 rw[((Dh w).trans p2).mem_iff,k2.is]
def EvP(q:AD)(b:List X2)(dd:Xl)(args:List X0)(e:Xd):Prop:=
 ∃tail:List X0,args.length+tail.length=dd.types.length/\(∀(j:Nat) v t,tail[j]? =some v->dd.types[args.length+j]? =some t->VS q b t v)/\e=Xd.mk dd.name (args++tail)
theorem aC6{q:AD}{b:List X2}{dd:Xl}{args:List X0}(hl:args.length=dd.types.length)(e:Xd):EvP q b dd args e↔e=Xd.mk dd.name args:=by constructor;rintro⟨tail,h1,_,rfl⟩;rw[List.eq_nil_of_length_eq_zero (show tail.length=0 by omega),List.append_nil];rintro rfl;exact⟨[],by simpa using hl,(fun j v t h=>by simp at h),by rw[List.append_nil]⟩
theorem aC7{q:AD}{b:List X2}{dd:Xl}{args:List X0}{t:Int}(ht:dd.types[args.length]? =some t)(e:Xd):EvP q b dd args e↔ ∃v,VS q b t v/\EvP q b dd (args++[v]) e:=by
 have hk:=(List.getElem?_eq_some_iff.1 ht).1;constructor;rintro⟨tail,h1,h2,rfl⟩;cases tail with
 |nil=>simp at h1;omega
 |cons v tail=>
  refine⟨v,h2 0 v t rfl ht,tail,by simp at h1⊢;omega,fun j w t' hj ht'=>?_,by simp⟩
  refine h2 (j+1) w t' (by simpa using hj) ?_
  rw[<-ht'];congr 1;simp;omega
 rintro⟨v,hv,tail,h1,h2,rfl⟩;refine⟨v::tail,by simp at h1⊢;omega,fun j w t' hj ht'=>?_,by simp⟩;cases j with
 |zero=>
  simp at hj ht'
  subst hj
  rw[ht]at ht';cases ht'
  exact hv
 |succ j=>
  refine h2 j w t' (by simpa using hj) ?_
  rw[<-ht'];congr 1;simp;omega
theorem PS{r:Nat}(h:r<=3):300^r<=27000000:=by
 have:r=0\/r=1\/r=2\/r=3:=by omega
 rcases this with rfl|rfl|rfl|rfl<;>decide
theorem aAw{q:AD}(hF:EG q)(hR:Ao q)(hT:∀d∈q.decls,∀t∈d.types,(1:Int)<=t/\t<=3){b:List X2}(hB:BR b){d:Nat}{dd:Xl}(hd:q.decls[d]? =some dd)(h3:dd.types.length<=3):
 ∀(n r:Nat) (args:List X0),r<n->args.length+r=dd.types.length->∃evs,aNc n q (d:Int) b [] args=some evs/\(∀e,e∈evs↔EvP q b dd args e)/\evs.length<=300^r:=by
 intro n
 induction n with
 |zero=>intro r args h;omega
 |succ n ih=>
  intro r args hr hl
  show∃evs,aS0 (aNc n) q (d:Int) b [] args=some evs/\_
  unfold aS0
  rw[AP hd]
  cases r with
  |zero=>
   refine⟨[Xd.mk dd.name args],?_,fun e=>?_,by simp⟩
   rw[decide_eq_true (by omega),AJ,AP hd]
   rw[aC6 (by omega),List.mem_singleton]
  |succ r=>
   obtain⟨t,ht,_⟩:=Ab (l:=dd.types) (i:=args.length) (by omega)
   obtain⟨jl,rl,_,hrl,hV⟩:=aCr hF hR hB hd ht (aCm hT hd ht)
   have hc:=PS (r:=r) (by omega)
   have hp:300^(r+1)=300*300^r:=by rw[Nat.pow_succ,Nat.mul_comm]
   have hlp:300^(r+1)<=27000000:=PS (by omega)
   obtain⟨evs,e1,e2,e3⟩:=BY (step:=fun s:Int×List Xd=>Ij (aNc n) (d:Int) b [] args rl q s.1 s.2)
    (fun s=>∃i:Nat,s.1=(i:Int)/\i<=rl.length/\(∀e,e∈s.2↔ ∃v∈rl.take i,EvP q b dd (args++[v]) e)/\s.2.length<=i*300^r)
    (fun s=>(rl.length-s.1).toNat) (fun evs=>(∀e,e∈evs↔ ∃v∈rl,EvP q b dd (args++[v]) e)/\evs.length<=rl.length*300^r)
    (by rintro⟨s,w⟩ ⟨i,rfl,hi,hm,hw⟩;simp only at hm hw⊢;by_cases he:i=rl.length;subst he;rw[List.take_length]at hm;exact .inl ⟨w,by simp only[Ij,ltI,AI],hm,hw⟩;right;obtain⟨x,hx,_⟩:=Ab (l:=rl) (i:=i) (by omega);obtain⟨ev,f1,f2,f3⟩:=ih r (args++[x]) (by omega) (by simp;omega);have hrlen:=hV.rlen;have hi3:i*300^r<=300*300^r:=Nat.mul_le_mul_right _ (by omega);refine⟨(((i+1:Nat):Int),w++ev),?_,⟨i+1,rfl,by omega,fun e=>?_,?_⟩,by simp only;omega⟩;simp only[Ij,ltD hx,AJ,AP hx,A9 hx (show rl.length<=9223372036854775807 by omega),List.nil_append];rw[Av (B2 (by simp;omega) (by decide)),Av (B2 (by simp;omega) (by decide)),f1,AB,Av (B2 (by omega) (by decide))];rw[List.take_add_one,hx,ma,hm,f2];simp only[Option.toList_some,ma,List.mem_singleton];constructor;rintro(⟨v,hv,h⟩|h);exact⟨v,.inl hv,h⟩;exact⟨x,.inr rfl,h⟩;rintro⟨v,hv|rfl,h⟩;exact .inl ⟨v,hv,h⟩;exact .inr h;simp only[List.length_append];rw[Nat.succ_mul];omega)
    ((0:Int),[]) ⟨0,rfl,by omega,fun e=>by simp,by simp⟩
   have e1':aPf (aNc n) (d:Int) b [] args rl q 0 []=some evs:=e1
   refine⟨evs,?_,fun e=>?_,?_⟩
   rw[decide_eq_false (by omega),AI,AP hd,AP ht,hrl,AB,e1',AB]
   rw[e2,aC7 ht]
   constructor
   rintro⟨v,hv,h⟩;exact⟨v,⟨rl,hrl,hv⟩,h⟩
   rintro⟨v,⟨rl',h1,hv⟩,h⟩
   rw[hrl]at h1;cases h1
   exact⟨v,hv,h⟩
   have:=hV.rlen
   have h1:rl.length*300^r<=300*300^r:=Nat.mul_le_mul_right _ this
   omega
theorem aT8(L:List Int)(x:Int)(hl:L.length<=5000):∀k,k<=L.length->(∀i,k<=i->i<L.length->x<ga L i)->∃j:Nat,XV L x (k:Int)=some (j:Int)/\j<=k/\(∀i,j<=i->i<L.length->x<ga L i)/\(0<j->ga L (j-1)<=x):=by
 intro k;induction k with
 |zero=>
  intro hk hg
  refine⟨0,?_,Nat.le_refl _,hg,fun h=>by omega⟩
  rw[QH]
  unfold Ir
  rw[decide_eq_false (by omega),AI,Ae]
 |succ k ih=>
  intro hk hg
  rw[QH]
  unfold Ir
  rw[decide_eq_true (by omega),AJ,Do (by omega),Nat.add_sub_cancel,Et (by omega)]
  by_cases h:x<ga L k
  obtain⟨j,e1,e2,e3,e4⟩:=ih (by omega) (fun i h1 h2=>by by_cases hi:i=k;subst hi;exact h;exact hg i (by omega) h2)
  exact⟨j,by rw[decide_eq_true h,AJ,BF];exact e1,by omega,e3,e4⟩
  refine⟨k+1,by rw[decide_eq_false h,AI,Ae],Nat.le_refl _,hg,fun _=>?_⟩
  rw[Nat.add_sub_cancel];omega
theorem RS.put{L:List Int}{P:Nat->Prop}(h:RS L P)(hl:L.length<=4500)(m:Nat):∃L',Yz L (m:Int)=some L'/\RS L' (fun n=>P n\/n=m):=by
 obtain⟨j,e1,e2,e3,e4⟩:=aT8 L (m:Int) (by omega) L.length (Nat.le_refl _) (fun i h1 h2=>by omega);have hup:∀p q,p<q->q<L.length->ga L p<ga L q:=fun p q h1 h2=>by have:=(List.pairwise_iff_getElem.1 h.up) p q (by omega) h2 h1;rwa [JK,JK]at this
 unfold Yz;rw[e1,AB];by_cases hin:0<j/\ga L (j-1)=(m:Int);refine⟨L,?_,h.up,fun x=>?_⟩;rw[decide_eq_true (by omega),AJ,Do (by omega),Et (by omega),decide_eq_true hin.2,AJ];rw[h.is];constructor;rintro⟨n,rfl,hn⟩;exact⟨n,rfl,.inl hn⟩;rintro⟨n,rfl,hn|rfl⟩;exact⟨n,rfl,hn⟩;have:((n:Nat):Int)∈L:=by rw[<-hin.2,<-JK (show j-1<L.length by omega)];exact List.getElem_mem _
 exact(h.is _).1 this;have hlow:∀i,i<j->ga L i<(m:Int):=fun i hi=>by have h1:=e4 (by omega);have h2:ga L (j-1)≠(m:Int):=fun e=>hin ⟨by omega,e⟩;by_cases hij:i=j-1;subst hij;omega;have:=hup i (j-1) (by omega) (by omega);omega
 have hrun:(AV ((0:Int)<=0/\(0:Int)<=(j:Int)/\(j:Int)<=(L.length:Int)) (AV (fit ([]:List Int).length (sub L 0 (j:Int)).length 8) (AV (fit (([]:List Int)++(sub L 0 (j:Int))).length [(m:Int)].length 8) (AV ((0:Int)<=(j:Int)/\((j:Int):Int)<=(L.length:Int)/\(L.length:Int)<=(L.length:Int)) (AV (fit ((([]:List Int)++(sub L 0 (j:Int)))++[(m:Int)]).length (sub L (j:Int) (L.length:Int)).length 8) (some (((([]:List Int)++(sub L 0 (j:Int)))++[(m:Int)])++(sub L (j:Int) (L.length:Int)))))))):Option (List Int))=some (L.take j++(m:Int)::L.drop j):=by
  have s1:sub L 0 (j:Int)=L.take j:=by have:=aCg L 0 j;simpa using this
  rw[s1,aCf,Av ⟨by omega,by omega,by omega⟩,Av (B2 (by simp;omega) (by decide)),Av (B2 (by simp;omega) (by decide)),Av ⟨by omega,by omega,by omega⟩,Av (B2 (by simp;omega) (by decide))];simp
 refine⟨L.take j++(m:Int)::L.drop j,?_,?_,fun x=>?_⟩;by_cases hj:0<j;rw[decide_eq_true (by omega),AJ,Do (by omega),Et (by omega),decide_eq_false (fun e=>hin ⟨hj,e⟩),AI];exact hrun;rw[decide_eq_false (by omega),AI];exact hrun;rw[List.pairwise_append,List.pairwise_cons];refine⟨h.up.sublist (List.take_sublist _ _),⟨fun a ha=>?_,h.up.sublist (List.drop_sublist _ _)⟩,fun a ha c hc=>?_⟩;obtain⟨i,hi⟩:=List.mem_iff_getElem?.1 ha;rw[List.getElem?_drop]at hi;obtain⟨h1,h2⟩:=List.getElem?_eq_some_iff.1 hi;rw[<-h2,JK];exact e3 _ (by omega) h1;obtain⟨i,hi⟩:=List.mem_iff_getElem?.1 ha;rw[List.getElem?_take]at hi;split at hi;rename_i hij;obtain⟨h1,h2⟩:=List.getElem?_eq_some_iff.1 hi;have ha':a<(m:Int):=by rw[<-h2,JK];exact hlow i hij
 rcases mc.1 hc with rfl|hc
 exact ha';obtain⟨k,hk⟩:=List.mem_iff_getElem?.1 hc;rw[List.getElem?_drop]at hk;obtain⟨g1,g2⟩:=List.getElem?_eq_some_iff.1 hk;have:(m:Int)<c:=by rw[<-g2,JK];exact e3 _ (by omega) g1
 omega;cases hi;have hmem:x∈L↔x∈L.take j\/x∈L.drop j:=by rw[<-ma,List.take_append_drop]
 rw[ma,mc];constructor;rintro(h1|rfl|h1);obtain⟨n,rfl,hn⟩:=(h.is x).1 (hmem.2 (.inl h1));exact⟨n,rfl,.inl hn⟩;exact⟨m,rfl,.inr rfl⟩;obtain⟨n,rfl,hn⟩:=(h.is x).1 (hmem.2 (.inr h1));exact⟨n,rfl,.inl hn⟩;rintro⟨n,rfl,hn|rfl⟩;rcases hmem.1 ((h.is _).2 ⟨n,rfl,hn⟩)with h1|h1
 exact .inl h1;exact .inr (.inr h1);exact .inr (.inl rfl)
theorem RS.congr{L:List Int}{P Q:Nat->Prop}(h:RS L P)(hq:∀n,P n↔Q n):RS L Q:=⟨h.up,fun x=>by rw[h.is];simp only[hq]⟩
theorem aL0{q:AD}(hF:EG q)(hR:Ao q){i:Nat}{e:Xd}{h:Ap}(hh:JO q i e=some h):h.bind.length<=12:=by unfold JO at hh;split at hh;cases hh;rename_i s hs;split at hh;cases hh;split at hh;have hsm:=List.mem_of_getElem? hs;obtain⟨p,hp,rfl⟩:=om.1 hh;have:=JI s.args e.args [] [] p (bAc hF hR hsm) ⟨List.Pairwise.nil,by simp⟩ ⟨List.Pairwise.nil,by simp⟩ (fun s hs=>by simp at hs) hp;have h12:=hF.args s hsm;have:=this.2.2.2.1;simp at this;simp only;omega;cases hh
theorem aTs{q:AD}(hF:EG q)(hR:Ao q)(hS:DE q){b:List X2}(hB:BR b){d:Nat}{dd:Xl}(hd:q.decls[d]? =some dd)(args:List X0)(hl:args.length=dd.types.length):
 ∃l1 l2,Yk q (Xd.mk dd.name args)=some l1/\Ym l1 b=some l2/\Z8 l2=some ((mkM q b d args:Nat):Int):=by
 have hsy:=hF.symbols
 have hbl:=TO hB
 have hlen:((List.range q.symbols.length).filterMap fun i=>JO q i (Xd.mk dd.name args)).length<=1000:=by have h2:=List.length_filterMap_le (fun i=>JO q i (Xd.mk dd.name args)) (List.range q.symbols.length);rw[List.length_range]at h2;omega
 have hbind:∀h∈(List.range q.symbols.length).filterMap (fun i=>JO q i (Xd.mk dd.name args)),h.bind.length<=9223372036854775807:=fun h hh=>by obtain⟨i,hi,hh2⟩:=List.mem_filterMap.1 hh;have:=aL0 hF hR hh2;omega
 exact⟨_,_,aXn hF hR,aXp hlen hbind (by omega),aQ7 hF hR hS b hd rfl hl⟩
theorem aZi{q:AD}(hF:EG q)(hR:Ao q)(hS:DE q){b:List X2}(hB:BR b){d:Nat}{dd:Xl}(hd:q.decls[d]? =some dd){evs:List Xd}(hev:∀e,e∈evs↔EvP q b dd [] e)(hel:evs.length<=27000000){L:List Int}(hL:RS L (fun n=>DS q b d n/\n≠0)):
 ∃L',aO4 b (d:Int) evs q L 0=some L'/\RS L' (fun n=>DS q b (d+1) n/\n≠0):=by
 have hDS:∀{i n},DS q b i n->n<4096:=fun⟨_,_,_,_,hm⟩=>aOe hF hm
 obtain⟨L',e1,e2⟩:=BY (step:=fun s:List Int×Int=>Gx b (d:Int) evs q s.1 s.2)
  (fun s=>∃i:Nat,s.2=(i:Int)/\i<=evs.length/\RS s.1 (fun n=>(DS q b d n/\n≠0)\/∃e∈evs.take i,n=mkM q b d e.args/\n≠0))
  (fun s=>(evs.length-s.2).toNat) (fun L'=>RS L' (fun n=>(DS q b d n/\n≠0)\/∃e∈evs,n=mkM q b d e.args/\n≠0))
  (by
   rintro⟨w,s⟩ ⟨i,rfl,hi,hw⟩;simp only at hw⊢;by_cases he:i=evs.length;subst he;rw[List.take_length]at hw;exact .inl ⟨w,by simp only[Gx,ltI,AI],hw⟩;right;obtain⟨x,hx,_⟩:=Ab (l:=evs) (i:=i) (by omega);obtain⟨tail,t1,_,rfl⟩:=(hev x).1 (List.mem_of_getElem? hx);rw[List.nil_append]at hx;obtain⟨l1,l2,m1,m2,m3⟩:=aTs hF hR hS hB hd tail (by simpa using t1);have hmlt:∀l,mkM q b d l<4096:=fun l=>Nat.lt_of_lt_of_le (Hi _ _) (show 2^q.symbols.length<=2^12 from Nat.pow_le_pow_right (by decide) hF.symbols);have hwl:w.length<=4500:=Nat.le_trans (hw.len (m:=4096) fun n hn=>by
    rcases hn with h|⟨e,_,h,_⟩
    exact hDS h.1;rw[h];exact hmlt _) (by decide)
   have hstep:Gx b (d:Int) evs q w (i:Int)=(AG (SE b w (d:Int) evs (i:Int) ((mkM q b d tail:Nat):Int) (!decide (((mkM q b d tail:Nat):Int)=0)) q) fun o=>some (.inl (o,((i+1:Nat):Int)))):=by simp only[Gx,ltD hx,AJ,aHk,AP hx,A9 hx (show evs.length<=9223372036854775807 by omega)];rw[m1,AB,m2,AB,m3,AB];cases(SE b w (d:Int) evs (i:Int) ((mkM q b d tail:Nat):Int) (!decide (((mkM q b d tail:Nat):Int)=0)) q)<;>rfl
   rw[hstep];unfold SE;by_cases h0:mkM q b d tail=0;refine⟨(w,((i+1:Nat):Int)),by rw[h0];rfl,⟨i+1,rfl,by omega,hw.congr fun n=>?_⟩,by simp only;omega⟩;rw[List.take_add_one,hx];simp only[Option.toList_some,ma,List.mem_singleton];constructor;rintro(h|⟨e,he,h⟩);exact .inl h;exact .inr ⟨e,.inl he,h⟩;rintro(h|⟨e,he|rfl,h,h'⟩);exact .inl h;exact .inr ⟨e,he,h,h'⟩;exact absurd (h.trans h0) h';obtain⟨L2,p1,p2⟩:=hw.put hwl (mkM q b d tail);refine⟨(L2,((i+1:Nat):Int)),by rw[decide_eq_false (by omega),Bool.not_false,AJ,p1];rfl,⟨i+1,rfl,by omega,p2.congr fun n=>?_⟩,by simp only;omega⟩;rw[List.take_add_one,hx];simp only[Option.toList_some,ma,List.mem_singleton];constructor;rintro((h|⟨e,he,h⟩)|rfl);exact .inl h;exact .inr ⟨e,.inl he,h⟩;exact .inr ⟨_,.inr rfl,rfl,h0⟩;rintro(h|⟨e,he|rfl,h,h'⟩);exact .inl (.inl h);exact .inl (.inr ⟨e,he,h,h'⟩);exact .inr h)
  (L,(0:Int)) ⟨0,rfl,by omega,hL.congr fun n=>by simp⟩
 refine⟨L',e1,e2.congr fun n=>?_⟩
 constructor
 rintro(⟨⟨d',dd',h1,h2,h3⟩,h0⟩|⟨e,he,h,h0⟩)
 exact⟨⟨d',dd',by omega,h2,h3⟩,h0⟩
 obtain⟨tail,t1,t2,rfl⟩:=(hev e).1 he
 refine⟨⟨d,dd,by omega,hd,tail,by simpa using t1,fun j v t hj ht=>t2 j v t hj (by simpa using ht),?_⟩,h0⟩
 simpa using h
 rintro⟨⟨d',dd',h1,h2,h3⟩,h0⟩
 by_cases hdd:d'=d
 subst hdd
 rw[hd]at h2;cases h2
 obtain⟨args,a1,a2,rfl⟩:=h3
 exact .inr ⟨Xd.mk dd.name args,(hev _).2 ⟨args,by simpa using a1,fun j v t hj ht=>a2 j v t hj (by simpa using ht),by simp⟩,rfl,h0⟩
 exact .inl ⟨⟨d',dd',by omega,h2,h3⟩,h0⟩
theorem aWn{q:AD}(hF:EG q)(hR:Ao q)(hS:DE q)(hT:∀d∈q.decls,∀t∈d.types,(1:Int)<=t/\t<=3)(h3:∀d∈q.decls,d.types.length<=3){b:List X2}(hB:BR b):
 ∃L,Xy q b=some L/\RS L (aOk q b):=by
 have hdl:=hF.decls
 obtain⟨L,e1,e2⟩:=BY (step:=fun s:List Int×Int=>Ia b q s.1 s.2)
  (fun s=>∃i:Nat,s.2=(i:Int)/\i<=q.decls.length/\RS s.1 (fun n=>DS q b i n/\n≠0)) (fun s=>(q.decls.length-s.2).toNat) (fun L=>RS L (aOk q b))
  (by rintro⟨w,s⟩ ⟨i,rfl,hi,hw⟩;simp only at hw⊢;by_cases he:i=q.decls.length;subst he;exact .inl ⟨w,by simp only[Ia,ltI,AI],hw⟩;right;obtain⟨dd,hd,_⟩:=Ab (l:=q.decls) (i:=i) (by omega);have h3':=h3 dd (List.mem_of_getElem? hd);obtain⟨evs,f1,f2,f3⟩:=aAw hF hR hT hB hd h3' 100000 dd.types.length [] (by omega) (by simp);have hp:=PS h3';obtain⟨L2,g1,g2⟩:=aZi hF hR hS hB hd f2 (by omega) hw;refine⟨(L2,((i+1:Nat):Int)),?_,⟨i+1,rfl,by omega,g2⟩,by simp only;omega⟩;have f1':Ye q (i:Int) b [] []=some evs:=f1;simp only[Ia,ltD hd,AJ,A9 hd (show q.decls.length<=9223372036854775807 by omega)];rw[f1',AB,g1,AB])
  ([],(0:Int)) ⟨0,rfl,by omega,⟨List.Pairwise.nil,fun x=>⟨fun h=>by simp at h,fun⟨n,_,⟨_,_,h,_⟩,_⟩=>by omega⟩⟩⟩
 exact⟨L,by unfold Xy aO3;rw[e1,AB],e2⟩
theorem TW{q:AD}(hF:EG q)(hR:Ao q)(hS:DE q)(hT:∀d∈q.decls,∀t∈d.types,(1:Int)<=t/\t<=3)(h3:∀d∈q.decls,d.types.length<=3){b:List X2}(hB:BR b):
 ∃L,X4 q b=some L/\Xy q b=some L/\RS L (aOk q b):=by
 obtain⟨L,e1,e2⟩:=aVj hF hR hT h3 hB
 obtain⟨M,f1,f2⟩:=aWn hF hR hS hT h3 hB
 exact⟨L,e1,by rw[f1,e2.uniq f2],e2⟩
theorem Mn{σ τ:Type}{step:σ->Option (σ⊕τ)}{I:σ->Prop}(hI:∀s s',I s->step s=some (.inl s')->I s'){s:σ}{t:τ}(h0:I s)(h:AR step s=some t):∃s',I s'/\step s'=some (.inr t):=by
 obtain⟨n,hn⟩:=E7.1 h;clear h;induction n generalizing s with
 |zero=>simp[itE]at hn
 |succ n ih=>
  simp only[itE]at hn
  split at hn
  cases hn
  rename_i s' hs;exact ih (hI s s' h0 hs) hn
  rename_i t' hs;cases hn;exact⟨s,h0,hs⟩
theorem aTo{l:List Xl}{i:Nat}{x:Xl}(hx:l[i]? =some x)(hl:x.types.length<=8)(h:aIh l (i:Int) 0=some (.inl ())):∀t∈x.types,1<=t/\t<=3:=by
 have hstep:∀n:Nat,E0 l (i:Int) (n:Int)=match x.types[n]? with
  |some t=>if t<1\/3<t then some (.inr (.inr ()))else some (.inl ((n+1:Nat):Int))
  |none=>some (.inr (.inl ())):=fun n=>by
  unfold E0
  rw[AP hx]
  cases ht:x.types[n]? with
  |none=>
   have:=List.getElem?_eq_none_iff.1 ht
   rw[decide_eq_false (by omega),AI]
  |some t=>
   simp only[ltD ht,AJ,AP hx,AP ht,A9 ht (show x.types.length<=9223372036854775807 by omega),D0]
   by_cases h1:t<1
   simp[h1]
   by_cases h2:3<t
   simp[h1,h2]
   simp[h1,h2]
 obtain⟨s',⟨n,rfl,hn⟩,hs⟩:=Mn (step:=fun s=>E0 l (i:Int) s) (I:=fun s=>∃n:Nat,s=(n:Int)/\∀j t,j<n->x.types[j]? =some t->1<=t/\t<=3)
  (by
   rintro s s' ⟨n,rfl,hn⟩ hs;rw[hstep]at hs;cases ht:x.types[n]? with
   |none=>rw[ht]at hs;cases hs
   |some t=>
    rw[ht]at hs
    simp only at hs
    split at hs
    cases hs
    rename_i hc
    cases hs
    refine⟨n+1,rfl,fun j u hj hu=>?_⟩
    by_cases hjn:j=n
    subst hjn;rw[ht]at hu;cases hu;omega
    exact hn j u (by omega) hu) ⟨0,rfl,fun j t hj=>by omega⟩ h
 rw[hstep]at hs;intro t ht;obtain⟨j,hj⟩:=List.mem_iff_getElem?.1 ht;refine hn j t ?_ hj;cases hx2:x.types[n]? with
 |none=>
  have h1:=List.getElem?_eq_none_iff.1 hx2
  have h2:=(List.getElem?_eq_some_iff.1 hj).1
  omega
 |some u=>
  rw[hx2]at hs
  simp only at hs
  split at hs<;>cases hs
theorem aTn{l:List Xl}(hl:l.length<=1000){o:Unit⊕(Int×Int)}(h:aIf l 0=some o)(ho:∀r,o=.inr r->r.1=0):∀d∈l,∀t∈d.types,1<=t/\t<=3:=by
 have fwd:∀(n:Nat) (y:Int⊕(Unit⊕(Int×Int))),Ez l (n:Int)=some y->(y=.inr (.inl ())/\l.length<=n)\/(y=.inl ((n+1:Nat):Int)/\∀d,l[n]? =some d->∀t∈d.types,1<=t/\t<=3)\/∃r,y=.inr (.inr r)/\r.1≠0:=by
  intro n y hy;unfold Ez at hy;rcases iS hy with⟨h1,hy⟩|⟨h1,hy⟩
  have hlt:n<l.length:=by have:=of_decide_eq_true h1;omega
  obtain⟨x,hx,_⟩:=Ab hlt;rw[AP hx]at hy;obtain⟨r2,_,hy⟩:=bS hy;rcases iS hy with⟨_,hy⟩|⟨_,hy⟩
  cases hy;exact .inr (.inr ⟨_,rfl,by simp⟩);rw[AP hx]at hy;obtain⟨r4,_,hy⟩:=bS hy;rcases iS hy with⟨_,hy⟩|⟨_,hy⟩
  cases hy;exact .inr (.inr ⟨_,rfl,by simp⟩);rw[AP hx]at hy;rcases iS hy with⟨_,hy⟩|⟨h8,hy⟩
  cases hy;exact .inr (.inr ⟨_,rfl,by simp⟩);have h8:=of_decide_eq_false h8;obtain⟨o11,h2,hy⟩:=bS hy;cases o11 with
  |inl u=>
   cases hy
   refine .inr (.inl ⟨by rw[M9 (by omega)],fun d hd=>?_⟩)
   rw[hx]at hd;cases hd
   exact aTo hx (by omega) h2
  |inr u=>cases hy;exact .inr (.inr ⟨_,rfl,by simp⟩)
  cases hy;have:=of_decide_eq_false h1;exact .inl ⟨rfl,by omega⟩
 obtain⟨s',⟨n,rfl,hn⟩,hs⟩:=Mn (step:=fun s=>Ez l s) (I:=fun s=>∃n:Nat,s=(n:Int)/\∀j d,j<n->l[j]? =some d->∀t∈d.types,1<=t/\t<=3)
  (by
   rintro s s' ⟨n,rfl,hn⟩ hs;rcases fwd n _ hs with⟨h1,_⟩|⟨h1,h2⟩|⟨r,h1,_⟩
   cases h1;cases h1;refine⟨n+1,rfl,fun j d hj hd=>?_⟩;by_cases hjn:j=n;subst hjn;exact h2 d hd;exact hn j d (by omega) hd;cases h1) ⟨0,rfl,fun j d hj=>by omega⟩ h
 rcases fwd n _ hs with⟨h1,h2⟩|⟨h1,h2⟩|⟨r,h1,h2⟩
 intro d hd;obtain⟨j,hj⟩:=List.mem_iff_getElem?.1 hd;exact hn j d (by have:=(List.getElem?_eq_some_iff.1 hj).1;omega) hj;cases h1;cases h1;exact absurd (ho r rfl) h2
theorem NR{q:AD}(hF:EG q)(h:Yx q=some true):∀d∈q.decls,∀t∈d.types,(1:Int)<=t/\t<=3:=by
 unfold Yx at h;obtain⟨r1,h1,h⟩:=bS h;rcases iS h with⟨_,h⟩|⟨h2,h⟩
 cases h;have hr:r1.1=0:=by simpa using h2
 unfold Y6 at h1;rcases iS h1 with⟨_,h1⟩|⟨_,h1⟩
 cases h1;simp at hr;obtain⟨o14,h3,h1⟩:=bS h1;have hd:=hF.decls;refine aTn (by omega) h3 fun r hr2=>?_;subst hr2;cases h1;exact hr
section
variable {α σ τ:Type} [DecidableEq α]
def MD(o l:List α):List α:=l.foldl (fun o x=>if x∈o then o else o++[x]) o
theorem GE(o l:List α)(x:α):MD o (x::l)=MD (if x∈o then o else o++[x]) l:=rfl
theorem Hh:∀{l o:List α} {x:α},x∈MD o l↔x∈o\/x∈l
 |[],o,x=>by simp[MD]
 |y::l,o,x=>by
  rw[GE,Hh];by_cases h:y∈o;rw[if_pos h,mc];constructor;rintro(h1|h1);exact .inl h1;exact .inr (.inr h1);rintro(h1|rfl|h1);exact .inl h1;exact .inl h;exact .inr h1;rw[if_neg h,ma,List.mem_singleton,mc,or_assoc]
theorem ZT:∀{l o:List α},o.Nodup->(MD o l).Nodup
 |[],o,h=>h
 |y::l,o,h=>by
  rw[GE];apply ZT;by_cases hy:y∈o;rw[if_pos hy];exact h;rw[if_neg hy,List.nodup_append];exact⟨h,by simp,fun a ha b hb e=>hy (by rw[List.mem_singleton]at hb;rw[<-hb,<-e];exact ha)⟩
theorem LC:∀(l o:List α),∃r,MD o l=o++r
 |[],o=>⟨[],by simp[MD]⟩
 |y::l,o=>by
  rw[GE];obtain⟨r,h⟩:=LC l (if y∈o then o else o++[y])
  rw[h];by_cases hy:y∈o;rw[if_pos hy];exact⟨r,rfl⟩;rw[if_neg hy];exact⟨[y]++r,by simp⟩
theorem LB{l o:List α}{j:Nat}{x:α}(h:o[j]? =some x):(MD o l)[j]? =some x:=by obtain⟨r,e⟩:=LC l o;rw[e,List.getElem?_append_left (List.getElem?_eq_some_iff.1 h).1];exact h
theorem aLc(l o:List α):o.length<=(MD o l).length:=by obtain⟨r,e⟩:=LC l o;rw[e,List.length_append];omega
inductive Rch(succ:α->List α)(s:α):α->Prop
 |refl:Rch succ s s
 |step {x y:α}:Rch succ s x->y∈succ x->Rch succ s y
structure WI(succ:α->List α)(s:α)(i:Nat)(o:List α):Prop where
 nd:o.Nodup
 hd:o[0]? =some s
 le:i<=o.length
 rc:∀x∈o,Rch succ s x
 cl:∀j x,j<i->o[j]? =some x->∀y∈succ x,y∈o
variable {succ:α->List α} {s:α}
theorem WI.init:WI succ s 0 [s]:=⟨by simp,rfl,Nat.zero_le _,fun x hx=>by rw[List.mem_singleton]at hx;subst hx;exact .refl,fun j x hj=>by omega⟩
theorem WI.step{i:Nat}{o:List α}(h:WI succ s i o){x:α}(hx:o[i]? =some x):WI succ s (i+1) (MD o (succ x)):=by
 have hi:=(List.getElem?_eq_some_iff.1 hx).1;refine⟨ZT h.nd,LB h.hd,Nat.le_trans hi (aLc _ _),fun y hy=>?_,fun j y hj hy z hz=>?_⟩;rcases Hh.1 hy with hy|hy
 exact h.rc y hy;exact(h.rc x (List.mem_of_getElem? hx)).step hy;have hj2:j<o.length:=by omega
 obtain⟨w,hw,_⟩:=Ab hj2;have e:w=y:=by rw[LB hw,oe]at hy;exact hy
 subst e;by_cases hji:j=i;subst hji;rw[hx,oe]at hw;subst hw;exact Hh.2 (.inr hz);exact Hh.2 (.inl (h.cl j w (by omega) hw z hz))
def Bd(succ:α->List α)(s:α)(N:Nat):Prop:=∀o:List α,o.Nodup->(∀x∈o,Rch succ s x)->o.length<=N
end
theorem ME{α β:Type} [DecidableEq α](p:β->Bool)(g:β->α):∀(l:List β) (o:List α),l.foldl (fun o t=>if p t=true/\g t∉o then o++[g t]else o) o=MD o ((l.filter p).map g)
 |[],o=>rfl
 |t::l,o=>by
  rw[List.foldl_cons,ME p g l,List.filter_cons];by_cases h:p t=true;rw[if_pos h,List.map_cons,GE];by_cases h2:g t∈o;simp[h2];simp[h,h2];simp[h]
section
variable {K V:Type} [DecidableEq K]
theorem LS(z:V)(c:Nat)(k:K)(v:V)(k':K):∀l:List (Nat×K×V),NJ z k' (S6 c k v l).2=if k=k' then(v,true)else NJ z k' l
 |[]=>by
  simp only[S6,NJ]
 |x::xs=>by
  rw[S6];split;rename_i h;by_cases e:k=k';rw[if_pos e,NJ,if_pos (h.trans e)];rw[if_neg e,NJ,NJ,if_neg (by rw[h];exact e),if_neg (by rw[h];exact e)];rename_i h;by_cases e:k=k';rw[if_pos e,NJ,if_neg (by rw[<-e];exact h),LS z c k v k' xs,if_pos e];rw[if_neg e,NJ,NJ,LS z c k v k' xs,if_neg e]
theorem Hl(z:V)(m:MP K V)(k:K)(v:V)(k':K):BJ z (DY m k v) k'=if k=k' then(v,true)else BJ z m k':=LS z _ _ _ _ _
theorem aMe(z:V)(k:K):BJ z (Ee:MP K V) k=(z,false):=rfl
end
section
variable {α σ τ:Type} [DecidableEq α] {succ:α->List α} {s:α}
def wlS(succ:α->List α)(p:α->Bool):Nat->Nat->List α->Nat×List α
 |0,i,o=>(i,o)
 |n+1,i,o=>match o[i]? with
  |none=>(i,o)
  |some x=>if p x=true then(i,o)else wlS succ p n (i+1) (MD o (succ x))
theorem Ls{N:Nat}(hN:Bd succ s N)(p:α->Bool){step:σ->Option (σ⊕τ)}(R:Nat->List α->σ->Prop)(Q:Nat->List α->τ->Prop)
 (h1:∀i x o st,WI succ s i o->R i o st->o[i]? =some x->p x=false->∃st',step st=some (.inl st')/\R (i+1) (MD o (succ x)) st')
 (h2:∀i x o st,WI succ s i o->R i o st->o[i]? =some x->p x=true->∃t,step st=some (.inr t)/\Q i o t)
 (h3:∀o st,WI succ s o.length o->R o.length o st->∃t,step st=some (.inr t)/\Q o.length o t):∀(n i:Nat) (o:List α) (st:σ),WI succ s i o->R i o st->N+1<=n+i->
 ∃t,AR step st=some t/\Q (wlS succ p n i o).1 (wlS succ p n i o).2 t
 |0,i,o,st,h,_,hn=>by have:=h.le;have:=hN o h.nd h.rc;omega
 |n+1,i,o,st,h,hr,hn=>by
  rw[wlS,Ah];cases e:o[i]? with
  |none=>
   have:=List.getElem?_eq_none_iff.1 e
   have he:i=o.length:=by have:=h.le;omega
   subst he
   obtain⟨t,a,b⟩:=h3 o st h hr
   exact⟨t,by rw[a,Ae],b⟩
  |some x=>
   simp only
   cases hp:p x with
   |true=>
    obtain⟨t,a,b⟩:=h2 i x o st h hr e hp
    exact⟨t,by rw[a,Ae],b⟩
   |false=>
    obtain⟨st',a,b⟩:=h1 i x o st h hr e hp
    rw[a,BF]
    exact Ls hN p R Q h1 h2 h3 n (i+1) _ st' (h.step e) b (by omega)
end
theorem aMh{q:AD}(hR:Ao q)(S M:Nat):EP q S M<2^q.states.length:=by apply Nat.lt_pow_two_of_testBit;intro k hk;rw[<-Bool.not_eq_true,aBp];rintro⟨s,hs,_,hf⟩;unfold aNs at hf;split at hf;rw[Nat.testBit_two_pow]at hf;have:=of_decide_eq_true hf;omega;obtain⟨t,ht,_,he⟩:=(aRk q M s k).1 hf;have:=(hR.ends t ht).2.2;omega
structure L4(q:AD)(L:List Int):Prop where
 len:L.length<=5000
 up:L.Pairwise (· < ·)
 lt:∀x∈L,∃n:Nat,x=(n:Int)/\n<4096
theorem aRf{q:AD}(hF:EG q)(hR:Ao q)(hS:DE q)(hT:Yx q=some true)(h3:∀d∈q.decls,d.types.length<=3){b:List X2}(hB:BR b):∃L,X4 q b=some L/\Xy q b=some L/\RS L (aOk q b)/\L4 q L:=by obtain⟨L,e1,e2,hL⟩:=TW hF hR hS (NR hF hT) h3 hB;refine⟨L,e1,e2,hL,Nat.le_trans (hL.len fun n hn=>NT hF hn) (by decide),hL.up,fun x hx=>?_⟩;obtain⟨n,rfl,hn⟩:=(hL.is x).1 hx;exact⟨n,rfl,NT hF hn⟩
theorem KZ{q:AD}(hF:EG q)(hR:Ao q){L:List Int}(hL:L4 q L){x m:Int}(hx:∃n:Nat,x=(n:Int)/\n<256)(hm:m∈L):X9 q x m=some ((EP q x.toNat m.toNat:Nat):Int)/\Xn q x m=some ((EP q x.toNat m.toNat:Nat):Int):=by obtain⟨n,rfl,hn⟩:=hx;obtain⟨k,rfl,hk⟩:=hL.lt m hm;exact⟨aVq hF hR (by omega) (by omega),aV9 hF hR (by omega) (by omega)⟩
def aP8(S:Nat)(i:Nat)(st:Xg):Option (Unit⊕Unit):=if st.accept=true/\S.testBit i=true then some (.inr ())else none
def aTi(q:AD)(S:Nat):Bool:=match NM (F4 (aP8 S)) (fun _=>.inl ()) 0 q.states ()with
 | .inl _=>false
 | .inr _=>true
theorem Gc{q:AD}(hF:EG q){S:Nat}(hS:S<4294967296):Yr q (S:Int)=some (aTi q S):=by
 have h8:=hF.states;have h:aPm (S:Int) q 0=_:=Ei (step:=fun s=>In (S:Int) q s) q.states (aP8 S) (.inl ())
  (fun i st hi=>by
   have hil:=Dv hi;have h1:=As (n:=i) (by omega);simp only[In,ltD hi,AJ,AP hi,A9 hi (show q.states.length<=9223372036854775807 by omega),h1,PZ (k:=.u32) (n:=S) (s:=i) (show i<32 by omega),aZ2,Ox,aP8];rw[Av (by omega)];cases hb:S.testBit i with
   |false=>simp[AE]
   |true=>
    simp only[if_true]
    rw[show decide (((1:Nat):Int)=1)=true from rfl,AJ]
    cases st.accept<;>simp[AE])
  (by simp only[In,ltI,AI])
 unfold Yr aTi;rw[h,AB];cases NM (F4 (aP8 S)) (fun _=>.inl ()) 0 q.states ()<;>rfl
def Jr(q:AD)(x:Int):Bool:=aTi q x.toNat
theorem aOa{α:Type} [DecidableEq α]{succ:α->List α}{s:α}{N:Nat}(hN:Bd succ s N)(p:α->Bool):∀(n i:Nat) (o:List α),WI succ s i o->(∀j x,j<i->o[j]? =some x->p x=false)->N+1<=n+i->
 WI succ s (wlS succ p n i o).1 (wlS succ p n i o).2/\(∀j x,j<(wlS succ p n i o).1->(wlS succ p n i o).2[j]? =some x->p x=false)/\((wlS succ p n i o).1=(wlS succ p n i o).2.length\/∃x,(wlS succ p n i o).2[(wlS succ p n i o).1]? =some x/\p x=true)
 |0,i,o,h,_,hn=>by have:=h.le;have:=hN o h.nd h.rc;omega
 |n+1,i,o,h,hp,hn=>by
  rw[wlS];cases e:o[i]? with
  |none=>
   have:=List.getElem?_eq_none_iff.1 e
   exact⟨h,hp,.inl (show i=o.length by have:=h.le;omega)⟩
  |some x=>
   simp only
   cases hx:p x with
   |true=>exact⟨h,hp,.inr ⟨x,e,hx⟩⟩
   |false=>
    refine aOa hN p n (i+1) _ (h.step e) (fun j y hj hy=>?_) (by omega)
    have hj2:j<o.length:=by have:=Dv e;omega
    obtain⟨w,hw,_⟩:=Ab hj2
    have e2:w=y:=by rw[LB hw,oe]at hy;exact hy
    subst e2
    by_cases hji:j=i
    subst hji;rw[e,oe]at hw;exact hw▸hx
    exact hp j w (by omega) hw
def nx(q:AD)(x m:Int):Int:=((EP q x.toNat m.toNat:Nat):Int)
theorem aLv{α β:Type}{f:β->α->β}(L:List α)(I:Nat->β->Prop)(h:∀j m w,L[j]? =some m->I j w->I (j+1) (f w m))(w:β)(h0:I 0 w):I L.length (L.foldl f w):=by
 have key:∀(n j:Nat) (w:β),L.length-j=n->j<=L.length->I j w->I L.length ((L.drop j).foldl f w):=by
  intro n;induction n with
  |zero=>
   intro j w hn hj hI
   have:j=L.length:=by omega
   subst this
   rw[List.drop_length];exact hI
  |succ n ih=>
   intro j w hn hj hI
   obtain⟨x,hx,hd⟩:=Ab (l:=L) (i:=j) (by omega)
   rw[hd,List.foldl_cons]
   exact ih (j+1) _ (by omega) (by omega) (h j x w hx hI)
 have:=key _ 0 w rfl (Nat.zero_le _) h0;rwa [List.drop_zero]at this
theorem RW{w:List Int}(hl:w.length<=100000):Yi w=some w.reverse:=by
 obtain⟨o,h1,h2⟩:=BY (step:=fun s:Int×Int×List Int=>G7 s.1 s.2.1 s.2.2)
  (fun s=>∃i:Nat,s.1=(i:Int)/\s.2.1=(w.length:Int)-1-i/\2*i<=w.length/\s.2.2.length=w.length/\∀k,k<w.length->s.2.2[k]? =if k<i\/w.length-1-i<k then w[w.length-1-k]? else w[k]?)
  (fun s=>(w.length-2*s.1).toNat) (fun o=>o=w.reverse)
  (by
   rintro⟨a,b,v⟩ ⟨i,rfl,hb,hi,hv,hk⟩;simp only at hb hv hk;subst hb;by_cases hc:(i:Int)<(w.length:Int)-1-i;right;have e1:(w.length:Int)-1-i=((w.length-1-i:Nat):Int):=by omega
   obtain⟨x1,hx1,_⟩:=Ab (l:=v) (i:=w.length-1-i) (by omega);obtain⟨x2,hx2,_⟩:=Ab (l:=v) (i:=i) (by omega);have g1:=hk (w.length-1-i) (by omega);rw[if_neg (by omega),hx1]at g1;have g2:=hk i (by omega);rw[if_neg (by omega),hx2]at g2;refine⟨(((i+1:Nat):Int),(w.length:Int)-1-((i+1:Nat):Int),(v.set i x1).set (w.length-1-i) x2),?_,⟨i+1,rfl,rfl,by omega,by simp[hv],fun k hkl=>?_⟩,by simp only;omega⟩;rw[G7];simp only[decide_eq_true hc,AJ];simp only[e1];rw[Av (by omega),AP hx1,Av (by omega),AP hx2,Av (by omega),Av (by omega),Av (by rw[List.length_set];omega),Av (by rw[List.length_set];omega),M9 (by omega),TD (by omega) (by omega),Int.toNat_natCast,Int.toNat_natCast];have e3:((w.length-1-i:Nat):Int)-1=(w.length:Int)-1-((i+1:Nat):Int):=by omega
   rw[e3];rw[List.getElem?_set,List.getElem?_set,List.length_set];by_cases c1:w.length-1-i=k;rw[if_pos c1,if_pos (by omega),if_pos (by omega),g2];congr 1;omega;rw[if_neg c1];by_cases c2:i=k;rw[if_pos c2,if_pos (by omega),if_pos (by omega),g1];congr 1;omega;rw[if_neg c2,hk k hkl];by_cases c3:k<i\/w.length-1-i<k;rw[if_pos c3,if_pos (by omega)];rw[if_neg c3,if_neg (by omega)];left;refine⟨v,by simp only[G7,decide_eq_false hc,AI],?_⟩;apply List.ext_getElem?;intro k;by_cases hkl:k<w.length;rw[hk k hkl,List.getElem?_reverse hkl];by_cases c3:k<i\/w.length-1-i<k;rw[if_pos c3];rw[if_neg c3];congr 1;omega;rw[List.getElem?_eq_none_iff.2 (by omega),List.getElem?_eq_none_iff.2 (by simp;omega)])
  ((0:Int),(w.length:Int)-1,w) ⟨0,rfl,by simp,by omega,rfl,fun k hk=>by rw[if_neg (by omega)]⟩
 subst h2;have h1':Wy 0 ((w.length:Int)-1) w=some w.reverse:=h1;unfold Yi;rw[TD (by omega) (by omega),h1',AB]
def OS(s1:Int)(s9:List X5)(s10:Int)(s5:Int)(s11:Int):Option (Int):=itE (fun s:Int×Int=>G3 s1 s9 s10 s.1 s.2) 70 (s5,s11)
theorem aId(s1:Int)(s9:List X5)(s10:Int)(s5:Int)(s11:Int):Le (OS s1 s9 s10 s5 s11) (WM s1 s9 s10 s5 s11):=by unfold OS WM;repeat' (first|refine BE (fun _=>?_) _ _|exact Le.refl _)
def aWu(a0:AD)(a1:Int):Option (Int):=
 AG (OS a1 a0.symbols (a0.symbols.length:Int) 0 0) fun o4=>
 some o4
theorem aWv(a0:AD)(a1:Int):Le (aWu a0 a1) (Y5 a0 a1):=by unfold aWu Y5;repeat' (first|exact aId _ _ _ _ _|refine AZ ?_ fun _=>?_|exact Le.refl _)
def OP(s0:List X0)(s2:List X0)(s8:Int)(w4:X0)(s9:Int)(s10:Int):Option (Int):=itE (fun s:Int×Int=>Fz s0 s2 s8 w4 s.1 s.2) 70 (s9,s10)
theorem aHs(s0:List X0)(s2:List X0)(s8:Int)(w4:X0)(s9:Int)(s10:Int):Le (OP s0 s2 s8 w4 s9 s10) (SF s0 s2 s8 w4 s9 s10):=by unfold OP SF;repeat' (first|refine BE (fun _=>?_) _ _|exact Le.refl _)
def aUl(a0:List X0)(a1:X0)(a2:List X0):Option (Int×Bool):=
 AG (OP a0 a2 (a0.length:Int) a1 0 (a0.length:Int)) fun o5=>
 AE (decide (o5<(a0.length:Int))) (
  AU a0 o5 fun x6=>
  AG (Q3 x6 a1 a2) fun r7=>
  some (o5,decide (r7=0))) (
  some (o5,false))
theorem aSu(a0:List X0)(a1:X0)(a2:List X0):Le (aUl a0 a1 a2) (Xz a0 a1 a2):=by unfold aUl Xz;repeat' (first|exact aHs _ _ _ _ _ _|refine AZ ?_ fun _=>?_|refine BH ?_ ?_|refine Cq fun _=>?_|exact Le.refl _)
def aYq(a1:X0):Option (Bool×List X0):=
 AG (aUl ([]:List X0) a1 ([]:List X0)) fun r1=>
 AG (ZH r1.1 r1.2 (!r1.2) a1) fun o3=>
 some (!r1.2,o3)
theorem aYr(a1:X0):Le (aYq a1) (Zk a1):=by unfold aYq Zk;repeat' (first|exact aSu _ _ _|refine AZ ?_ fun _=>?_|exact Le.refl _)
def aUm(a1:X0)(w1:List X0):Option (Bool×List X0):=
 AG (aUl w1 a1 w1) fun r1=>
 AG (YF r1.1 r1.2 (!r1.2) a1 w1) fun o3=>
 some (!r1.2,o3)
theorem aS4(a1:X0)(w1:List X0):Le (aUm a1 w1) (Z5 a1 w1):=by unfold aUm Z5;repeat' (first|exact aSu _ _ _|refine AZ ?_ fun _=>?_|exact Le.refl _)
def Nt(s1:Int)(s12:Bool)(w2:AD):Option ((List X0)):=
 AE (s12) (
  AG (Q7 false) fun r2=>
  AG (aYq r2) fun r3=>
  AG (Q7 true) fun r4=>
  AG (aUm r4 r3.2) fun r5=>
  some r5.2) (
  some ([]:List X0))
theorem aEu(s1:Int)(s12:Bool)(w2:AD):Le (Nt s1 s12 w2) (Ns s1 s12 w2):=by unfold Nt Ns;repeat' (first|exact aYr _|exact aS4 _ _|refine AZ ?_ fun _=>?_|refine BH ?_ ?_|exact Le.refl _)
def Kr(s1:Int)(s20:List X5)(s21:Int)(s22:Int)(s27:List Bz)(s28:Int)(s29:Int)(s42:Bool)(w9:Bz)(w518:List X0):Option ((List X0)):=
 AE (s42) (
  AG (aUm w9.value w518) fun r9=>
  some r9.2) (
  some w518)
theorem aEy(s1:Int)(s20:List X5)(s21:Int)(s22:Int)(s27:List Bz)(s28:Int)(s29:Int)(s42:Bool)(w9:Bz)(w518:List X0):Le (Kr s1 s20 s21 s22 s27 s28 s29 s42 w9 w518) (Nv s1 s20 s21 s22 s27 s28 s29 s42 w9 w518):=by unfold Kr Nv;repeat' (first|exact aS4 _ _|refine AZ ?_ fun _=>?_|refine BH ?_ ?_|exact Le.refl _)
def Nu(s1:Int)(s20:List X5)(s21:Int)(s22:Int)(s27:List Bz)(s28:Int)(s29:Int)(w518:List X0):Option ((List X0)):=
 AU s27 s29 fun x8=>
 AE (decide (x8.kind=1)) (
  AG (Kr s1 s20 s21 s22 s27 s28 s29 (decide (x8.value.kind=s1)) x8 w518) fun o10=>
  some o10) (
  AG (Kr s1 s20 s21 s22 s27 s28 s29 false x8 w518) fun o11=>
  some o11)
theorem aEw(s1:Int)(s20:List X5)(s21:Int)(s22:Int)(s27:List Bz)(s28:Int)(s29:Int)(w518:List X0):Le (Nu s1 s20 s21 s22 s27 s28 s29 w518) (Rr s1 s20 s21 s22 s27 s28 s29 w518):=by unfold Nu Rr;repeat' (first|exact aEy _ _ _ _ _ _ _ _ _ _|refine AZ ?_ fun _=>?_|refine BH ?_ ?_|refine Cq fun _=>?_|exact Le.refl _)
def H6(s1:Int)(s20:List X5)(s21:Int)(s22:Int)(s27:List Bz)(s28:Int)(s29:Int)(w518:List X0):Option ((Int×List X0)⊕((List X0))):=
 AE (decide (s29<s28)) (
  AG (Nu s1 s20 s21 s22 s27 s28 s29 w518) fun o12=>
  some (.inl ((AA .add .i64 s29 1),o12))) (
  some (.inr w518))
theorem Ru(s1:Int)(s20:List X5)(s21:Int)(s22:Int)(s27:List Bz)(s28:Int)(s29:Int)(w518:List X0):Le (H6 s1 s20 s21 s22 s27 s28 s29 w518) (Fq s1 s20 s21 s22 s27 s28 s29 w518):=by unfold H6 Fq;repeat' (first|exact aEw _ _ _ _ _ _ _ _|refine AZ ?_ fun _=>?_|refine BH ?_ ?_|exact Le.refl _)
def Ny(s1:Int)(s20:List X5)(s21:Int)(s22:Int)(s27:List Bz)(s28:Int)(s29:Int)(w518:List X0):Option ((List X0)):=itE (fun s:Int×List X0=>H6 s1 s20 s21 s22 s27 s28 s.1 s.2) 70 (s29,w518)
theorem aE1(s1:Int)(s20:List X5)(s21:Int)(s22:Int)(s27:List Bz)(s28:Int)(s29:Int)(w518:List X0):Le (Ny s1 s20 s21 s22 s27 s28 s29 w518) (Rt s1 s20 s21 s22 s27 s28 s29 w518):=by unfold Ny Rt;repeat' (first|exact Ru _ _ _ _ _ _ _ _|refine BE (fun _=>?_) _ _|exact Le.refl _)
def H5(s1:Int)(s20:List X5)(s21:Int)(s22:Int)(w518:List X0):Option ((Int×List X0)⊕((List X0))):=
 AE (decide (s22<s21)) (
  AU s20 s22 fun x7=>
  AG (Ny s1 s20 s21 s22 x7.args (x7.args.length:Int) 0 w518) fun o13=>
  some (.inl ((AA .add .i64 s22 1),o13))) (
  some (.inr w518))
theorem Rs(s1:Int)(s20:List X5)(s21:Int)(s22:Int)(w518:List X0):Le (H5 s1 s20 s21 s22 w518) (Fp s1 s20 s21 s22 w518):=by unfold H5 Fp;repeat' (first|exact aE1 _ _ _ _ _ _ _ _|refine AZ ?_ fun _=>?_|refine BH ?_ ?_|refine Cq fun _=>?_|exact Le.refl _)
def Nw(s1:Int)(s20:List X5)(s21:Int)(s22:Int)(w518:List X0):Option ((List X0)):=itE (fun s:Int×List X0=>H5 s1 s20 s21 s.1 s.2) 70 (s22,w518)
theorem aEz(s1:Int)(s20:List X5)(s21:Int)(s22:Int)(w518:List X0):Le (Nw s1 s20 s21 s22 w518) (UH s1 s20 s21 s22 w518):=by unfold Nw UH;repeat' (first|exact Rs _ _ _ _ _|refine BE (fun _=>?_) _ _|exact Le.refl _)
def aVs(a0:AD)(a1:Int):Option (List X0):=
 AG (Qk) fun r1=>
 AG (Nt a1 (decide (a1=3)) a0) fun o6=>
 AG (Nw a1 a0.symbols (a0.symbols.length:Int) 0 o6) fun o14=>
 AG (Qd o14) fun r15=>
 some r15.1
theorem aVt(a0:AD)(a1:Int):Le (aVs a0 a1) (Xa a0 a1):=by unfold aVs Xa;repeat' (first|exact aEu _ _ _|exact aEz _ _ _ _ _|refine AZ ?_ fun _=>?_|exact Le.refl _)
def OZ(s0:List X0)(s7:Int)(w3:X0)(s8:Int):Option (Unit⊕Int):=itE (fun s:Int=>G5 s0 s7 w3 s) 70 s8
theorem aJd(s0:List X0)(s7:Int)(w3:X0)(s8:Int):Le (OZ s0 s7 w3 s8) (SP s0 s7 w3 s8):=by unfold OZ SP;repeat' (first|refine BE (fun _=>?_) _ _|exact Le.refl _)
def aXd(a0:List X0)(a1:X0):Option (Int):=
 AG (OZ a0 (a0.length:Int) a1 0) fun o2=>
 Cd o2 (fun o3=>
  some (-1)) (fun o4=>
  some o4)
theorem aXe(a0:List X0)(a1:X0):Le (aXd a0 a1) (Yf a0 a1):=by unfold aXd Yf;repeat' (first|exact aJd _ _ _ _|refine AZ ?_ fun _=>?_|refine Ln (fun _=>?_) fun _=>?_|exact Le.refl _)
def aUo(a0:List X0)(a1:X0):Option (Bool):=
 AG (aXd a0 a1) fun r1=>
 some (decide (0<=r1))
theorem aTb(a0:List X0)(a1:X0):Le (aUo a0 a1) (Zo a0 a1):=by unfold aUo Zo;repeat' (first|exact aXe _ _|refine AZ ?_ fun _=>?_|exact Le.refl _)
def OB(s0:List (List X0))(s9:List (List X0))(s10:Int)(s3:Int)(s11:Int):Option (Int):=itE (fun s:Int×Int=>Fu s0 s9 s10 s.1 s.2) 70 (s3,s11)
theorem aF2(s0:List (List X0))(s9:List (List X0))(s10:Int)(s3:Int)(s11:Int):Le (OB s0 s9 s10 s3 s11) (OA s0 s9 s10 s3 s11):=by unfold OB OA;repeat' (first|refine BE (fun _=>?_) _ _|exact Le.refl _)
def OD(s25:List (List X0))(s26:Int)(s27:Int)(w6:List X0):Option ((List X0)):=itE (fun s:Int×List X0=>Fv s25 s26 s.1 s.2) 70 (s27,w6)
theorem aF4(s25:List (List X0))(s26:Int)(s27:Int)(w6:List X0):Le (OD s25 s26 s27 w6) (OC s25 s26 s27 w6):=by unfold OD OC;repeat' (first|refine BE (fun _=>?_) _ _|exact Le.refl _)
def aV3(a0:List (List X0)):Option (List X0):=
 AG (OB a0 a0 (a0.length:Int) 0 0) fun o4=>
 AG (Ql o4) fun r5=>
 AG (OD a0 (a0.length:Int) 0 r5) fun o7=>
 some o7
theorem aV4(a0:List (List X0)):Le (aV3 a0) (Xj a0):=by unfold aV3 Xj;repeat' (first|exact aF2 _ _ _ _ _|exact aF4 _ _ _ _|refine AZ ?_ fun _=>?_|exact Le.refl _)
def IV(s0:Int)(s1:List X0)(w4:X0)(w6:X0):Option ((X0)⊕(X0)):=
 AG (aUo s1 w6) fun r1=>
 AE (r1) (
  AG (R8 s0 s1 w4 w6) fun o3=>
  some (.inl o3)) (
  some (.inr w6))
theorem R9(s0:Int)(s1:List X0)(w4:X0)(w6:X0):Le (IV s0 s1 w4 w6) (Fx s0 s1 w4 w6):=by unfold IV Fx;repeat' (first|exact aTb _ _|refine AZ ?_ fun _=>?_|refine BH ?_ ?_|exact Le.refl _)
def Kx(s0:Int)(s1:List X0)(w4:X0)(w6:X0):Option (X0):=itE (fun s:X0=>IV s0 s1 w4 s) 70 w6
theorem aG4(s0:Int)(s1:List X0)(w4:X0)(w6:X0):Le (Kx s0 s1 w4 w6) (L6 s0 s1 w4 w6):=by unfold Kx L6;repeat' (first|exact R9 _ _ _ _|refine BE (fun _=>?_) _ _|exact Le.refl _)
def aWe(a0:Int)(a1:List X0):Option (X0×Bool):=
 AE (!decide (a0=1)) (
  AE (!decide (a0=2)) (
   some (X0.mk 0 0 ([]:List UInt8) false,false)) (
   AG (Kx a0 a1 (X0.mk 0 0 ([]:List UInt8) false) (X0.mk a0 0 ([]:List UInt8) false)) fun o4=>
   some (o4,true))) (
  AG (Kx a0 a1 (X0.mk 0 0 ([]:List UInt8) false) (X0.mk a0 0 ([]:List UInt8) false)) fun o5=>
  some (o5,true))
theorem aWf(a0:Int)(a1:List X0):Le (aWe a0 a1) (Xt a0 a1):=by unfold aWe Xt;repeat' (first|exact aG4 _ _ _ _|refine AZ ?_ fun _=>?_|refine BH ?_ ?_|exact Le.refl _)
def OI(s1:List X0)(s5:Int)(s28:List X2)(s29:Int)(s30:Int)(w6:List X0):Option ((List X0)):=
 AU s28 s30 fun x4=>
 AE (decide (x4.value.kind=s5)) (
  AG (aUo w6 x4.value) fun r5=>
  AG (OJ s1 s5 s28 s29 s30 (!r5) w6 x4) fun o6=>
  some o6) (
  AG (OJ s1 s5 s28 s29 s30 false w6 x4) fun o7=>
  some o7)
theorem aGo(s1:List X0)(s5:Int)(s28:List X2)(s29:Int)(s30:Int)(w6:List X0):Le (OI s1 s5 s28 s29 s30 w6) (R2 s1 s5 s28 s29 s30 w6):=by unfold OI R2;repeat' (first|exact aTb _ _|refine AZ ?_ fun _=>?_|refine BH ?_ ?_|refine Cq fun _=>?_|exact Le.refl _)
def IP(s1:List X0)(s5:Int)(s28:List X2)(s29:Int)(s30:Int)(w6:List X0):Option ((Int×List X0)⊕((List X0))):=
 AE (decide (s30<s29)) (
  AG (OI s1 s5 s28 s29 s30 w6) fun o8=>
  some (.inl ((AA .add .i64 s30 1),o8))) (
  some (.inr w6))
theorem R4(s1:List X0)(s5:Int)(s28:List X2)(s29:Int)(s30:Int)(w6:List X0):Le (IP s1 s5 s28 s29 s30 w6) (Fw s1 s5 s28 s29 s30 w6):=by unfold IP Fw;repeat' (first|exact aGo _ _ _ _ _ _|refine AZ ?_ fun _=>?_|refine BH ?_ ?_|exact Le.refl _)
def OL(s1:List X0)(s5:Int)(s28:List X2)(s29:Int)(s30:Int)(w6:List X0):Option ((List X0)):=itE (fun s:Int×List X0=>IP s1 s5 s28 s29 s.1 s.2) 70 (s30,w6)
theorem aGr(s1:List X0)(s5:Int)(s28:List X2)(s29:Int)(s30:Int)(w6:List X0):Le (OL s1 s5 s28 s29 s30 w6) (R3 s1 s5 s28 s29 s30 w6):=by unfold OL R3;repeat' (first|exact R4 _ _ _ _ _ _|refine BE (fun _=>?_) _ _|exact Le.refl _)
def aWa(a0:Xq)(a1:List X0):Option (List X0):=
 AU a0.q.decls a0.d_ fun x1=>
 AU x1.types a0.at_ fun x2=>
 AG (aVs a0.q x2) fun r3=>
 AG (OL a1 x2 a0.b (a0.b.length:Int) 0 r3) fun o9=>
 AG (aV3 [o9,a1]) fun r10=>
 AG (aWe x2 r10) fun r11=>
 AG (OK r11.2 o9 r11.1) fun o12=>
 some o12
theorem aWb(a0:Xq)(a1:List X0):Le (aWa a0 a1) (Xo a0 a1):=by unfold aWa Xo;repeat' (first|exact aVt _ _|exact aGr _ _ _ _ _ _|exact aV4 _|exact aWf _ _|refine AZ ?_ fun _=>?_|refine Cq fun _=>?_|exact Le.refl _)
def Oa(s1:Int)(s8:List X2)(s9:Int)(w4:X0)(s10:Int):Option (Unit⊕X0):=itE (fun s:Int=>G6 s1 s8 s9 w4 s) 70 s10
theorem aJf(s1:Int)(s8:List X2)(s9:Int)(w4:X0)(s10:Int):Le (Oa s1 s8 s9 w4 s10) (Wv s1 s8 s9 w4 s10):=by unfold Oa Wv;repeat' (first|refine BE (fun _=>?_) _ _|exact Le.refl _)
def aXg(a0:List X2)(a1:Int):Option (X0×Bool):=
 AG (Oa a1 a0 (a0.length:Int) (X0.mk 0 0 ([]:List UInt8) false) 0) fun o2=>
 Cd o2 (fun o3=>
  some (X0.mk 0 0 ([]:List UInt8) false,false)) (fun o4=>
  some (o4,true))
theorem aXh(a0:List X2)(a1:Int):Le (aXg a0 a1) (Yg a0 a1):=by unfold aXg Yg;repeat' (first|exact aJf _ _ _ _ _|refine AZ ?_ fun _=>?_|refine Ln (fun _=>?_) fun _=>?_|exact Le.refl _)
def aYv(a0:Xq)(a1:Bz)(a2:X0):Option (Bool):=
 AE (decide (a1.kind=1)) (
  some (X0.eqb a1.value a2)) (
  AE (decide (a1.kind=2)) (
   AG (aXg a0.b a1.n) fun r1=>
   AE (r1.2) (
    some (X0.eqb r1.1 a2)) (
    some false)) (
   some true))
theorem aYw(a0:Xq)(a1:Bz)(a2:X0):Le (aYv a0 a1 a2) (Zq a0 a1 a2):=by unfold aYv Zq;repeat' (first|exact aXh _ _|refine AZ ?_ fun _=>?_|refine BH ?_ ?_|exact Le.refl _)
def OM(s6:Int)(s11:List X5)(s12:Int)(s13:Int)(w2:Xq)(w3:X0):Option (Int):=
 AU s11 s13 fun x1=>
 AE (decide (x1.event=w2.d_)) (
  AU x1.args w2.at_ fun x2=>
  AG (aYv w2 x2 w3) fun r3=>
  AG (ON s6 s13 s11 s12 s13 r3 w2 w3) fun o4=>
  some o4) (
  AG (ON s6 s13 s11 s12 s13 false w2 w3) fun o5=>
  some o5)
theorem aG5(s6:Int)(s11:List X5)(s12:Int)(s13:Int)(w2:Xq)(w3:X0):Le (OM s6 s11 s12 s13 w2 w3) (SA s6 s11 s12 s13 w2 w3):=by unfold OM SA;repeat' (first|exact aYw _ _ _|refine AZ ?_ fun _=>?_|refine BH ?_ ?_|refine Cq fun _=>?_|exact Le.refl _)
def IW(s11:List X5)(s12:Int)(w2:Xq)(w3:X0)(s6:Int)(s13:Int):Option ((Int×Int)⊕(Int)):=
 AE (decide (s13<s12)) (
  AG (OM s6 s11 s12 s13 w2 w3) fun o6=>
  some (.inl (o6,(AA .add .i64 s13 1)))) (
  some (.inr s6))
theorem SB(s11:List X5)(s12:Int)(w2:Xq)(w3:X0)(s6:Int)(s13:Int):Le (IW s11 s12 w2 w3 s6 s13) (Fy s11 s12 w2 w3 s6 s13):=by unfold IW Fy;repeat' (first|exact aG5 _ _ _ _ _ _|refine AZ ?_ fun _=>?_|refine BH ?_ ?_|exact Le.refl _)
def OO(s11:List X5)(s12:Int)(w2:Xq)(w3:X0)(s6:Int)(s13:Int):Option (Int):=itE (fun s:Int×Int=>IW s11 s12 w2 w3 s.1 s.2) 70 (s6,s13)
theorem aG7(s11:List X5)(s12:Int)(w2:Xq)(w3:X0)(s6:Int)(s13:Int):Le (OO s11 s12 w2 w3 s6 s13) (Vd s11 s12 w2 w3 s6 s13):=by unfold OO Vd;repeat' (first|exact SB _ _ _ _ _ _|refine BE (fun _=>?_) _ _|exact Le.refl _)
def aWh(a0:Xq)(a1:X0):Option (Int):=
 AG (OO a0.q.symbols (a0.q.symbols.length:Int) a0 a1 0 0) fun o7=>
 some o7
theorem aWi(a0:Xq)(a1:X0):Le (aWh a0 a1) (Xu a0 a1):=by unfold aWh Xu;repeat' (first|exact aG7 _ _ _ _ _ _|refine AZ ?_ fun _=>?_|exact Le.refl _)
def N9(s8:Int)(s12:List X0)(s13:Int)(s14:Int)(w0:List (Int×Bool))(w3:Xq)(w5:List (Int×Bool)):Option ((List (Int×Bool))):=MW (IL s8 s12 s13 s14 w0 w3) w0 (fun(x:Int×Bool) (s:(List (Int×Bool)))=>Ft s8 s12 s13 s14 w0 w3 x.1 x.2 s) w5
theorem aFy(s8:Int)(s12:List X0)(s13:Int)(s14:Int)(w0:List (Int×Bool))(w3:Xq)(w5:List (Int×Bool)):Le (N9 s8 s12 s13 s14 w0 w3 w5) (U1 s8 s12 s13 s14 w0 w3 w5):=by unfold N9 U1;repeat' (first|refine LQ fun _ _=>?_|exact Le.refl _)
def N7(s8:Int)(s12:List X0)(s13:Int)(s14:Int)(w0:List (Int×Bool))(w3:Xq)(w5:List (Int×Bool)):Option ((List (Int×Bool))):=
 AG (N9 s8 s12 s13 s14 w0 w3 w5) fun o4=>
 some o4
theorem aFu(s8:Int)(s12:List X0)(s13:Int)(s14:Int)(w0:List (Int×Bool))(w3:Xq)(w5:List (Int×Bool)):Le (N7 s8 s12 s13 s14 w0 w3 w5) (Ry s8 s12 s13 s14 w0 w3 w5):=by unfold N7 Ry;repeat' (first|exact aFy _ _ _ _ _ _ _|refine AZ ?_ fun _=>?_|exact Le.refl _)
def IK(s12:List X0)(s13:Int)(w0:List (Int×Bool))(w3:Xq)(s14:Int)(w5:List (Int×Bool)):Option ((Int×(List (Int×Bool)))⊕((List (Int×Bool)))):=
 AE (decide (s14<s13)) (
  AU s12 s14 fun x2=>
  AG (aWh w3 x2) fun r3=>
  AG (N7 r3 s12 s13 s14 w0 w3 w5) fun o5=>
  some (.inl ((AA .add .i64 s14 1),o5))) (
  some (.inr w5))
theorem Rz(s12:List X0)(s13:Int)(w0:List (Int×Bool))(w3:Xq)(s14:Int)(w5:List (Int×Bool)):Le (IK s12 s13 w0 w3 s14 w5) (Fs s12 s13 w0 w3 s14 w5):=by unfold IK Fs;repeat' (first|exact aWi _ _|exact aFu _ _ _ _ _ _ _|refine AZ ?_ fun _=>?_|refine BH ?_ ?_|refine Cq fun _=>?_|exact Le.refl _)
def N8(s12:List X0)(s13:Int)(w0:List (Int×Bool))(w3:Xq)(s14:Int)(w5:List (Int×Bool)):Option ((List (Int×Bool))):=itE (fun s:Int×(List (Int×Bool))=>IK s12 s13 w0 w3 s.1 s.2) 70 (s14,w5)
theorem aFw(s12:List X0)(s13:Int)(w0:List (Int×Bool))(w3:Xq)(s14:Int)(w5:List (Int×Bool)):Le (N8 s12 s13 w0 w3 s14 w5) (Uy s12 s13 w0 w3 s14 w5):=by unfold N8 Uy;repeat' (first|exact Rz _ _ _ _ _ _|refine BE (fun _=>?_) _ _|exact Le.refl _)
def aV0(a1:Xq)(w0:List (Int×Bool)):Option ((List (Int×Bool))):=
 AG (aWa a1 ([]:List X0)) fun r1=>
 AG (N8 r1 (r1.length:Int) w0 a1 0 ([]:List (Int×Bool))) fun o6=>
 some o6
theorem aV1(a1:Xq)(w0:List (Int×Bool)):Le (aV0 a1 w0) (Xi a1 w0):=by unfold aV0 Xi;repeat' (first|exact aWb _ _|exact aFw _ _ _ _ _ _|refine AZ ?_ fun _=>?_|exact Le.refl _)
def Ht(s1:List X2)(s6:Int)(s15:Int)(s16:Int)(s30:Int)(w2:AD)(w5:List (Int×Bool))(s31:Int)(w7:List (Int×Bool)):Option ((Int×(List (Int×Bool)))⊕((List (Int×Bool)))):=
 AE (decide (s31<s30)) (
  AG (aV0 (Xq.mk w2 s1 s6 s31) w7) fun r3=>
  some (.inl ((AA .add .i64 s31 1),r3))) (
  some (.inr w7))
theorem Ra(s1:List X2)(s6:Int)(s15:Int)(s16:Int)(s30:Int)(w2:AD)(w5:List (Int×Bool))(s31:Int)(w7:List (Int×Bool)):Le (Ht s1 s6 s15 s16 s30 w2 w5 s31 w7) (Fm s1 s6 s15 s16 s30 w2 w5 s31 w7):=by unfold Ht Fm;repeat' (first|exact aV1 _ _|refine AZ ?_ fun _=>?_|refine BH ?_ ?_|exact Le.refl _)
def NX(s1:List X2)(s6:Int)(s15:Int)(s16:Int)(s30:Int)(w2:AD)(w5:List (Int×Bool))(s31:Int)(w7:List (Int×Bool)):Option ((List (Int×Bool))):=itE (fun s:Int×(List (Int×Bool))=>Ht s1 s6 s15 s16 s30 w2 w5 s.1 s.2) 70 (s31,w7)
theorem aDj(s1:List X2)(s6:Int)(s15:Int)(s16:Int)(s30:Int)(w2:AD)(w5:List (Int×Bool))(s31:Int)(w7:List (Int×Bool)):Le (NX s1 s6 s15 s16 s30 w2 w5 s31 w7) (Tc s1 s6 s15 s16 s30 w2 w5 s31 w7):=by unfold NX Tc;repeat' (first|exact Ra _ _ _ _ _ _ _ _ _|refine BE (fun _=>?_) _ _|exact Le.refl _)
def NY(s1:List X2)(s15:Int)(s16:Int)(w2:AD)(w7:List (Int×Bool))(w5:List (Int×Bool)):Option ((List (Int×Bool))):=MW (Hu s1 s15 s16 w2 w7) w7 (fun(x:Int×Bool) (s:(List (Int×Bool)))=>Gg s1 s15 s16 w2 w7 x.1 x.2 s) w5
theorem aDl(s1:List X2)(s15:Int)(s16:Int)(w2:AD)(w7:List (Int×Bool))(w5:List (Int×Bool)):Le (NY s1 s15 s16 w2 w7 w5) (Tf s1 s15 s16 w2 w7 w5):=by unfold NY Tf;repeat' (first|refine LQ fun _ _=>?_|exact Le.refl _)
def NU(s1:List X2)(s15:Int)(s16:Int)(w2:AD)(w5:List (Int×Bool))(w7:List (Int×Bool)):Option ((List (Int×Bool))):=
 AG (NY s1 s15 s16 w2 w7 w5) fun o5=>
 some o5
theorem aDd(s1:List X2)(s15:Int)(s16:Int)(w2:AD)(w5:List (Int×Bool))(w7:List (Int×Bool)):Le (NU s1 s15 s16 w2 w5 w7) (RX s1 s15 s16 w2 w5 w7):=by unfold NU RX;repeat' (first|exact aDl _ _ _ _ _ _|refine AZ ?_ fun _=>?_|exact Le.refl _)
def Hs(s1:List X2)(s15:Int)(w2:AD)(s16:Int)(w5:List (Int×Bool)):Option ((Int×(List (Int×Bool)))⊕((List (Int×Bool)))):=
 AE (decide (s16<s15)) (
  AG (aWu w2 s16) fun r1=>
  AU w2.decls s16 fun x2=>
  AG (NX s1 s16 s15 s16 (x2.types.length:Int) w2 w5 0 (GC r1 true ([]:List (Int×Bool)))) fun o4=>
  AG (NU s1 s15 s16 w2 w5 o4) fun o6=>
  some (.inl ((AA .add .i64 s16 1),o6))) (
  some (.inr w5))
theorem RZ(s1:List X2)(s15:Int)(w2:AD)(s16:Int)(w5:List (Int×Bool)):Le (Hs s1 s15 w2 s16 w5) (Fl s1 s15 w2 s16 w5):=by unfold Hs Fl;repeat' (first|exact aWv _ _|exact aDj _ _ _ _ _ _ _ _ _|exact aDd _ _ _ _ _ _|refine AZ ?_ fun _=>?_|refine BH ?_ ?_|refine Cq fun _=>?_|exact Le.refl _)
def NW(s1:List X2)(s15:Int)(w2:AD)(s16:Int)(w5:List (Int×Bool)):Option ((List (Int×Bool))):=itE (fun s:Int×(List (Int×Bool))=>Hs s1 s15 w2 s.1 s.2) 70 (s16,w5)
theorem aDh(s1:List X2)(s15:Int)(w2:AD)(s16:Int)(w5:List (Int×Bool)):Le (NW s1 s15 w2 s16 w5) (TZ s1 s15 w2 s16 w5):=by unfold NW TZ;repeat' (first|exact RZ _ _ _ _ _|refine BE (fun _=>?_) _ _|exact Le.refl _)
def NZ(w5:List (Int×Bool))(w10:List Int):Option (List Int):=MW (Km w5) w5 (fun(x:Int×Bool) (s:List Int)=>Eu w5 x.1 x.2 s) w10
theorem aDn(w5:List (Int×Bool))(w10:List Int):Le (NZ w5 w10) (Ti w5 w10):=by unfold NZ Ti;repeat' (first|refine LQ fun _ _=>?_|exact Le.refl _)
def NV(w5:List (Int×Bool)):Option ((List Int)):=
 AG (NZ w5 ([]:List Int)) fun o8=>
 some o8
theorem aDf(w5:List (Int×Bool)):Le (NV w5) (RY w5):=by unfold NV RY;repeat' (first|exact aDn _ _|refine AZ ?_ fun _=>?_|exact Le.refl _)
def aSg(a0:AD)(a1:List X2):Option (List Int):=
 AG (NW a1 (a0.decls.length:Int) a0 0 ([]:List (Int×Bool))) fun o7=>
 AG (NV (NI 0 o7)) fun o9=>
 AG (TC o9) fun r10=>
 some r10
theorem aOl(a0:AD)(a1:List X2):Le (aSg a0 a1) (X4 a0 a1):=by unfold aSg X4;repeat' (first|exact aDh _ _ _ _ _|exact aDf _|exact aMt _|refine AZ ?_ fun _=>?_|exact Le.refl _)
def Nr(s1:Int)(s2:Int)(s7:Int)(s8:Int)(s14:List Xg)(s15:Int)(s16:Int)(s28:List Xr)(s29:Int)(w3:AD)(w9:Xg)(s10:Int)(s30:Int):Option (Int):=itE (fun s:Int×Int=>Gp s1 s2 s7 s8 s14 s15 s16 s28 s29 w3 w9 s.1 s.2) 70 (s10,s30)
theorem aEr(s1:Int)(s2:Int)(s7:Int)(s8:Int)(s14:List Xg)(s15:Int)(s16:Int)(s28:List Xr)(s29:Int)(w3:AD)(w9:Xg)(s10:Int)(s30:Int):Le (Nr s1 s2 s7 s8 s14 s15 s16 s28 s29 w3 w9 s10 s30) (Rq s1 s2 s7 s8 s14 s15 s16 s28 s29 w3 w9 s10 s30):=by unfold Nr Rq;repeat' (first|refine BE (fun _=>?_) _ _|exact Le.refl _)
def Np(s1:Int)(s2:Int)(s7:Int)(s14:List Xg)(s15:Int)(s16:Int)(w3:AD):Option (Int):=
 AU s14 s16 fun x1=>
 AV (0<=(IntKind.wrap .u64 s16)) (
  AE (decide ((AA .and .u32 s1 (AA .shl .u32 1 (IntKind.wrap .u64 s16)))=0)) (
   some s7) (
   AG (Nr s1 s2 s7 s16 s14 s15 s16 w3.trans (w3.trans.length:Int) w3 x1 0 0) fun o6=>
   AE (decide (o6=0)) (
    AG (Kq s1 s2 s7 s16 o6 s14 s15 s16 (!x1.next) w3) fun o7=>
    some (AA .or .u32 s7 o7)) (
    AG (Kq s1 s2 s7 s16 o6 s14 s15 s16 false w3) fun o8=>
    some (AA .or .u32 s7 o8))))
theorem aEl(s1:Int)(s2:Int)(s7:Int)(s14:List Xg)(s15:Int)(s16:Int)(w3:AD):Le (Np s1 s2 s7 s14 s15 s16 w3) (Ro s1 s2 s7 s14 s15 s16 w3):=by unfold Np Ro;repeat' (first|exact aEr _ _ _ _ _ _ _ _ _ _ _ _ _|refine AZ ?_ fun _=>?_|refine BH ?_ ?_|refine E4 ?_|refine Cq fun _=>?_|exact Le.refl _)
def H4(s1:Int)(s2:Int)(s14:List Xg)(s15:Int)(w3:AD)(s7:Int)(s16:Int):Option ((Int×Int)⊕(Int)):=
 AE (decide (s16<s15)) (
  AG (Np s1 s2 s7 s14 s15 s16 w3) fun o9=>
  some (.inl (o9,(AA .add .i64 s16 1)))) (
  some (.inr s7))
theorem Rp(s1:Int)(s2:Int)(s14:List Xg)(s15:Int)(w3:AD)(s7:Int)(s16:Int):Le (H4 s1 s2 s14 s15 w3 s7 s16) (Ew s1 s2 s14 s15 w3 s7 s16):=by unfold H4 Ew;repeat' (first|exact aEl _ _ _ _ _ _ _|refine AZ ?_ fun _=>?_|refine BH ?_ ?_|exact Le.refl _)
def Nq(s1:Int)(s2:Int)(s14:List Xg)(s15:Int)(w3:AD)(s7:Int)(s16:Int):Option (Int):=itE (fun s:Int×Int=>H4 s1 s2 s14 s15 w3 s.1 s.2) 70 (s7,s16)
theorem aEp(s1:Int)(s2:Int)(s14:List Xg)(s15:Int)(w3:AD)(s7:Int)(s16:Int):Le (Nq s1 s2 s14 s15 w3 s7 s16) (UC s1 s2 s14 s15 w3 s7 s16):=by unfold Nq UC;repeat' (first|exact Rp _ _ _ _ _ _ _|refine BE (fun _=>?_) _ _|exact Le.refl _)
def aRs(a0:AD)(a1:Int)(a2:Int):Option (Int):=
 AG (Nq a1 a2 a0.states (a0.states.length:Int) a0 0 0) fun o10=>
 some o10
theorem aOp(a0:AD)(a1:Int)(a2:Int):Le (aRs a0 a1 a2) (X9 a0 a1 a2):=by unfold aRs X9;repeat' (first|exact aEp _ _ _ _ _ _ _|refine AZ ?_ fun _=>?_|exact Le.refl _)
def OE(s11:List Int)(s12:Int)(s44:List Int)(s45:Int)(s46:Int)(w4:AD)(w8:List Int)(w9:MP Int Int)(w10:MP Int Int):Option ((List Int×MP Int Int×MP Int Int)):=
 AU s44 s46 fun x4=>
 AV (0<=s12/\s12+1<=(w8.length:Int)) (
  AU w8 s12 fun x5=>
  AG (aRs w4 x5 x4) fun r6=>
  AG (aF8 s11 s12 x4 r6 s44 s45 s46 (!((BJ 0 w9 r6).2)) w4 w8 w9 w10) fun o8=>
  some (o8.1,o8.2.1,o8.2.2))
theorem aF6(s11:List Int)(s12:Int)(s44:List Int)(s45:Int)(s46:Int)(w4:AD)(w8:List Int)(w9:MP Int Int)(w10:MP Int Int):Le (OE s11 s12 s44 s45 s46 w4 w8 w9 w10) (VA s11 s12 s44 s45 s46 w4 w8 w9 w10):=by unfold OE VA;repeat' (first|exact aOp _ _ _|refine AZ ?_ fun _=>?_|refine E4 ?_|refine Cq fun _=>?_|exact Le.refl _)
def IN(s11:List Int)(s12:Int)(s44:List Int)(s45:Int)(w4:AD)(s46:Int)(w8:List Int)(w9:MP Int Int)(w10:MP Int Int):Option ((Int×List Int×MP Int Int×MP Int Int)⊕((List Int×MP Int Int×MP Int Int))):=
 AE (decide (s46<s45)) (
  AG (OE s11 s12 s44 s45 s46 w4 w8 w9 w10) fun o9=>
  some (.inl ((AA .add .i64 s46 1),o9.1,o9.2.1,o9.2.2))) (
  some (.inr (w8,w9,w10)))
theorem R1(s11:List Int)(s12:Int)(s44:List Int)(s45:Int)(w4:AD)(s46:Int)(w8:List Int)(w9:MP Int Int)(w10:MP Int Int):Le (IN s11 s12 s44 s45 w4 s46 w8 w9 w10) (Kw s11 s12 s44 s45 w4 s46 w8 w9 w10):=by unfold IN Kw;repeat' (first|exact aF6 _ _ _ _ _ _ _ _ _|refine AZ ?_ fun _=>?_|refine BH ?_ ?_|exact Le.refl _)
def OG(s11:List Int)(s12:Int)(s44:List Int)(s45:Int)(w4:AD)(s46:Int)(w8:List Int)(w9:MP Int Int)(w10:MP Int Int):Option ((List Int×MP Int Int×MP Int Int)):=itE (fun s:Int×List Int×MP Int Int×MP Int Int=>IN s11 s12 s44 s45 w4 s.1 s.2.1 s.2.2.1 s.2.2.2) 70 (s46,w8,w9,w10)
theorem aGe(s11:List Int)(s12:Int)(s44:List Int)(s45:Int)(w4:AD)(s46:Int)(w8:List Int)(w9:MP Int Int)(w10:MP Int Int):Le (OG s11 s12 s44 s45 w4 s46 w8 w9 w10) (aGd s11 s12 s44 s45 w4 s46 w8 w9 w10):=by unfold OG aGd;repeat' (first|exact R1 _ _ _ _ _ _ _ _ _|refine BE (fun _=>?_) _ _|exact Le.refl _)
def IM(s11:List Int)(w4:AD)(s12:Int)(w8:List Int)(w9:MP Int Int)(w10:MP Int Int):Option ((Int×List Int×MP Int Int×MP Int Int)⊕((List Int×MP Int Int×MP Int Int))):=
 AE (decide (s12<(w8.length:Int))) (
  AV (0<=s12/\s12+1<=(w8.length:Int)) (
   AU w8 s12 fun x2=>
   AG (Qp x2) fun r3=>
   AE (r3) (
    AV (0<=(AA .add .i64 s12 1)/\(AA .add .i64 s12 1)<=(w8.length:Int)) (
     some (.inr (w8.take ((AA .add .i64 s12 1)).toNat,w9,w10)))) (
    AG (OG s11 s12 s11 (s11.length:Int) w4 0 w8 w9 w10) fun o10=>
    some (.inl ((AA .add .i64 s12 1),o10.1,o10.2.1,o10.2.2))))) (
  some (.inr (w8,w9,w10)))
theorem R0(s11:List Int)(w4:AD)(s12:Int)(w8:List Int)(w9:MP Int Int)(w10:MP Int Int):Le (IM s11 w4 s12 w8 w9 w10) (Kv s11 w4 s12 w8 w9 w10):=by unfold IM Kv;repeat' (first|exact aGe _ _ _ _ _ _ _ _ _|refine AZ ?_ fun _=>?_|refine BH ?_ ?_|refine E4 ?_|refine Cq fun _=>?_|exact Le.refl _)
def OF(s11:List Int)(w4:AD)(s12:Int)(w8:List Int)(w9:MP Int Int)(w10:MP Int Int):Option ((List Int×MP Int Int×MP Int Int)):=itE (fun s:Int×List Int×MP Int Int×MP Int Int=>IM s11 w4 s.1 s.2.1 s.2.2.1 s.2.2.2) 70 (s12,w8,w9,w10)
theorem aGb(s11:List Int)(w4:AD)(s12:Int)(w8:List Int)(w9:MP Int Int)(w10:MP Int Int):Le (OF s11 w4 s12 w8 w9 w10) (aGa s11 w4 s12 w8 w9 w10):=by unfold OF aGa;repeat' (first|exact R0 _ _ _ _ _ _|refine BE (fun _=>?_) _ _|exact Le.refl _)
def aV6(a0:AD)(a1:List X2)(a2:Int):Option (List Int×MP Int Int×MP Int Int):=
 AG (aSg a0 a1) fun r1=>
 AG (OF r1 a0 0 [a2] (DY (Ee:MP Int Int) a2 a2) (Ee:MP Int Int)) fun o11=>
 some (o11.1,o11.2.1,o11.2.2)
theorem aV7(a0:AD)(a1:List X2)(a2:Int):Le (aV6 a0 a1 a2) (Xm a0 a1 a2):=by unfold aV6 Xm;repeat' (first|exact aOl _ _|exact aGb _ _ _ _ _ _|refine AZ ?_ fun _=>?_|exact Le.refl _)
def aYy(a0:AD)(a1:List X2)(a2:Int):Option (List Int):=
 AG (aV6 a0 a1 a2) fun r1=>
 AG (TC r1.1) fun r2=>
 some r2
theorem aYz(a0:AD)(a1:List X2)(a2:Int):Le (aYy a0 a1 a2) (Zv a0 a1 a2):=by unfold aYy Zv;repeat' (first|exact aV7 _ _ _|exact aCb _|refine AZ ?_ fun _=>?_|exact Le.refl _)
def OT(s1:Int)(s8:List Xg)(s9:Int)(s10:Int):Option (Unit⊕Unit):=itE (fun s:Int=>G4 s1 s8 s9 s) 70 s10
theorem aIm(s1:Int)(s8:List Xg)(s9:Int)(s10:Int):Le (OT s1 s8 s9 s10) (WY s1 s8 s9 s10):=by unfold OT WY;repeat' (first|refine BE (fun _=>?_) _ _|exact Le.refl _)
def aSy(a0:AD)(a1:Int):Option (Bool):=
 AG (OT a1 a0.states (a0.states.length:Int) 0) fun o2=>
 Cd o2 (fun o3=>
  some false) (fun o4=>
  some true)
theorem aSz(a0:AD)(a1:Int):Le (aSy a0 a1) (Y8 a0 a1):=by unfold aSy Y8;repeat' (first|exact aIm _ _ _ _|refine AZ ?_ fun _=>?_|refine Ln (fun _=>?_) fun _=>?_|exact Le.refl _)
def Ii(s1:Int)(s21:List Int)(s22:Int)(w0:MP Int Int)(w5:AD)(s23:Int)(w11:List UInt8):Option ((Int×List UInt8)⊕((List UInt8))):=
 AE (decide (s23<s22)) (
  AU s21 s23 fun x1=>
  AG (aRs w5 s1 x1) fun r2=>
  AV (fit w11.length [u8w ((BJ 0 w0 r2).1),u8w (AA .shr .i64 ((BJ 0 w0 r2).1) 8)].length 1) (
   some (.inl ((AA .add .i64 s23 1),w11++[u8w ((BJ 0 w0 r2).1),u8w (AA .shr .i64 ((BJ 0 w0 r2).1) 8)])))) (
  some (.inr w11))
theorem SO(s1:Int)(s21:List Int)(s22:Int)(w0:MP Int Int)(w5:AD)(s23:Int)(w11:List UInt8):Le (Ii s1 s21 s22 w0 w5 s23 w11) (Kz s1 s21 s22 w0 w5 s23 w11):=by unfold Ii Kz;repeat' (first|exact aOp _ _ _|refine AZ ?_ fun _=>?_|refine BH ?_ ?_|refine E4 ?_|refine Cq fun _=>?_|exact Le.refl _)
def OW(s1:Int)(s21:List Int)(s22:Int)(w0:MP Int Int)(w5:AD)(s23:Int)(w11:List UInt8):Option ((List UInt8)):=itE (fun s:Int×List UInt8=>Ii s1 s21 s22 w0 w5 s.1 s.2) 70 (s23,w11)
theorem aI5(s1:Int)(s21:List Int)(s22:Int)(w0:MP Int Int)(w5:AD)(s23:Int)(w11:List UInt8):Le (OW s1 s21 s22 w0 w5 s23 w11) (aI4 s1 s21 s22 w0 w5 s23 w11):=by unfold OW aI4;repeat' (first|exact SO _ _ _ _ _ _ _|refine BE (fun _=>?_) _ _|exact Le.refl _)
def aW6(a0:AD)(a1:Int)(a2:Int)(a3:List Int)(w0:MP Int Int):Option (List UInt8×MP Int Int):=
 AG (OW a1 a3 (a3.length:Int) w0 a0 0 [u8w a2,u8w (AA .shr .i64 a2 8)]) fun o3=>
 some (o3,w0)
theorem aW7(a0:AD)(a1:Int)(a2:Int)(a3:List Int)(w0:MP Int Int):Le (aW6 a0 a1 a2 a3 w0) (Yc a0 a1 a2 a3 w0):=by unfold aW6 Yc;repeat' (first|exact aI5 _ _ _ _ _ _ _|refine AZ ?_ fun _=>?_|exact Le.refl _)
def OU(s13:List (List UInt8))(s14:Int)(s15:Int)(w3:MP (List UInt8) Int)(w4:List Int):Option ((List Int)):=itE (fun s:Int×MP (List UInt8) Int×List Int=>OV s13 s14 s.1 s.2.1 s.2.2) 70 (s15,w3,w4)
theorem aIr(s13:List (List UInt8))(s14:Int)(s15:Int)(w3:MP (List UInt8) Int)(w4:List Int):Le (OU s13 s14 s15 w3 w4) (aIq s13 s14 s15 w3 w4):=by unfold OU aIq;repeat' (first|refine BE (fun _=>?_) _ _|exact Le.refl _)
def aW0(a0:List (List UInt8)):Option (List Int):=
 AV (0<=(a0.length:Int)/\fit 0 (a0.length:Int).toNat 8) (
  AG (OU a0 (a0.length:Int) 0 (Ee:MP (List UInt8) Int) (List.replicate (a0.length:Int).toNat 0)) fun o4=>
  some o4)
theorem aW1(a0:List (List UInt8)):Le (aW0 a0) (Y9 a0):=by unfold aW0 Y9;repeat' (first|exact aIr _ _ _ _ _|refine AZ ?_ fun _=>?_|refine E4 ?_|exact Le.refl _)
def Od(s0:List Int)(s1:List Int)(s12:Int)(s13:Int):Option (Unit⊕Unit):=itE (fun s:Int=>Oe s0 s1 s12 s) 70 s13
theorem aKc(s0:List Int)(s1:List Int)(s12:Int)(s13:Int):Le (Od s0 s1 s12 s13) (aKb s0 s1 s12 s13):=by unfold Od aKb;repeat' (first|refine BE (fun _=>?_) _ _|exact Le.refl _)
def aXs(a0:List Int)(a1:List Int):Option (Bool):=
 AE (!decide ((a0.length:Int)=(a1.length:Int))) (
  some false) (
  AG (Od a0 a1 (a0.length:Int) 0) fun o3=>
  Cd o3 (fun o4=>
   some true) (fun o5=>
   some false))
theorem aXt(a0:List Int)(a1:List Int):Le (aXs a0 a1) (Yt a0 a1):=by unfold aXs Yt;repeat' (first|exact aKc _ _ _ _|refine AZ ?_ fun _=>?_|refine BH ?_ ?_|refine Ln (fun _=>?_) fun _=>?_|exact Le.refl _)
def Na(s8:List Int)(s9:List Int)(s30:List Int)(s31:Int)(s32:Int)(w3:AD)(w10:List Int):Option ((List Int)):=
 AU s30 s32 fun x3=>
 AG (aSy w3 x3) fun r4=>
 AG (aDr s8 s9 s32 s30 s31 s32 r4 w3 w10) fun o5=>
 some o5
theorem aDp(s8:List Int)(s9:List Int)(s30:List Int)(s31:Int)(s32:Int)(w3:AD)(w10:List Int):Le (Na s8 s9 s30 s31 s32 w3 w10) (Tl s8 s9 s30 s31 s32 w3 w10):=by unfold Na Tl;repeat' (first|exact aSz _ _|refine AZ ?_ fun _=>?_|refine Cq fun _=>?_|exact Le.refl _)
def Hv(s8:List Int)(s9:List Int)(s30:List Int)(s31:Int)(w3:AD)(s32:Int)(w10:List Int):Option ((Int×List Int)⊕((List Int))):=
 AE (decide (s32<s31)) (
  AG (Na s8 s9 s30 s31 s32 w3 w10) fun o6=>
  some (.inl ((AA .add .i64 s32 1),o6))) (
  some (.inr w10))
theorem Rb(s8:List Int)(s9:List Int)(s30:List Int)(s31:Int)(w3:AD)(s32:Int)(w10:List Int):Le (Hv s8 s9 s30 s31 w3 s32 w10) (Kn s8 s9 s30 s31 w3 s32 w10):=by unfold Hv Kn;repeat' (first|exact aDp _ _ _ _ _ _ _|refine AZ ?_ fun _=>?_|refine BH ?_ ?_|exact Le.refl _)
def Nb(s8:List Int)(s9:List Int)(s30:List Int)(s31:Int)(w3:AD)(s32:Int)(w10:List Int):Option ((List Int)):=itE (fun s:Int×List Int=>Hv s8 s9 s30 s31 w3 s.1 s.2) 70 (s32,w10)
theorem aDu(s8:List Int)(s9:List Int)(s30:List Int)(s31:Int)(w3:AD)(s32:Int)(w10:List Int):Le (Nb s8 s9 s30 s31 w3 s32 w10) (aDt s8 s9 s30 s31 w3 s32 w10):=by unfold Nb aDt;repeat' (first|exact Rb _ _ _ _ _ _ _|refine BE (fun _=>?_) _ _|exact Le.refl _)
def Nd(s8:List Int)(s9:List Int)(s10:List Int)(s45:List Int)(s46:Int)(w3:AD)(s47:Int)(w13:MP Int Int):Option ((MP Int Int)):=itE (fun s:Int×MP Int Int=>Nf s8 s9 s10 s45 s46 w3 s.1 s.2) 70 (s47,w13)
theorem aD0(s8:List Int)(s9:List Int)(s10:List Int)(s45:List Int)(s46:Int)(w3:AD)(s47:Int)(w13:MP Int Int):Le (Nd s8 s9 s10 s45 s46 w3 s47 w13) (aDz s8 s9 s10 s45 s46 w3 s47 w13):=by unfold Nd aDz;repeat' (first|refine BE (fun _=>?_) _ _|exact Le.refl _)
def Hy(s8:List Int)(s9:List Int)(s10:List Int)(s59:List Int)(s60:Int)(w3:AD)(s61:Int)(w13:MP Int Int)(w16:List (List UInt8)):Option ((Int×MP Int Int×List (List UInt8))⊕((List (List UInt8)))):=
 AE (decide (s61<s60)) (
  AU s59 s61 fun x26=>
  AU s10 s61 fun x27=>
  AG (aW6 w3 x26 x27 s9 w13) fun r28=>
  AV (fit w16.length [r28.1].length 16) (
   some (.inl ((AA .add .i64 s61 1),r28.2,w16++[r28.1])))) (
  some (.inr w16))
theorem Rf(s8:List Int)(s9:List Int)(s10:List Int)(s59:List Int)(s60:Int)(w3:AD)(s61:Int)(w13:MP Int Int)(w16:List (List UInt8)):Le (Hy s8 s9 s10 s59 s60 w3 s61 w13 w16) (Kp s8 s9 s10 s59 s60 w3 s61 w13 w16):=by unfold Hy Kp;repeat' (first|exact aW7 _ _ _ _ _|refine AZ ?_ fun _=>?_|refine BH ?_ ?_|refine E4 ?_|refine Cq fun _=>?_|exact Le.refl _)
def Ng(s8:List Int)(s9:List Int)(s10:List Int)(s59:List Int)(s60:Int)(w3:AD)(s61:Int)(w13:MP Int Int)(w16:List (List UInt8)):Option ((List (List UInt8))):=itE (fun s:Int×MP Int Int×List (List UInt8)=>Hy s8 s9 s10 s59 s60 w3 s.1 s.2.1 s.2.2) 70 (s61,w13,w16)
theorem aD3(s8:List Int)(s9:List Int)(s10:List Int)(s59:List Int)(s60:Int)(w3:AD)(s61:Int)(w13:MP Int Int)(w16:List (List UInt8)):Le (Ng s8 s9 s10 s59 s60 w3 s61 w13 w16) (aD2 s8 s9 s10 s59 s60 w3 s61 w13 w16):=by unfold Ng aD2;repeat' (first|exact Rf _ _ _ _ _ _ _ _ _|refine BE (fun _=>?_) _ _|exact Le.refl _)
def Hx(s8:List Int)(s9:List Int)(w3:AD)(s10:List Int):Option ((List Int)⊕((List Int))):=
 AG (Nd s8 s9 s10 s8 (s8.length:Int) w3 0 (Ee:MP Int Int)) fun o22=>
 AG (Ng s8 s9 s10 s8 (s8.length:Int) w3 0 o22 ([]:List (List UInt8))) fun o29=>
 AG (aW0 o29) fun r30=>
 AG (aXs r30 s10) fun r31=>
 AE (r31) (
  some (.inr s10)) (
  some (.inl r30))
theorem Re(s8:List Int)(s9:List Int)(w3:AD)(s10:List Int):Le (Hx s8 s9 w3 s10) (Ko s8 s9 w3 s10):=by unfold Hx Ko;repeat' (first|exact aD0 _ _ _ _ _ _ _ _|exact aD3 _ _ _ _ _ _ _ _ _|exact aW1 _|exact aXt _ _|refine AZ ?_ fun _=>?_|refine BH ?_ ?_|exact Le.refl _)
def Nc(s8:List Int)(s9:List Int)(w3:AD)(s10:List Int):Option ((List Int)):=itE (fun s:List Int=>Hx s8 s9 w3 s) 70 s10
theorem aDx(s8:List Int)(s9:List Int)(w3:AD)(s10:List Int):Le (Nc s8 s9 w3 s10) (aDw s8 s9 w3 s10):=by unfold Nc aDw;repeat' (first|exact Re _ _ _ _|refine BE (fun _=>?_) _ _|exact Le.refl _)
def aVk(a0:AD)(a1:List X2)(a2:Int):Option (List Int×List Int):=
 AG (aYy a0 a1 a2) fun r1=>
 AG (aSg a0 a1) fun r2=>
 AV (0<=(r1.length:Int)/\fit 0 (r1.length:Int).toNat 8) (
  AG (Nb r1 r2 r1 (r1.length:Int) a0 0 (List.replicate (r1.length:Int).toNat 0)) fun o7=>
  AG (Nc r1 r2 a0 o7) fun o32=>
  some (r1,o32))
theorem aVl(a0:AD)(a1:List X2)(a2:Int):Le (aVk a0 a1 a2) (X6 a0 a1 a2):=by unfold aVk X6;repeat' (first|exact aYz _ _ _|exact aOl _ _|exact aDu _ _ _ _ _ _ _|exact aDx _ _ _ _|refine AZ ?_ fun _=>?_|refine E4 ?_|exact Le.refl _)
def OX(s0:List Int)(s3:Int)(s4:Int):Option (Int):=itE (fun s:Int×Int=>OY s0 s.1 s.2) 70 (s3,s4)
theorem aJa(s0:List Int)(s3:Int)(s4:Int):Le (OX s0 s3 s4) (aI9 s0 s3 s4):=by unfold OX aI9;repeat' (first|refine BE (fun _=>?_) _ _|exact Le.refl _)
def aW9(a0:List Int):Option (Int):=
 AG (aI7 a0 (decide ((a0.length:Int)<1))) fun o1=>
 AU a0 0 fun x2=>
 AG (OX a0 x2 1) fun o4=>
 some o4
theorem aXa(a0:List Int):Le (aW9 a0) (Yd a0):=by unfold aW9 Yd;repeat' (first|exact aJa _ _ _|refine AZ ?_ fun _=>?_|refine Cq fun _=>?_|exact Le.refl _)
def aY1(a0:AD)(a1:List X2):Option (Int):=
 AV (0<=(IntKind.wrap .u64 a0.start)) (
  AG (aVk a0 a1 (AA .shl .u32 1 (IntKind.wrap .u64 a0.start))) fun r1=>
  AG (aW9 r1.2) fun r2=>
  some (AA .add .i64 r2 1))
theorem aY2(a0:AD)(a1:List X2):Le (aY1 a0 a1) (Zw a0 a1):=by unfold aY1 Zw;repeat' (first|exact aVl _ _ _|exact aXa _|refine AZ ?_ fun _=>?_|refine E4 ?_|exact Le.refl _)
def Oc(s2:Int)(s3:Int)(w0:List Int):Option ((List Int)):=itE (fun s:Int×Int×List Int=>G7 s.1 s.2.1 s.2.2) 70 (s2,s3,w0)
theorem aJh(s2:Int)(s3:Int)(w0:List Int):Le (Oc s2 s3 w0) (Wy s2 s3 w0):=by unfold Oc Wy;repeat' (first|refine BE (fun _=>?_) _ _|exact Le.refl _)
def aXj(w0:List Int):Option (List Int):=
 AG (Oc 0 (AA .sub .i64 (w0.length:Int) 1) w0) fun o3=>
 some o3
theorem aXk(w0:List Int):Le (aXj w0) (Yi w0):=by unfold aXj Yi;repeat' (first|exact aJh _ _ _|refine AZ ?_ fun _=>?_|exact Le.refl _)
def Nh(s10:List Int)(s14:Int)(s15:Int)(s56:List Int)(s57:Int)(s58:Int)(w4:AD)(w11:X3)(w12:List X3)(w13:MP X3 Xe)(w16:X3):Option ((List X3×MP X3 Xe)):=
 AU s56 s58 fun x5=>
 AG (aRs w4 w16.a x5) fun r6=>
 AG (aRs w4 w16.b x5) fun r7=>
 AE (!((BJ (Xe.mk (X3.mk 0 0) 0) w13 (X3.mk r6 r7)).2)) (
  AG (Ni s10 s14 s15 x5 s56 s57 s58 (!decide ((X3.mk r6 r7).a=(X3.mk r6 r7).b)) w4 w11 w12 w13 w16 (X3.mk r6 r7)) fun o8=>
  some (o8.1,o8.2)) (
  AG (Ni s10 s14 s15 x5 s56 s57 s58 false w4 w11 w12 w13 w16 (X3.mk r6 r7)) fun o9=>
  some (o9.1,o9.2))
theorem aD5(s10:List Int)(s14:Int)(s15:Int)(s56:List Int)(s57:Int)(s58:Int)(w4:AD)(w11:X3)(w12:List X3)(w13:MP X3 Xe)(w16:X3):Le (Nh s10 s14 s15 s56 s57 s58 w4 w11 w12 w13 w16) (Rg s10 s14 s15 s56 s57 s58 w4 w11 w12 w13 w16):=by unfold Nh Rg;repeat' (first|exact aOp _ _ _|refine AZ ?_ fun _=>?_|refine BH ?_ ?_|refine Cq fun _=>?_|exact Le.refl _)
def H0(s10:List Int)(s14:Int)(s15:Int)(s56:List Int)(s57:Int)(w4:AD)(w11:X3)(w16:X3)(s58:Int)(w12:List X3)(w13:MP X3 Xe):Option ((Int×List X3×MP X3 Xe)⊕((List X3×MP X3 Xe))):=
 AE (decide (s58<s57)) (
  AG (Nh s10 s14 s15 s56 s57 s58 w4 w11 w12 w13 w16) fun o10=>
  some (.inl ((AA .add .i64 s58 1),o10.1,o10.2))) (
  some (.inr (w12,w13)))
theorem Rj(s10:List Int)(s14:Int)(s15:Int)(s56:List Int)(s57:Int)(w4:AD)(w11:X3)(w16:X3)(s58:Int)(w12:List X3)(w13:MP X3 Xe):Le (H0 s10 s14 s15 s56 s57 w4 w11 w16 s58 w12 w13) (Fo s10 s14 s15 s56 s57 w4 w11 w16 s58 w12 w13):=by unfold H0 Fo;repeat' (first|exact aD5 _ _ _ _ _ _ _ _ _ _ _|refine AZ ?_ fun _=>?_|refine BH ?_ ?_|exact Le.refl _)
def Nk(s10:List Int)(s14:Int)(s15:Int)(s56:List Int)(s57:Int)(w4:AD)(w11:X3)(w16:X3)(s58:Int)(w12:List X3)(w13:MP X3 Xe):Option ((List X3×MP X3 Xe)):=itE (fun s:Int×List X3×MP X3 Xe=>H0 s10 s14 s15 s56 s57 w4 w11 w16 s.1 s.2.1 s.2.2) 70 (s58,w12,w13)
theorem aD9(s10:List Int)(s14:Int)(s15:Int)(s56:List Int)(s57:Int)(w4:AD)(w11:X3)(w16:X3)(s58:Int)(w12:List X3)(w13:MP X3 Xe):Le (Nk s10 s14 s15 s56 s57 w4 w11 w16 s58 w12 w13) (Tw s10 s14 s15 s56 s57 w4 w11 w16 s58 w12 w13):=by unfold Nk Tw;repeat' (first|exact Rj _ _ _ _ _ _ _ _ _ _ _|refine BE (fun _=>?_) _ _|exact Le.refl _)
def Hz(s10:List Int)(s14:Int)(w4:AD)(w11:X3)(s15:Int)(w12:List X3)(w13:MP X3 Xe):Option ((Int×List X3×MP X3 Xe)⊕((Int×List X3×MP X3 Xe))):=
 AE (decide (s15<(w12.length:Int))) (
  AU w12 s15 fun x2=>
  AG (aSy w4 x2.a) fun r3=>
  AG (aSy w4 x2.b) fun r4=>
  AE (!(r3==r4)) (
   some (.inr (s15,w12,w13))) (
   AG (Nk s10 s14 s15 s10 (s10.length:Int) w4 w11 x2 0 w12 w13) fun o11=>
   some (.inl ((AA .add .i64 s15 1),o11.1,o11.2)))) (
  some (.inr (s14,w12,w13)))
theorem Ri(s10:List Int)(s14:Int)(w4:AD)(w11:X3)(s15:Int)(w12:List X3)(w13:MP X3 Xe):Le (Hz s10 s14 w4 w11 s15 w12 w13) (Ev s10 s14 w4 w11 s15 w12 w13):=by unfold Hz Ev;repeat' (first|exact aSz _ _|exact aD9 _ _ _ _ _ _ _ _ _ _ _|refine AZ ?_ fun _=>?_|refine BH ?_ ?_|refine Cq fun _=>?_|exact Le.refl _)
def Nj(s10:List Int)(s14:Int)(w4:AD)(w11:X3)(s15:Int)(w12:List X3)(w13:MP X3 Xe):Option ((Int×List X3×MP X3 Xe)):=itE (fun s:Int×List X3×MP X3 Xe=>Hz s10 s14 w4 w11 s.1 s.2.1 s.2.2) 70 (s15,w12,w13)
theorem aD7(s10:List Int)(s14:Int)(w4:AD)(w11:X3)(s15:Int)(w12:List X3)(w13:MP X3 Xe):Le (Nj s10 s14 w4 w11 s15 w12 w13) (Rh s10 s14 w4 w11 s15 w12 w13):=by unfold Nj Rh;repeat' (first|exact Ri _ _ _ _ _ _ _|refine BE (fun _=>?_) _ _|exact Le.refl _)
def Nl(w11:X3)(w13:MP X3 Xe)(w22:List Int)(w23:X3):Option ((List Int)):=itE (fun s:List Int×X3=>H3 w11 w13 s.1 s.2) 70 (w22,w23)
theorem aEc(w11:X3)(w13:MP X3 Xe)(w22:List Int)(w23:X3):Le (Nl w11 w13 w22 w23) (L5 w11 w13 w22 w23):=by unfold Nl L5;repeat' (first|refine BE (fun _=>?_) _ _|exact Le.refl _)
def aVn(a0:AD)(a1:List X2)(a2:Int)(a3:Int):Option (List Int×Bool):=
 AG (aSg a0 a1) fun r1=>
 AG (Nj r1 (-1) a0 (X3.mk a2 a3) 0 [X3.mk a2 a3] (DY (Ee:MP X3 Xe) (X3.mk a2 a3) (Xe.mk (X3.mk 0 0) 0))) fun o12=>
 AE (decide (o12.1<0)) (
  some (([]:List Int),false)) (
  AU o12.2.1 o12.1 fun x13=>
  AG (Nl (X3.mk a2 a3) o12.2.2 ([]:List Int) x13) fun o14=>
  AG (aXj o14) fun r15=>
  some (r15,true))
theorem aVo(a0:AD)(a1:List X2)(a2:Int)(a3:Int):Le (aVn a0 a1 a2 a3) (X7 a0 a1 a2 a3):=by unfold aVn X7;repeat' (first|exact aOl _ _|exact aD7 _ _ _ _ _ _ _|exact aEc _ _ _ _|exact aXk _|refine AZ ?_ fun _=>?_|refine BH ?_ ?_|refine Cq fun _=>?_|exact Le.refl _)
def aUn(a0:AD)(a1:List X2)(a2:Int)(a3:Int):Option (Bool):=
 AG (aVn a0 a1 a2 a3) fun r1=>
 some (!r1.2)
theorem aYt(a0:AD)(a1:List X2)(a2:Int)(a3:Int):Le (aUn a0 a1 a2 a3) (Zm a0 a1 a2 a3):=by unfold aUn Zm;repeat' (first|exact aVo _ _ _ _|refine AZ ?_ fun _=>?_|exact Le.refl _)
def bAa:Option (Bool):=
 AG (aY1 (AD.mk ([113]:List UInt8) ([]:List Xl) ([]:List Yl) ([]:List Yn) ([Xg.mk ([115]:List UInt8) false true,Xg.mk ([116]:List UInt8) false true]) 0 ([]:List X5) ([]:List Yu) ([]:List Xr)) ([]:List X2)) fun r1=>
 AE (decide (r1=1)) (
  AG (aUn (AD.mk ([113]:List UInt8) ([]:List Xl) ([]:List Yl) ([]:List Yn) ([Xg.mk ([115]:List UInt8) false true,Xg.mk ([116]:List UInt8) false true]) 0 ([]:List X5) ([]:List Yu) ([]:List Xr)) ([]:List X2) 1 2) fun r2=>
  AE (r2) (
   AG (aUn (AD.mk ([113]:List UInt8) ([]:List Xl) ([]:List Yl) ([]:List Yn) ([Xg.mk ([115]:List UInt8) false true,Xg.mk ([116]:List UInt8) false true]) 0 ([]:List X5) ([]:List Yu) ([]:List Xr)) ([]:List X2) 1 0) fun r3=>
   some (!r3)) (
   some false)) (
  some false)
theorem aYp:Le (bAa) (Zj):=by unfold bAa Zj;repeat' (first|exact aY2 _ _|exact aYt _ _ _ _|refine AZ ?_ fun _=>?_|refine BH ?_ ?_|exact Le.refl _)
theorem aYo:Zj=some true:=aYp _ (by kernel_rfl)
theorem KW{α β σ τ:Type}{step:σ->Option (σ⊕τ)}(l:List α)(mk:Nat->β->σ)(f:β->α->β)(fin:β->τ)(I:Nat->β->Prop)
 (h1:∀i x w,l[i]? =some x->I i w->step (mk i w)=some (.inl (mk (i+1) (f w x)))/\I (i+1) (f w x)) (h2:∀w,I l.length w->step (mk l.length w)=some (.inr (fin w))) (w:β) (h0:I 0 w):AR step (mk 0 w)=some (fin (l.foldl f w)):=by
 have h:=Ek (step:=step) l mk (fun _ w x=>(.inl (f w x):β⊕τ)) fin I (fun i x w hx hI=>⟨(h1 i x w hx hI).1,fun w' hw=>by cases hw;exact(h1 i x w hx hI).2⟩) h2 (l.length+1) 0 w (by omega) (by omega) h0
 rw[h,List.drop_zero]
 congr 1
 clear h h1 h2 h0
 generalize 0=i
 revert i w
 induction l with
 |nil=>intro w i;rfl
 |cons x xs ih=>intro w i;rw[NM];exact ih _ _
theorem MB{q:AD}(hF:EG q){S:Nat}(hS:S<4294967296):Y8 q (S:Int)=some (aTi q S):=by
 have h8:=hF.states;have h:WY (S:Int) q.states (q.states.length:Int) 0=_:=Ei (step:=fun s=>G4 (S:Int) q.states (q.states.length:Int) s) q.states (aP8 S) (.inl ())
  (fun i st hi=>by
   have hil:=Dv hi;have h1:=As (n:=i) (by omega);have h2:=aNi (n:=S) (m:=2^i) hS (Nat.lt_of_lt_of_le (Nat.pow_lt_pow_right (by decide) (show i<32 by omega)) (by decide));simp only[G4,ltD hi,AJ,AP hi,A9 hi (show q.states.length<=9223372036854775807 by omega),h1,PY (show i<32 by omega),h2,aP8];rw[Av (by omega)];have h3:((S&&&2^i:Nat):Int)=0↔S.testBit i=false:=by rw[<-Ow];omega
   cases st.accept with
   |false=>simp[AE]
   |true=>
    rw[AJ]
    cases hb:S.testBit i with
    |false=>rw[decide_eq_true (h3.2 hb)];simp[AE]
    |true=>rw[decide_eq_false (by rw[h3,hb];simp)];simp[AE])
  (by simp only[G4,ltI,AI])
 unfold Y8 aTi;rw[h,AB];cases NM (F4 (aP8 S)) (fun _=>.inl ()) 0 q.states ()<;>rfl
abbrev PP:=Int×Int
def SmI(x:Int):Prop:=∃n:Nat,x=(n:Int)/\n<256
def nxP(q:AD)(z:PP)(m:Int):PP:=(nx q z.1 m,nx q z.2 m)
def aRv(q:AD)(z:PP)(m:Int):Bool:=decide (nx q z.1 m≠nx q z.2 m)
def Lm(q:AD)(L:List Int)(z:PP):List PP:=(L.filter (aRv q z)).map (nxP q z)
theorem aMj{q:AD}(hR:Ao q)(hS:DE q)(x m:Int):SmI (nx q x m):=⟨_,rfl,Nat.lt_of_lt_of_le (aMh hR _ _) (show 2^q.states.length<=2^8 from Nat.pow_le_pow_right (by decide) hS.states)⟩
theorem rcP{q:AD}(hR:Ao q)(hS:DE q){L:List Int}{s:PP}(hs:SmI s.1/\SmI s.2):∀z,Rch (Lm q L) s z->SmI z.1/\SmI z.2:=fun z h=>by
 cases h with
 |refl=>exact hs
 |step _ hy=>
  obtain⟨m,_,rfl⟩:=mm.1 hy
  exact⟨aMj hR hS _ _,aMj hR hS _ _⟩
theorem bdP{q:AD}(hR:Ao q)(hS:DE q){L:List Int}{s:PP}(hs:SmI s.1/\SmI s.2):Bd (Lm q L) s 65536:=fun o h1 h2=>by
 have hinj:(o.map fun z:PP=>z.1*256+z.2).Nodup:=by unfold List.Nodup;rw[List.pairwise_map];refine List.Pairwise.imp_of_mem (fun{a b} ha hb hab he=>hab ?_) h1;obtain⟨⟨n1,e1,l1⟩,⟨n2,e2,l2⟩⟩:=rcP hR hS hs a (h2 a ha);obtain⟨⟨n3,e3,l3⟩,⟨n4,e4,l4⟩⟩:=rcP hR hS hs b (h2 b hb);apply Prod.ext<;>omega
 have:=hinj.length_le_of_subset (l₂:=(List.range 65536).map (fun n:Nat=>(n:Int))) fun x hx=>by obtain⟨z,hz,rfl⟩:=mm.1 hx;obtain⟨⟨n1,e1,l1⟩,⟨n2,e2,l2⟩⟩:=rcP hR hS hs z (h2 z hz);exact mm.2 ⟨n1*256+n2,List.mem_range.2 (by omega),by rw[e1,e2];simp⟩
 simpa using this
def Er(q:AD)(z:PP):Bool:= !(Jr q z.1==Jr q z.2)
def Dj(q:AD)(L:List Int)(s:PP):Nat×List PP:=wlS (Lm q L) (Er q) 65537 0 [s]
theorem aMu{q:AD}(hR:Ao q)(hS:DE q)(L:List Int){s:PP}(hs:SmI s.1/\SmI s.2):WI (Lm q L) s (Dj q L s).1 (Dj q L s).2/\(∀j x,j<(Dj q L s).1->(Dj q L s).2[j]? =some x->Er q x=false)/\((Dj q L s).1=(Dj q L s).2.length\/∃x,(Dj q L s).2[(Dj q L s).1]? =some x/\Er q x=true):=
 aOa (bdP hR hS hs) _ 65537 0 _ WI.init (fun j x hj=>by omega) (Nat.le_refl _)
def fP(q:AD)(x:PP)(w:List PP)(m:Int):List PP:=if aRv q x m=true/\nxP q x m∉w then w++[nxP q x m]else w
theorem aAx(q:AD)(x:PP)(L:List Int)(o:List PP):L.foldl (fP q x) o=MD o (Lm q L x):=by unfold Lm;rw[<-ME];congr 1;funext w m;unfold fP;by_cases h:aRv q x m=true/\nxP q x m∉w;rw[if_pos h,if_pos h];rw[if_neg h,if_neg h]
theorem aNq{q:AD}{x:PP}{w:List PP}{m:Int}{i:Nat}{y:PP}(h:w[i]? =some y):(fP q x w m)[i]? =some y:=by unfold fP;split;rw[List.getElem?_append_left (Dv h)];exact h;exact h
theorem aNr(q:AD)(x:PP)(w:List PP)(m:Int):(fP q x w m).length<=w.length+1:=by unfold fP;split;simp;omega
def mkR(z:PP):Xk:=⟨z.1,z.2⟩
theorem aQ9{a b:PP}(h:mkR a=mkR b):a=b:=by unfold mkR at h;simp only[Xk.mk.injEq]at h;exact Prod.ext h.1 h.2
theorem Xk.eqb_dec(a b:Xk):Xk.eqb a b=decide (a=b):=by rw[Bool.eq_iff_iff,Xk.eqb_iff];simp
theorem aLy(o:List PP)(z:PP)(hl:o.length<=9223372036854775807):Zh (o.map mkR) (mkR z)=some (decide (z∈o)):=by
 have hl':(o.map mkR).length<=9223372036854775807:=by rw[List.length_map];exact hl
 have h:aP1 (o.map mkR) (mkR z) 0=some (if(o.map mkR).all (fun y=> !decide (y=mkR z))=true then .inl ()else .inr ()):=JW (step:=fun s=>I2 (o.map mkR) (mkR z) s) (o.map mkR) (fun y=> !decide (y=mkR z)) (.inl ()) (.inr ())
  (fun i y hy=>by simp only[I2,ltD hy,AJ,AP hy,A9 hy hl',Xk.eqb_dec,D0];by_cases h:y=mkR z<;>simp[h])
  (by simp only[I2,ltI,AI])
 unfold Zh;rw[h,AB];by_cases hz:z∈o;rw[if_neg,D9,decide_eq_true hz];rw[List.all_eq_true];intro h;have:=h (mkR z) (List.mem_map_of_mem hz);simp at this;rw[if_pos,CQ,decide_eq_false hz];rw[List.all_eq_true];intro y hy;obtain⟨w,hw,rfl⟩:=mm.1 hy;have:¬mkR w=mkR z:=fun e=>hz (aQ9 e▸hw);simp[this]
theorem aC2{q:AD}(hF:EG q)(hR:Ao q){L:List Int}(hL:L4 q L)(i:Nat){x:PP}(hx:SmI x.1/\SmI x.2){o:List PP}(ho:o[i]? =some x)(hl:o.length<=70000):aO7 L (i:Int) q 0 (o.map mkR)=some ((MD o (Lm q L x)).map mkR):=by
 have hll:=hL.len;have h:=KW (step:=fun s:Int×List Xk=>Id L (i:Int) q s.1 s.2) L (fun j w=>((j:Int),w.map mkR)) (fP q x) (fun w=>w.map mkR) (fun j w=>w[i]? =some x/\w.length<=70000+j)
  (fun j m w hj hI=>by
   have hjl:=Dv hj;have hw:w.length<=9223372036854775807:=by have:=hI.2;omega
   have hwi:(w.map mkR)[i]? =some (mkR x):=by rw[List.getElem?_map,hI.1];rfl
   have hm:=List.mem_of_getElem? hj;refine⟨?_,aNq hI.1,Nat.le_trans (aNr _ _ _ _) (by have:=hI.2;omega)⟩;have n1:=(KZ hF hR hL (x:=(mkR x).a) hx.1 hm).2;have n2:=(KZ hF hR hL (x:=(mkR x).b) hx.2 hm).2;have hz:Xk.mk ((EP q (mkR x).a.toNat m.toNat:Nat):Int) ((EP q (mkR x).b.toNat m.toNat:Nat):Int)=mkR (nxP q x m):=rfl;simp only[Id,ltD hj,AJ,aH3,AP hwi,AP hj,n1,n2,AB,hz,aLy w _ hw,WC,A9 hj (show L.length<=9223372036854775807 by omega)];unfold fP aRv;by_cases h1:nx q x.1 m=nx q x.2 m;have e1:decide (((EP q (mkR x).a.toNat m.toNat:Nat):Int)=((EP q (mkR x).b.toNat m.toNat:Nat):Int))=true:=decide_eq_true h1;rw[e1];simp[h1,AE,AG];have e1:decide (((EP q (mkR x).a.toNat m.toNat:Nat):Int)=((EP q (mkR x).b.toNat m.toNat:Nat):Int))=false:=decide_eq_false h1;rw[e1,Bool.not_false,AJ];by_cases h2:nxP q x m∈w;simp[h1,h2,AE,AG];simp only[h2,decide_false,Bool.not_false,AJ];rw[MN (by have:=hI.2;simp;omega) (by decide),AB,AB];simp[h1])
  (fun w _=>by simp only[Id,ltI,AI]) o ⟨ho,hl⟩
 rw[aAx]at h;exact h
theorem aC1{q:AD}(hF:EG q)(hR:Ao q)(hS:DE q){L:List Int}(hL:L4 q L){b:List X2}(he:Xy q b=some L){s:PP}(hs:SmI s.1/\SmI s.2):Y3 q b s.1 s.2=some (decide ((Dj q L s).1=(Dj q L s).2.length)):=by
 have hb:=bdP (L:=L) hR hS hs;have hacc:∀{x:Int},SmI x->Yr q x=some (Jr q x):=fun{x} h=>by obtain⟨n,rfl,hn⟩:=h;rw[Gc hF (by omega),Jr,Int.toNat_natCast]
 obtain⟨t,h,hQ⟩:=Ls hb (Er q) (step:=fun s:Int×List Xk=>G0 L q s.1 s.2) (fun i o st=>st=((i:Int),o.map mkR)) (fun i o t=>(i=o.length/\t=.inl ())\/(i<o.length/\t=.inr ()))
  (fun i x o st hI hr hx hp=>by
   subst hr;have hl:=hb o hI.nd hI.rc;have hsm:=rcP hR hS hs x (hI.rc x (List.mem_of_getElem? hx));have hwi:(o.map mkR)[i]? =some (mkR x):=by rw[List.getElem?_map,hx];rfl
   refine⟨_,?_,rfl⟩;have ha1:=hacc (x:=(mkR x).a) hsm.1;have ha2:=hacc (x:=(mkR x).b) hsm.2;have hp':(!(Jr q (mkR x).a==Jr q (mkR x).b))=false:=hp;simp only[G0,ltD hwi,AJ,AP hwi,ha1,ha2,AB,hp',AI,aC2 hF hR hL i hsm hx (by omega),A9 hwi (show(o.map mkR).length<=9223372036854775807 by rw[List.length_map];omega)])
  (fun i x o st hI hr hx hp=>by
   subst hr;have hsm:=rcP hR hS hs x (hI.rc x (List.mem_of_getElem? hx));have hwi:(o.map mkR)[i]? =some (mkR x):=by rw[List.getElem?_map,hx];rfl
   have ha1:=hacc (x:=(mkR x).a) hsm.1;have ha2:=hacc (x:=(mkR x).b) hsm.2;have hp':(!(Jr q (mkR x).a==Jr q (mkR x).b))=true:=hp;exact⟨.inr (),by simp only[G0,ltD hwi,AJ,AP hwi,ha1,ha2,AB,hp'],.inr ⟨Dv hx,rfl⟩⟩)
  (fun o st _ hr=>by
   subst hr;have e:((o.length:Nat):Int)=((o.map mkR).length:Int):=by rw[List.length_map]
   exact⟨.inl (),by simp only[G0,e,ltI,AI],.inl ⟨rfl,rfl⟩⟩) 65537 0 [s] ((0:Int),[mkR s]) WI.init rfl (Nat.le_refl _)
 have h':aO6 L q 0 [mkR s]=some t:=h;unfold Y3;have e0:[Xk.mk s.1 s.2]=[mkR s]:=rfl;rw[he,AB,e0,h',AB];rcases hQ with⟨h1,rfl⟩|⟨h1,rfl⟩
 rw[CQ,decide_eq_true (show(Dj q L s).1=(Dj q L s).2.length from h1)];rw[D9,decide_eq_false (show¬(Dj q L s).1=(Dj q L s).2.length from fun h=>by have h1:(Dj q L s).1<(Dj q L s).2.length:=h1;omega)]
abbrev CM:=MP X3 Xe
def mkC(z:PP):X3:=⟨z.1,z.2⟩
theorem LY{a b:PP}(h:mkC a=mkC b):a=b:=by unfold mkC at h;simp only[X3.mk.injEq]at h;exact Prod.ext h.1 h.2
def z0:Xe:=⟨⟨0,0⟩,0⟩
abbrev TM:=List PP×CM
def Fc(q:AD)(x:PP)(t:TM)(m:Int):TM:=if aRv q x m=true/\nxP q x m∉t.1 then(t.1++[nxP q x m],DY t.2 (mkC (nxP q x m)) ⟨mkC x,m⟩)else t
theorem Pa(q:AD)(x:PP)(t:TM)(m:Int):(Fc q x t m).1=fP q x t.1 m:=by unfold Fc fP;split<;>rfl
theorem M8(q:AD)(x:PP):∀(l:List Int) (t:TM),(l.foldl (Fc q x) t).1=l.foldl (fP q x) t.1
 |[],_=>rfl
 |m::l,t=>by rw[List.foldl_cons,M8 q x l,Pa,List.foldl_cons]
structure MI(q:AD)(L:List Int)(s:PP)(t:TM):Prop where
 key:∀z,(BJ z0 t.2 (mkC z)).2=decide (z∈t.1)
 hd:t.1[0]? =some s
 par:∀j z,0<j->t.1[j]? =some z->∃pj x m,pj<j/\t.1[pj]? =some x/\m∈L/\z=nxP q x m/\Er q x=false/\(BJ z0 t.2 (mkC z)).1=⟨mkC x,m⟩
theorem MI.init(q:AD)(L:List Int)(s:PP):MI q L s ([s],DY (Ee:CM) (mkC s) z0):=by refine⟨fun z=>?_,rfl,fun j z hj hz=>?_⟩;rw[Hl];by_cases h:z=s;subst h;simp;rw[if_neg fun e=>h (LY e).symm];simp[h,aMe];have:=Dv hz;rw[List.length_singleton]at this;omega
theorem MI.step{q:AD}{L:List Int}{s:PP}{t:TM}(h:MI q L s t){i:Nat}{x:PP}{m:Int}(hx:t.1[i]? =some x)(ha:Er q x=false)(hm:m∈L):MI q L s (Fc q x t m):=by
 unfold Fc;split;rename_i hn;have h0:=Dv h.hd;refine⟨fun z=>?_,by rw[List.getElem?_append_left h0];exact h.hd,fun j z hj hz=>?_⟩;show(BJ z0 (DY t.2 _ _) (mkC z)).2=decide (z∈t.1++[nxP q x m]);rw[Hl];by_cases hz:z=nxP q x m;subst hz;simp;rw[if_neg fun e=>hz (LY e).symm,h.key z];simp[hz];show∃pj x' m',pj<j/\(t.1++[nxP q x m])[pj]? =some x'/\m'∈L/\z=nxP q x' m'/\Er q x'=false/\(BJ z0 (DY t.2 _ _) (mkC z)).1=⟨mkC x',m'⟩;have hz':(t.1++[nxP q x m])[j]? =some z:=hz;have hl:=Dv hz';rw[List.length_append,List.length_singleton]at hl;by_cases hj2:j<t.1.length;rw[List.getElem?_append_left hj2]at hz';obtain⟨pj,x',m',a1,a2,a3,a4,a5,a6⟩:=h.par j z hj hz';refine⟨pj,x',m',a1,by rw[List.getElem?_append_left (Dv a2)];exact a2,a3,a4,a5,?_⟩;rw[Hl,if_neg fun e=>hn.2 (by rw[LY e];exact List.mem_of_getElem? hz')];exact a6;have he:j=t.1.length:=by omega
 subst he;rw[List.getElem?_append_right (Nat.le_refl _),Nat.sub_self,List.getElem?_cons_zero,oe]at hz';subst hz';refine⟨i,x,m,Dv hx,by rw[List.getElem?_append_left (Dv hx)];exact hx,hm,rfl,ha,?_⟩;rw[Hl,if_pos rfl];exact h
theorem aCc{q:AD}{x:PP}{t:TM}{m:Int}{i:Nat}{y:PP}(h:t.1[i]? =some y):(Fc q x t m).1[i]? =some y:=by rw[Pa];exact aNq h
theorem aC5{q:AD}(hF:EG q)(hR:Ao q){L:List Int}(hL:L4 q L)(n1 n2:Int){s:PP}{i:Nat}{x:PP}(hx:SmI x.1/\SmI x.2){t:TM}(hM:MI q L s t)(ha:Er q x=false)(ho:t.1[i]? =some x)(hl:t.1.length<=70000):
 Tw L n1 n2 L (L.length:Int) q (mkC s) (mkC x) 0 (t.1.map mkC) t.2=some ((L.foldl (Fc q x) t).1.map mkC,(L.foldl (Fc q x) t).2)/\MI q L s (L.foldl (Fc q x) t):=by
 have hll:=hL.len
 have hst:∀(j:Nat) (m:Int) (w:TM),L[j]? =some m->(MI q L s w/\w.1[i]? =some x/\w.1.length<=70000+j)->(MI q L s (Fc q x w m)/\(Fc q x w m).1[i]? =some x/\(Fc q x w m).1.length<=70000+(j+1)):=fun j m w hj hI=>
  ⟨hI.1.step hI.2.1 ha (List.mem_of_getElem? hj),aCc hI.2.1,by rw[Pa];exact Nat.le_trans (aNr _ _ _ _) (by have:=hI.2.2;omega)⟩
 refine⟨?_,(aLv L (fun j w=>MI q L s w/\w.1[i]? =some x/\w.1.length<=70000+j) hst t ⟨hM,ho,hl⟩).1⟩
 exact KW (step:=fun u:Int×List X3×CM=>Fo L n1 n2 L (L.length:Int) q (mkC s) (mkC x) u.1 u.2.1 u.2.2) L (fun j w=>((j:Int),w.1.map mkC,w.2)) (Fc q x) (fun w=>(w.1.map mkC,w.2)) (fun j w=>MI q L s w/\w.1[i]? =some x/\w.1.length<=70000+j)
  (fun j m w hj hI=>by have hjl:=Dv hj;have hm:=List.mem_of_getElem? hj;refine⟨?_,hst j m w hj hI⟩;have e1:=(KZ hF hR hL (x:=(mkC x).a) hx.1 hm).1;have e2:=(KZ hF hR hL (x:=(mkC x).b) hx.2 hm).1;have hz:X3.mk ((EP q (mkC x).a.toNat m.toNat:Nat):Int) ((EP q (mkC x).b.toNat m.toNat:Nat):Int)=mkC (nxP q x m):=rfl;have hk:(BJ (Xe.mk (X3.mk 0 0) 0) w.2 (mkC (nxP q x m))).2=decide (nxP q x m∈w.1):=hI.1.key _;simp only[Fo,ltD hj,AJ,Rg,AP hj,e1,e2,AB,hz,hk,Ni,A9 hj (show L.length<=9223372036854775807 by omega)];unfold Fc aRv;by_cases h2:nxP q x m∈w.1;simp[h2,AE,AG];simp only[h2,decide_false,Bool.not_false,AJ];by_cases h1:nx q x.1 m=nx q x.2 m;have e3:decide (((EP q (mkC x).a.toNat m.toNat:Nat):Int)=((EP q (mkC x).b.toNat m.toNat:Nat):Int))=true:=decide_eq_true h1;rw[e3];simp[h1,AE,AG];have e3:decide (((EP q (mkC x).a.toNat m.toNat:Nat):Int)=((EP q (mkC x).b.toNat m.toNat:Nat):Int))=false:=decide_eq_false h1;rw[e3,Bool.not_false,AJ];rw[MN (by have:=hI.2.2;simp;omega) (by decide),AB,AB];simp[h1])
  (fun w _=>by simp only[Fo,ltI,AI]) t ⟨hM,ho,hl⟩
theorem aC4{q:AD}(hF:EG q)(hR:Ao q)(hS:DE q){L:List Int}(hL:L4 q L){s:PP}(hs:SmI s.1/\SmI s.2):∃cm,MI q L s ((Dj q L s).2,cm)/\
 Rh L (-1) q (mkC s) 0 [mkC s] (DY (Ee:CM) (mkC s) z0)=some (if(Dj q L s).1=(Dj q L s).2.length then-1 else((Dj q L s).1:Int),(Dj q L s).2.map mkC,cm):=by
 have hb:=bdP (L:=L) hR hS hs
 have hacc:∀{x:Int},SmI x->Y8 q x=some (Jr q x):=fun{x} h=>by obtain⟨n,rfl,hn⟩:=h;rw[MB hF (by omega),Jr,Int.toNat_natCast]
 obtain⟨t,h,cm,hQ1,hQ2⟩:=Ls hb (Er q) (step:=fun u:Int×List X3×CM=>Ev L (-1) q (mkC s) u.1 u.2.1 u.2.2) (fun i o st=>∃cm,st=((i:Int),o.map mkC,cm)/\MI q L s (o,cm)) (fun i o t=>∃cm,MI q L s (o,cm)/\t=(if i=o.length then-1 else(i:Int),o.map mkC,cm))
  (fun i x o st hI hr hx hp=>by
   obtain⟨cm,rfl,hM⟩:=hr;have hl:=hb o hI.nd hI.rc;have hsm:=rcP hR hS hs x (hI.rc x (List.mem_of_getElem? hx));have hwi:(o.map mkC)[i]? =some (mkC x):=by rw[List.getElem?_map,hx];rfl
   obtain⟨e2,hM2⟩:=aC5 hF hR hL (-1) (i:Int) hsm (t:=(o,cm)) hM hp hx (by simp only;omega);have e3:(L.foldl (Fc q x) (o,cm)).1=MD o (Lm q L x):=by rw[M8,aAx]
   rw[e3]at e2;refine⟨((i+1:Nat),(MD o (Lm q L x)).map mkC,(L.foldl (Fc q x) (o,cm)).2),?_,_,rfl,by rw[<-e3];exact hM2⟩;have ha1:=hacc (x:=(mkC x).a) hsm.1;have ha2:=hacc (x:=(mkC x).b) hsm.2;have hp':(!(Jr q (mkC x).a==Jr q (mkC x).b))=false:=hp;simp only at e2;simp only[Ev,ltD hwi,AJ,AP hwi,ha1,ha2,AB,hp',AI,e2,A9 hwi (show(o.map mkC).length<=9223372036854775807 by rw[List.length_map];omega)])
  (fun i x o st hI hr hx hp=>by
   obtain⟨cm,rfl,hM⟩:=hr;have hsm:=rcP hR hS hs x (hI.rc x (List.mem_of_getElem? hx));have hwi:(o.map mkC)[i]? =some (mkC x):=by rw[List.getElem?_map,hx];rfl
   have ha1:=hacc (x:=(mkC x).a) hsm.1;have ha2:=hacc (x:=(mkC x).b) hsm.2;have hp':(!(Jr q (mkC x).a==Jr q (mkC x).b))=true:=hp;have hlt:=Dv hx;exact⟨((i:Int),o.map mkC,cm),by simp only[Ev,ltD hwi,AJ,AP hwi,ha1,ha2,AB,hp'],cm,hM,by rw[if_neg (by omega)]⟩)
  (fun o st _ hr=>by
   obtain⟨cm,rfl,hM⟩:=hr;have e:((o.length:Nat):Int)=((o.map mkC).length:Int):=by rw[List.length_map]
   exact⟨(-1,o.map mkC,cm),by simp only[Ev,e,ltI,AI],cm,hM,by rw[if_pos rfl]⟩) 65537 0 [s] ((0:Int),[mkC s],DY (Ee:CM) (mkC s) z0) WI.init ⟨_,rfl,MI.init q L s⟩ (Nat.le_refl _)
 exact⟨cm,hQ1,by rw[hQ2]at h;exact h⟩
inductive aDc(q:AD)(L:List Int):PP->List Int->PP->Prop
 |nil {x:PP}:aDc q L x [] x
 |cons {x y:PP} {m:Int} {ms:List Int}:m∈L->Er q x=false->aDc q L (nxP q x m) ms y->aDc q L x (m::ms) y
theorem aDc.snoc{q:AD}{L:List Int}{x y:PP}{m:Int}{ms:List Int}(h:aDc q L x ms y)(hm:m∈L)(ha:Er q y=false):aDc q L x (ms++[m]) (nxP q y m):=by
 induction h with
 |nil=>exact .cons hm ha .nil
 |cons h1 h2 _ ih=>exact .cons h1 h2 (ih ha)
theorem X3.eqb_dec(a b:X3):X3.eqb a b=decide (a=b):=by rw[Bool.eq_iff_iff,X3.eqb_iff];simp
theorem aT1{o:List PP}(h:o.Nodup){i j:Nat}{x:PP}(hi:o[i]? =some x)(hj:o[j]? =some x):i=j:=by
 have a:=Dv hi;have b:=Dv hj;have e1:o[i]=x:=by rw[List.getElem?_eq_getElem a,oe]at hi;exact hi
 have e2:o[j]=x:=by rw[List.getElem?_eq_getElem b,oe]at hj;exact hj
 rcases Nat.lt_trichotomy i j with h1|h1|h1
 exact absurd (e1.trans e2.symm) (List.pairwise_iff_getElem.1 h i j a b h1);exact h1;exact absurd (e2.trans e1.symm) (List.pairwise_iff_getElem.1 h j i b a h1)
theorem Pc{q:AD}{L:List Int}{s:PP}{o:List PP}{cm:CM}(hM:MI q L s (o,cm))(hn:o.Nodup):∀(n j:Nat) (z:PP) (acc:List Int),j<n->o[j]? =some z->acc.length+j<=70000->
 ∃ms,L5 (mkC s) cm acc (mkC z)=some (acc++ms)/\ms.length<=j/\aDc q L s ms.reverse z
 |0,j,z,acc,hj,_,_=>by omega
 |n+1,j,z,acc,hj,hz,hl=>by
  rw[aEb,H3,X3.eqb_dec];by_cases h0:j=0;subst h0;have e:s=z:=by have:=hM.hd;rw[show(o,cm).1=o from rfl,hz,oe]at this;exact this.symm
  subst e;refine⟨[],?_,Nat.le_refl _,.nil⟩;rw[decide_eq_true rfl,Bool.not_true,AI,Ae,List.append_nil];obtain⟨pj,x,m,a1,a2,a3,rfl,a5,a6⟩:=hM.par j z (by omega) hz;have hne:¬mkC (nxP q x m)=mkC s:=fun e=>h0 (aT1 hn hz (by rw[LY e];exact hM.hd));obtain⟨ms,b1,b2,b3⟩:=Pc hM hn n pj x (acc++[m]) (by omega) a2 (by simp;omega);have a6':(BJ (Xe.mk (X3.mk 0 0) 0) cm (mkC (nxP q x m))).1=⟨mkC x,m⟩:=a6;refine⟨m::ms,?_,by simp;omega,by rw[List.reverse_cons];exact b3.snoc a3 a5⟩;rw[decide_eq_false hne,Bool.not_false,AJ,a6',MN (by simp;omega) (by decide),BF];simp only;rw[b1];simp
theorem aC3{q:AD}(hF:EG q)(hR:Ao q)(hS:DE q){L:List Int}(hL:L4 q L){b:List X2}(he:X4 q b=some L){s:PP}(hs:SmI s.1/\SmI s.2):
 ((Dj q L s).1=(Dj q L s).2.length/\X7 q b s.1 s.2=some ([],false))\/
 (¬(Dj q L s).1=(Dj q L s).2.length/\∃ms z,X7 q b s.1 s.2=some (ms,true)/\ms.length<=70000/\aDc q L s ms z/\Er q z=true):=by
 obtain⟨cm,hM,h1⟩:=aC4 hF hR hS hL hs
 obtain⟨hW,_,hE⟩:=aMu hR hS L hs
 have hb:=bdP (L:=L) hR hS hs _ hW.nd hW.rc
 have h1':Rh L (-1) q (X3.mk s.1 s.2) 0 [X3.mk s.1 s.2] (DY (Ee:CM) (X3.mk s.1 s.2) (Xe.mk (X3.mk 0 0) 0))=_:=h1
 by_cases hc:(Dj q L s).1=(Dj q L s).2.length
 refine .inl ⟨hc,?_⟩
 unfold X7
 rw[he,AB,h1',AB]
 simp only
 rw[if_pos hc,decide_eq_true (by decide),AJ]
 refine .inr ⟨hc,?_⟩
 obtain⟨x,hx,ha⟩:=hE.resolve_left hc
 have hwi:((Dj q L s).2.map mkC)[(Dj q L s).1]? =some (mkC x):=by rw[List.getElem?_map,hx];rfl
 have hlt:=Dv hx
 obtain⟨ms,b1,b2,b3⟩:=Pc hM hW.nd _ _ x [] (Nat.lt_succ_self _) hx (by simp;omega)
 refine⟨ms.reverse,x,?_,by simp;omega,b3,ha⟩
 unfold X7
 rw[he,AB,h1',AB]
 simp only
 have b1':L5 (X3.mk s.1 s.2) cm [] (mkC x)=some ms:=by rw[List.nil_append]at b1;exact b1
 rw[if_neg hc,decide_eq_false (by omega),AI,AP hwi,b1',AB,RW (by omega),AB]
theorem bAm{n:Nat}(h:n<=12):AA .shl .u32 1 (IntKind.wrap .u64 (n:Int))=((2^n:Nat):Int):=by rw[As (by omega),PY (by omega)]
theorem TA(q:AD)(b:List X2)(hW:∀t∈q.trans,J9 t)(hb:b.length<=9223372036854775807):∃r,Zg q b=some r/\(r=true->EG q/\Ao q/\DE q/\BR b/\Yx q=some true/\∀d∈q.decls,d.types.length<=3):=by
 obtain⟨n,hn,hF⟩:=aVy q;unfold Zg;refine Ba hn ?_;refine BV (fun _=>⟨_,rfl,by simp⟩) (fun h0=>?_);have hF:=hF h0;obtain⟨r,hr,hR⟩:=aXy q hF hW;refine Ba hr ?_;refine E6 (fun _=>⟨_,rfl,by simp⟩) (fun h1=>?_);have hR2:=hR h1;subst h1;obtain⟨r3,hr3,hS⟩:=aX5 hF;refine Ba hr3 ?_;refine E6 (fun _=>⟨_,rfl,by simp⟩) (fun h2=>?_);obtain⟨r4,hr4,hB⟩:=aU3 q b hb;refine Ba hr4 ?_;refine E6 (fun _=>⟨_,rfl,by simp⟩) (fun h3=>?_);refine Dg (fun _=>⟨_,rfl,by simp⟩) (fun h4=>?_);have hd:=hF.decls;obtain⟨o,ho,hQ⟩:=Am (step:=fun s=>I1 b q s) q.decls.length (fun i=>∀d,q.decls[i]? =some d->d.types.length<=3) (fun o=>o=Sum.inl ()->∀d∈q.decls,d.types.length<=3)
  (fun i hi=>by obtain⟨x,hx,_⟩:=Ab hi;simp only[I1,ltD hx,AJ,AP hx,A9 hx (show q.decls.length<=9223372036854775807 by omega)];by_cases h:(3:Int)<(x.types.length:Int);exact .inr ⟨.inr (),by rw[decide_eq_true h];rfl,fun h=>by cases h⟩;exact .inl ⟨by rw[decide_eq_false h];rfl,fun t h2=>by rw[hx,oe]at h2;subst h2;omega⟩)
  (fun hall=>⟨.inl (),by simp only[I1,ltI,AI],fun _=>F1 hall⟩)
 have ho':aP0 b q 0=some o:=ho;refine Ba ho' ?_;have hall:∀{r':Bool},o=Sum.inl ()->(r'=true->EG q/\Ao q/\DE q/\BR b/\Yx q=some true/\∀d∈q.decls,d.types.length<=3):=fun e _=>⟨hF,hR2,hS h2,hB h3,hr,hQ e⟩;rcases o with⟨⟩|⟨⟩
 rw[CQ];refine BV (fun _=>⟨_,rfl,hall rfl⟩) (fun h=>?_);obtain⟨x,hx,_⟩:=Ab (l:=b) (i:=0) (by omega);rw[show(0:Int)=((0:Nat):Int)from rfl,AP hx];exact⟨_,rfl,hall rfl⟩;rw[D9];exact⟨_,rfl,by simp⟩
theorem TK(ms L:List Int)(i:Nat)(q:AD)(x y:Int){m:Int}(hm:ms[i]? =some m)(hL:L.length<=5000)(h:m∈L):aO5 x y ms L (i:Int) q false 0=some true:=by
 obtain⟨o,h1,h2⟩:=BY (step:=fun s:Bool×Int=>Ic x y ms L (i:Int) q s.1 s.2) (fun s=>∃k:Nat,s.2=(k:Int)/\k<=L.length/\(s.1=true\/m∈L.drop k)) (fun s=>(L.length-s.2).toNat) (fun o=>o=true)
  (by
   rintro⟨b,s⟩ ⟨k,rfl,hk,hb⟩;simp only at hb⊢;by_cases he:k=L.length;subst he;rw[List.drop_length]at hb;refine .inl ⟨b,by simp only[Ic,ltI,AI],?_⟩;rcases hb with h|h
   exact h;cases h;right;obtain⟨w,hw,hdr⟩:=Ab (l:=L) (i:=k) (by omega);refine⟨(b||decide (w=m),((k+1:Nat):Int)),?_,⟨k+1,rfl,by omega,?_⟩,by simp only;omega⟩;simp only[Ic,ltD hw,AJ,AP hw,AP hm,A9 hw (show L.length<=9223372036854775807 by omega)];cases b with
   |true=>rfl
   |false=>rfl
   rw[hdr]at hb;rcases hb with h|h
   exact .inl (by simp[h]);rcases mc.1 h with h|h
   exact .inl (by simp[h]);exact .inr h)
  (false,(0:Int)) ⟨0,rfl,by omega,.inr (by simpa using h)⟩
 rw[<-h2];exact h1
theorem TL{q:AD}(hF:EG q)(hR:Ao q)(hS:DE q){L:List Int}(hL:L4 q L)(ms:List Int)(hl:ms.length<=70000){s z:PP}{rest:List Int}(hw:aDc q L s rest z):∀(i:Nat),ms.drop i=rest->i<=ms.length->SmI s.1/\SmI s.2->SJ ms L q s.1 s.2 (i:Int)=some (.inl (z.1,z.2))/\SmI z.1/\SmI z.2:=by
 have hacc:∀{x:Int},SmI x->Yr q x=some (Jr q x):=fun{x} h=>by obtain⟨n,rfl,hn⟩:=h;rw[Gc hF (by omega),Jr,Int.toNat_natCast]
 induction hw with
 |nil=>
  intro i hd hi hs
  have:i=ms.length:=by have:=List.drop_eq_nil_iff.1 hd;omega
  subst this
  refine⟨?_,hs⟩
  rw[P9,Ib,decide_eq_false (by omega),AI,Ae]
 |cons hm ha hw2 ih=>
  rename_i x y m r
  intro i hd hi hs
  have hlt:i<ms.length:=by
   rcases Nat.lt_or_ge i ms.length with h|h
   exact h;rw[List.drop_eq_nil_of_le h]at hd;cases hd
  obtain⟨w,hw,hdr⟩:=Ab hlt
  rw[hdr,List.cons.injEq]at hd
  obtain⟨rfl,hd⟩:=hd
  have hp:(!(Jr q x.1==Jr q x.2))=false:=ha
  have n1:=(KZ hF hR hL (x:=x.1) hs.1 hm).2
  have n2:=(KZ hF hR hL (x:=x.2) hs.2 hm).2
  obtain⟨g1,g2⟩:=ih (i+1) hd (by omega) ⟨aMj hR hS _ _,aMj hR hS _ _⟩
  refine⟨?_,g2⟩
  rw[P9,Ib,ltD hw,AJ,TK ms L i q x.1 x.2 hw hL.len hm,AB,Bool.not_true,AI,hacc hs.1,AB,hacc hs.2,AB,hp,AI,AP hw,n1,AB,AP hw,n2,AB,BF,A9 hw (by omega)]
  exact g1
theorem aWp(hA:Zj=some true)(q:AD)(b:List X2)(x y:Int)(hW:∀t∈q.trans,J9 t)(hb:b.length<=9223372036854775807)(hx:0<=x)(hy:0<=y):Y1 q b x y=some true:=by
 obtain⟨r,hr,hP⟩:=TA q b hW hb;unfold Y1;rw[hr,AB,hA];cases r with
 |false=>rfl
 |true=>
  obtain⟨hF,hR,hS,hB,hT,h3⟩:=hP rfl
  have h12:=hF.states
  rw[Bool.not_true,AI,Av (by rw[As (by omega)];omega),bAm h12,D0]
  split
  rfl
  rename_i hlt
  rw[Av (by rw[As (by omega)];omega),D0]
  split
  rfl
  rename_i hlt2
  have h8:2^q.states.length<=256:=show 2^q.states.length<=2^8 from Nat.pow_le_pow_right (by decide) hS.states
  have hs:SmI x/\SmI y:=⟨⟨x.toNat,by omega,by omega⟩,⟨y.toNat,by omega,by omega⟩⟩
  obtain⟨L,e1,e2,_,hL⟩:=aRf hF hR hS hT h3 hB
  have hacc:∀{x:Int},SmI x->Yr q x=some (Jr q x):=fun{x} h=>by obtain⟨n,rfl,hn⟩:=h;rw[Gc hF (by omega),Jr,Int.toNat_natCast]
  have hAl:=aC1 hF hR hS hL e2 (s:=(x,y)) hs
  simp only at hAl
  rw[hAl,AB]
  rcases aC3 hF hR hS hL e1 (s:=(x,y)) hs with⟨c1,c2⟩|⟨c1,ms,z,c2,c3,c4,c5⟩
  simp only at c2
  have hM:Zm q b x y=some true:=by unfold Zm;rw[c2,AB];rfl
  rw[c2,AB,decide_eq_true c1,hM]
  rfl
  simp only at c2
  have hM:Zm q b x y=some false:=by unfold Zm;rw[c2,AB];rfl
  obtain⟨g1,g2,g3⟩:=TL hF hR hS hL ms c3 c4 0 rfl (Nat.zero_le _) hs
  have c5':(!(Jr q z.1==Jr q z.2))=true:=c5
  have g1':SJ ms L q x y 0=some (.inl (z.1,z.2)):=g1
  rw[c2,AB,decide_eq_false c1,hM,AB,e2,AB]
  simp only
  rw[show(true==false)=false from rfl,AI,show(!(false==false))=false from rfl,AI,AI,AB,g1',AB,CQ,hacc g2,AB,hacc g3,AB,c5']
  rfl
theorem aSw(q:AD)(b:List X2)(x y:Int)(hW:∀t∈q.trans,J9 t)(hb:b.length<=9223372036854775807)(hx:0<=x)(hy:0<=y):Y1 q b x y=some true:=aWp aYo q b x y hW hb hx hy
end
end Go.Ac
