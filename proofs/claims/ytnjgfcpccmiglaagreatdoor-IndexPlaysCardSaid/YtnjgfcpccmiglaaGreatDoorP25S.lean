/- Own work: the plain law. -/
import Derived.Test.YtnjgfcpccmiglaaGreatDoorP25zK
set_option linter.unusedVariables false
set_option linter.unusedSimpArgs false
namespace Go.Ac
theorem OT{α:Type}{lt:α->α->Prop}(irr:∀a,¬lt a a)(tr:∀a b c,lt a b->lt b c->lt a c):∀{a b:List α},a.Pairwise lt->b.Pairwise lt->(∀x,x∈a↔x∈b)->a=b
 |[],[],_,_,_=>rfl
 |[],y::b,_,_,h=>by have:=(h y).2 (by simp);simp at this
 |x::a,[],_,_,h=>by have:=(h x).1 (by simp);simp at this
 |x::a,y::b,ha,hb,h=>by
  rw[List.pairwise_cons]at ha hb;have hxy:x=y:=by
   rcases mc.1 ((h x).1 (by simp))with e|hx
   exact e;rcases mc.1 ((h y).2 (by simp))with e|hy
   exact e.symm;exact(irr x (tr _ _ _ (ha.1 y hy) (hb.1 x hx))).elim
  subst hxy;have:a=b:=OT irr tr ha.2 hb.2 fun z=>⟨fun hz=>by
   rcases mc.1 ((h z).1 (List.mem_cons_of_mem _ hz))with e|e
   subst e;exact(irr _ (ha.1 _ hz)).elim;exact e,fun hz=>by
   rcases mc.1 ((h z).2 (List.mem_cons_of_mem _ hz))with e|e
   subst e;exact(irr _ (hb.1 _ hz)).elim;exact e⟩
  rw[this]
def Rs(l:List Int):Prop:=l.Pairwise (fun a b=>a<b)
theorem aQd{a b:List Int}(ha:Rs a)(hb:Rs b)(h:∀x,x∈a↔x∈b):a=b:=
 OT (lt:=fun x y:Int=>x<y) (fun a=>Int.lt_irrefl a) (fun _ _ _=>Int.lt_trans) ha hb h
theorem Kx{α:Type}{w:List α}{k:Nat}{x:α}(h:x∈w.take k):∃j,j<k/\w[j]? =some x:=by obtain⟨j,hj⟩:=List.mem_iff_getElem?.1 h;rw[List.getElem?_take]at hj;split at hj;exact⟨j,by assumption,hj⟩;cases hj
theorem KN{α:Type}{w:List α}{k:Nat}{x:α}(h:x∈w.drop k):∃j,k<=j/\w[j]? =some x:=by obtain⟨j,hj⟩:=List.mem_iff_getElem?.1 h;rw[List.getElem?_drop]at hj;exact⟨k+j,by omega,hj⟩
theorem OJ{α:Type}{w:List α}(k:Nat){x:α}:x∈w↔x∈w.take k\/x∈w.drop k:=by rw[<-ma,List.take_append_drop]
theorem bsI{w:List Int}{v:Int}(hw:Rs w)(hl:w.length<=1000000):
 ∃k:Nat,k<=w.length/\Xr w v=some ((k:Int),decide (v∈w))/\(∀j s,w[j]? =some s->j<k->s<v)/\(∀j s,w[j]? =some s->k<=j->v<=s)/\(v∈w->w[k]? =some v):=by
 have hless:∀x,U7 x v=some (decide (x<v)):=fun x=>by simp[U7,Qj,AG,AE]
 unfold Xr Uy
 obtain⟨k,hk,hkr,p1,p2⟩:=aNv (step:=fun s:Int×Int=>E2 w v (w.length:Int) s.1 s.2) w.length (fun a=>match w[a]? with|some s=>decide (s<v)|none=>false)
  (fun i j hij hj=>by
   obtain⟨x,hx,_⟩:=A8 (l:=w) (i:=(i+j)/2) (by omega);have hd:decide ((i:Int)<(j:Int))=true:=by simp;omega
   simp only[E2,hd,AP,aE5,bAv (show i+j<4611686018427387904 by omega),AN hx,hless,AD,aE7,hx];by_cases h:x<v;simp only[h,decide_true,AP,AD,if_true,IA (show(i+j)/2<9223372036854775807 by omega)];simp[h,AE,AG])
  (fun i=>by simp[E2,AE])
  (fun a b hab hb h=>by
   obtain⟨x,hx,_⟩:=A8 (l:=w) (i:=a) (by omega);obtain⟨y,hy,_⟩:=A8 (l:=w) (i:=b) hb;simp only[hx,hy,decide_eq_true_eq]at h⊢;rcases Nat.lt_or_ge a b with g|g
   obtain⟨ha',rfl⟩:=List.getElem?_eq_some_iff.1 hx;obtain⟨hb',rfl⟩:=List.getElem?_eq_some_iff.1 hy;have:=List.pairwise_iff_getElem.1 hw a b ha' hb' g;omega;have:a=b:=by omega
   subst this;rw[hx]at hy;cases hy;exact h)
 have q1:∀j s,w[j]? =some s->j<k->s<v:=fun j s hs hj=>by have:=p1 j hj;simp only[hs]at this;simpa using this
 have q2:∀j s,w[j]? =some s->k<=j->v<=s:=fun j s hs hj=>by have:=p2 j hj (BM hs);simp only[hs]at this;simp at this;exact this
 have q3:v∈w->w[k]? =some v:=fun hv=>by
  obtain⟨j,hj⟩:=List.mem_iff_getElem?.1 hv;rcases Nat.lt_or_ge j k with g|g
  have:=q1 j v hj g;omega;rcases Nat.lt_or_ge k j with g2|g2
  obtain⟨x,hx,_⟩:=A8 (l:=w) (i:=k) (by have:=BM hj;omega);have h1:=q2 k x hx (Nat.le_refl _);obtain⟨ha',rfl⟩:=List.getElem?_eq_some_iff.1 hx;obtain⟨hb',hv'⟩:=List.getElem?_eq_some_iff.1 hj;have:=List.pairwise_iff_getElem.1 hw k j ha' hb' g2;omega;have:j=k:=by omega
  subst this;exact hj
 refine⟨k,hk,?_,q1,q2,q3⟩
 rw[hkr,AD]
 by_cases h:k<w.length
 obtain⟨x,hx,_⟩:=A8 h
 rw[CX,if_pos (by omega),AN hx]
 by_cases hv2:x=v
 have:v∈w:=hv2▸List.mem_of_getElem? hx
 simp[hv2,this,AE]
 have:¬v∈w:=fun hv=>hv2 (by have:=q3 hv;rw[hx]at this;exact Option.some.inj this)
 rw[CX,if_neg hv2,AN hx]
 simp[this,Qj,AG,AE]
 have:¬v∈w:=fun hv=>h (BM (q3 hv))
 rw[CX,if_neg (by omega)]
 simp[this]
theorem OY{w:List Int}{v:Int}(hw:Rs w)(hl:w.length<=100000):∃r,Zb v w=some r/\Rs r/\(∀y,y∈r↔y=v\/y∈w)/\r.length<=w.length+1:=by
 obtain⟨k,hk,hb,q1,q2,q3⟩:=bsI (v:=v) hw (by omega);unfold Zb;rw[hb,AD];by_cases h:v∈w;rw[decide_eq_true h,AP];exact⟨_,rfl,hw,fun y=>⟨.inr,fun hy=>by rcases hy with e|hy;(exact e▸h);exact hy⟩,by omega⟩
 rw[decide_eq_false h,AR];have e1:U8 (k:Int) w [v]=some (w.take k++[v]++w.drop k):=by unfold U8 aT3;rw[if_pos ⟨by omega,by omega,by simp,AU (by simp;omega) (by decide)⟩];simp
 rw[e1,AD];have q2':∀y∈w.drop k,v<y:=fun y hy=>by obtain⟨j,hj,hs⟩:=KN hy;have h1:=q2 j y hs hj;have:y≠v:=fun e=>h (e▸List.mem_of_getElem? hs);omega
 have q1':∀y∈w.take k,y<v:=fun y hy=>by obtain⟨j,hj,hs⟩:=Kx hy;exact q1 j y hs hj
 refine⟨_,rfl,?_,fun y=>?_,by simp;omega⟩;unfold Rs;rw[List.append_assoc,List.pairwise_append];refine⟨hw.sublist (List.take_sublist _ _),?_,fun a ha b hb=>?_⟩;rw[List.singleton_append,List.pairwise_cons];exact⟨q2',hw.sublist (List.drop_sublist _ _)⟩;rw[List.singleton_append]at hb;rcases mc.1 hb with e|hb
 exact e▸q1' a ha;exact Int.lt_trans (q1' a ha) (q2' b hb);rw[OJ (w:=w) k];simp only[ma,List.mem_singleton];constructor;rintro((h|h)|h);exact .inr (.inl h);exact .inl h;exact .inr (.inr h);rintro(h|h|h);exact .inl (.inr h);exact .inl (.inl h);exact .inr h
theorem Sx{w:List Int}{v:Int}(hw:Rs w)(hl:w.length<=100000):∃r,U9 v w=some r/\Rs r/\(∀y,y∈r↔y∈w/\y≠v)/\r.length<=w.length:=by
 obtain⟨k,hk,hb,q1,q2,q3⟩:=bsI (v:=v) hw (by omega);unfold U9;rw[hb,AD];by_cases h:v∈w;rw[decide_eq_true h,Bool.not_true,AR];have hkv:=q3 h;have hkl:=BM hkv;have e1:Uq (k:Int) (AB .add .i64 (k:Int) 1) w=some (w.take k++w.drop (k+1)):=by unfold Uq aT1;rw[IA (by omega),if_pos ⟨by omega,by omega,by omega⟩];simp
 rw[e1,AD];have hsp:w=w.take k++v::w.drop (k+1):=by obtain⟨x,hx,hd⟩:=A8 hkl;rw[hkv]at hx;cases hx;rw[<-hd,List.take_append_drop]
 have hw':=hw;unfold Rs at hw';rw[hsp,List.pairwise_append,List.pairwise_cons]at hw';obtain⟨a1,⟨a2,a3⟩,a4⟩:=hw';refine⟨_,rfl,?_,fun y=>?_,by simp;omega⟩;unfold Rs;rw[List.pairwise_append];exact⟨a1,a3,fun x hx y hy=>a4 x hx y (List.mem_cons_of_mem _ hy)⟩;have hm:y∈w↔y∈w.take k\/y=v\/y∈w.drop (k+1):=by rw[<-mc,<-ma,<-hsp]
 rw[ma,hm];constructor;rintro(h|h);exact⟨.inl h,fun e=>by have:=a4 y h v (by simp);omega⟩;exact⟨.inr (.inr h),fun e=>by have:=a2 y h;omega⟩;rintro⟨h|h|h,hn⟩;exact .inl h;exact absurd h hn;exact .inr h;rw[decide_eq_false h,Bool.not_false,AP];exact⟨_,rfl,hw,fun y=>⟨fun hy=>⟨hy,fun e=>h (e▸hy)⟩,fun hy=>hy.1⟩,Nat.le_refl _⟩
theorem aSx(w0 w1:List Int)(h1:w1.length<=10000):∀(r pre w5:List Int),w1=pre++r->Rs w5->w5.length+r.length<=90000->
 ∃o,LI (w1.length:Int) w0 w1 (pre.length:Int) w5=some o/\Rs o/\(∀y,y∈o↔y∈w5\/y∈r)/\o.length<=w5.length+r.length
 |[],pre,w5,hs,hw,hl=>by
  rw[PU];have e:w1.length=pre.length:=by rw[hs];simp
  unfold D8;rw[AL,if_neg (by simp[e])];exact⟨_,rfl,hw,by simp,by simp⟩
 |x::r,pre,w5,hs,hw,hl=>by
  have hx:w1[pre.length]? =some x:=by rw[hs];simp
  have hp:=BM hx;simp only[List.length_cons]at hl;obtain⟨o1,e1,hw1,hm1,hl1⟩:=OY (v:=x) hw (by omega);rw[PU];unfold D8;rw[ltD hx,AP,Ai (by omega),AN hx,e1,AD,Aq hx (by omega),A4];obtain⟨o,e,hw2,hm2,hl2⟩:=aSx w0 w1 h1 r (pre++[x]) o1 (by rw[hs];simp) hw1 (by omega);rw[List.length_append]at e;refine⟨o,e,hw2,fun y=>?_,by simp;omega⟩;rw[hm2,hm1,mc];constructor;rintro((h|h)|h)<;>simp[h];rintro(h|h|h)<;>simp[h]
theorem aN8{a b:List Int}(ha:Rs a)(hla:a.length<=10000)(hlb:b.length<=10000):∃r,Xz a b=some r/\Rs r/\(∀y,y∈r↔y∈a\/y∈b)/\r.length<=a.length+b.length:=by obtain⟨o,e,h⟩:=aSx a b hlb b [] a rfl ha (by omega);refine⟨o,?_,h⟩;unfold Xz Um CK;rw[if_pos (AU (by omega) (by decide)),AD,show LI (b.length:Int) a b 0 a=some o from e,AD]
theorem aK5(w1:List Int)(h1:w1.length<=10000):∀(r pre w5:List Int),w1=pre++r->Rs w5->w5.length+r.length<=90000->
 ∃o,LJ w1 (w1.length:Int) (pre.length:Int) w5=some o/\Rs o/\(∀y,y∈o↔y∈w5\/y∈r)/\o.length<=w5.length+r.length
 |[],pre,w5,hs,hw,hl=>by
  rw[PX];have e:w1.length=pre.length:=by rw[hs];simp
  unfold D9;rw[AL,if_neg (by simp[e])];exact⟨_,rfl,hw,by simp,by simp⟩
 |x::r,pre,w5,hs,hw,hl=>by
  have hx:w1[pre.length]? =some x:=by rw[hs];simp
  simp only[List.length_cons]at hl;obtain⟨o1,e1,hw1,hm1,hl1⟩:=OY (v:=x) hw (by omega);rw[PX];unfold D9;rw[ltD hx,AP,AN hx,e1,AD,Aq hx (by omega),A4];obtain⟨o,e,hw2,hm2,hl2⟩:=aK5 w1 h1 r (pre++[x]) o1 (by rw[hs];simp) hw1 (by omega);rw[List.length_append]at e;refine⟨o,e,hw2,fun y=>?_,by simp;omega⟩;rw[hm2,hm1,mc];constructor;rintro((h|h)|h)<;>simp[h];rintro(h|h|h)<;>simp[h]
theorem aJb{a b:List Int}(ha:Rs a)(hla:a.length<=10000)(hlb:b.length<=10000):∃r,Y0 a b=some r/\Rs r/\(∀y,y∈r↔y∈a\/y∈b)/\r.length<=a.length+b.length:=by obtain⟨o,e,h⟩:=aK5 b hlb b [] a rfl ha (by omega);refine⟨o,?_,h⟩;unfold Y0 Up CK;rw[if_pos (AU (by omega) (by decide)),AD,show LJ b (b.length:Int) 0 a=some o from e,AD]
theorem ZZ{s1:List Int}(hs1:Rs s1)(hl1:s1.length<=10000)(s10:List Int)(h10:s10.length<=10000):∀(r pre w5:List Int),s10=pre++r->w5.length+r.length<=90000->
 IK s1 s10 (s10.length:Int) (pre.length:Int) w5=some (w5++r.filter fun x=>decide (x∈s1))
 |[],pre,w5,hs,hl=>by
  rw[Oy];have e:s10.length=pre.length:=by rw[hs];simp
  unfold D4;rw[AL,if_neg (by simp[e])];simp[Bh]
 |x::r,pre,w5,hs,hl=>by
  have hx:s10[pre.length]? =some x:=by rw[hs];simp
  simp only[List.length_cons]at hl;obtain⟨k,hk,hb,_⟩:=bsI (v:=x) hs1 (by omega);rw[Oy];unfold D4 Re T0;rw[ltD hx,AP,AN hx,hb,AD];have ih:=fun w h=>ZZ hs1 hl1 s10 h10 r (pre++[x]) w (by rw[hs];simp) h;simp only[List.length_append,List.length_cons,List.length_nil]at ih;by_cases h:x∈s1;rw[decide_eq_true h,AP,Ai (AU (by simp;omega) (by decide)),AD,AD,Aq hx (by omega),A4];show IK s1 s10 (s10.length:Int) ((pre.length+1:Nat):Int) (w5++[x])=_;rw[ih (w5++[x]) (by simp;omega),List.filter_cons_of_pos (by simpa using h)];simp;rw[decide_eq_false h,AR,AD,AD,Aq hx (by omega),A4];show IK s1 s10 (s10.length:Int) ((pre.length+1:Nat):Int) w5=_;rw[ih w5 (by omega),List.filter_cons_of_neg (by simpa using h)]
theorem LY{a b:List Int}(ha:Rs a)(hb:Rs b)(hla:a.length<=10000)(hlb:b.length<=10000):∃r,Xh a b=some r/\Rs r/\(∀y,y∈r↔y∈a/\y∈b)/\r.length<=a.length:=by have e:=ZZ hb hlb a hla a [] [] rfl (by simp;omega);refine⟨a.filter fun x=>decide (x∈b),?_,ha.sublist List.filter_sublist,fun y=>by simp,List.length_filter_le _ _⟩;unfold Xh;rw[show IK b a (a.length:Int) 0 []=_ from e,AD];rfl
theorem SL(a b:List Int):Xs a b=Xh a b:=rfl
end Go.Ac
