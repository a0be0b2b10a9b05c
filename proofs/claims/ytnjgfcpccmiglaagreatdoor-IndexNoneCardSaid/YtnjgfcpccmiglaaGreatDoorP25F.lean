/- Own work: the plain law. -/
import Derived.Test.YtnjgfcpccmiglaaGreatDoorP25E
set_option linter.unusedVariables false
set_option linter.unusedSimpArgs false
namespace Go.Ac
structure Dy(q:AA):Prop where
 decls:q.decls.length<=12
 quants:q.quants.length<=9
 frees:q.frees.length<=12
 states:q.states.length<=12
 symbols:q.symbols.length<=12
 trans:q.trans.length<=12
 nodes:q.nodes.length<=40
 args:∀s∈q.symbols,s.args.length<=12
 sets:∀t∈q.trans,t.sets.length<=12
def trL(q:AA)(l:List X2)(nm:X3->Int->Bool):Int->List X5->Option Int
 |a,[]=>some a
 |a,t::r=>match trS q l nm a t with
  |none=>none
  |some b=>trL q l nm b r
theorem Fg{q:AA}{l:List X2}(h:LOk q l)(hF:Dy q):∀(r pre:List X5) (a:Int),q.trans=pre++r->0<=a->a<=q.nodes.length->
 ∃o,IP q q.trans (q.trans.length:Int) q (pre.length:Int) a l=some o/\match trL q l stB a r with|some b=>o=.inl (b,l)|none=>∃z,o=.inr z
 |[],pre,a,hs,h0,h1=>by
  rw[LT];have e:q.trans.length=pre.length:=by rw[hs];simp
  unfold DG;rw[AN,if_neg (by simp[e])];exact⟨_,rfl,rfl⟩
 |t::r,pre,a,hs,h0,h1=>by
  have hx:q.trans[pre.length]? =some t:=by rw[hs];simp
  obtain⟨z,hz,hm⟩:=KY h hF.args (pre.length:Int) (hF.sets t (List.mem_of_getElem? hx)) h0 h1;have hl:=hF.trans;rw[LT];unfold DG;rw[ltD hx,AW,AU hx,hz,AH,At hx (by omega),trL];cases ht:trS q l stB a t with
  |none=>
   rw[ht]at hm
   simp only at hm
   rw[hm,AN,if_pos (show(!false)=true from rfl),EM]
   exact⟨_,rfl,_,rfl⟩
  |some b=>
   rw[ht]at hm
   simp only at hm
   subst hm
   have hr:=SY h h0 h1 ht
   rw[AN,if_neg (by simp),EL]
   have:=Fg h hF r (pre++[t]) b (by rw[hs];simp) (by omega) hr.2
   rw[List.length_append]at this
   exact this
theorem G5{q:AA}{l:List X2}(h:LOk q l)(hF:Dy q):∀(r pre:List X5) (a:Int),q.trans=pre++r->0<=a->a<=q.nodes.length->
 Mf q a (pre.length:Int)=some (match trL q l Dx a r with|some b=>.inl b|none=>.inr ())
 |[],pre,a,hs,h0,h1=>by
  rw[Ly];have e:q.trans.length=pre.length:=by rw[hs];simp
  unfold FU;rw[AN,if_neg (by simp[e])];rfl
 |t::r,pre,a,hs,h0,h1=>by
  have hx:q.trans[pre.length]? =some t:=by rw[hs];simp
  obtain⟨z,hz,hm⟩:=NI h hF.args (hF.sets t (List.mem_of_getElem? hx)) h0 h1;have hl:=hF.trans;rw[Ly];unfold FU;rw[ltD hx,AW,AU hx,hz,AH,At hx (by omega),trL];cases ht:trS q l Dx a t with
  |none=>
   rw[ht]at hm
   simp only at hm
   rw[hm,AN,if_pos (show(!false)=true from rfl),EM]
  |some b=>
   rw[ht]at hm
   simp only at hm
   subst hm
   have hr:=SY h h0 h1 ht
   rw[AN,if_neg (by simp),EL]
   have:=G5 h hF r (pre++[t]) b (by rw[hs];simp) (by omega) hr.2
   rw[List.length_append]at this
   exact this
theorem aFl{q:AA}{l:List X2}(h:LOk q l)(hF:Dy q)(he:Xh q=some l):Yz q=some (decide (trL q l stB 0 q.trans=some (q.nodes.length:Int))):=by
 obtain⟨o,ho,hm⟩:=Fg h hF q.trans [] 0 rfl (Int.le_refl _) (by omega);unfold Yz Xm;rw[he,AH,show IP q q.trans (q.trans.length:Int) q 0 0 l=some o from ho,AH];cases ht:trL q l stB 0 q.trans with
 |none=>
  rw[ht]at hm
  obtain⟨z,rfl⟩:=hm
  rfl
 |some b=>
  rw[ht]at hm
  simp only at hm
  subst hm
  simp only[Dt,AH,AW,oe,h.len]
theorem Kz{q:AA}{l:List X2}{nm:X3->Int->Bool}:∀{r:List X5} {a b:Int},trL q l nm a r=some b->∀t∈r,0<=t.symbol/\t.symbol<q.symbols.length
 |[],a,b,h,t,ht=>by cases ht
 |x::r,a,b,h,t,ht=>by
  rw[trL]at h;cases hs:trS q l nm a x with
  |none=>rw[hs]at h;cases h
  |some c=>
   rw[hs]at h
   rcases mc.1 ht with rfl|hm
   unfold trS at hs
   split at hs
   rename_i hc;exact⟨hc.2.2.2.2.1,hc.2.2.2.2.2⟩
   cases hs
   exact Kz h t hm
theorem Mw{q:AA}{s:X3}(h:∀v,Dx s v=stB s v)(a b:Int):Se Dx q s a b=Se stB q s a b:=by unfold Se;simp only[h]
theorem JG{q:AA}{l:List X2}(h:∀s∈q.symbols,∀v,Dx s v=stB s v):∀(r:List X5) (a:Int),trL q l Dx a r=trL q l stB a r
 |[],a=>rfl
 |t::r,a=>by
  have e:trS q l Dx a t=trS q l stB a t:=by
   unfold trS;split;split;rfl;cases NM q l [] (if t.guard= -1 then a else t.guard+1) t.sets with
   |none=>rfl
   |some b=>
    simp only
    cases hs:q.symbols[t.symbol.toNat]? with
    |none=>rfl
    |some s=>simp only[Mw (h s (List.mem_of_getElem? hs))]
   rfl
  rw[trL,trL,e];cases trS q l stB a t with
  |none=>rfl
  |some b=>exact JG h r b
def Kq(w:List Int)(t:X5):List Int:=if w.contains t.symbol=true then w else w++[t.symbol]
def JK(q:AA):List Int:=q.trans.foldl Kq []
theorem IL(l:List Int)(s:Int)(hl:l.length<=9223372036854775807):Z5 l s=some (l.contains s):=by
 unfold Z5 Yb Pu;rw[BV l (fun x=>decide (s=x))
  (fun i x hx=>by simp only[FR,ltD hx,AW,AU hx,At hx hl];simp only[AN];cases decide (s=x)<;>rfl)
  (by simp only[FR,ltI,AV]),AH]
 have e:l.any (fun x=>decide (s=x))=l.contains s:=by rw[Bool.eq_iff_iff,List.any_eq_true,List.contains_iff_mem];simp
 rw[e];cases l.contains s<;>simp[Ap,AF]
theorem U8{q:AA}(hF:Dy q):Md q q.trans (q.trans.length:Int) 0 []=some (JK q):=by
 have hl:=hF.trans;unfold Md;exact Dh (step:=fun s:Int×List Int=>DF q q.trans (q.trans.length:Int) s.1 s.2) q.trans Kq (fun w=>w) (fun i w=>w.length<=i)
  (fun i x w hx hI=>by have hi:=CG hx;refine⟨?_,?_⟩;simp only[DF,ltD hx,AW,Mc,AU hx,IL w _ (by omega),AH,OY,At hx (show q.trans.length<=9223372036854775807 by omega),Kq];rw[Bw (Bb (by simp;omega) (by decide))];cases w.contains x.symbol<;>rfl;unfold Kq;split;omega;rw[List.length_append];simp;omega)
  (fun w hI=>by simp only[DF,ltI,AV]) [] (Nat.le_refl _)
theorem XU{q:AA}(hF:Dy q)(hT:∀t∈q.trans,0<=t.symbol/\t.symbol<q.symbols.length):Sq q 0 (List.replicate (q.symbols.length:Int).toNat false) []=some (JK q):=by
 have hl:=hF.trans;have hl2:=hF.symbols;unfold Sq;have key:=B0 (step:=fun s:Int×List Bool×List Int=>Em q s.1 s.2.1 s.2.2) q.trans (fun i (w:List Bool×List Int)=>((i:Int),w)) (fun _ w x=>(.inl (w.1.set x.symbol.toNat true,Kq w.2 x):List Bool×List Int⊕List Int)) (fun w=>w.2)
  (fun i w=>w.2.length<=i/\w.1.length=q.symbols.length/\∀(k:Nat) b,w.1[k]? =some b->b=w.2.contains (k:Int))
  (fun i x w hx hI=>by
   obtain⟨I1,I2,I3⟩:=hI;have hi:=CG hx;have hs:=hT x (List.mem_of_getElem? hx);obtain⟨b,hb,hb2⟩:=II (l:=w.1) (i:=x.symbol) hs.1 (by omega);have hbc:b=w.2.contains x.symbol:=by have:=I3 _ _ hb;rwa [<-hb2]at this
   refine⟨?_,fun w' hw=>?_⟩;simp only[Em,ltD hx,AW,Sm,AU hx,Bw (show 0<=x.symbol/\x.symbol+1<=(w.1.length:Int) by omega),Bn hb hs.1,So,At hx (show q.trans.length<=9223372036854775807 by omega),Kq];rw[Bw (Bb (by simp;omega) (by decide)),<-hbc];cases b<;>rfl;cases hw;refine⟨?_,by simp[I2],fun k c hk=>?_⟩;simp only[Kq];split;omega;rw[List.length_append];simp;omega;simp only at hk⊢;by_cases hks:k=x.symbol.toNat;subst hks;rw[List.getElem?_set_self (by omega)]at hk;cases hk;rw[<-hb2];unfold Kq;split;rename_i hh;rw[hh];symm;rw[List.contains_iff_mem];simp;rw[List.getElem?_set_ne (fun hh=>hks hh.symm)]at hk;rw[I3 k c hk];unfold Kq;split;rfl;rw[Bool.eq_iff_iff,List.contains_iff_mem,List.contains_iff_mem];simp;omega)
  (fun w hI=>by simp only[Em,ltI,AV]) (q.trans.length+1) 0 (List.replicate q.symbols.length false,[]) (by omega) (by omega)
  ⟨Nat.le_refl _,by simp,fun k b hk=>by have:=List.eq_of_mem_replicate (List.mem_of_getElem? hk);rw[this];rfl⟩
 rw[show((q.symbols.length:Int)).toNat=q.symbols.length by omega];refine key.trans ?_;rw[List.drop_zero];congr 1;have run:∀(l:List X5) (i:Nat) (w:List Bool×List Int),GN (fun _ w x=>(.inl (w.1.set x.symbol.toNat true,Kq w.2 x):List Bool×List Int⊕List Int)) (fun w=>w.2) i l w=l.foldl Kq w.2:=by
  intro l;induction l with
  |nil=>intro i w;rfl
  |cons x xs ih=>intro i w;rw[GN];exact ih _ _
 exact run q.trans 0 _
def XQ(q:AA):Bool:=(JK q).zipIdx.all fun z=>decide (z.1=AB .add .i64 (AB .sub .i64 (q.symbols.length:Int) ((JK q).length:Int)) (z.2:Int))
theorem MN(q:AA):(JK q).length<=q.trans.length:=by
 have:∀(l:List X5) (w:List Int),(l.foldl Kq w).length<=w.length+l.length:=by
  intro l;induction l with
  |nil=>intro w;simp
  |cons x xs ih=>
   intro w
   have h2:(Kq w x).length<=w.length+1:=by unfold Kq;split;omega;simp
   have:=ih (Kq w x)
   rw[List.foldl_cons,List.length_cons];omega
 have:=this q.trans [];unfold JK;simpa using this
theorem Rd{q:AA}(hF:Dy q):Y5 (JK q) q (JK q)=some (XQ q):=by
 have h1:=MN q;have h2:=hF.trans;unfold Y5 Pc;rw[Bo (JK q) (fun i x=>decide (x=AB .add .i64 (AB .sub .i64 (q.symbols.length:Int) ((JK q).length:Int)) (i:Int))) (.inl ():Unit⊕Unit) (.inr ())
  (fun i x hx=>by simp only[FL,ltD hx,AW,AU hx,Qq,AH,At hx (show(JK q).length<=9223372036854775807 by omega)];simp only[AN];cases decide (x=_)<;>rfl)
  (by simp only[FL,ltI,AV]),AH]
 unfold XQ;cases(JK q).zipIdx.all _<;>rfl
theorem VV{q:AA}(hF:Dy q):Ss q (JK q) 0=some (if XQ q=true then .inl ()else .inr ()):=by
 have h1:=MN q;have h2:=hF.trans;unfold Ss;rw[Bo (JK q) (fun i x=>decide (x=AB .add .i64 (AB .sub .i64 (q.symbols.length:Int) ((JK q).length:Int)) (i:Int))) (.inl ():Unit⊕Unit) (.inr ())
  (fun i x hx=>by simp only[HE,ltD hx,AW,AU hx,At hx (show(JK q).length<=9223372036854775807 by omega)];simp only[AN];cases decide (x=_)<;>rfl)
  (by simp only[HE,ltI,AV])]
 rfl
def NQ(q:AA)(a:AT)(k:Int):Bool:=
 if a.kind=1 then decide (a.n=0)&&vR a.value&&decide (a.value.kind=k)
 else if¬a.value=zV then false
 else if a.kind=2 then decide (0<=a.n)&&match q.quants[a.n.toNat]? with|some x=>decide (x.type=k)|none=>false
 else if a.kind=3 then decide (0<=a.n)&&match q.frees[a.n.toNat]? with|some x=>decide (x.init_.kind=k)|none=>false
 else decide (a.kind=4)&&decide (a.n=0)
theorem aCu(q:AA)(a:AT)(k:Int):Q0 q a k=some (NQ q a k):=by
 obtain⟨kd,n,v⟩:=a;unfold Q0 NQ;simp only[AN,Wn,AH,X4.eqb_dec,AT.eqb_dec,AT.mk.injEq];simp only[decide_eq_true_eq];change (if kd=1 then _ else if kd=2 then(if 0<=n then(if n<_ then Ae _ _ fun x2:Xc=>if x2.type=k then some (decide (v=zV))else _ else _)else _)else if kd=3 then(if 0<=n then(if n<_ then Ae _ _ fun x2:Xf=>if x2.init_.kind=k then some (decide (v=zV))else _ else _)else _)else some (decide (kd=4/\n=0/\v=zV)))=_
 by_cases h1:kd=1;simp only[if_pos h1];by_cases hn:n=0<;>cases vR v<;>simp[hn];simp only[if_neg h1];by_cases h2:kd=2;simp only[if_pos h2];by_cases h0:0<=n;by_cases hl:n<(q.quants.length:Int);obtain⟨x,hx,_⟩:=II (l:=q.quants) (i:=n) h0 hl;rw[if_pos h0,if_pos hl,Bn hx h0,hx];by_cases hv:v=zV<;>by_cases hk:x.type=k<;>simp[hv,hk,h0];rw[if_pos h0,if_neg hl,List.getElem?_eq_none (by omega)];simp;rw[if_neg h0];simp[h0];simp only[if_neg h2];by_cases h3:kd=3;simp only[if_pos h3];by_cases h0:0<=n;by_cases hl:n<(q.frees.length:Int);obtain⟨x,hx,_⟩:=II (l:=q.frees) (i:=n) h0 hl;rw[if_pos h0,if_pos hl,Bn hx h0,hx];by_cases hv:v=zV<;>by_cases hk:x.init_.kind=k<;>simp[hv,hk,h0];rw[if_pos h0,if_neg hl,List.getElem?_eq_none (by omega)];simp;rw[if_neg h0];simp[h0];simp only[if_neg h3];by_cases hv:v=zV<;>by_cases h4:kd=4<;>by_cases hn:n=0<;>simp[hv,h4,hn]
theorem NG(q:AA)(a:AT)(k:Int):Qb q a k=some (NQ q a k):=by
 obtain⟨kd,n,v⟩:=a;unfold Qb NQ;simp only[AN,Un,AH,X4.eqb_dec];simp only[decide_eq_true_eq,Bool.not_eq_true',decide_eq_false_iff_not];change (if kd=1 then _ else if¬v=zV then _ else _)=_
 by_cases h1:kd=1;simp only[if_pos h1];by_cases hn:n=0<;>cases vR v<;>simp[hn];simp only[if_neg h1];by_cases hv:¬v=zV;simp only[if_pos hv];simp only[if_neg hv];by_cases h2:kd=2;simp only[if_pos h2];by_cases h0:0<=n;by_cases hl:n<(q.quants.length:Int);obtain⟨x,hx,_⟩:=II (l:=q.quants) (i:=n) h0 hl;rw[if_pos h0,if_pos hl,Bn hx h0,hx];simp[h0];rw[if_pos h0,if_neg hl,List.getElem?_eq_none (by omega)];simp;rw[if_neg h0];simp[h0];simp only[if_neg h2];by_cases h3:kd=3;simp only[if_pos h3];by_cases h0:0<=n;by_cases hl:n<(q.frees.length:Int);obtain⟨x,hx,_⟩:=II (l:=q.frees) (i:=n) h0 hl;rw[if_pos h0,if_pos hl,Bn hx h0,hx];simp[h0];rw[if_pos h0,if_neg hl,List.getElem?_eq_none (by omega)];simp;rw[if_neg h0];simp[h0];simp only[if_neg h3];by_cases h4:kd=4<;>by_cases hn:n=0<;>simp[h4,hn]
end Go.Ac
