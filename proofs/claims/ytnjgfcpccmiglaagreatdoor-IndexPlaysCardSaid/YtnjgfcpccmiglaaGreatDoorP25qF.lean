/- Own work: the plain law. -/
import Derived.Test.YtnjgfcpccmiglaaGreatDoorP25qE
set_option linter.unusedVariables false
set_option linter.unusedSimpArgs false
namespace Go.Ac
structure CV(q:AA):Prop where
 decls:q.decls.length<=12
 quants:q.quants.length<=9
 frees:q.frees.length<=12
 states:q.states.length<=12
 symbols:q.symbols.length<=12
 trans:q.trans.length<=12
 nodes:q.nodes.length<=40
 args:∀s∈q.symbols,s.args.length<=12
 sets:∀t∈q.trans,t.sets.length<=12
def trL(q:AA)(l:List X4)(nm:X2->Int->Bool):Int->List X5->Option Int
 |a,[]=>some a
 |a,t::r=>match trS q l nm a t with
  |none=>none
  |some b=>trL q l nm b r
theorem HX{q:AA}{l:List X4}(h:LOk q l)(hF:CV q):∀(r pre:List X5) (a:Int),q.trans=pre++r->0<=a->a<=q.nodes.length->
 ∃o,LK q q.trans (q.trans.length:Int) q (pre.length:Int) a l=some o/\match trL q l stB a r with|some b=>o=.inl (b,l)|none=>∃z,o=.inr z
 |[],pre,a,hs,h0,h1=>by
  rw[Pb];have e:q.trans.length=pre.length:=by rw[hs];simp
  unfold EA;rw[AL,if_neg (by simp[e])];exact⟨_,rfl,rfl⟩
 |t::r,pre,a,hs,h0,h1=>by
  have hx:q.trans[pre.length]? =some t:=by rw[hs];simp
  obtain⟨z,hz,hm⟩:=Nv h hF.args (pre.length:Int) (hF.sets t (List.mem_of_getElem? hx)) h0 h1;have hl:=hF.trans;rw[Pb];unfold EA;rw[ltD hx,AP,AN hx,hz,AD,Aq hx (by omega),trL];cases ht:trS q l stB a t with
  |none=>
   rw[ht]at hm
   simp only at hm
   rw[hm,AL,if_pos (show(!false)=true from rfl),DN]
   exact⟨_,rfl,_,rfl⟩
  |some b=>
   rw[ht]at hm
   simp only at hm
   subst hm
   have hr:=aCh h h0 h1 ht
   rw[AL,if_neg (by simp),A4]
   have:=HX h hF r (pre++[t]) b (by rw[hs];simp) (by omega) hr.2
   rw[List.length_append]at this
   exact this
theorem JS{q:AA}{l:List X4}(h:LOk q l)(hF:CV q):∀(r pre:List X5) (a:Int),q.trans=pre++r->0<=a->a<=q.nodes.length->
 Rw q a (pre.length:Int)=some (match trL q l Es a r with|some b=>.inl b|none=>.inr ())
 |[],pre,a,hs,h0,h1=>by
  rw[Pz];have e:q.trans.length=pre.length:=by rw[hs];simp
  unfold HG;rw[AL,if_neg (by simp[e])];rfl
 |t::r,pre,a,hs,h0,h1=>by
  have hx:q.trans[pre.length]? =some t:=by rw[hs];simp
  obtain⟨z,hz,hm⟩:=Sm h hF.args (hF.sets t (List.mem_of_getElem? hx)) h0 h1;have hl:=hF.trans;rw[Pz];unfold HG;rw[ltD hx,AP,AN hx,hz,AD,Aq hx (by omega),trL];cases ht:trS q l Es a t with
  |none=>
   rw[ht]at hm
   simp only at hm
   rw[hm,AL,if_pos (show(!false)=true from rfl),DN]
  |some b=>
   rw[ht]at hm
   simp only at hm
   subst hm
   have hr:=aCh h h0 h1 ht
   rw[AL,if_neg (by simp),A4]
   have:=JS h hF r (pre++[t]) b (by rw[hs];simp) (by omega) hr.2
   rw[List.length_append]at this
   exact this
theorem aY5{q:AA}{l:List X4}(h:LOk q l)(hF:CV q)(he:Xk q=some l):Zs q=some (decide (trL q l stB 0 q.trans=some (q.nodes.length:Int))):=by
 obtain⟨o,ho,hm⟩:=HX h hF q.trans [] 0 rfl (Int.le_refl _) (by omega);unfold Zs Y3;rw[he,AD,show LK q q.trans (q.trans.length:Int) q 0 0 l=some o from ho,AD];cases ht:trL q l stB 0 q.trans with
 |none=>
  rw[ht]at hm
  obtain⟨z,rfl⟩:=hm
  rfl
 |some b=>
  rw[ht]at hm
  simp only at hm
  subst hm
  simp only[DH,AD,AP,oe,h.len]
theorem OW{q:AA}{l:List X4}{nm:X2->Int->Bool}:∀{r:List X5} {a b:Int},trL q l nm a r=some b->∀t∈r,0<=t.symbol/\t.symbol<q.symbols.length
 |[],a,b,h,t,ht=>by cases ht
 |x::r,a,b,h,t,ht=>by
  rw[trL]at h;cases hs:trS q l nm a x with
  |none=>rw[hs]at h;cases h
  |some c=>
   rw[hs]at h
   rcases mc.1 ht with rfl|hm
   unfold trS at hs
   split at hs
   rename_i hc;exact⟨hc.2.2.2.2.1,hc.2.2.2.2.2⟩
   cases hs
   exact OW h t hm
theorem SH{q:AA}{s:X2}(h:∀v,Es s v=stB s v)(a b:Int):aCs Es q s a b=aCs stB q s a b:=by unfold aCs;simp only[h]
theorem MV{q:AA}{l:List X4}(h:∀s∈q.symbols,∀v,Es s v=stB s v):∀(r:List X5) (a:Int),trL q l Es a r=trL q l stB a r
 |[],a=>rfl
 |t::r,a=>by
  have e:trS q l Es a t=trS q l stB a t:=by
   unfold trS;split;split;rfl;cases Sr q l [] (if t.guard= -1 then a else t.guard+1) t.sets with
   |none=>rfl
   |some b=>
    simp only
    cases hs:q.symbols[t.symbol.toNat]? with
    |none=>rfl
    |some s=>simp only[SH (h s (List.mem_of_getElem? hs))]
   rfl
  rw[trL,trL,e];cases trS q l stB a t with
  |none=>rfl
  |some b=>exact MV h r b
def OL(w:List Int)(t:X5):List Int:=if w.contains t.symbol=true then w else w++[t.symbol]
def Mc(q:AA):List Int:=q.trans.foldl OL []
theorem K7(l:List Int)(s:Int)(hl:l.length<=9223372036854775807):Zz l s=some (l.contains s):=by
 unfold Zz Ys Wr;rw[Bj l (fun x=>decide (s=x))
  (fun i x hx=>by simp only[HC,ltD hx,AP,AN hx,Aq hx hl];simp only[AL];cases decide (s=x)<;>rfl)
  (by simp only[HC,ltI,AR]),AD]
 have e:l.any (fun x=>decide (s=x))=l.contains s:=by rw[Bool.eq_iff_iff,List.any_eq_true,List.contains_iff_mem];simp
 rw[e];cases l.contains s<;>simp[As,AG]
theorem aIs{q:AA}(hF:CV q):Ri q q.trans (q.trans.length:Int) 0 []=some (Mc q):=by
 have hl:=hF.trans;unfold Ri;exact DF (step:=fun s:Int×List Int=>D5 q q.trans (q.trans.length:Int) s.1 s.2) q.trans OL (fun w=>w) (fun i w=>w.length<=i)
  (fun i x w hx hI=>by have hi:=BM hx;refine⟨?_,?_⟩;simp only[D5,ltD hx,AP,Rh,AN hx,K7 w _ (by omega),AD,UI,Aq hx (show q.trans.length<=9223372036854775807 by omega),OL];rw[Ai (AU (by simp;omega) (by decide))];cases w.contains x.symbol<;>rfl;unfold OL;split;omega;rw[List.length_append];simp;omega)
  (fun w hI=>by simp only[D5,ltI,AR]) [] (Nat.le_refl _)
theorem aOo{q:AA}(hF:CV q)(hT:∀t∈q.trans,0<=t.symbol/\t.symbol<q.symbols.length):aDc q 0 (List.replicate (q.symbols.length:Int).toNat false) []=some (Mc q):=by
 have hl:=hF.trans;have hl2:=hF.symbols;unfold aDc;have key:=CT (step:=fun s:Int×List Bool×List Int=>GG q s.1 s.2.1 s.2.2) q.trans (fun i (w:List Bool×List Int)=>((i:Int),w)) (fun _ w x=>(.inl (w.1.set x.symbol.toNat true,OL w.2 x):List Bool×List Int⊕List Int)) (fun w=>w.2)
  (fun i w=>w.2.length<=i/\w.1.length=q.symbols.length/\∀(k:Nat) b,w.1[k]? =some b->b=w.2.contains (k:Int))
  (fun i x w hx hI=>by
   obtain⟨I1,I2,I3⟩:=hI;have hi:=BM hx;have hs:=hT x (List.mem_of_getElem? hx);obtain⟨b,hb,hb2⟩:=K3 (l:=w.1) (i:=x.symbol) hs.1 (by omega);have hbc:b=w.2.contains x.symbol:=by have:=I3 _ _ hb;rwa [<-hb2]at this
   refine⟨?_,fun w' hw=>?_⟩;simp only[GG,ltD hx,AP,aC8,AN hx,Ai (show 0<=x.symbol/\x.symbol+1<=(w.1.length:Int) by omega),B0 hb hs.1,aDa,Aq hx (show q.trans.length<=9223372036854775807 by omega),OL];rw[Ai (AU (by simp;omega) (by decide)),<-hbc];cases b<;>rfl;cases hw;refine⟨?_,by simp[I2],fun k c hk=>?_⟩;simp only[OL];split;omega;rw[List.length_append];simp;omega;simp only at hk⊢;by_cases hks:k=x.symbol.toNat;subst hks;rw[List.getElem?_set_self (by omega)]at hk;cases hk;rw[<-hb2];unfold OL;split;rename_i hh;rw[hh];symm;rw[List.contains_iff_mem];simp;rw[List.getElem?_set_ne (fun hh=>hks hh.symm)]at hk;rw[I3 k c hk];unfold OL;split;rfl;rw[Bool.eq_iff_iff,List.contains_iff_mem,List.contains_iff_mem];simp;omega)
  (fun w hI=>by simp only[GG,ltI,AR]) (q.trans.length+1) 0 (List.replicate q.symbols.length false,[]) (by omega) (by omega)
  ⟨Nat.le_refl _,by simp,fun k b hk=>by have:=List.eq_of_mem_replicate (List.mem_of_getElem? hk);rw[this];rfl⟩
 rw[show((q.symbols.length:Int)).toNat=q.symbols.length by omega];refine key.trans ?_;rw[List.drop_zero];congr 1;have run:∀(l:List X5) (i:Nat) (w:List Bool×List Int),H3 (fun _ w x=>(.inl (w.1.set x.symbol.toNat true,OL w.2 x):List Bool×List Int⊕List Int)) (fun w=>w.2) i l w=l.foldl OL w.2:=by
  intro l;induction l with
  |nil=>intro i w;rfl
  |cons x xs ih=>intro i w;rw[H3];exact ih _ _
 exact run q.trans 0 _
def aOh(q:AA):Bool:=(Mc q).zipIdx.all fun z=>decide (z.1=AB .add .i64 (AB .sub .i64 (q.symbols.length:Int) ((Mc q).length:Int)) (z.2:Int))
theorem RI(q:AA):(Mc q).length<=q.trans.length:=by
 have:∀(l:List X5) (w:List Int),(l.foldl OL w).length<=w.length+l.length:=by
  intro l;induction l with
  |nil=>intro w;simp
  |cons x xs ih=>
   intro w
   have h2:(OL w x).length<=w.length+1:=by unfold OL;split;omega;simp
   have:=ih (OL w x)
   rw[List.foldl_cons,List.length_cons];omega
 have:=this q.trans [];unfold Mc;simpa using this
theorem aAb{q:AA}(hF:CV q):Yo (Mc q) q (Mc q)=some (aOh q):=by
 have h1:=RI q;have h2:=hF.trans;unfold Yo Wd;rw[CI (Mc q) (fun i x=>decide (x=AB .add .i64 (AB .sub .i64 (q.symbols.length:Int) ((Mc q).length:Int)) (i:Int))) (.inl ():Unit⊕Unit) (.inr ())
  (fun i x hx=>by simp only[G8,ltD hx,AP,AN hx,Uk,AD,Aq hx (show(Mc q).length<=9223372036854775807 by omega)];simp only[AL];cases decide (x=_)<;>rfl)
  (by simp only[G8,ltI,AR]),AD]
 unfold aOh;cases(Mc q).zipIdx.all _<;>rfl
theorem aJu{q:AA}(hF:CV q):aDe q (Mc q) 0=some (if aOh q=true then .inl ()else .inr ()):=by
 have h1:=RI q;have h2:=hF.trans;unfold aDe;rw[CI (Mc q) (fun i x=>decide (x=AB .add .i64 (AB .sub .i64 (q.symbols.length:Int) ((Mc q).length:Int)) (i:Int))) (.inl ():Unit⊕Unit) (.inr ())
  (fun i x hx=>by simp only[Jf,ltD hx,AP,AN hx,Aq hx (show(Mc q).length<=9223372036854775807 by omega)];simp only[AL];cases decide (x=_)<;>rfl)
  (by simp only[Jf,ltI,AR])]
 rfl
def SC(q:AA)(a:AX)(k:Int):Bool:=
 if a.kind=1 then decide (a.n=0)&&vR a.value&&decide (a.value.kind=k)
 else if¬a.value=zV then false
 else if a.kind=2 then decide (0<=a.n)&&match q.quants[a.n.toNat]? with|some x=>decide (x.type=k)|none=>false
 else if a.kind=3 then decide (0<=a.n)&&match q.frees[a.n.toNat]? with|some x=>decide (x.init_.kind=k)|none=>false
 else decide (a.kind=4)&&decide (a.n=0)
theorem aVa(q:AA)(a:AX)(k:Int):Qw q a k=some (SC q a k):=by
 obtain⟨kd,n,v⟩:=a;unfold Qw SC;simp only[AL,aM9,AD,X3.eqb_dec,AX.eqb_dec,AX.mk.injEq];simp only[decide_eq_true_eq];change (if kd=1 then _ else if kd=2 then(if 0<=n then(if n<_ then Ab _ _ fun x2:Xd=>if x2.type=k then some (decide (v=zV))else _ else _)else _)else if kd=3 then(if 0<=n then(if n<_ then Ab _ _ fun x2:Xi=>if x2.init_.kind=k then some (decide (v=zV))else _ else _)else _)else some (decide (kd=4/\n=0/\v=zV)))=_
 by_cases h1:kd=1;simp only[if_pos h1];by_cases hn:n=0<;>cases vR v<;>simp[hn];simp only[if_neg h1];by_cases h2:kd=2;simp only[if_pos h2];by_cases h0:0<=n;by_cases hl:n<(q.quants.length:Int);obtain⟨x,hx,_⟩:=K3 (l:=q.quants) (i:=n) h0 hl;rw[if_pos h0,if_pos hl,B0 hx h0,hx];by_cases hv:v=zV<;>by_cases hk:x.type=k<;>simp[hv,hk,h0];rw[if_pos h0,if_neg hl,List.getElem?_eq_none (by omega)];simp;rw[if_neg h0];simp[h0];simp only[if_neg h2];by_cases h3:kd=3;simp only[if_pos h3];by_cases h0:0<=n;by_cases hl:n<(q.frees.length:Int);obtain⟨x,hx,_⟩:=K3 (l:=q.frees) (i:=n) h0 hl;rw[if_pos h0,if_pos hl,B0 hx h0,hx];by_cases hv:v=zV<;>by_cases hk:x.init_.kind=k<;>simp[hv,hk,h0];rw[if_pos h0,if_neg hl,List.getElem?_eq_none (by omega)];simp;rw[if_neg h0];simp[h0];simp only[if_neg h3];by_cases hv:v=zV<;>by_cases h4:kd=4<;>by_cases hn:n=0<;>simp[hv,h4,hn]
theorem Sk(q:AA)(a:AX)(k:Int):U1 q a k=some (SC q a k):=by
 obtain⟨kd,n,v⟩:=a;unfold U1 SC;simp only[AL,Rz,AD,X3.eqb_dec];simp only[decide_eq_true_eq,Bool.not_eq_true',decide_eq_false_iff_not];change (if kd=1 then _ else if¬v=zV then _ else _)=_
 by_cases h1:kd=1;simp only[if_pos h1];by_cases hn:n=0<;>cases vR v<;>simp[hn];simp only[if_neg h1];by_cases hv:¬v=zV;simp only[if_pos hv];simp only[if_neg hv];by_cases h2:kd=2;simp only[if_pos h2];by_cases h0:0<=n;by_cases hl:n<(q.quants.length:Int);obtain⟨x,hx,_⟩:=K3 (l:=q.quants) (i:=n) h0 hl;rw[if_pos h0,if_pos hl,B0 hx h0,hx];simp[h0];rw[if_pos h0,if_neg hl,List.getElem?_eq_none (by omega)];simp;rw[if_neg h0];simp[h0];simp only[if_neg h2];by_cases h3:kd=3;simp only[if_pos h3];by_cases h0:0<=n;by_cases hl:n<(q.frees.length:Int);obtain⟨x,hx,_⟩:=K3 (l:=q.frees) (i:=n) h0 hl;rw[if_pos h0,if_pos hl,B0 hx h0,hx];simp[h0];rw[if_pos h0,if_neg hl,List.getElem?_eq_none (by omega)];simp;rw[if_neg h0];simp[h0];simp only[if_neg h3];by_cases h4:kd=4<;>by_cases hn:n=0<;>simp[h4,hn]
end Go.Ac
