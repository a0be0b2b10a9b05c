/- Own work: the plain law. -/
import Derived.Test.YtnjgfcpccmiglaaGreatDoorP25qG
set_option linter.unusedVariables false
set_option linter.unusedSimpArgs false
namespace Go.Ac
theorem Nj{α:Type}{l:List α}{R:α->Prop}(h:∀j,j<l.length->∀x,l[j]? =some x->R x):∀x∈l,R x:=by intro x hx;obtain⟨j,hj,rfl⟩:=List.mem_iff_getElem.1 hx;exact h j hj _ (List.getElem?_eq_getElem hj)
theorem aWe(q:AA):∃n,Xa q=some n/\(n≠0->CV q):=by
 unfold Xa;simp only[CX];iterate 8 (split; · exact⟨0,rfl,by simp⟩)
 rename_i h1 h2 h3 h4 h5 h6 h7 h8;have hd:q.decls.length<=9223372036854775807:=by omega
 have hs:q.symbols.length<=9223372036854775807:=by omega
 have hf:q.frees.length<=9223372036854775807:=by omega
 have hn:q.nodes.length<=9223372036854775807:=by omega
 have ht:q.trans.length<=9223372036854775807:=by omega
 obtain⟨t1,e1,_⟩:=Bu (step:=fun s=>GH q s) q.decls.length (fun _=>True) (fun _=>True)
  (fun i hi=>by
   obtain⟨x,hx,_⟩:=A8 hi;simp only[GH,ltD hx,AP,AN hx,Aq hx hd];simp only[AL];repeat' split
   all_goals first|exact .inl ⟨rfl,trivial⟩|exact .inr ⟨_,rfl,trivial⟩)
  (fun _=>⟨.inl (),by simp only[GH,ltI,AR],trivial⟩)
 obtain⟨t2,e2,Q2⟩:=Bu (step:=fun s=>GI q s) q.symbols.length (fun i=>∀x,q.symbols[i]? =some x->x.args.length<=12) (fun t=>t=.inl ()->∀s∈q.symbols,s.args.length<=12)
  (fun i hi=>by
   obtain⟨x,hx,_⟩:=A8 hi;simp only[GI,ltD hx,AP,AN hx,Aq hx hs,CX];split;exact .inr ⟨_,rfl,by simp⟩;rename_i h12;obtain⟨t3,e3,_⟩:=Bu (step:=fun s=>GJ (i:Int) q s) x.args.length (fun _=>True) (fun _=>True)
    (fun j hj=>by obtain⟨y,hy,_⟩:=A8 hj;simp only[GJ,AN hx,ltD hy,AP,AN hy,Aq hy (show x.args.length<=9223372036854775807 by omega)];simp only[AL];split;exact .inr ⟨_,rfl,trivial⟩;exact .inl ⟨rfl,trivial⟩)
    (fun _=>⟨.inl (),by simp only[GJ,AN hx,ltI,AR],trivial⟩)
   unfold aLz;rw[e3,AD];rcases t3 with _|_
   exact .inl ⟨rfl,fun y hy=>by rw[hx]at hy;cases hy;omega⟩;exact .inr ⟨_,rfl,by simp⟩)
  (fun hP=>⟨.inl (),by simp only[GI,ltI,AR],fun _=>Nj hP⟩)
 obtain⟨t4,e4,_⟩:=Bu (step:=fun s=>GK q s) q.frees.length (fun _=>True) (fun _=>True)
  (fun i hi=>by obtain⟨x,hx,_⟩:=A8 hi;simp only[GK,ltD hx,AP,AN hx,Aq hx hf];simp only[AL];split;exact .inr ⟨_,rfl,trivial⟩;exact .inl ⟨rfl,trivial⟩)
  (fun _=>⟨.inl (),by simp only[GK,ltI,AR],trivial⟩)
 obtain⟨t5,e5,_⟩:=Bu (step:=fun s=>GL q s) q.nodes.length (fun _=>True) (fun _=>True)
  (fun i hi=>by obtain⟨x,hx,_⟩:=A8 hi;simp only[GL,ltD hx,AP,AN hx,Aq hx hn];simp only[AL];split;exact .inr ⟨_,rfl,trivial⟩;exact .inl ⟨rfl,trivial⟩)
  (fun _=>⟨.inl (),by simp only[GL,ltI,AR],trivial⟩)
 obtain⟨t6,e6,Q6⟩:=Bu (step:=fun s=>GM q s) q.trans.length (fun i=>∀x,q.trans[i]? =some x->x.sets.length<=12) (fun t=>t=.inl ()->∀s∈q.trans,s.sets.length<=12)
  (fun i hi=>by obtain⟨x,hx,_⟩:=A8 hi;simp only[GM,ltD hx,AP,AN hx,Aq hx ht,CX];split;exact .inr ⟨_,rfl,by simp⟩;exact .inl ⟨rfl,fun y hy=>by rw[hx]at hy;cases hy;omega⟩)
  (fun hP=>⟨.inl (),by simp only[GM,ltI,AR],fun _=>Nj hP⟩)
 unfold aLx aLy aL0 aL1 aL2;rw[e1,AD,e2,e4,e5,e6];simp only[AD];rcases t1 with _|_<;>rcases t2 with _|_<;>rcases t4 with _|_<;>rcases t5 with _|_<;>rcases t6 with _|_<;>simp only[DH,MT]<;>
  first
  |exact⟨0,rfl,by simp⟩
  |exact⟨1,rfl,fun _=>⟨by omega,by omega,by omega,by omega,by omega,by omega,by omega,Q2 rfl,Q6 rfl⟩⟩
theorem L3{α τ:Type}{step:Int->Option (Int⊕τ)}(l:List α)(p:Nat->α->Bool)(t:τ)(F:τ->Prop)
 (h1:∀(i:Nat) x,l[i]? =some x->(p i x=true->step i=some (.inl ((i+1:Nat):Int)))/\(p i x=false->∃f,step i=some (.inr f)/\F f)) (h2:step l.length=some (.inr t)):
 ∃r,AZ step 0=some r/\(l.zipIdx.all (fun z=>p z.2 z.1)=true->r=t)/\(l.zipIdx.all (fun z=>p z.2 z.1)=false->F r):=by
 refine Bu (step:=step) l.length (fun i=>∀x,l[i]? =some x->p i x=true) _ (fun i hi=>?_) (fun hP=>?_)
 obtain⟨x,hx,_⟩:=A8 hi
 obtain⟨a,b⟩:=h1 i x hx
 cases hp:p i x with
 |true=>exact .inl ⟨a hp,fun y hy=>by rw[hx]at hy;cases hy;exact hp⟩
 |false=>
  obtain⟨f,hf,hF⟩:=b hp
  refine .inr ⟨f,hf,fun ha=>?_,fun _=>hF⟩
  have:=(CB l p).1 ha i x hx
  rw[hp]at this;cases this
 have ha:l.zipIdx.all (fun z=>p z.2 z.1)=true:=(CB l p).2 fun i x hx=>hP i (BM hx) x hx
 exact⟨t,h2,fun _=>rfl,fun hf=>by rw[ha]at hf;cases hf⟩
theorem aK3{α:Type}{l:List α}{p:α->Bool}{i:Nat}{s:α}(h:l[i]? =some s)(hp:p s=true):decide (((l.findIdx p:Nat):Int)<(i:Int))= !((l.take i).all fun x=> !p x):=by
 rw[<-KY h hp];have hi:=BM h;have hs:l[i]=s:=by rw[List.getElem?_eq_getElem hi]at h;exact Option.some.inj h
 have h1:l.findIdx p<=i:=Nat.le_of_not_lt fun hlt=>by have:=List.not_of_lt_findIdx hlt;rw[hs,hp]at this;cases this
 by_cases h2:l.findIdx p=i;simp[h2];have h3:((l.findIdx p:Nat):Int)<(i:Int):=by omega
 have h4:¬((l.findIdx p:Nat):Int)=(i:Int):=by omega
 simp[h3,h4]
def tyB(t:Int):Bool:=decide (1<=t/\t<=3)
theorem aP2(t:Int):∃s,Qn t=some s/\decide (s=[])= !tyB t:=by
 unfold Qn tyB;simp only[CX];by_cases h1:t=1;exact⟨_,if_pos h1,by subst h1;rfl⟩;rw[if_neg h1];by_cases h2:t=2;exact⟨_,if_pos h2,by subst h2;rfl⟩;rw[if_neg h2];by_cases h3:t=3;exact⟨_,if_pos h3,by subst h3;rfl⟩;rw[if_neg h3];have:¬(1<=t/\t<=3):=by omega
 exact⟨_,rfl,by simp[this]⟩
def HY(l:List X8)(i:Nat)(d:X8):Bool:=C6 d.name&&((l.take i).all fun x=> !decide (x.name=d.name))&&decide (d.types.length<=8)&&d.types.all tyB
def aCt(l:List X8):Bool:=decide (l.length<=32)&&l.zipIdx.all fun z=>HY l z.2 z.1
theorem aB0{l:List X8}:∃r,Yk l=some r/\decide (r.1=0)=aCt l:=by
 unfold Yk aCt;rw[CX];by_cases h32:(32:Int)<(l.length:Int);rw[if_pos h32];have:¬l.length<=32:=by omega
 exact⟨_,rfl,by simp[this]⟩;rw[if_neg h32];have hl:l.length<=32:=by omega
 obtain⟨r,hr,ht,hf⟩:=L3 (step:=fun s=>G4 l s) l (HY l) (.inl ():Unit⊕(Int×Int)) (fun r=>∃a b,r=.inr (a,b)/\a≠0)
  (fun i d hd=>by
   have hF:Yz l d.name=some ((l.findIdx fun x=>decide (x.name=d.name):Nat):Int):=by
    unfold Yz aHp;rw[Bj l (fun x=>decide (x.name=d.name))
     (fun j x hx=>by simp only[FH,ltD hx,AP,AN hx,Aq hx (show l.length<=9223372036854775807 by omega),AL];cases decide (x.name=d.name)<;>rfl)
     (by simp only[FH,ltI,AR]),ZD (p:=fun x=>decide (x.name=d.name)) hd (by simp),AD]
    rfl
   simp only[G4,ltD hd,AP,AN hd,aHk,AD,hF,Aq hd (show l.length<=9223372036854775807 by omega),aK3 (p:=fun x=>decide (x.name=d.name)) hd (by simp)];unfold HY;cases C6 d.name with
   |false=>exact⟨fun h=>by simp at h,fun _=>⟨_,rfl,_,_,rfl,by decide⟩⟩
   |true=>
    cases(l.take i).all fun x=> !decide (x.name=d.name)with
    |false=>exact⟨fun h=>by simp at h,fun _=>⟨_,rfl,_,_,rfl,by decide⟩⟩
    |true=>
     simp only[Bool.not_true,AR,CX]
     by_cases h8:(8:Int)<(d.types.length:Int)
     rw[if_pos h8]
     have:decide (d.types.length<=8)=false:=decide_eq_false (by omega)
     rw[this]
     exact⟨fun h=>by simp at h,fun _=>⟨_,rfl,_,_,rfl,by decide⟩⟩
     rw[if_neg h8]
     have:decide (d.types.length<=8)=true:=decide_eq_true (by omega)
     rw[this]
     have h2:aG2 l (i:Int) 0=some (if d.types.all tyB=true then .inl ()else .inr ()):=by
      unfold aG2;rw[A0 d.types tyB (.inl ():Unit⊕Unit) (.inr ())
       (fun j t ht=>by simp only[Jp,AN hd,ltD ht,AP,AN ht,Aq ht (show d.types.length<=9223372036854775807 by omega)];simp only[CX,tyB,decide_eq_true_eq];by_cases h1:t<1;rw[if_pos h1,if_neg (by omega)];rw[if_neg h1];by_cases h3:3<t;rw[if_pos h3,if_neg (by omega)];rw[if_neg h3,if_pos (by omega)])
       (by simp only[Jp,AN hd,ltI,AR])]
     rw[h2,AD]
     cases d.types.all tyB with
     |true=>exact⟨fun _=>rfl,fun h=>by simp at h⟩
     |false=>exact⟨fun h=>by simp at h,fun _=>⟨_,rfl,_,_,rfl,by decide⟩⟩)
  (by simp only[G4,ltI,AR])
 unfold aMo;rw[hr,AD];simp only[hl,decide_true,Bool.true_and];cases ha:l.zipIdx.all fun z=>HY l z.2 z.1 with
 |true=>rw[ht ha];exact⟨_,rfl,rfl⟩
 |false=>
  obtain⟨a,b,rfl,h0⟩:=hf ha
  exact⟨_,rfl,by simp[h0]⟩
theorem SN{l:List X8}:∃r,Y7 l=some r/\decide (r.2=0)=aCt l:=by
 unfold Y7 aCt;rw[CX];by_cases h32:(32:Int)<(l.length:Int);rw[if_pos h32];have:¬l.length<=32:=by omega
 exact⟨_,rfl,by simp[this]⟩;rw[if_neg h32];have hl:l.length<=32:=by omega
 obtain⟨r,hr,ht,hf⟩:=L3 (step:=fun s=>EB l (l.length:Int) s) l (HY l) (.inl ():Unit⊕(Int×Int)) (fun r=>∃a b,r=.inr (a,b)/\b≠0)
  (fun i d hd=>by
   have hF:Yl l d.name=some ((l.findIdx fun x=>decide (x.name=d.name):Nat):Int):=by
    unfold Yl WU;rw[Bj l (fun x=>decide (x.name=d.name))
     (fun j x hx=>by simp only[G5,ltD hx,AP,AN hx,Uf,AD,Aq hx (show l.length<=9223372036854775807 by omega),AL];cases decide (x.name=d.name)<;>rfl)
     (by simp only[G5,ltI,AR]),ZD (p:=fun x=>decide (x.name=d.name)) hd (by simp),AD]
    rfl
   have hm:∀n:Nat,Fv (n:Int) 0=(n:Int):=fun n=>by rw[OI];split<;>omega
   have h1:∃e,Zw l (i:Int)=some e/\decide (e=0)=HY l i d:=by
    unfold Zw Q5 HY;rw[AN hd,hF,AD,AD,aMs,AD];simp only[hm,aK3 (p:=fun x=>decide (x.name=d.name)) hd (by simp)];cases C6 d.name with
    |false=>exact⟨_,rfl,rfl⟩
    |true=>
     cases(l.take i).all fun x=> !decide (x.name=d.name)with
     |false=>exact⟨_,rfl,rfl⟩
     |true=>
      simp only[Bool.not_true,AR,CX]
      by_cases h8:(8:Int)<(d.types.length:Int)
      rw[if_pos h8]
      have:decide (d.types.length<=8)=false:=decide_eq_false (by omega)
      rw[this]
      exact⟨_,rfl,rfl⟩
      rw[if_neg h8]
      have:decide (d.types.length<=8)=true:=decide_eq_true (by omega)
      rw[this]
      unfold Q8 Yp Wh
      rw[Bj d.types (fun t=> !tyB t)
       (fun j t htt=>by obtain⟨s,hs,hsb⟩:=aP2 t;simp only[G9,ltD htt,AP,AN htt,Ug,hs,AD,hsb,Aq htt (show d.types.length<=9223372036854775807 by omega),AL];cases tyB t<;>rfl)
       (by simp only[G9,ltI,AR]),AD]
      have hn:(d.types.any fun t=> !tyB t)= !(d.types.all tyB):=by have:=KC (fun t:Int=> !tyB t) d.types;simp only[Bool.not_not]at this;rw[show d.types.all tyB=d.types.all fun t=>tyB t from rfl,this,Bool.not_not]
      rw[hn]
      cases d.types.all tyB with
      |true=>exact⟨_,rfl,rfl⟩
      |false=>
       refine⟨8,?_,rfl⟩
       have h0:decide ((0:Int)<=((d.types.findIdx fun t=> !tyB t:Nat):Int))=true:=decide_eq_true (by omega)
       simp only[Bool.not_false,if_true,MT,AD,h0,AP]
   obtain⟨e,he,heb⟩:=h1;simp only[EB,ltD hd,AP,he,AD,Aq hd (show l.length<=9223372036854775807 by omega),heb];cases hb:HY l i d with
   |true=>exact⟨fun _=>rfl,fun h=>by cases h⟩
   |false=>
    rw[hb]at heb
    exact⟨fun h=>(by cases h),fun _=>⟨_,rfl,_,_,rfl,of_decide_eq_false heb⟩⟩)
  (by simp only[EB,ltI,AR])
 unfold Vu;rw[hr,AD];simp only[hl,decide_true,Bool.true_and];cases ha:l.zipIdx.all fun z=>HY l z.2 z.1 with
 |true=>rw[ht ha];exact⟨_,rfl,rfl⟩
 |false=>
  obtain⟨a,b,rfl,h0⟩:=hf ha
  exact⟨_,rfl,by simp[h0]⟩
def aBp(l:List (List UInt8)):Bool:=l.zipIdx.all fun z=>C6 z.1&&(l.take z.2).all fun x=> !decide (z.1=x)
theorem aR4{l:List (List UInt8)}(hl:l.length<=100):Zo l=some (aBp l):=by
 unfold Zo Yd V8;rw[CI l (fun i s=>C6 s&&(l.take i).all fun x=> !decide (s=x)) (.inl ():Unit⊕Unit) (.inr ())
  (fun i s hs=>by have hc:l.contains s=true:=List.contains_iff_mem.2 (List.mem_of_getElem? hs);simp only[FD,ltD hs,AP,AN hs,Q9,aMs,LB l s (by omega),hc,if_true,AD,KY (p:=fun x=>decide (s=x)) hs (by simp),Aq hs (show l.length<=9223372036854775807 by omega),AL];cases C6 s<;>cases(l.take i).all _<;>rfl)
  (by simp only[FD,ltI,AR]),AD]
 unfold aBp;cases l.zipIdx.all _<;>rfl
theorem MH{l:List (List UInt8)}(hl:l.length<=100){i:Nat}{s:List UInt8}(hs:l[i]? =some s):Z9 l (i:Int)=some (!((l.take i).all fun x=> !decide (s=x))):=by
 have hi:=BM hs;have ht:(l.take i).length=i:=by rw[List.length_take];omega
 unfold Z9 aMx;rw[A0 (l.take i) (fun x=> !decide (s=x)) (.inl ():Unit⊕Unit) (.inr ())
  (fun j x hx=>by
   have hj:=BM hx;rw[ht]at hj;have hx2:l[j]? =some x:=by rw[List.getElem?_take_of_lt hj]at hx;exact hx
   have hd:decide ((j:Int)<(i:Int))=true:=by simp;omega
   have hc:decide (x=s)=decide (s=x):=decide_eq_decide.2 eq_comm;simp only[Ju,hd,AP,AN hs,AN hx2,hc,Aq hx2 (show l.length<=9223372036854775807 by omega),AL];cases decide (s=x)<;>rfl)
  (by rw[ht];simp only[Ju,ltI,AR]),AD]
 cases(l.take i).all _<;>rfl
theorem aTd{q:AA}{l:List (List UInt8)}(hl:l.length<=100):aEg q l 0=some (if aBp l=true then .inl ()else .inr ()):=by
 unfold aEg;rw[CI l (fun i s=>C6 s&&(l.take i).all fun x=> !decide (s=x)) (.inl ():Unit⊕Unit) (.inr ())
  (fun i s hs=>by simp only[Jj,ltD hs,AP,AN hs,aHk,MH hl hs,AD,Aq hs (show l.length<=9223372036854775807 by omega),AL];cases C6 s<;>cases(l.take i).all _<;>rfl)
  (by simp only[Jj,ltI,AR])]
 rfl
theorem aTe{q:AA}(hF:CV q):aEi q 0 []=some (if aBp (q.states.map (·.name))=true then .inl ()else .inr ()):=by
 have hl:=hF.states;unfold aEi;have hst:∀(i:Nat) (x:Yc),q.states[i]? =some x->(fun s:Int×List (List UInt8)=>Ey q s.1 s.2) ((i:Int),(q.states.map (·.name)).take i)=
  some (if(C6 x.name&&((q.states.map (·.name)).take i).all fun y=> !decide (x.name=y))=true then .inl (((i+1:Nat):Int),(q.states.map (·.name)).take (i+1))else .inr (.inr ())):=by
  intro i x hx
  have hi:=BM hx
  have hm:(q.states.map (·.name))[i]? =some x.name:=by rw[List.getElem?_map,hx];rfl
  have hlen:((q.states.map (·.name)).take i).length=i:=by rw[List.length_take,List.length_map];omega
  have htk:(q.states.map (·.name)).take i++[x.name]=(q.states.map (·.name)).take (i+1):=by rw[List.take_add_one,hm];rfl
  have hg:((q.states.map (·.name)).take (i+1))[i]? =some x.name:=by rw[List.getElem?_take_of_lt (by omega)];exact hm
  have htt:((q.states.map (·.name)).take (i+1)).take i=(q.states.map (·.name)).take i:=by rw[List.take_take];congr 1;omega
  have h2:=MH (l:=(q.states.map (·.name)).take (i+1)) (by rw[List.length_take,List.length_map];omega) hg
  rw[htt]at h2
  simp only[Ey,ltD hx,AP,AN hx]
  rw[Ai (AU (by rw[hlen];simp;omega) (by decide)),htk,AN hg,aHk,AD,h2,AD,Aq hx (by omega),AL,AL]
  cases C6 x.name<;>cases((q.states.map (·.name)).take i).all _<;>rfl
 have key:=CT (step:=fun s:Int×List (List UInt8)=>Ey q s.1 s.2) q.states (fun i (_:Unit)=>((i:Int),(q.states.map (·.name)).take i))
  (fun i _ x=>if(C6 x.name&&((q.states.map (·.name)).take i).all fun y=> !decide (x.name=y))=true then .inl ()else .inr (.inr ())) (fun _=>(.inl ():Unit⊕Unit)) (fun _ _=>True)
  (fun i x w hx _=>⟨by refine(hst i x hx).trans ?_;split<;>rfl,fun _ _=>trivial⟩)
  (fun w _=>by simp only[Ey,ltI,AR]) (q.states.length+1) 0 () (by omega) (by omega) trivial
 rw[List.drop_zero]at key;refine key.trans ?_;congr 1;have run:∀(p:Nat->Yc->Bool) (l:List Yc) (i:Nat),H3 (fun i (_:Unit) x=>if p i x=true then .inl ()else .inr (.inr ())) (fun _=>(.inl ():Unit⊕Unit)) i l ()=if(l.zipIdx i).all (fun z=>p z.2 z.1)=true then .inl ()else .inr ():=by
  intro p l;induction l with
  |nil=>intro i;rfl
  |cons x xs ih=>
   intro i
   rw[H3,List.zipIdx_cons,List.all_cons]
   cases hp:p i x with
   |true=>simp only[if_true,Bool.true_and];exact ih (i+1)
   |false=>simp
 refine(run (fun i x=>C6 x.name&&((q.states.map (·.name)).take i).all fun y=> !decide (x.name=y)) q.states 0).trans ?_
 have e:aBp (q.states.map (·.name))=q.states.zipIdx.all fun z=>C6 z.1.name&&((q.states.map (·.name)).take z.2).all fun y=> !decide (z.1.name=y):=by
  rw[Bool.eq_iff_iff];refine(CB (q.states.map (·.name)) (fun i s=>C6 s&&((q.states.map (·.name)).take i).all fun x=> !decide (s=x))).trans (Iff.trans ?_ (CB q.states (fun i x=>C6 x.name&&((q.states.map (·.name)).take i).all fun y=> !decide (x.name=y))).symm)
  constructor;intro h i x hx;exact h i x.name (by rw[List.getElem?_map,hx];rfl);intro h i s hs;rw[List.getElem?_map]at hs;cases hx:q.states[i]? with
  |none=>rw[hx]at hs;cases hs
  |some x=>rw[hx]at hs;cases hs;exact h i x hx
 rw[e]
def OX(q:AA):List (List UInt8):=q.quants.map (·.name)++q.frees.map (·.name)
def aJ5(q:AA):Bool:=q.quants.all fun x=>tyB x.type
def KZ(q:AA):Bool:=q.frees.all fun x=>vR x.init_
theorem aTb{q:AA}(hF:CV q):∃o,aEc q 0 []=some o/\(aJ5 q=true->o=.inl (q.quants.map (·.name)))/\(aJ5 q=false->o=.inr ()):=by
 have hl:=hF.quants;unfold aEc;have key:=CT (step:=fun s:Int×List (List UInt8)=>GR q s.1 s.2) q.quants (fun i (w:List (List UInt8))=>((i:Int),w))
  (fun _ w x=>if tyB x.type=true then .inl (w++[x.name])else .inr (.inr ())) (fun w=>(.inl w:List (List UInt8)⊕Unit)) (fun i w=>w.length<=i)
  (fun i x w hx hI=>by have hi:=BM hx;refine⟨?_,fun w' hw=>?_⟩;simp only[GR,ltD hx,AP,AN hx,CX,Aq hx (show q.quants.length<=9223372036854775807 by omega)];rw[Ai (AU (by simp;omega) (by decide))];simp only[tyB,decide_eq_true_eq];by_cases h1:x.type<1;rw[if_pos h1,if_neg (by omega)];rw[if_neg h1];by_cases h3:3<x.type;rw[if_pos h3,if_neg (by omega)];rw[if_neg h3,if_pos (by omega)];split at hw;cases hw;simp;omega;cases hw)
  (fun w _=>by simp only[GR,ltI,AR]) (q.quants.length+1) 0 [] (by omega) (by omega) (Nat.le_refl _)
 rw[List.drop_zero]at key;refine⟨_,key,?_⟩;have run:∀(l:List Xd) (i:Nat) (w:List (List UInt8)),H3 (fun _ w x=>if tyB x.type=true then .inl (w++[x.name])else .inr (.inr ())) (fun w=>(.inl w:List (List UInt8)⊕Unit)) i l w=if(l.all fun x=>tyB x.type)=true then .inl (w++l.map (·.name))else .inr ():=by
  intro l;induction l with
  |nil=>intro i w;simp[H3]
  |cons x xs ih=>
   intro i w
   rw[H3,List.all_cons]
   cases hp:tyB x.type with
   |true=>simp only[if_true,Bool.true_and];rw[ih];simp
   |false=>simp
 rw[run];unfold aJ5;exact⟨fun h=>by rw[if_pos h];rfl,fun h=>by rw[if_neg (by rw[h];decide)]⟩
theorem aTc{q:AA}(hF:CV q)(w0:List (List UInt8))(hw0:w0.length<=9):∃o,aEe q 0 w0=some o/\(KZ q=true->o=.inl (w0++q.frees.map (·.name)))/\(KZ q=false->o=.inr ()):=by
 have hl:=hF.frees;unfold aEe;have key:=CT (step:=fun s:Int×List (List UInt8)=>GS q s.1 s.2) q.frees (fun i (w:List (List UInt8))=>((i:Int),w))
  (fun _ w x=>if vR x.init_=true then .inl (w++[x.name])else .inr (.inr ())) (fun w=>(.inl w:List (List UInt8)⊕Unit)) (fun i w=>w.length<=9+i)
  (fun i x w hx hI=>by have hi:=BM hx;refine⟨?_,fun w' hw=>?_⟩;simp only[GS,ltD hx,AP,AN hx,Rz,AD,AL,Aq hx (show q.frees.length<=9223372036854775807 by omega)];rw[Ai (AU (by simp;omega) (by decide))];cases vR x.init_<;>rfl;split at hw;cases hw;simp;omega;cases hw)
  (fun w _=>by simp only[GS,ltI,AR]) (q.frees.length+1) 0 w0 (by omega) (by omega) (by omega)
 rw[List.drop_zero]at key;refine⟨_,key,?_⟩;have run:∀(l:List Xi) (i:Nat) (w:List (List UInt8)),H3 (fun _ w x=>if vR x.init_=true then .inl (w++[x.name])else .inr (.inr ())) (fun w=>(.inl w:List (List UInt8)⊕Unit)) i l w=if(l.all fun x=>vR x.init_)=true then .inl (w++l.map (·.name))else .inr ():=by
  intro l;induction l with
  |nil=>intro i w;simp[H3]
  |cons x xs ih=>
   intro i w
   rw[H3,List.all_cons]
   cases hp:vR x.init_ with
   |true=>simp only[if_true,Bool.true_and];rw[ih];simp
   |false=>simp
 rw[run];unfold KZ;exact⟨fun h=>by rw[if_pos h],fun h=>by rw[if_neg (by rw[h];decide)]⟩
def Hs(q:AA):Bool:=aJ5 q&&KZ q&&aBp (OX q)&&aBp (q.states.map (·.name))&&C6 q.name
theorem MG{q:AA}(hF:CV q):Xj q=some (Hs q):=by
 have hl1:=hF.quants;have hl2:=hF.frees;unfold Xj Hs;obtain⟨o1,e1,a1,b1⟩:=aTb hF;rw[e1,AD];cases h1:aJ5 q with
 |false=>rw[b1 h1];rfl
 |true=>
  rw[a1 h1,DH]
  obtain⟨o2,e2,a2,b2⟩:=aTc hF (q.quants.map (·.name)) (by simpa using hl1)
  rw[e2,AD]
  cases h2:KZ q with
  |false=>rw[b2 h2];rfl
  |true=>
   rw[a2 h2,DH,show q.quants.map (·.name)++q.frees.map (·.name)=OX q from rfl,aTd (by unfold OX;simp;omega),AD,aTe hF,aHk,AD]
   cases aBp (OX q)<;>cases aBp (q.states.map (·.name))<;>simp[As,AG]
theorem aNw{q:AA}(hF:CV q):RX q.quants (q.quants.length:Int) q 0 []=some (q.quants.map (·.name)):=by
 have hl:=hF.quants;unfold RX;have:=DF (step:=fun s:Int×List (List UInt8)=>Eu q.quants (q.quants.length:Int) q s.1 s.2) q.quants (fun w x=>w++[x.name]) (fun w=>w) (fun i w=>w.length<=i)
  (fun i x w hx hI=>by have hi:=BM hx;simp only[Eu,ltD hx,AP,AN hx,Aq hx (show q.quants.length<=9223372036854775807 by omega)];rw[Ai (AU (by simp;omega) (by decide))];exact⟨rfl,by simp;omega⟩)
  (fun w hI=>by simp only[Eu,ltI,AR]) [] (Nat.le_refl _)
 rw[EV (fun x:Xd=>x.name)]at this;exact this
theorem aNx{q:AA}(hF:CV q)(w0:List (List UInt8))(hw0:w0.length<=9):RY q.frees (q.frees.length:Int) q 0 w0=some (w0++q.frees.map (·.name)):=by
 have hl:=hF.frees;unfold RY;have:=DF (step:=fun s:Int×List (List UInt8)=>Ev q.frees (q.frees.length:Int) q s.1 s.2) q.frees (fun w x=>w++[x.name]) (fun w=>w) (fun i w=>w.length<=9+i)
  (fun i x w hx hI=>by have hi:=BM hx;simp only[Ev,ltD hx,AP,AN hx,Aq hx (show q.frees.length<=9223372036854775807 by omega)];rw[Ai (AU (by simp;omega) (by decide))];exact⟨rfl,by simp;omega⟩)
  (fun w hI=>by simp only[Ev,ltI,AR]) w0 (by omega)
 rw[EV (fun x:Xi=>x.name)]at this;exact this
theorem aNy{q:AA}(hF:CV q)(z:List (List UInt8)):RZ q.states (q.states.length:Int) q z 0 []=some (q.states.map (·.name)):=by
 have hl:=hF.states;unfold RZ;have:=DF (step:=fun s:Int×List (List UInt8)=>Ew q.states (q.states.length:Int) q z s.1 s.2) q.states (fun w x=>w++[x.name]) (fun w=>w) (fun i w=>w.length<=i)
  (fun i x w hx hI=>by have hi:=BM hx;simp only[Ew,ltD hx,AP,AN hx,Aq hx (show q.states.length<=9223372036854775807 by omega)];rw[Ai (AU (by simp;omega) (by decide))];exact⟨rfl,by simp;omega⟩)
  (fun w hI=>by simp only[Ew,ltI,AR]) [] (Nat.le_refl _)
 rw[EV (fun x:Yc=>x.name)]at this;exact this
theorem aIt{q:AA}(hF:CV q):Ym q.quants=some (aJ5 q):=by
 have hl:=hF.quants;unfold Ym WX;rw[A0 q.quants (fun x=>tyB x.type) (.inl ():Unit⊕Unit) (.inr ())
  (fun i x hx=>by obtain⟨s,hs,hsb⟩:=aP2 x.type;simp only[G6,ltD hx,AP,AN hx,Uh,hs,hsb,AD,Aq hx (show q.quants.length<=9223372036854775807 by omega),AL];cases tyB x.type<;>rfl)
  (by simp only[G6,ltI,AR]),AD]
 unfold aJ5;cases q.quants.all _<;>rfl
theorem aAa{q:AA}(hF:CV q):Yn q.frees=some (KZ q):=by
 have hl:=hF.frees;unfold Yn Wa;rw[A0 q.frees (fun x=>vR x.init_) (.inl ():Unit⊕Unit) (.inr ())
  (fun i x hx=>by simp only[G7,ltD hx,AP,AN hx,Ui,aM9,AD,Aq hx (show q.frees.length<=9223372036854775807 by omega),AL];cases vR x.init_<;>rfl)
  (by simp only[G7,ltI,AR]),AD]
 unfold KZ;cases q.frees.all _<;>rfl
def Fm(q:AA):Bool:=decide (0<=q.start)&&decide (q.start<(q.states.length:Int))
theorem aQj{q:AA}(hF:CV q):Xc q=some (aCt q.decls&&Hs q&&Fm q):=by
 have hl1:=hF.quants;have hl2:=hF.frees;have hl3:=hF.states;obtain⟨r,hr,hrb⟩:=SN (l:=q.decls);unfold Xc Hs Fm;rw[aNw hF,AD,aNx hF _ (by simpa using hl1),AD,aNy hF,AD,hr,AD,hrb,aMs,AD,show q.quants.map (·.name)++q.frees.map (·.name)=OX q from rfl,
  aR4 (by unfold OX;simp;omega),AD,aR4 (by simp;omega),AD,aIt hF,AD,aAa hF,AD]
 cases aCt q.decls<;>cases C6 q.name<;>cases aBp (OX q)<;>cases aBp (q.states.map (·.name))<;>cases aJ5 q<;>cases KZ q<;>cases decide (0<=q.start)<;>simp[AE]
theorem aR3{q:AA}(hF:CV q):∃b,Zh q=some b/\Z0 q=some b:=by
 have l1:=hF.quants;have l2:=hF.frees;have l3:=hF.states;have l4:=hF.symbols;have l5:=hF.nodes;have l6:=hF.trans;obtain⟨r,hr,hrb⟩:=aB0 (l:=q.decls);have hfew:Qu q=some (decide ((q.quants.length:Int)<=8)):=by unfold Qu;simp only[CX];by_cases h:(q.quants.length:Int)<=8;rw[if_pos h,if_pos (by omega),if_pos (by omega),if_pos (by omega),if_pos (by omega)];simp[h];omega;rw[if_neg h];simp[h]
 unfold Zh Z0;rw[hfew,AD,hr,AD,hrb,aQj hF,AD];by_cases hnq:¬(q.quants.length:Int)<=8;refine⟨false,by rw[decide_eq_false hnq];rfl,?_⟩;cases aCt q.decls with
 |false=>rfl
 |true=>rw[Bool.not_true,AR,CX,if_pos (by omega)]
 have hq:(q.quants.length:Int)<=8:=Decidable.of_not_not hnq;rw[decide_eq_true hq,AP];cases hch:aCt q.decls with
 |false=>exact⟨false,rfl,rfl⟩
 |true=>
  simp only[Bool.not_true,AR,CX,Bool.true_and]
  rw[if_neg (by omega),if_neg (by omega),if_neg (by omega),if_neg (by omega),if_neg (by omega),if_neg (by omega)]
  rw[MG hF,AD]
  have hst:Fm q=true↔0<=q.start/\q.start<(q.states.length:Int):=by unfold Fm;simp
  by_cases hs1:q.start<0
  rw[if_pos hs1]
  have:Fm q=false:=by rw[Bool.eq_false_iff,ne_eq,hst];omega
  rw[this,Bool.and_false,AR]
  exact⟨_,rfl,rfl⟩
  rw[if_neg hs1]
  by_cases hs2:(q.states.length:Int)<=q.start
  rw[if_pos hs2]
  have:Fm q=false:=by rw[Bool.eq_false_iff,ne_eq,hst];omega
  rw[this,Bool.and_false,AR]
  exact⟨_,rfl,rfl⟩
  rw[if_neg hs2]
  have:Fm q=true:=hst.2 (by omega)
  rw[this,Bool.and_true]
  cases hnm:Hs q with
  |false=>exact⟨_,rfl,rfl⟩
  |true=>
   rw[AP,Bool.not_true,AR]
   have hty:aJ5 q=true/\KZ q=true:=by unfold Hs at hnm;simp only[ba]at hnm;exact⟨hnm.1.1.1.1,hnm.1.1.1.2⟩
   have hQ:∀x∈q.quants,1<=x.type/\x.type<=3:=fun x hx=>by have:=List.all_eq_true.1 hty.1 x hx;simpa[tyB]using this
   have hI:∀x∈q.frees,vR x.init_=true:=fun x hx=>List.all_eq_true.1 hty.2 x hx
   obtain⟨l,he,hl,hcl⟩:=aI0 (by omega) hQ hI
   have hL:LOk q l:=⟨hl,by omega,hcl⟩
   rw[aY5 hL hF he,AD,aQp hF,AD]
   have hrt:=JS hL hF q.trans [] 0 rfl (Int.le_refl _) (by omega)
   rw[show Rw q 0 0=_ from hrt,AD]
   cases hsy:Kv q with
   |true=>
    rw[MV (aLb hsy),Bool.and_true]
    cases ht:trL q l stB 0 q.trans with
    |none=>exact⟨_,rfl,rfl⟩
    |some b=>
     simp only[DH]
     have hT:=OW ht
     by_cases hb:b=(q.nodes.length:Int)
     rw[decide_eq_true (by rw[hb]),AP,if_pos hb,Dy hF hT,hsy,aJs (aLb hsy),Bool.and_true]
     exact⟨_,rfl,rfl⟩
     rw[decide_eq_false (by intro h;exact hb (Option.some.inj h)),AR,if_neg hb]
     exact⟨_,rfl,rfl⟩
   |false=>
    rw[Bool.and_false,Bool.false_and]
    refine⟨false,?_,?_⟩
    cases decide (trL q l stB 0 q.trans=some (q.nodes.length:Int))<;>rfl
    cases ht:trL q l Es 0 q.trans with
    |none=>rfl
    |some b=>
     simp only[DH]
     by_cases hb:b=(q.nodes.length:Int)
     rw[if_pos hb,Dy hF (OW ht),hsy,Bool.and_false,Bool.false_and];rfl
     rw[if_neg hb]
end Go.Ac
