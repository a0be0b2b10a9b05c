/- Own work: the plain law. -/
import Derived.Test.YtnjgfcpccmiglaaGreatDoorP25G
import Derived.Test.YtnjgfcpccmiglaaGreatDoorP25K
set_option linter.unusedVariables false
set_option linter.unusedSimpArgs false
namespace Go.Ac
theorem RF{α:Type}{l:List α}{R:α->Prop}(h:∀j,j<l.length->∀x,l[j]? =some x->R x):∀x∈l,R x:=by intro x hx;obtain⟨j,hj,rfl⟩:=List.mem_iff_getElem.1 hx;exact h j hj _ (List.getElem?_eq_getElem hj)
theorem aDm(q:AA):∃n,X7 q=some n/\(n≠0->Dy q):=by
 unfold X7;simp only[EX];iterate 8 (split; · exact⟨0,rfl,by simp⟩)
 rename_i h1 h2 h3 h4 h5 h6 h7 h8;have hd:q.decls.length<=9223372036854775807:=by omega
 have hs:q.symbols.length<=9223372036854775807:=by omega
 have hf:q.frees.length<=9223372036854775807:=by omega
 have hn:q.nodes.length<=9223372036854775807:=by omega
 have ht:q.trans.length<=9223372036854775807:=by omega
 obtain⟨t1,e1,_⟩:=Br (step:=fun s=>En q s) q.decls.length (fun _=>True) (fun _=>True)
  (fun i hi=>by
   obtain⟨x,hx,_⟩:=Cc hi;simp only[En,ltD hx,AW,AU hx,At hx hd];simp only[AN];repeat' split
   all_goals first|exact .inl ⟨rfl,trivial⟩|exact .inr ⟨_,rfl,trivial⟩)
  (fun _=>⟨.inl (),by simp only[En,ltI,AV],trivial⟩)
 obtain⟨t2,e2,Q2⟩:=Br (step:=fun s=>Eo q s) q.symbols.length (fun i=>∀x,q.symbols[i]? =some x->x.args.length<=12) (fun t=>t=.inl ()->∀s∈q.symbols,s.args.length<=12)
  (fun i hi=>by
   obtain⟨x,hx,_⟩:=Cc hi;simp only[Eo,ltD hx,AW,AU hx,At hx hs,EX];split;exact .inr ⟨_,rfl,by simp⟩;rename_i h12;obtain⟨t3,e3,_⟩:=Br (step:=fun s=>Ep (i:Int) q s) x.args.length (fun _=>True) (fun _=>True)
    (fun j hj=>by obtain⟨y,hy,_⟩:=Cc hj;simp only[Ep,AU hx,ltD hy,AW,AU hy,At hy (show x.args.length<=9223372036854775807 by omega)];simp only[AN];split;exact .inr ⟨_,rfl,trivial⟩;exact .inl ⟨rfl,trivial⟩)
    (fun _=>⟨.inl (),by simp only[Ep,AU hx,ltI,AV],trivial⟩)
   unfold WB;rw[e3,AH];rcases t3 with _|_
   exact .inl ⟨rfl,fun y hy=>by rw[hx]at hy;cases hy;omega⟩;exact .inr ⟨_,rfl,by simp⟩)
  (fun hP=>⟨.inl (),by simp only[Eo,ltI,AV],fun _=>RF hP⟩)
 obtain⟨t4,e4,_⟩:=Br (step:=fun s=>Eq q s) q.frees.length (fun _=>True) (fun _=>True)
  (fun i hi=>by obtain⟨x,hx,_⟩:=Cc hi;simp only[Eq,ltD hx,AW,AU hx,At hx hf];simp only[AN];split;exact .inr ⟨_,rfl,trivial⟩;exact .inl ⟨rfl,trivial⟩)
  (fun _=>⟨.inl (),by simp only[Eq,ltI,AV],trivial⟩)
 obtain⟨t5,e5,_⟩:=Br (step:=fun s=>Er q s) q.nodes.length (fun _=>True) (fun _=>True)
  (fun i hi=>by obtain⟨x,hx,_⟩:=Cc hi;simp only[Er,ltD hx,AW,AU hx,At hx hn];simp only[AN];split;exact .inr ⟨_,rfl,trivial⟩;exact .inl ⟨rfl,trivial⟩)
  (fun _=>⟨.inl (),by simp only[Er,ltI,AV],trivial⟩)
 obtain⟨t6,e6,Q6⟩:=Br (step:=fun s=>Es q s) q.trans.length (fun i=>∀x,q.trans[i]? =some x->x.sets.length<=12) (fun t=>t=.inl ()->∀s∈q.trans,s.sets.length<=12)
  (fun i hi=>by obtain⟨x,hx,_⟩:=Cc hi;simp only[Es,ltD hx,AW,AU hx,At hx ht,EX];split;exact .inr ⟨_,rfl,by simp⟩;exact .inl ⟨rfl,fun y hy=>by rw[hx]at hy;cases hy;omega⟩)
  (fun hP=>⟨.inl (),by simp only[Es,ltI,AV],fun _=>RF hP⟩)
 unfold V9 WA WC WD WE;rw[e1,AH,e2,e4,e5,e6];simp only[AH];rcases t1 with _|_<;>rcases t2 with _|_<;>rcases t4 with _|_<;>rcases t5 with _|_<;>rcases t6 with _|_<;>simp only[Dt,SU]<;>
  first
  |exact⟨0,rfl,by simp⟩
  |exact⟨1,rfl,fun _=>⟨by omega,by omega,by omega,by omega,by omega,by omega,by omega,Q2 rfl,Q6 rfl⟩⟩
theorem Iv{α τ:Type}{step:Int->Option (Int⊕τ)}(l:List α)(p:Nat->α->Bool)(t:τ)(F:τ->Prop)
 (h1:∀(i:Nat) x,l[i]? =some x->(p i x=true->step i=some (.inl ((i+1:Nat):Int)))/\(p i x=false->∃f,step i=some (.inr f)/\F f)) (h2:step l.length=some (.inr t)):
 ∃r,Ab step 0=some r/\(l.zipIdx.all (fun z=>p z.2 z.1)=true->r=t)/\(l.zipIdx.all (fun z=>p z.2 z.1)=false->F r):=by
 refine Br (step:=step) l.length (fun i=>∀x,l[i]? =some x->p i x=true) _ (fun i hi=>?_) (fun hP=>?_)
 obtain⟨x,hx,_⟩:=Cc hi
 obtain⟨a,b⟩:=h1 i x hx
 cases hp:p i x with
 |true=>exact .inl ⟨a hp,fun y hy=>by rw[hx]at hy;cases hy;exact hp⟩
 |false=>
  obtain⟨f,hf,hF⟩:=b hp
  refine .inr ⟨f,hf,fun ha=>?_,fun _=>hF⟩
  have:=(B7 l p).1 ha i x hx
  rw[hp]at this;cases this
 have ha:l.zipIdx.all (fun z=>p z.2 z.1)=true:=(B7 l p).2 fun i x hx=>hP i (CG hx) x hx
 exact⟨t,h2,fun _=>rfl,fun hf=>by rw[ha]at hf;cases hf⟩
theorem Vy{α:Type}{l:List α}{p:α->Bool}{i:Nat}{s:α}(h:l[i]? =some s)(hp:p s=true):decide (((l.findIdx p:Nat):Int)<(i:Int))= !((l.take i).all fun x=> !p x):=by
 rw[<-Hs h hp];have hi:=CG h;have hs:l[i]=s:=by rw[List.getElem?_eq_getElem hi]at h;exact Option.some.inj h
 have h1:l.findIdx p<=i:=Nat.le_of_not_lt fun hlt=>by have:=List.not_of_lt_findIdx hlt;rw[hs,hp]at this;cases this
 by_cases h2:l.findIdx p=i;simp[h2];have h3:((l.findIdx p:Nat):Int)<(i:Int):=by omega
 have h4:¬((l.findIdx p:Nat):Int)=(i:Int):=by omega
 simp[h3,h4]
def tyB(t:Int):Bool:=decide (1<=t/\t<=3)
theorem aBl(t:Int):∃s,Zo t=some s/\decide (s=[])= !tyB t:=by
 unfold Zo tyB;simp only[EX];by_cases h1:t=1;exact⟨_,if_pos h1,by subst h1;rfl⟩;rw[if_neg h1];by_cases h2:t=2;exact⟨_,if_pos h2,by subst h2;rfl⟩;rw[if_neg h2];by_cases h3:t=3;exact⟨_,if_pos h3,by subst h3;rfl⟩;rw[if_neg h3];have:¬(1<=t/\t<=3):=by omega
 exact⟨_,rfl,by simp[this]⟩
def Hq(l:List X9)(i:Nat)(d:X9):Bool:=CU d.name&&((l.take i).all fun x=> !decide (x.name=d.name))&&decide (d.types.length<=8)&&d.types.all tyB
def Vr(l:List X9):Bool:=decide (l.length<=32)&&l.zipIdx.all fun z=>Hq l z.2 z.1
theorem SG{l:List X9}:∃r,Y7 l=some r/\decide (r.1=0)=Vr l:=by
 unfold Y7 Vr;rw[EX];by_cases h32:(32:Int)<(l.length:Int);rw[if_pos h32];have:¬l.length<=32:=by omega
 exact⟨_,rfl,by simp[this]⟩;rw[if_neg h32];have hl:l.length<=32:=by omega
 obtain⟨r,hr,ht,hf⟩:=Iv (step:=fun s=>FM l s) l (Hq l) (.inl ():Unit⊕(Int×Int)) (fun r=>∃a b,r=.inr (a,b)/\a≠0)
  (fun i d hd=>by
   have hF:Ym l d.name=some ((l.findIdx fun x=>decide (x.name=d.name):Nat):Int):=by
    unfold Ym Wg;rw[BV l (fun x=>decide (x.name=d.name))
     (fun j x hx=>by simp only[HW,ltD hx,AW,AU hx,At hx (show l.length<=9223372036854775807 by omega),AN];cases decide (x.name=d.name)<;>rfl)
     (by simp only[HW,ltI,AV]),RI (p:=fun x=>decide (x.name=d.name)) hd (by simp),AH]
    rfl
   simp only[FM,ltD hd,AW,AU hd,UZ,AH,hF,At hd (show l.length<=9223372036854775807 by omega),Vy (p:=fun x=>decide (x.name=d.name)) hd (by simp)];unfold Hq;cases CU d.name with
   |false=>exact⟨fun h=>by simp at h,fun _=>⟨_,rfl,_,_,rfl,by decide⟩⟩
   |true=>
    cases(l.take i).all fun x=> !decide (x.name=d.name)with
    |false=>exact⟨fun h=>by simp at h,fun _=>⟨_,rfl,_,_,rfl,by decide⟩⟩
    |true=>
     simp only[Bool.not_true,AV,EX]
     by_cases h8:(8:Int)<(d.types.length:Int)
     rw[if_pos h8]
     have:decide (d.types.length<=8)=false:=decide_eq_false (by omega)
     rw[this]
     exact⟨fun h=>by simp at h,fun _=>⟨_,rfl,_,_,rfl,by decide⟩⟩
     rw[if_neg h8]
     have:decide (d.types.length<=8)=true:=decide_eq_true (by omega)
     rw[this]
     have h2:UP l (i:Int) 0=some (if d.types.all tyB=true then .inl ()else .inr ()):=by
      unfold UP;rw[BB d.types tyB (.inl ():Unit⊕Unit) (.inr ())
       (fun j t ht=>by simp only[HR,AU hd,ltD ht,AW,AU ht,At ht (show d.types.length<=9223372036854775807 by omega)];simp only[EX,tyB,decide_eq_true_eq];by_cases h1:t<1;rw[if_pos h1,if_neg (by omega)];rw[if_neg h1];by_cases h3:3<t;rw[if_pos h3,if_neg (by omega)];rw[if_neg h3,if_pos (by omega)])
       (by simp only[HR,AU hd,ltI,AV])]
     rw[h2,AH]
     cases d.types.all tyB with
     |true=>exact⟨fun _=>rfl,fun h=>by simp at h⟩
     |false=>exact⟨fun h=>by simp at h,fun _=>⟨_,rfl,_,_,rfl,by decide⟩⟩)
  (by simp only[FM,ltI,AV])
 unfold WY;rw[hr,AH];simp only[hl,decide_true,Bool.true_and];cases ha:l.zipIdx.all fun z=>Hq l z.2 z.1 with
 |true=>rw[ht ha];exact⟨_,rfl,rfl⟩
 |false=>
  obtain⟨a,b,rfl,h0⟩:=hf ha
  exact⟨_,rfl,by simp[h0]⟩
theorem M2{l:List X9}:∃r,Xp l=some r/\decide (r.2=0)=Vr l:=by
 unfold Xp Vr;rw[EX];by_cases h32:(32:Int)<(l.length:Int);rw[if_pos h32];have:¬l.length<=32:=by omega
 exact⟨_,rfl,by simp[this]⟩;rw[if_neg h32];have hl:l.length<=32:=by omega
 obtain⟨r,hr,ht,hf⟩:=Iv (step:=fun s=>DH l (l.length:Int) s) l (Hq l) (.inl ():Unit⊕(Int×Int)) (fun r=>∃a b,r=.inr (a,b)/\b≠0)
  (fun i d hd=>by
   have hF:Y2 l d.name=some ((l.findIdx fun x=>decide (x.name=d.name):Nat):Int):=by
    unfold Y2 PT;rw[BV l (fun x=>decide (x.name=d.name))
     (fun j x hx=>by simp only[FI,ltD hx,AW,AU hx,Qi,AH,At hx (show l.length<=9223372036854775807 by omega),AN];cases decide (x.name=d.name)<;>rfl)
     (by simp only[FI,ltI,AV]),RI (p:=fun x=>decide (x.name=d.name)) hd (by simp),AH]
    rfl
   have hm:∀n:Nat,Ea (n:Int) 0=(n:Int):=fun n=>by rw[Ko];split<;>omega
   have h1:∃e,Z2 l (i:Int)=some e/\decide (e=0)=Hq l i d:=by
    unfold Z2 Z9 Hq;rw[AU hd,hF,AH,AH,Wa,AH];simp only[hm,Vy (p:=fun x=>decide (x.name=d.name)) hd (by simp)];cases CU d.name with
    |false=>exact⟨_,rfl,rfl⟩
    |true=>
     cases(l.take i).all fun x=> !decide (x.name=d.name)with
     |false=>exact⟨_,rfl,rfl⟩
     |true=>
      simp only[Bool.not_true,AV,EX]
      by_cases h8:(8:Int)<(d.types.length:Int)
      rw[if_pos h8]
      have:decide (d.types.length<=8)=false:=decide_eq_false (by omega)
      rw[this]
      exact⟨_,rfl,rfl⟩
      rw[if_neg h8]
      have:decide (d.types.length<=8)=true:=decide_eq_true (by omega)
      rw[this]
      unfold Zb Y8 Pl
      rw[BV d.types (fun t=> !tyB t)
       (fun j t htt=>by obtain⟨s,hs,hsb⟩:=aBl t;simp only[FN,ltD htt,AW,AU htt,Qj,hs,AH,hsb,At htt (show d.types.length<=9223372036854775807 by omega),AN];cases tyB t<;>rfl)
       (by simp only[FN,ltI,AV]),AH]
      have hn:(d.types.any fun t=> !tyB t)= !(d.types.all tyB):=by have:=Hh (fun t:Int=> !tyB t) d.types;simp only[Bool.not_not]at this;rw[show d.types.all tyB=d.types.all fun t=>tyB t from rfl,this,Bool.not_not]
      rw[hn]
      cases d.types.all tyB with
      |true=>exact⟨_,rfl,rfl⟩
      |false=>
       refine⟨8,?_,rfl⟩
       have h0:decide ((0:Int)<=((d.types.findIdx fun t=> !tyB t:Nat):Int))=true:=decide_eq_true (by omega)
       simp only[Bool.not_false,if_true,SU,AH,h0,AW]
   obtain⟨e,he,heb⟩:=h1;simp only[DH,ltD hd,AW,he,AH,At hd (show l.length<=9223372036854775807 by omega),heb];cases hb:Hq l i d with
   |true=>exact⟨fun _=>rfl,fun h=>by cases h⟩
   |false=>
    rw[hb]at heb
    exact⟨fun h=>(by cases h),fun _=>⟨_,rfl,_,_,rfl,of_decide_eq_false heb⟩⟩)
  (by simp only[DH,ltI,AV])
 unfold Ox;rw[hr,AH];simp only[hl,decide_true,Bool.true_and];cases ha:l.zipIdx.all fun z=>Hq l z.2 z.1 with
 |true=>rw[ht ha];exact⟨_,rfl,rfl⟩
 |false=>
  obtain⟨a,b,rfl,h0⟩:=hf ha
  exact⟨_,rfl,by simp[h0]⟩
def R9(l:List (List UInt8)):Bool:=l.zipIdx.all fun z=>CU z.1&&(l.take z.2).all fun x=> !decide (z.1=x)
theorem aAq{l:List (List UInt8)}(hl:l.length<=100):Yt l=some (R9 l):=by
 unfold Yt Xw PD;rw[Bo l (fun i s=>CU s&&(l.take i).all fun x=> !decide (s=x)) (.inl ():Unit⊕Unit) (.inr ())
  (fun i s hs=>by have hc:l.contains s=true:=List.contains_iff_mem.2 (List.mem_of_getElem? hs);simp only[EA,ltD hs,AW,AU hs,Zc,Wa,IN l s (by omega),hc,if_true,AH,Hs (p:=fun x=>decide (s=x)) hs (by simp),At hs (show l.length<=9223372036854775807 by omega),AN];cases CU s<;>cases(l.take i).all _<;>rfl)
  (by simp only[EA,ltI,AV]),AH]
 unfold R9;cases l.zipIdx.all _<;>rfl
theorem I9{l:List (List UInt8)}(hl:l.length<=100){i:Nat}{s:List UInt8}(hs:l[i]? =some s):Yk l (i:Int)=some (!((l.take i).all fun x=> !decide (s=x))):=by
 have hi:=CG hs;have ht:(l.take i).length=i:=by rw[List.length_take];omega
 unfold Yk Wd;rw[BB (l.take i) (fun x=> !decide (s=x)) (.inl ():Unit⊕Unit) (.inr ())
  (fun j x hx=>by
   have hj:=CG hx;rw[ht]at hj;have hx2:l[j]? =some x:=by rw[List.getElem?_take_of_lt hj]at hx;exact hx
   have hd:decide ((j:Int)<(i:Int))=true:=by simp;omega
   have hc:decide (x=s)=decide (s=x):=decide_eq_decide.2 eq_comm;simp only[HU,hd,AW,AU hs,AU hx2,hc,At hx2 (show l.length<=9223372036854775807 by omega),AN];cases decide (s=x)<;>rfl)
  (by rw[ht];simp only[HU,ltI,AV]),AH]
 cases(l.take i).all _<;>rfl
theorem aB5{q:AA}{l:List (List UInt8)}(hl:l.length<=100):TY q l 0=some (if R9 l=true then .inl ()else .inr ()):=by
 unfold TY;rw[Bo l (fun i s=>CU s&&(l.take i).all fun x=> !decide (s=x)) (.inl ():Unit⊕Unit) (.inr ())
  (fun i s hs=>by simp only[HL,ltD hs,AW,AU hs,UZ,I9 hl hs,AH,At hs (show l.length<=9223372036854775807 by omega),AN];cases CU s<;>cases(l.take i).all _<;>rfl)
  (by simp only[HL,ltI,AV])]
 rfl
theorem aB6{q:AA}(hF:Dy q):Ta q 0 []=some (if R9 (q.states.map (·.name))=true then .inl ()else .inr ()):=by
 have hl:=hF.states;unfold Ta;have hst:∀(i:Nat) (x:Xv),q.states[i]? =some x->(fun s:Int×List (List UInt8)=>D4 q s.1 s.2) ((i:Int),(q.states.map (·.name)).take i)=
  some (if(CU x.name&&((q.states.map (·.name)).take i).all fun y=> !decide (x.name=y))=true then .inl (((i+1:Nat):Int),(q.states.map (·.name)).take (i+1))else .inr (.inr ())):=by
  intro i x hx
  have hi:=CG hx
  have hm:(q.states.map (·.name))[i]? =some x.name:=by rw[List.getElem?_map,hx];rfl
  have hlen:((q.states.map (·.name)).take i).length=i:=by rw[List.length_take,List.length_map];omega
  have htk:(q.states.map (·.name)).take i++[x.name]=(q.states.map (·.name)).take (i+1):=by rw[List.take_add_one,hm];rfl
  have hg:((q.states.map (·.name)).take (i+1))[i]? =some x.name:=by rw[List.getElem?_take_of_lt (by omega)];exact hm
  have htt:((q.states.map (·.name)).take (i+1)).take i=(q.states.map (·.name)).take i:=by rw[List.take_take];congr 1;omega
  have h2:=I9 (l:=(q.states.map (·.name)).take (i+1)) (by rw[List.length_take,List.length_map];omega) hg
  rw[htt]at h2
  simp only[D4,ltD hx,AW,AU hx]
  rw[Bw (Bb (by rw[hlen];simp;omega) (by decide)),htk,AU hg,UZ,AH,h2,AH,At hx (by omega),AN,AN]
  cases CU x.name<;>cases((q.states.map (·.name)).take i).all _<;>rfl
 have key:=B0 (step:=fun s:Int×List (List UInt8)=>D4 q s.1 s.2) q.states (fun i (_:Unit)=>((i:Int),(q.states.map (·.name)).take i))
  (fun i _ x=>if(CU x.name&&((q.states.map (·.name)).take i).all fun y=> !decide (x.name=y))=true then .inl ()else .inr (.inr ())) (fun _=>(.inl ():Unit⊕Unit)) (fun _ _=>True)
  (fun i x w hx _=>⟨by refine(hst i x hx).trans ?_;split<;>rfl,fun _ _=>trivial⟩)
  (fun w _=>by simp only[D4,ltI,AV]) (q.states.length+1) 0 () (by omega) (by omega) trivial
 rw[List.drop_zero]at key;refine key.trans ?_;congr 1;have run:∀(p:Nat->Xv->Bool) (l:List Xv) (i:Nat),GN (fun i (_:Unit) x=>if p i x=true then .inl ()else .inr (.inr ())) (fun _=>(.inl ():Unit⊕Unit)) i l ()=if(l.zipIdx i).all (fun z=>p z.2 z.1)=true then .inl ()else .inr ():=by
  intro p l;induction l with
  |nil=>intro i;rfl
  |cons x xs ih=>
   intro i
   rw[GN,List.zipIdx_cons,List.all_cons]
   cases hp:p i x with
   |true=>simp only[if_true,Bool.true_and];exact ih (i+1)
   |false=>simp
 refine(run (fun i x=>CU x.name&&((q.states.map (·.name)).take i).all fun y=> !decide (x.name=y)) q.states 0).trans ?_
 have e:R9 (q.states.map (·.name))=q.states.zipIdx.all fun z=>CU z.1.name&&((q.states.map (·.name)).take z.2).all fun y=> !decide (z.1.name=y):=by
  rw[Bool.eq_iff_iff];refine(B7 (q.states.map (·.name)) (fun i s=>CU s&&((q.states.map (·.name)).take i).all fun x=> !decide (s=x))).trans (Iff.trans ?_ (B7 q.states (fun i x=>CU x.name&&((q.states.map (·.name)).take i).all fun y=> !decide (x.name=y))).symm)
  constructor;intro h i x hx;exact h i x.name (by rw[List.getElem?_map,hx];rfl);intro h i s hs;rw[List.getElem?_map]at hs;cases hx:q.states[i]? with
  |none=>rw[hx]at hs;cases hs
  |some x=>rw[hx]at hs;cases hs;exact h i x hx
 rw[e]
def K0(q:AA):List (List UInt8):=q.quants.map (·.name)++q.frees.map (·.name)
def Va(q:AA):Bool:=q.quants.all fun x=>tyB x.type
def Ht(q:AA):Bool:=q.frees.all fun x=>vR x.init_
theorem aB3{q:AA}(hF:Dy q):∃o,TU q 0 []=some o/\(Va q=true->o=.inl (q.quants.map (·.name)))/\(Va q=false->o=.inr ()):=by
 have hl:=hF.quants;unfold TU;have key:=B0 (step:=fun s:Int×List (List UInt8)=>Ew q s.1 s.2) q.quants (fun i (w:List (List UInt8))=>((i:Int),w))
  (fun _ w x=>if tyB x.type=true then .inl (w++[x.name])else .inr (.inr ())) (fun w=>(.inl w:List (List UInt8)⊕Unit)) (fun i w=>w.length<=i)
  (fun i x w hx hI=>by have hi:=CG hx;refine⟨?_,fun w' hw=>?_⟩;simp only[Ew,ltD hx,AW,AU hx,EX,At hx (show q.quants.length<=9223372036854775807 by omega)];rw[Bw (Bb (by simp;omega) (by decide))];simp only[tyB,decide_eq_true_eq];by_cases h1:x.type<1;rw[if_pos h1,if_neg (by omega)];rw[if_neg h1];by_cases h3:3<x.type;rw[if_pos h3,if_neg (by omega)];rw[if_neg h3,if_pos (by omega)];split at hw;cases hw;simp;omega;cases hw)
  (fun w _=>by simp only[Ew,ltI,AV]) (q.quants.length+1) 0 [] (by omega) (by omega) (Nat.le_refl _)
 rw[List.drop_zero]at key;refine⟨_,key,?_⟩;have run:∀(l:List Xc) (i:Nat) (w:List (List UInt8)),GN (fun _ w x=>if tyB x.type=true then .inl (w++[x.name])else .inr (.inr ())) (fun w=>(.inl w:List (List UInt8)⊕Unit)) i l w=if(l.all fun x=>tyB x.type)=true then .inl (w++l.map (·.name))else .inr ():=by
  intro l;induction l with
  |nil=>intro i w;simp[GN]
  |cons x xs ih=>
   intro i w
   rw[GN,List.all_cons]
   cases hp:tyB x.type with
   |true=>simp only[if_true,Bool.true_and];rw[ih];simp
   |false=>simp
 rw[run];unfold Va;exact⟨fun h=>by rw[if_pos h];rfl,fun h=>by rw[if_neg (by rw[h];decide)]⟩
theorem aB4{q:AA}(hF:Dy q)(w0:List (List UInt8))(hw0:w0.length<=9):∃o,TW q 0 w0=some o/\(Ht q=true->o=.inl (w0++q.frees.map (·.name)))/\(Ht q=false->o=.inr ()):=by
 have hl:=hF.frees;unfold TW;have key:=B0 (step:=fun s:Int×List (List UInt8)=>Ey q s.1 s.2) q.frees (fun i (w:List (List UInt8))=>((i:Int),w))
  (fun _ w x=>if vR x.init_=true then .inl (w++[x.name])else .inr (.inr ())) (fun w=>(.inl w:List (List UInt8)⊕Unit)) (fun i w=>w.length<=9+i)
  (fun i x w hx hI=>by have hi:=CG hx;refine⟨?_,fun w' hw=>?_⟩;simp only[Ey,ltD hx,AW,AU hx,Un,AH,AN,At hx (show q.frees.length<=9223372036854775807 by omega)];rw[Bw (Bb (by simp;omega) (by decide))];cases vR x.init_<;>rfl;split at hw;cases hw;simp;omega;cases hw)
  (fun w _=>by simp only[Ey,ltI,AV]) (q.frees.length+1) 0 w0 (by omega) (by omega) (by omega)
 rw[List.drop_zero]at key;refine⟨_,key,?_⟩;have run:∀(l:List Xf) (i:Nat) (w:List (List UInt8)),GN (fun _ w x=>if vR x.init_=true then .inl (w++[x.name])else .inr (.inr ())) (fun w=>(.inl w:List (List UInt8)⊕Unit)) i l w=if(l.all fun x=>vR x.init_)=true then .inl (w++l.map (·.name))else .inr ():=by
  intro l;induction l with
  |nil=>intro i w;simp[GN]
  |cons x xs ih=>
   intro i w
   rw[GN,List.all_cons]
   cases hp:vR x.init_ with
   |true=>simp only[if_true,Bool.true_and];rw[ih];simp
   |false=>simp
 rw[run];unfold Ht;exact⟨fun h=>by rw[if_pos h],fun h=>by rw[if_neg (by rw[h];decide)]⟩
def G2(q:AA):Bool:=Va q&&Ht q&&R9 (K0 q)&&R9 (q.states.map (·.name))&&CU q.name
theorem I8{q:AA}(hF:Dy q):Xg q=some (G2 q):=by
 have hl1:=hF.quants;have hl2:=hF.frees;unfold Xg G2;obtain⟨o1,e1,a1,b1⟩:=aB3 hF;rw[e1,AH];cases h1:Va q with
 |false=>rw[b1 h1];rfl
 |true=>
  rw[a1 h1,Dt]
  obtain⟨o2,e2,a2,b2⟩:=aB4 hF (q.quants.map (·.name)) (by simpa using hl1)
  rw[e2,AH]
  cases h2:Ht q with
  |false=>rw[b2 h2];rfl
  |true=>
   rw[a2 h2,Dt,show q.quants.map (·.name)++q.frees.map (·.name)=K0 q from rfl,aB5 (by unfold K0;simp;omega),AH,aB6 hF,UZ,AH]
   cases R9 (K0 q)<;>cases R9 (q.states.map (·.name))<;>simp[Ap,AF]
theorem XD{q:AA}(hF:Dy q):MZ q.quants (q.quants.length:Int) q 0 []=some (q.quants.map (·.name)):=by
 have hl:=hF.quants;unfold MZ;have:=Dh (step:=fun s:Int×List (List UInt8)=>D1 q.quants (q.quants.length:Int) q s.1 s.2) q.quants (fun w x=>w++[x.name]) (fun w=>w) (fun i w=>w.length<=i)
  (fun i x w hx hI=>by have hi:=CG hx;simp only[D1,ltD hx,AW,AU hx,At hx (show q.quants.length<=9223372036854775807 by omega)];rw[Bw (Bb (by simp;omega) (by decide))];exact⟨rfl,by simp;omega⟩)
  (fun w hI=>by simp only[D1,ltI,AV]) [] (Nat.le_refl _)
 rw[DX (fun x:Xc=>x.name)]at this;exact this
theorem XE{q:AA}(hF:Dy q)(w0:List (List UInt8))(hw0:w0.length<=9):Ma q.frees (q.frees.length:Int) q 0 w0=some (w0++q.frees.map (·.name)):=by
 have hl:=hF.frees;unfold Ma;have:=Dh (step:=fun s:Int×List (List UInt8)=>D2 q.frees (q.frees.length:Int) q s.1 s.2) q.frees (fun w x=>w++[x.name]) (fun w=>w) (fun i w=>w.length<=9+i)
  (fun i x w hx hI=>by have hi:=CG hx;simp only[D2,ltD hx,AW,AU hx,At hx (show q.frees.length<=9223372036854775807 by omega)];rw[Bw (Bb (by simp;omega) (by decide))];exact⟨rfl,by simp;omega⟩)
  (fun w hI=>by simp only[D2,ltI,AV]) w0 (by omega)
 rw[DX (fun x:Xf=>x.name)]at this;exact this
theorem XF{q:AA}(hF:Dy q)(z:List (List UInt8)):Mb q.states (q.states.length:Int) q z 0 []=some (q.states.map (·.name)):=by
 have hl:=hF.states;unfold Mb;have:=Dh (step:=fun s:Int×List (List UInt8)=>D3 q.states (q.states.length:Int) q z s.1 s.2) q.states (fun w x=>w++[x.name]) (fun w=>w) (fun i w=>w.length<=i)
  (fun i x w hx hI=>by have hi:=CG hx;simp only[D3,ltD hx,AW,AU hx,At hx (show q.states.length<=9223372036854775807 by omega)];rw[Bw (Bb (by simp;omega) (by decide))];exact⟨rfl,by simp;omega⟩)
  (fun w hI=>by simp only[D3,ltI,AV]) [] (Nat.le_refl _)
 rw[DX (fun x:Xv=>x.name)]at this;exact this
theorem U9{q:AA}(hF:Dy q):Y3 q.quants=some (Va q):=by
 have hl:=hF.quants;unfold Y3 PW;rw[BB q.quants (fun x=>tyB x.type) (.inl ():Unit⊕Unit) (.inr ())
  (fun i x hx=>by obtain⟨s,hs,hsb⟩:=aBl x.type;simp only[FJ,ltD hx,AW,AU hx,Qk,hs,hsb,AH,At hx (show q.quants.length<=9223372036854775807 by omega),AN];cases tyB x.type<;>rfl)
  (by simp only[FJ,ltI,AV]),AH]
 unfold Va;cases q.quants.all _<;>rfl
theorem Rb{q:AA}(hF:Dy q):Y4 q.frees=some (Ht q):=by
 have hl:=hF.frees;unfold Y4 PZ;rw[BB q.frees (fun x=>vR x.init_) (.inl ():Unit⊕Unit) (.inr ())
  (fun i x hx=>by simp only[FK,ltD hx,AW,AU hx,Qo,Wn,AH,At hx (show q.frees.length<=9223372036854775807 by omega),AN];cases vR x.init_<;>rfl)
  (by simp only[FK,ltI,AV]),AH]
 unfold Ht;cases q.frees.all _<;>rfl
def F4(q:AA):Bool:=decide (0<=q.start)&&decide (q.start<(q.states.length:Int))
theorem aDq{q:AA}(hF:Dy q):Xb q=some (Vr q.decls&&G2 q&&F4 q):=by
 have hl1:=hF.quants;have hl2:=hF.frees;have hl3:=hF.states;obtain⟨r,hr,hrb⟩:=M2 (l:=q.decls);unfold Xb G2 F4;rw[XD hF,AH,XE hF _ (by simpa using hl1),AH,XF hF,AH,hr,AH,hrb,Wa,AH,show q.quants.map (·.name)++q.frees.map (·.name)=K0 q from rfl,
  aAq (by unfold K0;simp;omega),AH,aAq (by simp;omega),AH,U9 hF,AH,Rb hF,AH]
 cases Vr q.decls<;>cases CU q.name<;>cases R9 (K0 q)<;>cases R9 (q.states.map (·.name))<;>cases Va q<;>cases Ht q<;>cases decide (0<=q.start)<;>simp[AE]
theorem aAv{q:AA}(hF:Dy q):∃b,Yu q=some b/\Yg q=some b:=by
 have l1:=hF.quants;have l2:=hF.frees;have l3:=hF.states;have l4:=hF.symbols;have l5:=hF.nodes;have l6:=hF.trans;obtain⟨r,hr,hrb⟩:=SG (l:=q.decls);have hfew:Q4 q=some (decide ((q.quants.length:Int)<=8)):=by unfold Q4;simp only[EX];by_cases h:(q.quants.length:Int)<=8;rw[if_pos h,if_pos (by omega),if_pos (by omega),if_pos (by omega),if_pos (by omega)];simp[h];omega;rw[if_neg h];simp[h]
 unfold Yu Yg;rw[hfew,AH,hr,AH,hrb,aDq hF,AH];by_cases hnq:¬(q.quants.length:Int)<=8;refine⟨false,by rw[decide_eq_false hnq];rfl,?_⟩;cases Vr q.decls with
 |false=>rfl
 |true=>rw[Bool.not_true,AV,EX,if_pos (by omega)]
 have hq:(q.quants.length:Int)<=8:=Decidable.of_not_not hnq;rw[decide_eq_true hq,AW];cases hch:Vr q.decls with
 |false=>exact⟨false,rfl,rfl⟩
 |true=>
  simp only[Bool.not_true,AV,EX,Bool.true_and]
  rw[if_neg (by omega),if_neg (by omega),if_neg (by omega),if_neg (by omega),if_neg (by omega),if_neg (by omega)]
  rw[I8 hF,AH]
  have hst:F4 q=true↔0<=q.start/\q.start<(q.states.length:Int):=by unfold F4;simp
  by_cases hs1:q.start<0
  rw[if_pos hs1]
  have:F4 q=false:=by rw[Bool.eq_false_iff,ne_eq,hst];omega
  rw[this,Bool.and_false,AV]
  exact⟨_,rfl,rfl⟩
  rw[if_neg hs1]
  by_cases hs2:(q.states.length:Int)<=q.start
  rw[if_pos hs2]
  have:F4 q=false:=by rw[Bool.eq_false_iff,ne_eq,hst];omega
  rw[this,Bool.and_false,AV]
  exact⟨_,rfl,rfl⟩
  rw[if_neg hs2]
  have:F4 q=true:=hst.2 (by omega)
  rw[this,Bool.and_true]
  cases hnm:G2 q with
  |false=>exact⟨_,rfl,rfl⟩
  |true=>
   rw[AW,Bool.not_true,AV]
   have hty:Va q=true/\Ht q=true:=by unfold G2 at hnm;simp only[ba]at hnm;exact⟨hnm.1.1.1.1,hnm.1.1.1.2⟩
   have hQ:∀x∈q.quants,1<=x.type/\x.type<=3:=fun x hx=>by have:=List.all_eq_true.1 hty.1 x hx;simpa[tyB]using this
   have hI:∀x∈q.frees,vR x.init_=true:=fun x hx=>List.all_eq_true.1 hty.2 x hx
   obtain⟨l,he,hl,hcl⟩:=VD (by omega) hQ hI
   have hL:LOk q l:=⟨hl,by omega,hcl⟩
   rw[aFl hL hF he,AH,aDy hF,AH]
   have hrt:=G5 hL hF q.trans [] 0 rfl (Int.le_refl _) (by omega)
   rw[show Mf q 0 0=_ from hrt,AH]
   cases hsy:IE q with
   |true=>
    rw[JG (V1 hsy),Bool.and_true]
    cases ht:trL q l stB 0 q.trans with
    |none=>exact⟨_,rfl,rfl⟩
    |some b=>
     simp only[Dt]
     have hT:=Kz ht
     by_cases hb:b=(q.nodes.length:Int)
     rw[decide_eq_true (by rw[hb]),AW,if_pos hb,DC hF hT,hsy,VT (V1 hsy),Bool.and_true]
     exact⟨_,rfl,rfl⟩
     rw[decide_eq_false (by intro h;exact hb (Option.some.inj h)),AV,if_neg hb]
     exact⟨_,rfl,rfl⟩
   |false=>
    rw[Bool.and_false,Bool.false_and]
    refine⟨false,?_,?_⟩
    cases decide (trL q l stB 0 q.trans=some (q.nodes.length:Int))<;>rfl
    cases ht:trL q l Dx 0 q.trans with
    |none=>rfl
    |some b=>
     simp only[Dt]
     by_cases hb:b=(q.nodes.length:Int)
     rw[if_pos hb,DC hF (Kz ht),hsy,Bool.and_false,Bool.false_and];rfl
     rw[if_neg hb]
theorem aFo(q:AA)(id:Int):Z1 q id=some true:=by
 obtain⟨n,hn,hnF⟩:=aDm q;unfold Z1;rw[hn,AH,EX];by_cases h0:n=0;rw[if_pos h0,Wq];rfl;rw[if_neg h0];obtain⟨b,h1,h2⟩:=aAv (hnF h0);have hx:(Q8 id [])=some false:=rfl;cases b with
 |false=>
  have e1:Zp q=some ():=by unfold Zp;rw[h1];rfl
  rw[e1,h2,Wq];rfl
 |true=>
  have e1:Zp q=none:=by unfold Zp;rw[h1];rfl
  have e2:Zv q=some (q,GG,GG):=by unfold Zv;rw[h1];rfl
  rw[e1,e2,h2,Wq];rfl
end Go.Ac
