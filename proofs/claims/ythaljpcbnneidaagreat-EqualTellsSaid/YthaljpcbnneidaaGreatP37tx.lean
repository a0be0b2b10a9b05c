/- Own work: the plain law. -/
import Derived.Test.YthaljpcbnneidaaGreatSh37t
import Derived.Test.YthaljpcbnneidaaGreatAcC
set_option linter.unusedVariables false
set_option linter.unusedSimpArgs false
namespace Go.Ac
noncomputable section
def vR(v:X0):Bool:=
 if v.kind=1 then decide (v.str=[])&& !v.bool
 else if v.kind=2 then decide (v.int=0)&& !v.bool&&decide (v.str.length<=4096)
 else if v.kind=3 then decide (v.int=0)&&decide (v.str=[])else false
theorem aIb(v:X0):Zi v=some (vR v):=by
 unfold Zi vR;have hc:decide ((v.str.length:Int)<=4096)=decide (v.str.length<=4096):=by
  by_cases h:v.str.length<=4096;have:(v.str.length:Int)<=4096:=by omega
  simp[h,this];have:¬(v.str.length:Int)<=4096:=by omega
  simp[h,this]
 rw[hc];by_cases h1:v.kind=1;by_cases hs:v.str=[]<;>simp[h1,hs,AE];by_cases h2:v.kind=2;by_cases hn:v.int=0<;>cases hb:v.bool<;>simp[h2,hn,AE];by_cases h3:v.kind=3;by_cases hn:v.int=0<;>simp[h3,hn,AE];simp[h1,h2,h3,AE]
theorem X2.eqb_dec(a b:X2):X2.eqb a b=decide (a=b):=by rw[Bool.eq_iff_iff,X2.eqb_iff];simp
theorem X0.eqb_dec(a b:X0):X0.eqb a b=decide (a=b):=by rw[Bool.eq_iff_iff,X0.eqb_iff];simp
def zV:X0:=⟨0,0,[],false⟩
def B4(l:List X2)(v:Int):X0×Bool:=match l.findSome? (fun s=>if s.var=v then some s.value else none)with
 |some x=>(x,true)
 |none=>(zV,false)
theorem VQ(l:List X2)(v:Int)(o:Unit⊕X0)(h:o=(l.findSome? (fun s=>if s.var=v then some (Sum.inr s.value:Unit⊕X0)else none)).getD (.inl ())):
 Ax o (fun _=>some (X0.mk 0 0 ([]:List UInt8) false,false)) (fun o4=>some (o4,true))=some (B4 l v):=by
 subst h
 have e:l.findSome? (fun s=>if s.var=v then some (Sum.inr s.value:Unit⊕X0)else none)=(l.findSome? (fun s=>if s.var=v then some s.value else none)).map Sum.inr:=by
  induction l with
  |nil=>rfl
  |cons s l ih=>rw[List.findSome?_cons,List.findSome?_cons];by_cases h:s.var=v<;>simp[h,ih]
 rw[e]
 unfold B4
 cases l.findSome? (fun s=>if s.var=v then some s.value else none)<;>rfl
theorem aBd(l:List X2)(v:Int)(hl:l.length<=9223372036854775807):Ye l v=some (B4 l v):=by
 unfold Ye aHh;rw[Cl l (fun _ s=>if s.var=v then some (Sum.inr s.value:Unit⊕X0)else none) (.inl ())
  (fun i x hx=>by simp only[JF,ltD hx,AG,AK hx,Af hx hl,Cy];by_cases h:x.var=v<;>simp[h])
  (by simp only[JF,ltI,AF]),B6,AD]
 exact VQ l v _ rfl
theorem aPp(l:List X2)(v:Int)(hl:l.length<=9223372036854775807):Z6 l v=some (B4 l v):=by
 unfold Z6 aH1;rw[Cl l (fun _ s=>if s.var=v then some (Sum.inr s.value:Unit⊕X0)else none) (.inl ())
  (fun i x hx=>by simp only[JK,ltD hx,AG,AK hx,Af hx hl,Cy];by_cases h:x.var=v<;>simp[h])
  (by simp only[JK,ltI,AF]),B6,AD]
 exact VQ l v _ rfl
theorem aFe(v:X0):∃b,Zi v=some b:=by
 unfold Zi;simp only[A8];repeat' split
 all_goals exact⟨_,rfl⟩
theorem Cw{l:List X2}{v:Int}{x:X0}(h:B4 l v=(x,true)):X2.mk v x∈l:=by unfold B4 at h;split at h;rename_i y hy;cases h;obtain⟨s,hs,hv⟩:=List.exists_of_findSome?_eq_some hy;split at hv;rename_i e;cases hv;rw[<-e];exact hs;cases hv;cases h
theorem DO{β:Type}{a b n:Nat}(h:a+b<=1073741824)(hn:n<=131072)(k:Option β):Ai (fit a b n) k=k:=An (HU h hn) k
structure CS(q:AA):Prop where
 decls:q.decls.length<=12
 quants:q.quants.length<=9
 frees:q.frees.length<=12
 states:q.states.length<=12
 symbols:q.symbols.length<=12
 trans:q.trans.length<=12
 nodes:q.nodes.length<=40
 args:∀s∈q.symbols,s.args.length<=12
 sets:∀t∈q.trans,t.sets.length<=12
theorem E7{α:Type}{l:List α}{R:α->Prop}(h:∀j,j<l.length->∀x,l[j]? =some x->R x):∀x∈l,R x:=by intro x hx;obtain⟨j,hj,rfl⟩:=List.mem_iff_getElem.1 hx;exact h j hj _ (List.getElem?_eq_getElem hj)
theorem aN4(q:AA):∃n,Xg q=some n/\(n≠0->CS q):=by
 unfold Xg;simp only[Cy];iterate 8 (split; · exact⟨0,rfl,by simp⟩)
 rename_i h1 h2 h3 h4 h5 h6 h7 h8;have hd:q.decls.length<=9223372036854775807:=by omega
 have hs:q.symbols.length<=9223372036854775807:=by omega
 have hf:q.frees.length<=9223372036854775807:=by omega
 have hn:q.nodes.length<=9223372036854775807:=by omega
 have ht:q.trans.length<=9223372036854775807:=by omega
 obtain⟨t1,e1,_⟩:=Ah (step:=fun s=>GF q s) q.decls.length (fun _=>True) (fun _=>True)
  (fun i hi=>by
   obtain⟨x,hx,_⟩:=AP hi;simp only[GF,ltD hx,AG,AK hx,Af hx hd];simp only[A8];repeat' split
   all_goals first|exact .inl ⟨rfl,trivial⟩|exact .inr ⟨_,rfl,trivial⟩)
  (fun _=>⟨.inl (),by simp only[GF,ltI,AF],trivial⟩)
 obtain⟨t2,e2,Q2⟩:=Ah (step:=fun s=>GG q s) q.symbols.length (fun i=>∀x,q.symbols[i]? =some x->x.args.length<=12) (fun t=>t=.inl ()->∀s∈q.symbols,s.args.length<=12)
  (fun i hi=>by
   obtain⟨x,hx,_⟩:=AP hi;simp only[GG,ltD hx,AG,AK hx,Af hx hs,Cy];split;exact .inr ⟨_,rfl,by simp⟩;rename_i h12;obtain⟨t3,e3,_⟩:=Ah (step:=fun s=>GH (i:Int) q s) x.args.length (fun _=>True) (fun _=>True)
    (fun j hj=>by obtain⟨y,hy,_⟩:=AP hj;simp only[GH,AK hx,ltD hy,AG,AK hy,Af hy (show x.args.length<=9223372036854775807 by omega)];simp only[A8];split;exact .inr ⟨_,rfl,trivial⟩;exact .inl ⟨rfl,trivial⟩)
    (fun _=>⟨.inl (),by simp only[GH,AK hx,ltI,AF],trivial⟩)
   unfold aGs;rw[e3,AD];rcases t3 with _|_
   exact .inl ⟨rfl,fun y hy=>by rw[hx]at hy;cases hy;omega⟩;exact .inr ⟨_,rfl,by simp⟩)
  (fun hP=>⟨.inl (),by simp only[GG,ltI,AF],fun _=>E7 hP⟩)
 obtain⟨t4,e4,_⟩:=Ah (step:=fun s=>GI q s) q.frees.length (fun _=>True) (fun _=>True)
  (fun i hi=>by obtain⟨x,hx,_⟩:=AP hi;simp only[GI,ltD hx,AG,AK hx,Af hx hf];simp only[A8];split;exact .inr ⟨_,rfl,trivial⟩;exact .inl ⟨rfl,trivial⟩)
  (fun _=>⟨.inl (),by simp only[GI,ltI,AF],trivial⟩)
 obtain⟨t5,e5,_⟩:=Ah (step:=fun s=>GJ q s) q.nodes.length (fun _=>True) (fun _=>True)
  (fun i hi=>by obtain⟨x,hx,_⟩:=AP hi;simp only[GJ,ltD hx,AG,AK hx,Af hx hn];simp only[A8];split;exact .inr ⟨_,rfl,trivial⟩;exact .inl ⟨rfl,trivial⟩)
  (fun _=>⟨.inl (),by simp only[GJ,ltI,AF],trivial⟩)
 obtain⟨t6,e6,Q6⟩:=Ah (step:=fun s=>GK q s) q.trans.length (fun i=>∀x,q.trans[i]? =some x->x.sets.length<=12) (fun t=>t=.inl ()->∀s∈q.trans,s.sets.length<=12)
  (fun i hi=>by obtain⟨x,hx,_⟩:=AP hi;simp only[GK,ltD hx,AG,AK hx,Af hx ht,Cy];split;exact .inr ⟨_,rfl,by simp⟩;exact .inl ⟨rfl,fun y hy=>by rw[hx]at hy;cases hy;omega⟩)
  (fun hP=>⟨.inl (),by simp only[GK,ltI,AF],fun _=>E7 hP⟩)
 unfold aGq aGr aGt aGu aGv;rw[e1,AD,e2,e4,e5,e6];simp only[AD];rcases t1 with _|_<;>rcases t2 with _|_<;>rcases t4 with _|_<;>rcases t5 with _|_<;>rcases t6 with _|_<;>simp only[Bo,DL]<;>
  first
  |exact⟨0,rfl,by simp⟩
  |exact⟨1,rfl,fun _=>⟨by omega,by omega,by omega,by omega,by omega,by omega,by omega,Q2 rfl,Q6 rfl⟩⟩
theorem aLd(s:List UInt8):∃b,Z0 s=some b:=by
 unfold Z0;simp only[Cy];split;exact⟨_,rfl⟩;split;exact⟨_,rfl⟩;obtain⟨t1,e1,_⟩:=Ah (step:=fun i=>Gz s i) s.length (fun _=>True) (fun _=>True)
  (fun i hi=>by
   obtain⟨x,hx,_⟩:=AP hi;simp only[Gz,ltD hx,AG,AK hx,Af hx (show s.length<=9223372036854775807 by omega)];simp only[A8];repeat' split
   all_goals first|exact .inl ⟨rfl,trivial⟩|exact .inr ⟨_,rfl,trivial⟩)
  (fun _=>⟨.inl (),by simp only[Gz,ltI,AF],trivial⟩)
 unfold aHw;rw[e1,AD];rcases t1 with _|_<;>exact⟨_,rfl⟩
theorem NI(s:List UInt8):∃b,Yk s=some b:=by
 unfold Yk Qv;rw[AD];generalize hw:([([97,99,99,101,112,116]:List UInt8),([97,108,115,111]:List UInt8),([97,110,100]:List UInt8),([98,111,111,108]:List UInt8),([100,111]:List UInt8),([101,118,101,110,116]:List UInt8),([101,120,105,115,116,115]:List UInt8),([102,97,108,115,101]:List UInt8),([102,111,114,97,108,108]:List UInt8),([102,114,101,101]:List UInt8),([105,102]:List UInt8),([105,110,116]:List UInt8),([110,101,120,116]:List UInt8),([110,111,116]:List UInt8),([111,110]:List UInt8),([111,114]:List UInt8),([113,101,97]:List UInt8),([115,107,105,112]:List UInt8),([115,116,97,114,116]:List UInt8),([115,116,114,105,110,103]:List UInt8),([116,111]:List UInt8),([116,114,117,101]:List UInt8)]:List (List UInt8))=ws;have hl:ws.length<=9223372036854775807:=by rw[<-hw];simp
 obtain⟨t1,e1,_⟩:=Ah (step:=fun i=>Gp s ws i) ws.length (fun _=>True) (fun _=>True)
  (fun i hi=>by obtain⟨x,hx,_⟩:=AP hi;simp only[Gp,ltD hx,AG,AK hx,Af hx hl];simp only[A8];split;exact .inr ⟨_,rfl,trivial⟩;exact .inl ⟨rfl,trivial⟩)
  (fun _=>⟨.inl (),by simp only[Gp,ltI,AF],trivial⟩)
 unfold aHl;rw[e1,AD];rcases t1 with _|_
 obtain⟨b,hb⟩:=aLd s;rw[Bo,hb,AD];cases b<;>exact⟨_,rfl⟩;exact⟨_,rfl⟩
def EB(l:List X7)(n:List UInt8):Option Nat:=if l.any (fun d=>decide (d.name=n))=true then some (l.findIdx fun d=>decide (d.name=n))else none
theorem aK8(l:List X7)(n:List UInt8)(hl:l.length<=9223372036854775807):Yu l n=some (match EB l n with|some i=>(i:Int)|none=> -1):=by
 unfold Yu aHr;rw[D7 l (fun d=>decide (d.name=n))
  (fun i x hx=>by simp only[JJ,ltD hx,AG,AK hx,Af hx hl];simp only[A8];cases decide (x.name=n)<;>rfl)
  (by simp only[JJ,ltI,AF]),AD]
 unfold EB;cases l.any _<;>rfl
theorem Im{l:List X7}{n:List UInt8}{i:Nat}(h:EB l n=some i):∃d,l[i]? =some d/\d.name=n:=by unfold EB at h;split at h;rename_i ha;cases h;obtain⟨d,hd,hn⟩:=List.any_eq_true.1 ha;have hlt:=List.findIdx_lt_length_of_exists (p:=fun d=>decide (d.name=n)) ⟨d,hd,hn⟩;exact⟨_,List.getElem?_eq_getElem hlt,by simpa using List.findIdx_getElem (w:=hlt)⟩;cases h
theorem aDu{l:List X7}{n:List UInt8}{j:Nat}{d:X7}(hj:l[j]? =some d)(hn:d.name=n):∃i,EB l n=some i/\i<=j:=by have ha:l.any (fun d=>decide (d.name=n))=true:=List.any_eq_true.2 ⟨d,List.mem_of_getElem? hj,by simpa using hn⟩;refine⟨l.findIdx fun d=>decide (d.name=n),by unfold EB;rw[if_pos ha],?_⟩;refine Nat.le_of_not_lt fun hlt=>?_;have:=List.not_of_lt_findIdx hlt;obtain⟨h1,rfl⟩:=List.getElem?_eq_some_iff.1 hj;simp[hn]at this
def K7(l:List X7):Prop:=∀j d,l[j]? =some d->EB l d.name=some j
theorem aOj(l:List X7)(hl:l.length<=9223372036854775807):∃r,Xu l=some r/\(r.1=0->K7 l):=by
 unfold Xu;rw[Cy];split;exact⟨_,rfl,by simp⟩;obtain⟨t1,e1,Q1⟩:=Ah (step:=fun i=>DZ l i) l.length (fun i=>∀d,l[i]? =some d->EB l d.name=some i) (fun t=>match t with| .inl _=>K7 l| .inr r=>r.1≠0)
  (fun i hi=>by
   obtain⟨x,hx,_⟩:=AP hi;obtain⟨b,hb⟩:=NI x.name;simp only[DZ,ltD hx,AG,AK hx,Af hx hl,hb,AD,aK8 l _ hl];cases b with
   |false=>exact .inr ⟨_,rfl,by simp⟩
   |true=>
    simp only[Bool.not_true,AF]
    obtain⟨k,hk,hki⟩:=aDu hx rfl
    rw[hk]
    dsimp only
    rw[Cy]
    split
    exact .inr ⟨_,rfl,by simp⟩
    ·rename_i hge
     rw[Cy]
     split
     exact .inr ⟨_,rfl,by simp⟩
     ·obtain⟨t2,e2,_⟩:=Ah (step:=fun s=>Da l (i:Int) s) x.types.length (fun _=>True) (fun _=>True)
       (fun j hj=>by
        obtain⟨y,hy,_⟩:=AP hj;simp only[Da,AK hx,ltD hy,AG,AK hy,Af hy (show x.types.length<=9223372036854775807 by omega)];simp only[A8];repeat' split
        all_goals first|exact .inl ⟨rfl,trivial⟩|exact .inr ⟨_,rfl,trivial⟩)
       (fun _=>⟨.inl (),by simp only[Da,AK hx,ltI,AF],trivial⟩)
      unfold ZS
      rw[e2,AD]
      rcases t2 with _|_
      refine .inl ⟨rfl,fun d hd=>?_⟩
      rw[hx]at hd;cases hd
      have:k=i:=by omega
      rw[hk,this]
      exact .inr ⟨_,rfl,by simp⟩)
  (fun hP=>⟨.inl (),by simp only[DZ,ltI,AF],fun j d hd=>hP j (At hd) d hd⟩)
 unfold ZQ;rw[e1,AD];rcases t1 with _|r
 exact⟨_,rfl,fun _=>Q1⟩;exact⟨_,rfl,fun h=>absurd h Q1⟩
theorem aE8(op:Int):∃r,Q5 op 0 0=some r:=by unfold Q5;rw[show Qo 0 0=some (AB .add .i64 0 0,true) by simp[Qo,AE],show Q4 0 0=some (AB .sub .i64 0 0,true) by simp[Q4,AE],show Qp 0 0=some (0,true) by simp[Qp,AE],show Qq 0 0=some (0,0,7) by simp[Qq,AE]];simp only[AD,Q7,Bool.not_true,AF];refine I2 ?_;repeat' first|exact⟨_,rfl,trivial⟩|refine A5 (fun _=>?_) (fun _=>?_)|refine Na (fun _=>?_) (fun _=>?_)
theorem aQ3(a b:Int):∃r,Zq ⟨a,0,[],false⟩ ⟨b,0,[],false⟩=some r:=by
 unfold Zq;have hb:Yr [] []=some false:=by unfold Yr aB6;rw[BE];simp[E6,AE,BP,AH,Ax]
 simp only[hb,AD];refine I2 ?_;repeat' first|exact⟨_,rfl,trivial⟩|refine A5 (fun _=>?_) (fun _=>?_)|refine B9 (fun _=>?_) (fun _=>?_)|refine Na (fun _=>?_) (fun _=>?_)
theorem aRe(op a b:Int):∃r,Zt op ⟨a,0,[],false⟩ ⟨b,0,[],false⟩=some r:=by unfold Zt;obtain⟨r1,h1⟩:=aQ3 a b;obtain⟨r2,h2⟩:=aQ3 b a;obtain⟨r3,h3⟩:=aE8 9;obtain⟨r4,h4⟩:=aE8 op;have h4':Q5 op 0 0=some r4:=h4;have hc:∀{β:Type} (k:Option β),Ai (([]:List UInt8).length+([]:List UInt8).length<=9223372036854775807) k=k:=fun k=>An (by simp) k;simp only[Zn,AD,h1,h2,h3,h4',hc,AF];refine I2 ?_;repeat' first|exact⟨_,rfl,trivial⟩|refine A5 (fun _=>?_) (fun _=>?_)|refine B9 (fun _=>?_) (fun _=>?_)|refine Na (fun _=>?_) (fun _=>?_)
theorem aJz(op a b:Int):∃r,Q8 op a b=some r/\(r≠0->a≠0):=by unfold Q8;obtain⟨r,hr⟩:=aRe op a b;rw[hr];simp only[AD];refine A5 (fun _=>⟨_,rfl,by simp⟩) (fun h=>?_);repeat' first|exact⟨_,rfl,fun _=>by omega⟩|refine A5 (fun _=>?_) (fun _=>?_)|refine B9 (fun _=>?_) (fun _=>?_)
theorem O3{α:Type}{l:List α}{i:Int}(h0:0<=i)(h1:i<l.length):∃x,l[i.toNat]? =some x/\i=(i.toNat:Int):=by obtain⟨x,hx,_⟩:=AP (l:=l) (i:=i.toNat) (by omega);exact⟨x,hx,by omega⟩
theorem CO{α β:Type}{l:List α}{i:Int}{x:α}(h:l[i.toNat]? =some x)(h0:0<=i)(k:α->Option β):AZ l i k=k x:=by have e:AZ l ((i.toNat:Nat):Int) k=k x:=AK h k;rwa [show((i.toNat:Nat):Int)=i by omega]at e
theorem aDk(q:AA)(hq:q.nodes.length<=2048):∀(n:Nat) (i:Int),-9223372036854775000<=i->0<n->i+1<n->∃r,aFd n q i=some r/\(r.1≠0->0<=r.2.2/\r.2.2<=i/\i<q.nodes.length):=by
 intro n;induction n with
 |zero=>intro i h0 h;omega
 |succ n ih=>
  intro i h0 _ h
  show∃r,aHx (aFd n) q i=some r/\_
  unfold aHx
  refine A5 (fun _=>⟨_,rfl,by simp⟩) (fun hi0=>?_)
  refine A5 (fun _=>⟨_,rfl,by simp⟩) (fun hi1=>?_)
  obtain⟨x,hx,_⟩:=O3 (l:=q.nodes) (i:=i) (by omega) (by omega)
  rw[CO hx (by omega)]
  obtain⟨b,hb⟩:=aFe x.value
  have e1:AB .sub .i64 i 1=i-1:=aGb (by omega) (by omega)
  rw[e1]
  refine A5 (fun _=>?_) (fun _=>?_)
  refine B9 (fun _=>⟨_,rfl,by simp⟩) (fun _=>?_)
  refine B9 (fun _=>⟨_,rfl,by simp⟩) (fun _=>?_)
  refine A9 hb ?_
  exact FE (fun _=>⟨_,rfl,by simp⟩) (fun _=>⟨_,rfl,fun _=>⟨by simp only;omega,Int.le_refl _,by omega⟩⟩)
  refine FE (fun _=>⟨_,rfl,by simp⟩) (fun _=>?_)
  refine A5 (fun _=>?_) (fun _=>?_)
  refine A5 (fun _=>⟨_,rfl,by simp⟩) (fun _=>?_)
  refine A5 (fun _=>⟨_,rfl,by simp⟩) (fun _=>?_)
  refine B9 (fun _=>⟨_,rfl,by simp⟩) (fun _=>?_)
  obtain⟨y,hy,_⟩:=O3 (l:=q.quants) (i:=x.a) (by omega) (by omega)
  rw[CO hy (by omega)]
  exact⟨_,rfl,fun _=>⟨by simp only;omega,Int.le_refl _,by omega⟩⟩
  refine A5 (fun _=>?_) (fun _=>?_)
  refine A5 (fun _=>⟨_,rfl,by simp⟩) (fun _=>?_)
  refine A5 (fun _=>⟨_,rfl,by simp⟩) (fun _=>?_)
  refine B9 (fun _=>⟨_,rfl,by simp⟩) (fun _=>?_)
  obtain⟨y,hy,_⟩:=O3 (l:=q.frees) (i:=x.a) (by omega) (by omega)
  rw[CO hy (by omega)]
  exact⟨_,rfl,fun _=>⟨by simp only;omega,Int.le_refl _,by omega⟩⟩
  refine A5 (fun _=>⟨_,rfl,by simp⟩) (fun _=>?_)
  refine A5 (fun _=>⟨_,rfl,by simp⟩) (fun _=>?_)
  obtain⟨r5,h5,p5⟩:=ih (i-1) (by omega) (by omega) (by omega)
  refine A9 h5 ?_
  refine A5 (fun _=>?_) (fun _=>?_)
  refine A5 (fun _=>⟨_,rfl,by simp⟩) (fun hk=>?_)
  refine B9 (fun _=>⟨_,rfl,by simp⟩) (fun _=>?_)
  refine B9 (fun _=>⟨_,rfl,by simp⟩) (fun _=>?_)
  obtain⟨r6,h6,_⟩:=aJz x.op r5.1 r5.1
  refine A9 h6 ?_
  have:=p5 hk
  exact⟨_,rfl,fun _=>by simp only;omega⟩
  refine A5 (fun _=>⟨_,rfl,by simp⟩) (fun hk=>?_)
  have hp:=p5 hk
  have e2:AB .sub .i64 r5.2.2 1=r5.2.2-1:=aGb (by omega) (by omega)
  rw[e2]
  refine B9 (fun _=>⟨_,rfl,by simp⟩) (fun _=>?_)
  refine B9 (fun _=>⟨_,rfl,by simp⟩) (fun _=>?_)
  obtain⟨r7,h7,p7⟩:=ih (r5.2.2-1) (by omega) (by omega) (by omega)
  refine A9 h7 ?_
  obtain⟨r8,h8,p8⟩:=aJz x.op r7.1 r5.1
  refine A9 h8 ?_
  refine⟨_,rfl,fun h=>?_⟩
  have:=p7 (p8 h)
  simp only;omega
theorem Pc(q:AA)(hq:q.nodes.length<=2048)(f i:Int)(hi: -9223372036854775808<=i/\i<=9223372036854775807):∃r,Qa q f i=some r/\(r.1≠0->0<=i/\i<q.nodes.length):=by
 unfold Qa Z1;by_cases h:0<=i/\i<q.nodes.length;obtain⟨r,hr,_⟩:=aDk q hq 100000 i (by omega) (by omega) (by omega);refine A9 hr ?_;refine A5 (fun _=>⟨_,rfl,by simp⟩) (fun _=>?_);exact B9 (fun _=>⟨_,rfl,by simp⟩) (fun _=>⟨_,rfl,fun _=>h⟩);have hz:aFd 100000 q i=some (0,0,0):=by show aHx (aFd 99999) q i=_;unfold aHx;rw[Cy,Cy];split;rfl;rw[if_pos (by omega)]
 refine A9 hz ?_;exact⟨(0,0),by simp[AE],by simp⟩
theorem J9(s:X8)(v:Int)(hs:s.args.length<=9223372036854775807):∃r,Yw s v=some r:=by
 unfold Yw aHs;obtain⟨t,ht,_⟩:=Ah (step:=fun i=>Gv v s i) s.args.length (fun _=>True) (fun _=>True)
  (fun i hi=>by
   obtain⟨x,hx,_⟩:=AP hi;simp only[Gv,ltD hx,AG,AK hx,Af hx hs];simp only[A8];repeat' split
   all_goals first|exact .inl ⟨rfl,trivial⟩|exact .inr ⟨_,rfl,trivial⟩)
  (fun _=>⟨.inl (),by simp only[Gv,ltI,AF],trivial⟩)
 rw[ht,AD];rcases t with _|_<;>exact⟨_,rfl⟩
theorem VA(q:AA)(s:X8)(hs:s.args.length<=9223372036854775807)(hq:q.nodes.length<=2048)(f t:Int)(hf:0<=f)(ht:t<=q.nodes.length):∃r,Z9 q s f t=some r:=by
 unfold Z9 aH4;obtain⟨u,hu,_⟩:=Am (step:=fun i=>G4 t q s i) (fun i=>0<=i) (fun i=>(t-i).toNat) (fun _=>True)
  (by
   intro i hi;by_cases h:i<t
   ·obtain⟨x,hx,_⟩:=O3 (l:=q.nodes) (i:=i) hi (by omega);obtain⟨b,hb⟩:=J9 s x.a hs;simp only[G4,h,decide_true,AG,CO hx hi,hb,AD,aFg (a:=i) (b:=1) (by omega) (by omega)];simp only[A8];repeat' split
    all_goals first|exact .inl ⟨_,rfl,trivial⟩|exact .inr ⟨_,rfl,by omega,by omega⟩
   exact .inl ⟨.inl (),by simp[G4,h,AE],trivial⟩)
  f hf
 rw[hu,AD];rcases u with _|_<;>exact⟨_,rfl⟩
def aJt(n:Int):Prop:= -9223372036854775808<=n/\n<=9223372036854775807
structure IT(t:Xe):Prop where
 guard:aJt t.guard
 sets:∀s∈t.sets,aJt s.expr
theorem aEx(q:AA)(hF:CS q)(t:Xe)(hT:IT t)(hts:t.sets.length<=12)(f:Int)(hf:0<=f)(hfl:f<=q.nodes.length):
 ∃r,Xs q t f=some r/\(r.2=true->0<=t.symbol/\t.symbol<q.symbols.length/\0<=r.1/\r.1<=q.nodes.length/\(t.guard= -1\/0<=t.guard)/\(0<=t.from_/\t.from_<q.states.length)/\0<=t.to/\t.to<q.states.length):=by
 have hn:q.nodes.length<=2048:=Nat.le_trans hF.nodes (by decide)
 have hfr:q.frees.length<=12:=hF.frees
 unfold Xs
 refine A5 (fun _=>⟨_,rfl,by simp⟩) (fun ha=>?_)
 refine A5 (fun _=>⟨_,rfl,by simp⟩) (fun hb=>?_)
 refine A5 (fun _=>⟨_,rfl,by simp⟩) (fun hc=>?_)
 refine A5 (fun _=>⟨_,rfl,by simp⟩) (fun hd=>?_)
 refine A5 (fun _=>⟨_,rfl,by simp⟩) (fun hs0=>?_)
 refine A5 (fun _=>⟨_,rfl,by simp⟩) (fun hs1=>?_)
 obtain⟨o2,h2,p2⟩:∃o,R6 f f (!decide (t.guard=(-1))) q t=some o/\∀x,o=.inl x->0<=x/\x<=q.nodes.length/\(t.guard= -1\/0<=t.guard):=by unfold R6;refine B9 (fun _=>?_) (fun hg=>⟨_,rfl,fun x hx=>by cases hx;exact⟨hf,hfl,.inl hg⟩⟩);obtain⟨r1,h1,p1⟩:=Pc q hn f t.guard hT.guard;refine A9 h1 ?_;refine B9 (fun _=>⟨_,rfl,by simp⟩) (fun h3=>?_);refine A5 (fun _=>⟨_,rfl,by simp⟩) (fun _=>?_);have:=p1 (by omega);refine⟨_,rfl,fun x hx=>?_⟩;cases hx;refine⟨?_,?_,.inr this.1⟩<;>(rw[aFg (by omega) (by omega)];omega)
 refine A9 h2 ?_
 rcases o2 with o3|_
 have h3:=p2 o3 rfl
 rw[Bo]
 unfold OT
 obtain⟨u,hu,pu⟩:=Am (step:=fun s:Int×Int=>EJ f q t s.1 s.2) (fun s=>∃i:Nat,s.2=(i:Int)/\i<=t.sets.length/\0<=s.1/\s.1<=q.nodes.length) (fun s=>(t.sets.length-s.2).toNat)
  (fun o=>∀x,o=.inl x->0<=x/\x<=q.nodes.length)
  (by
   rintro⟨w,s⟩ ⟨i,rfl,hi,hw0,hw1⟩;simp only at hw0 hw1⊢;by_cases he:i=t.sets.length;subst he;exact .inl ⟨.inl w,by simp only[EJ,ltI,AF],fun x hx=>by cases hx;exact⟨hw0,hw1⟩⟩;obtain⟨x,hx,_⟩:=AP (l:=t.sets) (i:=i) (by omega);obtain⟨r6,h6,p6⟩:=Pc q hn w x.expr (hT.sets x (List.mem_of_getElem? hx));have h6':Qa q w x.expr=some r6:=h6;simp only[EJ,ltD hx,AG,AK hx,h6',AD,Af hx (show t.sets.length<=9223372036854775807 by omega)];by_cases g1:x.free<0;exact .inl ⟨.inr (),by simp[g1,AE],by simp⟩;by_cases g2:(q.frees.length:Int)<=x.free;exact .inl ⟨.inr (),by simp[g1,g2,AE],by simp⟩;by_cases g3:r6.1=0;exact .inl ⟨.inr (),by simp[g1,g2,g3,AE],by simp⟩;by_cases g4:64<r6.2;exact .inl ⟨.inr (),by simp[g1,g2,g3,g4,AE],by simp⟩;obtain⟨y,hy,_⟩:=O3 (l:=q.frees) (i:=x.free) (by omega) (by omega);by_cases g5:r6.1=y.init_.kind;obtain⟨t3,e3,_⟩:=Ah (step:=fun s=>Ga f (i:Int) q t x s) i (fun _=>True) (fun _=>True)
    (fun j hj=>by
     obtain⟨z,hz,_⟩:=AP (l:=t.sets) (i:=j) (by omega);have hlt:decide ((j:Int)<(i:Int))=true:=by simp;omega
     simp only[Ga,hlt,AG,AK hz,Af hz (show t.sets.length<=9223372036854775807 by omega)];simp only[A8];split;exact .inr ⟨_,rfl,trivial⟩;exact .inl ⟨rfl,trivial⟩)
    (fun _=>⟨.inl (),by simp only[Ga,ltI,AF],trivial⟩)
   have e3':aG6 f (i:Int) q t x 0=some t3:=e3;have hp:=p6 g3;rcases t3 with _|_
   refine .inr ⟨(AB .add .i64 x.expr 1,((i+1:Nat):Int)),?_,⟨i+1,rfl,by omega,?_,?_⟩,by simp only;omega⟩;rw[Cy,if_neg g1,Cy,if_neg g2,Cy,if_neg g3,Cy,if_neg g4,CO hy (show 0<=x.free by omega)];simp only[g5,decide_true,Bool.not_true,AF,e3',AD,Bo];simp only;rw[aFg (by omega) (by omega)];omega;simp only;rw[aFg (by omega) (by omega)];omega;refine .inl ⟨.inr (),?_,by simp⟩;rw[Cy,if_neg g1,Cy,if_neg g2,Cy,if_neg g3,Cy,if_neg g4,CO hy (show 0<=x.free by omega)];simp only[g5,decide_true,Bool.not_true,AF,e3',AD,DL];refine .inl ⟨.inr (),?_,by simp⟩;rw[Cy,if_neg g1,Cy,if_neg g2,Cy,if_neg g3,Cy,if_neg g4,CO hy (show 0<=x.free by omega)];simp only[g5,decide_false,Bool.not_false,AG])
  (o3,(0:Int)) ⟨0,rfl,by omega,h3.1,h3.2.1⟩
 refine A9 hu ?_
 rcases u with o13|_
 rw[Bo]
 have h13:=pu o13 rfl
 obtain⟨x,hx,_⟩:=O3 (l:=q.symbols) (i:=t.symbol) (by omega) (by omega)
 rw[CO hx (by omega)]
 obtain⟨r16,h16⟩:=VA q x (Nat.le_trans (hF.args x (List.mem_of_getElem? hx)) (by decide)) hn f o13 hf h13.2
 refine A9 h16 ⟨_,rfl,fun _=>⟨by omega,by omega,h13.1,h13.2,h3.2.2,⟨by omega,by omega⟩,by omega,by omega⟩⟩
 exact⟨_,rfl,by simp⟩
 exact⟨_,rfl,by simp⟩
structure PW(q:AA)(a:BJ):Prop where
 two:a.kind=2->0<=a.n/\a.n<q.quants.length
 three:a.kind=3->0<=a.n/\a.n<q.frees.length
 one:a.kind=1->vR a.value=true
theorem aM1(q:AA)(a:BJ)(k:Int):∃r,Qe q a k=some r/\(r=true->PW q a/\(a.kind=1->a.value.kind=k)):=by unfold Qe;have hb:=aIb a.value;refine A5 (fun h=>?_) (fun h1=>?_);have ho:vR a.value=true->PW q a:=fun hv=>⟨fun h2=>by omega,fun h2=>by omega,fun _=>hv⟩;refine A5 (fun _=>?_) (fun _=>⟨_,rfl,by simp⟩);refine A9 hb ?_;exact Na (fun hv=>⟨_,rfl,fun hk=>⟨ho hv,fun _=>of_decide_eq_true hk⟩⟩) (fun _=>⟨_,rfl,by simp⟩);refine FE (fun _=>⟨_,rfl,by simp⟩) (fun _=>?_);refine A5 (fun h2=>?_) (fun h2=>?_);refine A5 (fun h3=>?_) (fun _=>⟨_,rfl,by simp⟩);refine A5 (fun h4=>?_) (fun _=>⟨_,rfl,by simp⟩);obtain⟨y,hy,_⟩:=O3 h3 h4;rw[CO hy h3];exact⟨_,rfl,fun _=>⟨⟨fun _=>⟨h3,h4⟩,fun h=>by omega,fun h=>by omega⟩,fun h=>absurd h h1⟩⟩;refine A5 (fun h5=>?_) (fun h5=>?_);refine A5 (fun h3=>?_) (fun _=>⟨_,rfl,by simp⟩);refine A5 (fun h4=>?_) (fun _=>⟨_,rfl,by simp⟩);obtain⟨y,hy,_⟩:=O3 h3 h4;rw[CO hy h3];exact⟨_,rfl,fun _=>⟨⟨fun h=>by omega,fun _=>⟨h3,h4⟩,fun h=>by omega⟩,fun h=>absurd h h1⟩⟩;exact A5 (fun _=>⟨_,rfl,fun _=>⟨⟨fun h=>by omega,fun h=>by omega,fun h=>by omega⟩,fun h=>absurd h h1⟩⟩) (fun _=>⟨_,rfl,by simp⟩)
structure Pk(q:AA)(s:X8):Prop where
 event:0<=s.event
 decl:∃d,q.decls[s.event.toNat]? =some d/\s.args.length=d.types.length
 args:∀a∈s.args,PW q a
 kinds:∀d,q.decls[s.event.toNat]? =some d->∀(i:Nat) a t,s.args[i]? =some a->d.types[i]? =some t->a.kind=1->a.value.kind=t
theorem aPn(q:AA)(s:X8)(hs:s.args.length<=12):∃r,Z5 q s=some r/\(r=true->Pk q s):=by
 unfold Z5;refine A5 (fun _=>⟨_,rfl,by simp⟩) (fun h0=>?_);refine A5 (fun _=>⟨_,rfl,by simp⟩) (fun h1=>?_);obtain⟨d,hd,_⟩:=O3 (l:=q.decls) (i:=s.event) (by omega) (by omega);rw[CO hd (by omega)];refine B9 (fun _=>⟨_,rfl,by simp⟩) (fun h2=>?_);obtain⟨t,ht,hQ⟩:=Ah (step:=fun i=>G3 q s i) s.args.length (fun i=>∀a,s.args[i]? =some a->PW q a/\∀t,d.types[i]? =some t->a.kind=1->a.value.kind=t) (fun t=>t=.inl ()->∀(i:Nat) a,s.args[i]? =some a->PW q a/\∀t,d.types[i]? =some t->a.kind=1->a.value.kind=t)
  (fun i hi=>by
   obtain⟨x,hx,_⟩:=AP hi;obtain⟨y,hy,_⟩:=AP (l:=d.types) (i:=i) (by omega);obtain⟨b,hb,hbo⟩:=aM1 q x y;simp only[G3,ltD hx,AG,AK hx,CO hd (show 0<=s.event by omega),AK hy,hb,AD,Af hx (show s.args.length<=9223372036854775807 by omega)];cases b with
   |false=>exact .inr ⟨_,rfl,by simp⟩
   |true=>exact .inl ⟨rfl,fun a ha=>by rw[hx]at ha;cases ha;exact⟨(hbo rfl).1,fun t ht=>by rw[hy]at ht;cases ht;exact(hbo rfl).2⟩⟩)
  (fun hP=>⟨.inl (),by simp only[G3,ltI,AF],fun _ i a ha=>hP i (At ha) a ha⟩)
 refine A9 ht ?_;rcases t with _|_
 exact⟨_,rfl,fun _=>⟨by omega,⟨d,hd,by omega⟩,fun a ha=>by obtain⟨i,hi⟩:=List.getElem?_of_mem ha;exact(hQ rfl i a hi).1,fun d' hd' i a t ha ht=>by rw[hd,oe]at hd';subst hd';exact(hQ rfl i a ha).2 t ht⟩⟩;exact⟨_,rfl,by simp⟩
theorem IA(a b:X8)(ha:a.args.length<=9223372036854775807):∃r,Zg a b=some r:=by
 unfold Zg;refine I2 ?_;refine B9 (fun _=>⟨_,rfl,trivial⟩) (fun _=>?_);refine B9 (fun _=>⟨_,rfl,trivial⟩) (fun h=>?_);obtain⟨t,ht,_⟩:=Ah (step:=fun i=>HB a b i) a.args.length (fun _=>True) (fun _=>True)
  (fun i hi=>by obtain⟨x,hx,_⟩:=AP hi;obtain⟨y,hy,_⟩:=AP (l:=b.args) (i:=i) (by omega);simp only[HB,ltD hx,AG,AK hx,AK hy,Af hx ha];simp only[A8];split;exact .inr ⟨_,rfl,trivial⟩;exact .inl ⟨rfl,trivial⟩)
  (fun _=>⟨.inl (),by simp only[HB,ltI,AF],trivial⟩)
 refine A9 ht ?_;rcases t with _|_<;>exact⟨_,rfl,trivial⟩
theorem aN2(q:AA)(hF:CS q)(hT:∀t∈q.trans,0<=t.symbol/\t.symbol<q.symbols.length):∃r,Xb q=some r/\(r=true->∀s∈q.symbols,Pk q s):=by
 have hsy:=hF.symbols;have htr:=hF.trans;have hqu:=hF.quants;unfold Xb;rw[An ⟨by omega,HU (by omega) (by decide)⟩];obtain⟨o9,h9,hl9⟩:=Am (step:=fun s:Int×List Bool×List Int=>GA q s.1 s.2.1 s.2.2) (fun s=>∃i:Nat,s.1=(i:Int)/\i<=q.trans.length/\s.2.1.length=q.symbols.length/\s.2.2.length<=i) (fun s=>(q.trans.length-s.1).toNat) (fun o=>o.length<=12)
  (by
   rintro⟨s,u,w⟩ ⟨i,rfl,hi,hu,hw⟩;simp only at hu hw⊢;by_cases he:i=q.trans.length;subst he;exact .inl ⟨w,by simp only[GA,ltI,AF],by omega⟩;obtain⟨x,hx,_⟩:=AP (l:=q.trans) (i:=i) (by omega);have hxs:=hT x (List.mem_of_getElem? hx);obtain⟨y,hy,_⟩:=O3 (l:=u) (i:=x.symbol) hxs.1 (by omega);have hb5:∃w',P0 (i:Int) x.symbol (!y) q u w=some w'/\w'.length<=i+1:=by unfold P0;refine FE (fun _=>?_) (fun _=>⟨_,rfl,by omega⟩);rw[DO (by simp;omega) (by decide)];exact⟨_,rfl,by simpa using hw⟩
   obtain⟨w',hb,hw'⟩:=hb5;refine .inr ⟨(((i+1:Nat):Int),u.set x.symbol.toNat true,w'),?_,⟨i+1,rfl,by omega,by simpa using hu,hw'⟩,by simp only;omega⟩;simp only[GA,ltD hx,AG,Af hx (show q.trans.length<=9223372036854775807 by omega)];unfold Wx;rw[AK hx,An (by omega),CO hy hxs.1,hb,AD,An (by omega),An (by omega)];rfl)
  ((0:Int),List.replicate (q.symbols.length:Int).toNat false,([]:List Int)) ⟨0,rfl,by omega,by simp,by simp⟩
 refine A9 h9 ?_;obtain⟨t1,e1,_⟩:=Ah (step:=fun s=>GB q o9 s) o9.length (fun _=>True) (fun _=>True)
  (fun i hi=>by obtain⟨x,hx,_⟩:=AP hi;simp only[GB,ltD hx,AG,AK hx,Af hx (show o9.length<=9223372036854775807 by omega)];simp only[A8];split;exact .inr ⟨_,rfl,trivial⟩;exact .inl ⟨rfl,trivial⟩)
  (fun _=>⟨.inl (),by simp only[GB,ltI,AF],trivial⟩)
 refine A9 e1 ?_;rcases t1 with _|_
 case inr=>exact⟨_,rfl,by simp⟩
 rw[Bo];have hsl:q.symbols.length<=9223372036854775807:=by omega
 obtain⟨t2,e2,Q2⟩:=Ah (step:=fun s=>GC q s) q.symbols.length (fun i=>∀s,q.symbols[i]? =some s->Pk q s) (fun t=>t=.inl ()->∀s∈q.symbols,Pk q s)
  (fun i hi=>by
   obtain⟨x,hx,_⟩:=AP hi;have hxa:=hF.args x (List.mem_of_getElem? hx);obtain⟨b,hb,hbo⟩:=aPn q x hxa;simp only[GC,ltD hx,AG,AK hx,hb,AD,Af hx hsl];cases b with
   |false=>exact .inr ⟨_,rfl,by simp⟩
   |true=>
    simp only[Bool.not_true,AF]
    obtain⟨t3,e3,_⟩:=Ah (step:=fun s=>GD (i:Int) q s) i (fun _=>True) (fun _=>True)
     (fun j hj=>by
      obtain⟨y,hy,_⟩:=AP (l:=q.symbols) (i:=j) (by omega);obtain⟨c,hc⟩:=IA x y (by omega);have hlt:decide ((j:Int)<(i:Int))=true:=by simp;omega
      simp only[GD,hlt,AG,AK hx,AK hy,hc,AD,Af hy hsl];simp only[A8];split;exact .inr ⟨_,rfl,trivial⟩;exact .inl ⟨rfl,trivial⟩)
     (fun _=>⟨.inl (),by simp only[GD,ltI,AF],trivial⟩)
    unfold aGp
    rw[e3,AD]
    rcases t3 with _|_
    exact .inl ⟨rfl,fun s hs=>by rw[hx]at hs;cases hs;exact hbo rfl⟩
    exact .inr ⟨_,rfl,by simp⟩)
  (fun hP=>⟨.inl (),by simp only[GC,ltI,AF],fun _=>E7 hP⟩)
 refine A9 e2 ?_;rcases t2 with _|_
 case inr=>exact⟨_,rfl,by simp⟩
 rw[Bo];obtain⟨t4,e4,_⟩:=Ah (step:=fun s=>GE q s) q.quants.length (fun _=>True) (fun _=>True)
  (fun i hi=>by
   have hlt:decide ((i:Int)<(q.quants.length:Int))=true:=by simp;omega
   obtain⟨o,ho,_⟩:=Am (step:=fun s:Bool×Int=>Dt (i:Int) q s.1 s.2) (fun s=>∃j:Nat,s.2=(j:Int)/\j<=q.symbols.length) (fun s=>(q.symbols.length-s.2).toNat) (fun _=>True)
    (by
     rintro⟨b,s⟩ ⟨j,rfl,hj⟩;simp only;by_cases he:j=q.symbols.length;subst he;exact .inl ⟨b,by simp only[Dt,ltI,AF],trivial⟩;obtain⟨x,hx,_⟩:=AP (l:=q.symbols) (i:=j) (by omega);have hxa:=hF.args x (List.mem_of_getElem? hx);obtain⟨c,hc⟩:=J9 x (i:Int) (by omega);have hc':Yw x (i:Int)=some c:=hc;cases b with
     |true=>exact .inr ⟨(true,((j+1:Nat):Int)),by simp only[Dt,ltD hx,AG,Af hx hsl],⟨j+1,rfl,by omega⟩,by simp only;omega⟩
     |false=>exact .inr ⟨(c,((j+1:Nat):Int)),by simp only[Dt,ltD hx,AG,AF,AK hx,hc',AD,Af hx hsl],⟨j+1,rfl,by omega⟩,by simp only;omega⟩)
    (false,(0:Int)) ⟨0,rfl,by omega⟩
   have ho':P1 (i:Int) q false 0=some o:=ho;simp only[GE,hlt,AG,ho',AD,J0 (show i<9223372036854775807 by omega)];simp only[A8];split;exact .inr ⟨_,rfl,trivial⟩;exact .inl ⟨rfl,trivial⟩)
  (fun _=>⟨.inl (),by simp only[GE,ltI,AF],trivial⟩)
 refine A9 e4 ?_;rcases t4 with _|_
 exact⟨_,rfl,fun _=>Q2 rfl⟩;exact⟨_,rfl,by simp⟩
theorem Ky(l:List (List UInt8))(at':Nat)(h:at'<l.length)(hl:l.length<=9223372036854775807):∃r,Z4 l (at':Int)=some r:=by
 unfold Z4;refine I2 ?_;obtain⟨y,hy,_⟩:=AP h;obtain⟨t,ht,_⟩:=Ah (step:=fun i=>G2 l (at':Int) i) at' (fun _=>True) (fun _=>True)
  (fun i hi=>by
   obtain⟨x,hx,_⟩:=AP (l:=l) (i:=i) (by omega);have hlt:decide ((i:Int)<(at':Int))=true:=by simp;omega
   simp only[G2,hlt,AG,AK hx,AK hy,Af hx hl];simp only[A8];split;exact .inr ⟨_,rfl,trivial⟩;exact .inl ⟨rfl,trivial⟩)
  (fun _=>⟨.inl (),by simp only[G2,ltI,AF],trivial⟩)
 refine A9 ht ?_;rcases t with _|_<;>exact⟨_,rfl,trivial⟩
theorem aKl(q:AA)(hF:CS q):∃r,Xk q=some r:=by
 have h1:=hF.quants;have h2:=hF.frees;have h3:=hF.states;unfold Xk;refine I2 ?_;obtain⟨o7,e7,p7⟩:=Am (step:=fun s:Int×List (List UInt8)=>GP q s.1 s.2) (fun s=>∃i:Nat,s.1=(i:Int)/\i<=q.quants.length/\s.2.length<=i) (fun s=>(q.quants.length-s.1).toNat) (fun o=>∀w,o=.inl w->w.length<=9)
  (by rintro⟨s,w⟩ ⟨i,rfl,hi,hw⟩;simp only at hw⊢;by_cases he:i=q.quants.length;subst he;exact .inl ⟨.inl w,by simp only[GP,ltI,AF],fun w' hw'=>by cases hw';omega⟩;obtain⟨x,hx,_⟩:=AP (l:=q.quants) (i:=i) (by omega);simp only[GP,ltD hx,AG,AK hx,Af hx (show q.quants.length<=9223372036854775807 by omega)];rw[DO (by simp;omega) (by decide)];simp only[A8];split;exact .inl ⟨_,rfl,by simp⟩;split;exact .inl ⟨_,rfl,by simp⟩;exact .inr ⟨_,rfl,⟨i+1,rfl,by omega,by simpa using hw⟩,by simp only;omega⟩)
  ((0:Int),([]:List (List UInt8))) ⟨0,rfl,by omega,by simp⟩
 refine A9 e7 ?_;rcases o7 with o8|_
 case inr=>exact⟨_,rfl,trivial⟩
 rw[Bo];have hw8:=p7 o8 rfl;obtain⟨o13,e13,p13⟩:=Am (step:=fun s:Int×List (List UInt8)=>GQ q s.1 s.2) (fun s=>∃i:Nat,s.1=(i:Int)/\i<=q.frees.length/\s.2.length<=9+i) (fun s=>(q.frees.length-s.1).toNat) (fun o=>∀w,o=.inl w->w.length<=21)
  (by rintro⟨s,w⟩ ⟨i,rfl,hi,hw⟩;simp only at hw⊢;by_cases he:i=q.frees.length;subst he;exact .inl ⟨.inl w,by simp only[GQ,ltI,AF],fun w' hw'=>by cases hw';omega⟩;obtain⟨x,hx,_⟩:=AP (l:=q.frees) (i:=i) (by omega);obtain⟨b,hb⟩:=aFe x.init_;simp only[GQ,ltD hx,AG,AK hx,hb,AD,Af hx (show q.frees.length<=9223372036854775807 by omega)];rw[DO (by simp;omega) (by decide)];simp only[A8];split;exact .inl ⟨_,rfl,by simp⟩;exact .inr ⟨_,rfl,⟨i+1,rfl,by omega,by simp;omega⟩,by simp only;omega⟩)
  ((0:Int),o8) ⟨0,rfl,by omega,by simpa using hw8⟩
 refine A9 e13 ?_;rcases o13 with o14|_
 case inr=>exact⟨_,rfl,trivial⟩
 rw[Bo];have hw14:=p13 o14 rfl;obtain⟨t,ht,_⟩:=Ah (step:=fun i=>GR q o14 i) o14.length (fun _=>True) (fun _=>True)
  (fun i hi=>by
   obtain⟨x,hx,_⟩:=AP hi;obtain⟨b,hb⟩:=NI x;obtain⟨c,hc⟩:=Ky o14 i hi (by omega);simp only[GR,ltD hx,AG,AK hx,hb,hc,AD,Af hx (show o14.length<=9223372036854775807 by omega)];simp only[A8];repeat' split
   all_goals first|exact .inl ⟨rfl,trivial⟩|exact .inr ⟨_,rfl,trivial⟩)
  (fun _=>⟨.inl (),by simp only[GR,ltI,AF],trivial⟩)
 refine A9 ht ?_;rcases t with _|_
 case inr=>exact⟨_,rfl,trivial⟩
 rw[Bo];obtain⟨o30,e30,_⟩:=Am (step:=fun s:Int×List (List UInt8)=>GS q s.1 s.2) (fun s=>∃i:Nat,s.1=(i:Int)/\i<=q.states.length/\s.2.length=i) (fun s=>(q.states.length-s.1).toNat) (fun _=>True)
  (by
   rintro⟨s,w⟩ ⟨i,rfl,hi,hw⟩;simp only at hw⊢;by_cases he:i=q.states.length;subst he;exact .inl ⟨.inl (),by simp only[GS,ltI,AF],trivial⟩;obtain⟨x,hx,_⟩:=AP (l:=q.states) (i:=i) (by omega);have hg:(w++[x.name])[i]? =some x.name:=by rw[<-hw];simp
   obtain⟨b,hb⟩:=NI x.name;obtain⟨c,hc⟩:=Ky (w++[x.name]) i (by simp;omega) (by simp;omega);simp only[GS,ltD hx,AG,AK hx,Af hx (show q.states.length<=9223372036854775807 by omega)];rw[DO (by simp;omega) (by decide),AK hg,hb,AD,hc];simp only[AD,A8];split;exact .inl ⟨_,rfl,trivial⟩;split;exact .inl ⟨_,rfl,trivial⟩;exact .inr ⟨_,rfl,⟨i+1,rfl,by omega,by simp;omega⟩,by simp only;omega⟩)
  ((0:Int),([]:List (List UInt8))) ⟨0,rfl,by omega,by simp⟩
 refine A9 e30 ?_;rcases o30 with _|_
 obtain⟨b,hb⟩:=NI q.name;rw[Bo];exact A9 hb ⟨_,rfl,trivial⟩;exact⟨_,rfl,trivial⟩
structure Ad(q:AA):Prop where
 decls:K7 q.decls
 quants:q.quants.length<=8
 symbols:∀s∈q.symbols,Pk q s
 guards:∀t∈q.trans,t.guard= -1\/0<=t.guard
 ends : ∀ t ∈ q.trans, (0 <= t.symbol /\ t.symbol < q.symbols.length) /\ (0 <= t.from_ /\ t.from_ < q.states.length) /\ 0 <= t.to /\ t.to < q.states.length
 fires:∀t∈q.trans,∃f r,Xs q t f=some (r,true)
theorem aPb(q:AA)(hF:CS q)(hW:∀t∈q.trans,IT t):∃r,Yo q=some r/\(r=true->Ad q):=by
 have h1:=hF.decls;have h2:=hF.trans;unfold Yo;obtain⟨r1,e1,p1⟩:=aOj q.decls (by omega);refine A9 e1 ?_;refine B9 (fun _=>⟨_,rfl,by simp⟩) (fun hz=>?_);refine A5 (fun _=>⟨_,rfl,by simp⟩) (fun hq=>?_);refine A5 (fun _=>⟨_,rfl,by simp⟩) (fun _=>?_);refine A5 (fun _=>⟨_,rfl,by simp⟩) (fun _=>?_);refine A5 (fun _=>⟨_,rfl,by simp⟩) (fun _=>?_);refine A5 (fun _=>⟨_,rfl,by simp⟩) (fun _=>?_);refine A5 (fun _=>⟨_,rfl,by simp⟩) (fun _=>?_);refine A5 (fun _=>⟨_,rfl,by simp⟩) (fun _=>?_);refine A5 (fun _=>⟨_,rfl,by simp⟩) (fun _=>?_);obtain⟨r2,e2⟩:=aKl q hF;refine A9 e2 ?_;refine FE (fun _=>⟨_,rfl,by simp⟩) (fun _=>?_);obtain⟨o5,e5,p5⟩:=Am (step:=fun s:Int×Int=>Gs q s.1 s.2) (fun s=>∃i:Nat,s.2=(i:Int)/\i<=q.trans.length/\0<=s.1/\s.1<=q.nodes.length/\∀j,j<i->∀t,q.trans[j]? =some t->0<=t.symbol/\t.symbol<q.symbols.length/\(t.guard= -1\/0<=t.guard)/\(0<=t.from_/\t.from_<q.states.length)/\0<=t.to/\t.to<q.states.length/\∃f r,Xs q t f=some (r,true)) (fun s=>(q.trans.length-s.2).toNat)
  (fun o=>∀w,o=.inl w->∀t∈q.trans,0<=t.symbol/\t.symbol<q.symbols.length/\(t.guard= -1\/0<=t.guard)/\(0<=t.from_/\t.from_<q.states.length)/\0<=t.to/\t.to<q.states.length/\∃f r,Xs q t f=some (r,true))
  (by
   rintro⟨w,s⟩ ⟨i,rfl,hi,hw0,hw1,hP⟩;simp only at hw0 hw1 hP⊢;by_cases he:i=q.trans.length;subst he;exact .inl ⟨.inl w,by simp only[Gs,ltI,AF],fun _ _=>E7 hP⟩;obtain⟨x,hx,_⟩:=AP (l:=q.trans) (i:=i) (by omega);have hxm:=List.mem_of_getElem? hx;obtain⟨r4,e4,p4⟩:=aEx q hF x (hW x hxm) (hF.sets x hxm) w hw0 hw1;simp only[Gs,ltD hx,AG,AK hx,e4,AD,Af hx (show q.trans.length<=9223372036854775807 by omega)];cases hb:r4.2 with
   |false=>exact .inl ⟨.inr (),rfl,by simp⟩
   |true=>
    have hp:=p4 hb
    refine .inr ⟨(r4.1,((i+1:Nat):Int)),rfl,⟨i+1,rfl,by omega,hp.2.2.1,hp.2.2.2.1,fun j hj t ht=>?_⟩,by simp only;omega⟩
    rcases Nat.lt_or_ge j i with h|h
    exact hP j h t ht
    have:j=i:=by omega
    subst this;rw[hx]at ht;cases ht;exact⟨hp.1,hp.2.1,hp.2.2.2.2.1,hp.2.2.2.2.2.1,hp.2.2.2.2.2.2.1,hp.2.2.2.2.2.2.2,w,r4.1,by rw[e4,<-hb]⟩)
  ((0:Int),(0:Int)) ⟨0,rfl,by omega,by simp,by simp,fun j hj=>by omega⟩
 refine A9 e5 ?_;rcases o5 with o6|_
 rw[Bo];refine A5 (fun _=>?_) (fun _=>⟨_,rfl,by simp⟩);obtain⟨r8,e8,p8⟩:=aN2 q hF (fun t ht=>⟨(p5 o6 rfl t ht).1,(p5 o6 rfl t ht).2.1⟩);refine A9 e8 ⟨_,rfl,fun hr=>⟨p1 hz,by omega,p8 hr,fun t ht=>(p5 o6 rfl t ht).2.2.1,fun t ht=>⟨⟨(p5 o6 rfl t ht).1,(p5 o6 rfl t ht).2.1⟩,(p5 o6 rfl t ht).2.2.2.1,(p5 o6 rfl t ht).2.2.2.2.1,(p5 o6 rfl t ht).2.2.2.2.2.1⟩,fun t ht=>(p5 o6 rfl t ht).2.2.2.2.2.2⟩⟩;exact⟨_,rfl,by simp⟩
theorem aM3(v:X0):Qf v=some (vR v):=by rw[<-aIb];obtain⟨k,n,s,b⟩:=v;unfold Qf Zi Qz U0 U1;simp only[AD,Cy,X0.eqb_dec,X0.mk.injEq,A8];by_cases h1:k=1;subst h1;by_cases hs:s=[]<;>cases b<;>simp[hs];by_cases h2:k=2;subst h2;by_cases hn:n=0<;>cases b<;>simp[hn];by_cases h3:k=3;subst h3;by_cases hn:n=0<;>by_cases hs:s=[]<;>cases b<;>simp[hn,hs];simp[h1,h2,h3]
def IF(a:List X0)(t:List Int):Bool:=decide (a.length=t.length)&&(a.zip t).all fun p=>decide (p.1.kind=p.2)&&vR p.1
def eR(l:List X7)(e:X3):Bool:=match EB l e.name with
 |none=>false
 |some i=>match l[i]? with
  |none=>false
  |some d=>IF e.args d.types
theorem J8(a:List X0)(t:List Int)(ha:a.length<=9223372036854775807):Zh a t=some (IF a t):=by
 unfold Zh IF;rw[A8,MH];by_cases hl:a.length=t.length;rw[if_neg (by simp[hl])];unfold aIa;have hz:(a.zip t).length=a.length:=by simp[hl]
 rw[Bm (a.zip t) (fun p=>decide (p.1.kind=p.2)&&vR p.1) (.inl ():Unit⊕Unit) (.inr ())
  (fun i z hz=>by obtain⟨hx,hy⟩:=Ma hz;simp only[JN,ltD hx,AG,AK hx,AK hy,U2,aM3,AD,Af hx ha,Cy];by_cases h:z.1.kind=z.2<;>cases hv:vR z.1<;>simp[h,AH,AE])
  (by rw[hz];simp only[JN,ltI,AF]),AD]
 cases(a.zip t).all _<;>simp[Ax,hl];rw[if_pos (by simp[hl])];simp[hl]
theorem aM5(l:List X7)(e:X3)(hl:l.length<=9223372036854775807)(he:e.args.length<=9223372036854775807):Qg l e=some (eR l e):=by
 unfold Qg Qy Zj aIc;rw[D7 l (fun d=>decide (d.name=e.name))
  (fun i x hx=>by simp only[JO,ltD hx,AG,AK hx,Qx,AD,Af hx hl];simp only[A8];cases decide (x.name=e.name)<;>rfl)
  (by simp only[JO,ltI,AF])]
 unfold eR;cases hf:EB l e.name with
 |none=>
  have:¬(l.any fun d=>decide (d.name=e.name))=true:=by intro h;unfold EB at hf;rw[if_pos h]at hf;cases hf
  simp[this,AH,Ax,AE]
 |some i=>
  have ha:(l.any fun d=>decide (d.name=e.name))=true:=by unfold EB at hf;split at hf;assumption;cases hf
  have hi:(l.findIdx fun d=>decide (d.name=e.name))=i:=by unfold EB at hf;rw[if_pos ha]at hf;cases hf;rfl
  obtain⟨d,hd,_⟩:=Im hf
  rw[if_pos ha,hi]
  have hm:K5 (i:Int) 0=(i:Int):=by unfold K5;exact if_neg (Int.not_lt.2 (Int.natCast_nonneg i))
  have h0:decide ((0:Int)<=(i:Int))=true:=by simp
  simp only[AD,DL,hm,h0,Bool.not_true,AF,AK hd,J8 _ _ he,hd]
theorem aHo(l:List X7)(e:X3)(hl:l.length<=9223372036854775807)(he:e.args.length<=9223372036854775807):Yq l e=some (eR l e):=by
 unfold Yq;rw[aK8 l _ hl,AD];unfold eR;cases hf:EB l e.name with
 |none=>simp[AE]
 |some i=>
  obtain⟨d,hd,_⟩:=Im hf
  dsimp only
  rw[Cy,if_neg (Int.not_lt.2 (Int.natCast_nonneg i)),AK hd,hd,A8,MH]
  dsimp only
  unfold IF
  by_cases hl2:d.types.length=e.args.length
  rw[if_neg (by simp[hl2])]
  unfold aHp
  have hz:(e.args.zip d.types).length=e.args.length:=by simp[hl2]
  rw[Bm (e.args.zip d.types) (fun p=>decide (p.1.kind=p.2)&&vR p.1) (.inl ():Unit⊕Unit) (.inr ())
   (fun i z hz=>by obtain⟨hx,hy⟩:=Ma hz;simp only[JI,ltD hx,AG,AK hx,AK hd,AK hy,aIb,AD,Af hx he];by_cases h:z.1.kind=z.2<;>cases hv:vR z.1<;>simp[h,AE])
   (by rw[hz];simp only[JI,ltI,AF]),AD]
  cases(e.args.zip d.types).all _<;>simp[Ax,hl2]
  rw[if_pos (by simp[hl2])]
  have:¬e.args.length=d.types.length:=fun h=>hl2 h.symm
  simp[this]

theorem aRh{i j:Nat}(h:i+j<4611686018427387904):IntKind.wrap .i64 (AB .shr .u64 (IntKind.wrap .u64 (AB .add .i64 (i:Int) (j:Int))) 1)=(((i+j)/2:Nat):Int):=by
 have e1:AB .add .i64 (i:Int) (j:Int)=((i+j:Nat):Int):=by rw[aFg (by omega) (by omega)];omega
 rw[e1,A4 (by omega)];have e2:AB .shr .u64 (((i+j:Nat)):Int) 1=(((i+j)/2^1:Nat):Int):=aRi (n:=i+j) (k:=1) (by decide);rw[e2,Nat.pow_one,aQw (by omega) (by omega)]
theorem aIt{step:Int×Int->Option ((Int×Int)⊕Int)}(n:Nat)(lt:Nat->Bool)
 (h1:∀i j:Nat,i<j->j<=n->step ((i:Int),(j:Int))=some (.inl (if lt ((i+j)/2)=true then((((i+j)/2+1:Nat):Int),(j:Int))else((i:Int),(((i+j)/2:Nat):Int)))))
 (h2:∀i:Nat,step ((i:Int),(i:Int))=some (.inr (i:Int))) (hm:∀a b,a<=b->b<n->lt b=true->lt a=true):
 ∃k:Nat,k<=n/\AT step (0,(n:Int))=some (k:Int)/\(∀a,a<k->lt a=true)/\∀a,k<=a->a<n->lt a=false:=by
 obtain⟨t,ht,k,hk,rfl,p1,p2⟩:=Am (step:=step) (fun s=>∃i j:Nat,s=((i:Int),(j:Int))/\i<=j/\j<=n/\(∀a,a<i->lt a=true)/\∀a,j<=a->a<n->lt a=false) (fun s=>(s.2-s.1).toNat)
  (fun t=>∃k:Nat,k<=n/\t=(k:Int)/\(∀a,a<k->lt a=true)/\∀a,k<=a->a<n->lt a=false)
  (by
   rintro s ⟨i,j,rfl,hij,hj,q1,q2⟩;rcases Nat.lt_or_ge i j with h|h
   right;cases hl:lt ((i+j)/2)with
   |true=>
    refine⟨((((i+j)/2+1:Nat):Int),(j:Int)),by rw[h1 i j h hj,hl];rfl,⟨(i+j)/2+1,j,rfl,by omega,hj,fun a ha=>hm a ((i+j)/2) (by omega) (by omega) hl,q2⟩,by simp only;omega⟩
   |false=>
    refine⟨((i:Int),(((i+j)/2:Nat):Int)),by rw[h1 i j h hj,hl];rfl,⟨i,(i+j)/2,rfl,by omega,by omega,q1,fun a ha hn=>?_⟩,by simp only;omega⟩
    rcases Nat.lt_or_ge a j with g|g
    cases hla:lt a with
    |false=>rfl
    |true=>rw[hm ((i+j)/2) a ha hn hla]at hl;cases hl
    exact q2 a g hn
   have:i=j:=by omega
   subst this;exact .inl ⟨(i:Int),h2 i,i,hj,rfl,q1,q2⟩)
  (0,(n:Int)) ⟨0,n,rfl,by omega,Nat.le_refl _,fun a ha=>by omega,fun a ha hn=>by omega⟩
 exact⟨k,hk,ht,p1,p2⟩

def SV(w:List X2):Prop:=w.Pairwise (fun a b=>a.var<b.var)/\∀s∈w,0<=s.var/\s.var<=63
theorem FU:∀{a b:List X2},a.Pairwise (fun x y=>x.var<y.var)->b.Pairwise (fun x y=>x.var<y.var)->(∀s,s∈a↔s∈b)->a=b
 |[],[],_,_,_=>rfl
 |[],y::b,_,_,h=>by have:=(h y).2 (by simp);simp at this
 |x::a,[],_,_,h=>by have:=(h x).1 (by simp);simp at this
 |x::a,y::b,ha,hb,h=>by
  obtain⟨ha1,ha2⟩:=List.pairwise_cons.1 ha;obtain⟨hb1,hb2⟩:=List.pairwise_cons.1 hb;have hxy:x=y:=by
   rcases mc.1 ((h x).1 (by simp))with e|e
   exact e;rcases mc.1 ((h y).2 (by simp))with e2|e2
   exact e2.symm;have:=hb1 x e;have:=ha1 y e2;omega
  subst hxy;congr 1;refine FU ha2 hb2 fun s=>⟨fun hs=>?_,fun hs=>?_⟩;rcases mc.1 ((h s).1 (List.mem_cons_of_mem _ hs))with e|e
  subst e;have:=ha1 s hs;omega;exact e;rcases mc.1 ((h s).2 (List.mem_cons_of_mem _ hs))with e|e
  subst e;have:=hb1 s hs;omega;exact e
def K4:List X2->X2->List X2
 |[],x=> [x]
 |y::l,x=>if x.var<y.var then x::y::l else y::K4 l x
theorem Cx:∀(l:List X2) (x s:X2),s∈K4 l x↔s=x\/s∈l
 |[],x,s=>by simp[K4]
 |y::l,x,s=>by
  unfold K4;split;simp;rw[mc,Cx l x s,mc];constructor;rintro(h|h|h)<;>simp[h];rintro(h|h|h)<;>simp[h]
theorem EO:∀(l:List X2) (x:X2),l.Pairwise (fun a b=>a.var<b.var)->(∀s∈l,s.var≠x.var)->(K4 l x).Pairwise (fun a b=>a.var<b.var)
 |[],x,_,_=>by simp[K4]
 |y::l,x,h,hn=>by
  obtain⟨h1,h2⟩:=List.pairwise_cons.1 h;unfold K4;split;rename_i hxy;refine List.pairwise_cons.2 ⟨fun s hs=>?_,h⟩;rcases mc.1 hs with rfl|hs
  exact hxy;have:=h1 s hs;omega;rename_i hxy;refine List.pairwise_cons.2 ⟨fun s hs=>?_,EO l x h2 fun s hs=>hn s (List.mem_cons_of_mem _ hs)⟩;rcases(Cx l x s).1 hs with rfl|hs
  have:=hn y (by simp);omega;exact h1 s hs
theorem Nh:∀(l:List X2) (x:X2),(K4 l x).length=l.length+1
 |[],x=>rfl
 |y::l,x=>by unfold K4;split<;>simp[Nh l x]
theorem EZ{l:List X2}{v:Int}(h:(B4 l v).2=false):∀s∈l,s.var≠v:=by
 intro s hs e;unfold B4 at h;cases hf:l.findSome? (fun s=>if s.var=v then some s.value else none)with
 |some x=>rw[hf]at h;cases h
 |none=>
  rw[List.findSome?_eq_none_iff]at hf
  have:=hf s hs
  simp[e]at this
theorem Ci{l:List X2}(hl:l.Pairwise (fun a b=>a.var<b.var)){s:X2}(h:s∈l):B4 l s.var=(s.value,true):=by
 have key:∀(l:List X2),l.Pairwise (fun a b=>a.var<b.var)->s∈l->l.findSome? (fun t=>if t.var=s.var then some t.value else none)=some s.value:=by
  intro l;induction l with
  |nil=>intro _ h;simp at h
  |cons t l ih=>
   intro hp hs
   rw[List.findSome?_cons]
   obtain⟨h1,h2⟩:=List.pairwise_cons.1 hp
   rcases mc.1 hs with rfl|hs
   simp
   have:=h1 s hs
   rw[if_neg (by omega)]
   exact ih h2 hs
 unfold B4;rw[key l hl h]
def IL(w:List X2)(x:X2):Option (List X2):=if(B4 w x.var).2=true then(if(B4 w x.var).1=x.value then some w else none)else some (K4 w x)
theorem ER{w w':List X2}{x:X2}(hw:SV w)(hx:0<=x.var/\x.var<=63)(h:IL w x=some w'):SV w'/\w'.length<=w.length+1:=by
 unfold IL at h;split at h;split at h;cases h;exact⟨hw,by omega⟩;cases h;rename_i hn;cases h;have hn':(B4 w x.var).2=false:=by simpa using hn
 refine⟨⟨EO w x hw.1 (EZ hn'),fun s hs=>?_⟩,by rw[Nh];exact Nat.le_refl _⟩;rcases(Cx w x s).1 hs with rfl|hs
 exact hx;exact hw.2 s hs
theorem VH{w:List X2}{x:X2}(hw:w.Pairwise (fun a b=>a.var<b.var))(hn:∀s∈w,s.var≠x.var){k:Nat}(hk:k<=w.length)(h1:∀j s,w[j]? =some s->j<k->s.var<x.var)(h2:∀j s,w[j]? =some s->k<=j->x.var<s.var):
 w.take k++[x]++w.drop k=K4 w x:=by
 refine FU ?_ (EO w x hw hn) fun s=>?_
 rw[List.append_assoc,List.singleton_append]
 have hd:∀s∈w.drop k,x.var<s.var:=fun s hs=>by obtain⟨j,hj,rfl⟩:=List.mem_iff_getElem.1 hs;rw[List.getElem_drop];exact h2 (k+j) _ (List.getElem?_eq_getElem (by simp at hj;omega)) (by omega)
 have htk:∀s∈w.take k,s.var<x.var:=fun s hs=>by obtain⟨j,hj,rfl⟩:=List.mem_iff_getElem.1 hs;rw[List.getElem_take];simp at hj;exact h1 j _ (List.getElem?_eq_getElem (by omega)) (by omega)
 refine List.pairwise_append.2 ⟨hw.sublist (List.take_sublist _ _),List.pairwise_cons.2 ⟨hd,hw.sublist (List.drop_sublist _ _)⟩,fun a ha b hb=>?_⟩
 rcases mc.1 hb with rfl|hb
 exact htk a ha
 have:=htk a ha;have:=hd b hb;omega
 rw[Cx]
 have hw2:s∈w↔s∈w.take k\/s∈w.drop k:=by
  conv=>lhs;rw[<-List.take_append_drop k w]
  rw[ma]
 rw[hw2]
 simp only[ma,List.mem_singleton]
 constructor
 rintro((h|h)|h)<;>simp[h]
 rintro(h|h|h)<;>simp[h]
theorem aDm{w:List X2}{v:Int}(hw:SV w)(hv:0<=v/\v<=63)(hl:w.length<=1000):
 ∃k:Nat,k<=w.length/\Yf w v=some ((k:Int),(B4 w v).2)/\(∀j s,w[j]? =some s->j<k->s.var<v)/\(∀j s,w[j]? =some s->k<=j->v<=s.var)/\
  ((B4 w v).2=true->∃s,w[k]? =some s/\s.var=v):=by
 have hsub:∀s∈w,Qh s v=some (s.var-v):=fun s hs=>by have:=hw.2 s hs;unfold Qh;rw[aGb (by omega) (by omega)]
 unfold Yf aHi
 obtain⟨k,hk,hkr,p1,p2⟩:=aIt (step:=fun s:Int×Int=>Gk w v (w.length:Int) s.1 s.2) w.length (fun a=>match w[a]? with|some s=>decide (s.var<v)|none=>false)
  (fun i j hij hj=>by
   obtain⟨x,hx,_⟩:=AP (l:=w) (i:=(i+j)/2) (by omega);have hd:decide ((i:Int)<(j:Int))=true:=by simp;omega
   simp only[Gk,hd,AG,aBf,aRh (show i+j<4611686018427387904 by omega),AK hx,hsub x (List.mem_of_getElem? hx),AD,aBh,hx];by_cases h:x.var<v;have h':x.var-v<0:=by omega
   simp only[h,h',decide_true,AG,AD,if_true,J0 (show(i+j)/2<9223372036854775807 by omega)];have h':¬x.var-v<0:=by omega
   simp[h,h',AE,AH])
  (fun i=>by simp[Gk,AE])
  (fun a b hab hb h=>by
   obtain⟨x,hx,_⟩:=AP (l:=w) (i:=a) (by omega);obtain⟨y,hy,_⟩:=AP (l:=w) (i:=b) hb;simp only[hx,hy,decide_eq_true_eq]at h⊢;rcases Nat.lt_or_ge a b with g|g
   obtain⟨ha',rfl⟩:=List.getElem?_eq_some_iff.1 hx;obtain⟨hb',rfl⟩:=List.getElem?_eq_some_iff.1 hy;have:=List.pairwise_iff_getElem.1 hw.1 a b ha' hb' g;omega;have:a=b:=by omega
   subst this;rw[hx]at hy;cases hy;exact h)
 have q1:∀j s,w[j]? =some s->j<k->s.var<v:=fun j s hs hj=>by have:=p1 j hj;simp only[hs]at this;simpa using this
 have q2:∀j s,w[j]? =some s->k<=j->v<=s.var:=fun j s hs hj=>by have:=p2 j hj (At hs);simp only[hs]at this;simp at this;exact this
 refine⟨k,hk,?_,q1,q2,?_⟩
 rw[hkr,AD]
 by_cases h:k<w.length
 obtain⟨x,hx,_⟩:=AP h
 rw[Cy,if_pos (by omega),AK hx,hsub x (List.mem_of_getElem? hx),AD]
 have hge:=q2 k x hx (Nat.le_refl _)
 by_cases hv2:x.var=v
 have:=Ci hw.1 (List.mem_of_getElem? hx)
 rw[hv2]at this
 simp[this,hv2]
 cases hg:(B4 w v).2 with
 |false=>
  have:¬x.var-v=0:=by omega
  simp[this]
 |true=>
  have hm:=Cw (l:=w) (v:=v) (x:=(B4 w v).1) (by rw[<-hg])
  obtain⟨j,hj,hjs⟩:=List.mem_iff_getElem.1 hm
  have hjg:w[j]? =some (X2.mk v (B4 w v).1):=by rw[List.getElem?_eq_getElem hj,hjs]
  rcases Nat.lt_trichotomy j k with g|g|g
  have:=q1 j _ hjg g;simp at this
  subst g;rw[hx]at hjg;cases hjg;exact absurd rfl hv2
  obtain⟨hk',hxe⟩:=List.getElem?_eq_some_iff.1 hx
  have:=List.pairwise_iff_getElem.1 hw.1 k j hk' hj g
  rw[hxe,hjs]at this
  simp only at this;omega
 rw[Cy,if_neg (by omega)]
 cases hg:(B4 w v).2 with
 |false=>rfl
 |true=>
  have hm:=Cw (l:=w) (v:=v) (x:=(B4 w v).1) (by rw[<-hg])
  obtain⟨j,hj,hjs⟩:=List.mem_iff_getElem.1 hm
  have:=q1 j _ (by rw[List.getElem?_eq_getElem hj,hjs]) (by omega)
  simp at this
 intro hg
 have hm:=Cw (l:=w) (v:=v) (x:=(B4 w v).1) (by rw[<-hg])
 obtain⟨j,hj,hjs⟩:=List.mem_iff_getElem.1 hm
 have hjg:w[j]? =some (X2.mk v (B4 w v).1):=by rw[List.getElem?_eq_getElem hj,hjs]
 have hkj:k<=j:=Nat.le_of_not_lt fun g=>by have:=q1 j _ hjg g;simp at this
 obtain⟨x,hx,_⟩:=AP (l:=w) (i:=k) (by omega)
 refine⟨x,hx,?_⟩
 have hge:=q2 k x hx (Nat.le_refl _)
 rcases Nat.eq_or_lt_of_le hkj with e|e
 subst e;rw[hx]at hjg;cases hjg;rfl
 obtain⟨hk',hxe⟩:=List.getElem?_eq_some_iff.1 hx
 have:=List.pairwise_iff_getElem.1 hw.1 k j hk' hj e
 rw[hxe,hjs]at this
 simp only at this;omega
theorem aF8{w:List X2}{x:X2}(hw:SV w)(hx:0<=x.var/\x.var<=63)(hl:w.length<=900):
 ∃r,Zv x w=some r/\match IL w x with|none=>r.1=false|some w'=>r=(true,w'):=by
 unfold Zv
 obtain⟨k,hk,hb,q1,q2,q3⟩:=aDm hw hx (show w.length<=1000 by omega)
 rw[hb,AD]
 unfold IL
 cases hg:(B4 w x.var).2 with
 |true=>
  obtain⟨s,hs,hsv⟩:=q3 hg
  have hklt:=At hs
  have hgs:=Ci hw.1 (List.mem_of_getElem? hs)
  rw[hsv]at hgs
  simp only[AG]
  rw[An (by omega),AK hs]
  refine⟨_,rfl,?_⟩
  rw[hgs]
  simp only[if_true,X2.eqb_dec]
  have he:(s=x)↔s.value=x.value:=by obtain⟨a,b⟩:=s;obtain⟨c,d⟩:=x;simp only at hsv;subst hsv;simp
  by_cases h:s.value=x.value
  rw[if_pos h];simp[he,h]
  rw[if_neg h];simp[he,h]
 |false=>
  have hn:=EZ hg
  simp only[AF,Bool.false_eq_true,if_false]
  have hin:U3 (k:Int) w [x]=some (K4 w x):=by
   unfold U3 aMq;rw[if_pos ⟨by omega,by omega,by simp,HU (by simp;omega) (by decide)⟩,Int.toNat_natCast];rw[VH hw.1 hn hk q1 (fun j s hs hj=>by have h1:=q2 j s hs hj;have h2:=hn s (List.mem_of_getElem? hs);omega)]
  exact⟨_,by rw[hin];rfl,rfl⟩
def D1:List BJ->List X0->List X2->List X2->Option (List X2×List X2)
 |a::al,x::xs,b,f=>
  if a.kind=1 then(if a.value=x then D1 al xs b f else none)
  else if a.kind=2 then(match IL b ⟨a.n,x⟩with|none=>none|some b'=>D1 al xs b' f)
  else if a.kind=3 then(match IL f ⟨a.n,x⟩with|none=>none|some f'=>D1 al xs b f')
  else D1 al xs b f
 |_,_,b,f=>some (b,f)
def aJq(a:BJ):Prop:=(a.kind=2->0<=a.n/\a.n<=7)/\(a.kind=3->0<=a.n/\a.n<=63)
def B7(b:List X2):Prop:=∀s∈b,s.var<=7
theorem aF7{w w':List X2}{x:X2}(hw:B7 w)(hx:x.var<=7)(h:IL w x=some w'):B7 w':=by
 unfold IL at h;split at h;split at h;cases h;exact hw;cases h;cases h;intro s hs;rcases(Cx w x s).1 hs with rfl|hs
 exact hx;exact hw s hs
theorem FI:∀(al:List BJ) (xs:List X0) (b f:List X2) (p:List X2×List X2),(∀a∈al,aJq a)->SV b->SV f->B7 b->D1 al xs b f=some p->SV p.1/\SV p.2/\B7 p.1/\p.1.length<=b.length+al.length/\p.2.length<=f.length+al.length
 |[],xs,b,f,p,_,hb,hf,h7,h=>by simp only[D1]at h;cases h;exact⟨hb,hf,h7,by simp,by simp⟩
 |a::al,[],b,f,p,_,hb,hf,h7,h=>by simp only[D1]at h;cases h;exact⟨hb,hf,h7,by simp,by simp⟩
 |a::al,x::xs,b,f,p,hA,hb,hf,h7,h=>by
  have hA':∀a∈al,aJq a:=fun a h=>hA a (List.mem_cons_of_mem _ h);have hAa:=hA a (by simp);simp only[D1]at h;split at h;split at h;obtain⟨a1,a2,a3,a4,a5⟩:=FI al xs b f p hA' hb hf h7 h;exact⟨a1,a2,a3,by simp;omega,by simp;omega⟩;cases h;split at h;rename_i h2;split at h;cases h;rename_i b' hp;have hv:=hAa.1 h2;obtain⟨c1,c2⟩:=ER hb (x:=⟨a.n,x⟩) ⟨hv.1,by simp only;omega⟩ hp;obtain⟨a1,a2,a3,a4,a5⟩:=FI al xs b' f p hA' c1 hf (aF7 h7 (by simp only;omega) hp) h;exact⟨a1,a2,a3,by simp;omega,by simp;omega⟩;split at h;rename_i h3;split at h;cases h;rename_i f' hp;have hv:=hAa.2 h3;obtain⟨c1,c2⟩:=ER hf (x:=⟨a.n,x⟩) hv hp;obtain⟨a1,a2,a3,a4,a5⟩:=FI al xs b f' p hA' hb c1 h7 h;exact⟨a1,a2,a3,by simp;omega,by simp;omega⟩;obtain⟨a1,a2,a3,a4,a5⟩:=FI al xs b f p hA' hb hf h7 h;exact⟨a1,a2,a3,by simp;omega,by simp;omega⟩
theorem aDw{al:List BJ}{e:X3}(hlen:al.length=e.args.length)(h12:al.length<=12)(hA:∀a∈al,aJq a):∀(n i:Nat) (b f:List X2),al.length-i=n->i<=al.length->SV b->SV f->b.length<=i->f.length<=i->
 ∃o,Tg al (al.length:Int) e (i:Int) b f=some o/\match D1 (al.drop i) (e.args.drop i) b f with|none=>∃z,o=.inr z|some p=>o=.inl p:=by
 intro n
 induction n with
 |zero=>
  intro i b f hn hi _ _ _ _
  have:i=al.length:=by omega
  subst this
  rw[NM]
  refine⟨.inl (b,f),by simp only[Gu,ltI,AF,CE],?_⟩
  rw[List.drop_length];simp[D1]
 |succ n ih=>
  intro i b f hn hi hb hf hbl hfl
  obtain⟨a,ha,hda⟩:=AP (l:=al) (i:=i) (by omega)
  obtain⟨x,hx,hdx⟩:=AP (l:=e.args) (i:=i) (by omega)
  have hAa:=hA a (List.mem_of_getElem? ha)
  rw[NM,hda,hdx]
  simp only[Gu,ltD ha,AG,AK ha,AK hx,Af ha (show al.length<=9223372036854775807 by omega),X0.eqb_dec]
  simp only[D1]
  by_cases h1:a.kind=1
  have h2:¬a.kind=2:=by omega
  have h3:¬a.kind=3:=by omega
  by_cases hv:a.value=x
  obtain⟨o,ho,hm⟩:=ih (i+1) b f (by omega) (by omega) hb hf (by omega) (by omega)
  refine⟨o,by simp[h1,hv,AE,BP];exact_mod_cast ho,by simpa[h1,hv]using hm⟩
  exact⟨.inr (b,f),by simp[h1,hv,AE,BP],by simp[h1,hv]⟩
  by_cases h2:a.kind=2
  have h3:¬a.kind=3:=by omega
  have hvr:=hAa.1 h2
  obtain⟨r,hr,hrm⟩:=aF8 (w:=b) (x:=⟨a.n,x⟩) hb ⟨hvr.1,by simp only;omega⟩ (by omega)
  rw[hr]
  cases hp:IL b ⟨a.n,x⟩with
  |none=>
   rw[hp]at hrm
   simp only at hrm
   exact⟨.inr (r.2,f),by simp[h1,h2,hrm,AE,BP,AH],by simp[h1,h2]⟩
  |some b'=>
   rw[hp]at hrm
   simp only at hrm
   subst hrm
   obtain⟨c1,c2⟩:=ER hb (x:=⟨a.n,x⟩) ⟨hvr.1,by simp only;omega⟩ hp
   obtain⟨o,ho,hm⟩:=ih (i+1) b' f (by omega) (by omega) c1 hf (by omega) (by omega)
   refine⟨o,by simp[h1,h2,h3,AE,BP,AH];exact_mod_cast ho,by simpa[h1,h2]using hm⟩
  by_cases h3:a.kind=3
  have hvr:=hAa.2 h3
  obtain⟨r,hr,hrm⟩:=aF8 (w:=f) (x:=⟨a.n,x⟩) hf hvr (by omega)
  rw[hr]
  cases hp:IL f ⟨a.n,x⟩with
  |none=>
   rw[hp]at hrm
   simp only at hrm
   exact⟨.inr (b,r.2),by simp[h1,h2,h3,hrm,AE,BP,AH],by simp[h1,h2,h3]⟩
  |some f'=>
   rw[hp]at hrm
   simp only at hrm
   subst hrm
   obtain⟨c1,c2⟩:=ER hf (x:=⟨a.n,x⟩) hvr hp
   obtain⟨o,ho,hm⟩:=ih (i+1) b f' (by omega) (by omega) hb c1 (by omega) (by omega)
   refine⟨o,by simp[h1,h2,h3,AE,BP,AH];exact_mod_cast ho,by simpa[h1,h2,h3]using hm⟩
  obtain⟨o,ho,hm⟩:=ih (i+1) b f (by omega) (by omega) hb hf (by omega) (by omega)
  refine⟨o,by simp[h1,h2,h3,AE,BP];exact_mod_cast ho,by simpa[h1,h2,h3]using hm⟩
def aDy(a b:List X2):Bool:=a.all fun s=> !(B4 b s.var).2||decide ((B4 b s.var).1=s.value)
theorem aPr(a b:List X2)(ha:a.length<=9223372036854775807)(hb:b.length<=9223372036854775807):Z7 a b=some (aDy a b):=by
 unfold Z7 aH2;rw[Bm a (fun s=> !(B4 b s.var).2||decide ((B4 b s.var).1=s.value)) (.inl ():Unit⊕Unit) (.inr ())
  (fun i x hx=>by simp only[JL,ltD hx,AG,AK hx,Af hx ha,aBd b _ hb,AD,X0.eqb_dec];obtain⟨y,o⟩:=B4 b x.var;cases o;simp[AE];by_cases h:y=x.value<;>simp[AE,h])
  (by simp only[JL,ltI,AF]),AD]
 unfold aDy;cases a.all _<;>rfl
theorem Fu(x:X2)(v:Int):B4 [x] v=if x.var=v then(x.value,true)else(zV,false):=by unfold B4;by_cases h:x.var=v<;>simp[h]
def Dp(a b:List X2)(v:Nat):Option X2:=
 if(B4 a v).2=true then some ⟨v,(B4 a v).1⟩else if(B4 b v).2=true then some ⟨v,(B4 b v).1⟩else none
def H4(a b:List X2):List X2:=(List.range 8).filterMap (Dp a b)
theorem aOr(a b:List X2)(ha:a.length<=9223372036854775807)(hb:b.length<=9223372036854775807):Y2 a b=some (H4 a b):=by
 unfold Y2 aG9;have hg:∀(l:List X2) (v:Int),l.length<=9223372036854775807->Ye l v=some (B4 l v):=fun l v hl=>aBd l v hl;have h:=Dl (step:=fun s:Int×List X2=>Ge a b s.1 s.2) (List.range 8) (fun w v=>w++(Dp a b v).toList) (fun w=>w) (fun i w=>w.length<=i)
  (fun i x w hx hI=>by
   have hi:i<8:=by simpa using At hx
   have hxi:x=i:=by rw[List.getElem?_range hi]at hx;cases hx;rfl
   subst hxi;have hd:decide ((x:Int)<8)=true:=by simp;omega
   refine⟨?_,?_⟩;simp only[Ge,hd,AG,aAj,hg a _ ha,hg b _ hb,AD,aAl,aAn,J0 (show x<9223372036854775807 by omega),Dp];rw[DO (by simp;omega) (by decide),DO (by simp;omega) (by decide)];cases(B4 a (x:Int)).2<;>cases(B4 b (x:Int)).2<;>simp[AE,AH];unfold Dp;split;simpa using hI;split;simpa using hI;simp;omega)
  (fun w _=>by simp[Ge,AE]) [] (by simp)
 rw[h,AD];congr 1;unfold H4;have key:∀(l:List Nat) (w:List X2),l.foldl (fun w v=>w++(Dp a b v).toList) w=w++l.filterMap (Dp a b):=by
  intro l;induction l with
  |nil=>intro w;simp
  |cons v l ih=>intro w;rw[List.foldl_cons,ih,List.filterMap_cons];cases Dp a b v<;>simp
 rw[key];simp
theorem FV{a b:List X2}{v:Nat}{s:X2}(h:Dp a b v=some s):s.var=(v:Int):=by unfold Dp at h;split at h;cases h;rfl;split at h;cases h;rfl;cases h
theorem J3(a b:List X2):(H4 a b).Pairwise (fun x y=>x.var<y.var):=by
 unfold H4;have h8:(List.range 8).Pairwise (· < ·):=List.pairwise_lt_range
 rw[List.pairwise_filterMap];refine h8.imp fun{v w} hvw s hs t ht=>?_;have:=FV hs;have:=FV ht;omega
theorem PG{a b:List X2}{s:X2}:s∈H4 a b↔0<=s.var/\s.var<=7/\(B4 a s.var=(s.value,true)\/(B4 a s.var).2=false/\B4 b s.var=(s.value,true)):=by
 unfold H4;rw[List.mem_filterMap];constructor;rintro⟨v,hv,h⟩;have hv8:v<8:=by simpa using hv
 have hsv:=FV h;refine⟨by omega,by omega,?_⟩;rw[hsv];unfold Dp at h;split at h;rename_i ha;cases h;left;simp only;rw[<-ha];rename_i ha;split at h;rename_i hb;cases h;right;exact⟨by simpa using ha,by simp only;rw[<-hb]⟩;cases h;rintro⟨h0,h7,h⟩;refine⟨s.var.toNat,by simp;omega,?_⟩;have e:((s.var.toNat:Nat):Int)=s.var:=by omega
 unfold Dp;rw[e];rcases h with h|⟨h,h'⟩
 rw[h];simp;rw[h,h'];simp
theorem aDz{b:List X2}{x:X2}(hb:SV b):aDy b [x]=(IL b x).isSome:=by
 unfold aDy IL;cases hg:(B4 b x.var).2 with
 |true=>
  have hm:=Cw (l:=b) (v:=x.var) (x:=(B4 b x.var).1) (by rw[<-hg])
  by_cases hv:(B4 b x.var).1=x.value
  simp only[if_true,hv,Option.isSome_some]
  rw[List.all_eq_true]
  intro s hs
  rw[Fu]
  by_cases h:x.var=s.var
  have:=Ci hb.1 hs
  rw[<-h]at this
  rw[this]at hv
  simp[h,<-hv]
  simp[h]
  simp only[if_true,hv,if_false,Option.isSome_none]
  rw[List.all_eq_false]
  refine⟨_,hm,?_⟩
  rw[Fu]
  simp
  exact fun h=>hv h.symm
 |false=>
  simp only[Bool.false_eq_true,if_false,Option.isSome_some]
  rw[List.all_eq_true]
  intro s hs
  rw[Fu]
  have:=EZ hg s hs
  have h':¬x.var=s.var:=fun h=>this h.symm
  simp[h']
theorem WF{b w:List X2}{x:X2}(hb:SV b)(h7:B7 b)(hx:0<=x.var/\x.var<=7)(h:IL b x=some w):H4 b [x]=w:=by
 have hw:=ER hb (x:=x) ⟨hx.1,by omega⟩ h;refine FU (J3 _ _) hw.1.1 fun s=>?_;rw[PG,Fu];unfold IL at h;split at h;rename_i hg;split at h;rename_i hv;cases h;constructor;rintro⟨_,_,h1|⟨h1,h2⟩⟩;exact Cw h1;split at h2;rename_i e;rw[e]at hg;rw[h1]at hg;cases hg;simp at h2;intro hs;exact⟨(hb.2 s hs).1,h7 s hs,.inl (Ci hb.1 hs)⟩;cases h;rename_i hg;have hg':(B4 b x.var).2=false:=by simpa using hg
 cases h;rw[Cx];constructor;rintro⟨_,_,h1|⟨h1,h2⟩⟩;exact .inr (Cw h1);split at h2;rename_i e;left;obtain⟨a,c⟩:=s;obtain⟨a',c'⟩:=x;simp only at e h2;subst e;simp at h2;rw[h2];simp at h2;rintro(rfl|hs);exact⟨hx.1,hx.2,.inr ⟨hg',by simp⟩⟩;exact⟨(hb.2 s hs).1,h7 s hs,.inl (Ci hb.1 hs)⟩
theorem aPl{w:List X2}{x:X2}(hw:SV w)(hn:∀s∈w,s.var≠x.var)(hl:w.length<=1000):Z3 w x=some (K4 w x):=by
 unfold Z3 aH0;obtain⟨t,ht,k,hk,rfl,p1,p2⟩:=Am (step:=fun s=>G1 w x s) (fun s=>∃i:Nat,s=(i:Int)/\i<=w.length/\∀j s,w[j]? =some s->i<=j->x.var<s.var) (fun s=>s.toNat)
  (fun t=>∃k:Nat,k<=w.length/\t=(k:Int)/\(∀j s,w[j]? =some s->j<k->s.var<x.var)/\∀j s,w[j]? =some s->k<=j->x.var<s.var)
  (by
   rintro s ⟨i,rfl,hi,hj⟩;cases i with
   |zero=>exact .inl ⟨0,by simp[G1,AE],0,by omega,rfl,fun j s _ h=>by omega,hj⟩
   |succ i=>
    obtain⟨y,hy,_⟩:=AP (l:=w) (i:=i) (by omega)
    have e:AB .sub .i64 ((i+1:Nat):Int) 1=(i:Int):=by rw[aGb (by omega) (by omega)];omega
    have hd:decide ((0:Int)<((i+1:Nat):Int))=true:=by simp
    simp only[G1,hd,AG,e,AK hy]
    by_cases h:x.var<y.var
    refine .inr ⟨_,by simp only[h,decide_true,AG],⟨i,rfl,by omega,fun j s hs hij=>?_⟩,by omega⟩
    rcases Nat.eq_or_lt_of_le hij with g|g
    subst g;rw[hy]at hs;cases hs;exact h
    exact hj j s hs g
    refine .inl ⟨_,by simp only[h,decide_false,AF],i+1,hi,rfl,fun j s hs hij=>?_,hj⟩
    have hyx:y.var<x.var:=by have:=hn y (List.mem_of_getElem? hy);omega
    rcases Nat.lt_or_ge j i with g|g
    obtain⟨a1,rfl⟩:=List.getElem?_eq_some_iff.1 hs
    obtain⟨a2,rfl⟩:=List.getElem?_eq_some_iff.1 hy
    have:=List.pairwise_iff_getElem.1 hw.1 j i a1 a2 g;omega
    have:j=i:=by omega
    subst this;rw[hy]at hs;cases hs;exact hyx)
  (w.length:Int) ⟨w.length,rfl,Nat.le_refl _,fun j s hs hij=>by have:=At hs;omega⟩
 rw[ht,AD];have es:sub w 0 (k:Int)=w.take k:=by rw[show(0:Int)=((0:Nat):Int)from rfl,aJi];rfl
 rw[es,aJh,An (by omega),DO (by simp;omega) (by decide),DO (by simp;omega) (by decide),An (by omega),DO (by simp;omega) (by decide)];rw[List.nil_append,VH hw.1 hn hk p1 p2]
theorem aD3{al:List BJ}{e:X3}{sy:X8}{s1 w6:Int}{w9:AL}(hsy:sy.args=al)(hlen:al.length=e.args.length)(h12:al.length<=12)(hA:∀a∈al,aJq a):∀(n i:Nat) (b f:List X2),al.length-i=n->i<=al.length->SV b->SV f->B7 b->b.length<=i->f.length<=i->
 OS s1 e w6 sy w9 b f (i:Int)=some (match D1 (al.drop i) (e.args.drop i) b f with|none=>.inr ()|some p=>.inl p):=by
 subst hsy
 intro n
 induction n with
 |zero=>
  intro i b f hn hi _ _ _ _ _
  have:i=sy.args.length:=by omega
  subst this
  rw[M4]
  simp only[GX,ltI,AF,CE]
  rw[List.drop_length];simp[D1]
 |succ n ih=>
  intro i b f hn hi hb hf h7 hbl hfl
  obtain⟨a,ha,hda⟩:=AP (l:=sy.args) (i:=i) (by omega)
  obtain⟨x,hx,hdx⟩:=AP (l:=e.args) (i:=i) (by omega)
  have hAa:=hA a (List.mem_of_getElem? ha)
  rw[M4,hda,hdx]
  simp only[GX,ltD ha,AG,YW,AK ha,AK hx,Af ha (show sy.args.length<=9223372036854775807 by omega),X0.eqb_dec,Rm,Rn,Ro]
  simp only[D1]
  by_cases h1:a.kind=1
  have h2:¬a.kind=2:=by omega
  have h3:¬a.kind=3:=by omega
  by_cases hv:a.value=x
  have ho:=ih (i+1) b f (by omega) (by omega) hb hf h7 (by omega) (by omega)
  simp[h1,hv,AE,BP,AH,Ax];exact_mod_cast ho
  simp[h1,hv,AE,BP,AH,Ax]
  by_cases h2:a.kind=2
  have h3:¬a.kind=3:=by omega
  have hvr:=hAa.1 h2
  rw[aPr _ _ (by omega) (by simp),aDz (x:=⟨a.n,x⟩) hb,aOr _ _ (by omega) (by simp)]
  cases hp:IL b ⟨a.n,x⟩with
  |none=>simp[h1,h2,AE,BP,AH,Ax]
  |some b'=>
   obtain⟨c1,c2⟩:=ER hb (x:=⟨a.n,x⟩) ⟨hvr.1,by simp only;omega⟩ hp
   rw[WF hb h7 (x:=⟨a.n,x⟩) hvr hp]
   have ho:=ih (i+1) b' f (by omega) (by omega) c1 hf (aF7 h7 (by simp only;omega) hp) (by omega) (by omega)
   simp[h1,h2,h3,AE,BP,AH,Ax];exact_mod_cast ho
  by_cases h3:a.kind=3
  have hvr:=hAa.2 h3
  rw[aBd f _ (by omega)]
  unfold IL
  simp only
  cases hg:(B4 f a.n).2 with
  |true=>
   by_cases hv:(B4 f a.n).1=x
   have ho:=ih (i+1) b f (by omega) (by omega) hb hf h7 (by omega) (by omega)
   simp[h1,h2,h3,hg,hv,AE,BP,AH,Ax];exact_mod_cast ho
   simp[h1,h2,h3,hg,hv,AE,BP,AH,Ax]
  |false=>
   have hp:IL f ⟨a.n,x⟩=some (K4 f ⟨a.n,x⟩):=by unfold IL;simp[hg]
   obtain⟨c1,c2⟩:=ER hf (x:=⟨a.n,x⟩) hvr hp
   have ho:=ih (i+1) b (K4 f ⟨a.n,x⟩) (by omega) (by omega) hb c1 h7 (by omega) (by omega)
   have hput:=aPl (w:=f) (x:=⟨a.n,x⟩) hf (EZ hg) (by omega)
   simp[h1,h2,h3,hg,AE,BP,AH,Ax,aL1,hput];exact_mod_cast ho
  have ho:=ih (i+1) b f (by omega) (by omega) hb hf h7 (by omega) (by omega)
  simp[h1,h2,h3,AE,BP,AH,Ax];exact_mod_cast ho
def DV(q:AA)(i:Nat)(e:X3):Option AL:=match q.symbols[i]? with
 |none=>none
 |some s=>match q.decls[s.event.toNat]? with
  |none=>none
  |some d=>if d.name=e.name/\s.args.length=e.args.length then(D1 s.args e.args [] []).map fun p=>⟨i,p.1,p.2⟩else none
def EC(q:AA)(e:X3):List AL:=if eR q.decls e=true then(List.range q.symbols.length).filterMap fun i=>DV q i e else []
theorem IS:SV []:=⟨List.Pairwise.nil,by simp⟩
theorem aMp{q:AA}(hF:CS q)(hR:Ad q){s:X8}(hs:s∈q.symbols):∀a∈s.args,aJq a:=fun a ha=>by have:=(hR.symbols s hs).args a ha;have h8:=hR.quants;have hf:=hF.frees;exact⟨fun h=>by have:=this.two h;omega,fun h=>by have:=this.three h;omega⟩
def PR(o:Option AL):AL×Bool:=match o with
 |some h=>(h,true)
 |none=>(⟨0,[],[]⟩,false)
theorem aDq{q:AA}(hR:Ad q){e:X3}(he:eR q.decls e=true){s:X8}(hs:s∈q.symbols){d:X7}(hd:q.decls[s.event.toNat]? =some d)(hn:d.name=e.name):s.args.length=e.args.length:=by obtain⟨d',hd',hl⟩:=(hR.symbols s hs).decl;rw[hd]at hd';cases hd';have hf:=hR.decls _ d hd;rw[hn]at hf;unfold eR at he;rw[hf]at he;simp only[hd]at he;unfold IF at he;simp at he;omega
theorem aM7{q:AA}(hF:CS q)(hR:Ad q){e:X3}(he:eR q.decls e=true){i:Nat}(hi:i<q.symbols.length):Qi q i e=some (PR (DV q i e)):=by
 obtain⟨s,hs,_⟩:=AP hi;have hsm:=List.mem_of_getElem? hs;have hso:=hR.symbols s hsm;obtain⟨d,hd,hdl⟩:=hso.decl;unfold Qi DV;rw[AK hs,CO hd hso.event,hs];simp only[hd];by_cases hn:d.name=e.name;have hlen:=aDq hR he hsm hd hn;have h12:=hF.args s hsm;obtain⟨o,ho,hm⟩:=aDw hlen h12 (aMp hF hR hsm) _ 0 [] [] rfl (by omega) IS IS (by simp) (by simp);unfold Yv;rw[show(0:Int)=((0:Nat):Int)from rfl,ho];simp only[List.drop_zero]at hm;simp only[hn,hlen,and_self,if_true,decide_true,Bool.not_true,AF,AD];cases hfit:D1 s.args e.args [] []with
 |none=>
  rw[hfit]at hm
  obtain⟨z,rfl⟩:=hm
  simp[Ax,AH,AE,PR]
 |some p=>
  rw[hfit]at hm
  simp only at hm
  subst hm
  simp[Ax,AH,AE,PR]
 simp[hn,AE,PR]
theorem aOd{q:AA}(hF:CS q)(hR:Ad q){e:X3}{i:Nat}(hi:i<q.symbols.length):Xo q i e=some (PR (DV q i e)):=by
 obtain⟨s,hs,_⟩:=AP hi;have hsm:=List.mem_of_getElem? hs;have hso:=hR.symbols s hsm;obtain⟨d,hd,hdl⟩:=hso.decl;unfold Xo DV;rw[AK hs,CO hd hso.event,hs,MH];simp only[hd];by_cases hn:d.name=e.name;by_cases hlen:s.args.length=e.args.length;have h12:=hF.args s hsm;have ho:=aD3 (sy:=s) (s1:=(i:Int)) (w6:=0) (w9:=⟨0,[],[]⟩) rfl hlen h12 (aMp hF hR hsm) _ 0 [] [] rfl (by omega) IS IS (fun s hs=>by simp at hs) (by simp) (by simp);rw[show(0:Int)=((0:Nat):Int)from rfl]at ho⊢;simp only[List.drop_zero]at ho;simp only[hn,hlen,and_self,if_true,decide_true,Bool.not_true,AF];rw[show OS (i:Int) e ((0:Nat):Int) s (AL.mk ((0:Nat):Int) [] []) [] [] ((0:Nat):Int)=_ from ho,AD];cases D1 s.args e.args [] []with
 |none=>simp[Ax,PR]
 |some p=>simp[Ax,PR]
 simp[hn,hlen,AE,PR];simp[hn,AE,PR]
theorem IH{α β:Type}(g:α->Option β):∀(l:List α) (w:List β),l.foldl (fun w v=>w++(g v).toList) w=w++l.filterMap g:=by
 intro l;induction l with
 |nil=>intro w;simp
 |cons v l ih=>intro w;rw[List.foldl_cons,ih,List.filterMap_cons];cases g v<;>simp
theorem Vy{n i x:Nat}(h:(List.range n)[i]? =some x):x=i/\i<n:=by
 have hi:i<n:=by simpa using At h
 rw[List.getElem?_range hi]at h;cases h;exact⟨rfl,hi⟩
def Jj{φ:Type}(step:φ->AL->Option (φ×Bool)):List AL->φ->Option φ
 |[],f=>some f
 |h::hs,f=>match step f h with
  |some (f',true)=>Jj step hs f'
  |some (f',false)=>some f'
  |none=>none
theorem aNb{q:AA}(hF:CS q)(hR:Ad q){e:X3}(h12:e.args.length<=12){φ:Type}(step:φ->AL->Option (φ×Bool))(f0:φ):Yl step q e f0=Jj step (EC q e) f0:=by
 have hd:=hF.decls;have hs:=hF.symbols;unfold Yl EC;rw[aM5 _ _ (by omega) (by omega),AD];cases he:eR q.decls e with
 |false=>simp[AE,Jj]
 |true=>
  simp only[Bool.not_true,AF,if_true]
  have key:∀(n i:Nat) (f:φ),q.symbols.length-i=n->i<=q.symbols.length->(AH (TJ step q e (q.symbols.length:Int) f (i:Int)) fun o5=>Ax o5 (fun o6=>some o6) (fun o7=>some o7))=Jj step ((List.range' i n).filterMap fun i=>DV q i e) f:=by
   intro n;induction n with
   |zero=>
    intro i f hn hi
    have:i=q.symbols.length:=by omega
    subst this
    rw[NK]
    simp[Gq,AE,BP,AH,Ax,Jj]
   |succ n ih=>
    intro i f hn hi
    have hlt:decide ((i:Int)<(q.symbols.length:Int))=true:=by simp;omega
    rw[NK]
    simp only[Gq,hlt,AG,aM7 hF hR he (show i<q.symbols.length by omega),AD,J0 (show i<9223372036854775807 by omega)]
    rw[List.range'_succ,List.filterMap_cons]
    cases hh:DV q i e with
    |none=>
     simp only[PR,AF,Co]
     exact ih (i+1) f (by omega) (by omega)
    |some h=>
     simp only[PR,AG,Jj]
     rcases hst:step f h with _|⟨f',_|_⟩
     simp[WQ,BP,AH]
     simp[WQ,BP,AH,Ax]
     simp only[WQ,Co]
     exact ih (i+1) f' (by omega) (by omega)
  rw[List.range_eq_range']
  exact key q.symbols.length 0 f0 (by omega) (by omega)
theorem VU{q:AA}(hF:CS q)(hR:Ad q){e:X3}{h:AL}(hh:h∈EC q e):SV h.bind/\B7 h.bind/\h.bind.length<=12/\h.frees.length<=12/\SV h.frees:=by unfold EC at hh;split at hh;obtain⟨i,_,hi⟩:=List.mem_filterMap.1 hh;unfold DV at hi;split at hi;cases hi;rename_i s hs;have hsm:=List.mem_of_getElem? hs;split at hi;cases hi;split at hi;simp only[om]at hi;obtain⟨p,hp,rfl⟩:=hi;have h12:=hF.args s hsm;obtain⟨a1,a2,a3,a4,a5⟩:=FI _ _ _ _ _ (aMp hF hR hsm) IS IS (fun s hs=>by simp at hs) hp;simp only[List.length_nil]at a4 a5;exact⟨a1,a3,by simp only;omega,by simp only;omega,a2⟩;cases hi;simp at hh
theorem aFm:∀x:List UInt8,Op.bytesLess x x=false
 |[]=>rfl
 |a::x=>by simp[Op.bytesLess,aFm x]
theorem NS:∀{x y z:List UInt8},Op.bytesLess x y=true->Op.bytesLess y z=true->Op.bytesLess x z=true
 |[],[],_,h,_=>by simp[Op.bytesLess]at h
 |_::_,[],_,h,_=>by simp[Op.bytesLess]at h
 |[],_::_,[],_,h=>by simp[Op.bytesLess]at h
 |[],_::_,_::_,_,_=>rfl
 |_::_,_::_,[],_,h=>by simp[Op.bytesLess]at h
 |a::x,b::y,c::z,h1,h2=>by
  simp only[Op.bytesLess,Bool.or_eq_true,ba,decide_eq_true_eq,beq_iff_eq]at h1 h2⊢;rcases h1 with h1|⟨rfl,h1⟩
  rcases h2 with h2|⟨rfl,h2⟩
  exact .inl (UInt8.lt_trans h1 h2);exact .inl h1;rcases h2 with h2|⟨rfl,h2⟩
  exact .inl h2;exact .inr ⟨rfl,NS h1 h2⟩
theorem aFn:∀{x y:List UInt8},x≠y->Op.bytesLess x y=true\/Op.bytesLess y x=true
 |[],[],h=>absurd rfl h
 |_::_,[],_=>.inr rfl
 |[],_::_,_=>.inl rfl
 |a::x,b::y,h=>by
  simp only[Op.bytesLess,Bool.or_eq_true,ba,decide_eq_true_eq,beq_iff_eq];by_cases hab:a=b;subst hab;rcases aFn (x:=x) (y:=y) (fun e=>h (by rw[e]))with g|g
  exact .inl (.inr ⟨rfl,g⟩);exact .inr (.inr ⟨rfl,g⟩);have:a<b\/b<a:=by rw[UInt8.lt_iff_toNat_lt,UInt8.lt_iff_toNat_lt];have:a.toNat≠b.toNat:=fun e=>hab (UInt8.toNat_inj.1 e);omega
  rcases this with g|g
  exact .inl (.inl g);exact .inr (.inl g)
theorem Uz:∀(x y:List UInt8),(match ((x.zip y).findSome? fun z=>if z.1=z.2 then none else some (Sum.inr (decide (z.1<z.2)):Unit⊕Bool)).getD (.inl ())with| .inl _=>decide (x.length<y.length)| .inr b=>b)=Op.bytesLess x y
 |[],[]=>rfl
 |_::_,[]=>rfl
 |[],_::_=>by simp[Op.bytesLess]
 |a::x,b::y=>by
  rw[List.zip_cons_cons,List.findSome?_cons];by_cases h:a=b;subst h;simp only[if_true,Op.bytesLess,beq_self_eq_true,Bool.true_and,<-Uz x y];have:decide (a<a)=false:=by simp
  rw[this,Bool.false_or];simp only[List.length_cons,Nat.add_lt_add_iff_right];simp[h,Op.bytesLess]
theorem aPe(x y:List UInt8)(hx:x.length<=9223372036854775807)(hy:y.length<=9223372036854775807):Yr x y=some (Op.bytesLess x y):=by
 unfold Yr aB6;have hz:(x.zip y).length=min x.length y.length:=by simp
 rw[Cl (x.zip y) (fun _ z=>if z.1=z.2 then none else some (Sum.inr (decide (z.1<z.2)):Unit⊕Bool)) (.inl ())
  (fun i z h=>by obtain⟨h1,h2⟩:=Ma h;simp only[E6,ltD h1,ltD h2,AG,AK h1,AK h2,Af h1 hx];by_cases e:z.1=z.2;simp[e,AE];have:¬(z.1.toNat:Int)=(z.2.toNat:Int):=fun g=>e (UInt8.toNat_inj.1 (by omega));have:(decide ((z.1.toNat:Int)<(z.2.toNat:Int)))=decide (z.1<z.2):=decide_eq_decide.2 (by rw[UInt8.lt_iff_toNat_lt];omega);rw[this,if_neg e];simp[*,AE])
  (by
   rw[hz];rcases Nat.le_total x.length y.length with h|h
   rw[Nat.min_eq_left h];simp only[E6,ltI,AF];rw[Nat.min_eq_right h];simp only[E6,ltI,AF];cases decide ((y.length:Int)<(x.length:Int))<;>rfl),AD,B6,<-Uz]
 cases((x.zip y).findSome? fun z=>if z.1=z.2 then none else some (Sum.inr (decide (z.1<z.2)):Unit⊕Bool)).getD (.inl ())<;>simp[Ax]
def ltV(a b:X0):Bool:=if a.kind=b.kind then(if a.kind=1 then decide (a.int<b.int)else if a.kind=2 then Op.bytesLess a.str b.str else !a.bool&&b.bool)else decide (a.kind<b.kind)
theorem aQb(a b:X0)(ha:a.str.length<=9223372036854775807)(hb:b.str.length<=9223372036854775807):Zq a b=some (ltV a b):=by unfold Zq ltV;rw[aPe _ _ ha hb];by_cases h:a.kind=b.kind<;>by_cases h1:a.kind=1<;>by_cases h2:a.kind=2<;>cases ha:a.bool<;>simp_all [AE,AH]
theorem MJ(a:X0):ltV a a=false:=by unfold ltV;rw[if_pos rfl];split;simp;split;exact aFm _;cases a.bool<;>rfl
theorem He{a b c:X0}(h1:ltV a b=true)(h2:ltV b c=true):ltV a c=true:=by unfold ltV at*;by_cases e1:a.kind=b.kind;by_cases e2:b.kind=c.kind;rw[if_pos e1]at h1;rw[if_pos e2]at h2;rw[if_pos (e1.trans e2)];rw[e1]at h1⊢;split;rename_i h;rw[if_pos h]at h1 h2;simp at h1 h2⊢;omega;rename_i h;rw[if_neg h]at h1 h2;split;rename_i h;rw[if_pos h]at h1 h2;exact NS h1 h2;rename_i h;rw[if_neg h]at h1 h2;simp at h1 h2⊢;exact⟨h1.1,h2.2⟩;rw[if_neg e2]at h2;rw[e1,if_neg e2];exact h2;rw[if_neg e1]at h1;by_cases e2:b.kind=c.kind;rw[<-e2,if_neg e1];exact h1;rw[if_neg e2]at h2;simp only[decide_eq_true_eq]at h1 h2;rw[if_neg (by omega)];simp;omega
theorem Eq{v:X0}(h:vR v=true):(v.kind=1/\v.str=[]/\v.bool=false)\/(v.kind=2/\v.int=0/\v.bool=false/\v.str.length<=4096)\/(v.kind=3/\v.int=0/\v.str=[]):=by unfold vR at h;split at h;left;simp at h;exact⟨by assumption,h.1,h.2⟩;split at h;right;left;simp at h;exact⟨by assumption,h.1.1,h.1.2,h.2⟩;split at h;right;right;simp at h;exact⟨by assumption,h.1,h.2⟩;cases h
theorem Vj{a b:X0}(ha:vR a=true)(hb:vR b=true)(h:a≠b):ltV a b=true\/ltV b a=true:=by
 unfold ltV;by_cases e:a.kind=b.kind;rw[if_pos e,if_pos e.symm,<-e];obtain⟨k,n,s,t⟩:=a;obtain⟨k',n',s',t'⟩:=b;simp only at e;subst e;rcases Eq ha with⟨rfl,h2,h3⟩|⟨rfl,h2,h3,h4⟩|⟨rfl,h2,h3⟩<;>rcases Eq hb with⟨g1,g2,g3⟩|⟨g1,g2,g3,g4⟩|⟨g1,g2,g3⟩<;>simp only[Int.reduceEq]at g1 h2 h3 g2 g3<;>subst_vars
 simp at h⊢;omega;simp at h⊢;exact aFn h;simp at h⊢;cases t<;>cases t'<;>simp_all;rw[if_neg e,if_neg (Ne.symm e)];simp;omega
theorem N4{w w':List X2}{x s:X2}(h:IL w x=some w')(hs:s∈w'):s=x\/s∈w:=by unfold IL at h;split at h;split at h;cases h;exact .inr hs;cases h;cases h;exact(Cx w x s).1 hs
theorem Ng:∀(al:List BJ) (xs:List X0) (b f:List X2) (p:List X2×List X2),D1 al xs b f=some p->∀s∈p.1,s∈b\/s.value∈xs
 |[],xs,b,f,p,h=>by simp only[D1]at h;cases h;exact fun s hs=>.inl hs
 |a::al,[],b,f,p,h=>by simp only[D1]at h;cases h;exact fun s hs=>.inl hs
 |a::al,x::xs,b,f,p,h=>by
  simp only[D1]at h;have go:∀b f,D1 al xs b f=some p->∀s∈p.1,s∈b\/s.value∈x::xs:=fun b f h s hs=>(Ng al xs b f p h s hs).imp id (List.mem_cons_of_mem _);split at h;split at h;exact go b f h;cases h;split at h;split at h;cases h;rename_i b' hp;intro s hs;rcases go b' f h s hs with g|g
  rcases N4 hp g with rfl|g
  exact .inr (by simp);exact .inl g;exact .inr g;split at h;split at h;cases h;rename_i f' hp;exact go b f' h;exact go b f h
theorem Ip{q:AA}{e:X3}{i:Nat}{h:AL}(hi:DV q i e=some h):h.symbol=i/\∀s∈h.bind,s.value∈e.args:=by unfold DV at hi;split at hi;cases hi;split at hi;cases hi;split at hi;simp only[om]at hi;obtain⟨p,hp,rfl⟩:=hi;exact⟨rfl,fun s hs=>(Ng _ _ _ _ _ hp s hs).resolve_left (by simp)⟩;cases hi
theorem aD4(q:AA)(e:X3)(hF:CS q):(EC q e).length<=1000:=by unfold EC;split;refine Nat.le_trans (List.length_filterMap_le _ _) ?_;rw[List.length_range];exact Nat.le_trans hF.symbols (by decide);simp
theorem aM9{q:AA}(hF:CS q)(hR:Ad q){e:X3}(h12:e.args.length<=12):Qj q e=some (EC q e):=by
 unfold Qj Ql;rw[AD];unfold U4 Xp;simp only;rw[aNb hF hR h12];have key:∀(hs w:List AL),w.length+hs.length<=1000->Jj (CQ (CU q e)) hs (.inl w)=some (.inl (w++hs)):=by
  intro hs;induction hs with
  |nil=>intro w _;simp[Jj]
  |cons h hs ih=>
   intro w hl
   rw[List.length_cons]at hl
   have e1:CQ (CU q e) (.inl w) h=some (.inl (w++[h]),true):=by simp only[CQ,CU,YZ,ZB,AD];rw[DO (by simp;omega) (by decide),AD]
   rw[Jj,e1]
   simp only
   rw[ih _ (by simp;omega)]
   simp
 rw[key _ _ (by have:=aD4 q e hF;simp;omega)];rfl
theorem O1{α:Type}{p:α->Bool}{w:List α}{k:Nat}(h1:∀(j:Nat) y,w[j]? =some y->j<k->p y=true)(h2:∀(j:Nat) y,w[j]? =some y->k<=j->p y=false):w.take k=w.filter p/\w.drop k=w.filter fun y=> !p y:=by
 have a:∀y∈w.take k,p y=true:=fun y hy=>by obtain⟨j,hj⟩:=List.mem_iff_getElem?.1 hy;rw[List.getElem?_take]at hj;split at hj;exact h1 j y hj (by assumption);cases hj
 have b:∀y∈w.drop k,p y=false:=fun y hy=>by obtain⟨j,hj⟩:=List.mem_iff_getElem?.1 hy;rw[List.getElem?_drop]at hj;exact h2 (k+j) y hj (by omega)
 have e:∀p:α->Bool,w.filter p=(w.take k).filter p++(w.drop k).filter p:=fun p=>by rw[<-List.filter_append,List.take_append_drop]
 constructor;rw[e,List.filter_eq_self.2 a,List.filter_eq_nil_iff.2 (fun y hy=>by simp[b y hy]),List.append_nil];rw[e,List.filter_eq_nil_iff.2 (fun y hy=>by simp[a y hy]),List.filter_eq_self.2 (fun y hy=>by simp[b y hy]),List.nil_append]
def SW(w:List X0):Prop:=w.Pairwise (fun a b=>ltV a b=true)/\∀v∈w,vR v=true
def Hl(w:List X0)(x:X0):List X0:=if x∈w then w else w.filter (fun y=>ltV y x)++x::w.filter fun y=> !ltV y x
theorem aGc{v:X0}(h:vR v=true):v.str.length<=9223372036854775807:=by
 rcases Eq h with⟨_,h2,_⟩|⟨_,_,_,h4⟩|⟨_,_,h3⟩
 rw[h2];decide;omega;rw[h3];decide
theorem aEb{a b:X0}(h1:ltV a b=true):ltV b a=false:=by
 cases h:ltV b a with
 |false=>rfl
 |true=>have:=He h1 h;rw[MJ]at this;cases this
theorem aNq{w:List X0}(hw:SW w){i j:Nat}{y z:X0}(hi:w[i]? =some y)(hj:w[j]? =some z)(h:i<j):ltV y z=true:=by obtain⟨a1,rfl⟩:=List.getElem?_eq_some_iff.1 hi;obtain⟨a2,rfl⟩:=List.getElem?_eq_some_iff.1 hj;exact List.pairwise_iff_getElem.1 hw.1 i j a1 a2 h
theorem KB{w:List X0}{x:X0}(hw:SW w)(hx:vR x=true):SW (Hl w x)/\(Hl w x).length=w.length+(if x∈w then 0 else 1):=by
 unfold Hl;split;exact⟨hw,by simp[*]⟩;rename_i hn;refine⟨⟨?_,fun b hb=>?_⟩,?_⟩;rw[List.pairwise_append,List.pairwise_cons];have hgt:∀y∈w.filter (fun y=> !ltV y x),ltV x y=true:=fun y hy=>by
  obtain⟨h1,h2⟩:=List.mem_filter.1 hy;rcases Vj (hw.2 y h1) hx (fun e=>hn (e▸h1))with g|g
  rw[g]at h2;cases h2;exact g
 refine⟨hw.1.filter _,⟨hgt,hw.1.filter _⟩,fun y hy z hz=>?_⟩;have hyx:=(List.mem_filter.1 hy).2;rcases mc.1 hz with rfl|hz
 exact hyx;exact He hyx (hgt z hz);rcases ma.1 hb with h|h
 exact hw.2 b (List.mem_filter.1 h).1;rcases mc.1 h with rfl|h
 exact hx;exact hw.2 b (List.mem_filter.1 h).1;have h1:∀w:List X0,(w.filter fun y=>ltV y x).length+(w.filter fun y=> !ltV y x).length=w.length:=by
  intro w;induction w with
  |nil=>rfl
  |cons y w ih=>rw[List.filter_cons,List.filter_cons];cases ltV y x<;>simp<;>omega
 have h1:=h1 w;rw[List.length_append,List.length_cons];omega
def AtW(w:List X0)(x:X0)(k:Nat):Prop:=k<=w.length/\(∀(j:Nat) y,w[j]? =some y->j<k->ltV y x=true)/\(∀(j:Nat) y,w[j]? =some y->k<=j->ltV y x=false)
theorem aLv{w:List X0}{x:X0}{k:Nat}(h:AtW w x k)(hn:x∉w):w.take k++[x]++w.drop k=Hl w x:=by obtain⟨c1,c2⟩:=O1 h.2.1 h.2.2;unfold Hl;rw[c1,c2,if_neg hn];simp
theorem aEv{α:Type}(w:List α)(k:Nat):sub w 0 (k:Int)=w.take k:=by simp[sub]
theorem aEu{α:Type}(w:List α)(k:Nat):sub w (k:Int) (w.length:Int)=w.drop k:=by simp[sub]
theorem aBp{w:List X0}{x:X0}(hw:SW w)(hx:vR x=true)(hl:w.length<=900):Yh w x=some (Hl w x):=by
 unfold Yh aHk;obtain⟨t,ht,k,hk,rfl,p1,p2⟩:=Am (step:=fun s=>Gn w x s) (fun s=>∃i:Nat,s=(i:Int)/\i<=w.length/\∀(j:Nat) s,w[j]? =some s->i<=j->ltV x s=true) (fun s=>s.toNat)
  (fun t=>∃k:Nat,k<=w.length/\t=(k:Int)/\(∀(j:Nat) s,w[j]? =some s->k=j+1->ltV x s=false)/\∀(j:Nat) s,w[j]? =some s->k<=j->ltV x s=true)
  (by
   rintro s ⟨i,rfl,hi,hj⟩;cases i with
   |zero=>exact .inl ⟨0,by simp[Gn,AE],0,by omega,rfl,fun j s _ h=>by omega,hj⟩
   |succ i=>
    obtain⟨y,hy,_⟩:=AP (l:=w) (i:=i) (by omega)
    have hyR:=hw.2 y (List.mem_of_getElem? hy)
    have e:AB .sub .i64 ((i+1:Nat):Int) 1=(i:Int):=by rw[aGb (by omega) (by omega)];omega
    have hd:decide ((0:Int)<((i+1:Nat):Int))=true:=by simp
    simp only[Gn,hd,AG,e,AK hy,aQb _ _ (aGc hx) (aGc hyR),AD]
    cases h:ltV x y with
    |true=>
     refine .inr ⟨_,by simp only[AG],⟨i,rfl,by omega,fun j s hs hij=>?_⟩,by omega⟩
     rcases Nat.eq_or_lt_of_le hij with g|g
     subst g;rw[hy]at hs;cases hs;exact h
     exact hj j s hs g
    |false=>
     refine .inl ⟨_,by simp only[AF],i+1,hi,rfl,fun j s hs hij=>?_,hj⟩
     have:j=i:=by omega
     subst this;rw[hy]at hs;cases hs;exact h)
  (w.length:Int) ⟨w.length,rfl,Nat.le_refl _,fun j s hs hij=>by have:=At hs;omega⟩
 rw[ht,AD];have hrest:(∀y,w[k-1]? =some y->0<k->y≠x)->(Ai ((0:Int)<=0/\(0:Int)<=(k:Int)/\(k:Int)<=(w.length:Int)) (
  Ai (fit ([]:List X0).length (sub w 0 (k:Int)).length 40) (
   Ai (fit (([]:List X0)++(sub w 0 (k:Int))).length [x].length 40) (
    Ai ((0:Int)<=(k:Int)/\((k:Int):Int)<=(w.length:Int)/\(w.length:Int)<=(w.length:Int)) (
     Ai (fit ((([]:List X0)++(sub w 0 (k:Int)))++[x]).length (sub w (k:Int) (w.length:Int)).length 40) (
      some (((([]:List X0)++(sub w 0 (k:Int)))++[x])++(sub w (k:Int) (w.length:Int)))))))):Option (List X0))=some (Hl w x):=by
  intro hne
  have hlt:∀(j:Nat) y,w[j]? =some y->j<k->ltV y x=true:=fun j y hy hj=>by
   obtain⟨z,hz,_⟩:=AP (l:=w) (i:=k-1) (by omega);have h1:=p1 (k-1) z hz (by omega);have h2:=hne z hz (by omega);have h3:ltV z x=true:=by
    rcases Vj (hw.2 z (List.mem_of_getElem? hz)) hx h2 with g|g
    exact g;rw[h1]at g;cases g
   rcases Nat.lt_or_ge j (k-1)with g|g
   exact He (aNq hw hy hz g) h3;have:j=k-1:=by omega
   subst this;rw[hz]at hy;cases hy;exact h3
  have hAt:AtW w x k:=⟨hk,hlt,fun j y hy hj=>aEb (p2 j y hy hj)⟩
  have hn:x∉w:=fun hm=>by
   obtain⟨j,hj⟩:=List.mem_iff_getElem?.1 hm;rcases Nat.lt_or_ge j k with g|g
   have:=hlt j x hj g;rw[MJ]at this;cases this;have:=p2 j x hj g;rw[MJ]at this;cases this
  rw[aEv,aEu,An (by omega),DO (by simp;omega) (by decide),DO (by simp;omega) (by decide),An (by omega),DO (by simp;omega) (by decide),List.nil_append,aLv hAt hn]
 rw[Cy];split;rename_i h0;obtain⟨y,hy,_⟩:=AP (l:=w) (i:=k-1) (by omega);have e:AB .sub .i64 (k:Int) 1=((k-1:Nat):Int):=by rw[aGb (by omega) (by omega)];omega
 rw[e,AK hy,X0.eqb_dec];by_cases hyx:y=x;subst hyx;have hm:=List.mem_of_getElem? hy;simp[AE,Hl,hm];simp only[hyx,decide_false,AF];exact hrest fun z hz _=>by rw[hy]at hz;cases hz;exact hyx
 exact hrest fun z hz h=>by omega
theorem aAb{q:AA}{e:X3}(hF:CS q)(hR:Ad q):Xy q e=some ((List.range q.symbols.length).filterMap fun i=>DV q i e):=by
 have hs:=hF.symbols;unfold Xy aG7;have h:=Dl (step:=fun s:Int×List AL=>Gc q e s.1 s.2) (List.range q.symbols.length) (fun w i=>w++(DV q i e).toList) (fun w=>w) (fun i w=>w.length<=i)
  (fun i x w hx hI=>by
   obtain⟨rfl,hi⟩:=Vy hx;have hlt:decide ((x:Int)<(q.symbols.length:Int))=true:=by simp;omega
   refine⟨?_,by cases DV q x e<;>simp<;>omega⟩;simp only[Gc,hlt,AG,ZX,aOd hF hR hi,AD,ZZ,J0 (show x<9223372036854775807 by omega)];rw[DO (by simp;omega) (by decide)];cases DV q x e<;>simp[PR,AE,AH])
  (fun w _=>by rw[List.length_range];simp only[Gc,ltI,AF]) [] (by simp)
 rw[h,AD,IH];simp
def BI(a b:List X2):Bool:=a.all fun s=>decide (B4 b s.var=(s.value,true))
theorem aPt(a b:List X2)(ha:a.length<=9223372036854775807)(hb:b.length<=9223372036854775807):Z8 a b=some (BI a b):=by
 unfold Z8 aH3;rw[Bm a (fun s=>decide (B4 b s.var=(s.value,true))) (.inl ()) (.inr ())
  (fun i x hx=>by simp only[JM,ltD hx,AG,AK hx,Af hx ha,aBd b _ hb,AD,X0.eqb_dec];obtain⟨y,o⟩:=B4 b x.var;cases o;simp[AE];by_cases h:y=x.value<;>simp[AE,h])
  (by simp only[JM,ltI,AF]),AD]
 unfold BI;cases a.all _<;>rfl
theorem aN6(a b:List X2)(ha:a.length<=9223372036854775807)(hb:b.length<=9223372036854775807):Xh a b=some (BI a b):=by
 unfold Xh U5;simp only[AD];unfold Yd aHg;have h:=DK (step:=fun s:(Bool⊕Bool)×Int=>Gj (CQ (CT a b)) b a (a.length:Int) s.1 s.2) a (fun i w=>(w,(i:Int)))
  (fun _ (w:Bool⊕Bool) x=>if B4 b x.var=(x.value,true)then .inl w else .inr (.inr (.inr false))) (fun w=>.inl w) (fun _ w=>w=.inl false) (fun i x w hx hI=>by subst hI;refine⟨?_,fun w' hw=>?_⟩;simp only[Gj,ltD hx,AG,aBa,AK hx,aPp b _ hb,AD,Af hx ha];obtain⟨y,o⟩:=B4 b x.var;cases o;simp[AE,WQ,CQ,CT,Ax,AH,XE,XI];by_cases h:y=x.value<;>simp[AE,WQ,CQ,CT,Ax,AH,XD,XH,X0.eqb_dec,h];split at hw;cases hw;rfl;cases hw)
  (fun w _=>by simp only[Gj,ltI,AF]) (a.length+1) 0 (.inl false) (by omega) (by omega) rfl
 rw[show((.inl false:Bool⊕Bool),(0:Int))=(.inl false,((0:Nat):Int))from rfl,h,List.drop_zero,AD];unfold BI;generalize 0=i;clear h ha;revert i;induction a with
 |nil=>intro i;rfl
 |cons x xs ih=>
  intro i
  rw[Ix,List.all_cons]
  by_cases h:B4 b x.var=(x.value,true)
  simp only[h,if_true,decide_true,Bool.true_and];exact ih (i+1)
  simp[h,Ax,AH]
theorem aHa{l:List AL}{b:List X2}(hl:l.length<=1000)(hs:∀h∈l,h.bind.length<=9223372036854775807)(hb:b.length<=9223372036854775807):Y4 l b=some (l.filter fun h=>BI h.bind b):=by
 unfold Y4 aHb;rw[Dl l (fun w x=>if(BI x.bind b)=true then w++[x]else w) (fun w=>w) (fun i w=>w.length<=i)
  (fun i x w hx hI=>by have:=At hx;refine⟨?_,?_⟩;rotate_left;split;simpa using hI;omega;simp only[JE,ltD hx,AG,aAs,AK hx,aPt _ _ (hs x (List.mem_of_getElem? hx)) hb,AD,aAu,Af hx (show l.length<=9223372036854775807 by omega)];rw[DO (by simp;omega) (by decide)];cases BI x.bind b<;>simp[AE,AH])
  (fun w _=>by simp only[JE,ltI,AF]) [] (by simp),Fc,AD]
 simp
def BR(b:List X2):Prop:=b.Pairwise (fun x y=>x.var<y.var)/\∀s∈b,0<=s.var/\s.var<=7/\vR s.value=true
theorem I1:∀(b:List X2) (lo:Int),b.Pairwise (fun x y=>x.var<y.var)->(∀s∈b,lo<=s.var/\s.var<=7)->b.length<=(8-lo).toNat
 |[],_,_,_=>by simp
 |x::b,lo,hp,h=>by
  rw[List.pairwise_cons]at hp;have h1:=I1 b (x.var+1) hp.2 fun s hs=>⟨by have:=hp.1 s hs;omega,(h s (List.mem_cons_of_mem _ hs)).2⟩;have h2:=h x (by simp);rw[List.length_cons];omega
theorem aJr{b:List X2}(h:BR b):b.length<=8:=by have:=I1 b 0 h.1 fun s hs=>⟨(h.2 s hs).1,(h.2 s hs).2.1⟩;omega
theorem aMz{l:List AL}{b:List X2}(hl:l.length<=1000)(hs:∀h∈l,h.bind.length<=9223372036854775807)(hb:b.length<=9223372036854775807):Qd l b=some (l.filter fun h=>BI h.bind b):=by
 unfold Qd Yg aHj;have h:=Dl (step:=fun s:Int×List AL×List AL=>Gm b l (l.length:Int) s.1 s.2.1 s.2.2) l (fun w e=>if BI e.bind b=true then(w.1++[e],w.2)else(w.1,w.2++[e])) (fun w=>w) (fun i w=>w.1.length<=i/\w.2.length<=i)
  (fun i x w hx hI=>by have hi:=At hx;refine⟨?_,by split<;>simp<;>omega⟩;simp only[Gm,ltD hx,AG,aBk,AK hx,U6,aN6 _ _ (hs x (List.mem_of_getElem? hx)) hb,AD,aBm,Af hx (show l.length<=9223372036854775807 by omega)];rw[DO (by simp;omega) (by decide),DO (by simp;omega) (by decide)];cases BI x.bind b<;>simp[AE,AH])
  (fun w _=>by simp only[Gm,ltI,AF]) (([]:List AL),([]:List AL)) (by simp)
 rw[h,AD,AD];congr 1;have key:∀(l:List AL) (w:List AL×List AL),(l.foldl (fun w e=>if BI e.bind b=true then(w.1++[e],w.2)else(w.1,w.2++[e])) w).1=w.1++l.filter fun h=>BI h.bind b:=by
  intro l;induction l with
  |nil=>intro w;simp
  |cons e l ih=>intro w;rw[List.foldl_cons,ih,List.filter_cons];cases BI e.bind b<;>simp
 simp only[key];simp
theorem Fr(n:Nat)(h:n<4294967296):(BitVec.ofInt 32 (n:Int)).toNat=n:=by simp[BitVec.toNat_ofInt];omega
theorem FW{n:Nat}(h:n<4294967296):IntKind.wrap .u32 (n:Int)=n:=by simp[IntKind.wrap,IntKind.signed,IntKind.bits];omega
theorem Km{n m:Nat}(hn:n<4294967296)(hm:m<4294967296):AB .or .u32 (n:Int) (m:Int)=((n|||m:Nat):Int):=by have h:n|||m<2^32:=Nat.or_lt_two_pow (by simpa using hn) (by simpa using hm);show IntKind.wrap .u32 (((BitVec.ofInt 32 (n:Int))|||(BitVec.ofInt 32 (m:Int))).toNat:Int)=_;rw[BitVec.toNat_or,Fr n hn,Fr m hm];exact FW (by simpa using h)
theorem aFi{n m:Nat}(hn:n<4294967296)(hm:m<4294967296):AB .and .u32 (n:Int) (m:Int)=((n&&&m:Nat):Int):=by have h:n&&&m<2^32:=Nat.and_lt_two_pow _ (by simpa using hm);show IntKind.wrap .u32 (((BitVec.ofInt 32 (n:Int))&&&(BitVec.ofInt 32 (m:Int))).toNat:Int)=_;rw[BitVec.toNat_and,Fr n hn,Fr m hm];exact FW (by simpa using h)
theorem Ku{s:Nat}(h:s<32):AB .shl .u32 1 (s:Int)=((2^s:Nat):Int):=by
 have e:(1:Int)*2^(min (Int.toNat (s:Int)) (IntKind.bits .u32))=((2^s:Nat):Int):=by rw[Int.toNat_natCast,show min s (IntKind.bits .u32)=s from Nat.min_eq_left (Nat.le_of_lt h)];simp
 show IntKind.wrap .u32 (1*2^(min (Int.toNat (s:Int)) (IntKind.bits .u32)))=_;rw[e];exact FW (Nat.lt_of_lt_of_le (Nat.pow_lt_pow_right (by decide) h) (by decide))
theorem aJe{s:Nat}(h:s<64):AB .shl .u64 1 (s:Int)=((2^s:Nat):Int):=by
 have e:(1:Int)*2^(min (Int.toNat (s:Int)) (IntKind.bits .u64))=((2^s:Nat):Int):=by rw[Int.toNat_natCast,show min s (IntKind.bits .u64)=s from Nat.min_eq_left (Nat.le_of_lt h)];simp
 show IntKind.wrap .u64 (1*2^(min (Int.toNat (s:Int)) (IntKind.bits .u64)))=_;rw[e];exact A4 (Nat.lt_of_lt_of_le (Nat.pow_lt_pow_right (by decide) h) (by decide))
theorem MZ{k:IntKind}{n s:Nat}(h:s<k.bits):AB .shr k (n:Int) (s:Int)=((n/2^s:Nat):Int):=by show(n:Int).fdiv (2^(min (Int.toNat (s:Int)) k.bits))=_;rw[Int.toNat_natCast,Nat.min_eq_left (Nat.le_of_lt h),Int.fdiv_eq_ediv_of_nonneg _ (Int.le_of_lt (Int.pow_pos (by decide)))];simp
theorem aQu{k:IntKind}(n:Nat):AB .rem k (n:Int) 2=((n % 2:Nat):Int):=by show(n:Int).tmod 2=_;rw[Int.tmod_eq_emod_of_nonneg (by omega)];omega
theorem L2(n s:Nat):n/2^s % 2=if n.testBit s=true then 1 else 0:=by have:=Nat.testBit_eq_decide_div_mod_eq (x:=n) (i:=s);rw[this];by_cases h:n/2^s % 2=1;simp[h];simp only[h,decide_false,Bool.false_eq_true,if_false];have:=Nat.mod_two_eq_zero_or_one (n/2^s);omega
theorem L1(n s:Nat):(n&&&2^s=0)↔n.testBit s=false:=by constructor;intro h;have h2:=congrArg (fun x=>x.testBit s) h;simp only[Nat.testBit_and,Nat.testBit_two_pow_self,Bool.and_true,Nat.zero_testBit]at h2;exact h2;intro h;apply Nat.eq_of_testBit_eq;intro i;rw[Nat.testBit_and,Nat.testBit_two_pow,Nat.zero_testBit];by_cases hi:s=i;subst hi;simp[h];simp[hi]
theorem D6{α β γ τ:Type}{step:γ×Int->Option (γ×Int⊕τ)}(enc:β->γ)(l:List α)(f:β->α->β)(fin:β->τ)(I:Nat->β->Prop)
 (h1:∀(i:Nat) x w,l[i]? =some x->I i w->step (enc w,(i:Int))=some (.inl (enc (f w x),((i+1:Nat):Int)))/\I (i+1) (f w x))
 (h2:∀w,I l.length w->step (enc w,(l.length:Int))=some (.inr (fin w))) (w:β) (h0:I 0 w):AT step (enc w,0)=some (fin (l.foldl f w)):=by
 have h:=DK (step:=step) l (fun i w=>(enc w,(i:Int))) (fun _ w x=>(.inl (f w x):β⊕τ)) fin I (fun i x w hx hI=>⟨(h1 i x w hx hI).1,fun w' hw=>by cases hw;exact(h1 i x w hx hI).2⟩) h2 (l.length+1) 0 w (by omega) (by omega) h0
 rw[show(enc w,(0:Int))=(enc w,((0:Nat):Int))from rfl,h,List.drop_zero]
 congr 1
 clear h h1 h2 h0
 generalize 0=i
 revert i w
 induction l with
 |nil=>intro w i;rfl
 |cons x xs ih=>intro w i;rw[Ix];exact ih _ _
def toF(M s:Nat)(w:Nat)(t:Xe):Nat:=if t.from_=(s:Int)/\M.testBit t.symbol.toNat=true then w|||2^t.to.toNat else w
def toN(q:AA)(M s:Nat):Nat:=q.trans.foldl (toF M s) 0
def WN(q:AA)(M s:Nat):Nat:=if toN q M s=0/\(q.states[s]?.map (·.next))=some false then 2^s else toN q M s
def Jp(q:AA)(S M:Nat)(w:Nat)(s:Nat):Nat:=if S.testBit s=true then w|||WN q M s else w
def IJ(q:AA)(S M:Nat):Nat:=(List.range q.states.length).foldl (Jp q S M) 0
theorem aL7{a b:Nat}(h1:a<4294967296)(h2:b<4294967296):a|||b<4294967296:=by have:=Nat.or_lt_two_pow (n:=32) (x:=a) (y:=b) (by simpa using h1) (by simpa using h2);simpa using this
theorem Hk{s:Nat}(h:s<32):2^s<4294967296:=Nat.lt_of_lt_of_le (Nat.pow_lt_pow_right (by decide) h) (by decide)
theorem WC{q:AA}(h8:q.states.length<=12)(hR:Ad q){M s w:Nat}{t:Xe}(ht:t∈q.trans)(hw:w<4294967296):toF M s w t<4294967296:=by unfold toF;split;have:=(hR.ends t ht).2.2;exact aL7 hw (Hk (by omega));exact hw
theorem WD{q:AA}(h8:q.states.length<=12)(hR:Ad q)(M s:Nat):toN q M s<4294967296:=by
 unfold toN;suffices∀(l:List Xe) (w:Nat),(∀t∈l,t∈q.trans)->w<4294967296->l.foldl (toF M s) w<4294967296 from this _ _ (fun _ h=>h) (by decide)
 intro l;induction l with
 |nil=>intro w _ h;exact h
 |cons t l ih=>intro w hl hw;exact ih _ (fun t h=>hl t (List.mem_cons_of_mem _ h)) (WC h8 hR (hl t (by simp)) hw)
theorem aIy{q:AA}(h8:q.states.length<=12)(hR:Ad q)(M:Nat){s:Nat}(hs:s<q.states.length):WN q M s<4294967296:=by unfold WN;split;exact Hk (by omega);exact WD h8 hR M s
theorem Nt{q:AA}(h8:q.states.length<=12)(hR:Ad q)(S M:Nat){w s:Nat}(hs:s<q.states.length)(hw:w<4294967296):Jp q S M w s<4294967296:=by unfold Jp;split;exact aL7 hw (aIy h8 hR M hs);exact hw
theorem N5{n i x:Nat}(h:(List.range n)[i]? =some x):x=i/\i<n:=by
 have h1:i<n:=by simpa using (List.getElem?_eq_some_iff.1 h).1
 rw[List.getElem?_range h1,oe]at h;exact⟨h.symm,h1⟩
theorem ME{q:AA}(hF:CS q)(hR:Ad q)(S M:Nat)(hM:M<18446744073709551616)(s7:Int)(s:Nat)(s14:List Xd)(s15:Int)(x:Xd):
 OR (S:Int) (M:Int) s7 (s:Int) s14 s15 (s:Int) q.trans (q.trans.length:Int) q x 0 0=some ((toN q M s:Nat):Int):=by
 have h8:=hF.states
 have ht12:=hF.trans
 have hsy:=hF.symbols
 unfold OR
 have:=D6 (step:=fun z:Int×Int=>Eu (S:Int) (M:Int) s7 (s:Int) s14 s15 (s:Int) q.trans (q.trans.length:Int) q x z.1 z.2) (fun w:Nat=>(w:Int)) q.trans (toF M s) (fun w=>(w:Int)) (fun _ w=>w<4294967296)
  (fun i t w hx hw=>by
   have hm:=List.mem_of_getElem? hx;have he:=hR.ends t hm;refine⟨?_,WC h8 hR hm hw⟩;obtain⟨y,hy⟩:∃y:Nat,t.symbol=(y:Int):=⟨t.symbol.toNat,by omega⟩;obtain⟨z,hz⟩:∃z:Nat,t.to=(z:Int):=⟨t.to.toNat,by omega⟩;have hy12:y<12:=by omega
   have hz12:z<12:=by omega
   have hwy:IntKind.wrap .u64 (y:Int)=(y:Int):=A4 (by omega);have hwz:IntKind.wrap .u64 (z:Int)=(z:Int):=A4 (by omega);simp only[Eu,ltD hx,AG,Wr,AK hx,Af hx (show q.trans.length<=9223372036854775807 by omega),Pu,hy,hz,hwy,hwz,toF,Int.toNat_natCast];rw[aJe (by omega),aRf hM (Nat.lt_of_lt_of_le (Nat.pow_lt_pow_right (by decide) (show y<64 by omega)) (by decide)),Ku (by omega),Km hw (Hk (by omega))];have hb:decide (((M&&&2^y:Nat):Int)=0)= !M.testBit y:=by
    have:=L1 M y;cases hb:M.testBit y with
    |false=>have h0:=this.2 hb;rw[h0];rfl
    |true=>
     have h0:¬M&&&2^y=0:=fun h=>by have:=this.1 h;rw[hb]at this;cases this
     simp;omega
   rw[hb];by_cases hf:t.from_=(s:Int);rw[Cy,if_pos hf,An (by omega)];cases hb2:M.testBit y with
   |true=>simp only[Bool.not_true,Bool.not_false,AG,An (show(0:Int)<=(z:Int) by omega),AD,hf,true_and,if_true]
   |false=>simp only[Bool.not_false,Bool.not_true,AF,AD,hf,true_and,Bool.false_eq_true,if_false]
   rw[Cy,if_neg hf];simp only[AF,AD,hf,false_and,if_false])
  (fun w _=>by simp only[Eu,ltI,AF]) 0 (by decide)
 exact this
theorem aN1{q:AA}(hF:CS q)(hR:Ad q){S M:Nat}(hS:S<4294967296)(hM:M<18446744073709551616):Xa q (S:Int) (M:Int)=some ((IJ q S M:Nat):Int):=by
 have h8:=hF.states;have hl:(List.range q.states.length).length=q.states.length:=List.length_range;have key:=D6 (step:=fun z:Int×Int=>DY (S:Int) (M:Int) q.states (q.states.length:Int) q z.1 z.2) (fun w:Nat=>(w:Int)) (List.range q.states.length) (Jp q S M) (fun w=>(w:Int)) (fun _ w=>w<4294967296)
  (fun i s w hx hw=>by
   obtain⟨rfl,hs⟩:=N5 hx;refine⟨?_,Nt h8 hR S M hs hw⟩;obtain⟨x,hxs,_⟩:=AP hs;have hws:IntKind.wrap .u64 (s:Int)=(s:Int):=A4 (by omega);simp only[DY,ltD hxs,AG,OQ,AK hxs,hws,Af hxs (show q.states.length<=9223372036854775807 by omega),An (show(0:Int)<=(s:Int) by omega)];rw[Ku (by omega),aFi hS (Hk (by omega)),ME hF hR S M hM];have hb:decide (((S&&&2^s:Nat):Int)=0)= !S.testBit s:=by
    have:=L1 S s;cases hb:S.testBit s with
    |false=>have h0:=this.2 hb;rw[h0];rfl
    |true=>
     have h0:¬S&&&2^s=0:=fun h=>by have:=this.1 h;rw[hb]at this;cases this
     simp;omega
   rw[hb];unfold Jp WN;rw[hxs];cases hb2:S.testBit s with
   |false=>simp only[Bool.not_false,AG,AD,Bool.false_eq_true,if_false]
   |true=>
    have hto:=WD h8 hR M s
    simp only[Bool.not_true,AF,AD,if_true,Option.map_some,oe]
    by_cases h0:toN q M s=0
    rw[h0]
    cases hn:x.next with
    |false=>
     simp only[Int.ofNat_zero,Int.natCast_zero,decide_true,AG,I9,Bool.not_false,hws,An (show(0:Int)<=(s:Int) by omega),AD,and_self,if_true]
     rw[Ku (by omega),Km hw (Hk (by omega))]
    |true=>
     simp only[Int.natCast_zero,decide_true,AG,I9,Bool.not_true,AF,AD,Bool.true_eq_false,and_false,if_false]
     rw[show(0:Int)=((0:Nat):Int)from rfl,Km hw (by decide)]
    have hd:decide (((toN q M s:Nat):Int)=0)=false:=by simp;omega
    simp only[hd,AF,I9,AD,h0,false_and,if_false]
    rw[Km hw hto])
  (fun w _=>by rw[hl];simp only[DY,ltI,AF]) 0 (by decide)
 unfold Xa Pv;have key':AT (fun z:Int×Int=>DY (S:Int) (M:Int) q.states (q.states.length:Int) q z.1 z.2) (0,0)=some ((IJ q S M:Nat):Int):=key;rw[key',AD]
theorem MW{q:AA}(hF:CS q)(hR:Ad q)(S M:Nat)(hM:M<18446744073709551616)(s7:Int)(s:Nat):
 XP (S:Int) (M:Int) s7 (s:Int) q 0 0=some ((toN q M s:Nat):Int):=by
 have h8:=hF.states
 have ht12:=hF.trans
 have hsy:=hF.symbols
 unfold XP
 have:=D6 (step:=fun z:Int×Int=>GM (S:Int) (M:Int) s7 (s:Int) q z.1 z.2) (fun w:Nat=>(w:Int)) q.trans (toF M s) (fun w=>(w:Int)) (fun _ w=>w<4294967296)
  (fun i t w hx hw=>by
   have hm:=List.mem_of_getElem? hx;have he:=hR.ends t hm;refine⟨?_,WC h8 hR hm hw⟩;obtain⟨y,hy⟩:∃y:Nat,t.symbol=(y:Int):=⟨t.symbol.toNat,by omega⟩;obtain⟨z,hz⟩:∃z:Nat,t.to=(z:Int):=⟨t.to.toNat,by omega⟩;have hy12:y<12:=by omega
   have hz12:z<12:=by omega
   have hwy:IntKind.wrap .u64 (y:Int)=(y:Int):=A4 (by omega);have hwz:IntKind.wrap .u64 (z:Int)=(z:Int):=A4 (by omega);simp only[GM,ltD hx,AG,XM,AK hx,Af hx (show q.trans.length<=9223372036854775807 by omega),QU,hy,hz,hwy,hwz,toF,Int.toNat_natCast];rw[MZ (k:=.u64) (s:=y) (show y<64 by omega),aQu,L2,Ku (by omega),Km hw (Hk (by omega))];by_cases hf:t.from_=(s:Int);rw[Cy,if_pos hf,An (by omega)];cases hb2:M.testBit y with
   |true=>simp only[if_true,Int.natCast_one,decide_true,AG,An (show(0:Int)<=(z:Int) by omega),AD,hf,true_and]
   |false=>simp only[Bool.false_eq_true,if_false,Int.natCast_zero,show decide ((0:Int)=1)=false from rfl,AF,AD,and_false]
   rw[Cy,if_neg hf];simp only[AF,AD,hf,false_and,if_false])
  (fun w _=>by simp only[GM,ltI,AF]) 0 (by decide)
 exact this
theorem aN8{q:AA}(hF:CS q)(hR:Ad q){S M:Nat}(hS:S<4294967296)(hM:M<18446744073709551616):Xi q (S:Int) (M:Int)=some ((IJ q S M:Nat):Int):=by
 have h8:=hF.states;have hl:(List.range q.states.length).length=q.states.length:=List.length_range;have key:=D6 (step:=fun z:Int×Int=>Ev (S:Int) (M:Int) q z.1 z.2) (fun w:Nat=>(w:Int)) (List.range q.states.length) (Jp q S M) (fun w=>(w:Int)) (fun _ w=>w<4294967296)
  (fun i s w hx hw=>by
   obtain⟨rfl,hs⟩:=N5 hx;refine⟨?_,Nt h8 hR S M hs hw⟩;obtain⟨x,hxs,_⟩:=AP hs;have hws:IntKind.wrap .u64 (s:Int)=(s:Int):=A4 (by omega);simp only[Ev,ltD hxs,AG,XK,AK hxs,hws,Af hxs (show q.states.length<=9223372036854775807 by omega),An (show(0:Int)<=(s:Int) by omega)];rw[MZ (k:=.u32) (s:=s) (show s<32 by omega),aQu,L2,MW hF hR S M hM];unfold Jp WN;rw[hxs];cases hb2:S.testBit s with
   |false=>simp only[Bool.false_eq_true,if_false,Int.natCast_zero,decide_true,AG,AD]
   |true=>
    have hto:=WD h8 hR M s
    simp only[if_true,Int.natCast_one,show decide ((1:Int)=0)=false from rfl,AF,AD,Option.map_some,oe]
    by_cases h0:toN q M s=0
    rw[h0]
    cases hn:x.next with
    |false=>
     simp only[Int.natCast_zero,decide_true,AG,LR,Bool.not_false,hws,An (show(0:Int)<=(s:Int) by omega),AD,and_self,if_true]
     rw[Ku (by omega),Km hw (Hk (by omega))]
    |true=>
     simp only[Int.natCast_zero,decide_true,AG,LR,Bool.not_true,AF,AD,Bool.true_eq_false,and_false,if_false]
     rw[show(0:Int)=((0:Nat):Int)from rfl,Km hw (by decide)]
    have hd:decide (((toN q M s:Nat):Int)=0)=false:=by simp;omega
    simp only[hd,AF,LR,AD,h0,false_and,if_false]
    rw[Km hw hto])
  (fun w _=>by rw[hl];simp only[Ev,ltI,AF]) 0 (by decide)
 unfold Xi aGw;have key':AT (fun z:Int×Int=>Ev (S:Int) (M:Int) q z.1 z.2) (0,0)=some ((IJ q S M:Nat):Int):=key;rw[key',AD]
structure Bg(q:AA):Prop where
 frees:q.frees=[]
 quants:q.quants.length<=1
 states:q.states.length<=8
 symbols:q.symbols.length<=8
 guards:∀t∈q.trans,t.guard= -1
theorem aK0{q:AA}(hF:CS q):∃r,Yj q=some r/\(r=true->Bg q):=by
 have ht:=hF.trans;obtain⟨o,ho,hQ⟩:=Ah (step:=fun s=>Db q s) q.trans.length (fun i=>∀t,q.trans[i]? =some t->t.guard= -1) (fun o=>o=Sum.inl ()->∀t∈q.trans,t.guard= -1)
  (fun i hi=>by obtain⟨x,hx,_⟩:=AP hi;simp only[Db,ltD hx,AG,AK hx,Af hx (show q.trans.length<=9223372036854775807 by omega)];by_cases h:x.guard= -1;exact .inl ⟨by rw[decide_eq_true h];rfl,fun t h2=>by rw[hx,oe]at h2;exact h2▸h⟩;exact .inr ⟨.inr (),by rw[decide_eq_false h];rfl,fun h=>by cases h⟩)
  (fun hall=>⟨.inl (),by simp only[Db,ltI,AF],fun _=>E7 hall⟩)
 have ho':TE q 0=some o:=ho;unfold Yj;refine A5 (fun _=>⟨_,rfl,by simp⟩) (fun h1=>?_);refine A5 (fun _=>⟨_,rfl,by simp⟩) (fun h2=>?_);refine A5 (fun _=>⟨_,rfl,by simp⟩) (fun h3=>?_);refine A5 (fun _=>⟨_,rfl,by simp⟩) (fun h4=>?_);refine A9 ho' ?_;rcases o with⟨⟩|⟨⟩
 rw[Bo];exact⟨_,rfl,fun _=>⟨List.eq_nil_of_length_eq_zero (by omega),by omega,by omega,by omega,hQ rfl⟩⟩;rw[DL];exact⟨_,rfl,by simp⟩
def CV(n:Nat)(c:X4):Prop:=c.vals=[]/\0<=c.state/\c.state<n
theorem CV.ext{n:Nat}{a b:X4}(ha:CV n a)(hb:CV n b)(h:a.state=b.state):a=b:=by cases a;cases b;have h1:=ha.1;have h2:=hb.1;simp only at h h1 h2;subst h;subst h1;subst h2;rfl
theorem aBr{n:Nat}{a b:X4}(ha:CV n a)(hb:CV n b):Yi a b=some (decide (a.state<b.state)):=by unfold Yi;by_cases h:a.state=b.state;rw[decide_eq_true h];simp only[Bool.not_true,AF];rw[aBt];unfold JG;rw[ha.1,hb.1];simp[AE,BP,AH,Ax,h];rw[decide_eq_false h];rfl
theorem aJ1{n:Nat}{a b:X4}(ha:CV n a)(hb:CV n b):Q9 a b=some (decide (a=b)):=by
 unfold Q9;rw[aBr ha hb,AD,aBr hb ha,AD];by_cases h:a=b;subst h;simp[AE];have hne:a.state≠b.state:=fun e=>h (ha.ext hb e);by_cases h1:a.state<b.state;simp[h1,AE,h];have h2:b.state<a.state:=by omega
 simp[h1,h2,AE,h]
theorem aEt{i:Nat}(h:0<i)(hi:i<=1000000):AB .sub .i64 (i:Int) 1=((i-1:Nat):Int):=by have:IntKind.wrap .i64 ((i:Int)-1)=(i:Int)-1:=IntWalk.i64_in _ ⟨by omega,by omega⟩;show IntKind.wrap .i64 ((i:Int)-1)=_;rw[this];omega
theorem aEo{n:Nat}{w:List X4}{c:X4}(hw:∀x∈w,CV n x)(hc:CV n c)(hl:w.length<=100000):∃k:Nat,k<=w.length/\LY w c (w.length:Int)=some (k:Int)/\OY w c (w.length:Int)=some (k:Int):=by
 suffices∀i:Nat,i<=w.length->∃k:Nat,k<=w.length/\LY w c (i:Int)=some (k:Int)/\OY w c (i:Int)=some (k:Int)from this _ (Nat.le_refl _)
 intro i;induction i with
 |zero=>
  intro _
  refine⟨0,Nat.zero_le _,?_,?_⟩
  rw[Du];simp[DP,AE,BP]
  rw[JH];simp[E5,AE,BP]
 |succ i ih=>
  intro hi
  obtain⟨x,hx,_⟩:=AP (l:=w) (i:=i) (by omega)
  have hL:=aBr hc (hw x (List.mem_of_getElem? hx))
  have hs:AB .sub .i64 ((i+1:Nat):Int) 1=(i:Int):=by rw[aEt (by omega) (by omega)];simp
  have hpos:decide ((0:Int)<((i+1:Nat):Int))=true:=decide_eq_true (by omega)
  by_cases h:c.state<x.state
  obtain⟨k,hk,h1,h2⟩:=ih (by omega)
  refine⟨k,hk,?_,?_⟩
  rw[Du]
  simp only[DP,hpos,AG,hs,AK hx,hL,AD,h,decide_true,Co]
  exact h1
  rw[JH]
  simp only[E5,hpos,AG,hs,An (show(0:Int)<=(i:Int)/\(i:Int)+1<=(w.length:Int) by omega),AK hx,hL,AD,h,decide_true,Co]
  exact h2
  refine⟨i+1,hi,?_,?_⟩
  rw[Du]
  simp only[DP,hpos,AG,hs,AK hx,hL,AD,h,decide_false,AF,CE]
  rw[JH]
  simp only[E5,hpos,AG,hs,An (show(0:Int)<=(i:Int)/\(i:Int)+1<=(w.length:Int) by omega),AK hx,hL,AD,h,decide_false,AF,CE]
def aJl(n:Nat)(w:List X4)(c:X4)(r:List X4):Prop:=(∀x,x∈r↔x=c\/x∈w)/\r.length<=w.length+1
theorem aJb{n:Nat}{w:List X4}{c:X4}(k:Nat)(hk:k<=w.length):aJl n w c (w.take k++[c]++w.drop k):=by
 constructor;intro x;rw[List.append_assoc,ma,ma,List.mem_singleton];have h:=List.take_append_drop k w;constructor;rintro(h1|h1|h1);exact .inr (List.mem_of_mem_take h1);exact .inl h1;exact .inr (List.mem_of_mem_drop h1);rintro(h1|h1);exact .inr (.inl h1);rw[<-h,ma]at h1;rcases h1 with h1|h1
 exact .inl h1;exact .inr (.inr h1);simp only[List.length_append,List.length_take,List.length_drop,List.length_cons,List.length_nil];omega
theorem Hv{α:Type}(w:List α)(k:Nat):sub w 0 (k:Int)=w.take k:=by simp[sub]
theorem Hu{α:Type}(w:List α)(k:Nat):sub w (k:Int) (w.length:Int)=w.drop k:=by simp[sub]
theorem aAq{n:Nat}{w:List X4}{c:X4}(hw:∀x∈w,CV n x)(hc:CV n c)(hl:w.length<=100000):(∃r,Y3 w c=some r/\aJl n w c r)/\∃r,Yp c w=some r/\aJl n w c r:=by
 obtain⟨k,hk,h1,h2⟩:=aEo hw hc hl;have hmid:=aJb (n:=n) (w:=w) (c:=c) k hk;have hsame:c∈w->aJl n w c w:=fun h=>⟨fun x=>⟨.inr,fun hx=>hx.elim (fun e=>e▸h) id⟩,by omega⟩;have e1:(Ai ((0:Int)<=0/\(0:Int)<=(k:Int)/\(k:Int)<=(w.length:Int)) (
  Ai (fit ([]:List X4).length (sub w 0 (k:Int)).length 32) (
   Ai (fit (([]:List X4)++(sub w 0 (k:Int))).length [c].length 32) (
    Ai ((0:Int)<=(k:Int)/\((k:Int):Int)<=(w.length:Int)/\(w.length:Int)<=(w.length:Int)) (
     Ai (fit ((([]:List X4)++(sub w 0 (k:Int)))++[c]).length (sub w (k:Int) (w.length:Int)).length 32) (
      some (((([]:List X4)++(sub w 0 (k:Int)))++[c])++(sub w (k:Int) (w.length:Int)))))))):Option (List X4))=some (w.take k++[c]++w.drop k):=by
  rw[Hv,Hu,An (by omega),DO (by simp;omega) (by decide),DO (by simp;omega) (by decide),An (by omega),DO (by simp;omega) (by decide),List.nil_append]
 have e2:(Ai ((0:Int)<=0/\(0:Int)<=(k:Int)/\(k:Int)<=(w.length:Int)) (
  Ai (fit ([]:List X4).length (sub w 0 (k:Int)).length 32) (
   Ai (fit (sub w 0 (k:Int)).length [c].length 32) (
    Ai ((0:Int)<=(k:Int)/\(k:Int)<=(w.length:Int)/\(w.length:Int)<=(w.length:Int)) (
     Ai (fit ((sub w 0 (k:Int))++[c]).length (sub w (k:Int) (w.length:Int)).length 32) (
      some (((sub w 0 (k:Int))++[c])++(sub w (k:Int) (w.length:Int)))))))):Option (List X4))=some (w.take k++[c]++w.drop k):=by
  rw[Hv,Hu,An (by omega),DO (by simp;omega) (by decide),DO (by simp;omega) (by decide),An (by omega),DO (by simp;omega) (by decide)]
 unfold Y3 Yp;rw[h1,AD,h2,AD];by_cases h0:0<k;obtain⟨x,hx,_⟩:=AP (l:=w) (i:=k-1) (by omega);have hs:=aEt h0 (by omega);have hO:=aJ1 (hw x (List.mem_of_getElem? hx)) hc;have hpos:decide ((0:Int)<(k:Int))=true:=decide_eq_true (by omega);simp only[hpos,AG,hs,AK hx,hO,AD,e1,e2,An (show(0:Int)<=((k-1:Nat):Int)/\((k-1:Nat):Int)+1<=(w.length:Int) by omega)];by_cases hxc:x=c;simp only[hxc,decide_true,AG];have hm:c∈w:=hxc▸List.mem_of_getElem? hx;exact⟨⟨w,rfl,hsame hm⟩,⟨w,rfl,hsame hm⟩⟩;simp only[hxc,decide_false,AF];exact⟨⟨_,rfl,hmid⟩,⟨_,rfl,hmid⟩⟩;have hpos:decide ((0:Int)<(k:Int))=false:=decide_eq_false (by omega);simp only[hpos,AF,e1,e2];exact⟨⟨_,rfl,hmid⟩,⟨_,rfl,hmid⟩⟩
theorem aJl.cv{n:Nat}{w r:List X4}{c:X4}(h:aJl n w c r)(hw:∀x∈w,CV n x)(hc:CV n c):∀x∈r,CV n x:=fun x hx=>by
 rcases(h.1 x).1 hx with rfl|h
 exact hc;exact hw x h
theorem PF{q:AA}{t:Xe}{f r:Int}(hfr:q.frees=[])(h:Xs q t f=some (r,true)):t.sets=[]:=by
 cases hs:t.sets with
 |nil=>rfl
 |cons x l=>
  exfalso
  have hno:∀o3 o12,OT f q t o3 0=some o12->o12=.inr ():=by
   intro o3 o12 h2;have hx:t.sets[0]? =some x:=by rw[hs];rfl
   rw[ZN]at h2;unfold EJ at h2;rw[show(0:Int)=((0:Nat):Int)from rfl,ltD hx,AG,AK hx]at h2;cases hk:Qa q o3 x.expr with
   |none=>rw[hk]at h2;cases h2
   |some r6=>
    rw[hk,AD,hfr]at h2
    by_cases g1:x.free<0
    rw[decide_eq_true (show x.free<((0:Nat):Int)from g1)]at h2
    simp only[AG,CE,oe]at h2
    exact h2.symm
    rw[decide_eq_false (show¬x.free<((0:Nat):Int)from g1),decide_eq_true (show((([]:List Xw).length:Int)<=x.free) by simp;omega)]at h2
    simp only[AG,AF,CE,oe]at h2
    exact h2.symm
  unfold Xs at h
  rcases iS h with⟨_,h⟩|⟨_,h⟩
  cases h
  rcases iS h with⟨_,h⟩|⟨_,h⟩
  cases h
  rcases iS h with⟨_,h⟩|⟨_,h⟩
  cases h
  rcases iS h with⟨_,h⟩|⟨_,h⟩
  cases h
  rcases iS h with⟨_,h⟩|⟨_,h⟩
  cases h
  rcases iS h with⟨_,h⟩|⟨_,h⟩
  cases h
  obtain⟨o2,_,h⟩:=bS h
  rcases AM h with⟨o3,_,h⟩|⟨o4,_,h⟩
  obtain⟨o12,h12,h⟩:=bS h
  have e:=hno _ _ h12
  subst e
  rw[DL]at h
  cases h
  cases h
theorem PD{q:AA}(hR:Ad q)(hS:Bg q):∀t∈q.trans,t.sets=[]:=fun t ht=>by obtain⟨f,r,h⟩:=hR.fires t ht;exact PF hS.frees h
theorem In:∀(al:List BJ) (xs:List X0) (b:List X2) (p:List X2×List X2),(∀a∈al,a.kind≠3)->D1 al xs b []=some p->p.2=[]
 |[],xs,b,p,_,h=>by
  cases xs<;>(simp only[D1,oe]at h;subst h;rfl)
 |a::al,[],b,p,_,h=>by simp only[D1,oe]at h;subst h;rfl
 |a::al,x::xs,b,p,hk,h=>by
  have ih:=fun b' h'=>In al xs b' p (fun a ha=>hk a (List.mem_cons_of_mem _ ha)) h';rw[D1]at h;split at h;split at h;exact ih _ h;cases h;split at h;split at h;cases h;exact ih _ h;split at h;exact absurd (by assumption) (hk a (by simp));exact ih _ h
theorem VS{q:AA}(hR:Ad q)(hS:Bg q){e:X3}{i:Nat}{h:AL}(hh:DV q i e=some h):h.frees=[]:=by unfold DV at hh;split at hh;cases hh;rename_i s hs;split at hh;cases hh;split at hh;rw[om]at hh;obtain⟨p,hp,rfl⟩:=hh;refine In _ _ _ _ (fun a ha h3=>?_) hp;have:=((hR.symbols s (List.mem_of_getElem? hs)).args a ha).three h3;rw[hS.frees]at this;simp at this;omega;cases hh
theorem aDv{q:AA}(hR:Ad q)(hS:Bg q){i:Nat}{t:Xe}(ht:q.trans[i]? =some t){c:X4}(hc:c.vals=[]){h:AL}(hf:h.frees=[]):Qs q (i:Int) c h=some (X4.mk t.to [],true,0):=by
 have hm:=List.mem_of_getElem? ht;have hg:=hS.guards t hm;have hs:=PD hR hS t hm;have h1:Zl c.vals h.frees=some []:=by unfold Zl aId;rw[hc,hf,BE];simp[Lg,AE,BP,AH,Ai,fit]
 have h2:Qr q (i:Int) h.bind []=some (true,0):=by unfold Qr;rw[AK ht,hg];rfl
 have h3:Zm q (i:Int) h.bind []=some ([],0):=by unfold Zm;rw[AK ht,hs];unfold aIe;rw[BE];simp[Lh,AE,BP,AH,Ai,fit,Ax]
 unfold Qs;rw[h1,AD,h2,AD];simp only[decide_true,Bool.not_true,AF];rw[h3,AD];simp only[decide_true,Bool.not_true,AF,AK ht]
structure I4(l:List AL):Prop where
 frees:∀h∈l,h.frees=[]
 rise:l.Pairwise fun a b=>a.symbol<b.symbol
 len:l.length<=1000
theorem I4.ne{l:List AL}(h:I4 l){i j:Nat}{a b:AL}(hi:l[i]? =some a)(hj:l[j]? =some b)(hlt:i<j):a.symbol≠b.symbol:=by have h1:=(List.getElem?_eq_some_iff.1 hi);have h2:=(List.getElem?_eq_some_iff.1 hj);obtain⟨p1,e1⟩:=h1;obtain⟨p2,e2⟩:=h2;have:=List.pairwise_iff_getElem.1 h.rise i j p1 p2 hlt;rw[e1,e2]at this;omega
theorem OH:Qn 0 0=some 0:=rfl
theorem Pf{q:AA}(hF:CS q)(hR:Ad q)(hS:Bg q){l:List AL}(hl:I4 l){ti:Nat}{t:Xe}(ht:q.trans[ti]? =some t){c:X4}(hc:c.vals=[])(w0:List X4)(hw0:∀x∈w0,CV q.states.length x)(hb:w0.length<=500):
 ∃w,aG1 l (ti:Int) q c 0 0 w0=some (0,w)/\(∀x∈w,CV q.states.length x)/\w.length<=w0.length+1/\∀x,x∈w↔x∈w0\/(x=X4.mk t.to []/\∃h∈l,h.symbol=t.symbol):=by
 have hte:=hR.ends t (List.mem_of_getElem? ht)
 have hcv:CV q.states.length (X4.mk t.to []):=⟨rfl,hte.2.2.1,hte.2.2.2⟩
 obtain⟨o,ho,w,rfl,hQ⟩:=Am (step:=fun s:Int×Int×List X4=>GU l (ti:Int) q c s.1 s.2.1 s.2.2)
  (fun s=>∃(j:Nat) (w:List X4),s=(0,(j:Int),w)/\j<=l.length/\(∀x∈w,CV q.states.length x)/\w.length<=w0.length+1/\((¬ ∃i,i<j/\∃h,l[i]? =some h/\h.symbol=t.symbol)->w.length<=w0.length)/\∀x,x∈w↔x∈w0\/(x=X4.mk t.to []/\∃i,i<j/\∃h,l[i]? =some h/\h.symbol=t.symbol))
  (fun s=>(l.length-s.2.1).toNat)
  (fun o=>∃w,o=((0:Int),w)/\(∀x∈w,CV q.states.length x)/\w.length<=w0.length+1/\∀x,x∈w↔x∈w0\/(x=X4.mk t.to []/\∃h∈l,h.symbol=t.symbol))
  (by
   rintro s ⟨j,w,rfl,hj,hcw,hlen,hno,hm⟩;by_cases he:j=l.length;subst he;refine .inl ⟨(0,w),by simp only[GU,ltI,AF],w,rfl,hcw,hlen,fun x=>?_⟩;rw[hm x];constructor;rintro(h|⟨h,i,hi,a,ha,hs⟩);exact .inl h;exact .inr ⟨h,a,List.mem_of_getElem? ha,hs⟩;rintro(h|⟨h,a,ha,hs⟩);exact .inl h;obtain⟨i,hi⟩:=List.mem_iff_getElem?.1 ha;exact .inr ⟨h,i,(List.getElem?_eq_some_iff.1 hi).1,a,hi,hs⟩;right;obtain⟨y,hy,_⟩:=AP (l:=l) (i:=j) (by omega);have hln:=hl.len;simp only[GU,ltD hy,AG,YE,AK hy,AK ht,Af hy (show l.length<=9223372036854775807 by omega)];by_cases hs:y.symbol=t.symbol;have hnone:¬ ∃i,i<j/\∃h,l[i]? =some h/\h.symbol=t.symbol:=by rintro⟨i,hi,a,ha,has⟩;exact hl.ne ha hy hi (by rw[has,hs])
   have hwl:=hno hnone;obtain⟨r,hr,hP⟩:=(aAq (w:=w) (c:=X4.mk t.to []) hcw hcv (by omega)).2;have hP2:=hP.2;refine⟨((0:Int),((j+1:Nat):Int),r),?_,⟨j+1,r,rfl,by omega,hP.cv hcw hcv,by omega,fun h=>absurd ⟨j,by omega,y,hy,hs⟩ h,fun x=>?_⟩,by simp only;omega⟩;rw[decide_eq_true hs];simp only[Bool.not_true,AF,aDv hR hS ht hc (hl.frees y (List.mem_of_getElem? hy)),AD,OH,YG,AG,hr];rw[hP.1 x,hm x];constructor;rintro(h|h|⟨h,i,hi,a⟩);exact .inr ⟨h,j,by omega,y,hy,hs⟩;exact .inl h;exact .inr ⟨h,i,by omega,a⟩;rintro(h|⟨h,i,hi,a⟩);exact .inr (.inl h);exact .inl h;refine⟨((0:Int),((j+1:Nat):Int),w),?_,⟨j+1,w,rfl,by omega,hcw,hlen,fun h=>hno fun⟨i,hi,a⟩=>h ⟨i,by omega,a⟩,fun x=>?_⟩,by simp only;omega⟩;rw[decide_eq_false hs];rfl;rw[hm x];constructor;rintro(h|⟨h,i,hi,a⟩);exact .inl h;exact .inr ⟨h,i,by omega,a⟩;rintro(h|⟨h,i,hi,a,ha,has⟩);exact .inl h;refine .inr ⟨h,i,?_,a,ha,has⟩;rcases Nat.lt_or_ge i j with g|g
   exact g;have:i=j:=by omega
   subst this;rw[hy,oe]at ha;subst ha;exact absurd has hs)
  ((0:Int),(0:Int),w0) ⟨0,w0,rfl,by omega,hw0,by omega,fun _=>Nat.le_refl _,fun x=>by simp⟩
 exact⟨w,ho,hQ⟩
def LD(q:AA)(l:List AL)(c x:X4):Prop:=∃t∈q.trans,t.from_=c.state/\(∃h∈l,h.symbol=t.symbol)/\x=X4.mk t.to []
theorem Pe{q:AA}(hF:CS q)(hR:Ad q)(hS:Bg q){l:List AL}(hl:I4 l){c:X4}(hc:c.vals=[]):
 ∃w,aG0 l q c 0 0 []=some (0,w)/\(∀x∈w,CV q.states.length x)/\w.length<=12/\∀x,x∈w↔LD q l c x:=by
 have ht12:=hF.trans
 obtain⟨o,ho,w,rfl,hQ⟩:=Am (step:=fun s:Int×Int×List X4=>GT l q c s.1 s.2.1 s.2.2)
  (fun s=>∃(j:Nat) (w:List X4),s=(0,(j:Int),w)/\j<=q.trans.length/\(∀x∈w,CV q.states.length x)/\w.length<=j/\∀x,x∈w↔ ∃i,i<j/\∃t,q.trans[i]? =some t/\t.from_=c.state/\(∃h∈l,h.symbol=t.symbol)/\x=X4.mk t.to [])
  (fun s=>(q.trans.length-s.2.1).toNat)
  (fun o=>∃w,o=((0:Int),w)/\(∀x∈w,CV q.states.length x)/\w.length<=12/\∀x,x∈w↔LD q l c x)
  (by
   rintro s ⟨j,w,rfl,hj,hcw,hlen,hm⟩;by_cases he:j=q.trans.length;subst he;refine .inl ⟨(0,w),by simp only[GT,ltI,AF],w,rfl,hcw,by omega,fun x=>?_⟩;rw[hm x];constructor;rintro⟨i,hi,t,ht,a⟩;exact⟨t,List.mem_of_getElem? ht,a⟩;rintro⟨t,ht,a⟩;obtain⟨i,hi⟩:=List.mem_iff_getElem?.1 ht;exact⟨i,(List.getElem?_eq_some_iff.1 hi).1,t,hi,a⟩;right;obtain⟨t,ht,_⟩:=AP (l:=q.trans) (i:=j) (by omega);simp only[GT,ltD ht,AG,YC,AK ht,Af ht (show q.trans.length<=9223372036854775807 by omega)];by_cases hf:t.from_=c.state;obtain⟨r,hr,hrc,hrl,hrm⟩:=Pf hF hR hS hl ht hc w hcw (by omega);refine⟨((0:Int),((j+1:Nat):Int),r),?_,⟨j+1,r,rfl,by omega,hrc,by omega,fun x=>?_⟩,by simp only;omega⟩;rw[decide_eq_true hf];simp only[Bool.not_true,AF,hr,AD];rw[hrm x,hm x];constructor;rintro(⟨i,hi,a⟩|⟨h,a⟩);exact⟨i,by omega,a⟩;exact⟨j,by omega,t,ht,hf,a,h⟩;rintro⟨i,hi,t2,ht2,hf2,hh,hx⟩;rcases Nat.lt_or_ge i j with g|g
   exact .inl ⟨i,g,t2,ht2,hf2,hh,hx⟩;have:i=j:=by omega
   subst this;rw[ht,oe]at ht2;subst ht2;exact .inr ⟨hx,hh⟩;refine⟨((0:Int),((j+1:Nat):Int),w),?_,⟨j+1,w,rfl,by omega,hcw,by omega,fun x=>?_⟩,by simp only;omega⟩;rw[decide_eq_false hf];rfl;rw[hm x];constructor;rintro⟨i,hi,a⟩;exact⟨i,by omega,a⟩;rintro⟨i,hi,t2,ht2,hf2,a⟩;rcases Nat.lt_or_ge i j with g|g
   exact⟨i,g,t2,ht2,hf2,a⟩;have:i=j:=by omega
   subst this;rw[ht,oe]at ht2;subst ht2;exact absurd hf2 hf)
  ((0:Int),(0:Int),[]) ⟨0,[],rfl,by omega,by simp,by simp,fun x=>by simp⟩
 exact⟨w,ho,hQ⟩
def aQ0(q:AA)(l:List AL)(c x:X4):Prop:=LD q l c x\/((∀y,¬LD q l c y)/\(∃s,q.states[c.state.toNat]? =some s/\s.next=false)/\x=c)
theorem aGz{q:AA}(hF:CS q)(hR:Ad q)(hS:Bg q){l:List AL}(hl:I4 l){c:X4}(hc:CV q.states.length c):
 ∃w,Xl q c l=some (w,0)/\(∀x∈w,CV q.states.length x)/\w.length<=12/\∀x,x∈w↔aQ0 q l c x:=by
 obtain⟨w,hw,hcw,hlen,hm⟩:=Pe hF hR hS hl hc.1
 obtain⟨s,hs,hc0⟩:=O3 (l:=q.states) (i:=c.state) hc.2.1 hc.2.2
 unfold Xl
 rw[hw,AD]
 simp only[decide_true,Bool.not_true,AF]
 by_cases h0:w=[]
 subst h0
 have hno:∀y,¬LD q l c y:=fun y h=>by have:=(hm y).2 h;simp at this
 rw[show decide ((([]:List X4).length:Int)=0)=true from rfl,AG,CO hs hc.2.1]
 cases hn:s.next with
 |false=>
  refine⟨[c],by simp[RS,AE,AH,Ai,fit],fun x hx=>by rw[List.mem_singleton.1 hx];exact hc,by simp,fun x=>?_⟩
  rw[List.mem_singleton]
  exact⟨fun h=>.inr ⟨hno,⟨s,hs,hn⟩,h⟩,fun h=>h.elim (fun h=>absurd h (hno x)) fun h=>h.2.2⟩
 |true=>
  refine⟨[],rfl,by simp,by simp,fun x=>⟨fun h=>by simp at h,fun h=>?_⟩⟩
  rcases h with h|⟨_,⟨s2,hs2,hn2⟩,_⟩
  exact absurd h (hno x)
  rw[hs,oe]at hs2;subst hs2;rw[hn]at hn2;cases hn2
 have hd:decide ((w.length:Int)=0)=false:=decide_eq_false fun h=>h0 (List.eq_nil_of_length_eq_zero (by omega))
 rw[hd,AF]
 refine⟨w,rfl,hcw,hlen,fun x=>?_⟩
 rw[hm x]
 refine⟨.inl,fun h=>h.elim id fun h=>?_⟩
 cases w with
 |nil=>exact absurd rfl h0
 |cons y w=>exact absurd ((hm y).1 (by simp)) (h.1 y)
def aGh(q:AA)(l:List AL)(cs:List X4)(x:X4):Prop:=∃c∈cs,aQ0 q l c x
theorem Fy{n:Nat}(s1:List X4)(s2:List AL)(s9 s10:Int)(q:AA){r:List X4}(hr:∀x∈r,CV n x)(hrl:r.length<=12){w0:List X4}(hw:∀x∈w0,CV n x)(hl:w0.length<=90000):
 ∃w,ZK s1 s2 s9 s10 r q w0 0=some w/\(∀x∈w,CV n x)/\w.length<=w0.length+r.length/\∀x,x∈w↔x∈w0\/x∈r:=by
 obtain⟨o,ho,hQ⟩:=Am (step:=fun s:List X4×Int=>C6 s1 s2 s9 s10 r q s.1 s.2)
  (fun s=>∃(j:Nat) (w:List X4),s=(w,(j:Int))/\j<=r.length/\(∀x∈w,CV n x)/\w.length<=w0.length+j/\∀x,x∈w↔x∈w0\/x∈r.take j)
  (fun s=>(r.length-s.2).toNat)
  (fun o=>(∀x∈o,CV n x)/\o.length<=w0.length+r.length/\∀x,x∈o↔x∈w0\/x∈r)
  (by
   rintro s ⟨j,w,rfl,hj,hcw,hlen,hm⟩;by_cases he:j=r.length;subst he;exact .inl ⟨w,by simp only[C6,ltI,AF],hcw,hlen,fun x=>by rw[hm x,List.take_length]⟩;right;obtain⟨y,hy,_⟩:=AP (l:=r) (i:=j) (by omega);have hcy:=hr y (List.mem_of_getElem? hy);obtain⟨r2,hr2,hP⟩:=(aAq hcw hcy (by omega)).1;have hP2:=hP.2;have htake:r.take (j+1)=r.take j++[y]:=by rw[List.take_add_one,hy];rfl
   refine⟨(r2,((j+1:Nat):Int)),?_,⟨j+1,r2,rfl,by omega,hP.cv hcw hcy,by omega,fun x=>?_⟩,by simp only;omega⟩;simp only[C6,ltD hy,AG,AK hy,hr2,AD,Af hy (show r.length<=9223372036854775807 by omega)];rw[hP.1 x,hm x,htake,ma,List.mem_singleton];constructor;rintro(h|h|h);exact .inr (.inr h);exact .inl h;exact .inr (.inl h);rintro(h|h|h);exact .inr (.inl h);exact .inr (.inr h);exact .inl h)
  (w0,(0:Int)) ⟨0,w0,rfl,by omega,hw,by omega,fun x=>by simp⟩
 exact⟨o,ho,hQ⟩
theorem PT{q:AA}(hF:CS q)(hR:Ad q)(hS:Bg q){l:List AL}(hl:I4 l){cs:List X4}(hc:∀c∈cs,CV q.states.length c)(hcl:cs.length<=1000):
 ∃w,ZI cs l q [] 0 0=some (w,0)/\(∀x∈w,CV q.states.length x)/\w.length<=12*cs.length/\∀x,x∈w↔aGh q l cs x:=by
 obtain⟨o,ho,w,rfl,hcw,hlen,hm⟩:=Am (step:=fun s:List X4×Int×Int=>C5 cs l q s.1 s.2.1 s.2.2)
  (fun s=>∃(j:Nat) (w:List X4),s=(w,0,(j:Int))/\j<=cs.length/\(∀x∈w,CV q.states.length x)/\w.length<=12*j/\∀x,x∈w↔aGh q l (cs.take j) x)
  (fun s=>(cs.length-s.2.2).toNat)
  (fun o=>∃w,o=(w,(0:Int))/\(∀x∈w,CV q.states.length x)/\w.length<=12*cs.length/\∀x,x∈w↔aGh q l cs x)
  (by
   rintro s ⟨j,w,rfl,hj,hcw,hlen,hm⟩;by_cases he:j=cs.length;subst he;exact .inl ⟨(w,0),by simp only[C5,ltI,AF],w,rfl,hcw,by omega,fun x=>by rw[hm x,List.take_length]⟩;right;obtain⟨c,hy,_⟩:=AP (l:=cs) (i:=j) (by omega);have hcy:=hc c (List.mem_of_getElem? hy);obtain⟨r,hr,hrc,hrl,hrm⟩:=aGz hF hR hS hl hcy;obtain⟨w2,hw2,hw2c,hw2l,hw2m⟩:=Fy cs l 0 (j:Int) q hrc hrl hcw (by omega);have htake:cs.take (j+1)=cs.take j++[c]:=by rw[List.take_add_one,hy];rfl
   refine⟨(w2,(0:Int),((j+1:Nat):Int)),?_,⟨j+1,w2,rfl,by omega,hw2c,by omega,fun x=>?_⟩,by simp only;omega⟩;simp only[C5,ltD hy,AG,AK hy,hr,AD,OH,hw2,Af hy (show cs.length<=9223372036854775807 by omega)];rw[hw2m x,hm x,hrm x,htake];unfold aGh;constructor;rintro(⟨a,ha,h⟩|h);exact⟨a,ml _ ha,h⟩;exact⟨c,by simp,h⟩;rintro⟨a,ha,h⟩;rcases ma.1 ha with g|g
   exact .inl ⟨a,g,h⟩;rw[List.mem_singleton.1 g]at h;exact .inr h)
  ([],(0:Int),(0:Int)) ⟨0,[],rfl,by omega,by simp,by simp,fun x=>by simp[aGh]⟩
 exact⟨w,ho,hcw,hlen,hm⟩
def KQ(n S:Nat):List X4:=((List.range n).filter fun s=>S.testBit s).map fun s=>X4.mk ((s:Nat):Int) []
theorem HO{n S:Nat}{x:X4}:x∈KQ n S↔ ∃s,s<n/\S.testBit s=true/\x=X4.mk (s:Int) []:=by unfold KQ;simp only[mm,List.mem_filter,List.mem_range];constructor;rintro⟨s,⟨h1,h2⟩,h3⟩;exact⟨s,h1,h2,h3.symm⟩;rintro⟨s,h1,h2,h3⟩;exact⟨s,⟨h1,h2⟩,h3.symm⟩
structure Pb(n:Nat)(l:List AL):Prop extends I4 l where
 sym:∀h∈l,0<=h.symbol/\h.symbol<n
theorem aIi{a b:Nat}(h:a+b<18446744073709551616):AB .add .u64 (a:Int) (b:Int)=((a+b:Nat):Int):=by show IntKind.wrap .u64 ((a:Int)+(b:Int))=_;rw[<-Int.natCast_add];exact A4 h
theorem K9{n:Nat}(hn:n<=12){l:List AL}(hl:Pb n l):∃M:Nat,Yz l=some (M:Int)/\M<18446744073709551616/\∀k:Nat,M.testBit k=true↔ ∃h∈l,h.symbol=(k:Int):=by
 have hln:=hl.len;obtain⟨o,ho,M,rfl,hQ⟩:=Am (step:=fun s:Int×Int=>Gy l s.1 s.2)
  (fun s=>∃(j w:Nat),s=((w:Int),(j:Int))/\j<=l.length/\w<2^12/\∀k:Nat,w.testBit k=true↔ ∃i,i<j/\∃h,l[i]? =some h/\h.symbol=(k:Int))
  (fun s=>(l.length-s.2).toNat)
  (fun o=>∃M:Nat,o=(M:Int)/\M<18446744073709551616/\∀k:Nat,M.testBit k=true↔ ∃h∈l,h.symbol=(k:Int))
  (by
   rintro s ⟨j,w,rfl,hj,hw,hm⟩;by_cases he:j=l.length;subst he;refine .inl ⟨(w:Int),by simp only[Gy,ltI,AF],w,rfl,Nat.lt_of_lt_of_le hw (by decide),fun k=>?_⟩;rw[hm k];constructor;rintro⟨i,_,h,hi,hs⟩;exact⟨h,List.mem_of_getElem? hi,hs⟩;rintro⟨h,hh,hs⟩;obtain⟨i,hi⟩:=List.mem_iff_getElem?.1 hh;exact⟨i,(List.getElem?_eq_some_iff.1 hi).1,h,hi,hs⟩;right;obtain⟨y,hy,_⟩:=AP (l:=l) (i:=j) (by omega);have hsy:=hl.sym y (List.mem_of_getElem? hy);obtain⟨z,hz⟩:∃z:Nat,y.symbol=(z:Int):=⟨y.symbol.toNat,by omega⟩;have hz12:z<12:=by omega
   have hwz:w<2^z:=Nat.lt_pow_two_of_testBit w fun i hi=>by
    cases hb:w.testBit i with
    |false=>rfl
    |true=>
     exfalso
     obtain⟨a,ha,h,hh,hs⟩:=(hm i).1 hb
     obtain⟨p1,e1⟩:=List.getElem?_eq_some_iff.1 hh
     obtain⟨p2,e2⟩:=List.getElem?_eq_some_iff.1 hy
     have:=List.pairwise_iff_getElem.1 hl.rise a j p1 p2 ha
     rw[e1,e2]at this
     omega
   have hor:w+2^z=2^z|||w:=by have:=Nat.two_pow_add_eq_or_of_lt hwz 1;rw[Nat.mul_one]at this;rw[Nat.add_comm];exact this
   have hp12:2^z<2^12:=Nat.pow_lt_pow_right (by decide) hz12;have hlt12:w+2^z<2^12:=by rw[hor];exact Nat.or_lt_two_pow hp12 hw
   have hwz2:IntKind.wrap .u64 (z:Int)=(z:Int):=A4 (by omega);refine⟨(((w+2^z:Nat):Int),((j+1:Nat):Int)),?_,⟨j+1,w+2^z,rfl,by omega,hlt12,fun k=>?_⟩,by simp only;omega⟩;simp only[Gy,ltD hy,AG,AK hy,hz,hwz2,An (show(0:Int)<=(z:Int) by omega),Af hy (show l.length<=9223372036854775807 by omega)];rw[aJe (by omega),aIi (Nat.lt_of_lt_of_le hlt12 (by decide))];rw[hor,Nat.testBit_or,Nat.testBit_two_pow,Bool.or_eq_true,decide_eq_true_eq,hm k];constructor;rintro(h|⟨i,hi,a⟩);exact⟨j,by omega,y,hy,by rw[hz,h]⟩;exact⟨i,by omega,a⟩;rintro⟨i,hi,h,hh,hs⟩;rcases Nat.lt_or_ge i j with g|g
   exact .inr ⟨i,g,h,hh,hs⟩;have:i=j:=by omega
   subst this;rw[hy,oe]at hh;subst hh;exact .inl (by omega))
  ((0:Int),(0:Int)) ⟨0,0,rfl,by omega,by decide,fun k=>by simp⟩
 have ho':aHv l 0 0=some (M:Int):=ho;exact⟨M,by unfold Yz;rw[ho',AD],hQ⟩
theorem EN{α:Type}(f:Nat->α->Nat)(P:α->Nat->Prop)(hf:∀w x k,(f w x).testBit k=true↔w.testBit k=true\/P x k):∀(l:List α) (w k:Nat),(l.foldl f w).testBit k=true↔w.testBit k=true\/∃x∈l,P x k
 |[],w,k=>by simp
 |x::l,w,k=>by
  rw[List.foldl_cons,EN f P hf l,hf];constructor;rintro((h|h)|⟨y,hy,h⟩);exact .inl h;exact .inr ⟨x,by simp,h⟩;exact .inr ⟨y,List.mem_cons_of_mem _ hy,h⟩;rintro(h|⟨y,hy,h⟩);exact .inl (.inl h);rcases mc.1 hy with rfl|hy
  exact .inl (.inr h);exact .inr ⟨y,hy,h⟩
theorem Hy(q:AA)(M s k:Nat):(toN q M s).testBit k=true↔ ∃t∈q.trans,(t.from_=(s:Int)/\M.testBit t.symbol.toNat=true)/\t.to.toNat=k:=by
 unfold toN;rw[EN (toF M s) (fun t k=>(t.from_=(s:Int)/\M.testBit t.symbol.toNat=true)/\t.to.toNat=k) (fun w t k=>by unfold toF;by_cases h:t.from_=(s:Int)/\M.testBit t.symbol.toNat=true;rw[if_pos h,Nat.testBit_or,Nat.testBit_two_pow,Bool.or_eq_true,decide_eq_true_eq];exact⟨fun a=>a.elim .inl fun b=>.inr ⟨h,b⟩,fun a=>a.elim .inl fun b=>.inr b.2⟩;rw[if_neg h];exact⟨.inl,fun a=>a.elim id fun b=>absurd b.1 h⟩)]
 simp
theorem J2(q:AA)(M s:Nat):toN q M s=0↔ ∀t∈q.trans,¬(t.from_=(s:Int)/\M.testBit t.symbol.toNat=true):=by
 constructor;intro h t ht hh;have:=(Hy q M s t.to.toNat).2 ⟨t,ht,hh,rfl⟩;rw[h]at this;simp at this;intro h;apply Nat.eq_of_testBit_eq;intro i;rw[Nat.zero_testBit];cases hb:(toN q M s).testBit i with
 |false=>rfl
 |true=>
  obtain⟨t,ht,hh,_⟩:=(Hy q M s i).1 hb
  exact absurd hh (h t ht)
theorem Kk(q:AA)(S M k:Nat):(IJ q S M).testBit k=true↔ ∃s,s<q.states.length/\S.testBit s=true/\(WN q M s).testBit k=true:=by
 unfold IJ;rw[EN (Jp q S M) (fun s k=>S.testBit s=true/\(WN q M s).testBit k=true) (fun w s k=>by unfold Jp;by_cases h:S.testBit s=true;rw[if_pos h,Nat.testBit_or,Bool.or_eq_true];exact⟨fun a=>a.elim .inl fun b=>.inr ⟨h,b⟩,fun a=>a.elim .inl fun b=>.inr b.2⟩;rw[if_neg h];exact⟨.inl,fun a=>a.elim id fun b=>absurd b.1 h⟩)]
 simp only[List.mem_range,Nat.zero_testBit,Bool.false_eq_true,false_or]
theorem Vn{q:AA}(hF:CS q)(hR:Ad q){S M:Nat}{l:List AL}(hl:Pb q.symbols.length l)(hM:∀k:Nat,M.testBit k=true↔ ∃h∈l,h.symbol=(k:Int))(k:Nat):
 (IJ q S M).testBit k=true↔ ∃x,aGh q l (KQ q.states.length S) x/\x.state=(k:Int):=by
 have hsy:=hF.symbols
 have hbit:∀t∈q.trans,(M.testBit t.symbol.toNat=true↔ ∃h∈l,h.symbol=t.symbol):=fun t ht=>by have:=(hR.ends t ht).1;rw[hM,show((t.symbol.toNat:Nat):Int)=t.symbol by omega]
 have hstep:∀(s:Nat) (y:X4),LD q l (X4.mk (s:Int) []) y↔ ∃t∈q.trans,(t.from_=(s:Int)/\M.testBit t.symbol.toNat=true)/\y=X4.mk t.to []:=fun s y=>by unfold LD;constructor;rintro⟨t,ht,h1,h2,h3⟩;exact⟨t,ht,⟨h1,(hbit t ht).2 h2⟩,h3⟩;rintro⟨t,ht,⟨h1,h2⟩,h3⟩;exact⟨t,ht,h1,(hbit t ht).1 h2,h3⟩
 rw[Kk]
 constructor
 rintro⟨s,hs,hSs,hb⟩
 obtain⟨st,hst,_⟩:=AP hs
 have hc:X4.mk (s:Int) []∈KQ q.states.length S:=HO.2 ⟨s,hs,hSs,rfl⟩
 unfold WN at hb
 split at hb
 rename_i h0
 rw[Nat.testBit_two_pow,decide_eq_true_eq]at hb
 subst hb
 refine⟨X4.mk (s:Int) [],⟨_,hc,.inr ⟨fun y hy=>?_,?_,rfl⟩⟩,rfl⟩
 obtain⟨t,ht,hh,_⟩:=(hstep s y).1 hy
 exact(J2 q M s).1 h0.1 t ht hh
 have h2:=h0.2
 rw[hst,Option.map_some,oe]at h2
 exact⟨st,by simpa using hst,h2⟩
 obtain⟨t,ht,hh,hk⟩:=(Hy q M s k).1 hb
 have:=(hR.ends t ht).2.2
 exact⟨X4.mk t.to [],⟨_,hc,.inl ((hstep s _).2 ⟨t,ht,hh,rfl⟩)⟩,by simp only;omega⟩
 rintro⟨x,⟨c,hc,hO⟩,hk⟩
 obtain⟨s,hs,hSs,rfl⟩:=HO.1 hc
 obtain⟨st,hst,_⟩:=AP hs
 refine⟨s,hs,hSs,?_⟩
 unfold WN
 rcases hO with h|⟨hno,⟨st2,hst2,hn⟩,rfl⟩
 obtain⟨t,ht,hh,rfl⟩:=(hstep s x).1 h
 rw[if_neg fun h0=>(J2 q M s).1 h0.1 t ht hh]
 refine(Hy q M s k).2 ⟨t,ht,hh,?_⟩
 simp only at hk;omega
 have h0:toN q M s=0:=(J2 q M s).2 fun t ht hh=>hno _ ((hstep s _).2 ⟨t,ht,hh,rfl⟩)
 have hst':q.states[s]? =some st2:=by simpa using hst2
 rw[if_pos ⟨h0,by rw[hst',Option.map_some,hn]⟩,Nat.testBit_two_pow,decide_eq_true_eq]
 simp only at hk;omega
theorem FK{q:AA}(hF:CS q)(hR:Ad q)(hS:Bg q)(e:X3)(b:List X2):Pb q.symbols.length (((List.range q.symbols.length).filterMap fun i=>DV q i e).filter fun h=>BI h.bind b):=by
 have hsy:=hF.symbols;have hmem:∀h∈(List.range q.symbols.length).filterMap (fun i=>DV q i e),∃i,i<q.symbols.length/\DV q i e=some h:=fun h hh=>by obtain⟨i,hi,hh⟩:=List.mem_filterMap.1 hh;exact⟨i,List.mem_range.1 hi,hh⟩
 refine⟨⟨fun h hh=>?_,?_,?_⟩,fun h hh=>?_⟩;obtain⟨i,_,hi⟩:=hmem h (List.mem_filter.1 hh).1;exact VS hR hS hi;refine List.Pairwise.filter _ ?_;rw[List.pairwise_filterMap];refine List.Pairwise.imp ?_ (List.pairwise_lt_range (n:=q.symbols.length));intro i j hij a ha c hc;have h1:=(Ip ha).1;have h2:=(Ip hc).1;omega;have h1:=List.length_filter_le (fun h:AL=>BI h.bind b) ((List.range q.symbols.length).filterMap fun i=>DV q i e);have h2:=List.length_filterMap_le (fun i=>DV q i e) (List.range q.symbols.length);rw[List.length_range]at h2;omega;obtain⟨i,hi,hh⟩:=hmem h (List.mem_filter.1 hh).1;have:=(Ip hh).1;omega

theorem Fb{α τ:Type}(p:α->Bool)(c d:τ):∀l:List α,(l.findSome? fun t=>if p t=true then some c else none).getD d=if l.any p=true then c else d
 |[]=>rfl
 |x::l=>by
  rw[List.findSome?_cons,List.any_cons];cases h:p x with
  |true=>simp
  |false=>simp only[Bool.false_eq_true,if_false,Bool.false_or];exact Fb p c d l
theorem aDp(l:List Xe)(hl:l.length<=1000):Zw l=some (l.any fun t=>decide (0<=t.guard)):=by
 have hloop:OX l (l.length:Int) 0=some (if(l.any fun t=>decide (0<=t.guard))=true then .inr ((l.findIdx fun t=>decide (0<=t.guard):Nat):Int)else .inl ()):=by unfold OX;refine D7 (step:=fun s=>E2 l (l.length:Int) s) l (fun t=>decide (0<=t.guard)) (fun i x hx=>?_) ?_;simp only[E2,ltD hx,AG,AK hx,Qw,AD,Af hx (show l.length<=9223372036854775807 by omega)];by_cases h:0<=x.guard<;>simp[h,AE];simp only[E2,ltI,AF]
 unfold Zw Y8;rw[hloop,AD];cases h:l.any fun t=>decide (0<=t.guard)with
 |true=>rw[if_pos rfl,DL,AD];simp
 |false=>rw[if_neg (by simp),Bo,AD];rfl
theorem Me{q:AA}(hF:CS q)(hR:Ad q):∃b,Zu q=some b/\Yj q=some b:=by
 have ht:=hF.trans;have hloop:TE q 0=some (if(q.trans.any fun t=>decide (0<=t.guard))=true then .inr ()else .inl ()):=by
  unfold TE;rw[Cl (step:=fun s=>Db q s) q.trans (fun _ t=>if decide (0<=t.guard)=true then some (Sum.inr ():Unit⊕Unit)else none) (.inl ())
   (fun i x hx=>by
    simp only[Db,ltD hx,AG,AK hx,Af hx (show q.trans.length<=9223372036854775807 by omega)];rcases hR.guards x (List.mem_of_getElem? hx)with h|h
    simp[h,AE];have:¬x.guard= -1:=by omega
    simp[h,this,AE]) (by simp only[Db,ltI,AF])]
  rw[B6 (fun t:Xe=>if decide (0<=t.guard)=true then some (Sum.inr ():Unit⊕Unit)else none),Fb]
 unfold Zu Zz Yj;rw[aDp _ (by omega),hloop];generalize (q.trans.any fun t=>decide (0<=t.guard))=g;by_cases h1:q.frees.length=0<;>by_cases h2:q.quants.length<=1<;>by_cases h3:q.states.length<=8<;>by_cases h4:q.symbols.length<=8<;>cases g<;>
  simp[Cy,h1,h2,h3,h4,AH,AE,Ax,show((q.quants.length:Int)<=1)↔q.quants.length<=1 by omega,show((q.states.length:Int)<=8)↔q.states.length<=8 by omega,show((q.symbols.length:Int)<=8)↔q.symbols.length<=8 by omega,show((1:Int)<q.quants.length)↔ ¬q.quants.length<=1 by omega,show((8:Int)<q.states.length)↔ ¬q.states.length<=8 by omega,show((8:Int)<q.symbols.length)↔ ¬q.symbols.length<=8 by omega,show((0:Int)<q.frees.length)↔ ¬q.frees.length=0 by omega,show((q.frees.length:Int)=0)↔q.frees.length=0 by omega,show(0<q.frees.length)↔ ¬q.frees.length=0 by omega]
theorem Fz(l:List X0)(v:X0)(hl:l.length<=1000000):Qb l v=some (decide (v∈l)):=by
 have hloop:aCo l (l.length:Int) v 0=some (if(l.any fun t=>decide (v=t))=true then .inr ((l.findIdx fun t=>decide (v=t):Nat):Int)else .inl ()):=by unfold aCo;refine D7 (step:=fun s=>G5 l (l.length:Int) v s) l (fun t=>decide (v=t)) (fun i x hx=>?_) ?_;simp only[G5,ltD hx,AG,AK hx,X0.eqb_dec,Af hx (show l.length<=9223372036854775807 by omega)];by_cases h:v=x<;>simp[h,AE];simp only[G5,ltI,AF]
 have hany:(l.any fun t=>decide (v=t))=decide (v∈l):=by rw[Bool.eq_iff_iff,List.any_eq_true];simp
 unfold Qb Za;rw[hloop,AD,hany];by_cases h:v∈l;simp only[h,decide_true,if_true,DL,AD];simp;simp only[h,decide_false,Bool.false_eq_true,if_false,Bo,AD];rfl
theorem Ej{w:List X0}{x v:X0}:v∈Hl w x↔v=x\/v∈w:=by unfold Hl;by_cases h:x∈w;rw[if_pos h];exact⟨.inr,fun hh=>hh.elim (fun e=>e▸h) id⟩;rw[if_neg h];simp only[ma,mc,List.mem_filter];cases ltV v x<;>simp<;>constructor<;>(intro hh;rcases hh with a|b<;>simp_all)
theorem FN{α β τ:Type}{step:β×Int->Option (β×Int⊕τ)}(l:List α)(f:β->α->β)(fin:β->τ)(I:Nat->β->Prop)
 (h1:∀(i:Nat) x w,l[i]? =some x->I i w->step (w,(i:Int))=some (.inl (f w x,((i+1:Nat):Int)))/\I (i+1) (f w x))
 (h2:∀w,I l.length w->step (w,(l.length:Int))=some (.inr (fin w))) (w:β) (h0:I 0 w):AT step (w,0)=some (fin (l.foldl f w)):=by
 have h:=DK (step:=step) l (fun i w=>(w,(i:Int))) (fun _ w x=>(.inl (f w x):β⊕τ)) fin I (fun i x w hx hI=>⟨(h1 i x w hx hI).1,fun w' hw=>by cases hw;exact(h1 i x w hx hI).2⟩) h2 (l.length+1) 0 w (by omega) (by omega) h0
 rw[show(w,(0:Int))=(w,((0:Nat):Int))from rfl,h,List.drop_zero]
 congr 1
 clear h h1 h2 h0
 generalize 0=i
 revert i w
 induction l with
 |nil=>intro w i;rfl
 |cons x xs ih=>intro w i;rw[Ix];exact ih _ _
def K2(k:Int)(w:List X0)(a:BJ):List X0:=if a.kind=1/\a.value.kind=k then Hl w a.value else w
def FC(q:AA)(k:Int):List X0:=q.symbols.foldl (fun w s=>s.args.foldl (K2 k) w) (if k=3 then [X0.mk 3 0 [] false,X0.mk 3 0 [] true]else [])
theorem HV{α β:Type}(I:Nat->β->Prop)(f:β->α->β):∀(l:List α) (i:Nat) (w:β),(∀(j:Nat) x w,x∈l->I j w->I (j+1) (f w x))->I i w->I (i+l.length) (l.foldl f w)
 |[],i,w,_,h0=>h0
 |x::l,i,w,h,h0=>by
  rw[List.foldl_cons,List.length_cons,show i+(l.length+1)=(i+1)+l.length by omega];exact HV I f l (i+1) _ (fun j y w hy=>h j y w (List.mem_cons_of_mem _ hy)) (h i x w (by simp) h0)
theorem Pj(k:Int):SW (if k=3 then [X0.mk 3 0 [] false,X0.mk 3 0 [] true]else []):=by
 split;refine⟨?_,?_⟩;simp[ltV];intro v hv;simp only[mc,List.not_mem_nil,or_false]at hv;rcases hv with rfl|rfl<;>decide
 exact⟨List.Pairwise.nil,by simp⟩
theorem NQ{k:Int}{w:List X0}{a:BJ}{n:Nat}(ha:a.kind=1->vR a.value=true)(hw:SW w)(hl:w.length<=n):SW (K2 k w a)/\(K2 k w a).length<=n+1:=by unfold K2;split;rename_i h;have:=KB hw (ha h.1);refine⟨this.1,?_⟩;rw[this.2];split<;>omega;exact⟨hw,by omega⟩
theorem NR{q:AA}(hF:CS q)(hR:Ad q){s:X8}(hs:s∈q.symbols){k:Int}{w:List X0}{n:Nat}(hw:SW w)(hl:w.length<=n):SW (s.args.foldl (K2 k) w)/\(s.args.foldl (K2 k) w).length<=n+12:=by have h:=HV (fun i w=>SW w/\w.length<=n+i) (K2 k) s.args 0 w (fun j a w ha hI=>NQ ((hR.symbols s hs).args a ha).one hI.1 hI.2) ⟨hw,by omega⟩;have:=hF.args s hs;exact⟨h.1,by omega⟩
theorem cons_inv{q:AA}(hF:CS q)(hR:Ad q)(k:Int):SW (FC q k)/\(FC q k).length<=200:=by
 have h:=HV (fun i w=>SW w/\w.length<=2+12*i) (fun w s=>s.args.foldl (K2 k) w) q.symbols 0 (if k=3 then [X0.mk 3 0 [] false,X0.mk 3 0 [] true]else [])
  (fun j s w hs hI=>by have:=NR hF hR hs (k:=k) hI.1 hI.2;exact⟨this.1,by omega⟩) ⟨Pj k,by split<;>simp⟩
 have:=hF.symbols;exact⟨h.1,by unfold FC;omega⟩
theorem aKm{q:AA}(hF:CS q)(hR:Ad q)(k:Int):Xm q k=some (FC q k):=by
 have hsy:=hF.symbols;have hb:RX k (decide (k=3)) q=some (if k=3 then [X0.mk 3 0 [] false,X0.mk 3 0 [] true]else []):=by unfold RX;rw[Cy];split<;>rfl
 have hin:∀(s:X8) (i:Nat) (w:List X0),q.symbols[i]? =some s->SW w->w.length<=200->YO k (i:Int) q w 0=some (s.args.foldl (K2 k) w):=by intro s i w hxs hw hl;have hs:=List.mem_of_getElem? hxs;have ha:=hF.args s hs;unfold YO;refine FN (step:=fun z:List X0×Int=>GW k (i:Int) q z.1 z.2) s.args (K2 k) id (fun j w=>SW w/\w.length<=200+j) (fun j a w hx hI=>?_) (fun w _=>?_) w ⟨hw,by omega⟩;have hv:=((hR.symbols s hs).args a (List.mem_of_getElem? hx)).one;have hlt:=(List.getElem?_eq_some_iff.1 hx).1;refine⟨?_,NQ hv hI.1 hI.2⟩;simp only[GW,AK hxs,ltD hx,AG,YL,AK hx,Af hx (show s.args.length<=9223372036854775807 by omega),RY];unfold K2;by_cases h1:a.kind=1<;>by_cases h2:a.value.kind=k;rw[Cy,if_pos h1,Cy,if_pos h2,if_pos ⟨h1,h2⟩,aBp hI.1 (hv h1) (by have:=hI.2;omega)];rfl;rw[Cy,if_pos h1,Cy,if_neg h2,if_neg (fun h=>h2 h.2)];rfl;rw[Cy,if_neg h1,if_neg (fun h=>h1 h.1)];rfl;rw[Cy,if_neg h1,if_neg (fun h=>h1 h.1)];rfl;simp only[GW,AK hxs,ltI,AF,id]
 unfold Xm aG2;rw[hb,AD,FN (step:=fun z:List X0×Int=>GV k q z.1 z.2) q.symbols (fun w s=>s.args.foldl (K2 k) w) id (fun j w=>SW w/\w.length<=2+12*j)
  (fun j s w hx hI=>by have hs:=List.mem_of_getElem? hx;have hlt:=(List.getElem?_eq_some_iff.1 hx).1;have:=NR hF hR hs (k:=k) hI.1 hI.2;refine⟨?_,this.1,by omega⟩;simp only[GV,ltD hx,AG,Af hx (show q.symbols.length<=9223372036854775807 by omega)];rw[hin s j w hx hI.1 (by have:=hI.2;omega)];rfl)
  (fun w _=>by simp only[GV,ltI,AF,id]) _ ⟨Pj k,by split<;>simp⟩,AD]
 rfl
def Es(k:Int)(j:Nat):X0:=if k=1 then⟨k,(j:Int),[],false⟩else⟨k,0,List.replicate j 97,false⟩
theorem aEf{k:Int}{i j:Nat}(h:Es k i=Es k j):i=j:=by
 unfold Es at h;split at h;injection h with _ h2;omega
 injection h with _ _ h3
 have:=congrArg List.length h3;simpa using this
theorem Ki(k:Int)(j:Nat):(Es k j).kind=k:=by unfold Es;split<;>rfl
theorem Vl{k:Int}{j:Nat}(hk:k=1\/k=2)(hj:j<=1000):vR (Es k j)=true:=by
 unfold Es vR;rcases hk with rfl|rfl
 simp;simp;omega
theorem aF5{α:Type} [DecidableEq α](f:Nat->α)(hf:∀i j,f i=f j->i=j):∀(n:Nat) (l:List α),(∀i,i<n->f i∈l)->n<=l.length
 |0,_,_=>Nat.zero_le _
 |n+1,l,h=>by
  have hm:=h n (by omega);have:=aF5 f hf n (l.erase (f n)) (fun i hi=>(List.mem_erase_of_ne (fun e=>by have:=hf _ _ e;omega)).2 (h i (by omega)));rw[List.length_erase_of_mem hm]at this;have:0<l.length:=List.length_pos_of_mem hm;omega
theorem aJs{w:List X0}{v:X0}(hw:SW w)(hv:vR v=true)(hl:w.length<=900):Qm w v=some (decide (v∈w)):=by unfold Qm;rw[aBp hw hv hl,AD,(KB hw hv).2];by_cases h:v∈w;simp[h];simp only[h,if_false,decide_false,oe,decide_eq_false_iff_not];omega
theorem Kj(k:Int)(j:Nat)(hk:k=1\/k=2)(hj:j<=1000)(l:List X0)(z:X0):SO k l z (Es k j)=some (Es k (j+1))/\Sj k l z (Es k j)=some (Es k (j+1)):=by
 unfold SO Sj aAe aA3 Es;rcases hk with rfl|rfl
 simp only[if_true,decide_true,AG,AD];rw[aFg (by omega) (by omega)];simp;simp only[show¬(2:Int)=1 by decide,if_false,decide_false,AF,List.length_replicate];rw[An (by simp;omega)];simp[AH,List.replicate_succ']
theorem Ns{k:Int}(hk:k=1\/k=2){l w:List X0}(hl:l.length<=1000)(hw:SW w)(hwl:w.length<=900)(hm:∀v,v.kind=k->(v∈w↔v∈l))(z:X0):∀(m j:Nat),j+m<=900->(∃i,j<=i/\i<j+m/\Es k i∉l)->∃i,j<=i/\i<j+m/\Es k i∉l/\OV k l z (Es k j)=some (Es k i)/\Sk k w z (Es k j)=some (Es k i)
 |0,j,_,⟨i,h1,h2,_⟩=>by omega
 |m+1,j,hj,⟨i,h1,h2,h3⟩=>by
  have e1:Qb l (Es k j)=some (decide (Es k j∈l)):=Fz _ _ (by omega);have e2:Qm w (Es k j)=some (decide (Es k j∈l)):=by rw[aJs hw (Vl hk (by omega)) hwl];simp only[hm _ (Ki k j)]
  by_cases h:Es k j∈l;have hne:i≠j:=fun e=>h3 (e▸h);obtain⟨i',a1,a2,a3,a4,a5⟩:=Ns hk hl hw hwl hm z m (j+1) (by omega) ⟨i,by omega,by omega,h3⟩;refine⟨i',by omega,by omega,a3,?_,?_⟩;rw[M7];unfold Gd;rw[e1,AD];simp only[h,decide_true,AG,(Kj k j hk (by omega) l z).1,AD,Co];exact a4;rw[ND];unfold Gh;rw[e2,AD];simp only[h,decide_true,AG,(Kj k j hk (by omega) w z).2,AD,Co];exact a5;refine⟨j,by omega,by omega,h,?_,?_⟩;rw[M7];unfold Gd;rw[e1,AD];simp only[h,decide_false,AF,CE];rw[ND];unfold Gh;rw[e2,AD];simp only[h,decide_false,AF,CE]
def Jc(n:Nat)(p:Nat->Bool):Nat:=(List.range n).foldl (fun w i=>if p i=true then w|||2^i else w) 0
theorem Ov(n:Nat)(p:Nat->Bool):Jc (n+1) p=if p n=true then Jc n p|||2^n else Jc n p:=by unfold Jc;rw[List.range_succ,List.foldl_append];rfl
theorem KM(n:Nat)(p:Nat->Bool)(k:Nat):(Jc n p).testBit k=true↔k<n/\p k=true:=by
 induction n with
 |zero=>simp[Jc]
 |succ n ih=>
  rw[Ov]
  split
  rename_i h
  rw[Nat.testBit_or,Nat.testBit_two_pow,Bool.or_eq_true,decide_eq_true_eq,ih]
  constructor
  rintro(⟨a,b⟩|rfl)
  exact⟨by omega,b⟩
  exact⟨by omega,h⟩
  rintro⟨a,b⟩
  by_cases hk:n=k
  exact .inr hk
  exact .inl ⟨by omega,b⟩
  rename_i h
  rw[ih]
  constructor
  rintro⟨a,b⟩;exact⟨by omega,b⟩
  rintro⟨a,b⟩
  refine⟨?_,b⟩
  by_cases hk:n=k
  subst hk;exact absurd b h
  omega
end
end Go.Ac
