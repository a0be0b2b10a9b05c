/- Own work: the plain law. -/
import Derived.Test.YthaljpcbnneidaaGreatSh37h
import Derived.Test.YthaljpcbnneidaaGreatAcC
set_option linter.unusedVariables false
set_option linter.unusedSimpArgs false
namespace Go.Ac
noncomputable section
def vR(v:X0):Bool:=
 if v.kind=1 then decide (v.str=[])&& !v.bool
 else if v.kind=2 then decide (v.int=0)&& !v.bool&&decide (v.str.length<=4096)
 else if v.kind=3 then decide (v.int=0)&&decide (v.str=[])else false
theorem aGa(v:X0):Zd v=some (vR v):=by
 unfold Zd vR;have hc:decide ((v.str.length:Int)<=4096)=decide (v.str.length<=4096):=by
  by_cases h:v.str.length<=4096;have:(v.str.length:Int)<=4096:=by omega
  simp[h,this];have:¬(v.str.length:Int)<=4096:=by omega
  simp[h,this]
 rw[hc];by_cases h1:v.kind=1;by_cases hs:v.str=[]<;>simp[h1,hs,AE];by_cases h2:v.kind=2;by_cases hn:v.int=0<;>cases hb:v.bool<;>simp[h2,hn,AE];by_cases h3:v.kind=3;by_cases hn:v.int=0<;>simp[h3,hn,AE];simp[h1,h2,h3,AE]
theorem X2.eqb_dec(a b:X2):X2.eqb a b=decide (a=b):=by rw[Bool.eq_iff_iff,X2.eqb_iff];simp
theorem X0.eqb_dec(a b:X0):X0.eqb a b=decide (a=b):=by rw[Bool.eq_iff_iff,X0.eqb_iff];simp
def zV:X0:=⟨0,0,[],false⟩
def B4(l:List X2)(v:Int):X0×Bool:=match l.findSome? (fun s=>if s.var=v then some s.value else none)with
 |some x=>(x,true)
 |none=>(zV,false)
theorem Uf(l:List X2)(v:Int)(o:Unit⊕X0)(h:o=(l.findSome? (fun s=>if s.var=v then some (Sum.inr s.value:Unit⊕X0)else none)).getD (.inl ())):
 Ay o (fun _=>some (X0.mk 0 0 ([]:List UInt8) false,false)) (fun o4=>some (o4,true))=some (B4 l v):=by
 subst h
 have e:l.findSome? (fun s=>if s.var=v then some (Sum.inr s.value:Unit⊕X0)else none)=(l.findSome? (fun s=>if s.var=v then some s.value else none)).map Sum.inr:=by
  induction l with
  |nil=>rfl
  |cons s l ih=>rw[List.findSome?_cons,List.findSome?_cons];by_cases h:s.var=v<;>simp[h,ih]
 rw[e]
 unfold B4
 cases l.findSome? (fun s=>if s.var=v then some s.value else none)<;>rfl
theorem ZB(l:List X2)(v:Int)(hl:l.length<=9223372036854775807):Y9 l v=some (B4 l v):=by
 unfold Y9 aFf;rw[Ck l (fun _ s=>if s.var=v then some (Sum.inr s.value:Unit⊕X0)else none) (.inl ())
  (fun i x hx=>by simp only[I5,ltD hx,AH,AK hx,Ag hx hl,Cr];by_cases h:x.var=v<;>simp[h])
  (by simp only[I5,ltI,AF]),B6,AD]
 exact Uf l v _ rfl
theorem aN2(l:List X2)(v:Int)(hl:l.length<=9223372036854775807):Z3 l v=some (B4 l v):=by
 unfold Z3 aF2;rw[Ck l (fun _ s=>if s.var=v then some (Sum.inr s.value:Unit⊕X0)else none) (.inl ())
  (fun i x hx=>by simp only[JF,ltD hx,AH,AK hx,Ag hx hl,Cr];by_cases h:x.var=v<;>simp[h])
  (by simp only[JF,ltI,AF]),B6,AD]
 exact Uf l v _ rfl
theorem aDh(v:X0):∃b,Zd v=some b:=by
 unfold Zd;simp only[A8];repeat' split
 all_goals exact⟨_,rfl⟩
theorem Cw{l:List X2}{v:Int}{x:X0}(h:B4 l v=(x,true)):X2.mk v x∈l:=by unfold B4 at h;split at h;rename_i y hy;cases h;obtain⟨s,hs,hv⟩:=List.exists_of_findSome?_eq_some hy;split at hv;rename_i e;cases hv;rw[<-e];exact hs;cases hv;cases h
theorem DO{β:Type}{a b n:Nat}(h:a+b<=1073741824)(hn:n<=131072)(k:Option β):Ai (fit a b n) k=k:=An (HI h hn) k
structure CX(q:AA):Prop where
 decls:q.decls.length<=12
 quants:q.quants.length<=9
 frees:q.frees.length<=12
 states:q.states.length<=12
 symbols:q.symbols.length<=12
 trans:q.trans.length<=12
 nodes:q.nodes.length<=40
 args:∀s∈q.symbols,s.args.length<=12
 sets:∀t∈q.trans,t.sets.length<=12
theorem EK{α:Type}{l:List α}{R:α->Prop}(h:∀j,j<l.length->∀x,l[j]? =some x->R x):∀x∈l,R x:=by intro x hx;obtain⟨j,hj,rfl⟩:=List.mem_iff_getElem.1 hx;exact h j hj _ (List.getElem?_eq_getElem hj)
theorem aMi(q:AA):∃n,Xf q=some n/\(n≠0->CX q):=by
 unfold Xf;simp only[Cr];iterate 8 (split; · exact⟨0,rfl,by simp⟩)
 rename_i h1 h2 h3 h4 h5 h6 h7 h8;have hd:q.decls.length<=9223372036854775807:=by omega
 have hs:q.symbols.length<=9223372036854775807:=by omega
 have hf:q.frees.length<=9223372036854775807:=by omega
 have hn:q.nodes.length<=9223372036854775807:=by omega
 have ht:q.trans.length<=9223372036854775807:=by omega
 obtain⟨t1,e1,_⟩:=Af (step:=fun s=>GD q s) q.decls.length (fun _=>True) (fun _=>True)
  (fun i hi=>by
   obtain⟨x,hx,_⟩:=AP hi;simp only[GD,ltD hx,AH,AK hx,Ag hx hd];simp only[A8];repeat' split
   all_goals first|exact .inl ⟨rfl,trivial⟩|exact .inr ⟨_,rfl,trivial⟩)
  (fun _=>⟨.inl (),by simp only[GD,ltI,AF],trivial⟩)
 obtain⟨t2,e2,Q2⟩:=Af (step:=fun s=>GE q s) q.symbols.length (fun i=>∀x,q.symbols[i]? =some x->x.args.length<=12) (fun t=>t=.inl ()->∀s∈q.symbols,s.args.length<=12)
  (fun i hi=>by
   obtain⟨x,hx,_⟩:=AP hi;simp only[GE,ltD hx,AH,AK hx,Ag hx hs,Cr];split;exact .inr ⟨_,rfl,by simp⟩;rename_i h12;obtain⟨t3,e3,_⟩:=Af (step:=fun s=>GF (i:Int) q s) x.args.length (fun _=>True) (fun _=>True)
    (fun j hj=>by obtain⟨y,hy,_⟩:=AP hj;simp only[GF,AK hx,ltD hy,AH,AK hy,Ag hy (show x.args.length<=9223372036854775807 by omega)];simp only[A8];split;exact .inr ⟨_,rfl,trivial⟩;exact .inl ⟨rfl,trivial⟩)
    (fun _=>⟨.inl (),by simp only[GF,AK hx,ltI,AF],trivial⟩)
   unfold aEx;rw[e3,AD];rcases t3 with _|_
   exact .inl ⟨rfl,fun y hy=>by rw[hx]at hy;cases hy;omega⟩;exact .inr ⟨_,rfl,by simp⟩)
  (fun hP=>⟨.inl (),by simp only[GE,ltI,AF],fun _=>EK hP⟩)
 obtain⟨t4,e4,_⟩:=Af (step:=fun s=>GG q s) q.frees.length (fun _=>True) (fun _=>True)
  (fun i hi=>by obtain⟨x,hx,_⟩:=AP hi;simp only[GG,ltD hx,AH,AK hx,Ag hx hf];simp only[A8];split;exact .inr ⟨_,rfl,trivial⟩;exact .inl ⟨rfl,trivial⟩)
  (fun _=>⟨.inl (),by simp only[GG,ltI,AF],trivial⟩)
 obtain⟨t5,e5,_⟩:=Af (step:=fun s=>GH q s) q.nodes.length (fun _=>True) (fun _=>True)
  (fun i hi=>by obtain⟨x,hx,_⟩:=AP hi;simp only[GH,ltD hx,AH,AK hx,Ag hx hn];simp only[A8];split;exact .inr ⟨_,rfl,trivial⟩;exact .inl ⟨rfl,trivial⟩)
  (fun _=>⟨.inl (),by simp only[GH,ltI,AF],trivial⟩)
 obtain⟨t6,e6,Q6⟩:=Af (step:=fun s=>GI q s) q.trans.length (fun i=>∀x,q.trans[i]? =some x->x.sets.length<=12) (fun t=>t=.inl ()->∀s∈q.trans,s.sets.length<=12)
  (fun i hi=>by obtain⟨x,hx,_⟩:=AP hi;simp only[GI,ltD hx,AH,AK hx,Ag hx ht,Cr];split;exact .inr ⟨_,rfl,by simp⟩;exact .inl ⟨rfl,fun y hy=>by rw[hx]at hy;cases hy;omega⟩)
  (fun hP=>⟨.inl (),by simp only[GI,ltI,AF],fun _=>EK hP⟩)
 unfold aEv aEw aEy aEz aE0;rw[e1,AD,e2,e4,e5,e6];simp only[AD];rcases t1 with _|_<;>rcases t2 with _|_<;>rcases t4 with _|_<;>rcases t5 with _|_<;>rcases t6 with _|_<;>simp only[Bo,C5]<;>
  first
  |exact⟨0,rfl,by simp⟩
  |exact⟨1,rfl,fun _=>⟨by omega,by omega,by omega,by omega,by omega,by omega,by omega,Q2 rfl,Q6 rfl⟩⟩
theorem aJq(s:List UInt8):∃b,Yy s=some b:=by
 unfold Yy;simp only[Cr];split;exact⟨_,rfl⟩;split;exact⟨_,rfl⟩;obtain⟨t1,e1,_⟩:=Af (step:=fun i=>Gr s i) s.length (fun _=>True) (fun _=>True)
  (fun i hi=>by
   obtain⟨x,hx,_⟩:=AP hi;simp only[Gr,ltD hx,AH,AK hx,Ag hx (show s.length<=9223372036854775807 by omega)];simp only[A8];repeat' split
   all_goals first|exact .inl ⟨rfl,trivial⟩|exact .inr ⟨_,rfl,trivial⟩)
  (fun _=>⟨.inl (),by simp only[Gr,ltI,AF],trivial⟩)
 unfold aFy;rw[e1,AD];rcases t1 with _|_<;>exact⟨_,rfl⟩
theorem NC(s:List UInt8):∃b,Yg s=some b:=by
 unfold Yg Qs;rw[AD];generalize hw:([([97,99,99,101,112,116]:List UInt8),([97,108,115,111]:List UInt8),([97,110,100]:List UInt8),([98,111,111,108]:List UInt8),([100,111]:List UInt8),([101,118,101,110,116]:List UInt8),([101,120,105,115,116,115]:List UInt8),([102,97,108,115,101]:List UInt8),([102,111,114,97,108,108]:List UInt8),([102,114,101,101]:List UInt8),([105,102]:List UInt8),([105,110,116]:List UInt8),([110,101,120,116]:List UInt8),([110,111,116]:List UInt8),([111,110]:List UInt8),([111,114]:List UInt8),([113,101,97]:List UInt8),([115,107,105,112]:List UInt8),([115,116,97,114,116]:List UInt8),([115,116,114,105,110,103]:List UInt8),([116,111]:List UInt8),([116,114,117,101]:List UInt8)]:List (List UInt8))=ws;have hl:ws.length<=9223372036854775807:=by rw[<-hw];simp
 obtain⟨t1,e1,_⟩:=Af (step:=fun i=>Gf s ws i) ws.length (fun _=>True) (fun _=>True)
  (fun i hi=>by obtain⟨x,hx,_⟩:=AP hi;simp only[Gf,ltD hx,AH,AK hx,Ag hx hl];simp only[A8];split;exact .inr ⟨_,rfl,trivial⟩;exact .inl ⟨rfl,trivial⟩)
  (fun _=>⟨.inl (),by simp only[Gf,ltI,AF],trivial⟩)
 unfold aFk;rw[e1,AD];rcases t1 with _|_
 obtain⟨b,hb⟩:=aJq s;rw[Bo,hb,AD];cases b<;>exact⟨_,rfl⟩;exact⟨_,rfl⟩
def EA(l:List X7)(n:List UInt8):Option Nat:=if l.any (fun d=>decide (d.name=n))=true then some (l.findIdx fun d=>decide (d.name=n))else none
theorem aJk(l:List X7)(n:List UInt8)(hl:l.length<=9223372036854775807):Ys l n=some (match EA l n with|some i=>(i:Int)|none=> -1):=by
 unfold Ys aFt;rw[D6 l (fun d=>decide (d.name=n))
  (fun i x hx=>by simp only[JE,ltD hx,AH,AK hx,Ag hx hl];simp only[A8];cases decide (x.name=n)<;>rfl)
  (by simp only[JE,ltI,AF]),AD]
 unfold EA;cases l.any _<;>rfl
theorem Ia{l:List X7}{n:List UInt8}{i:Nat}(h:EA l n=some i):∃d,l[i]? =some d/\d.name=n:=by unfold EA at h;split at h;rename_i ha;cases h;obtain⟨d,hd,hn⟩:=List.any_eq_true.1 ha;have hlt:=List.findIdx_lt_length_of_exists (p:=fun d=>decide (d.name=n)) ⟨d,hd,hn⟩;exact⟨_,List.getElem?_eq_getElem hlt,by simpa using List.findIdx_getElem (w:=hlt)⟩;cases h
theorem aBz{l:List X7}{n:List UInt8}{j:Nat}{d:X7}(hj:l[j]? =some d)(hn:d.name=n):∃i,EA l n=some i/\i<=j:=by have ha:l.any (fun d=>decide (d.name=n))=true:=List.any_eq_true.2 ⟨d,List.mem_of_getElem? hj,by simpa using hn⟩;refine⟨l.findIdx fun d=>decide (d.name=n),by unfold EA;rw[if_pos ha],?_⟩;refine Nat.le_of_not_lt fun hlt=>?_;have:=List.not_of_lt_findIdx hlt;obtain⟨h1,rfl⟩:=List.getElem?_eq_some_iff.1 hj;simp[hn]at this
def K9(l:List X7):Prop:=∀j d,l[j]? =some d->EA l d.name=some j
theorem aMv(l:List X7)(hl:l.length<=9223372036854775807):∃r,Xr l=some r/\(r.1=0->K9 l):=by
 unfold Xr;rw[Cr];split;exact⟨_,rfl,by simp⟩;obtain⟨t1,e1,Q1⟩:=Af (step:=fun i=>DZ l i) l.length (fun i=>∀d,l[i]? =some d->EA l d.name=some i) (fun t=>match t with| .inl _=>K9 l| .inr r=>r.1≠0)
  (fun i hi=>by
   obtain⟨x,hx,_⟩:=AP hi;obtain⟨b,hb⟩:=NC x.name;simp only[DZ,ltD hx,AH,AK hx,Ag hx hl,hb,AD,aJk l _ hl];cases b with
   |false=>exact .inr ⟨_,rfl,by simp⟩
   |true=>
    simp only[Bool.not_true,AF]
    obtain⟨k,hk,hki⟩:=aBz hx rfl
    rw[hk]
    dsimp only
    rw[Cr]
    split
    exact .inr ⟨_,rfl,by simp⟩
    ·rename_i hge
     rw[Cr]
     split
     exact .inr ⟨_,rfl,by simp⟩
     ·obtain⟨t2,e2,_⟩:=Af (step:=fun s=>Da l (i:Int) s) x.types.length (fun _=>True) (fun _=>True)
       (fun j hj=>by
        obtain⟨y,hy,_⟩:=AP hj;simp only[Da,AK hx,ltD hy,AH,AK hy,Ag hy (show x.types.length<=9223372036854775807 by omega)];simp only[A8];repeat' split
        all_goals first|exact .inl ⟨rfl,trivial⟩|exact .inr ⟨_,rfl,trivial⟩)
       (fun _=>⟨.inl (),by simp only[Da,AK hx,ltI,AF],trivial⟩)
      unfold XL
      rw[e2,AD]
      rcases t2 with _|_
      refine .inl ⟨rfl,fun d hd=>?_⟩
      rw[hx]at hd;cases hd
      have:k=i:=by omega
      rw[hk,this]
      exact .inr ⟨_,rfl,by simp⟩)
  (fun hP=>⟨.inl (),by simp only[DZ,ltI,AF],fun j d hd=>hP j (At hd) d hd⟩)
 unfold XJ;rw[e1,AD];rcases t1 with _|r
 exact⟨_,rfl,fun _=>Q1⟩;exact⟨_,rfl,fun h=>absurd h Q1⟩
theorem aDi(op:Int):∃r,Zy op 0 0=some r:=by unfold Zy;rw[show Ql 0 0=some (AB .add .i64 0 0,true) by simp[Ql,AE],show Zx 0 0=some (AB .sub .i64 0 0,true) by simp[Zx,AE],show Qm 0 0=some (0,true) by simp[Qm,AE],show Qn 0 0=some (0,0,7) by simp[Qn,AE]];simp only[AD,Q3,Bool.not_true,AF];refine Iq ?_;repeat' first|exact⟨_,rfl,trivial⟩|refine A5 (fun _=>?_) (fun _=>?_)|refine NX (fun _=>?_) (fun _=>?_)
theorem aPd(a b:Int):∃r,Zl ⟨a,0,[],false⟩ ⟨b,0,[],false⟩=some r:=by
 unfold Zl;have hb:Yq [] []=some false:=by unfold Yq aAf;rw[BG];simp[E4,AE,BP,AG,Ay]
 simp only[hb,AD];refine Iq ?_;repeat' first|exact⟨_,rfl,trivial⟩|refine A5 (fun _=>?_) (fun _=>?_)|refine B9 (fun _=>?_) (fun _=>?_)|refine NX (fun _=>?_) (fun _=>?_)
theorem aPo(op a b:Int):∃r,Zn op ⟨a,0,[],false⟩ ⟨b,0,[],false⟩=some r:=by unfold Zn;obtain⟨r1,h1⟩:=aPd a b;obtain⟨r2,h2⟩:=aPd b a;obtain⟨r3,h3⟩:=aDi 9;obtain⟨r4,h4⟩:=aDi op;have h4':Zy op 0 0=some r4:=h4;have hc:∀{β:Type} (k:Option β),Ai (([]:List UInt8).length+([]:List UInt8).length<=9223372036854775807) k=k:=fun k=>An (by simp) k;simp only[Zi,AD,h1,h2,h3,h4',hc,AF];refine Iq ?_;repeat' first|exact⟨_,rfl,trivial⟩|refine A5 (fun _=>?_) (fun _=>?_)|refine B9 (fun _=>?_) (fun _=>?_)|refine NX (fun _=>?_) (fun _=>?_)
theorem aH1(op a b:Int):∃r,Q4 op a b=some r/\(r≠0->a≠0):=by unfold Q4;obtain⟨r,hr⟩:=aPo op a b;rw[hr];simp only[AD];refine A5 (fun _=>⟨_,rfl,by simp⟩) (fun h=>?_);repeat' first|exact⟨_,rfl,fun _=>by omega⟩|refine A5 (fun _=>?_) (fun _=>?_)|refine B9 (fun _=>?_) (fun _=>?_)
theorem O0{α:Type}{l:List α}{i:Int}(h0:0<=i)(h1:i<l.length):∃x,l[i.toNat]? =some x/\i=(i.toNat:Int):=by obtain⟨x,hx,_⟩:=AP (l:=l) (i:=i.toNat) (by omega);exact⟨x,hx,by omega⟩
theorem CN{α β:Type}{l:List α}{i:Int}{x:α}(h:l[i.toNat]? =some x)(h0:0<=i)(k:α->Option β):AW l i k=k x:=by have e:AW l ((i.toNat:Nat):Int) k=k x:=AK h k;rwa [show((i.toNat:Nat):Int)=i by omega]at e
theorem aBp(q:AA)(hq:q.nodes.length<=2048):∀(n:Nat) (i:Int),-9223372036854775000<=i->0<n->i+1<n->∃r,aDg n q i=some r/\(r.1≠0->0<=r.2.2/\r.2.2<=i/\i<q.nodes.length):=by
 intro n;induction n with
 |zero=>intro i h0 h;omega
 |succ n ih=>
  intro i h0 _ h
  show∃r,aFz (aDg n) q i=some r/\_
  unfold aFz
  refine A5 (fun _=>⟨_,rfl,by simp⟩) (fun hi0=>?_)
  refine A5 (fun _=>⟨_,rfl,by simp⟩) (fun hi1=>?_)
  obtain⟨x,hx,_⟩:=O0 (l:=q.nodes) (i:=i) (by omega) (by omega)
  rw[CN hx (by omega)]
  obtain⟨b,hb⟩:=aDh x.value
  have e1:AB .sub .i64 i 1=i-1:=aEf (by omega) (by omega)
  rw[e1]
  refine A5 (fun _=>?_) (fun _=>?_)
  refine B9 (fun _=>⟨_,rfl,by simp⟩) (fun _=>?_)
  refine B9 (fun _=>⟨_,rfl,by simp⟩) (fun _=>?_)
  refine BA hb ?_
  exact FA (fun _=>⟨_,rfl,by simp⟩) (fun _=>⟨_,rfl,fun _=>⟨by simp only;omega,Int.le_refl _,by omega⟩⟩)
  refine FA (fun _=>⟨_,rfl,by simp⟩) (fun _=>?_)
  refine A5 (fun _=>?_) (fun _=>?_)
  refine A5 (fun _=>⟨_,rfl,by simp⟩) (fun _=>?_)
  refine A5 (fun _=>⟨_,rfl,by simp⟩) (fun _=>?_)
  refine B9 (fun _=>⟨_,rfl,by simp⟩) (fun _=>?_)
  obtain⟨y,hy,_⟩:=O0 (l:=q.quants) (i:=x.a) (by omega) (by omega)
  rw[CN hy (by omega)]
  exact⟨_,rfl,fun _=>⟨by simp only;omega,Int.le_refl _,by omega⟩⟩
  refine A5 (fun _=>?_) (fun _=>?_)
  refine A5 (fun _=>⟨_,rfl,by simp⟩) (fun _=>?_)
  refine A5 (fun _=>⟨_,rfl,by simp⟩) (fun _=>?_)
  refine B9 (fun _=>⟨_,rfl,by simp⟩) (fun _=>?_)
  obtain⟨y,hy,_⟩:=O0 (l:=q.frees) (i:=x.a) (by omega) (by omega)
  rw[CN hy (by omega)]
  exact⟨_,rfl,fun _=>⟨by simp only;omega,Int.le_refl _,by omega⟩⟩
  refine A5 (fun _=>⟨_,rfl,by simp⟩) (fun _=>?_)
  refine A5 (fun _=>⟨_,rfl,by simp⟩) (fun _=>?_)
  obtain⟨r5,h5,p5⟩:=ih (i-1) (by omega) (by omega) (by omega)
  refine BA h5 ?_
  refine A5 (fun _=>?_) (fun _=>?_)
  refine A5 (fun _=>⟨_,rfl,by simp⟩) (fun hk=>?_)
  refine B9 (fun _=>⟨_,rfl,by simp⟩) (fun _=>?_)
  refine B9 (fun _=>⟨_,rfl,by simp⟩) (fun _=>?_)
  obtain⟨r6,h6,_⟩:=aH1 x.op r5.1 r5.1
  refine BA h6 ?_
  have:=p5 hk
  exact⟨_,rfl,fun _=>by simp only;omega⟩
  refine A5 (fun _=>⟨_,rfl,by simp⟩) (fun hk=>?_)
  have hp:=p5 hk
  have e2:AB .sub .i64 r5.2.2 1=r5.2.2-1:=aEf (by omega) (by omega)
  rw[e2]
  refine B9 (fun _=>⟨_,rfl,by simp⟩) (fun _=>?_)
  refine B9 (fun _=>⟨_,rfl,by simp⟩) (fun _=>?_)
  obtain⟨r7,h7,p7⟩:=ih (r5.2.2-1) (by omega) (by omega) (by omega)
  refine BA h7 ?_
  obtain⟨r8,h8,p8⟩:=aH1 x.op r7.1 r5.1
  refine BA h8 ?_
  refine⟨_,rfl,fun h=>?_⟩
  have:=p7 (p8 h)
  simp only;omega
theorem PY(q:AA)(hq:q.nodes.length<=2048)(f i:Int)(hi: -9223372036854775808<=i/\i<=9223372036854775807):∃r,Q7 q f i=some r/\(r.1≠0->0<=i/\i<q.nodes.length):=by
 unfold Q7 Yz;by_cases h:0<=i/\i<q.nodes.length;obtain⟨r,hr,_⟩:=aBp q hq 100000 i (by omega) (by omega) (by omega);refine BA hr ?_;refine A5 (fun _=>⟨_,rfl,by simp⟩) (fun _=>?_);exact B9 (fun _=>⟨_,rfl,by simp⟩) (fun _=>⟨_,rfl,fun _=>h⟩);have hz:aDg 100000 q i=some (0,0,0):=by show aFz (aDg 99999) q i=_;unfold aFz;rw[Cr,Cr];split;rfl;rw[if_pos (by omega)]
 refine BA hz ?_;exact⟨(0,0),by simp[AE],by simp⟩
theorem KA(s:X8)(v:Int)(hs:s.args.length<=9223372036854775807):∃r,Yw s v=some r:=by
 unfold Yw aFw;obtain⟨t,ht,_⟩:=Af (step:=fun i=>Gp v s i) s.args.length (fun _=>True) (fun _=>True)
  (fun i hi=>by
   obtain⟨x,hx,_⟩:=AP hi;simp only[Gp,ltD hx,AH,AK hx,Ag hx hs];simp only[A8];repeat' split
   all_goals first|exact .inl ⟨rfl,trivial⟩|exact .inr ⟨_,rfl,trivial⟩)
  (fun _=>⟨.inl (),by simp only[Gp,ltI,AF],trivial⟩)
 rw[ht,AD];rcases t with _|_<;>exact⟨_,rfl⟩
theorem UM(q:AA)(s:X8)(hs:s.args.length<=9223372036854775807)(hq:q.nodes.length<=2048)(f t:Int)(hf:0<=f)(ht:t<=q.nodes.length):∃r,Z6 q s f t=some r:=by
 unfold Z6 aF5;obtain⟨u,hu,_⟩:=Am (step:=fun i=>Gv t q s i) (fun i=>0<=i) (fun i=>(t-i).toNat) (fun _=>True)
  (by
   intro i hi;by_cases h:i<t
   ·obtain⟨x,hx,_⟩:=O0 (l:=q.nodes) (i:=i) hi (by omega);obtain⟨b,hb⟩:=KA s x.a hs;simp only[Gv,h,decide_true,AH,CN hx hi,hb,AD,aDk (a:=i) (b:=1) (by omega) (by omega)];simp only[A8];repeat' split
    all_goals first|exact .inl ⟨_,rfl,trivial⟩|exact .inr ⟨_,rfl,by omega,by omega⟩
   exact .inl ⟨.inl (),by simp[Gv,h,AE],trivial⟩)
  f hf
 rw[hu,AD];rcases u with _|_<;>exact⟨_,rfl⟩
def aHv(n:Int):Prop:= -9223372036854775808<=n/\n<=9223372036854775807
structure IH(t:Xe):Prop where
 guard:aHv t.guard
 sets:∀s∈t.sets,aHv s.expr
theorem aC2(q:AA)(hF:CX q)(t:Xe)(hT:IH t)(hts:t.sets.length<=12)(f:Int)(hf:0<=f)(hfl:f<=q.nodes.length):
 ∃r,Xo q t f=some r/\(r.2=true->0<=t.symbol/\t.symbol<q.symbols.length/\0<=r.1/\r.1<=q.nodes.length/\(t.guard= -1\/0<=t.guard)/\(0<=t.from_/\t.from_<q.states.length)/\0<=t.to/\t.to<q.states.length):=by
 have hn:q.nodes.length<=2048:=Nat.le_trans hF.nodes (by decide)
 have hfr:q.frees.length<=12:=hF.frees
 unfold Xo
 refine A5 (fun _=>⟨_,rfl,by simp⟩) (fun ha=>?_)
 refine A5 (fun _=>⟨_,rfl,by simp⟩) (fun hb=>?_)
 refine A5 (fun _=>⟨_,rfl,by simp⟩) (fun hc=>?_)
 refine A5 (fun _=>⟨_,rfl,by simp⟩) (fun hd=>?_)
 refine A5 (fun _=>⟨_,rfl,by simp⟩) (fun hs0=>?_)
 refine A5 (fun _=>⟨_,rfl,by simp⟩) (fun hs1=>?_)
 obtain⟨o2,h2,p2⟩:∃o,Rj f f (!decide (t.guard=(-1))) q t=some o/\∀x,o=.inl x->0<=x/\x<=q.nodes.length/\(t.guard= -1\/0<=t.guard):=by unfold Rj;refine B9 (fun _=>?_) (fun hg=>⟨_,rfl,fun x hx=>by cases hx;exact⟨hf,hfl,.inl hg⟩⟩);obtain⟨r1,h1,p1⟩:=PY q hn f t.guard hT.guard;refine BA h1 ?_;refine B9 (fun _=>⟨_,rfl,by simp⟩) (fun h3=>?_);refine A5 (fun _=>⟨_,rfl,by simp⟩) (fun _=>?_);have:=p1 (by omega);refine⟨_,rfl,fun x hx=>?_⟩;cases hx;refine⟨?_,?_,.inr this.1⟩<;>(rw[aDk (by omega) (by omega)];omega)
 refine BA h2 ?_
 rcases o2 with o3|_
 have h3:=p2 o3 rfl
 rw[Bo]
 unfold OQ
 obtain⟨u,hu,pu⟩:=Am (step:=fun s:Int×Int=>EI f q t s.1 s.2) (fun s=>∃i:Nat,s.2=(i:Int)/\i<=t.sets.length/\0<=s.1/\s.1<=q.nodes.length) (fun s=>(t.sets.length-s.2).toNat)
  (fun o=>∀x,o=.inl x->0<=x/\x<=q.nodes.length)
  (by
   rintro⟨w,s⟩ ⟨i,rfl,hi,hw0,hw1⟩;simp only at hw0 hw1⊢;by_cases he:i=t.sets.length;subst he;exact .inl ⟨.inl w,by simp only[EI,ltI,AF],fun x hx=>by cases hx;exact⟨hw0,hw1⟩⟩;obtain⟨x,hx,_⟩:=AP (l:=t.sets) (i:=i) (by omega);obtain⟨r6,h6,p6⟩:=PY q hn w x.expr (hT.sets x (List.mem_of_getElem? hx));have h6':Q7 q w x.expr=some r6:=h6;simp only[EI,ltD hx,AH,AK hx,h6',AD,Ag hx (show t.sets.length<=9223372036854775807 by omega)];by_cases g1:x.free<0;exact .inl ⟨.inr (),by simp[g1,AE],by simp⟩;by_cases g2:(q.frees.length:Int)<=x.free;exact .inl ⟨.inr (),by simp[g1,g2,AE],by simp⟩;by_cases g3:r6.1=0;exact .inl ⟨.inr (),by simp[g1,g2,g3,AE],by simp⟩;by_cases g4:64<r6.2;exact .inl ⟨.inr (),by simp[g1,g2,g3,g4,AE],by simp⟩;obtain⟨y,hy,_⟩:=O0 (l:=q.frees) (i:=x.free) (by omega) (by omega);by_cases g5:r6.1=y.init_.kind;obtain⟨t3,e3,_⟩:=Af (step:=fun s=>GT f (i:Int) q t x s) i (fun _=>True) (fun _=>True)
    (fun j hj=>by
     obtain⟨z,hz,_⟩:=AP (l:=t.sets) (i:=j) (by omega);have hlt:decide ((j:Int)<(i:Int))=true:=by simp;omega
     simp only[GT,hlt,AH,AK hz,Ag hz (show t.sets.length<=9223372036854775807 by omega)];simp only[A8];split;exact .inr ⟨_,rfl,trivial⟩;exact .inl ⟨rfl,trivial⟩)
    (fun _=>⟨.inl (),by simp only[GT,ltI,AF],trivial⟩)
   have e3':aE7 f (i:Int) q t x 0=some t3:=e3;have hp:=p6 g3;rcases t3 with _|_
   refine .inr ⟨(AB .add .i64 x.expr 1,((i+1:Nat):Int)),?_,⟨i+1,rfl,by omega,?_,?_⟩,by simp only;omega⟩;rw[Cr,if_neg g1,Cr,if_neg g2,Cr,if_neg g3,Cr,if_neg g4,CN hy (show 0<=x.free by omega)];simp only[g5,decide_true,Bool.not_true,AF,e3',AD,Bo];simp only;rw[aDk (by omega) (by omega)];omega;simp only;rw[aDk (by omega) (by omega)];omega;refine .inl ⟨.inr (),?_,by simp⟩;rw[Cr,if_neg g1,Cr,if_neg g2,Cr,if_neg g3,Cr,if_neg g4,CN hy (show 0<=x.free by omega)];simp only[g5,decide_true,Bool.not_true,AF,e3',AD,C5];refine .inl ⟨.inr (),?_,by simp⟩;rw[Cr,if_neg g1,Cr,if_neg g2,Cr,if_neg g3,Cr,if_neg g4,CN hy (show 0<=x.free by omega)];simp only[g5,decide_false,Bool.not_false,AH])
  (o3,(0:Int)) ⟨0,rfl,by omega,h3.1,h3.2.1⟩
 refine BA hu ?_
 rcases u with o13|_
 rw[Bo]
 have h13:=pu o13 rfl
 obtain⟨x,hx,_⟩:=O0 (l:=q.symbols) (i:=t.symbol) (by omega) (by omega)
 rw[CN hx (by omega)]
 obtain⟨r16,h16⟩:=UM q x (Nat.le_trans (hF.args x (List.mem_of_getElem? hx)) (by decide)) hn f o13 hf h13.2
 refine BA h16 ⟨_,rfl,fun _=>⟨by omega,by omega,h13.1,h13.2,h3.2.2,⟨by omega,by omega⟩,by omega,by omega⟩⟩
 exact⟨_,rfl,by simp⟩
 exact⟨_,rfl,by simp⟩
structure PS(q:AA)(a:BQ):Prop where
 two:a.kind=2->0<=a.n/\a.n<q.quants.length
 three:a.kind=3->0<=a.n/\a.n<q.frees.length
 one:a.kind=1->vR a.value=true
theorem aLf(q:AA)(a:BQ)(k:Int):∃r,Qd q a k=some r/\(r=true->PS q a/\(a.kind=1->a.value.kind=k)):=by unfold Qd;have hb:=aGa a.value;refine A5 (fun h=>?_) (fun h1=>?_);have ho:vR a.value=true->PS q a:=fun hv=>⟨fun h2=>by omega,fun h2=>by omega,fun _=>hv⟩;refine A5 (fun _=>?_) (fun _=>⟨_,rfl,by simp⟩);refine BA hb ?_;exact NX (fun hv=>⟨_,rfl,fun hk=>⟨ho hv,fun _=>of_decide_eq_true hk⟩⟩) (fun _=>⟨_,rfl,by simp⟩);refine FA (fun _=>⟨_,rfl,by simp⟩) (fun _=>?_);refine A5 (fun h2=>?_) (fun h2=>?_);refine A5 (fun h3=>?_) (fun _=>⟨_,rfl,by simp⟩);refine A5 (fun h4=>?_) (fun _=>⟨_,rfl,by simp⟩);obtain⟨y,hy,_⟩:=O0 h3 h4;rw[CN hy h3];exact⟨_,rfl,fun _=>⟨⟨fun _=>⟨h3,h4⟩,fun h=>by omega,fun h=>by omega⟩,fun h=>absurd h h1⟩⟩;refine A5 (fun h5=>?_) (fun h5=>?_);refine A5 (fun h3=>?_) (fun _=>⟨_,rfl,by simp⟩);refine A5 (fun h4=>?_) (fun _=>⟨_,rfl,by simp⟩);obtain⟨y,hy,_⟩:=O0 h3 h4;rw[CN hy h3];exact⟨_,rfl,fun _=>⟨⟨fun h=>by omega,fun _=>⟨h3,h4⟩,fun h=>by omega⟩,fun h=>absurd h h1⟩⟩;exact A5 (fun _=>⟨_,rfl,fun _=>⟨⟨fun h=>by omega,fun h=>by omega,fun h=>by omega⟩,fun h=>absurd h h1⟩⟩) (fun _=>⟨_,rfl,by simp⟩)
structure Pf(q:AA)(s:X8):Prop where
 event:0<=s.event
 decl:∃d,q.decls[s.event.toNat]? =some d/\s.args.length=d.types.length
 args:∀a∈s.args,PS q a
 kinds:∀d,q.decls[s.event.toNat]? =some d->∀(i:Nat) a t,s.args[i]? =some a->d.types[i]? =some t->a.kind=1->a.value.kind=t
theorem aN0(q:AA)(s:X8)(hs:s.args.length<=12):∃r,Z2 q s=some r/\(r=true->Pf q s):=by
 unfold Z2;refine A5 (fun _=>⟨_,rfl,by simp⟩) (fun h0=>?_);refine A5 (fun _=>⟨_,rfl,by simp⟩) (fun h1=>?_);obtain⟨d,hd,_⟩:=O0 (l:=q.decls) (i:=s.event) (by omega) (by omega);rw[CN hd (by omega)];refine B9 (fun _=>⟨_,rfl,by simp⟩) (fun h2=>?_);obtain⟨t,ht,hQ⟩:=Af (step:=fun i=>Gu q s i) s.args.length (fun i=>∀a,s.args[i]? =some a->PS q a/\∀t,d.types[i]? =some t->a.kind=1->a.value.kind=t) (fun t=>t=.inl ()->∀(i:Nat) a,s.args[i]? =some a->PS q a/\∀t,d.types[i]? =some t->a.kind=1->a.value.kind=t)
  (fun i hi=>by
   obtain⟨x,hx,_⟩:=AP hi;obtain⟨y,hy,_⟩:=AP (l:=d.types) (i:=i) (by omega);obtain⟨b,hb,hbo⟩:=aLf q x y;simp only[Gu,ltD hx,AH,AK hx,CN hd (show 0<=s.event by omega),AK hy,hb,AD,Ag hx (show s.args.length<=9223372036854775807 by omega)];cases b with
   |false=>exact .inr ⟨_,rfl,by simp⟩
   |true=>exact .inl ⟨rfl,fun a ha=>by rw[hx]at ha;cases ha;exact⟨(hbo rfl).1,fun t ht=>by rw[hy]at ht;cases ht;exact(hbo rfl).2⟩⟩)
  (fun hP=>⟨.inl (),by simp only[Gu,ltI,AF],fun _ i a ha=>hP i (At ha) a ha⟩)
 refine BA ht ?_;rcases t with _|_
 exact⟨_,rfl,fun _=>⟨by omega,⟨d,hd,by omega⟩,fun a ha=>by obtain⟨i,hi⟩:=List.getElem?_of_mem ha;exact(hQ rfl i a hi).1,fun d' hd' i a t ha ht=>by rw[hd,oe]at hd';subst hd';exact(hQ rfl i a ha).2 t ht⟩⟩;exact⟨_,rfl,by simp⟩
theorem Hu(a b:X8)(ha:a.args.length<=9223372036854775807):∃r,Zb a b=some r:=by
 unfold Zb;refine Iq ?_;refine B9 (fun _=>⟨_,rfl,trivial⟩) (fun _=>?_);refine B9 (fun _=>⟨_,rfl,trivial⟩) (fun h=>?_);obtain⟨t,ht,_⟩:=Af (step:=fun i=>G0 a b i) a.args.length (fun _=>True) (fun _=>True)
  (fun i hi=>by obtain⟨x,hx,_⟩:=AP hi;obtain⟨y,hy,_⟩:=AP (l:=b.args) (i:=i) (by omega);simp only[G0,ltD hx,AH,AK hx,AK hy,Ag hx ha];simp only[A8];split;exact .inr ⟨_,rfl,trivial⟩;exact .inl ⟨rfl,trivial⟩)
  (fun _=>⟨.inl (),by simp only[G0,ltI,AF],trivial⟩)
 refine BA ht ?_;rcases t with _|_<;>exact⟨_,rfl,trivial⟩
theorem aMg(q:AA)(hF:CX q)(hT:∀t∈q.trans,0<=t.symbol/\t.symbol<q.symbols.length):∃r,Xb q=some r/\(r=true->∀s∈q.symbols,Pf q s):=by
 have hsy:=hF.symbols;have htr:=hF.trans;have hqu:=hF.quants;unfold Xb;rw[An ⟨by omega,HI (by omega) (by decide)⟩];obtain⟨o9,h9,hl9⟩:=Am (step:=fun s:Int×List Bool×List Int=>F8 q s.1 s.2.1 s.2.2) (fun s=>∃i:Nat,s.1=(i:Int)/\i<=q.trans.length/\s.2.1.length=q.symbols.length/\s.2.2.length<=i) (fun s=>(q.trans.length-s.1).toNat) (fun o=>o.length<=12)
  (by
   rintro⟨s,u,w⟩ ⟨i,rfl,hi,hu,hw⟩;simp only at hu hw⊢;by_cases he:i=q.trans.length;subst he;exact .inl ⟨w,by simp only[F8,ltI,AF],by omega⟩;obtain⟨x,hx,_⟩:=AP (l:=q.trans) (i:=i) (by omega);have hxs:=hT x (List.mem_of_getElem? hx);obtain⟨y,hy,_⟩:=O0 (l:=u) (i:=x.symbol) hxs.1 (by omega);have hb5:∃w',Pv (i:Int) x.symbol (!y) q u w=some w'/\w'.length<=i+1:=by unfold Pv;refine FA (fun _=>?_) (fun _=>⟨_,rfl,by omega⟩);rw[DO (by simp;omega) (by decide)];exact⟨_,rfl,by simpa using hw⟩
   obtain⟨w',hb,hw'⟩:=hb5;refine .inr ⟨(((i+1:Nat):Int),u.set x.symbol.toNat true,w'),?_,⟨i+1,rfl,by omega,by simpa using hu,hw'⟩,by simp only;omega⟩;simp only[F8,ltD hx,AH,Ag hx (show q.trans.length<=9223372036854775807 by omega)];unfold WH;rw[AK hx,An (by omega),CN hy hxs.1,hb,AD,An (by omega),An (by omega)];rfl)
  ((0:Int),List.replicate (q.symbols.length:Int).toNat false,([]:List Int)) ⟨0,rfl,by omega,by simp,by simp⟩
 refine BA h9 ?_;obtain⟨t1,e1,_⟩:=Af (step:=fun s=>F9 q o9 s) o9.length (fun _=>True) (fun _=>True)
  (fun i hi=>by obtain⟨x,hx,_⟩:=AP hi;simp only[F9,ltD hx,AH,AK hx,Ag hx (show o9.length<=9223372036854775807 by omega)];simp only[A8];split;exact .inr ⟨_,rfl,trivial⟩;exact .inl ⟨rfl,trivial⟩)
  (fun _=>⟨.inl (),by simp only[F9,ltI,AF],trivial⟩)
 refine BA e1 ?_;rcases t1 with _|_
 case inr=>exact⟨_,rfl,by simp⟩
 rw[Bo];have hsl:q.symbols.length<=9223372036854775807:=by omega
 obtain⟨t2,e2,Q2⟩:=Af (step:=fun s=>GA q s) q.symbols.length (fun i=>∀s,q.symbols[i]? =some s->Pf q s) (fun t=>t=.inl ()->∀s∈q.symbols,Pf q s)
  (fun i hi=>by
   obtain⟨x,hx,_⟩:=AP hi;have hxa:=hF.args x (List.mem_of_getElem? hx);obtain⟨b,hb,hbo⟩:=aN0 q x hxa;simp only[GA,ltD hx,AH,AK hx,hb,AD,Ag hx hsl];cases b with
   |false=>exact .inr ⟨_,rfl,by simp⟩
   |true=>
    simp only[Bool.not_true,AF]
    obtain⟨t3,e3,_⟩:=Af (step:=fun s=>GB (i:Int) q s) i (fun _=>True) (fun _=>True)
     (fun j hj=>by
      obtain⟨y,hy,_⟩:=AP (l:=q.symbols) (i:=j) (by omega);obtain⟨c,hc⟩:=Hu x y (by omega);have hlt:decide ((j:Int)<(i:Int))=true:=by simp;omega
      simp only[GB,hlt,AH,AK hx,AK hy,hc,AD,Ag hy hsl];simp only[A8];split;exact .inr ⟨_,rfl,trivial⟩;exact .inl ⟨rfl,trivial⟩)
     (fun _=>⟨.inl (),by simp only[GB,ltI,AF],trivial⟩)
    unfold aEu
    rw[e3,AD]
    rcases t3 with _|_
    exact .inl ⟨rfl,fun s hs=>by rw[hx]at hs;cases hs;exact hbo rfl⟩
    exact .inr ⟨_,rfl,by simp⟩)
  (fun hP=>⟨.inl (),by simp only[GA,ltI,AF],fun _=>EK hP⟩)
 refine BA e2 ?_;rcases t2 with _|_
 case inr=>exact⟨_,rfl,by simp⟩
 rw[Bo];obtain⟨t4,e4,_⟩:=Af (step:=fun s=>GC q s) q.quants.length (fun _=>True) (fun _=>True)
  (fun i hi=>by
   have hlt:decide ((i:Int)<(q.quants.length:Int))=true:=by simp;omega
   obtain⟨o,ho,_⟩:=Am (step:=fun s:Bool×Int=>Dq (i:Int) q s.1 s.2) (fun s=>∃j:Nat,s.2=(j:Int)/\j<=q.symbols.length) (fun s=>(q.symbols.length-s.2).toNat) (fun _=>True)
    (by
     rintro⟨b,s⟩ ⟨j,rfl,hj⟩;simp only;by_cases he:j=q.symbols.length;subst he;exact .inl ⟨b,by simp only[Dq,ltI,AF],trivial⟩;obtain⟨x,hx,_⟩:=AP (l:=q.symbols) (i:=j) (by omega);have hxa:=hF.args x (List.mem_of_getElem? hx);obtain⟨c,hc⟩:=KA x (i:Int) (by omega);have hc':Yw x (i:Int)=some c:=hc;cases b with
     |true=>exact .inr ⟨(true,((j+1:Nat):Int)),by simp only[Dq,ltD hx,AH,Ag hx hsl],⟨j+1,rfl,by omega⟩,by simp only;omega⟩
     |false=>exact .inr ⟨(c,((j+1:Nat):Int)),by simp only[Dq,ltD hx,AH,AF,AK hx,hc',AD,Ag hx hsl],⟨j+1,rfl,by omega⟩,by simp only;omega⟩)
    (false,(0:Int)) ⟨0,rfl,by omega⟩
   have ho':Pw (i:Int) q false 0=some o:=ho;simp only[GC,hlt,AH,ho',AD,J1 (show i<9223372036854775807 by omega)];simp only[A8];split;exact .inr ⟨_,rfl,trivial⟩;exact .inl ⟨rfl,trivial⟩)
  (fun _=>⟨.inl (),by simp only[GC,ltI,AF],trivial⟩)
 refine BA e4 ?_;rcases t4 with _|_
 exact⟨_,rfl,fun _=>Q2 rfl⟩;exact⟨_,rfl,by simp⟩
theorem K0(l:List (List UInt8))(at':Nat)(h:at'<l.length)(hl:l.length<=9223372036854775807):∃r,Z1 l (at':Int)=some r:=by
 unfold Z1;refine Iq ?_;obtain⟨y,hy,_⟩:=AP h;obtain⟨t,ht,_⟩:=Af (step:=fun i=>Gt l (at':Int) i) at' (fun _=>True) (fun _=>True)
  (fun i hi=>by
   obtain⟨x,hx,_⟩:=AP (l:=l) (i:=i) (by omega);have hlt:decide ((i:Int)<(at':Int))=true:=by simp;omega
   simp only[Gt,hlt,AH,AK hx,AK hy,Ag hx hl];simp only[A8];split;exact .inr ⟨_,rfl,trivial⟩;exact .inl ⟨rfl,trivial⟩)
  (fun _=>⟨.inl (),by simp only[Gt,ltI,AF],trivial⟩)
 refine BA ht ?_;rcases t with _|_<;>exact⟨_,rfl,trivial⟩
theorem aIp(q:AA)(hF:CX q):∃r,Xh q=some r:=by
 have h1:=hF.quants;have h2:=hF.frees;have h3:=hF.states;unfold Xh;refine Iq ?_;obtain⟨o7,e7,p7⟩:=Am (step:=fun s:Int×List (List UInt8)=>GK q s.1 s.2) (fun s=>∃i:Nat,s.1=(i:Int)/\i<=q.quants.length/\s.2.length<=i) (fun s=>(q.quants.length-s.1).toNat) (fun o=>∀w,o=.inl w->w.length<=9)
  (by rintro⟨s,w⟩ ⟨i,rfl,hi,hw⟩;simp only at hw⊢;by_cases he:i=q.quants.length;subst he;exact .inl ⟨.inl w,by simp only[GK,ltI,AF],fun w' hw'=>by cases hw';omega⟩;obtain⟨x,hx,_⟩:=AP (l:=q.quants) (i:=i) (by omega);simp only[GK,ltD hx,AH,AK hx,Ag hx (show q.quants.length<=9223372036854775807 by omega)];rw[DO (by simp;omega) (by decide)];simp only[A8];split;exact .inl ⟨_,rfl,by simp⟩;split;exact .inl ⟨_,rfl,by simp⟩;exact .inr ⟨_,rfl,⟨i+1,rfl,by omega,by simpa using hw⟩,by simp only;omega⟩)
  ((0:Int),([]:List (List UInt8))) ⟨0,rfl,by omega,by simp⟩
 refine BA e7 ?_;rcases o7 with o8|_
 case inr=>exact⟨_,rfl,trivial⟩
 rw[Bo];have hw8:=p7 o8 rfl;obtain⟨o13,e13,p13⟩:=Am (step:=fun s:Int×List (List UInt8)=>GL q s.1 s.2) (fun s=>∃i:Nat,s.1=(i:Int)/\i<=q.frees.length/\s.2.length<=9+i) (fun s=>(q.frees.length-s.1).toNat) (fun o=>∀w,o=.inl w->w.length<=21)
  (by rintro⟨s,w⟩ ⟨i,rfl,hi,hw⟩;simp only at hw⊢;by_cases he:i=q.frees.length;subst he;exact .inl ⟨.inl w,by simp only[GL,ltI,AF],fun w' hw'=>by cases hw';omega⟩;obtain⟨x,hx,_⟩:=AP (l:=q.frees) (i:=i) (by omega);obtain⟨b,hb⟩:=aDh x.init_;simp only[GL,ltD hx,AH,AK hx,hb,AD,Ag hx (show q.frees.length<=9223372036854775807 by omega)];rw[DO (by simp;omega) (by decide)];simp only[A8];split;exact .inl ⟨_,rfl,by simp⟩;exact .inr ⟨_,rfl,⟨i+1,rfl,by omega,by simp;omega⟩,by simp only;omega⟩)
  ((0:Int),o8) ⟨0,rfl,by omega,by simpa using hw8⟩
 refine BA e13 ?_;rcases o13 with o14|_
 case inr=>exact⟨_,rfl,trivial⟩
 rw[Bo];have hw14:=p13 o14 rfl;obtain⟨t,ht,_⟩:=Af (step:=fun i=>GM q o14 i) o14.length (fun _=>True) (fun _=>True)
  (fun i hi=>by
   obtain⟨x,hx,_⟩:=AP hi;obtain⟨b,hb⟩:=NC x;obtain⟨c,hc⟩:=K0 o14 i hi (by omega);simp only[GM,ltD hx,AH,AK hx,hb,hc,AD,Ag hx (show o14.length<=9223372036854775807 by omega)];simp only[A8];repeat' split
   all_goals first|exact .inl ⟨rfl,trivial⟩|exact .inr ⟨_,rfl,trivial⟩)
  (fun _=>⟨.inl (),by simp only[GM,ltI,AF],trivial⟩)
 refine BA ht ?_;rcases t with _|_
 case inr=>exact⟨_,rfl,trivial⟩
 rw[Bo];obtain⟨o30,e30,_⟩:=Am (step:=fun s:Int×List (List UInt8)=>GN q s.1 s.2) (fun s=>∃i:Nat,s.1=(i:Int)/\i<=q.states.length/\s.2.length=i) (fun s=>(q.states.length-s.1).toNat) (fun _=>True)
  (by
   rintro⟨s,w⟩ ⟨i,rfl,hi,hw⟩;simp only at hw⊢;by_cases he:i=q.states.length;subst he;exact .inl ⟨.inl (),by simp only[GN,ltI,AF],trivial⟩;obtain⟨x,hx,_⟩:=AP (l:=q.states) (i:=i) (by omega);have hg:(w++[x.name])[i]? =some x.name:=by rw[<-hw];simp
   obtain⟨b,hb⟩:=NC x.name;obtain⟨c,hc⟩:=K0 (w++[x.name]) i (by simp;omega) (by simp;omega);simp only[GN,ltD hx,AH,AK hx,Ag hx (show q.states.length<=9223372036854775807 by omega)];rw[DO (by simp;omega) (by decide),AK hg,hb,AD,hc];simp only[AD,A8];split;exact .inl ⟨_,rfl,trivial⟩;split;exact .inl ⟨_,rfl,trivial⟩;exact .inr ⟨_,rfl,⟨i+1,rfl,by omega,by simp;omega⟩,by simp only;omega⟩)
  ((0:Int),([]:List (List UInt8))) ⟨0,rfl,by omega,by simp⟩
 refine BA e30 ?_;rcases o30 with _|_
 obtain⟨b,hb⟩:=NC q.name;rw[Bo];exact BA hb ⟨_,rfl,trivial⟩;exact⟨_,rfl,trivial⟩
structure Ad(q:AA):Prop where
 decls:K9 q.decls
 quants:q.quants.length<=8
 symbols:∀s∈q.symbols,Pf q s
 guards:∀t∈q.trans,t.guard= -1\/0<=t.guard
 ends : ∀ t ∈ q.trans, (0 <= t.symbol /\ t.symbol < q.symbols.length) /\ (0 <= t.from_ /\ t.from_ < q.states.length) /\ 0 <= t.to /\ t.to < q.states.length
 fires:∀t∈q.trans,∃f r,Xo q t f=some (r,true)
theorem aNp(q:AA)(hF:CX q)(hW:∀t∈q.trans,IH t):∃r,Yn q=some r/\(r=true->Ad q):=by
 have h1:=hF.decls;have h2:=hF.trans;unfold Yn;obtain⟨r1,e1,p1⟩:=aMv q.decls (by omega);refine BA e1 ?_;refine B9 (fun _=>⟨_,rfl,by simp⟩) (fun hz=>?_);refine A5 (fun _=>⟨_,rfl,by simp⟩) (fun hq=>?_);refine A5 (fun _=>⟨_,rfl,by simp⟩) (fun _=>?_);refine A5 (fun _=>⟨_,rfl,by simp⟩) (fun _=>?_);refine A5 (fun _=>⟨_,rfl,by simp⟩) (fun _=>?_);refine A5 (fun _=>⟨_,rfl,by simp⟩) (fun _=>?_);refine A5 (fun _=>⟨_,rfl,by simp⟩) (fun _=>?_);refine A5 (fun _=>⟨_,rfl,by simp⟩) (fun _=>?_);refine A5 (fun _=>⟨_,rfl,by simp⟩) (fun _=>?_);obtain⟨r2,e2⟩:=aIp q hF;refine BA e2 ?_;refine FA (fun _=>⟨_,rfl,by simp⟩) (fun _=>?_);obtain⟨o5,e5,p5⟩:=Am (step:=fun s:Int×Int=>Gj q s.1 s.2) (fun s=>∃i:Nat,s.2=(i:Int)/\i<=q.trans.length/\0<=s.1/\s.1<=q.nodes.length/\∀j,j<i->∀t,q.trans[j]? =some t->0<=t.symbol/\t.symbol<q.symbols.length/\(t.guard= -1\/0<=t.guard)/\(0<=t.from_/\t.from_<q.states.length)/\0<=t.to/\t.to<q.states.length/\∃f r,Xo q t f=some (r,true)) (fun s=>(q.trans.length-s.2).toNat)
  (fun o=>∀w,o=.inl w->∀t∈q.trans,0<=t.symbol/\t.symbol<q.symbols.length/\(t.guard= -1\/0<=t.guard)/\(0<=t.from_/\t.from_<q.states.length)/\0<=t.to/\t.to<q.states.length/\∃f r,Xo q t f=some (r,true))
  (by
   rintro⟨w,s⟩ ⟨i,rfl,hi,hw0,hw1,hP⟩;simp only at hw0 hw1 hP⊢;by_cases he:i=q.trans.length;subst he;exact .inl ⟨.inl w,by simp only[Gj,ltI,AF],fun _ _=>EK hP⟩;obtain⟨x,hx,_⟩:=AP (l:=q.trans) (i:=i) (by omega);have hxm:=List.mem_of_getElem? hx;obtain⟨r4,e4,p4⟩:=aC2 q hF x (hW x hxm) (hF.sets x hxm) w hw0 hw1;simp only[Gj,ltD hx,AH,AK hx,e4,AD,Ag hx (show q.trans.length<=9223372036854775807 by omega)];cases hb:r4.2 with
   |false=>exact .inl ⟨.inr (),rfl,by simp⟩
   |true=>
    have hp:=p4 hb
    refine .inr ⟨(r4.1,((i+1:Nat):Int)),rfl,⟨i+1,rfl,by omega,hp.2.2.1,hp.2.2.2.1,fun j hj t ht=>?_⟩,by simp only;omega⟩
    rcases Nat.lt_or_ge j i with h|h
    exact hP j h t ht
    have:j=i:=by omega
    subst this;rw[hx]at ht;cases ht;exact⟨hp.1,hp.2.1,hp.2.2.2.2.1,hp.2.2.2.2.2.1,hp.2.2.2.2.2.2.1,hp.2.2.2.2.2.2.2,w,r4.1,by rw[e4,<-hb]⟩)
  ((0:Int),(0:Int)) ⟨0,rfl,by omega,by simp,by simp,fun j hj=>by omega⟩
 refine BA e5 ?_;rcases o5 with o6|_
 rw[Bo];refine A5 (fun _=>?_) (fun _=>⟨_,rfl,by simp⟩);obtain⟨r8,e8,p8⟩:=aMg q hF (fun t ht=>⟨(p5 o6 rfl t ht).1,(p5 o6 rfl t ht).2.1⟩);refine BA e8 ⟨_,rfl,fun hr=>⟨p1 hz,by omega,p8 hr,fun t ht=>(p5 o6 rfl t ht).2.2.1,fun t ht=>⟨⟨(p5 o6 rfl t ht).1,(p5 o6 rfl t ht).2.1⟩,(p5 o6 rfl t ht).2.2.2.1,(p5 o6 rfl t ht).2.2.2.2.1,(p5 o6 rfl t ht).2.2.2.2.2.1⟩,fun t ht=>(p5 o6 rfl t ht).2.2.2.2.2.2⟩⟩;exact⟨_,rfl,by simp⟩
theorem aLh(v:X0):Qe v=some (vR v):=by rw[<-aGa];obtain⟨k,n,s,b⟩:=v;unfold Qe Zd Qw Qx Qy;simp only[AD,Cr,X0.eqb_dec,X0.mk.injEq,A8];by_cases h1:k=1;subst h1;by_cases hs:s=[]<;>cases b<;>simp[hs];by_cases h2:k=2;subst h2;by_cases hn:n=0<;>cases b<;>simp[hn];by_cases h3:k=3;subst h3;by_cases hn:n=0<;>by_cases hs:s=[]<;>cases b<;>simp[hn,hs];simp[h1,h2,h3]
def G4(a:List X0)(t:List Int):Bool:=decide (a.length=t.length)&&(a.zip t).all fun p=>decide (p.1.kind=p.2)&&vR p.1
def eR(l:List X7)(e:X3):Bool:=match EA l e.name with
 |none=>false
 |some i=>match l[i]? with
  |none=>false
  |some d=>G4 e.args d.types
theorem J9(a:List X0)(t:List Int)(ha:a.length<=9223372036854775807):Zc a t=some (G4 a t):=by
 unfold Zc G4;rw[A8,MH];by_cases hl:a.length=t.length;rw[if_neg (by simp[hl])];unfold aF9;have hz:(a.zip t).length=a.length:=by simp[hl]
 rw[Bt (a.zip t) (fun p=>decide (p.1.kind=p.2)&&vR p.1) (.inl ():Unit⊕Unit) (.inr ())
  (fun i z hz=>by obtain⟨hx,hy⟩:=Ma hz;simp only[JI,ltD hx,AH,AK hx,AK hy,Qz,aLh,AD,Ag hx ha,Cr];by_cases h:z.1.kind=z.2<;>cases hv:vR z.1<;>simp[h,AG,AE])
  (by rw[hz];simp only[JI,ltI,AF]),AD]
 cases(a.zip t).all _<;>simp[Ay,hl];rw[if_pos (by simp[hl])];simp[hl]
theorem aLj(l:List X7)(e:X3)(hl:l.length<=9223372036854775807)(he:e.args.length<=9223372036854775807):Qf l e=some (eR l e):=by
 unfold Qf Qv Ze aGb;rw[D6 l (fun d=>decide (d.name=e.name))
  (fun i x hx=>by simp only[JJ,ltD hx,AH,AK hx,Qu,AD,Ag hx hl];simp only[A8];cases decide (x.name=e.name)<;>rfl)
  (by simp only[JJ,ltI,AF])]
 unfold eR;cases hf:EA l e.name with
 |none=>
  have:¬(l.any fun d=>decide (d.name=e.name))=true:=by intro h;unfold EA at hf;rw[if_pos h]at hf;cases hf
  simp[this,AG,Ay,AE]
 |some i=>
  have ha:(l.any fun d=>decide (d.name=e.name))=true:=by unfold EA at hf;split at hf;assumption;cases hf
  have hi:(l.findIdx fun d=>decide (d.name=e.name))=i:=by unfold EA at hf;rw[if_pos ha]at hf;cases hf;rfl
  obtain⟨d,hd,_⟩:=Ia hf
  rw[if_pos ha,hi]
  have hm:VA (i:Int) 0=(i:Int):=by unfold VA;exact if_neg (Int.not_lt.2 (Int.natCast_nonneg i))
  have h0:decide ((0:Int)<=(i:Int))=true:=by simp
  simp only[AD,C5,hm,h0,Bool.not_true,AF,AK hd,J9 _ _ he,hd]
theorem aFr(l:List X7)(e:X3)(hl:l.length<=9223372036854775807)(he:e.args.length<=9223372036854775807):Yp l e=some (eR l e):=by
 unfold Yp;rw[aJk l _ hl,AD];unfold eR;cases hf:EA l e.name with
 |none=>simp[AE]
 |some i=>
  obtain⟨d,hd,_⟩:=Ia hf
  dsimp only
  rw[Cr,if_neg (Int.not_lt.2 (Int.natCast_nonneg i)),AK hd,hd,A8,MH]
  dsimp only
  unfold G4
  by_cases hl2:d.types.length=e.args.length
  rw[if_neg (by simp[hl2])]
  unfold aFs
  have hz:(e.args.zip d.types).length=e.args.length:=by simp[hl2]
  rw[Bt (e.args.zip d.types) (fun p=>decide (p.1.kind=p.2)&&vR p.1) (.inl ():Unit⊕Unit) (.inr ())
   (fun i z hz=>by obtain⟨hx,hy⟩:=Ma hz;simp only[JD,ltD hx,AH,AK hx,AK hd,AK hy,aGa,AD,Ag hx he];by_cases h:z.1.kind=z.2<;>cases hv:vR z.1<;>simp[h,AE])
   (by rw[hz];simp only[JD,ltI,AF]),AD]
  cases(e.args.zip d.types).all _<;>simp[Ay,hl2]
  rw[if_pos (by simp[hl2])]
  have:¬e.args.length=d.types.length:=fun h=>hl2 h.symm
  simp[this]

theorem aPr{i j:Nat}(h:i+j<4611686018427387904):IntKind.wrap .i64 (AB .shr .u64 (IntKind.wrap .u64 (AB .add .i64 (i:Int) (j:Int))) 1)=(((i+j)/2:Nat):Int):=by
 have e1:AB .add .i64 (i:Int) (j:Int)=((i+j:Nat):Int):=by rw[aDk (by omega) (by omega)];omega
 rw[e1,A4 (by omega)];have e2:AB .shr .u64 (((i+j:Nat)):Int) 1=(((i+j)/2^1:Nat):Int):=aPs (n:=i+j) (k:=1) (by decide);rw[e2,Nat.pow_one,aO6 (by omega) (by omega)]
theorem aGu{step:Int×Int->Option ((Int×Int)⊕Int)}(n:Nat)(lt:Nat->Bool)
 (h1:∀i j:Nat,i<j->j<=n->step ((i:Int),(j:Int))=some (.inl (if lt ((i+j)/2)=true then((((i+j)/2+1:Nat):Int),(j:Int))else((i:Int),(((i+j)/2:Nat):Int)))))
 (h2:∀i:Nat,step ((i:Int),(i:Int))=some (.inr (i:Int))) (hm:∀a b,a<=b->b<n->lt b=true->lt a=true):
 ∃k:Nat,k<=n/\AU step (0,(n:Int))=some (k:Int)/\(∀a,a<k->lt a=true)/\∀a,k<=a->a<n->lt a=false:=by
 obtain⟨t,ht,k,hk,rfl,p1,p2⟩:=Am (step:=step) (fun s=>∃i j:Nat,s=((i:Int),(j:Int))/\i<=j/\j<=n/\(∀a,a<i->lt a=true)/\∀a,j<=a->a<n->lt a=false) (fun s=>(s.2-s.1).toNat)
  (fun t=>∃k:Nat,k<=n/\t=(k:Int)/\(∀a,a<k->lt a=true)/\∀a,k<=a->a<n->lt a=false)
  (by
   rintro s ⟨i,j,rfl,hij,hj,q1,q2⟩;rcases Nat.lt_or_ge i j with h|h
   right;cases hl:lt ((i+j)/2)with
   |true=>
    refine⟨((((i+j)/2+1:Nat):Int),(j:Int)),by rw[h1 i j h hj,hl];rfl,⟨(i+j)/2+1,j,rfl,by omega,hj,fun a ha=>hm a ((i+j)/2) (by omega) (by omega) hl,q2⟩,by simp only;omega⟩
   |false=>
    refine⟨((i:Int),(((i+j)/2:Nat):Int)),by rw[h1 i j h hj,hl];rfl,⟨i,(i+j)/2,rfl,by omega,by omega,q1,fun a ha hn=>?_⟩,by simp only;omega⟩
    rcases Nat.lt_or_ge a j with g|g
    cases hla:lt a with
    |false=>rfl
    |true=>rw[hm ((i+j)/2) a ha hn hla]at hl;cases hl
    exact q2 a g hn
   have:i=j:=by omega
   subst this;exact .inl ⟨(i:Int),h2 i,i,hj,rfl,q1,q2⟩)
  (0,(n:Int)) ⟨0,n,rfl,by omega,Nat.le_refl _,fun a ha=>by omega,fun a ha hn=>by omega⟩
 exact⟨k,hk,ht,p1,p2⟩

def SV(w:List X2):Prop:=w.Pairwise (fun a b=>a.var<b.var)/\∀s∈w,0<=s.var/\s.var<=63
theorem FR:∀{a b:List X2},a.Pairwise (fun x y=>x.var<y.var)->b.Pairwise (fun x y=>x.var<y.var)->(∀s,s∈a↔s∈b)->a=b
 |[],[],_,_,_=>rfl
 |[],y::b,_,_,h=>by have:=(h y).2 (by simp);simp at this
 |x::a,[],_,_,h=>by have:=(h x).1 (by simp);simp at this
 |x::a,y::b,ha,hb,h=>by
  obtain⟨ha1,ha2⟩:=List.pairwise_cons.1 ha;obtain⟨hb1,hb2⟩:=List.pairwise_cons.1 hb;have hxy:x=y:=by
   rcases mc.1 ((h x).1 (by simp))with e|e
   exact e;rcases mc.1 ((h y).2 (by simp))with e2|e2
   exact e2.symm;have:=hb1 x e;have:=ha1 y e2;omega
  subst hxy;congr 1;refine FR ha2 hb2 fun s=>⟨fun hs=>?_,fun hs=>?_⟩;rcases mc.1 ((h s).1 (List.mem_cons_of_mem _ hs))with e|e
  subst e;have:=ha1 s hs;omega;exact e;rcases mc.1 ((h s).2 (List.mem_cons_of_mem _ hs))with e|e
  subst e;have:=hb1 s hs;omega;exact e
def K7:List X2->X2->List X2
 |[],x=> [x]
 |y::l,x=>if x.var<y.var then x::y::l else y::K7 l x
theorem Cx:∀(l:List X2) (x s:X2),s∈K7 l x↔s=x\/s∈l
 |[],x,s=>by simp[K7]
 |y::l,x,s=>by
  unfold K7;split;simp;rw[mc,Cx l x s,mc];constructor;rintro(h|h|h)<;>simp[h];rintro(h|h|h)<;>simp[h]
theorem EO:∀(l:List X2) (x:X2),l.Pairwise (fun a b=>a.var<b.var)->(∀s∈l,s.var≠x.var)->(K7 l x).Pairwise (fun a b=>a.var<b.var)
 |[],x,_,_=>by simp[K7]
 |y::l,x,h,hn=>by
  obtain⟨h1,h2⟩:=List.pairwise_cons.1 h;unfold K7;split;rename_i hxy;refine List.pairwise_cons.2 ⟨fun s hs=>?_,h⟩;rcases mc.1 hs with rfl|hs
  exact hxy;have:=h1 s hs;omega;rename_i hxy;refine List.pairwise_cons.2 ⟨fun s hs=>?_,EO l x h2 fun s hs=>hn s (List.mem_cons_of_mem _ hs)⟩;rcases(Cx l x s).1 hs with rfl|hs
  have:=hn y (by simp);omega;exact h1 s hs
theorem Nd:∀(l:List X2) (x:X2),(K7 l x).length=l.length+1
 |[],x=>rfl
 |y::l,x=>by unfold K7;split<;>simp[Nd l x]
theorem EZ{l:List X2}{v:Int}(h:(B4 l v).2=false):∀s∈l,s.var≠v:=by
 intro s hs e;unfold B4 at h;cases hf:l.findSome? (fun s=>if s.var=v then some s.value else none)with
 |some x=>rw[hf]at h;cases h
 |none=>
  rw[List.findSome?_eq_none_iff]at hf
  have:=hf s hs
  simp[e]at this
theorem Ch{l:List X2}(hl:l.Pairwise (fun a b=>a.var<b.var)){s:X2}(h:s∈l):B4 l s.var=(s.value,true):=by
 have key:∀(l:List X2),l.Pairwise (fun a b=>a.var<b.var)->s∈l->l.findSome? (fun t=>if t.var=s.var then some t.value else none)=some s.value:=by
  intro l;induction l with
  |nil=>intro _ h;simp at h
  |cons t l ih=>
   intro hp hs
   rw[List.findSome?_cons]
   obtain⟨h1,h2⟩:=List.pairwise_cons.1 hp
   rcases mc.1 hs with rfl|hs
   simp
   have:=h1 s hs
   rw[if_neg (by omega)]
   exact ih h2 hs
 unfold B4;rw[key l hl h]
def H8(w:List X2)(x:X2):Option (List X2):=if(B4 w x.var).2=true then(if(B4 w x.var).1=x.value then some w else none)else some (K7 w x)
theorem ER{w w':List X2}{x:X2}(hw:SV w)(hx:0<=x.var/\x.var<=63)(h:H8 w x=some w'):SV w'/\w'.length<=w.length+1:=by
 unfold H8 at h;split at h;split at h;cases h;exact⟨hw,by omega⟩;cases h;rename_i hn;cases h;have hn':(B4 w x.var).2=false:=by simpa using hn
 refine⟨⟨EO w x hw.1 (EZ hn'),fun s hs=>?_⟩,by rw[Nd];exact Nat.le_refl _⟩;rcases(Cx w x s).1 hs with rfl|hs
 exact hx;exact hw.2 s hs
theorem UT{w:List X2}{x:X2}(hw:w.Pairwise (fun a b=>a.var<b.var))(hn:∀s∈w,s.var≠x.var){k:Nat}(hk:k<=w.length)(h1:∀j s,w[j]? =some s->j<k->s.var<x.var)(h2:∀j s,w[j]? =some s->k<=j->x.var<s.var):
 w.take k++[x]++w.drop k=K7 w x:=by
 refine FR ?_ (EO w x hw hn) fun s=>?_
 rw[List.append_assoc,List.singleton_append]
 have hd:∀s∈w.drop k,x.var<s.var:=fun s hs=>by obtain⟨j,hj,rfl⟩:=List.mem_iff_getElem.1 hs;rw[List.getElem_drop];exact h2 (k+j) _ (List.getElem?_eq_getElem (by simp at hj;omega)) (by omega)
 have htk:∀s∈w.take k,s.var<x.var:=fun s hs=>by obtain⟨j,hj,rfl⟩:=List.mem_iff_getElem.1 hs;rw[List.getElem_take];simp at hj;exact h1 j _ (List.getElem?_eq_getElem (by omega)) (by omega)
 refine List.pairwise_append.2 ⟨hw.sublist (List.take_sublist _ _),List.pairwise_cons.2 ⟨hd,hw.sublist (List.drop_sublist _ _)⟩,fun a ha b hb=>?_⟩
 rcases mc.1 hb with rfl|hb
 exact htk a ha
 have:=htk a ha;have:=hd b hb;omega
 rw[Cx]
 have hw2:s∈w↔s∈w.take k\/s∈w.drop k:=by
  conv=>lhs;rw[<-List.take_append_drop k w]
  rw[ma]
 rw[hw2]
 simp only[ma,List.mem_singleton]
 constructor
 rintro((h|h)|h)<;>simp[h]
 rintro(h|h|h)<;>simp[h]
theorem aBr{w:List X2}{v:Int}(hw:SV w)(hv:0<=v/\v<=63)(hl:w.length<=1000):
 ∃k:Nat,k<=w.length/\Ya w v=some ((k:Int),(B4 w v).2)/\(∀j s,w[j]? =some s->j<k->s.var<v)/\(∀j s,w[j]? =some s->k<=j->v<=s.var)/\
  ((B4 w v).2=true->∃s,w[k]? =some s/\s.var=v):=by
 have hsub:∀s∈w,Qg s v=some (s.var-v):=fun s hs=>by have:=hw.2 s hs;unfold Qg;rw[aEf (by omega) (by omega)]
 unfold Ya aFg
 obtain⟨k,hk,hkr,p1,p2⟩:=aGu (step:=fun s:Int×Int=>Gb w v (w.length:Int) s.1 s.2) w.length (fun a=>match w[a]? with|some s=>decide (s.var<v)|none=>false)
  (fun i j hij hj=>by
   obtain⟨x,hx,_⟩:=AP (l:=w) (i:=(i+j)/2) (by omega);have hd:decide ((i:Int)<(j:Int))=true:=by simp;omega
   simp only[Gb,hd,AH,ZD,aPr (show i+j<4611686018427387904 by omega),AK hx,hsub x (List.mem_of_getElem? hx),AD,ZF,hx];by_cases h:x.var<v;have h':x.var-v<0:=by omega
   simp only[h,h',decide_true,AH,AD,if_true,J1 (show(i+j)/2<9223372036854775807 by omega)];have h':¬x.var-v<0:=by omega
   simp[h,h',AE,AG])
  (fun i=>by simp[Gb,AE])
  (fun a b hab hb h=>by
   obtain⟨x,hx,_⟩:=AP (l:=w) (i:=a) (by omega);obtain⟨y,hy,_⟩:=AP (l:=w) (i:=b) hb;simp only[hx,hy,decide_eq_true_eq]at h⊢;rcases Nat.lt_or_ge a b with g|g
   obtain⟨ha',rfl⟩:=List.getElem?_eq_some_iff.1 hx;obtain⟨hb',rfl⟩:=List.getElem?_eq_some_iff.1 hy;have:=List.pairwise_iff_getElem.1 hw.1 a b ha' hb' g;omega;have:a=b:=by omega
   subst this;rw[hx]at hy;cases hy;exact h)
 have q1:∀j s,w[j]? =some s->j<k->s.var<v:=fun j s hs hj=>by have:=p1 j hj;simp only[hs]at this;simpa using this
 have q2:∀j s,w[j]? =some s->k<=j->v<=s.var:=fun j s hs hj=>by have:=p2 j hj (At hs);simp only[hs]at this;simp at this;exact this
 refine⟨k,hk,?_,q1,q2,?_⟩
 rw[hkr,AD]
 by_cases h:k<w.length
 obtain⟨x,hx,_⟩:=AP h
 rw[Cr,if_pos (by omega),AK hx,hsub x (List.mem_of_getElem? hx),AD]
 have hge:=q2 k x hx (Nat.le_refl _)
 by_cases hv2:x.var=v
 have:=Ch hw.1 (List.mem_of_getElem? hx)
 rw[hv2]at this
 simp[this,hv2]
 cases hg:(B4 w v).2 with
 |false=>
  have:¬x.var-v=0:=by omega
  simp[this]
 |true=>
  have hm:=Cw (l:=w) (v:=v) (x:=(B4 w v).1) (by rw[<-hg])
  obtain⟨j,hj,hjs⟩:=List.mem_iff_getElem.1 hm
  have hjg:w[j]? =some (X2.mk v (B4 w v).1):=by rw[List.getElem?_eq_getElem hj,hjs]
  rcases Nat.lt_trichotomy j k with g|g|g
  have:=q1 j _ hjg g;simp at this
  subst g;rw[hx]at hjg;cases hjg;exact absurd rfl hv2
  obtain⟨hk',hxe⟩:=List.getElem?_eq_some_iff.1 hx
  have:=List.pairwise_iff_getElem.1 hw.1 k j hk' hj g
  rw[hxe,hjs]at this
  simp only at this;omega
 rw[Cr,if_neg (by omega)]
 cases hg:(B4 w v).2 with
 |false=>rfl
 |true=>
  have hm:=Cw (l:=w) (v:=v) (x:=(B4 w v).1) (by rw[<-hg])
  obtain⟨j,hj,hjs⟩:=List.mem_iff_getElem.1 hm
  have:=q1 j _ (by rw[List.getElem?_eq_getElem hj,hjs]) (by omega)
  simp at this
 intro hg
 have hm:=Cw (l:=w) (v:=v) (x:=(B4 w v).1) (by rw[<-hg])
 obtain⟨j,hj,hjs⟩:=List.mem_iff_getElem.1 hm
 have hjg:w[j]? =some (X2.mk v (B4 w v).1):=by rw[List.getElem?_eq_getElem hj,hjs]
 have hkj:k<=j:=Nat.le_of_not_lt fun g=>by have:=q1 j _ hjg g;simp at this
 obtain⟨x,hx,_⟩:=AP (l:=w) (i:=k) (by omega)
 refine⟨x,hx,?_⟩
 have hge:=q2 k x hx (Nat.le_refl _)
 rcases Nat.eq_or_lt_of_le hkj with e|e
 subst e;rw[hx]at hjg;cases hjg;rfl
 obtain⟨hk',hxe⟩:=List.getElem?_eq_some_iff.1 hx
 have:=List.pairwise_iff_getElem.1 hw.1 k j hk' hj e
 rw[hxe,hjs]at this
 simp only at this;omega
theorem aEc{w:List X2}{x:X2}(hw:SV w)(hx:0<=x.var/\x.var<=63)(hl:w.length<=900):
 ∃r,Zq x w=some r/\match H8 w x with|none=>r.1=false|some w'=>r=(true,w'):=by
 unfold Zq
 obtain⟨k,hk,hb,q1,q2,q3⟩:=aBr hw hx (show w.length<=1000 by omega)
 rw[hb,AD]
 unfold H8
 cases hg:(B4 w x.var).2 with
 |true=>
  obtain⟨s,hs,hsv⟩:=q3 hg
  have hklt:=At hs
  have hgs:=Ch hw.1 (List.mem_of_getElem? hs)
  rw[hsv]at hgs
  simp only[AH]
  rw[An (by omega),AK hs]
  refine⟨_,rfl,?_⟩
  rw[hgs]
  simp only[if_true,X2.eqb_dec]
  have he:(s=x)↔s.value=x.value:=by obtain⟨a,b⟩:=s;obtain⟨c,d⟩:=x;simp only at hsv;subst hsv;simp
  by_cases h:s.value=x.value
  rw[if_pos h];simp[he,h]
  rw[if_neg h];simp[he,h]
 |false=>
  have hn:=EZ hg
  simp only[AF,Bool.false_eq_true,if_false]
  have hin:U0 (k:Int) w [x]=some (K7 w x):=by
   unfold U0 aK6;rw[if_pos ⟨by omega,by omega,by simp,HI (by simp;omega) (by decide)⟩,Int.toNat_natCast];rw[UT hw.1 hn hk q1 (fun j s hs hj=>by have h1:=q2 j s hs hj;have h2:=hn s (List.mem_of_getElem? hs);omega)]
  exact⟨_,by rw[hin];rfl,rfl⟩
def D0:List BQ->List X0->List X2->List X2->Option (List X2×List X2)
 |a::al,x::xs,b,f=>
  if a.kind=1 then(if a.value=x then D0 al xs b f else none)
  else if a.kind=2 then(match H8 b ⟨a.n,x⟩with|none=>none|some b'=>D0 al xs b' f)
  else if a.kind=3 then(match H8 f ⟨a.n,x⟩with|none=>none|some f'=>D0 al xs b f')
  else D0 al xs b f
 |_,_,b,f=>some (b,f)
def aHs(a:BQ):Prop:=(a.kind=2->0<=a.n/\a.n<=7)/\(a.kind=3->0<=a.n/\a.n<=63)
def B7(b:List X2):Prop:=∀s∈b,s.var<=7
theorem aEb{w w':List X2}{x:X2}(hw:B7 w)(hx:x.var<=7)(h:H8 w x=some w'):B7 w':=by
 unfold H8 at h;split at h;split at h;cases h;exact hw;cases h;cases h;intro s hs;rcases(Cx w x s).1 hs with rfl|hs
 exact hx;exact hw s hs
theorem FE:∀(al:List BQ) (xs:List X0) (b f:List X2) (p:List X2×List X2),(∀a∈al,aHs a)->SV b->SV f->B7 b->D0 al xs b f=some p->SV p.1/\SV p.2/\B7 p.1/\p.1.length<=b.length+al.length/\p.2.length<=f.length+al.length
 |[],xs,b,f,p,_,hb,hf,h7,h=>by simp only[D0]at h;cases h;exact⟨hb,hf,h7,by simp,by simp⟩
 |a::al,[],b,f,p,_,hb,hf,h7,h=>by simp only[D0]at h;cases h;exact⟨hb,hf,h7,by simp,by simp⟩
 |a::al,x::xs,b,f,p,hA,hb,hf,h7,h=>by
  have hA':∀a∈al,aHs a:=fun a h=>hA a (List.mem_cons_of_mem _ h);have hAa:=hA a (by simp);simp only[D0]at h;split at h;split at h;obtain⟨a1,a2,a3,a4,a5⟩:=FE al xs b f p hA' hb hf h7 h;exact⟨a1,a2,a3,by simp;omega,by simp;omega⟩;cases h;split at h;rename_i h2;split at h;cases h;rename_i b' hp;have hv:=hAa.1 h2;obtain⟨c1,c2⟩:=ER hb (x:=⟨a.n,x⟩) ⟨hv.1,by simp only;omega⟩ hp;obtain⟨a1,a2,a3,a4,a5⟩:=FE al xs b' f p hA' c1 hf (aEb h7 (by simp only;omega) hp) h;exact⟨a1,a2,a3,by simp;omega,by simp;omega⟩;split at h;rename_i h3;split at h;cases h;rename_i f' hp;have hv:=hAa.2 h3;obtain⟨c1,c2⟩:=ER hf (x:=⟨a.n,x⟩) hv hp;obtain⟨a1,a2,a3,a4,a5⟩:=FE al xs b f' p hA' hb c1 h7 h;exact⟨a1,a2,a3,by simp;omega,by simp;omega⟩;obtain⟨a1,a2,a3,a4,a5⟩:=FE al xs b f p hA' hb hf h7 h;exact⟨a1,a2,a3,by simp;omega,by simp;omega⟩
theorem aB1{al:List BQ}{e:X3}(hlen:al.length=e.args.length)(h12:al.length<=12)(hA:∀a∈al,aHs a):∀(n i:Nat) (b f:List X2),al.length-i=n->i<=al.length->SV b->SV f->b.length<=i->f.length<=i->
 ∃o,TD al (al.length:Int) e (i:Int) b f=some o/\match D0 (al.drop i) (e.args.drop i) b f with|none=>∃z,o=.inr z|some p=>o=.inl p:=by
 intro n
 induction n with
 |zero=>
  intro i b f hn hi _ _ _ _
  have:i=al.length:=by omega
  subst this
  rw[NH]
  refine⟨.inl (b,f),by simp only[Gn,ltI,AF,CE],?_⟩
  rw[List.drop_length];simp[D0]
 |succ n ih=>
  intro i b f hn hi hb hf hbl hfl
  obtain⟨a,ha,hda⟩:=AP (l:=al) (i:=i) (by omega)
  obtain⟨x,hx,hdx⟩:=AP (l:=e.args) (i:=i) (by omega)
  have hAa:=hA a (List.mem_of_getElem? ha)
  rw[NH,hda,hdx]
  simp only[Gn,ltD ha,AH,AK ha,AK hx,Ag ha (show al.length<=9223372036854775807 by omega),X0.eqb_dec]
  simp only[D0]
  by_cases h1:a.kind=1
  have h2:¬a.kind=2:=by omega
  have h3:¬a.kind=3:=by omega
  by_cases hv:a.value=x
  obtain⟨o,ho,hm⟩:=ih (i+1) b f (by omega) (by omega) hb hf (by omega) (by omega)
  refine⟨o,by simp[h1,hv,AE,BP];exact_mod_cast ho,by simpa[h1,hv]using hm⟩
  exact⟨.inr (b,f),by simp[h1,hv,AE,BP],by simp[h1,hv]⟩
  by_cases h2:a.kind=2
  have h3:¬a.kind=3:=by omega
  have hvr:=hAa.1 h2
  obtain⟨r,hr,hrm⟩:=aEc (w:=b) (x:=⟨a.n,x⟩) hb ⟨hvr.1,by simp only;omega⟩ (by omega)
  rw[hr]
  cases hp:H8 b ⟨a.n,x⟩with
  |none=>
   rw[hp]at hrm
   simp only at hrm
   exact⟨.inr (r.2,f),by simp[h1,h2,hrm,AE,BP,AG],by simp[h1,h2]⟩
  |some b'=>
   rw[hp]at hrm
   simp only at hrm
   subst hrm
   obtain⟨c1,c2⟩:=ER hb (x:=⟨a.n,x⟩) ⟨hvr.1,by simp only;omega⟩ hp
   obtain⟨o,ho,hm⟩:=ih (i+1) b' f (by omega) (by omega) c1 hf (by omega) (by omega)
   refine⟨o,by simp[h1,h2,h3,AE,BP,AG];exact_mod_cast ho,by simpa[h1,h2]using hm⟩
  by_cases h3:a.kind=3
  have hvr:=hAa.2 h3
  obtain⟨r,hr,hrm⟩:=aEc (w:=f) (x:=⟨a.n,x⟩) hf hvr (by omega)
  rw[hr]
  cases hp:H8 f ⟨a.n,x⟩with
  |none=>
   rw[hp]at hrm
   simp only at hrm
   exact⟨.inr (b,r.2),by simp[h1,h2,h3,hrm,AE,BP,AG],by simp[h1,h2,h3]⟩
  |some f'=>
   rw[hp]at hrm
   simp only at hrm
   subst hrm
   obtain⟨c1,c2⟩:=ER hf (x:=⟨a.n,x⟩) hvr hp
   obtain⟨o,ho,hm⟩:=ih (i+1) b f' (by omega) (by omega) hb c1 (by omega) (by omega)
   refine⟨o,by simp[h1,h2,h3,AE,BP,AG];exact_mod_cast ho,by simpa[h1,h2,h3]using hm⟩
  obtain⟨o,ho,hm⟩:=ih (i+1) b f (by omega) (by omega) hb hf (by omega) (by omega)
  refine⟨o,by simp[h1,h2,h3,AE,BP];exact_mod_cast ho,by simpa[h1,h2,h3]using hm⟩
def aB3(a b:List X2):Bool:=a.all fun s=> !(B4 b s.var).2||decide ((B4 b s.var).1=s.value)
theorem aN4(a b:List X2)(ha:a.length<=9223372036854775807)(hb:b.length<=9223372036854775807):Z4 a b=some (aB3 a b):=by
 unfold Z4 aF3;rw[Bt a (fun s=> !(B4 b s.var).2||decide ((B4 b s.var).1=s.value)) (.inl ():Unit⊕Unit) (.inr ())
  (fun i x hx=>by simp only[JG,ltD hx,AH,AK hx,Ag hx ha,ZB b _ hb,AD,X0.eqb_dec];obtain⟨y,o⟩:=B4 b x.var;cases o;simp[AE];by_cases h:y=x.value<;>simp[AE,h])
  (by simp only[JG,ltI,AF]),AD]
 unfold aB3;cases a.all _<;>rfl
theorem Ft(x:X2)(v:Int):B4 [x] v=if x.var=v then(x.value,true)else(zV,false):=by unfold B4;by_cases h:x.var=v<;>simp[h]
def Do(a b:List X2)(v:Nat):Option X2:=
 if(B4 a v).2=true then some ⟨v,(B4 a v).1⟩else if(B4 b v).2=true then some ⟨v,(B4 b v).1⟩else none
def Ho(a b:List X2):List X2:=(List.range 8).filterMap (Do a b)
theorem aM3(a b:List X2)(ha:a.length<=9223372036854775807)(hb:b.length<=9223372036854775807):Xz a b=some (Ho a b):=by
 unfold Xz aE9;have hg:∀(l:List X2) (v:Int),l.length<=9223372036854775807->Y9 l v=some (B4 l v):=fun l v hl=>ZB l v hl;have h:=Dk (step:=fun s:Int×List X2=>GX a b s.1 s.2) (List.range 8) (fun w v=>w++(Do a b v).toList) (fun w=>w) (fun i w=>w.length<=i)
  (fun i x w hx hI=>by
   have hi:i<8:=by simpa using At hx
   have hxi:x=i:=by rw[List.getElem?_range hi]at hx;cases hx;rfl
   subst hxi;have hd:decide ((x:Int)<8)=true:=by simp;omega
   refine⟨?_,?_⟩;simp only[GX,hd,AH,YC,hg a _ ha,hg b _ hb,AD,YE,YG,J1 (show x<9223372036854775807 by omega),Do];rw[DO (by simp;omega) (by decide),DO (by simp;omega) (by decide)];cases(B4 a (x:Int)).2<;>cases(B4 b (x:Int)).2<;>simp[AE,AG];unfold Do;split;simpa using hI;split;simpa using hI;simp;omega)
  (fun w _=>by simp[GX,AE]) [] (by simp)
 rw[h,AD];congr 1;unfold Ho;have key:∀(l:List Nat) (w:List X2),l.foldl (fun w v=>w++(Do a b v).toList) w=w++l.filterMap (Do a b):=by
  intro l;induction l with
  |nil=>intro w;simp
  |cons v l ih=>intro w;rw[List.foldl_cons,ih,List.filterMap_cons];cases Do a b v<;>simp
 rw[key];simp
theorem FS{a b:List X2}{v:Nat}{s:X2}(h:Do a b v=some s):s.var=(v:Int):=by unfold Do at h;split at h;cases h;rfl;split at h;cases h;rfl;cases h
theorem J4(a b:List X2):(Ho a b).Pairwise (fun x y=>x.var<y.var):=by
 unfold Ho;have h8:(List.range 8).Pairwise (· < ·):=List.pairwise_lt_range
 rw[List.pairwise_filterMap];refine h8.imp fun{v w} hvw s hs t ht=>?_;have:=FS hs;have:=FS ht;omega
theorem PD{a b:List X2}{s:X2}:s∈Ho a b↔0<=s.var/\s.var<=7/\(B4 a s.var=(s.value,true)\/(B4 a s.var).2=false/\B4 b s.var=(s.value,true)):=by
 unfold Ho;rw[List.mem_filterMap];constructor;rintro⟨v,hv,h⟩;have hv8:v<8:=by simpa using hv
 have hsv:=FS h;refine⟨by omega,by omega,?_⟩;rw[hsv];unfold Do at h;split at h;rename_i ha;cases h;left;simp only;rw[<-ha];rename_i ha;split at h;rename_i hb;cases h;right;exact⟨by simpa using ha,by simp only;rw[<-hb]⟩;cases h;rintro⟨h0,h7,h⟩;refine⟨s.var.toNat,by simp;omega,?_⟩;have e:((s.var.toNat:Nat):Int)=s.var:=by omega
 unfold Do;rw[e];rcases h with h|⟨h,h'⟩
 rw[h];simp;rw[h,h'];simp
theorem aB4{b:List X2}{x:X2}(hb:SV b):aB3 b [x]=(H8 b x).isSome:=by
 unfold aB3 H8;cases hg:(B4 b x.var).2 with
 |true=>
  have hm:=Cw (l:=b) (v:=x.var) (x:=(B4 b x.var).1) (by rw[<-hg])
  by_cases hv:(B4 b x.var).1=x.value
  simp only[if_true,hv,Option.isSome_some]
  rw[List.all_eq_true]
  intro s hs
  rw[Ft]
  by_cases h:x.var=s.var
  have:=Ch hb.1 hs
  rw[<-h]at this
  rw[this]at hv
  simp[h,<-hv]
  simp[h]
  simp only[if_true,hv,if_false,Option.isSome_none]
  rw[List.all_eq_false]
  refine⟨_,hm,?_⟩
  rw[Ft]
  simp
  exact fun h=>hv h.symm
 |false=>
  simp only[Bool.false_eq_true,if_false,Option.isSome_some]
  rw[List.all_eq_true]
  intro s hs
  rw[Ft]
  have:=EZ hg s hs
  have h':¬x.var=s.var:=fun h=>this h.symm
  simp[h']
theorem Ve{b w:List X2}{x:X2}(hb:SV b)(h7:B7 b)(hx:0<=x.var/\x.var<=7)(h:H8 b x=some w):Ho b [x]=w:=by
 have hw:=ER hb (x:=x) ⟨hx.1,by omega⟩ h;refine FR (J4 _ _) hw.1.1 fun s=>?_;rw[PD,Ft];unfold H8 at h;split at h;rename_i hg;split at h;rename_i hv;cases h;constructor;rintro⟨_,_,h1|⟨h1,h2⟩⟩;exact Cw h1;split at h2;rename_i e;rw[e]at hg;rw[h1]at hg;cases hg;simp at h2;intro hs;exact⟨(hb.2 s hs).1,h7 s hs,.inl (Ch hb.1 hs)⟩;cases h;rename_i hg;have hg':(B4 b x.var).2=false:=by simpa using hg
 cases h;rw[Cx];constructor;rintro⟨_,_,h1|⟨h1,h2⟩⟩;exact .inr (Cw h1);split at h2;rename_i e;left;obtain⟨a,c⟩:=s;obtain⟨a',c'⟩:=x;simp only at e h2;subst e;simp at h2;rw[h2];simp at h2;rintro(rfl|hs);exact⟨hx.1,hx.2,.inr ⟨hg',by simp⟩⟩;exact⟨(hb.2 s hs).1,h7 s hs,.inl (Ch hb.1 hs)⟩
theorem aNy{w:List X2}{x:X2}(hw:SV w)(hn:∀s∈w,s.var≠x.var)(hl:w.length<=1000):Z0 w x=some (K7 w x):=by
 unfold Z0 aF1;obtain⟨t,ht,k,hk,rfl,p1,p2⟩:=Am (step:=fun s=>Gs w x s) (fun s=>∃i:Nat,s=(i:Int)/\i<=w.length/\∀j s,w[j]? =some s->i<=j->x.var<s.var) (fun s=>s.toNat)
  (fun t=>∃k:Nat,k<=w.length/\t=(k:Int)/\(∀j s,w[j]? =some s->j<k->s.var<x.var)/\∀j s,w[j]? =some s->k<=j->x.var<s.var)
  (by
   rintro s ⟨i,rfl,hi,hj⟩;cases i with
   |zero=>exact .inl ⟨0,by simp[Gs,AE],0,by omega,rfl,fun j s _ h=>by omega,hj⟩
   |succ i=>
    obtain⟨y,hy,_⟩:=AP (l:=w) (i:=i) (by omega)
    have e:AB .sub .i64 ((i+1:Nat):Int) 1=(i:Int):=by rw[aEf (by omega) (by omega)];omega
    have hd:decide ((0:Int)<((i+1:Nat):Int))=true:=by simp
    simp only[Gs,hd,AH,e,AK hy]
    by_cases h:x.var<y.var
    refine .inr ⟨_,by simp only[h,decide_true,AH],⟨i,rfl,by omega,fun j s hs hij=>?_⟩,by omega⟩
    rcases Nat.eq_or_lt_of_le hij with g|g
    subst g;rw[hy]at hs;cases hs;exact h
    exact hj j s hs g
    refine .inl ⟨_,by simp only[h,decide_false,AF],i+1,hi,rfl,fun j s hs hij=>?_,hj⟩
    have hyx:y.var<x.var:=by have:=hn y (List.mem_of_getElem? hy);omega
    rcases Nat.lt_or_ge j i with g|g
    obtain⟨a1,rfl⟩:=List.getElem?_eq_some_iff.1 hs
    obtain⟨a2,rfl⟩:=List.getElem?_eq_some_iff.1 hy
    have:=List.pairwise_iff_getElem.1 hw.1 j i a1 a2 g;omega
    have:j=i:=by omega
    subst this;rw[hy]at hs;cases hs;exact hyx)
  (w.length:Int) ⟨w.length,rfl,Nat.le_refl _,fun j s hs hij=>by have:=At hs;omega⟩
 rw[ht,AD];have es:sub w 0 (k:Int)=w.take k:=by rw[show(0:Int)=((0:Nat):Int)from rfl,aHi];rfl
 rw[es,aHh,An (by omega),DO (by simp;omega) (by decide),DO (by simp;omega) (by decide),An (by omega),DO (by simp;omega) (by decide)];rw[List.nil_append,UT hw.1 hn hk p1 p2]
theorem aB8{al:List BQ}{e:X3}{sy:X8}{s1 w6:Int}{w9:AL}(hsy:sy.args=al)(hlen:al.length=e.args.length)(h12:al.length<=12)(hA:∀a∈al,aHs a):∀(n i:Nat) (b f:List X2),al.length-i=n->i<=al.length->SV b->SV f->B7 b->b.length<=i->f.length<=i->
 OP s1 e w6 sy w9 b f (i:Int)=some (match D0 (al.drop i) (e.args.drop i) b f with|none=>.inr ()|some p=>.inl p):=by
 subst hsy
 intro n
 induction n with
 |zero=>
  intro i b f hn hi _ _ _ _ _
  have:i=sy.args.length:=by omega
  subst this
  rw[M0]
  simp only[GQ,ltI,AF,CE]
  rw[List.drop_length];simp[D0]
 |succ n ih=>
  intro i b f hn hi hb hf h7 hbl hfl
  obtain⟨a,ha,hda⟩:=AP (l:=sy.args) (i:=i) (by omega)
  obtain⟨x,hx,hdx⟩:=AP (l:=e.args) (i:=i) (by omega)
  have hAa:=hA a (List.mem_of_getElem? ha)
  rw[M0,hda,hdx]
  simp only[GQ,ltD ha,AH,Ww,AK ha,AK hx,Ag ha (show sy.args.length<=9223372036854775807 by omega),X0.eqb_dec,RO,RP,RQ]
  simp only[D0]
  by_cases h1:a.kind=1
  have h2:¬a.kind=2:=by omega
  have h3:¬a.kind=3:=by omega
  by_cases hv:a.value=x
  have ho:=ih (i+1) b f (by omega) (by omega) hb hf h7 (by omega) (by omega)
  simp[h1,hv,AE,BP,AG,Ay];exact_mod_cast ho
  simp[h1,hv,AE,BP,AG,Ay]
  by_cases h2:a.kind=2
  have h3:¬a.kind=3:=by omega
  have hvr:=hAa.1 h2
  rw[aN4 _ _ (by omega) (by simp),aB4 (x:=⟨a.n,x⟩) hb,aM3 _ _ (by omega) (by simp)]
  cases hp:H8 b ⟨a.n,x⟩with
  |none=>simp[h1,h2,AE,BP,AG,Ay]
  |some b'=>
   obtain⟨c1,c2⟩:=ER hb (x:=⟨a.n,x⟩) ⟨hvr.1,by simp only;omega⟩ hp
   rw[Ve hb h7 (x:=⟨a.n,x⟩) hvr hp]
   have ho:=ih (i+1) b' f (by omega) (by omega) c1 hf (aEb h7 (by simp only;omega) hp) (by omega) (by omega)
   simp[h1,h2,h3,AE,BP,AG,Ay];exact_mod_cast ho
  by_cases h3:a.kind=3
  have hvr:=hAa.2 h3
  rw[ZB f _ (by omega)]
  unfold H8
  simp only
  cases hg:(B4 f a.n).2 with
  |true=>
   by_cases hv:(B4 f a.n).1=x
   have ho:=ih (i+1) b f (by omega) (by omega) hb hf h7 (by omega) (by omega)
   simp[h1,h2,h3,hg,hv,AE,BP,AG,Ay];exact_mod_cast ho
   simp[h1,h2,h3,hg,hv,AE,BP,AG,Ay]
  |false=>
   have hp:H8 f ⟨a.n,x⟩=some (K7 f ⟨a.n,x⟩):=by unfold H8;simp[hg]
   obtain⟨c1,c2⟩:=ER hf (x:=⟨a.n,x⟩) hvr hp
   have ho:=ih (i+1) b (K7 f ⟨a.n,x⟩) (by omega) (by omega) hb c1 h7 (by omega) (by omega)
   have hput:=aNy (w:=f) (x:=⟨a.n,x⟩) hf (EZ hg) (by omega)
   simp[h1,h2,h3,hg,AE,BP,AG,Ay,aKi,hput];exact_mod_cast ho
  have ho:=ih (i+1) b f (by omega) (by omega) hb hf h7 (by omega) (by omega)
  simp[h1,h2,h3,AE,BP,AG,Ay];exact_mod_cast ho
def DV(q:AA)(i:Nat)(e:X3):Option AL:=match q.symbols[i]? with
 |none=>none
 |some s=>match q.decls[s.event.toNat]? with
  |none=>none
  |some d=>if d.name=e.name/\s.args.length=e.args.length then(D0 s.args e.args [] []).map fun p=>⟨i,p.1,p.2⟩else none
def EB(q:AA)(e:X3):List AL:=if eR q.decls e=true then(List.range q.symbols.length).filterMap fun i=>DV q i e else []
theorem IG:SV []:=⟨List.Pairwise.nil,by simp⟩
theorem aK5{q:AA}(hF:CX q)(hR:Ad q){s:X8}(hs:s∈q.symbols):∀a∈s.args,aHs a:=fun a ha=>by have:=(hR.symbols s hs).args a ha;have h8:=hR.quants;have hf:=hF.frees;exact⟨fun h=>by have:=this.two h;omega,fun h=>by have:=this.three h;omega⟩
def PK(o:Option AL):AL×Bool:=match o with
 |some h=>(h,true)
 |none=>(⟨0,[],[]⟩,false)
theorem aBv{q:AA}(hR:Ad q){e:X3}(he:eR q.decls e=true){s:X8}(hs:s∈q.symbols){d:X7}(hd:q.decls[s.event.toNat]? =some d)(hn:d.name=e.name):s.args.length=e.args.length:=by obtain⟨d',hd',hl⟩:=(hR.symbols s hs).decl;rw[hd]at hd';cases hd';have hf:=hR.decls _ d hd;rw[hn]at hf;unfold eR at he;rw[hf]at he;simp only[hd]at he;unfold G4 at he;simp at he;omega
theorem aLl{q:AA}(hF:CX q)(hR:Ad q){e:X3}(he:eR q.decls e=true){i:Nat}(hi:i<q.symbols.length):Qh q i e=some (PK (DV q i e)):=by
 obtain⟨s,hs,_⟩:=AP hi;have hsm:=List.mem_of_getElem? hs;have hso:=hR.symbols s hsm;obtain⟨d,hd,hdl⟩:=hso.decl;unfold Qh DV;rw[AK hs,CN hd hso.event,hs];simp only[hd];by_cases hn:d.name=e.name;have hlen:=aBv hR he hsm hd hn;have h12:=hF.args s hsm;obtain⟨o,ho,hm⟩:=aB1 hlen h12 (aK5 hF hR hsm) _ 0 [] [] rfl (by omega) IG IG (by simp) (by simp);unfold Yv;rw[show(0:Int)=((0:Nat):Int)from rfl,ho];simp only[List.drop_zero]at hm;simp only[hn,hlen,and_self,if_true,decide_true,Bool.not_true,AF,AD];cases hfit:D0 s.args e.args [] []with
 |none=>
  rw[hfit]at hm
  obtain⟨z,rfl⟩:=hm
  simp[Ay,AG,AE,PK]
 |some p=>
  rw[hfit]at hm
  simp only at hm
  subst hm
  simp[Ay,AG,AE,PK]
 simp[hn,AE,PK]
theorem aMp{q:AA}(hF:CX q)(hR:Ad q){e:X3}{i:Nat}(hi:i<q.symbols.length):Xk q i e=some (PK (DV q i e)):=by
 obtain⟨s,hs,_⟩:=AP hi;have hsm:=List.mem_of_getElem? hs;have hso:=hR.symbols s hsm;obtain⟨d,hd,hdl⟩:=hso.decl;unfold Xk DV;rw[AK hs,CN hd hso.event,hs,MH];simp only[hd];by_cases hn:d.name=e.name;by_cases hlen:s.args.length=e.args.length;have h12:=hF.args s hsm;have ho:=aB8 (sy:=s) (s1:=(i:Int)) (w6:=0) (w9:=⟨0,[],[]⟩) rfl hlen h12 (aK5 hF hR hsm) _ 0 [] [] rfl (by omega) IG IG (fun s hs=>by simp at hs) (by simp) (by simp);rw[show(0:Int)=((0:Nat):Int)from rfl]at ho⊢;simp only[List.drop_zero]at ho;simp only[hn,hlen,and_self,if_true,decide_true,Bool.not_true,AF];rw[show OP (i:Int) e ((0:Nat):Int) s (AL.mk ((0:Nat):Int) [] []) [] [] ((0:Nat):Int)=_ from ho,AD];cases D0 s.args e.args [] []with
 |none=>simp[Ay,PK]
 |some p=>simp[Ay,PK]
 simp[hn,hlen,AE,PK];simp[hn,AE,PK]
theorem H4{α β:Type}(g:α->Option β):∀(l:List α) (w:List β),l.foldl (fun w v=>w++(g v).toList) w=w++l.filterMap g:=by
 intro l;induction l with
 |nil=>intro w;simp
 |cons v l ih=>intro w;rw[List.foldl_cons,ih,List.filterMap_cons];cases g v<;>simp
theorem VN{n i x:Nat}(h:(List.range n)[i]? =some x):x=i/\i<n:=by
 have hi:i<n:=by simpa using At h
 rw[List.getElem?_range hi]at h;cases h;exact⟨rfl,hi⟩
def Ji{φ:Type}(step:φ->AL->Option (φ×Bool)):List AL->φ->Option φ
 |[],f=>some f
 |h::hs,f=>match step f h with
  |some (f',true)=>Ji step hs f'
  |some (f',false)=>some f'
  |none=>none
theorem aLp{q:AA}(hF:CX q)(hR:Ad q){e:X3}(h12:e.args.length<=12){φ:Type}(step:φ->AL->Option (φ×Bool))(f0:φ):Yh step q e f0=Ji step (EB q e) f0:=by
 have hd:=hF.decls;have hs:=hF.symbols;unfold Yh EB;rw[aLj _ _ (by omega) (by omega),AD];cases he:eR q.decls e with
 |false=>simp[AE,Ji]
 |true=>
  simp only[Bool.not_true,AF,if_true]
  have key:∀(n i:Nat) (f:φ),q.symbols.length-i=n->i<=q.symbols.length->(AG (Sk step q e (q.symbols.length:Int) f (i:Int)) fun o5=>Ay o5 (fun o6=>some o6) (fun o7=>some o7))=Ji step ((List.range' i n).filterMap fun i=>DV q i e) f:=by
   intro n;induction n with
   |zero=>
    intro i f hn hi
    have:i=q.symbols.length:=by omega
    subst this
    rw[NE]
    simp[Gg,AE,BP,AG,Ay,Ji]
   |succ n ih=>
    intro i f hn hi
    have hlt:decide ((i:Int)<(q.symbols.length:Int))=true:=by simp;omega
    rw[NE]
    simp only[Gg,hlt,AH,aLl hF hR he (show i<q.symbols.length by omega),AD,J1 (show i<9223372036854775807 by omega)]
    rw[List.range'_succ,List.filterMap_cons]
    cases hh:DV q i e with
    |none=>
     simp only[PK,AF,Cm]
     exact ih (i+1) f (by omega) (by omega)
    |some h=>
     simp only[PK,AH,Ji]
     rcases hst:step f h with _|⟨f',_|_⟩
     simp[Vp,BP,AG]
     simp[Vp,BP,AG,Ay]
     simp only[Vp,Cm]
     exact ih (i+1) f' (by omega) (by omega)
  rw[List.range_eq_range']
  exact key q.symbols.length 0 f0 (by omega) (by omega)
theorem Uj{q:AA}(hF:CX q)(hR:Ad q){e:X3}{h:AL}(hh:h∈EB q e):SV h.bind/\B7 h.bind/\h.bind.length<=12/\h.frees.length<=12/\SV h.frees:=by unfold EB at hh;split at hh;obtain⟨i,_,hi⟩:=List.mem_filterMap.1 hh;unfold DV at hi;split at hi;cases hi;rename_i s hs;have hsm:=List.mem_of_getElem? hs;split at hi;cases hi;split at hi;simp only[om]at hi;obtain⟨p,hp,rfl⟩:=hi;have h12:=hF.args s hsm;obtain⟨a1,a2,a3,a4,a5⟩:=FE _ _ _ _ _ (aK5 hF hR hsm) IG IG (fun s hs=>by simp at hs) hp;simp only[List.length_nil]at a4 a5;exact⟨a1,a3,by simp only;omega,by simp only;omega,a2⟩;cases hi;simp at hh
theorem aDq:∀x:List UInt8,Op.bytesLess x x=false
 |[]=>rfl
 |a::x=>by simp[Op.bytesLess,aDq x]
theorem NP:∀{x y z:List UInt8},Op.bytesLess x y=true->Op.bytesLess y z=true->Op.bytesLess x z=true
 |[],[],_,h,_=>by simp[Op.bytesLess]at h
 |_::_,[],_,h,_=>by simp[Op.bytesLess]at h
 |[],_::_,[],_,h=>by simp[Op.bytesLess]at h
 |[],_::_,_::_,_,_=>rfl
 |_::_,_::_,[],_,h=>by simp[Op.bytesLess]at h
 |a::x,b::y,c::z,h1,h2=>by
  simp only[Op.bytesLess,Bool.or_eq_true,ba,decide_eq_true_eq,beq_iff_eq]at h1 h2⊢;rcases h1 with h1|⟨rfl,h1⟩
  rcases h2 with h2|⟨rfl,h2⟩
  exact .inl (UInt8.lt_trans h1 h2);exact .inl h1;rcases h2 with h2|⟨rfl,h2⟩
  exact .inl h2;exact .inr ⟨rfl,NP h1 h2⟩
theorem aDr:∀{x y:List UInt8},x≠y->Op.bytesLess x y=true\/Op.bytesLess y x=true
 |[],[],h=>absurd rfl h
 |_::_,[],_=>.inr rfl
 |[],_::_,_=>.inl rfl
 |a::x,b::y,h=>by
  simp only[Op.bytesLess,Bool.or_eq_true,ba,decide_eq_true_eq,beq_iff_eq];by_cases hab:a=b;subst hab;rcases aDr (x:=x) (y:=y) (fun e=>h (by rw[e]))with g|g
  exact .inl (.inr ⟨rfl,g⟩);exact .inr (.inr ⟨rfl,g⟩);have:a<b\/b<a:=by rw[UInt8.lt_iff_toNat_lt,UInt8.lt_iff_toNat_lt];have:a.toNat≠b.toNat:=fun e=>hab (UInt8.toNat_inj.1 e);omega
  rcases this with g|g
  exact .inl (.inl g);exact .inr (.inl g)
theorem UL:∀(x y:List UInt8),(match ((x.zip y).findSome? fun z=>if z.1=z.2 then none else some (Sum.inr (decide (z.1<z.2)):Unit⊕Bool)).getD (.inl ())with| .inl _=>decide (x.length<y.length)| .inr b=>b)=Op.bytesLess x y
 |[],[]=>rfl
 |_::_,[]=>rfl
 |[],_::_=>by simp[Op.bytesLess]
 |a::x,b::y=>by
  rw[List.zip_cons_cons,List.findSome?_cons];by_cases h:a=b;subst h;simp only[if_true,Op.bytesLess,beq_self_eq_true,Bool.true_and,<-UL x y];have:decide (a<a)=false:=by simp
  rw[this,Bool.false_or];simp only[List.length_cons,Nat.add_lt_add_iff_right];simp[h,Op.bytesLess]
theorem aNs(x y:List UInt8)(hx:x.length<=9223372036854775807)(hy:y.length<=9223372036854775807):Yq x y=some (Op.bytesLess x y):=by
 unfold Yq aAf;have hz:(x.zip y).length=min x.length y.length:=by simp
 rw[Ck (x.zip y) (fun _ z=>if z.1=z.2 then none else some (Sum.inr (decide (z.1<z.2)):Unit⊕Bool)) (.inl ())
  (fun i z h=>by obtain⟨h1,h2⟩:=Ma h;simp only[E4,ltD h1,ltD h2,AH,AK h1,AK h2,Ag h1 hx];by_cases e:z.1=z.2;simp[e,AE];have:¬(z.1.toNat:Int)=(z.2.toNat:Int):=fun g=>e (UInt8.toNat_inj.1 (by omega));have:(decide ((z.1.toNat:Int)<(z.2.toNat:Int)))=decide (z.1<z.2):=decide_eq_decide.2 (by rw[UInt8.lt_iff_toNat_lt];omega);rw[this,if_neg e];simp[*,AE])
  (by
   rw[hz];rcases Nat.le_total x.length y.length with h|h
   rw[Nat.min_eq_left h];simp only[E4,ltI,AF];rw[Nat.min_eq_right h];simp only[E4,ltI,AF];cases decide ((y.length:Int)<(x.length:Int))<;>rfl),AD,B6,<-UL]
 cases((x.zip y).findSome? fun z=>if z.1=z.2 then none else some (Sum.inr (decide (z.1<z.2)):Unit⊕Bool)).getD (.inl ())<;>simp[Ay]
def ltV(a b:X0):Bool:=if a.kind=b.kind then(if a.kind=1 then decide (a.int<b.int)else if a.kind=2 then Op.bytesLess a.str b.str else !a.bool&&b.bool)else decide (a.kind<b.kind)
theorem aOk(a b:X0)(ha:a.str.length<=9223372036854775807)(hb:b.str.length<=9223372036854775807):Zl a b=some (ltV a b):=by unfold Zl ltV;rw[aNs _ _ ha hb];by_cases h:a.kind=b.kind<;>by_cases h1:a.kind=1<;>by_cases h2:a.kind=2<;>cases ha:a.bool<;>simp_all [AE,AG]
theorem MJ(a:X0):ltV a a=false:=by unfold ltV;rw[if_pos rfl];split;simp;split;exact aDq _;cases a.bool<;>rfl
theorem HU{a b c:X0}(h1:ltV a b=true)(h2:ltV b c=true):ltV a c=true:=by unfold ltV at*;by_cases e1:a.kind=b.kind;by_cases e2:b.kind=c.kind;rw[if_pos e1]at h1;rw[if_pos e2]at h2;rw[if_pos (e1.trans e2)];rw[e1]at h1⊢;split;rename_i h;rw[if_pos h]at h1 h2;simp at h1 h2⊢;omega;rename_i h;rw[if_neg h]at h1 h2;split;rename_i h;rw[if_pos h]at h1 h2;exact NP h1 h2;rename_i h;rw[if_neg h]at h1 h2;simp at h1 h2⊢;exact⟨h1.1,h2.2⟩;rw[if_neg e2]at h2;rw[e1,if_neg e2];exact h2;rw[if_neg e1]at h1;by_cases e2:b.kind=c.kind;rw[<-e2,if_neg e1];exact h1;rw[if_neg e2]at h2;simp only[decide_eq_true_eq]at h1 h2;rw[if_neg (by omega)];simp;omega
theorem Eq{v:X0}(h:vR v=true):(v.kind=1/\v.str=[]/\v.bool=false)\/(v.kind=2/\v.int=0/\v.bool=false/\v.str.length<=4096)\/(v.kind=3/\v.int=0/\v.str=[]):=by unfold vR at h;split at h;left;simp at h;exact⟨by assumption,h.1,h.2⟩;split at h;right;left;simp at h;exact⟨by assumption,h.1.1,h.1.2,h.2⟩;split at h;right;right;simp at h;exact⟨by assumption,h.1,h.2⟩;cases h
theorem Uy{a b:X0}(ha:vR a=true)(hb:vR b=true)(h:a≠b):ltV a b=true\/ltV b a=true:=by
 unfold ltV;by_cases e:a.kind=b.kind;rw[if_pos e,if_pos e.symm,<-e];obtain⟨k,n,s,t⟩:=a;obtain⟨k',n',s',t'⟩:=b;simp only at e;subst e;rcases Eq ha with⟨rfl,h2,h3⟩|⟨rfl,h2,h3,h4⟩|⟨rfl,h2,h3⟩<;>rcases Eq hb with⟨g1,g2,g3⟩|⟨g1,g2,g3,g4⟩|⟨g1,g2,g3⟩<;>simp only[Int.reduceEq]at g1 h2 h3 g2 g3<;>subst_vars
 simp at h⊢;omega;simp at h⊢;exact aDr h;simp at h⊢;cases t<;>cases t'<;>simp_all;rw[if_neg e,if_neg (Ne.symm e)];simp;omega
theorem N1{w w':List X2}{x s:X2}(h:H8 w x=some w')(hs:s∈w'):s=x\/s∈w:=by unfold H8 at h;split at h;split at h;cases h;exact .inr hs;cases h;cases h;exact(Cx w x s).1 hs
theorem Nc:∀(al:List BQ) (xs:List X0) (b f:List X2) (p:List X2×List X2),D0 al xs b f=some p->∀s∈p.1,s∈b\/s.value∈xs
 |[],xs,b,f,p,h=>by simp only[D0]at h;cases h;exact fun s hs=>.inl hs
 |a::al,[],b,f,p,h=>by simp only[D0]at h;cases h;exact fun s hs=>.inl hs
 |a::al,x::xs,b,f,p,h=>by
  simp only[D0]at h;have go:∀b f,D0 al xs b f=some p->∀s∈p.1,s∈b\/s.value∈x::xs:=fun b f h s hs=>(Nc al xs b f p h s hs).imp id (List.mem_cons_of_mem _);split at h;split at h;exact go b f h;cases h;split at h;split at h;cases h;rename_i b' hp;intro s hs;rcases go b' f h s hs with g|g
  rcases N1 hp g with rfl|g
  exact .inr (by simp);exact .inl g;exact .inr g;split at h;split at h;cases h;rename_i f' hp;exact go b f' h;exact go b f h
theorem Id{q:AA}{e:X3}{i:Nat}{h:AL}(hi:DV q i e=some h):h.symbol=i/\∀s∈h.bind,s.value∈e.args:=by unfold DV at hi;split at hi;cases hi;split at hi;cases hi;split at hi;simp only[om]at hi;obtain⟨p,hp,rfl⟩:=hi;exact⟨rfl,fun s hs=>(Nc _ _ _ _ _ hp s hs).resolve_left (by simp)⟩;cases hi
theorem aB9(q:AA)(e:X3)(hF:CX q):(EB q e).length<=1000:=by unfold EB;split;refine Nat.le_trans (List.length_filterMap_le _ _) ?_;rw[List.length_range];exact Nat.le_trans hF.symbols (by decide);simp
theorem aLn{q:AA}(hF:CX q)(hR:Ad q){e:X3}(h12:e.args.length<=12):Qi q e=some (EB q e):=by
 unfold Qi Qj;rw[AD];unfold U1 Xl;simp only;rw[aLp hF hR h12];have key:∀(hs w:List AL),w.length+hs.length<=1000->Ji (CP (CZ q e)) hs (.inl w)=some (.inl (w++hs)):=by
  intro hs;induction hs with
  |nil=>intro w _;simp[Ji]
  |cons h hs ih=>
   intro w hl
   rw[List.length_cons]at hl
   have e1:CP (CZ q e) (.inl w) h=some (.inl (w++[h]),true):=by simp only[CP,CZ,Wz,W2,AD];rw[DO (by simp;omega) (by decide),AD]
   rw[Ji,e1]
   simp only
   rw[ih _ (by simp;omega)]
   simp
 rw[key _ _ (by have:=aB9 q e hF;simp;omega)];rfl
theorem Oy{α:Type}{p:α->Bool}{w:List α}{k:Nat}(h1:∀(j:Nat) y,w[j]? =some y->j<k->p y=true)(h2:∀(j:Nat) y,w[j]? =some y->k<=j->p y=false):w.take k=w.filter p/\w.drop k=w.filter fun y=> !p y:=by
 have a:∀y∈w.take k,p y=true:=fun y hy=>by obtain⟨j,hj⟩:=List.mem_iff_getElem?.1 hy;rw[List.getElem?_take]at hj;split at hj;exact h1 j y hj (by assumption);cases hj
 have b:∀y∈w.drop k,p y=false:=fun y hy=>by obtain⟨j,hj⟩:=List.mem_iff_getElem?.1 hy;rw[List.getElem?_drop]at hj;exact h2 (k+j) y hj (by omega)
 have e:∀p:α->Bool,w.filter p=(w.take k).filter p++(w.drop k).filter p:=fun p=>by rw[<-List.filter_append,List.take_append_drop]
 constructor;rw[e,List.filter_eq_self.2 a,List.filter_eq_nil_iff.2 (fun y hy=>by simp[b y hy]),List.append_nil];rw[e,List.filter_eq_nil_iff.2 (fun y hy=>by simp[a y hy]),List.filter_eq_self.2 (fun y hy=>by simp[b y hy]),List.nil_append]
def SW(w:List X0):Prop:=w.Pairwise (fun a b=>ltV a b=true)/\∀v∈w,vR v=true
def Hb(w:List X0)(x:X0):List X0:=if x∈w then w else w.filter (fun y=>ltV y x)++x::w.filter fun y=> !ltV y x
theorem aEg{v:X0}(h:vR v=true):v.str.length<=9223372036854775807:=by
 rcases Eq h with⟨_,h2,_⟩|⟨_,_,_,h4⟩|⟨_,_,h3⟩
 rw[h2];decide;omega;rw[h3];decide
theorem aCg{a b:X0}(h1:ltV a b=true):ltV b a=false:=by
 cases h:ltV b a with
 |false=>rfl
 |true=>have:=HU h1 h;rw[MJ]at this;cases this
theorem aL6{w:List X0}(hw:SW w){i j:Nat}{y z:X0}(hi:w[i]? =some y)(hj:w[j]? =some z)(h:i<j):ltV y z=true:=by obtain⟨a1,rfl⟩:=List.getElem?_eq_some_iff.1 hi;obtain⟨a2,rfl⟩:=List.getElem?_eq_some_iff.1 hj;exact List.pairwise_iff_getElem.1 hw.1 i j a1 a2 h
theorem KC{w:List X0}{x:X0}(hw:SW w)(hx:vR x=true):SW (Hb w x)/\(Hb w x).length=w.length+(if x∈w then 0 else 1):=by
 unfold Hb;split;exact⟨hw,by simp[*]⟩;rename_i hn;refine⟨⟨?_,fun b hb=>?_⟩,?_⟩;rw[List.pairwise_append,List.pairwise_cons];have hgt:∀y∈w.filter (fun y=> !ltV y x),ltV x y=true:=fun y hy=>by
  obtain⟨h1,h2⟩:=List.mem_filter.1 hy;rcases Uy (hw.2 y h1) hx (fun e=>hn (e▸h1))with g|g
  rw[g]at h2;cases h2;exact g
 refine⟨hw.1.filter _,⟨hgt,hw.1.filter _⟩,fun y hy z hz=>?_⟩;have hyx:=(List.mem_filter.1 hy).2;rcases mc.1 hz with rfl|hz
 exact hyx;exact HU hyx (hgt z hz);rcases ma.1 hb with h|h
 exact hw.2 b (List.mem_filter.1 h).1;rcases mc.1 h with rfl|h
 exact hx;exact hw.2 b (List.mem_filter.1 h).1;have h1:∀w:List X0,(w.filter fun y=>ltV y x).length+(w.filter fun y=> !ltV y x).length=w.length:=by
  intro w;induction w with
  |nil=>rfl
  |cons y w ih=>rw[List.filter_cons,List.filter_cons];cases ltV y x<;>simp<;>omega
 have h1:=h1 w;rw[List.length_append,List.length_cons];omega
def AtW(w:List X0)(x:X0)(k:Nat):Prop:=k<=w.length/\(∀(j:Nat) y,w[j]? =some y->j<k->ltV y x=true)/\(∀(j:Nat) y,w[j]? =some y->k<=j->ltV y x=false)
theorem aKc{w:List X0}{x:X0}{k:Nat}(h:AtW w x k)(hn:x∉w):w.take k++[x]++w.drop k=Hb w x:=by obtain⟨c1,c2⟩:=Oy h.2.1 h.2.2;unfold Hb;rw[c1,c2,if_neg hn];simp
theorem aC0{α:Type}(w:List α)(k:Nat):sub w 0 (k:Int)=w.take k:=by simp[sub]
theorem aCz{α:Type}(w:List α)(k:Nat):sub w (k:Int) (w.length:Int)=w.drop k:=by simp[sub]
theorem aAa{w:List X0}{x:X0}(hw:SW w)(hx:vR x=true)(hl:w.length<=900):Ym w x=some (Hb w x):=by
 unfold Ym aFq;obtain⟨t,ht,k,hk,rfl,p1,p2⟩:=Am (step:=fun s=>Gi w x s) (fun s=>∃i:Nat,s=(i:Int)/\i<=w.length/\∀(j:Nat) s,w[j]? =some s->i<=j->ltV x s=true) (fun s=>s.toNat)
  (fun t=>∃k:Nat,k<=w.length/\t=(k:Int)/\(∀(j:Nat) s,w[j]? =some s->k=j+1->ltV x s=false)/\∀(j:Nat) s,w[j]? =some s->k<=j->ltV x s=true)
  (by
   rintro s ⟨i,rfl,hi,hj⟩;cases i with
   |zero=>exact .inl ⟨0,by simp[Gi,AE],0,by omega,rfl,fun j s _ h=>by omega,hj⟩
   |succ i=>
    obtain⟨y,hy,_⟩:=AP (l:=w) (i:=i) (by omega)
    have hyR:=hw.2 y (List.mem_of_getElem? hy)
    have e:AB .sub .i64 ((i+1:Nat):Int) 1=(i:Int):=by rw[aEf (by omega) (by omega)];omega
    have hd:decide ((0:Int)<((i+1:Nat):Int))=true:=by simp
    simp only[Gi,hd,AH,e,AK hy,aOk _ _ (aEg hx) (aEg hyR),AD]
    cases h:ltV x y with
    |true=>
     refine .inr ⟨_,by simp only[AH],⟨i,rfl,by omega,fun j s hs hij=>?_⟩,by omega⟩
     rcases Nat.eq_or_lt_of_le hij with g|g
     subst g;rw[hy]at hs;cases hs;exact h
     exact hj j s hs g
    |false=>
     refine .inl ⟨_,by simp only[AF],i+1,hi,rfl,fun j s hs hij=>?_,hj⟩
     have:j=i:=by omega
     subst this;rw[hy]at hs;cases hs;exact h)
  (w.length:Int) ⟨w.length,rfl,Nat.le_refl _,fun j s hs hij=>by have:=At hs;omega⟩
 rw[ht,AD];have hrest:(∀y,w[k-1]? =some y->0<k->y≠x)->(Ai ((0:Int)<=0/\(0:Int)<=(k:Int)/\(k:Int)<=(w.length:Int)) (
  Ai (fit ([]:List X0).length (sub w 0 (k:Int)).length 40) (
   Ai (fit (([]:List X0)++(sub w 0 (k:Int))).length [x].length 40) (
    Ai ((0:Int)<=(k:Int)/\((k:Int):Int)<=(w.length:Int)/\(w.length:Int)<=(w.length:Int)) (
     Ai (fit ((([]:List X0)++(sub w 0 (k:Int)))++[x]).length (sub w (k:Int) (w.length:Int)).length 40) (
      some (((([]:List X0)++(sub w 0 (k:Int)))++[x])++(sub w (k:Int) (w.length:Int)))))))):Option (List X0))=some (Hb w x):=by
  intro hne
  have hlt:∀(j:Nat) y,w[j]? =some y->j<k->ltV y x=true:=fun j y hy hj=>by
   obtain⟨z,hz,_⟩:=AP (l:=w) (i:=k-1) (by omega);have h1:=p1 (k-1) z hz (by omega);have h2:=hne z hz (by omega);have h3:ltV z x=true:=by
    rcases Uy (hw.2 z (List.mem_of_getElem? hz)) hx h2 with g|g
    exact g;rw[h1]at g;cases g
   rcases Nat.lt_or_ge j (k-1)with g|g
   exact HU (aL6 hw hy hz g) h3;have:j=k-1:=by omega
   subst this;rw[hz]at hy;cases hy;exact h3
  have hAt:AtW w x k:=⟨hk,hlt,fun j y hy hj=>aCg (p2 j y hy hj)⟩
  have hn:x∉w:=fun hm=>by
   obtain⟨j,hj⟩:=List.mem_iff_getElem?.1 hm;rcases Nat.lt_or_ge j k with g|g
   have:=hlt j x hj g;rw[MJ]at this;cases this;have:=p2 j x hj g;rw[MJ]at this;cases this
  rw[aC0,aCz,An (by omega),DO (by simp;omega) (by decide),DO (by simp;omega) (by decide),An (by omega),DO (by simp;omega) (by decide),List.nil_append,aKc hAt hn]
 rw[Cr];split;rename_i h0;obtain⟨y,hy,_⟩:=AP (l:=w) (i:=k-1) (by omega);have e:AB .sub .i64 (k:Int) 1=((k-1:Nat):Int):=by rw[aEf (by omega) (by omega)];omega
 rw[e,AK hy,X0.eqb_dec];by_cases hyx:y=x;subst hyx;have hm:=List.mem_of_getElem? hy;simp[AE,Hb,hm];simp only[hyx,decide_false,AF];exact hrest fun z hz _=>by rw[hy]at hz;cases hz;exact hyx
 exact hrest fun z hz h=>by omega
theorem XZ{q:AA}{e:X3}(hF:CX q)(hR:Ad q):Xx q e=some ((List.range q.symbols.length).filterMap fun i=>DV q i e):=by
 have hs:=hF.symbols;unfold Xx aE8;have h:=Dk (step:=fun s:Int×List AL=>GW q e s.1 s.2) (List.range q.symbols.length) (fun w i=>w++(DV q i e).toList) (fun w=>w) (fun i w=>w.length<=i)
  (fun i x w hx hI=>by
   obtain⟨rfl,hi⟩:=VN hx;have hlt:decide ((x:Int)<(q.symbols.length:Int))=true:=by simp;omega
   refine⟨?_,by cases DV q x e<;>simp<;>omega⟩;simp only[GW,hlt,AH,XV,aMp hF hR hi,AD,XX,J1 (show x<9223372036854775807 by omega)];rw[DO (by simp;omega) (by decide)];cases DV q x e<;>simp[PK,AE,AG])
  (fun w _=>by rw[List.length_range];simp only[GW,ltI,AF]) [] (by simp)
 rw[h,AD,H4];simp
def BI(a b:List X2):Bool:=a.all fun s=>decide (B4 b s.var=(s.value,true))
theorem aN6(a b:List X2)(ha:a.length<=9223372036854775807)(hb:b.length<=9223372036854775807):Z5 a b=some (BI a b):=by
 unfold Z5 aF4;rw[Bt a (fun s=>decide (B4 b s.var=(s.value,true))) (.inl ()) (.inr ())
  (fun i x hx=>by simp only[JH,ltD hx,AH,AK hx,Ag hx ha,ZB b _ hb,AD,X0.eqb_dec];obtain⟨y,o⟩:=B4 b x.var;cases o;simp[AE];by_cases h:y=x.value<;>simp[AE,h])
  (by simp only[JH,ltI,AF]),AD]
 unfold BI;cases a.all _<;>rfl
theorem aMk(a b:List X2)(ha:a.length<=9223372036854775807)(hb:b.length<=9223372036854775807):Xg a b=some (BI a b):=by
 unfold Xg U2;simp only[AD];unfold Y8 aFe;have h:=DL (step:=fun s:(Bool⊕Bool)×Int=>Ga (CP (CY a b)) b a (a.length:Int) s.1 s.2) a (fun i w=>(w,(i:Int)))
  (fun _ (w:Bool⊕Bool) x=>if B4 b x.var=(x.value,true)then .inl w else .inr (.inr (.inr false))) (fun w=>.inl w) (fun _ w=>w=.inl false) (fun i x w hx hI=>by subst hI;refine⟨?_,fun w' hw=>?_⟩;simp only[Ga,ltD hx,AH,YY,AK hx,aN2 b _ hb,AD,Ag hx ha];obtain⟨y,o⟩:=B4 b x.var;cases o;simp[AE,Vp,CP,CY,Ay,AG,WW,WZ];by_cases h:y=x.value<;>simp[AE,Vp,CP,CY,Ay,AG,WV,WY,X0.eqb_dec,h];split at hw;cases hw;rfl;cases hw)
  (fun w _=>by simp only[Ga,ltI,AF]) (a.length+1) 0 (.inl false) (by omega) (by omega) rfl
 rw[show((.inl false:Bool⊕Bool),(0:Int))=(.inl false,((0:Nat):Int))from rfl,h,List.drop_zero,AD];unfold BI;generalize 0=i;clear h ha;revert i;induction a with
 |nil=>intro i;rfl
 |cons x xs ih=>
  intro i
  rw[Il,List.all_cons]
  by_cases h:B4 b x.var=(x.value,true)
  simp only[h,if_true,decide_true,Bool.true_and];exact ih (i+1)
  simp[h,Ay,AG]
theorem aFa{l:List AL}{b:List X2}(hl:l.length<=1000)(hs:∀h∈l,h.bind.length<=9223372036854775807)(hb:b.length<=9223372036854775807):Y3 l b=some (l.filter fun h=>BI h.bind b):=by
 unfold Y3 aFb;rw[Dk l (fun w x=>if(BI x.bind b)=true then w++[x]else w) (fun w=>w) (fun i w=>w.length<=i)
  (fun i x w hx hI=>by have:=At hx;refine⟨?_,?_⟩;rotate_left;split;simpa using hI;omega;simp only[I4,ltD hx,AH,YQ,AK hx,aN6 _ _ (hs x (List.mem_of_getElem? hx)) hb,AD,YS,Ag hx (show l.length<=9223372036854775807 by omega)];rw[DO (by simp;omega) (by decide)];cases BI x.bind b<;>simp[AE,AG])
  (fun w _=>by simp only[I4,ltI,AF]) [] (by simp),Fa,AD]
 simp
def BR(b:List X2):Prop:=b.Pairwise (fun x y=>x.var<y.var)/\∀s∈b,0<=s.var/\s.var<=7/\vR s.value=true
theorem Ip:∀(b:List X2) (lo:Int),b.Pairwise (fun x y=>x.var<y.var)->(∀s∈b,lo<=s.var/\s.var<=7)->b.length<=(8-lo).toNat
 |[],_,_,_=>by simp
 |x::b,lo,hp,h=>by
  rw[List.pairwise_cons]at hp;have h1:=Ip b (x.var+1) hp.2 fun s hs=>⟨by have:=hp.1 s hs;omega,(h s (List.mem_cons_of_mem _ hs)).2⟩;have h2:=h x (by simp);rw[List.length_cons];omega
theorem aHt{b:List X2}(h:BR b):b.length<=8:=by have:=Ip b 0 h.1 fun s hs=>⟨(h.2 s hs).1,(h.2 s hs).2.1⟩;omega
theorem aLd{l:List AL}{b:List X2}(hl:l.length<=1000)(hs:∀h∈l,h.bind.length<=9223372036854775807)(hb:b.length<=9223372036854775807):Qb l b=some (l.filter fun h=>BI h.bind b):=by
 unfold Qb Yc aFj;have h:=Dk (step:=fun s:Int×List AL×List AL=>Gd b l (l.length:Int) s.1 s.2.1 s.2.2) l (fun w e=>if BI e.bind b=true then(w.1++[e],w.2)else(w.1,w.2++[e])) (fun w=>w) (fun i w=>w.1.length<=i/\w.2.length<=i)
  (fun i x w hx hI=>by have hi:=At hx;refine⟨?_,by split<;>simp<;>omega⟩;simp only[Gd,ltD hx,AH,ZI,AK hx,U3,aMk _ _ (hs x (List.mem_of_getElem? hx)) hb,AD,ZK,Ag hx (show l.length<=9223372036854775807 by omega)];rw[DO (by simp;omega) (by decide),DO (by simp;omega) (by decide)];cases BI x.bind b<;>simp[AE,AG])
  (fun w _=>by simp only[Gd,ltI,AF]) (([]:List AL),([]:List AL)) (by simp)
 rw[h,AD,AD];congr 1;have key:∀(l:List AL) (w:List AL×List AL),(l.foldl (fun w e=>if BI e.bind b=true then(w.1++[e],w.2)else(w.1,w.2++[e])) w).1=w.1++l.filter fun h=>BI h.bind b:=by
  intro l;induction l with
  |nil=>intro w;simp
  |cons e l ih=>intro w;rw[List.foldl_cons,ih,List.filter_cons];cases BI e.bind b<;>simp
 simp only[key];simp
theorem Fq(n:Nat)(h:n<4294967296):(BitVec.ofInt 32 (n:Int)).toNat=n:=by simp[BitVec.toNat_ofInt];omega
theorem FU{n:Nat}(h:n<4294967296):IntKind.wrap .u32 (n:Int)=n:=by simp[IntKind.wrap,IntKind.signed,IntKind.bits];omega
theorem Ko{n m:Nat}(hn:n<4294967296)(hm:m<4294967296):AB .or .u32 (n:Int) (m:Int)=((n|||m:Nat):Int):=by have h:n|||m<2^32:=Nat.or_lt_two_pow (by simpa using hn) (by simpa using hm);show IntKind.wrap .u32 (((BitVec.ofInt 32 (n:Int))|||(BitVec.ofInt 32 (m:Int))).toNat:Int)=_;rw[BitVec.toNat_or,Fq n hn,Fq m hm];exact FU (by simpa using h)
theorem aDm{n m:Nat}(hn:n<4294967296)(hm:m<4294967296):AB .and .u32 (n:Int) (m:Int)=((n&&&m:Nat):Int):=by have h:n&&&m<2^32:=Nat.and_lt_two_pow _ (by simpa using hm);show IntKind.wrap .u32 (((BitVec.ofInt 32 (n:Int))&&&(BitVec.ofInt 32 (m:Int))).toNat:Int)=_;rw[BitVec.toNat_and,Fq n hn,Fq m hm];exact FU (by simpa using h)
theorem Kw{s:Nat}(h:s<32):AB .shl .u32 1 (s:Int)=((2^s:Nat):Int):=by
 have e:(1:Int)*2^(min (Int.toNat (s:Int)) (IntKind.bits .u32))=((2^s:Nat):Int):=by rw[Int.toNat_natCast,show min s (IntKind.bits .u32)=s from Nat.min_eq_left (Nat.le_of_lt h)];simp
 show IntKind.wrap .u32 (1*2^(min (Int.toNat (s:Int)) (IntKind.bits .u32)))=_;rw[e];exact FU (Nat.lt_of_lt_of_le (Nat.pow_lt_pow_right (by decide) h) (by decide))
theorem aHe{s:Nat}(h:s<64):AB .shl .u64 1 (s:Int)=((2^s:Nat):Int):=by
 have e:(1:Int)*2^(min (Int.toNat (s:Int)) (IntKind.bits .u64))=((2^s:Nat):Int):=by rw[Int.toNat_natCast,show min s (IntKind.bits .u64)=s from Nat.min_eq_left (Nat.le_of_lt h)];simp
 show IntKind.wrap .u64 (1*2^(min (Int.toNat (s:Int)) (IntKind.bits .u64)))=_;rw[e];exact A4 (Nat.lt_of_lt_of_le (Nat.pow_lt_pow_right (by decide) h) (by decide))
theorem MZ{k:IntKind}{n s:Nat}(h:s<k.bits):AB .shr k (n:Int) (s:Int)=((n/2^s:Nat):Int):=by show(n:Int).fdiv (2^(min (Int.toNat (s:Int)) k.bits))=_;rw[Int.toNat_natCast,Nat.min_eq_left (Nat.le_of_lt h),Int.fdiv_eq_ediv_of_nonneg _ (Int.le_of_lt (Int.pow_pos (by decide)))];simp
theorem aO4{k:IntKind}(n:Nat):AB .rem k (n:Int) 2=((n % 2:Nat):Int):=by show(n:Int).tmod 2=_;rw[Int.tmod_eq_emod_of_nonneg (by omega)];omega
theorem L2(n s:Nat):n/2^s % 2=if n.testBit s=true then 1 else 0:=by have:=Nat.testBit_eq_decide_div_mod_eq (x:=n) (i:=s);rw[this];by_cases h:n/2^s % 2=1;simp[h];simp only[h,decide_false,Bool.false_eq_true,if_false];have:=Nat.mod_two_eq_zero_or_one (n/2^s);omega
theorem L1(n s:Nat):(n&&&2^s=0)↔n.testBit s=false:=by constructor;intro h;have h2:=congrArg (fun x=>x.testBit s) h;simp only[Nat.testBit_and,Nat.testBit_two_pow_self,Bool.and_true,Nat.zero_testBit]at h2;exact h2;intro h;apply Nat.eq_of_testBit_eq;intro i;rw[Nat.testBit_and,Nat.testBit_two_pow,Nat.zero_testBit];by_cases hi:s=i;subst hi;simp[h];simp[hi]
theorem D5{α β γ τ:Type}{step:γ×Int->Option (γ×Int⊕τ)}(enc:β->γ)(l:List α)(f:β->α->β)(fin:β->τ)(I:Nat->β->Prop)
 (h1:∀(i:Nat) x w,l[i]? =some x->I i w->step (enc w,(i:Int))=some (.inl (enc (f w x),((i+1:Nat):Int)))/\I (i+1) (f w x))
 (h2:∀w,I l.length w->step (enc w,(l.length:Int))=some (.inr (fin w))) (w:β) (h0:I 0 w):AU step (enc w,0)=some (fin (l.foldl f w)):=by
 have h:=DL (step:=step) l (fun i w=>(enc w,(i:Int))) (fun _ w x=>(.inl (f w x):β⊕τ)) fin I (fun i x w hx hI=>⟨(h1 i x w hx hI).1,fun w' hw=>by cases hw;exact(h1 i x w hx hI).2⟩) h2 (l.length+1) 0 w (by omega) (by omega) h0
 rw[show(enc w,(0:Int))=(enc w,((0:Nat):Int))from rfl,h,List.drop_zero]
 congr 1
 clear h h1 h2 h0
 generalize 0=i
 revert i w
 induction l with
 |nil=>intro w i;rfl
 |cons x xs ih=>intro w i;rw[Il];exact ih _ _
def toF(M s:Nat)(w:Nat)(t:Xe):Nat:=if t.from_=(s:Int)/\M.testBit t.symbol.toNat=true then w|||2^t.to.toNat else w
def toN(q:AA)(M s:Nat):Nat:=q.trans.foldl (toF M s) 0
def Vm(q:AA)(M s:Nat):Nat:=if toN q M s=0/\(q.states[s]?.map (·.next))=some false then 2^s else toN q M s
def Jo(q:AA)(S M:Nat)(w:Nat)(s:Nat):Nat:=if S.testBit s=true then w|||Vm q M s else w
def H6(q:AA)(S M:Nat):Nat:=(List.range q.states.length).foldl (Jo q S M) 0
theorem aKo{a b:Nat}(h1:a<4294967296)(h2:b<4294967296):a|||b<4294967296:=by have:=Nat.or_lt_two_pow (n:=32) (x:=a) (y:=b) (by simpa using h1) (by simpa using h2);simpa using this
theorem Ha{s:Nat}(h:s<32):2^s<4294967296:=Nat.lt_of_lt_of_le (Nat.pow_lt_pow_right (by decide) h) (by decide)
theorem Vb{q:AA}(h8:q.states.length<=12)(hR:Ad q){M s w:Nat}{t:Xe}(ht:t∈q.trans)(hw:w<4294967296):toF M s w t<4294967296:=by unfold toF;split;have:=(hR.ends t ht).2.2;exact aKo hw (Ha (by omega));exact hw
theorem Vc{q:AA}(h8:q.states.length<=12)(hR:Ad q)(M s:Nat):toN q M s<4294967296:=by
 unfold toN;suffices∀(l:List Xe) (w:Nat),(∀t∈l,t∈q.trans)->w<4294967296->l.foldl (toF M s) w<4294967296 from this _ _ (fun _ h=>h) (by decide)
 intro l;induction l with
 |nil=>intro w _ h;exact h
 |cons t l ih=>intro w hl hw;exact ih _ (fun t h=>hl t (List.mem_cons_of_mem _ h)) (Vb h8 hR (hl t (by simp)) hw)
theorem aGy{q:AA}(h8:q.states.length<=12)(hR:Ad q)(M:Nat){s:Nat}(hs:s<q.states.length):Vm q M s<4294967296:=by unfold Vm;split;exact Ha (by omega);exact Vc h8 hR M s
theorem Nq{q:AA}(h8:q.states.length<=12)(hR:Ad q)(S M:Nat){w s:Nat}(hs:s<q.states.length)(hw:w<4294967296):Jo q S M w s<4294967296:=by unfold Jo;split;exact aKo hw (aGy h8 hR M hs);exact hw
theorem N3{n i x:Nat}(h:(List.range n)[i]? =some x):x=i/\i<n:=by
 have h1:i<n:=by simpa using (List.getElem?_eq_some_iff.1 h).1
 rw[List.getElem?_range h1,oe]at h;exact⟨h.symm,h1⟩
theorem ME{q:AA}(hF:CX q)(hR:Ad q)(S M:Nat)(hM:M<18446744073709551616)(s7:Int)(s:Nat)(s14:List Xd)(s15:Int)(x:Xd):
 OO (S:Int) (M:Int) s7 (s:Int) s14 s15 (s:Int) q.trans (q.trans.length:Int) q x 0 0=some ((toN q M s:Nat):Int):=by
 have h8:=hF.states
 have ht12:=hF.trans
 have hsy:=hF.symbols
 unfold OO
 have:=D5 (step:=fun z:Int×Int=>Eu (S:Int) (M:Int) s7 (s:Int) s14 s15 (s:Int) q.trans (q.trans.length:Int) q x z.1 z.2) (fun w:Nat=>(w:Int)) q.trans (toF M s) (fun w=>(w:Int)) (fun _ w=>w<4294967296)
  (fun i t w hx hw=>by
   have hm:=List.mem_of_getElem? hx;have he:=hR.ends t hm;refine⟨?_,Vb h8 hR hm hw⟩;obtain⟨y,hy⟩:∃y:Nat,t.symbol=(y:Int):=⟨t.symbol.toNat,by omega⟩;obtain⟨z,hz⟩:∃z:Nat,t.to=(z:Int):=⟨t.to.toNat,by omega⟩;have hy12:y<12:=by omega
   have hz12:z<12:=by omega
   have hwy:IntKind.wrap .u64 (y:Int)=(y:Int):=A4 (by omega);have hwz:IntKind.wrap .u64 (z:Int)=(z:Int):=A4 (by omega);simp only[Eu,ltD hx,AH,WC,AK hx,Ag hx (show q.trans.length<=9223372036854775807 by omega),Pp,hy,hz,hwy,hwz,toF,Int.toNat_natCast];rw[aHe (by omega),aPp hM (Nat.lt_of_lt_of_le (Nat.pow_lt_pow_right (by decide) (show y<64 by omega)) (by decide)),Kw (by omega),Ko hw (Ha (by omega))];have hb:decide (((M&&&2^y:Nat):Int)=0)= !M.testBit y:=by
    have:=L1 M y;cases hb:M.testBit y with
    |false=>have h0:=this.2 hb;rw[h0];rfl
    |true=>
     have h0:¬M&&&2^y=0:=fun h=>by have:=this.1 h;rw[hb]at this;cases this
     simp;omega
   rw[hb];by_cases hf:t.from_=(s:Int);rw[Cr,if_pos hf,An (by omega)];cases hb2:M.testBit y with
   |true=>simp only[Bool.not_true,Bool.not_false,AH,An (show(0:Int)<=(z:Int) by omega),AD,hf,true_and,if_true]
   |false=>simp only[Bool.not_false,Bool.not_true,AF,AD,hf,true_and,Bool.false_eq_true,if_false]
   rw[Cr,if_neg hf];simp only[AF,AD,hf,false_and,if_false])
  (fun w _=>by simp only[Eu,ltI,AF]) 0 (by decide)
 exact this
theorem aMf{q:AA}(hF:CX q)(hR:Ad q){S M:Nat}(hS:S<4294967296)(hM:M<18446744073709551616):Xa q (S:Int) (M:Int)=some ((H6 q S M:Nat):Int):=by
 have h8:=hF.states;have hl:(List.range q.states.length).length=q.states.length:=List.length_range;have key:=D5 (step:=fun z:Int×Int=>DY (S:Int) (M:Int) q.states (q.states.length:Int) q z.1 z.2) (fun w:Nat=>(w:Int)) (List.range q.states.length) (Jo q S M) (fun w=>(w:Int)) (fun _ w=>w<4294967296)
  (fun i s w hx hw=>by
   obtain⟨rfl,hs⟩:=N3 hx;refine⟨?_,Nq h8 hR S M hs hw⟩;obtain⟨x,hxs,_⟩:=AP hs;have hws:IntKind.wrap .u64 (s:Int)=(s:Int):=A4 (by omega);simp only[DY,ltD hxs,AH,ON,AK hxs,hws,Ag hxs (show q.states.length<=9223372036854775807 by omega),An (show(0:Int)<=(s:Int) by omega)];rw[Kw (by omega),aDm hS (Ha (by omega)),ME hF hR S M hM];have hb:decide (((S&&&2^s:Nat):Int)=0)= !S.testBit s:=by
    have:=L1 S s;cases hb:S.testBit s with
    |false=>have h0:=this.2 hb;rw[h0];rfl
    |true=>
     have h0:¬S&&&2^s=0:=fun h=>by have:=this.1 h;rw[hb]at this;cases this
     simp;omega
   rw[hb];unfold Jo Vm;rw[hxs];cases hb2:S.testBit s with
   |false=>simp only[Bool.not_false,AH,AD,Bool.false_eq_true,if_false]
   |true=>
    have hto:=Vc h8 hR M s
    simp only[Bool.not_true,AF,AD,if_true,Option.map_some,oe]
    by_cases h0:toN q M s=0
    rw[h0]
    cases hn:x.next with
    |false=>
     simp only[Int.ofNat_zero,Int.natCast_zero,decide_true,AH,Iz,Bool.not_false,hws,An (show(0:Int)<=(s:Int) by omega),AD,and_self,if_true]
     rw[Kw (by omega),Ko hw (Ha (by omega))]
    |true=>
     simp only[Int.natCast_zero,decide_true,AH,Iz,Bool.not_true,AF,AD,Bool.true_eq_false,and_false,if_false]
     rw[show(0:Int)=((0:Nat):Int)from rfl,Ko hw (by decide)]
    have hd:decide (((toN q M s:Nat):Int)=0)=false:=by simp;omega
    simp only[hd,AF,Iz,AD,h0,false_and,if_false]
    rw[Ko hw hto])
  (fun w _=>by rw[hl];simp only[DY,ltI,AF]) 0 (by decide)
 unfold Xa Pq;have key':AU (fun z:Int×Int=>DY (S:Int) (M:Int) q.states (q.states.length:Int) q z.1 z.2) (0,0)=some ((H6 q S M:Nat):Int):=key;rw[key',AD]
theorem MW{q:AA}(hF:CX q)(hR:Ad q)(S M:Nat)(hM:M<18446744073709551616)(s7:Int)(s:Nat):
 aFi (S:Int) (M:Int) s7 (s:Int) q 0 0=some ((toN q M s:Nat):Int):=by
 have h8:=hF.states
 have ht12:=hF.trans
 have hsy:=hF.symbols
 unfold aFi
 have:=D5 (step:=fun z:Int×Int=>I6 (S:Int) (M:Int) s7 (s:Int) q z.1 z.2) (fun w:Nat=>(w:Int)) q.trans (toF M s) (fun w=>(w:Int)) (fun _ w=>w<4294967296)
  (fun i t w hx hw=>by
   have hm:=List.mem_of_getElem? hx;have he:=hR.ends t hm;refine⟨?_,Vb h8 hR hm hw⟩;obtain⟨y,hy⟩:∃y:Nat,t.symbol=(y:Int):=⟨t.symbol.toNat,by omega⟩;obtain⟨z,hz⟩:∃z:Nat,t.to=(z:Int):=⟨t.to.toNat,by omega⟩;have hy12:y<12:=by omega
   have hz12:z<12:=by omega
   have hwy:IntKind.wrap .u64 (y:Int)=(y:Int):=A4 (by omega);have hwz:IntKind.wrap .u64 (z:Int)=(z:Int):=A4 (by omega);simp only[I6,ltD hx,AH,aI2,AK hx,Ag hx (show q.trans.length<=9223372036854775807 by omega),aFh,hy,hz,hwy,hwz,toF,Int.toNat_natCast];rw[MZ (k:=.u64) (s:=y) (show y<64 by omega),aO4,L2,Kw (by omega),Ko hw (Ha (by omega))];by_cases hf:t.from_=(s:Int);rw[Cr,if_pos hf,An (by omega)];cases hb2:M.testBit y with
   |true=>simp only[if_true,Int.natCast_one,decide_true,AH,An (show(0:Int)<=(z:Int) by omega),AD,hf,true_and]
   |false=>simp only[Bool.false_eq_true,if_false,Int.natCast_zero,show decide ((0:Int)=1)=false from rfl,AF,AD,and_false]
   rw[Cr,if_neg hf];simp only[AF,AD,hf,false_and,if_false])
  (fun w _=>by simp only[I6,ltI,AF]) 0 (by decide)
 exact this
theorem aNh{q:AA}(hF:CX q)(hR:Ad q){S M:Nat}(hS:S<4294967296)(hM:M<18446744073709551616):Yb q (S:Int) (M:Int)=some ((H6 q S M:Nat):Int):=by
 have h8:=hF.states;have hl:(List.range q.states.length).length=q.states.length:=List.length_range;have key:=D5 (step:=fun z:Int×Int=>Gc (S:Int) (M:Int) q z.1 z.2) (fun w:Nat=>(w:Int)) (List.range q.states.length) (Jo q S M) (fun w=>(w:Int)) (fun _ w=>w<4294967296)
  (fun i s w hx hw=>by
   obtain⟨rfl,hs⟩:=N3 hx;refine⟨?_,Nq h8 hR S M hs hw⟩;obtain⟨x,hxs,_⟩:=AP hs;have hws:IntKind.wrap .u64 (s:Int)=(s:Int):=A4 (by omega);simp only[Gc,ltD hxs,AH,aI1,AK hxs,hws,Ag hxs (show q.states.length<=9223372036854775807 by omega),An (show(0:Int)<=(s:Int) by omega)];rw[MZ (k:=.u32) (s:=s) (show s<32 by omega),aO4,L2,MW hF hR S M hM];unfold Jo Vm;rw[hxs];cases hb2:S.testBit s with
   |false=>simp only[Bool.false_eq_true,if_false,Int.natCast_zero,decide_true,AH,AD]
   |true=>
    have hto:=Vc h8 hR M s
    simp only[if_true,Int.natCast_one,show decide ((1:Int)=0)=false from rfl,AF,AD,Option.map_some,oe]
    by_cases h0:toN q M s=0
    rw[h0]
    cases hn:x.next with
    |false=>
     simp only[Int.natCast_zero,decide_true,AH,Sa,Bool.not_false,hws,An (show(0:Int)<=(s:Int) by omega),AD,and_self,if_true]
     rw[Kw (by omega),Ko hw (Ha (by omega))]
    |true=>
     simp only[Int.natCast_zero,decide_true,AH,Sa,Bool.not_true,AF,AD,Bool.true_eq_false,and_false,if_false]
     rw[show(0:Int)=((0:Nat):Int)from rfl,Ko hw (by decide)]
    have hd:decide (((toN q M s:Nat):Int)=0)=false:=by simp;omega
    simp only[hd,AF,Sa,AD,h0,false_and,if_false]
    rw[Ko hw hto])
  (fun w _=>by rw[hl];simp only[Gc,ltI,AF]) 0 (by decide)
 unfold Yb aI3;have key':AU (fun z:Int×Int=>Gc (S:Int) (M:Int) q z.1 z.2) (0,0)=some ((H6 q S M:Nat):Int):=key;rw[key',AD]
structure Bh(q:AA):Prop where
 frees:q.frees=[]
 quants:q.quants.length<=1
 states:q.states.length<=8
 symbols:q.symbols.length<=8
 guards:∀t∈q.trans,t.guard= -1
theorem aI8{q:AA}(hF:CX q):∃r,Yf q=some r/\(r=true->Bh q):=by
 have ht:=hF.trans;obtain⟨o,ho,hQ⟩:=Af (step:=fun s=>Db q s) q.trans.length (fun i=>∀t,q.trans[i]? =some t->t.guard= -1) (fun o=>o=Sum.inl ()->∀t∈q.trans,t.guard= -1)
  (fun i hi=>by obtain⟨x,hx,_⟩:=AP hi;simp only[Db,ltD hx,AH,AK hx,Ag hx (show q.trans.length<=9223372036854775807 by omega)];by_cases h:x.guard= -1;exact .inl ⟨by rw[decide_eq_true h];rfl,fun t h2=>by rw[hx,oe]at h2;exact h2▸h⟩;exact .inr ⟨.inr (),by rw[decide_eq_false h];rfl,fun h=>by cases h⟩)
  (fun hall=>⟨.inl (),by simp only[Db,ltI,AF],fun _=>EK hall⟩)
 have ho':Sf q 0=some o:=ho;unfold Yf;refine A5 (fun _=>⟨_,rfl,by simp⟩) (fun h1=>?_);refine A5 (fun _=>⟨_,rfl,by simp⟩) (fun h2=>?_);refine A5 (fun _=>⟨_,rfl,by simp⟩) (fun h3=>?_);refine A5 (fun _=>⟨_,rfl,by simp⟩) (fun h4=>?_);refine BA ho' ?_;rcases o with⟨⟩|⟨⟩
 rw[Bo];exact⟨_,rfl,fun _=>⟨List.eq_nil_of_length_eq_zero (by omega),by omega,by omega,by omega,hQ rfl⟩⟩;rw[C5];exact⟨_,rfl,by simp⟩
def CV(n:Nat)(c:X4):Prop:=c.vals=[]/\0<=c.state/\c.state<n
theorem CV.ext{n:Nat}{a b:X4}(ha:CV n a)(hb:CV n b)(h:a.state=b.state):a=b:=by cases a;cases b;have h1:=ha.1;have h2:=hb.1;simp only at h h1 h2;subst h;subst h1;subst h2;rfl
theorem ZO{n:Nat}{a b:X4}(ha:CV n a)(hb:CV n b):Ye a b=some (decide (a.state<b.state)):=by unfold Ye;by_cases h:a.state=b.state;rw[decide_eq_true h];simp only[Bool.not_true,AF];rw[ZQ];unfold I9;rw[ha.1,hb.1];simp[AE,BP,AG,Ay,h];rw[decide_eq_false h];rfl
theorem aH3{n:Nat}{a b:X4}(ha:CV n a)(hb:CV n b):Q5 a b=some (decide (a=b)):=by
 unfold Q5;rw[ZO ha hb,AD,ZO hb ha,AD];by_cases h:a=b;subst h;simp[AE];have hne:a.state≠b.state:=fun e=>h (ha.ext hb e);by_cases h1:a.state<b.state;simp[h1,AE,h];have h2:b.state<a.state:=by omega
 simp[h1,h2,AE,h]
theorem aCy{i:Nat}(h:0<i)(hi:i<=1000000):AB .sub .i64 (i:Int) 1=((i-1:Nat):Int):=by have:IntKind.wrap .i64 ((i:Int)-1)=(i:Int)-1:=IntWalk.i64_in _ ⟨by omega,by omega⟩;show IntKind.wrap .i64 ((i:Int)-1)=_;rw[this];omega
theorem aCt{n:Nat}{w:List X4}{c:X4}(hw:∀x∈w,CV n x)(hc:CV n c)(hl:w.length<=100000):∃k:Nat,k<=w.length/\LY w c (w.length:Int)=some (k:Int)/\OV w c (w.length:Int)=some (k:Int):=by
 suffices∀i:Nat,i<=w.length->∃k:Nat,k<=w.length/\LY w c (i:Int)=some (k:Int)/\OV w c (i:Int)=some (k:Int)from this _ (Nat.le_refl _)
 intro i;induction i with
 |zero=>
  intro _
  refine⟨0,Nat.zero_le _,?_,?_⟩
  rw[Dt];simp[DP,AE,BP]
  rw[JC];simp[E3,AE,BP]
 |succ i ih=>
  intro hi
  obtain⟨x,hx,_⟩:=AP (l:=w) (i:=i) (by omega)
  have hL:=ZO hc (hw x (List.mem_of_getElem? hx))
  have hs:AB .sub .i64 ((i+1:Nat):Int) 1=(i:Int):=by rw[aCy (by omega) (by omega)];simp
  have hpos:decide ((0:Int)<((i+1:Nat):Int))=true:=decide_eq_true (by omega)
  by_cases h:c.state<x.state
  obtain⟨k,hk,h1,h2⟩:=ih (by omega)
  refine⟨k,hk,?_,?_⟩
  rw[Dt]
  simp only[DP,hpos,AH,hs,AK hx,hL,AD,h,decide_true,Cm]
  exact h1
  rw[JC]
  simp only[E3,hpos,AH,hs,An (show(0:Int)<=(i:Int)/\(i:Int)+1<=(w.length:Int) by omega),AK hx,hL,AD,h,decide_true,Cm]
  exact h2
  refine⟨i+1,hi,?_,?_⟩
  rw[Dt]
  simp only[DP,hpos,AH,hs,AK hx,hL,AD,h,decide_false,AF,CE]
  rw[JC]
  simp only[E3,hpos,AH,hs,An (show(0:Int)<=(i:Int)/\(i:Int)+1<=(w.length:Int) by omega),AK hx,hL,AD,h,decide_false,AF,CE]
def aHl(n:Nat)(w:List X4)(c:X4)(r:List X4):Prop:=(∀x,x∈r↔x=c\/x∈w)/\r.length<=w.length+1
theorem aHb{n:Nat}{w:List X4}{c:X4}(k:Nat)(hk:k<=w.length):aHl n w c (w.take k++[c]++w.drop k):=by
 constructor;intro x;rw[List.append_assoc,ma,ma,List.mem_singleton];have h:=List.take_append_drop k w;constructor;rintro(h1|h1|h1);exact .inr (List.mem_of_mem_take h1);exact .inl h1;exact .inr (List.mem_of_mem_drop h1);rintro(h1|h1);exact .inr (.inl h1);rw[<-h,ma]at h1;rcases h1 with h1|h1
 exact .inl h1;exact .inr (.inr h1);simp only[List.length_append,List.length_take,List.length_drop,List.length_cons,List.length_nil];omega
theorem Hk{α:Type}(w:List α)(k:Nat):sub w 0 (k:Int)=w.take k:=by simp[sub]
theorem Hj{α:Type}(w:List α)(k:Nat):sub w (k:Int) (w.length:Int)=w.drop k:=by simp[sub]
theorem YJ{n:Nat}{w:List X4}{c:X4}(hw:∀x∈w,CV n x)(hc:CV n c)(hl:w.length<=100000):(∃r,Y0 w c=some r/\aHl n w c r)/\∃r,Yo c w=some r/\aHl n w c r:=by
 obtain⟨k,hk,h1,h2⟩:=aCt hw hc hl;have hmid:=aHb (n:=n) (w:=w) (c:=c) k hk;have hsame:c∈w->aHl n w c w:=fun h=>⟨fun x=>⟨.inr,fun hx=>hx.elim (fun e=>e▸h) id⟩,by omega⟩;have e1:(Ai ((0:Int)<=0/\(0:Int)<=(k:Int)/\(k:Int)<=(w.length:Int)) (
  Ai (fit ([]:List X4).length (sub w 0 (k:Int)).length 32) (
   Ai (fit (([]:List X4)++(sub w 0 (k:Int))).length [c].length 32) (
    Ai ((0:Int)<=(k:Int)/\((k:Int):Int)<=(w.length:Int)/\(w.length:Int)<=(w.length:Int)) (
     Ai (fit ((([]:List X4)++(sub w 0 (k:Int)))++[c]).length (sub w (k:Int) (w.length:Int)).length 32) (
      some (((([]:List X4)++(sub w 0 (k:Int)))++[c])++(sub w (k:Int) (w.length:Int)))))))):Option (List X4))=some (w.take k++[c]++w.drop k):=by
  rw[Hk,Hj,An (by omega),DO (by simp;omega) (by decide),DO (by simp;omega) (by decide),An (by omega),DO (by simp;omega) (by decide),List.nil_append]
 have e2:(Ai ((0:Int)<=0/\(0:Int)<=(k:Int)/\(k:Int)<=(w.length:Int)) (
  Ai (fit ([]:List X4).length (sub w 0 (k:Int)).length 32) (
   Ai (fit (sub w 0 (k:Int)).length [c].length 32) (
    Ai ((0:Int)<=(k:Int)/\(k:Int)<=(w.length:Int)/\(w.length:Int)<=(w.length:Int)) (
     Ai (fit ((sub w 0 (k:Int))++[c]).length (sub w (k:Int) (w.length:Int)).length 32) (
      some (((sub w 0 (k:Int))++[c])++(sub w (k:Int) (w.length:Int)))))))):Option (List X4))=some (w.take k++[c]++w.drop k):=by
  rw[Hk,Hj,An (by omega),DO (by simp;omega) (by decide),DO (by simp;omega) (by decide),An (by omega),DO (by simp;omega) (by decide)]
 unfold Y0 Yo;rw[h1,AD,h2,AD];by_cases h0:0<k;obtain⟨x,hx,_⟩:=AP (l:=w) (i:=k-1) (by omega);have hs:=aCy h0 (by omega);have hO:=aH3 (hw x (List.mem_of_getElem? hx)) hc;have hpos:decide ((0:Int)<(k:Int))=true:=decide_eq_true (by omega);simp only[hpos,AH,hs,AK hx,hO,AD,e1,e2,An (show(0:Int)<=((k-1:Nat):Int)/\((k-1:Nat):Int)+1<=(w.length:Int) by omega)];by_cases hxc:x=c;simp only[hxc,decide_true,AH];have hm:c∈w:=hxc▸List.mem_of_getElem? hx;exact⟨⟨w,rfl,hsame hm⟩,⟨w,rfl,hsame hm⟩⟩;simp only[hxc,decide_false,AF];exact⟨⟨_,rfl,hmid⟩,⟨_,rfl,hmid⟩⟩;have hpos:decide ((0:Int)<(k:Int))=false:=decide_eq_false (by omega);simp only[hpos,AF,e1,e2];exact⟨⟨_,rfl,hmid⟩,⟨_,rfl,hmid⟩⟩
theorem aHl.cv{n:Nat}{w r:List X4}{c:X4}(h:aHl n w c r)(hw:∀x∈w,CV n x)(hc:CV n c):∀x∈r,CV n x:=fun x hx=>by
 rcases(h.1 x).1 hx with rfl|h
 exact hc;exact hw x h
theorem PC{q:AA}{t:Xe}{f r:Int}(hfr:q.frees=[])(h:Xo q t f=some (r,true)):t.sets=[]:=by
 cases hs:t.sets with
 |nil=>rfl
 |cons x l=>
  exfalso
  have hno:∀o3 o12,OQ f q t o3 0=some o12->o12=.inr ():=by
   intro o3 o12 h2;have hx:t.sets[0]? =some x:=by rw[hs];rfl
   rw[XF]at h2;unfold EI at h2;rw[show(0:Int)=((0:Nat):Int)from rfl,ltD hx,AH,AK hx]at h2;cases hk:Q7 q o3 x.expr with
   |none=>rw[hk]at h2;cases h2
   |some r6=>
    rw[hk,AD,hfr]at h2
    by_cases g1:x.free<0
    rw[decide_eq_true (show x.free<((0:Nat):Int)from g1)]at h2
    simp only[AH,CE,oe]at h2
    exact h2.symm
    rw[decide_eq_false (show¬x.free<((0:Nat):Int)from g1),decide_eq_true (show((([]:List Xt).length:Int)<=x.free) by simp;omega)]at h2
    simp only[AH,AF,CE,oe]at h2
    exact h2.symm
  unfold Xo at h
  rcases iS h with⟨_,h⟩|⟨_,h⟩
  cases h
  rcases iS h with⟨_,h⟩|⟨_,h⟩
  cases h
  rcases iS h with⟨_,h⟩|⟨_,h⟩
  cases h
  rcases iS h with⟨_,h⟩|⟨_,h⟩
  cases h
  rcases iS h with⟨_,h⟩|⟨_,h⟩
  cases h
  rcases iS h with⟨_,h⟩|⟨_,h⟩
  cases h
  obtain⟨o2,_,h⟩:=bS h
  rcases AM h with⟨o3,_,h⟩|⟨o4,_,h⟩
  obtain⟨o12,h12,h⟩:=bS h
  have e:=hno _ _ h12
  subst e
  rw[C5]at h
  cases h
  cases h
theorem PA{q:AA}(hR:Ad q)(hS:Bh q):∀t∈q.trans,t.sets=[]:=fun t ht=>by obtain⟨f,r,h⟩:=hR.fires t ht;exact PC hS.frees h
theorem Ib:∀(al:List BQ) (xs:List X0) (b:List X2) (p:List X2×List X2),(∀a∈al,a.kind≠3)->D0 al xs b []=some p->p.2=[]
 |[],xs,b,p,_,h=>by
  cases xs<;>(simp only[D0,oe]at h;subst h;rfl)
 |a::al,[],b,p,_,h=>by simp only[D0,oe]at h;subst h;rfl
 |a::al,x::xs,b,p,hk,h=>by
  have ih:=fun b' h'=>Ib al xs b' p (fun a ha=>hk a (List.mem_cons_of_mem _ ha)) h';rw[D0]at h;split at h;split at h;exact ih _ h;cases h;split at h;split at h;cases h;exact ih _ h;split at h;exact absurd (by assumption) (hk a (by simp));exact ih _ h
theorem Uh{q:AA}(hR:Ad q)(hS:Bh q){e:X3}{i:Nat}{h:AL}(hh:DV q i e=some h):h.frees=[]:=by unfold DV at hh;split at hh;cases hh;rename_i s hs;split at hh;cases hh;split at hh;rw[om]at hh;obtain⟨p,hp,rfl⟩:=hh;refine Ib _ _ _ _ (fun a ha h3=>?_) hp;have:=((hR.symbols s (List.mem_of_getElem? hs)).args a ha).three h3;rw[hS.frees]at this;simp at this;omega;cases hh
theorem aB0{q:AA}(hR:Ad q)(hS:Bh q){i:Nat}{t:Xe}(ht:q.trans[i]? =some t){c:X4}(hc:c.vals=[]){h:AL}(hf:h.frees=[]):Qp q (i:Int) c h=some (X4.mk t.to [],true,0):=by
 have hm:=List.mem_of_getElem? ht;have hg:=hS.guards t hm;have hs:=PA hR hS t hm;have h1:Zg c.vals h.frees=some []:=by unfold Zg aGd;rw[hc,hf,BG];simp[Lg,AE,BP,AG,Ai,fit]
 have h2:Qo q (i:Int) h.bind []=some (true,0):=by unfold Qo;rw[AK ht,hg];rfl
 have h3:Zh q (i:Int) h.bind []=some ([],0):=by unfold Zh;rw[AK ht,hs];unfold aGe;rw[BG];simp[Lh,AE,BP,AG,Ai,fit,Ay]
 unfold Qp;rw[h1,AD,h2,AD];simp only[decide_true,Bool.not_true,AF];rw[h3,AD];simp only[decide_true,Bool.not_true,AF,AK ht]
structure Is(l:List AL):Prop where
 frees:∀h∈l,h.frees=[]
 rise:l.Pairwise fun a b=>a.symbol<b.symbol
 len:l.length<=1000
theorem Is.ne{l:List AL}(h:Is l){i j:Nat}{a b:AL}(hi:l[i]? =some a)(hj:l[j]? =some b)(hlt:i<j):a.symbol≠b.symbol:=by have h1:=(List.getElem?_eq_some_iff.1 hi);have h2:=(List.getElem?_eq_some_iff.1 hj);obtain⟨p1,e1⟩:=h1;obtain⟨p2,e2⟩:=h2;have:=List.pairwise_iff_getElem.1 h.rise i j p1 p2 hlt;rw[e1,e2]at this;omega
theorem OF:Qk 0 0=some 0:=rfl
theorem Pa{q:AA}(hF:CX q)(hR:Ad q)(hS:Bh q){l:List AL}(hl:Is l){ti:Nat}{t:Xe}(ht:q.trans[ti]? =some t){c:X4}(hc:c.vals=[])(w0:List X4)(hw0:∀x∈w0,CV q.states.length x)(hb:w0.length<=500):
 ∃w,aE3 l (ti:Int) q c 0 0 w0=some (0,w)/\(∀x∈w,CV q.states.length x)/\w.length<=w0.length+1/\∀x,x∈w↔x∈w0\/(x=X4.mk t.to []/\∃h∈l,h.symbol=t.symbol):=by
 have hte:=hR.ends t (List.mem_of_getElem? ht)
 have hcv:CV q.states.length (X4.mk t.to []):=⟨rfl,hte.2.2.1,hte.2.2.2⟩
 obtain⟨o,ho,w,rfl,hQ⟩:=Am (step:=fun s:Int×Int×List X4=>GP l (ti:Int) q c s.1 s.2.1 s.2.2)
  (fun s=>∃(j:Nat) (w:List X4),s=(0,(j:Int),w)/\j<=l.length/\(∀x∈w,CV q.states.length x)/\w.length<=w0.length+1/\((¬ ∃i,i<j/\∃h,l[i]? =some h/\h.symbol=t.symbol)->w.length<=w0.length)/\∀x,x∈w↔x∈w0\/(x=X4.mk t.to []/\∃i,i<j/\∃h,l[i]? =some h/\h.symbol=t.symbol))
  (fun s=>(l.length-s.2.1).toNat)
  (fun o=>∃w,o=((0:Int),w)/\(∀x∈w,CV q.states.length x)/\w.length<=w0.length+1/\∀x,x∈w↔x∈w0\/(x=X4.mk t.to []/\∃h∈l,h.symbol=t.symbol))
  (by
   rintro s ⟨j,w,rfl,hj,hcw,hlen,hno,hm⟩;by_cases he:j=l.length;subst he;refine .inl ⟨(0,w),by simp only[GP,ltI,AF],w,rfl,hcw,hlen,fun x=>?_⟩;rw[hm x];constructor;rintro(h|⟨h,i,hi,a,ha,hs⟩);exact .inl h;exact .inr ⟨h,a,List.mem_of_getElem? ha,hs⟩;rintro(h|⟨h,a,ha,hs⟩);exact .inl h;obtain⟨i,hi⟩:=List.mem_iff_getElem?.1 ha;exact .inr ⟨h,i,(List.getElem?_eq_some_iff.1 hi).1,a,hi,hs⟩;right;obtain⟨y,hy,_⟩:=AP (l:=l) (i:=j) (by omega);have hln:=hl.len;simp only[GP,ltD hy,AH,Wi,AK hy,AK ht,Ag hy (show l.length<=9223372036854775807 by omega)];by_cases hs:y.symbol=t.symbol;have hnone:¬ ∃i,i<j/\∃h,l[i]? =some h/\h.symbol=t.symbol:=by rintro⟨i,hi,a,ha,has⟩;exact hl.ne ha hy hi (by rw[has,hs])
   have hwl:=hno hnone;obtain⟨r,hr,hP⟩:=(YJ (w:=w) (c:=X4.mk t.to []) hcw hcv (by omega)).2;have hP2:=hP.2;refine⟨((0:Int),((j+1:Nat):Int),r),?_,⟨j+1,r,rfl,by omega,hP.cv hcw hcv,by omega,fun h=>absurd ⟨j,by omega,y,hy,hs⟩ h,fun x=>?_⟩,by simp only;omega⟩;rw[decide_eq_true hs];simp only[Bool.not_true,AF,aB0 hR hS ht hc (hl.frees y (List.mem_of_getElem? hy)),AD,OF,Wl,AH,hr];rw[hP.1 x,hm x];constructor;rintro(h|h|⟨h,i,hi,a⟩);exact .inr ⟨h,j,by omega,y,hy,hs⟩;exact .inl h;exact .inr ⟨h,i,by omega,a⟩;rintro(h|⟨h,i,hi,a⟩);exact .inr (.inl h);exact .inl h;refine⟨((0:Int),((j+1:Nat):Int),w),?_,⟨j+1,w,rfl,by omega,hcw,hlen,fun h=>hno fun⟨i,hi,a⟩=>h ⟨i,by omega,a⟩,fun x=>?_⟩,by simp only;omega⟩;rw[decide_eq_false hs];rfl;rw[hm x];constructor;rintro(h|⟨h,i,hi,a⟩);exact .inl h;exact .inr ⟨h,i,by omega,a⟩;rintro(h|⟨h,i,hi,a,ha,has⟩);exact .inl h;refine .inr ⟨h,i,?_,a,ha,has⟩;rcases Nat.lt_or_ge i j with g|g
   exact g;have:i=j:=by omega
   subst this;rw[hy,oe]at ha;subst ha;exact absurd has hs)
  ((0:Int),(0:Int),w0) ⟨0,w0,rfl,by omega,hw0,by omega,fun _=>Nat.le_refl _,fun x=>by simp⟩
 exact⟨w,ho,hQ⟩
def LE(q:AA)(l:List AL)(c x:X4):Prop:=∃t∈q.trans,t.from_=c.state/\(∃h∈l,h.symbol=t.symbol)/\x=X4.mk t.to []
theorem PZ{q:AA}(hF:CX q)(hR:Ad q)(hS:Bh q){l:List AL}(hl:Is l){c:X4}(hc:c.vals=[]):
 ∃w,aE2 l q c 0 0 []=some (0,w)/\(∀x∈w,CV q.states.length x)/\w.length<=12/\∀x,x∈w↔LE q l c x:=by
 have ht12:=hF.trans
 obtain⟨o,ho,w,rfl,hQ⟩:=Am (step:=fun s:Int×Int×List X4=>GO l q c s.1 s.2.1 s.2.2)
  (fun s=>∃(j:Nat) (w:List X4),s=(0,(j:Int),w)/\j<=q.trans.length/\(∀x∈w,CV q.states.length x)/\w.length<=j/\∀x,x∈w↔ ∃i,i<j/\∃t,q.trans[i]? =some t/\t.from_=c.state/\(∃h∈l,h.symbol=t.symbol)/\x=X4.mk t.to [])
  (fun s=>(q.trans.length-s.2.1).toNat)
  (fun o=>∃w,o=((0:Int),w)/\(∀x∈w,CV q.states.length x)/\w.length<=12/\∀x,x∈w↔LE q l c x)
  (by
   rintro s ⟨j,w,rfl,hj,hcw,hlen,hm⟩;by_cases he:j=q.trans.length;subst he;refine .inl ⟨(0,w),by simp only[GO,ltI,AF],w,rfl,hcw,by omega,fun x=>?_⟩;rw[hm x];constructor;rintro⟨i,hi,t,ht,a⟩;exact⟨t,List.mem_of_getElem? ht,a⟩;rintro⟨t,ht,a⟩;obtain⟨i,hi⟩:=List.mem_iff_getElem?.1 ht;exact⟨i,(List.getElem?_eq_some_iff.1 hi).1,t,hi,a⟩;right;obtain⟨t,ht,_⟩:=AP (l:=q.trans) (i:=j) (by omega);simp only[GO,ltD ht,AH,Wg,AK ht,Ag ht (show q.trans.length<=9223372036854775807 by omega)];by_cases hf:t.from_=c.state;obtain⟨r,hr,hrc,hrl,hrm⟩:=Pa hF hR hS hl ht hc w hcw (by omega);refine⟨((0:Int),((j+1:Nat):Int),r),?_,⟨j+1,r,rfl,by omega,hrc,by omega,fun x=>?_⟩,by simp only;omega⟩;rw[decide_eq_true hf];simp only[Bool.not_true,AF,hr,AD];rw[hrm x,hm x];constructor;rintro(⟨i,hi,a⟩|⟨h,a⟩);exact⟨i,by omega,a⟩;exact⟨j,by omega,t,ht,hf,a,h⟩;rintro⟨i,hi,t2,ht2,hf2,hh,hx⟩;rcases Nat.lt_or_ge i j with g|g
   exact .inl ⟨i,g,t2,ht2,hf2,hh,hx⟩;have:i=j:=by omega
   subst this;rw[ht,oe]at ht2;subst ht2;exact .inr ⟨hx,hh⟩;refine⟨((0:Int),((j+1:Nat):Int),w),?_,⟨j+1,w,rfl,by omega,hcw,by omega,fun x=>?_⟩,by simp only;omega⟩;rw[decide_eq_false hf];rfl;rw[hm x];constructor;rintro⟨i,hi,a⟩;exact⟨i,by omega,a⟩;rintro⟨i,hi,t2,ht2,hf2,a⟩;rcases Nat.lt_or_ge i j with g|g
   exact⟨i,g,t2,ht2,hf2,a⟩;have:i=j:=by omega
   subst this;rw[ht,oe]at ht2;subst ht2;exact absurd hf2 hf)
  ((0:Int),(0:Int),[]) ⟨0,[],rfl,by omega,by simp,by simp,fun x=>by simp⟩
 exact⟨w,ho,hQ⟩
def aPa(q:AA)(l:List AL)(c x:X4):Prop:=LE q l c x\/((∀y,¬LE q l c y)/\(∃s,q.states[c.state.toNat]? =some s/\s.next=false)/\x=c)
theorem aE1{q:AA}(hF:CX q)(hR:Ad q)(hS:Bh q){l:List AL}(hl:Is l){c:X4}(hc:CV q.states.length c):
 ∃w,Xi q c l=some (w,0)/\(∀x∈w,CV q.states.length x)/\w.length<=12/\∀x,x∈w↔aPa q l c x:=by
 obtain⟨w,hw,hcw,hlen,hm⟩:=PZ hF hR hS hl hc.1
 obtain⟨s,hs,hc0⟩:=O0 (l:=q.states) (i:=c.state) hc.2.1 hc.2.2
 unfold Xi
 rw[hw,AD]
 simp only[decide_true,Bool.not_true,AF]
 by_cases h0:w=[]
 subst h0
 have hno:∀y,¬LE q l c y:=fun y h=>by have:=(hm y).2 h;simp at this
 rw[show decide ((([]:List X4).length:Int)=0)=true from rfl,AH,CN hs hc.2.1]
 cases hn:s.next with
 |false=>
  refine⟨[c],by simp[QX,AE,AG,Ai,fit],fun x hx=>by rw[List.mem_singleton.1 hx];exact hc,by simp,fun x=>?_⟩
  rw[List.mem_singleton]
  exact⟨fun h=>.inr ⟨hno,⟨s,hs,hn⟩,h⟩,fun h=>h.elim (fun h=>absurd h (hno x)) fun h=>h.2.2⟩
 |true=>
  refine⟨[],rfl,by simp,by simp,fun x=>⟨fun h=>by simp at h,fun h=>?_⟩⟩
  rcases h with h|⟨_,⟨s2,hs2,hn2⟩,_⟩
  exact absurd h (hno x)
  rw[hs,oe]at hs2;subst hs2;rw[hn]at hn2;cases hn2
 have hd:decide ((w.length:Int)=0)=false:=decide_eq_false fun h=>h0 (List.eq_nil_of_length_eq_zero (by omega))
 rw[hd,AF]
 refine⟨w,rfl,hcw,hlen,fun x=>?_⟩
 rw[hm x]
 refine⟨.inl,fun h=>h.elim id fun h=>?_⟩
 cases w with
 |nil=>exact absurd rfl h0
 |cons y w=>exact absurd ((hm y).1 (by simp)) (h.1 y)
def aEl(q:AA)(l:List AL)(cs:List X4)(x:X4):Prop:=∃c∈cs,aPa q l c x
theorem Fx{n:Nat}(s1:List X4)(s2:List AL)(s9 s10:Int)(q:AA){r:List X4}(hr:∀x∈r,CV n x)(hrl:r.length<=12){w0:List X4}(hw:∀x∈w0,CV n x)(hl:w0.length<=90000):
 ∃w,XC s1 s2 s9 s10 r q w0 0=some w/\(∀x∈w,CV n x)/\w.length<=w0.length+r.length/\∀x,x∈w↔x∈w0\/x∈r:=by
 obtain⟨o,ho,hQ⟩:=Am (step:=fun s:List X4×Int=>C8 s1 s2 s9 s10 r q s.1 s.2)
  (fun s=>∃(j:Nat) (w:List X4),s=(w,(j:Int))/\j<=r.length/\(∀x∈w,CV n x)/\w.length<=w0.length+j/\∀x,x∈w↔x∈w0\/x∈r.take j)
  (fun s=>(r.length-s.2).toNat)
  (fun o=>(∀x∈o,CV n x)/\o.length<=w0.length+r.length/\∀x,x∈o↔x∈w0\/x∈r)
  (by
   rintro s ⟨j,w,rfl,hj,hcw,hlen,hm⟩;by_cases he:j=r.length;subst he;exact .inl ⟨w,by simp only[C8,ltI,AF],hcw,hlen,fun x=>by rw[hm x,List.take_length]⟩;right;obtain⟨y,hy,_⟩:=AP (l:=r) (i:=j) (by omega);have hcy:=hr y (List.mem_of_getElem? hy);obtain⟨r2,hr2,hP⟩:=(YJ hcw hcy (by omega)).1;have hP2:=hP.2;have htake:r.take (j+1)=r.take j++[y]:=by rw[List.take_add_one,hy];rfl
   refine⟨(r2,((j+1:Nat):Int)),?_,⟨j+1,r2,rfl,by omega,hP.cv hcw hcy,by omega,fun x=>?_⟩,by simp only;omega⟩;simp only[C8,ltD hy,AH,AK hy,hr2,AD,Ag hy (show r.length<=9223372036854775807 by omega)];rw[hP.1 x,hm x,htake,ma,List.mem_singleton];constructor;rintro(h|h|h);exact .inr (.inr h);exact .inl h;exact .inr (.inl h);rintro(h|h|h);exact .inr (.inl h);exact .inr (.inr h);exact .inl h)
  (w0,(0:Int)) ⟨0,w0,rfl,by omega,hw,by omega,fun x=>by simp⟩
 exact⟨o,ho,hQ⟩
theorem PN{q:AA}(hF:CX q)(hR:Ad q)(hS:Bh q){l:List AL}(hl:Is l){cs:List X4}(hc:∀c∈cs,CV q.states.length c)(hcl:cs.length<=1000):
 ∃w,XA cs l q [] 0 0=some (w,0)/\(∀x∈w,CV q.states.length x)/\w.length<=12*cs.length/\∀x,x∈w↔aEl q l cs x:=by
 obtain⟨o,ho,w,rfl,hcw,hlen,hm⟩:=Am (step:=fun s:List X4×Int×Int=>C7 cs l q s.1 s.2.1 s.2.2)
  (fun s=>∃(j:Nat) (w:List X4),s=(w,0,(j:Int))/\j<=cs.length/\(∀x∈w,CV q.states.length x)/\w.length<=12*j/\∀x,x∈w↔aEl q l (cs.take j) x)
  (fun s=>(cs.length-s.2.2).toNat)
  (fun o=>∃w,o=(w,(0:Int))/\(∀x∈w,CV q.states.length x)/\w.length<=12*cs.length/\∀x,x∈w↔aEl q l cs x)
  (by
   rintro s ⟨j,w,rfl,hj,hcw,hlen,hm⟩;by_cases he:j=cs.length;subst he;exact .inl ⟨(w,0),by simp only[C7,ltI,AF],w,rfl,hcw,by omega,fun x=>by rw[hm x,List.take_length]⟩;right;obtain⟨c,hy,_⟩:=AP (l:=cs) (i:=j) (by omega);have hcy:=hc c (List.mem_of_getElem? hy);obtain⟨r,hr,hrc,hrl,hrm⟩:=aE1 hF hR hS hl hcy;obtain⟨w2,hw2,hw2c,hw2l,hw2m⟩:=Fx cs l 0 (j:Int) q hrc hrl hcw (by omega);have htake:cs.take (j+1)=cs.take j++[c]:=by rw[List.take_add_one,hy];rfl
   refine⟨(w2,(0:Int),((j+1:Nat):Int)),?_,⟨j+1,w2,rfl,by omega,hw2c,by omega,fun x=>?_⟩,by simp only;omega⟩;simp only[C7,ltD hy,AH,AK hy,hr,AD,OF,hw2,Ag hy (show cs.length<=9223372036854775807 by omega)];rw[hw2m x,hm x,hrm x,htake];unfold aEl;constructor;rintro(⟨a,ha,h⟩|h);exact⟨a,ml _ ha,h⟩;exact⟨c,by simp,h⟩;rintro⟨a,ha,h⟩;rcases ma.1 ha with g|g
   exact .inl ⟨a,g,h⟩;rw[List.mem_singleton.1 g]at h;exact .inr h)
  ([],(0:Int),(0:Int)) ⟨0,[],rfl,by omega,by simp,by simp,fun x=>by simp[aEl]⟩
 exact⟨w,ho,hcw,hlen,hm⟩
def KS(n S:Nat):List X4:=((List.range n).filter fun s=>S.testBit s).map fun s=>X4.mk ((s:Nat):Int) []
theorem HC{n S:Nat}{x:X4}:x∈KS n S↔ ∃s,s<n/\S.testBit s=true/\x=X4.mk (s:Int) []:=by unfold KS;simp only[mm,List.mem_filter,List.mem_range];constructor;rintro⟨s,⟨h1,h2⟩,h3⟩;exact⟨s,h1,h2,h3.symm⟩;rintro⟨s,h1,h2,h3⟩;exact⟨s,⟨h1,h2⟩,h3.symm⟩
structure PX(n:Nat)(l:List AL):Prop extends Is l where
 sym:∀h∈l,0<=h.symbol/\h.symbol<n
theorem aGi{a b:Nat}(h:a+b<18446744073709551616):AB .add .u64 (a:Int) (b:Int)=((a+b:Nat):Int):=by show IntKind.wrap .u64 ((a:Int)+(b:Int))=_;rw[<-Int.natCast_add];exact A4 h
theorem LA{n:Nat}(hn:n<=12){l:List AL}(hl:PX n l):∃M:Nat,Zw l=some (M:Int)/\M<18446744073709551616/\∀k:Nat,M.testBit k=true↔ ∃h∈l,h.symbol=(k:Int):=by
 have hln:=hl.len;obtain⟨o,ho,M,rfl,hQ⟩:=Am (step:=fun s:Int×Int=>JO l s.1 s.2)
  (fun s=>∃(j w:Nat),s=((w:Int),(j:Int))/\j<=l.length/\w<2^12/\∀k:Nat,w.testBit k=true↔ ∃i,i<j/\∃h,l[i]? =some h/\h.symbol=(k:Int))
  (fun s=>(l.length-s.2).toNat)
  (fun o=>∃M:Nat,o=(M:Int)/\M<18446744073709551616/\∀k:Nat,M.testBit k=true↔ ∃h∈l,h.symbol=(k:Int))
  (by
   rintro s ⟨j,w,rfl,hj,hw,hm⟩;by_cases he:j=l.length;subst he;refine .inl ⟨(w:Int),by simp only[JO,ltI,AF],w,rfl,Nat.lt_of_lt_of_le hw (by decide),fun k=>?_⟩;rw[hm k];constructor;rintro⟨i,_,h,hi,hs⟩;exact⟨h,List.mem_of_getElem? hi,hs⟩;rintro⟨h,hh,hs⟩;obtain⟨i,hi⟩:=List.mem_iff_getElem?.1 hh;exact⟨i,(List.getElem?_eq_some_iff.1 hi).1,h,hi,hs⟩;right;obtain⟨y,hy,_⟩:=AP (l:=l) (i:=j) (by omega);have hsy:=hl.sym y (List.mem_of_getElem? hy);obtain⟨z,hz⟩:∃z:Nat,y.symbol=(z:Int):=⟨y.symbol.toNat,by omega⟩;have hz12:z<12:=by omega
   have hwz:w<2^z:=Nat.lt_pow_two_of_testBit w fun i hi=>by
    cases hb:w.testBit i with
    |false=>rfl
    |true=>
     exfalso
     obtain⟨a,ha,h,hh,hs⟩:=(hm i).1 hb
     obtain⟨p1,e1⟩:=List.getElem?_eq_some_iff.1 hh
     obtain⟨p2,e2⟩:=List.getElem?_eq_some_iff.1 hy
     have:=List.pairwise_iff_getElem.1 hl.rise a j p1 p2 ha
     rw[e1,e2]at this
     omega
   have hor:w+2^z=2^z|||w:=by have:=Nat.two_pow_add_eq_or_of_lt hwz 1;rw[Nat.mul_one]at this;rw[Nat.add_comm];exact this
   have hp12:2^z<2^12:=Nat.pow_lt_pow_right (by decide) hz12;have hlt12:w+2^z<2^12:=by rw[hor];exact Nat.or_lt_two_pow hp12 hw
   have hwz2:IntKind.wrap .u64 (z:Int)=(z:Int):=A4 (by omega);refine⟨(((w+2^z:Nat):Int),((j+1:Nat):Int)),?_,⟨j+1,w+2^z,rfl,by omega,hlt12,fun k=>?_⟩,by simp only;omega⟩;simp only[JO,ltD hy,AH,AK hy,hz,hwz2,An (show(0:Int)<=(z:Int) by omega),Ag hy (show l.length<=9223372036854775807 by omega)];rw[aHe (by omega),aGi (Nat.lt_of_lt_of_le hlt12 (by decide))];rw[hor,Nat.testBit_or,Nat.testBit_two_pow,Bool.or_eq_true,decide_eq_true_eq,hm k];constructor;rintro(h|⟨i,hi,a⟩);exact⟨j,by omega,y,hy,by rw[hz,h]⟩;exact⟨i,by omega,a⟩;rintro⟨i,hi,h,hh,hs⟩;rcases Nat.lt_or_ge i j with g|g
   exact .inr ⟨i,g,h,hh,hs⟩;have:i=j:=by omega
   subst this;rw[hy,oe]at hh;subst hh;exact .inl (by omega))
  ((0:Int),(0:Int)) ⟨0,0,rfl,by omega,by decide,fun k=>by simp⟩
 have ho':aJ6 l 0 0=some (M:Int):=ho;exact⟨M,by unfold Zw;rw[ho',AD],hQ⟩
theorem EN{α:Type}(f:Nat->α->Nat)(P:α->Nat->Prop)(hf:∀w x k,(f w x).testBit k=true↔w.testBit k=true\/P x k):∀(l:List α) (w k:Nat),(l.foldl f w).testBit k=true↔w.testBit k=true\/∃x∈l,P x k
 |[],w,k=>by simp
 |x::l,w,k=>by
  rw[List.foldl_cons,EN f P hf l,hf];constructor;rintro((h|h)|⟨y,hy,h⟩);exact .inl h;exact .inr ⟨x,by simp,h⟩;exact .inr ⟨y,List.mem_cons_of_mem _ hy,h⟩;rintro(h|⟨y,hy,h⟩);exact .inl (.inl h);rcases mc.1 hy with rfl|hy
  exact .inl (.inr h);exact .inr ⟨y,hy,h⟩
theorem Hm(q:AA)(M s k:Nat):(toN q M s).testBit k=true↔ ∃t∈q.trans,(t.from_=(s:Int)/\M.testBit t.symbol.toNat=true)/\t.to.toNat=k:=by
 unfold toN;rw[EN (toF M s) (fun t k=>(t.from_=(s:Int)/\M.testBit t.symbol.toNat=true)/\t.to.toNat=k) (fun w t k=>by unfold toF;by_cases h:t.from_=(s:Int)/\M.testBit t.symbol.toNat=true;rw[if_pos h,Nat.testBit_or,Nat.testBit_two_pow,Bool.or_eq_true,decide_eq_true_eq];exact⟨fun a=>a.elim .inl fun b=>.inr ⟨h,b⟩,fun a=>a.elim .inl fun b=>.inr b.2⟩;rw[if_neg h];exact⟨.inl,fun a=>a.elim id fun b=>absurd b.1 h⟩)]
 simp
theorem J3(q:AA)(M s:Nat):toN q M s=0↔ ∀t∈q.trans,¬(t.from_=(s:Int)/\M.testBit t.symbol.toNat=true):=by
 constructor;intro h t ht hh;have:=(Hm q M s t.to.toNat).2 ⟨t,ht,hh,rfl⟩;rw[h]at this;simp at this;intro h;apply Nat.eq_of_testBit_eq;intro i;rw[Nat.zero_testBit];cases hb:(toN q M s).testBit i with
 |false=>rfl
 |true=>
  obtain⟨t,ht,hh,_⟩:=(Hm q M s i).1 hb
  exact absurd hh (h t ht)
theorem Km(q:AA)(S M k:Nat):(H6 q S M).testBit k=true↔ ∃s,s<q.states.length/\S.testBit s=true/\(Vm q M s).testBit k=true:=by
 unfold H6;rw[EN (Jo q S M) (fun s k=>S.testBit s=true/\(Vm q M s).testBit k=true) (fun w s k=>by unfold Jo;by_cases h:S.testBit s=true;rw[if_pos h,Nat.testBit_or,Bool.or_eq_true];exact⟨fun a=>a.elim .inl fun b=>.inr ⟨h,b⟩,fun a=>a.elim .inl fun b=>.inr b.2⟩;rw[if_neg h];exact⟨.inl,fun a=>a.elim id fun b=>absurd b.1 h⟩)]
 simp only[List.mem_range,Nat.zero_testBit,Bool.false_eq_true,false_or]
theorem VD{q:AA}(hF:CX q)(hR:Ad q){S M:Nat}{l:List AL}(hl:PX q.symbols.length l)(hM:∀k:Nat,M.testBit k=true↔ ∃h∈l,h.symbol=(k:Int))(k:Nat):
 (H6 q S M).testBit k=true↔ ∃x,aEl q l (KS q.states.length S) x/\x.state=(k:Int):=by
 have hsy:=hF.symbols
 have hbit:∀t∈q.trans,(M.testBit t.symbol.toNat=true↔ ∃h∈l,h.symbol=t.symbol):=fun t ht=>by have:=(hR.ends t ht).1;rw[hM,show((t.symbol.toNat:Nat):Int)=t.symbol by omega]
 have hstep:∀(s:Nat) (y:X4),LE q l (X4.mk (s:Int) []) y↔ ∃t∈q.trans,(t.from_=(s:Int)/\M.testBit t.symbol.toNat=true)/\y=X4.mk t.to []:=fun s y=>by unfold LE;constructor;rintro⟨t,ht,h1,h2,h3⟩;exact⟨t,ht,⟨h1,(hbit t ht).2 h2⟩,h3⟩;rintro⟨t,ht,⟨h1,h2⟩,h3⟩;exact⟨t,ht,h1,(hbit t ht).1 h2,h3⟩
 rw[Km]
 constructor
 rintro⟨s,hs,hSs,hb⟩
 obtain⟨st,hst,_⟩:=AP hs
 have hc:X4.mk (s:Int) []∈KS q.states.length S:=HC.2 ⟨s,hs,hSs,rfl⟩
 unfold Vm at hb
 split at hb
 rename_i h0
 rw[Nat.testBit_two_pow,decide_eq_true_eq]at hb
 subst hb
 refine⟨X4.mk (s:Int) [],⟨_,hc,.inr ⟨fun y hy=>?_,?_,rfl⟩⟩,rfl⟩
 obtain⟨t,ht,hh,_⟩:=(hstep s y).1 hy
 exact(J3 q M s).1 h0.1 t ht hh
 have h2:=h0.2
 rw[hst,Option.map_some,oe]at h2
 exact⟨st,by simpa using hst,h2⟩
 obtain⟨t,ht,hh,hk⟩:=(Hm q M s k).1 hb
 have:=(hR.ends t ht).2.2
 exact⟨X4.mk t.to [],⟨_,hc,.inl ((hstep s _).2 ⟨t,ht,hh,rfl⟩)⟩,by simp only;omega⟩
 rintro⟨x,⟨c,hc,hO⟩,hk⟩
 obtain⟨s,hs,hSs,rfl⟩:=HC.1 hc
 obtain⟨st,hst,_⟩:=AP hs
 refine⟨s,hs,hSs,?_⟩
 unfold Vm
 rcases hO with h|⟨hno,⟨st2,hst2,hn⟩,rfl⟩
 obtain⟨t,ht,hh,rfl⟩:=(hstep s x).1 h
 rw[if_neg fun h0=>(J3 q M s).1 h0.1 t ht hh]
 refine(Hm q M s k).2 ⟨t,ht,hh,?_⟩
 simp only at hk;omega
 have h0:toN q M s=0:=(J3 q M s).2 fun t ht hh=>hno _ ((hstep s _).2 ⟨t,ht,hh,rfl⟩)
 have hst':q.states[s]? =some st2:=by simpa using hst2
 rw[if_pos ⟨h0,by rw[hst',Option.map_some,hn]⟩,Nat.testBit_two_pow,decide_eq_true_eq]
 simp only at hk;omega
theorem FH{q:AA}(hF:CX q)(hR:Ad q)(hS:Bh q)(e:X3)(b:List X2):PX q.symbols.length (((List.range q.symbols.length).filterMap fun i=>DV q i e).filter fun h=>BI h.bind b):=by
 have hsy:=hF.symbols;have hmem:∀h∈(List.range q.symbols.length).filterMap (fun i=>DV q i e),∃i,i<q.symbols.length/\DV q i e=some h:=fun h hh=>by obtain⟨i,hi,hh⟩:=List.mem_filterMap.1 hh;exact⟨i,List.mem_range.1 hi,hh⟩
 refine⟨⟨fun h hh=>?_,?_,?_⟩,fun h hh=>?_⟩;obtain⟨i,_,hi⟩:=hmem h (List.mem_filter.1 hh).1;exact Uh hR hS hi;refine List.Pairwise.filter _ ?_;rw[List.pairwise_filterMap];refine List.Pairwise.imp ?_ (List.pairwise_lt_range (n:=q.symbols.length));intro i j hij a ha c hc;have h1:=(Id ha).1;have h2:=(Id hc).1;omega;have h1:=List.length_filter_le (fun h:AL=>BI h.bind b) ((List.range q.symbols.length).filterMap fun i=>DV q i e);have h2:=List.length_filterMap_le (fun i=>DV q i e) (List.range q.symbols.length);rw[List.length_range]at h2;omega;obtain⟨i,hi,hh⟩:=hmem h (List.mem_filter.1 hh).1;have:=(Id hh).1;omega

theorem FZ{α τ:Type}(p:α->Bool)(c d:τ):∀l:List α,(l.findSome? fun t=>if p t=true then some c else none).getD d=if l.any p=true then c else d
 |[]=>rfl
 |x::l=>by
  rw[List.findSome?_cons,List.any_cons];cases h:p x with
  |true=>simp
  |false=>simp only[Bool.false_eq_true,if_false,Bool.false_or];exact FZ p c d l
theorem aBu(l:List Xe)(hl:l.length<=1000):Zr l=some (l.any fun t=>decide (0<=t.guard)):=by
 have hloop:OU l (l.length:Int) 0=some (if(l.any fun t=>decide (0<=t.guard))=true then .inr ((l.findIdx fun t=>decide (0<=t.guard):Nat):Int)else .inl ()):=by unfold OU;refine D6 (step:=fun s=>Ez l (l.length:Int) s) l (fun t=>decide (0<=t.guard)) (fun i x hx=>?_) ?_;simp only[Ez,ltD hx,AH,AK hx,Qt,AD,Ag hx (show l.length<=9223372036854775807 by omega)];by_cases h:0<=x.guard<;>simp[h,AE];simp only[Ez,ltI,AF]
 unfold Zr Y4;rw[hloop,AD];cases h:l.any fun t=>decide (0<=t.guard)with
 |true=>rw[if_pos rfl,C5,AD];simp
 |false=>rw[if_neg (by simp),Bo,AD];rfl
theorem Me{q:AA}(hF:CX q)(hR:Ad q):∃b,Zo q=some b/\Yf q=some b:=by
 have ht:=hF.trans;have hloop:Sf q 0=some (if(q.trans.any fun t=>decide (0<=t.guard))=true then .inr ()else .inl ()):=by
  unfold Sf;rw[Ck (step:=fun s=>Db q s) q.trans (fun _ t=>if decide (0<=t.guard)=true then some (Sum.inr ():Unit⊕Unit)else none) (.inl ())
   (fun i x hx=>by
    simp only[Db,ltD hx,AH,AK hx,Ag hx (show q.trans.length<=9223372036854775807 by omega)];rcases hR.guards x (List.mem_of_getElem? hx)with h|h
    simp[h,AE];have:¬x.guard= -1:=by omega
    simp[h,this,AE]) (by simp only[Db,ltI,AF])]
  rw[B6 (fun t:Xe=>if decide (0<=t.guard)=true then some (Sum.inr ():Unit⊕Unit)else none),FZ]
 unfold Zo Zu Yf;rw[aBu _ (by omega),hloop];generalize (q.trans.any fun t=>decide (0<=t.guard))=g;by_cases h1:q.frees.length=0<;>by_cases h2:q.quants.length<=1<;>by_cases h3:q.states.length<=8<;>by_cases h4:q.symbols.length<=8<;>cases g<;>
  simp[Cr,h1,h2,h3,h4,AG,AE,Ay,show((q.quants.length:Int)<=1)↔q.quants.length<=1 by omega,show((q.states.length:Int)<=8)↔q.states.length<=8 by omega,show((q.symbols.length:Int)<=8)↔q.symbols.length<=8 by omega,show((1:Int)<q.quants.length)↔ ¬q.quants.length<=1 by omega,show((8:Int)<q.states.length)↔ ¬q.states.length<=8 by omega,show((8:Int)<q.symbols.length)↔ ¬q.symbols.length<=8 by omega,show((0:Int)<q.frees.length)↔ ¬q.frees.length=0 by omega,show((q.frees.length:Int)=0)↔q.frees.length=0 by omega,show(0<q.frees.length)↔ ¬q.frees.length=0 by omega]
theorem Fy(l:List X0)(v:X0)(hl:l.length<=1000000):Q8 l v=some (decide (v∈l)):=by
 have hloop:aAv l (l.length:Int) v 0=some (if(l.any fun t=>decide (v=t))=true then .inr ((l.findIdx fun t=>decide (v=t):Nat):Int)else .inl ()):=by unfold aAv;refine D6 (step:=fun s=>Gw l (l.length:Int) v s) l (fun t=>decide (v=t)) (fun i x hx=>?_) ?_;simp only[Gw,ltD hx,AH,AK hx,X0.eqb_dec,Ag hx (show l.length<=9223372036854775807 by omega)];by_cases h:v=x<;>simp[h,AE];simp only[Gw,ltI,AF]
 have hany:(l.any fun t=>decide (v=t))=decide (v∈l):=by rw[Bool.eq_iff_iff,List.any_eq_true];simp
 unfold Q8 Z7;rw[hloop,AD,hany];by_cases h:v∈l;simp only[h,decide_true,if_true,C5,AD];simp;simp only[h,decide_false,Bool.false_eq_true,if_false,Bo,AD];rfl
theorem Ej{w:List X0}{x v:X0}:v∈Hb w x↔v=x\/v∈w:=by unfold Hb;by_cases h:x∈w;rw[if_pos h];exact⟨.inr,fun hh=>hh.elim (fun e=>e▸h) id⟩;rw[if_neg h];simp only[ma,mc,List.mem_filter];cases ltV v x<;>simp<;>constructor<;>(intro hh;rcases hh with a|b<;>simp_all)
theorem FK{α β τ:Type}{step:β×Int->Option (β×Int⊕τ)}(l:List α)(f:β->α->β)(fin:β->τ)(I:Nat->β->Prop)
 (h1:∀(i:Nat) x w,l[i]? =some x->I i w->step (w,(i:Int))=some (.inl (f w x,((i+1:Nat):Int)))/\I (i+1) (f w x))
 (h2:∀w,I l.length w->step (w,(l.length:Int))=some (.inr (fin w))) (w:β) (h0:I 0 w):AU step (w,0)=some (fin (l.foldl f w)):=by
 have h:=DL (step:=step) l (fun i w=>(w,(i:Int))) (fun _ w x=>(.inl (f w x):β⊕τ)) fin I (fun i x w hx hI=>⟨(h1 i x w hx hI).1,fun w' hw=>by cases hw;exact(h1 i x w hx hI).2⟩) h2 (l.length+1) 0 w (by omega) (by omega) h0
 rw[show(w,(0:Int))=(w,((0:Nat):Int))from rfl,h,List.drop_zero]
 congr 1
 clear h h1 h2 h0
 generalize 0=i
 revert i w
 induction l with
 |nil=>intro w i;rfl
 |cons x xs ih=>intro w i;rw[Il];exact ih _ _
def K5(k:Int)(w:List X0)(a:BQ):List X0:=if a.kind=1/\a.value.kind=k then Hb w a.value else w
def E8(q:AA)(k:Int):List X0:=q.symbols.foldl (fun w s=>s.args.foldl (K5 k) w) (if k=3 then [X0.mk 3 0 [] false,X0.mk 3 0 [] true]else [])
theorem HJ{α β:Type}(I:Nat->β->Prop)(f:β->α->β):∀(l:List α) (i:Nat) (w:β),(∀(j:Nat) x w,x∈l->I j w->I (j+1) (f w x))->I i w->I (i+l.length) (l.foldl f w)
 |[],i,w,_,h0=>h0
 |x::l,i,w,h,h0=>by
  rw[List.foldl_cons,List.length_cons,show i+(l.length+1)=(i+1)+l.length by omega];exact HJ I f l (i+1) _ (fun j y w hy=>h j y w (List.mem_cons_of_mem _ hy)) (h i x w (by simp) h0)
theorem Pe(k:Int):SW (if k=3 then [X0.mk 3 0 [] false,X0.mk 3 0 [] true]else []):=by
 split;refine⟨?_,?_⟩;simp[ltV];intro v hv;simp only[mc,List.not_mem_nil,or_false]at hv;rcases hv with rfl|rfl<;>decide
 exact⟨List.Pairwise.nil,by simp⟩
theorem NM{k:Int}{w:List X0}{a:BQ}{n:Nat}(ha:a.kind=1->vR a.value=true)(hw:SW w)(hl:w.length<=n):SW (K5 k w a)/\(K5 k w a).length<=n+1:=by unfold K5;split;rename_i h;have:=KC hw (ha h.1);refine⟨this.1,?_⟩;rw[this.2];split<;>omega;exact⟨hw,by omega⟩
theorem NO{q:AA}(hF:CX q)(hR:Ad q){s:X8}(hs:s∈q.symbols){k:Int}{w:List X0}{n:Nat}(hw:SW w)(hl:w.length<=n):SW (s.args.foldl (K5 k) w)/\(s.args.foldl (K5 k) w).length<=n+12:=by have h:=HJ (fun i w=>SW w/\w.length<=n+i) (K5 k) s.args 0 w (fun j a w ha hI=>NM ((hR.symbols s hs).args a ha).one hI.1 hI.2) ⟨hw,by omega⟩;have:=hF.args s hs;exact⟨h.1,by omega⟩
theorem cons_inv{q:AA}(hF:CX q)(hR:Ad q)(k:Int):SW (E8 q k)/\(E8 q k).length<=200:=by
 have h:=HJ (fun i w=>SW w/\w.length<=2+12*i) (fun w s=>s.args.foldl (K5 k) w) q.symbols 0 (if k=3 then [X0.mk 3 0 [] false,X0.mk 3 0 [] true]else [])
  (fun j s w hs hI=>by have:=NO hF hR hs (k:=k) hI.1 hI.2;exact⟨this.1,by omega⟩) ⟨Pe k,by split<;>simp⟩
 have:=hF.symbols;exact⟨h.1,by unfold E8;omega⟩
theorem aJf{q:AA}(hF:CX q)(hR:Ad q)(k:Int):Yk q k=some (E8 q k):=by
 have hsy:=hF.symbols;have hb:aFm k (decide (k=3)) q=some (if k=3 then [X0.mk 3 0 [] false,X0.mk 3 0 [] true]else []):=by unfold aFm;rw[Cr];split<;>rfl
 have hin:∀(s:X8) (i:Nat) (w:List X0),q.symbols[i]? =some s->SW w->w.length<=200->aFo k (i:Int) q w 0=some (s.args.foldl (K5 k) w):=by intro s i w hxs hw hl;have hs:=List.mem_of_getElem? hxs;have ha:=hF.args s hs;unfold aFo;refine FK (step:=fun z:List X0×Int=>JB k (i:Int) q z.1 z.2) s.args (K5 k) id (fun j w=>SW w/\w.length<=200+j) (fun j a w hx hI=>?_) (fun w _=>?_) w ⟨hw,by omega⟩;have hv:=((hR.symbols s hs).args a (List.mem_of_getElem? hx)).one;have hlt:=(List.getElem?_eq_some_iff.1 hx).1;refine⟨?_,NM hv hI.1 hI.2⟩;simp only[JB,AK hxs,ltD hx,AH,aJe,AK hx,Ag hx (show s.args.length<=9223372036854775807 by omega),aFn];unfold K5;by_cases h1:a.kind=1<;>by_cases h2:a.value.kind=k;rw[Cr,if_pos h1,Cr,if_pos h2,if_pos ⟨h1,h2⟩,aAa hI.1 (hv h1) (by have:=hI.2;omega)];rfl;rw[Cr,if_pos h1,Cr,if_neg h2,if_neg (fun h=>h2 h.2)];rfl;rw[Cr,if_neg h1,if_neg (fun h=>h1 h.1)];rfl;rw[Cr,if_neg h1,if_neg (fun h=>h1 h.1)];rfl;simp only[JB,AK hxs,ltI,AF,id]
 unfold Yk aJg;rw[hb,AD,FK (step:=fun z:List X0×Int=>JA k q z.1 z.2) q.symbols (fun w s=>s.args.foldl (K5 k) w) id (fun j w=>SW w/\w.length<=2+12*j)
  (fun j s w hx hI=>by have hs:=List.mem_of_getElem? hx;have hlt:=(List.getElem?_eq_some_iff.1 hx).1;have:=NO hF hR hs (k:=k) hI.1 hI.2;refine⟨?_,this.1,by omega⟩;simp only[JA,ltD hx,AH,Ag hx (show q.symbols.length<=9223372036854775807 by omega)];rw[hin s j w hx hI.1 (by have:=hI.2;omega)];rfl)
  (fun w _=>by simp only[JA,ltI,AF,id]) _ ⟨Pe k,by split<;>simp⟩,AD]
 rfl
def Es(k:Int)(j:Nat):X0:=if k=1 then⟨k,(j:Int),[],false⟩else⟨k,0,List.replicate j 97,false⟩
theorem aCk{k:Int}{i j:Nat}(h:Es k i=Es k j):i=j:=by
 unfold Es at h;split at h;injection h with _ h2;omega
 injection h with _ _ h3
 have:=congrArg List.length h3;simpa using this
theorem Kk(k:Int)(j:Nat):(Es k j).kind=k:=by unfold Es;split<;>rfl
theorem VB{k:Int}{j:Nat}(hk:k=1\/k=2)(hj:j<=1000):vR (Es k j)=true:=by
 unfold Es vR;rcases hk with rfl|rfl
 simp;simp;omega
theorem aD9{α:Type} [DecidableEq α](f:Nat->α)(hf:∀i j,f i=f j->i=j):∀(n:Nat) (l:List α),(∀i,i<n->f i∈l)->n<=l.length
 |0,_,_=>Nat.zero_le _
 |n+1,l,h=>by
  have hm:=h n (by omega);have:=aD9 f hf n (l.erase (f n)) (fun i hi=>(List.mem_erase_of_ne (fun e=>by have:=hf _ _ e;omega)).2 (h i (by omega)));rw[List.length_erase_of_mem hm]at this;have:0<l.length:=List.length_pos_of_mem hm;omega
theorem aHu{w:List X0}{v:X0}(hw:SW w)(hv:vR v=true)(hl:w.length<=900):U8 w v=some (decide (v∈w)):=by unfold U8;rw[aAa hw hv hl,AD,(KC hw hv).2];by_cases h:v∈w;simp[h];simp only[h,if_false,decide_false,oe,decide_eq_false_iff_not];omega
theorem Kl(k:Int)(j:Nat)(hk:k=1\/k=2)(hj:j<=1000)(l:List X0)(z:X0):Ry k l z (Es k j)=some (Es k (j+1))/\aGc k l z (Es k j)=some (Es k (j+1)):=by
 unfold Ry aGc XR aJv Es;rcases hk with rfl|rfl
 simp only[if_true,decide_true,AH,AD];rw[aDk (by omega) (by omega)];simp;simp only[show¬(2:Int)=1 by decide,if_false,decide_false,AF,List.length_replicate];rw[An (by simp;omega)];simp[AG,List.replicate_succ']
theorem Np{k:Int}(hk:k=1\/k=2){l w:List X0}(hl:l.length<=1000)(hw:SW w)(hwl:w.length<=900)(hm:∀v,v.kind=k->(v∈w↔v∈l))(z:X0):∀(m j:Nat),j+m<=900->(∃i,j<=i/\i<j+m/\Es k i∉l)->∃i,j<=i/\i<j+m/\Es k i∉l/\OS k l z (Es k j)=some (Es k i)/\aA4 k w z (Es k j)=some (Es k i)
 |0,j,_,⟨i,h1,h2,_⟩=>by omega
 |m+1,j,hj,⟨i,h1,h2,h3⟩=>by
  have e1:Q8 l (Es k j)=some (decide (Es k j∈l)):=Fy _ _ (by omega);have e2:U8 w (Es k j)=some (decide (Es k j∈l)):=by rw[aHu hw (VB hk (by omega)) hwl];simp only[hm _ (Kk k j)]
  by_cases h:Es k j∈l;have hne:i≠j:=fun e=>h3 (e▸h);obtain⟨i',a1,a2,a3,a4,a5⟩:=Np hk hl hw hwl hm z m (j+1) (by omega) ⟨i,by omega,by omega,h3⟩;refine⟨i',by omega,by omega,a3,?_,?_⟩;rw[M3];unfold GV;rw[e1,AD];simp only[h,decide_true,AH,(Kl k j hk (by omega) l z).1,AD,Cm];exact a4;rw[NI];unfold JK;rw[e2,AD];simp only[h,decide_true,AH,(Kl k j hk (by omega) w z).2,AD,Cm];exact a5;refine⟨j,by omega,by omega,h,?_,?_⟩;rw[M3];unfold GV;rw[e1,AD];simp only[h,decide_false,AF,CE];rw[NI];unfold JK;rw[e2,AD];simp only[h,decide_false,AF,CE]
def Jb(n:Nat)(p:Nat->Bool):Nat:=(List.range n).foldl (fun w i=>if p i=true then w|||2^i else w) 0
theorem Oq(n:Nat)(p:Nat->Bool):Jb (n+1) p=if p n=true then Jb n p|||2^n else Jb n p:=by unfold Jb;rw[List.range_succ,List.foldl_append];rfl
theorem KO(n:Nat)(p:Nat->Bool)(k:Nat):(Jb n p).testBit k=true↔k<n/\p k=true:=by
 induction n with
 |zero=>simp[Jb]
 |succ n ih=>
  rw[Oq]
  split
  rename_i h
  rw[Nat.testBit_or,Nat.testBit_two_pow,Bool.or_eq_true,decide_eq_true_eq,ih]
  constructor
  rintro(⟨a,b⟩|rfl)
  exact⟨by omega,b⟩
  exact⟨by omega,h⟩
  rintro⟨a,b⟩
  by_cases hk:n=k
  exact .inr hk
  exact .inl ⟨by omega,b⟩
  rename_i h
  rw[ih]
  constructor
  rintro⟨a,b⟩;exact⟨by omega,b⟩
  rintro⟨a,b⟩
  refine⟨?_,b⟩
  by_cases hk:n=k
  subst hk;exact absurd b h
  omega
theorem aBq(n:Nat)(p:Nat->Bool):Jb n p<2^n:=Nat.lt_pow_two_of_testBit _ fun i hi=>by
 cases h:(Jb n p).testBit i with
 |false=>rfl
 |true=>have:=(KO n p i).1 h;omega
end
end Go.Ac
