/- Own work: the plain law. -/
import Derived.Test.YtgcfokfcilgnlaaGreatSh23s
import Derived.Test.YtgcfokfcilgnlaaGreatAcC
set_option linter.unusedVariables false
set_option linter.unusedSimpArgs false
namespace Go.Ac
noncomputable section
def vR(v:X0):Bool:=
 if v.kind=1 then decide (v.str=[])&& !v.bool
 else if v.kind=2 then decide (v.int=0)&& !v.bool&&decide (v.str.length<=4096)
 else if v.kind=3 then decide (v.int=0)&&decide (v.str=[])else false
theorem aA0(v:X0):Z6 v=some (vR v):=by
 unfold Z6 vR;have hc:decide ((v.str.length:Int)<=4096)=decide (v.str.length<=4096):=by
  by_cases h:v.str.length<=4096;have:(v.str.length:Int)<=4096:=by omega
  simp[h,this];have:¬(v.str.length:Int)<=4096:=by omega
  simp[h,this]
 rw[hc];by_cases h1:v.kind=1;by_cases hs:v.str=[]<;>simp[h1,hs,AE];by_cases h2:v.kind=2;by_cases hn:v.int=0<;>cases hb:v.bool<;>simp[h2,hn,AE];by_cases h3:v.kind=3;by_cases hn:v.int=0<;>simp[h3,hn,AE];simp[h1,h2,h3,AE]
theorem X0.eqb_dec(a b:X0):X0.eqb a b=decide (a=b):=by rw[Bool.eq_iff_iff,X0.eqb_iff];simp
def zV:X0:=⟨0,0,[],false⟩
def D9(l:List X2)(v:Int):X0×Bool:=match l.findSome? (fun s=>if s.var=v then some s.value else none)with
 |some x=>(x,true)
 |none=>(zV,false)
theorem aVa(l:List X2)(v:Int)(o:Unit⊕X0)(h:o=(l.findSome? (fun s=>if s.var=v then some (Sum.inr s.value:Unit⊕X0)else none)).getD (.inl ())):
 Ba o (fun _=>some (X0.mk 0 0 ([]:List UInt8) false,false)) (fun o4=>some (o4,true))=some (D9 l v):=by
 subst h
 have e:l.findSome? (fun s=>if s.var=v then some (Sum.inr s.value:Unit⊕X0)else none)=(l.findSome? (fun s=>if s.var=v then some s.value else none)).map Sum.inr:=by
  induction l with
  |nil=>rfl
  |cons s l ih=>rw[List.findSome?_cons,List.findSome?_cons];by_cases h:s.var=v<;>simp[h,ih]
 rw[e]
 unfold D9
 cases l.findSome? (fun s=>if s.var=v then some s.value else none)<;>rfl
theorem ZI(l:List X2)(v:Int)(hl:l.length<=9223372036854775807):Ym l v=some (D9 l v):=by
 unfold Ym aTh;rw[D6 l (fun _ s=>if s.var=v then some (Sum.inr s.value:Unit⊕X0)else none) (.inl ())
  (fun i x hx=>by simp only[Lh,ltD hx,AG,AL hx,Ah hx hl,De];by_cases h:x.var=v<;>simp[h])
  (by simp only[Lh,ltI,AF]),DG,AB]
 exact aVa l v _ rfl
theorem aQl(v:X0):∃b,Z6 v=some b:=by
 unfold Z6;simp only[Az];repeat' split
 all_goals exact⟨_,rfl⟩
theorem Fj{l:List X2}{v:Int}{x:X0}(h:D9 l v=(x,true)):X2.mk v x∈l:=by unfold D9 at h;split at h;rename_i y hy;cases h;obtain⟨s,hs,hv⟩:=List.exists_of_findSome?_eq_some hy;split at hv;rename_i e;cases hv;rw[<-e];exact hs;cases hv;cases h
theorem Ff{β:Type}{a b n:Nat}(h:a+b<=1073741824)(hn:n<=131072)(k:Option β):AU (fit a b n) k=k:=Aj (B2 h hn) k
structure CY(q:AD):Prop where
 decls:q.decls.length<=12
 quants:q.quants.length<=9
 frees:q.frees.length<=12
 states:q.states.length<=12
 symbols:q.symbols.length<=12
 trans:q.trans.length<=12
 nodes:q.nodes.length<=40
 args:∀s∈q.symbols,s.args.length<=12
 sets:∀t∈q.trans,t.sets.length<=12
theorem Eg{α:Type}{l:List α}{R:α->Prop}(h:∀j,j<l.length->∀x,l[j]? =some x->R x):∀x∈l,R x:=by intro x hx;obtain⟨j,hj,rfl⟩:=List.mem_iff_getElem.1 hx;exact h j hj _ (List.getElem?_eq_getElem hj)
theorem bA7(q:AD):∃n,Xe q=some n/\(n≠0->CY q):=by
 unfold Xe;simp only[De];iterate 8 (split; · exact⟨0,rfl,by simp⟩)
 rename_i h1 h2 h3 h4 h5 h6 h7 h8;have hd:q.decls.length<=9223372036854775807:=by omega
 have hs:q.symbols.length<=9223372036854775807:=by omega
 have hf:q.frees.length<=9223372036854775807:=by omega
 have hn:q.nodes.length<=9223372036854775807:=by omega
 have ht:q.trans.length<=9223372036854775807:=by omega
 obtain⟨t1,e1,_⟩:=Am (step:=fun s=>IZ q s) q.decls.length (fun _=>True) (fun _=>True)
  (fun i hi=>by
   obtain⟨x,hx,_⟩:=AQ hi;simp only[IZ,ltD hx,AG,AL hx,Ah hx hd];simp only[Az];repeat' split
   all_goals first|exact .inl ⟨rfl,trivial⟩|exact .inr ⟨_,rfl,trivial⟩)
  (fun _=>⟨.inl (),by simp only[IZ,ltI,AF],trivial⟩)
 obtain⟨t2,e2,Q2⟩:=Am (step:=fun s=>Ia q s) q.symbols.length (fun i=>∀x,q.symbols[i]? =some x->x.args.length<=12) (fun t=>t=.inl ()->∀s∈q.symbols,s.args.length<=12)
  (fun i hi=>by
   obtain⟨x,hx,_⟩:=AQ hi;simp only[Ia,ltD hx,AG,AL hx,Ah hx hs,De];split;exact .inr ⟨_,rfl,by simp⟩;rename_i h12;obtain⟨t3,e3,_⟩:=Am (step:=fun s=>Ib (i:Int) q s) x.args.length (fun _=>True) (fun _=>True)
    (fun j hj=>by obtain⟨y,hy,_⟩:=AQ hj;simp only[Ib,AL hx,ltD hy,AG,AL hy,Ah hy (show x.args.length<=9223372036854775807 by omega)];simp only[Az];split;exact .inr ⟨_,rfl,trivial⟩;exact .inl ⟨rfl,trivial⟩)
    (fun _=>⟨.inl (),by simp only[Ib,AL hx,ltI,AF],trivial⟩)
   unfold aSh;rw[e3,AB];rcases t3 with _|_
   exact .inl ⟨rfl,fun y hy=>by rw[hx]at hy;cases hy;omega⟩;exact .inr ⟨_,rfl,by simp⟩)
  (fun hP=>⟨.inl (),by simp only[Ia,ltI,AF],fun _=>Eg hP⟩)
 obtain⟨t4,e4,_⟩:=Am (step:=fun s=>Ic q s) q.frees.length (fun _=>True) (fun _=>True)
  (fun i hi=>by obtain⟨x,hx,_⟩:=AQ hi;simp only[Ic,ltD hx,AG,AL hx,Ah hx hf];simp only[Az];split;exact .inr ⟨_,rfl,trivial⟩;exact .inl ⟨rfl,trivial⟩)
  (fun _=>⟨.inl (),by simp only[Ic,ltI,AF],trivial⟩)
 obtain⟨t5,e5,_⟩:=Am (step:=fun s=>Id q s) q.nodes.length (fun _=>True) (fun _=>True)
  (fun i hi=>by obtain⟨x,hx,_⟩:=AQ hi;simp only[Id,ltD hx,AG,AL hx,Ah hx hn];simp only[Az];split;exact .inr ⟨_,rfl,trivial⟩;exact .inl ⟨rfl,trivial⟩)
  (fun _=>⟨.inl (),by simp only[Id,ltI,AF],trivial⟩)
 obtain⟨t6,e6,Q6⟩:=Am (step:=fun s=>Ie q s) q.trans.length (fun i=>∀x,q.trans[i]? =some x->x.sets.length<=12) (fun t=>t=.inl ()->∀s∈q.trans,s.sets.length<=12)
  (fun i hi=>by obtain⟨x,hx,_⟩:=AQ hi;simp only[Ie,ltD hx,AG,AL hx,Ah hx ht,De];split;exact .inr ⟨_,rfl,by simp⟩;exact .inl ⟨rfl,fun y hy=>by rw[hx]at hy;cases hy;omega⟩)
  (fun hP=>⟨.inl (),by simp only[Ie,ltI,AF],fun _=>Eg hP⟩)
 unfold aSf aSg aSi aSj aSk;rw[e1,AB,e2,e4,e5,e6];simp only[AB];rcases t1 with _|_<;>rcases t2 with _|_<;>rcases t4 with _|_<;>rcases t5 with _|_<;>rcases t6 with _|_<;>simp only[BY,D8]<;>
  first
  |exact⟨0,rfl,by simp⟩
  |exact⟨1,rfl,fun _=>⟨by omega,by omega,by omega,by omega,by omega,by omega,by omega,Q2 rfl,Q6 rfl⟩⟩
theorem aX7(s:List UInt8):∃b,Za s=some b:=by
 unfold Za;simp only[De];split;exact⟨_,rfl⟩;split;exact⟨_,rfl⟩;obtain⟨t1,e1,_⟩:=Am (step:=fun i=>JM s i) s.length (fun _=>True) (fun _=>True)
  (fun i hi=>by
   obtain⟨x,hx,_⟩:=AQ hi;simp only[JM,ltD hx,AG,AL hx,Ah hx (show s.length<=9223372036854775807 by omega)];simp only[Az];repeat' split
   all_goals first|exact .inl ⟨rfl,trivial⟩|exact .inr ⟨_,rfl,trivial⟩)
  (fun _=>⟨.inl (),by simp only[JM,ltI,AF],trivial⟩)
 unfold aTu;rw[e1,AB];rcases t1 with _|_<;>exact⟨_,rfl⟩
theorem QK(s:List UInt8):∃b,Yt s=some b:=by
 unfold Yt Uj;rw[AB];generalize hw:([([97,99,99,101,112,116]:List UInt8),([97,108,115,111]:List UInt8),([97,110,100]:List UInt8),([98,111,111,108]:List UInt8),([100,111]:List UInt8),([101,118,101,110,116]:List UInt8),([101,120,105,115,116,115]:List UInt8),([102,97,108,115,101]:List UInt8),([102,111,114,97,108,108]:List UInt8),([102,114,101,101]:List UInt8),([105,102]:List UInt8),([105,110,116]:List UInt8),([110,101,120,116]:List UInt8),([110,111,116]:List UInt8),([111,110]:List UInt8),([111,114]:List UInt8),([113,101,97]:List UInt8),([115,107,105,112]:List UInt8),([115,116,97,114,116]:List UInt8),([115,116,114,105,110,103]:List UInt8),([116,111]:List UInt8),([116,114,117,101]:List UInt8)]:List (List UInt8))=ws;have hl:ws.length<=9223372036854775807:=by rw[<-hw];simp
 obtain⟨t1,e1,_⟩:=Am (step:=fun i=>JF s ws i) ws.length (fun _=>True) (fun _=>True)
  (fun i hi=>by obtain⟨x,hx,_⟩:=AQ hi;simp only[JF,ltD hx,AG,AL hx,Ah hx hl];simp only[Az];split;exact .inr ⟨_,rfl,trivial⟩;exact .inl ⟨rfl,trivial⟩)
  (fun _=>⟨.inl (),by simp only[JF,ltI,AF],trivial⟩)
 unfold aTn;rw[e1,AB];rcases t1 with _|_
 obtain⟨b,hb⟩:=aX7 s;rw[BY,hb,AB];cases b<;>exact⟨_,rfl⟩;exact⟨_,rfl⟩
def Ju(l:List Xf)(n:List UInt8):Option Nat:=if l.any (fun d=>decide (d.name=n))=true then some (l.findIdx fun d=>decide (d.name=n))else none
theorem aX3(l:List Xf)(n:List UInt8)(hl:l.length<=9223372036854775807):Z3 l n=some (match Ju l n with|some i=>(i:Int)|none=> -1):=by
 unfold Z3 aTr;rw[DY l (fun d=>decide (d.name=n))
  (fun i x hx=>by simp only[Lj,ltD hx,AG,AL hx,Ah hx hl];simp only[Az];cases decide (x.name=n)<;>rfl)
  (by simp only[Lj,ltI,AF]),AB]
 unfold Ju;cases l.any _<;>rfl
theorem Sx{l:List Xf}{n:List UInt8}{i:Nat}(h:Ju l n=some i):∃d,l[i]? =some d/\d.name=n:=by unfold Ju at h;split at h;rename_i ha;cases h;obtain⟨d,hd,hn⟩:=List.any_eq_true.1 ha;have hlt:=List.findIdx_lt_length_of_exists (p:=fun d=>decide (d.name=n)) ⟨d,hd,hn⟩;exact⟨_,List.getElem?_eq_getElem hlt,by simpa using List.findIdx_getElem (w:=hlt)⟩;cases h
theorem aOy{l:List Xf}{n:List UInt8}{j:Nat}{d:Xf}(hj:l[j]? =some d)(hn:d.name=n):∃i,Ju l n=some i/\i<=j:=by have ha:l.any (fun d=>decide (d.name=n))=true:=List.any_eq_true.2 ⟨d,List.mem_of_getElem? hj,by simpa using hn⟩;refine⟨l.findIdx fun d=>decide (d.name=n),by unfold Ju;rw[if_pos ha],?_⟩;refine Nat.le_of_not_lt fun hlt=>?_;have:=List.not_of_lt_findIdx hlt;obtain⟨h1,rfl⟩:=List.getElem?_eq_some_iff.1 hj;simp[hn]at this
def OD(l:List Xf):Prop:=∀j d,l[j]? =some d->Ju l d.name=some j
theorem bB0(l:List Xf)(hl:l.length<=9223372036854775807):∃r,Y5 l=some r/\(r.1=0->OD l):=by
 unfold Y5;rw[De];split;exact⟨_,rfl,by simp⟩;obtain⟨t1,e1,Q1⟩:=Am (step:=fun i=>FA l i) l.length (fun i=>∀d,l[i]? =some d->Ju l d.name=some i) (fun t=>match t with| .inl _=>OD l| .inr r=>r.1≠0)
  (fun i hi=>by
   obtain⟨x,hx,_⟩:=AQ hi;obtain⟨b,hb⟩:=QK x.name;simp only[FA,ltD hx,AG,AL hx,Ah hx hl,hb,AB,aX3 l _ hl];cases b with
   |false=>exact .inr ⟨_,rfl,by simp⟩
   |true=>
    simp only[Bool.not_true,AF]
    obtain⟨k,hk,hki⟩:=aOy hx rfl
    rw[hk]
    dsimp only
    rw[De]
    split
    exact .inr ⟨_,rfl,by simp⟩
    ·rename_i hge
     rw[De]
     split
     exact .inr ⟨_,rfl,by simp⟩
     ·obtain⟨t2,e2,_⟩:=Am (step:=fun s=>FC l (i:Int) s) x.types.length (fun _=>True) (fun _=>True)
       (fun j hj=>by
        obtain⟨y,hy,_⟩:=AQ hj;simp only[FC,AL hx,ltD hy,AG,AL hy,Ah hy (show x.types.length<=9223372036854775807 by omega)];simp only[Az];repeat' split
        all_goals first|exact .inl ⟨rfl,trivial⟩|exact .inr ⟨_,rfl,trivial⟩)
       (fun _=>⟨.inl (),by simp only[FC,AL hx,ltI,AF],trivial⟩)
      unfold aK3
      rw[e2,AB]
      rcases t2 with _|_
      refine .inl ⟨rfl,fun d hd=>?_⟩
      rw[hx]at hd;cases hd
      have:k=i:=by omega
      rw[hk,this]
      exact .inr ⟨_,rfl,by simp⟩)
  (fun hP=>⟨.inl (),by simp only[FA,ltI,AF],fun j d hd=>hP j (B3 hd) d hd⟩)
 unfold aK1;rw[e1,AB];rcases t1 with _|r
 exact⟨_,rfl,fun _=>Q1⟩;exact⟨_,rfl,fun h=>absurd h Q1⟩
theorem aQg(op:Int):∃r,Qb op 0 0=some r:=by unfold Qb;rw[show Qu 0 0=some (AA .add .i64 0 0,true) by simp[Qu,AE],show Qa 0 0=some (AA .sub .i64 0 0,true) by simp[Qa,AE],show Qv 0 0=some (0,true) by simp[Qv,AE],show Qw 0 0=some (0,0,7) by simp[Qw,AE]];simp only[AB,Qd,Bool.not_true,AF];refine KQ ?_;repeat' first|exact⟨_,rfl,trivial⟩|refine Ar (fun _=>?_) (fun _=>?_)|refine K7 (fun _=>?_) (fun _=>?_)
theorem bEo(a b:Int):∃r,Q5 ⟨a,0,[],false⟩ ⟨b,0,[],false⟩=some r:=by
 unfold Q5;have hb:Yz [] []=some false:=by unfold Yz aM7;rw[An];simp[HL,AE,B1,AH,Ba]
 simp only[hb,AB];refine KQ ?_;repeat' first|exact⟨_,rfl,trivial⟩|refine Ar (fun _=>?_) (fun _=>?_)|refine Cc (fun _=>?_) (fun _=>?_)|refine K7 (fun _=>?_) (fun _=>?_)
theorem bEw(op a b:Int):∃r,Q7 op ⟨a,0,[],false⟩ ⟨b,0,[],false⟩=some r:=by unfold Q7;obtain⟨r1,h1⟩:=bEo a b;obtain⟨r2,h2⟩:=bEo b a;obtain⟨r3,h3⟩:=aQg 9;obtain⟨r4,h4⟩:=aQg op;have h4':Qb op 0 0=some r4:=h4;have hc:∀{β:Type} (k:Option β),AU (([]:List UInt8).length+([]:List UInt8).length<=9223372036854775807) k=k:=fun k=>Aj (by simp) k;simp only[Q4,AB,h1,h2,h3,h4',hc,AF];refine KQ ?_;repeat' first|exact⟨_,rfl,trivial⟩|refine Ar (fun _=>?_) (fun _=>?_)|refine Cc (fun _=>?_) (fun _=>?_)|refine K7 (fun _=>?_) (fun _=>?_)
theorem aR0(op a b:Int):∃r,Qh op a b=some r/\(r≠0->a≠0):=by unfold Qh;obtain⟨r,hr⟩:=bEw op a b;rw[hr];simp only[AB];refine Ar (fun _=>⟨_,rfl,by simp⟩) (fun h=>?_);repeat' first|exact⟨_,rfl,fun _=>by omega⟩|refine Ar (fun _=>?_) (fun _=>?_)|refine Cc (fun _=>?_) (fun _=>?_)
theorem Hu{α:Type}{l:List α}{i:Int}(h0:0<=i)(h1:i<l.length):∃x,l[i.toNat]? =some x/\i=(i.toNat:Int):=by obtain⟨x,hx,_⟩:=AQ (l:=l) (i:=i.toNat) (by omega);exact⟨x,hx,by omega⟩
theorem B5{α β:Type}{l:List α}{i:Int}{x:α}(h:l[i.toNat]? =some x)(h0:0<=i)(k:α->Option β):AS l i k=k x:=by have e:AS l ((i.toNat:Nat):Int) k=k x:=AL h k;rwa [show((i.toNat:Nat):Int)=i by omega]at e
theorem QT(q:AD)(hq:q.nodes.length<=2048):∀(n:Nat) (i:Int),-9223372036854775000<=i->0<n->i+1<n->∃r,ZY n q i=some r/\(r.1≠0->0<=r.2.2/\r.2.2<=i/\i<q.nodes.length):=by
 intro n;induction n with
 |zero=>intro i h0 h;omega
 |succ n ih=>
  intro i h0 _ h
  show∃r,ZX (ZY n) q i=some r/\_
  unfold ZX
  refine Ar (fun _=>⟨_,rfl,by simp⟩) (fun hi0=>?_)
  refine Ar (fun _=>⟨_,rfl,by simp⟩) (fun hi1=>?_)
  obtain⟨x,hx,_⟩:=Hu (l:=q.nodes) (i:=i) (by omega) (by omega)
  rw[B5 hx (by omega)]
  obtain⟨b,hb⟩:=aQl x.value
  have e1:AA .sub .i64 i 1=i-1:=TJ (by omega) (by omega)
  rw[e1]
  refine Ar (fun _=>?_) (fun _=>?_)
  refine Cc (fun _=>⟨_,rfl,by simp⟩) (fun _=>?_)
  refine Cc (fun _=>⟨_,rfl,by simp⟩) (fun _=>?_)
  refine Ao hb ?_
  exact EM (fun _=>⟨_,rfl,by simp⟩) (fun _=>⟨_,rfl,fun _=>⟨by simp only;omega,Int.le_refl _,by omega⟩⟩)
  refine EM (fun _=>⟨_,rfl,by simp⟩) (fun _=>?_)
  refine Ar (fun _=>?_) (fun _=>?_)
  refine Ar (fun _=>⟨_,rfl,by simp⟩) (fun _=>?_)
  refine Ar (fun _=>⟨_,rfl,by simp⟩) (fun _=>?_)
  refine Cc (fun _=>⟨_,rfl,by simp⟩) (fun _=>?_)
  obtain⟨y,hy,_⟩:=Hu (l:=q.quants) (i:=x.a) (by omega) (by omega)
  rw[B5 hy (by omega)]
  exact⟨_,rfl,fun _=>⟨by simp only;omega,Int.le_refl _,by omega⟩⟩
  refine Ar (fun _=>?_) (fun _=>?_)
  refine Ar (fun _=>⟨_,rfl,by simp⟩) (fun _=>?_)
  refine Ar (fun _=>⟨_,rfl,by simp⟩) (fun _=>?_)
  refine Cc (fun _=>⟨_,rfl,by simp⟩) (fun _=>?_)
  obtain⟨y,hy,_⟩:=Hu (l:=q.frees) (i:=x.a) (by omega) (by omega)
  rw[B5 hy (by omega)]
  exact⟨_,rfl,fun _=>⟨by simp only;omega,Int.le_refl _,by omega⟩⟩
  refine Ar (fun _=>⟨_,rfl,by simp⟩) (fun _=>?_)
  refine Ar (fun _=>⟨_,rfl,by simp⟩) (fun _=>?_)
  obtain⟨r5,h5,p5⟩:=ih (i-1) (by omega) (by omega) (by omega)
  refine Ao h5 ?_
  refine Ar (fun _=>?_) (fun _=>?_)
  refine Ar (fun _=>⟨_,rfl,by simp⟩) (fun hk=>?_)
  refine Cc (fun _=>⟨_,rfl,by simp⟩) (fun _=>?_)
  refine Cc (fun _=>⟨_,rfl,by simp⟩) (fun _=>?_)
  obtain⟨r6,h6,_⟩:=aR0 x.op r5.1 r5.1
  refine Ao h6 ?_
  have:=p5 hk
  exact⟨_,rfl,fun _=>by simp only;omega⟩
  refine Ar (fun _=>⟨_,rfl,by simp⟩) (fun hk=>?_)
  have hp:=p5 hk
  have e2:AA .sub .i64 r5.2.2 1=r5.2.2-1:=TJ (by omega) (by omega)
  rw[e2]
  refine Cc (fun _=>⟨_,rfl,by simp⟩) (fun _=>?_)
  refine Cc (fun _=>⟨_,rfl,by simp⟩) (fun _=>?_)
  obtain⟨r7,h7,p7⟩:=ih (r5.2.2-1) (by omega) (by omega) (by omega)
  refine Ao h7 ?_
  obtain⟨r8,h8,p8⟩:=aR0 x.op r7.1 r5.1
  refine Ao h8 ?_
  refine⟨_,rfl,fun h=>?_⟩
  have:=p7 (p8 h)
  simp only;omega
theorem Te(q:AD)(hq:q.nodes.length<=2048)(f i:Int)(hi: -9223372036854775808<=i/\i<=9223372036854775807):∃r,Qi q f i=some r/\(r.1≠0->0<=i/\i<q.nodes.length):=by
 unfold Qi Yu;by_cases h:0<=i/\i<q.nodes.length;obtain⟨r,hr,_⟩:=QT q hq 100000 i (by omega) (by omega) (by omega);refine Ao hr ?_;refine Ar (fun _=>⟨_,rfl,by simp⟩) (fun _=>?_);exact Cc (fun _=>⟨_,rfl,by simp⟩) (fun _=>⟨_,rfl,fun _=>h⟩);have hz:ZY 100000 q i=some (0,0,0):=by show ZX (ZY 99999) q i=_;unfold ZX;rw[De,De];split;rfl;rw[if_pos (by omega)]
 refine Ao hz ?_;exact⟨(0,0),by simp[AE],by simp⟩
theorem Mp(s:X5)(v:Int)(hs:s.args.length<=9223372036854775807):∃r,Z7 s v=some r:=by
 unfold Z7 aTs;obtain⟨t,ht,_⟩:=Am (step:=fun i=>JK v s i) s.args.length (fun _=>True) (fun _=>True)
  (fun i hi=>by
   obtain⟨x,hx,_⟩:=AQ hi;simp only[JK,ltD hx,AG,AL hx,Ah hx hs];simp only[Az];repeat' split
   all_goals first|exact .inl ⟨rfl,trivial⟩|exact .inr ⟨_,rfl,trivial⟩)
  (fun _=>⟨.inl (),by simp only[JK,ltI,AF],trivial⟩)
 rw[ht,AB];rcases t with _|_<;>exact⟨_,rfl⟩
theorem aDc(q:AD)(s:X5)(hs:s.args.length<=9223372036854775807)(hq:q.nodes.length<=2048)(f t:Int)(hf:0<=f)(ht:t<=q.nodes.length):∃r,Zn q s f t=some r:=by
 unfold Zn aT4;obtain⟨u,hu,_⟩:=Ap (step:=fun i=>JV t q s i) (fun i=>0<=i) (fun i=>(t-i).toNat) (fun _=>True)
  (by
   intro i hi;by_cases h:i<t
   ·obtain⟨x,hx,_⟩:=Hu (l:=q.nodes) (i:=i) hi (by omega);obtain⟨b,hb⟩:=Mp s x.a hs;simp only[JV,h,decide_true,AG,B5 hx hi,hb,AB,Mg (a:=i) (b:=1) (by omega) (by omega)];simp only[Az];repeat' split
    all_goals first|exact .inl ⟨_,rfl,trivial⟩|exact .inr ⟨_,rfl,by omega,by omega⟩
   exact .inl ⟨.inl (),by simp[JV,h,AE],trivial⟩)
  f hf
 rw[hu,AB];rcases u with _|_<;>exact⟨_,rfl⟩
def aWm(n:Int):Prop:= -9223372036854775808<=n/\n<=9223372036854775807
structure Mu(t:X6):Prop where
 guard:aWm t.guard
 sets:∀s∈t.sets,aWm s.expr
theorem aP6(q:AD)(hF:CY q)(t:X6)(hT:Mu t)(hts:t.sets.length<=12)(f:Int)(hf:0<=f)(hfl:f<=q.nodes.length):
 ∃r,Xn q t f=some r/\(r.2=true->0<=t.symbol/\t.symbol<q.symbols.length/\0<=r.1/\r.1<=q.nodes.length/\(t.guard= -1\/0<=t.guard)/\(0<=t.from_/\t.from_<q.states.length)/\0<=t.to/\t.to<q.states.length):=by
 have hn:q.nodes.length<=2048:=Nat.le_trans hF.nodes (by decide)
 have hfr:q.frees.length<=12:=hF.frees
 unfold Xn
 refine Ar (fun _=>⟨_,rfl,by simp⟩) (fun ha=>?_)
 refine Ar (fun _=>⟨_,rfl,by simp⟩) (fun hb=>?_)
 refine Ar (fun _=>⟨_,rfl,by simp⟩) (fun hc=>?_)
 refine Ar (fun _=>⟨_,rfl,by simp⟩) (fun hd=>?_)
 refine Ar (fun _=>⟨_,rfl,by simp⟩) (fun hs0=>?_)
 refine Ar (fun _=>⟨_,rfl,by simp⟩) (fun hs1=>?_)
 obtain⟨o2,h2,p2⟩:∃o,SC f f (!decide (t.guard=(-1))) q t=some o/\∀x,o=.inl x->0<=x/\x<=q.nodes.length/\(t.guard= -1\/0<=t.guard):=by unfold SC;refine Cc (fun _=>?_) (fun hg=>⟨_,rfl,fun x hx=>by cases hx;exact⟨hf,hfl,.inl hg⟩⟩);obtain⟨r1,h1,p1⟩:=Te q hn f t.guard hT.guard;refine Ao h1 ?_;refine Cc (fun _=>⟨_,rfl,by simp⟩) (fun h3=>?_);refine Ar (fun _=>⟨_,rfl,by simp⟩) (fun _=>?_);have:=p1 (by omega);refine⟨_,rfl,fun x hx=>?_⟩;cases hx;refine⟨?_,?_,.inr this.1⟩<;>(rw[Mg (by omega) (by omega)];omega)
 refine Ao h2 ?_
 rcases o2 with o3|_
 have h3:=p2 o3 rfl
 rw[BY]
 unfold SD
 obtain⟨u,hu,pu⟩:=Ap (step:=fun s:Int×Int=>EH f q t s.1 s.2) (fun s=>∃i:Nat,s.2=(i:Int)/\i<=t.sets.length/\0<=s.1/\s.1<=q.nodes.length) (fun s=>(t.sets.length-s.2).toNat)
  (fun o=>∀x,o=.inl x->0<=x/\x<=q.nodes.length)
  (by
   rintro⟨w,s⟩ ⟨i,rfl,hi,hw0,hw1⟩;simp only at hw0 hw1⊢;by_cases he:i=t.sets.length;subst he;exact .inl ⟨.inl w,by simp only[EH,ltI,AF],fun x hx=>by cases hx;exact⟨hw0,hw1⟩⟩;obtain⟨x,hx,_⟩:=AQ (l:=t.sets) (i:=i) (by omega);obtain⟨r6,h6,p6⟩:=Te q hn w x.expr (hT.sets x (List.mem_of_getElem? hx));have h6':Qi q w x.expr=some r6:=h6;simp only[EH,ltD hx,AG,AL hx,h6',AB,Ah hx (show t.sets.length<=9223372036854775807 by omega)];by_cases g1:x.free<0;exact .inl ⟨.inr (),by simp[g1,AE],by simp⟩;by_cases g2:(q.frees.length:Int)<=x.free;exact .inl ⟨.inr (),by simp[g1,g2,AE],by simp⟩;by_cases g3:r6.1=0;exact .inl ⟨.inr (),by simp[g1,g2,g3,AE],by simp⟩;by_cases g4:64<r6.2;exact .inl ⟨.inr (),by simp[g1,g2,g3,g4,AE],by simp⟩;obtain⟨y,hy,_⟩:=Hu (l:=q.frees) (i:=x.free) (by omega) (by omega);by_cases g5:r6.1=y.init_.kind;obtain⟨t3,e3,_⟩:=Am (step:=fun s=>Io f (i:Int) q t x s) i (fun _=>True) (fun _=>True)
    (fun j hj=>by
     obtain⟨z,hz,_⟩:=AQ (l:=t.sets) (i:=j) (by omega);have hlt:decide ((j:Int)<(i:Int))=true:=by simp;omega
     simp only[Io,hlt,AG,AL hz,Ah hz (show t.sets.length<=9223372036854775807 by omega)];simp only[Az];split;exact .inr ⟨_,rfl,trivial⟩;exact .inl ⟨rfl,trivial⟩)
    (fun _=>⟨.inl (),by simp only[Io,ltI,AF],trivial⟩)
   have e3':aSp f (i:Int) q t x 0=some t3:=e3;have hp:=p6 g3;rcases t3 with _|_
   refine .inr ⟨(AA .add .i64 x.expr 1,((i+1:Nat):Int)),?_,⟨i+1,rfl,by omega,?_,?_⟩,by simp only;omega⟩;rw[De,if_neg g1,De,if_neg g2,De,if_neg g3,De,if_neg g4,B5 hy (show 0<=x.free by omega)];simp only[g5,decide_true,Bool.not_true,AF,e3',AB,BY];simp only;rw[Mg (by omega) (by omega)];omega;simp only;rw[Mg (by omega) (by omega)];omega;refine .inl ⟨.inr (),?_,by simp⟩;rw[De,if_neg g1,De,if_neg g2,De,if_neg g3,De,if_neg g4,B5 hy (show 0<=x.free by omega)];simp only[g5,decide_true,Bool.not_true,AF,e3',AB,D8];refine .inl ⟨.inr (),?_,by simp⟩;rw[De,if_neg g1,De,if_neg g2,De,if_neg g3,De,if_neg g4,B5 hy (show 0<=x.free by omega)];simp only[g5,decide_false,Bool.not_false,AG])
  (o3,(0:Int)) ⟨0,rfl,by omega,h3.1,h3.2.1⟩
 refine Ao hu ?_
 rcases u with o13|_
 rw[BY]
 have h13:=pu o13 rfl
 obtain⟨x,hx,_⟩:=Hu (l:=q.symbols) (i:=t.symbol) (by omega) (by omega)
 rw[B5 hx (by omega)]
 obtain⟨r16,h16⟩:=aDc q x (Nat.le_trans (hF.args x (List.mem_of_getElem? hx)) (by decide)) hn f o13 hf h13.2
 refine Ao h16 ⟨_,rfl,fun _=>⟨by omega,by omega,h13.1,h13.2,h3.2.2,⟨by omega,by omega⟩,by omega,by omega⟩⟩
 exact⟨_,rfl,by simp⟩
 exact⟨_,rfl,by simp⟩
structure TX(q:AD)(a:CN):Prop where
 two:a.kind=2->0<=a.n/\a.n<q.quants.length
 three:a.kind=3->0<=a.n/\a.n<q.frees.length
 one:a.kind=1->vR a.value=true
theorem aZy(q:AD)(a:CN)(k:Int):∃r,Qx q a k=some r/\(r=true->TX q a):=by unfold Qx;have hb:=aA0 a.value;refine Ar (fun h=>?_) (fun h1=>?_);have ho:vR a.value=true->TX q a:=fun hv=>⟨fun h2=>by omega,fun h2=>by omega,fun _=>hv⟩;refine Ar (fun _=>?_) (fun _=>⟨_,rfl,by simp⟩);refine Ao hb ?_;exact K7 (fun hv=>⟨_,rfl,fun _=>ho hv⟩) (fun _=>⟨_,rfl,by simp⟩);refine EM (fun _=>⟨_,rfl,by simp⟩) (fun _=>?_);refine Ar (fun h2=>?_) (fun h2=>?_);refine Ar (fun h3=>?_) (fun _=>⟨_,rfl,by simp⟩);refine Ar (fun h4=>?_) (fun _=>⟨_,rfl,by simp⟩);obtain⟨y,hy,_⟩:=Hu h3 h4;rw[B5 hy h3];exact⟨_,rfl,fun _=>⟨fun _=>⟨h3,h4⟩,fun h=>by omega,fun h=>by omega⟩⟩;refine Ar (fun h5=>?_) (fun h5=>?_);refine Ar (fun h3=>?_) (fun _=>⟨_,rfl,by simp⟩);refine Ar (fun h4=>?_) (fun _=>⟨_,rfl,by simp⟩);obtain⟨y,hy,_⟩:=Hu h3 h4;rw[B5 hy h3];exact⟨_,rfl,fun _=>⟨fun h=>by omega,fun _=>⟨h3,h4⟩,fun h=>by omega⟩⟩;exact Ar (fun _=>⟨_,rfl,fun _=>⟨fun h=>by omega,fun h=>by omega,fun h=>by omega⟩⟩) (fun _=>⟨_,rfl,by simp⟩)
structure Tx(q:AD)(s:X5):Prop where
 event:0<=s.event
 decl:∃d,q.decls[s.event.toNat]? =some d/\s.args.length=d.types.length
 args:∀a∈s.args,TX q a
theorem bCx(q:AD)(s:X5)(hs:s.args.length<=12):∃r,Zi q s=some r/\(r=true->Tx q s):=by
 unfold Zi;refine Ar (fun _=>⟨_,rfl,by simp⟩) (fun h0=>?_);refine Ar (fun _=>⟨_,rfl,by simp⟩) (fun h1=>?_);obtain⟨d,hd,_⟩:=Hu (l:=q.decls) (i:=s.event) (by omega) (by omega);rw[B5 hd (by omega)];refine Cc (fun _=>⟨_,rfl,by simp⟩) (fun h2=>?_);obtain⟨t,ht,hQ⟩:=Am (step:=fun i=>JT q s i) s.args.length (fun i=>∀a,s.args[i]? =some a->TX q a) (fun t=>t=.inl ()->∀a∈s.args,TX q a)
  (fun i hi=>by
   obtain⟨x,hx,_⟩:=AQ hi;obtain⟨y,hy,_⟩:=AQ (l:=d.types) (i:=i) (by omega);obtain⟨b,hb,hbo⟩:=aZy q x y;simp only[JT,ltD hx,AG,AL hx,B5 hd (show 0<=s.event by omega),AL hy,hb,AB,Ah hx (show s.args.length<=9223372036854775807 by omega)];cases b with
   |false=>exact .inr ⟨_,rfl,by simp⟩
   |true=>exact .inl ⟨rfl,fun a ha=>by rw[hx]at ha;cases ha;exact hbo rfl⟩)
  (fun hP=>⟨.inl (),by simp only[JT,ltI,AF],fun _=>Eg hP⟩)
 refine Ao ht ?_;rcases t with _|_
 exact⟨_,rfl,fun _=>⟨by omega,⟨d,hd,by omega⟩,hQ rfl⟩⟩;exact⟨_,rfl,by simp⟩
theorem KW(a b:X5)(ha:a.args.length<=9223372036854775807):∃r,Zx a b=some r:=by
 unfold Zx;refine KQ ?_;refine Cc (fun _=>⟨_,rfl,trivial⟩) (fun _=>?_);refine Cc (fun _=>⟨_,rfl,trivial⟩) (fun h=>?_);obtain⟨t,ht,_⟩:=Am (step:=fun i=>Je a b i) a.args.length (fun _=>True) (fun _=>True)
  (fun i hi=>by obtain⟨x,hx,_⟩:=AQ hi;obtain⟨y,hy,_⟩:=AQ (l:=b.args) (i:=i) (by omega);simp only[Je,ltD hx,AG,AL hx,AL hy,Ah hx ha];simp only[Az];split;exact .inr ⟨_,rfl,trivial⟩;exact .inl ⟨rfl,trivial⟩)
  (fun _=>⟨.inl (),by simp only[Je,ltI,AF],trivial⟩)
 refine Ao ht ?_;rcases t with _|_<;>exact⟨_,rfl,trivial⟩
theorem bA4(q:AD)(hF:CY q)(hT:∀t∈q.trans,0<=t.symbol/\t.symbol<q.symbols.length):∃r,Xb q=some r/\(r=true->∀s∈q.symbols,Tx q s):=by
 have hsy:=hF.symbols;have htr:=hF.trans;have hqu:=hF.quants;unfold Xb;rw[Aj ⟨by omega,B2 (by omega) (by decide)⟩];obtain⟨o9,h9,hl9⟩:=Ap (step:=fun s:Int×List Bool×List Int=>IT q s.1 s.2.1 s.2.2) (fun s=>∃i:Nat,s.1=(i:Int)/\i<=q.trans.length/\s.2.1.length=q.symbols.length/\s.2.2.length<=i) (fun s=>(q.trans.length-s.1).toNat) (fun o=>o.length<=12)
  (by
   rintro⟨s,u,w⟩ ⟨i,rfl,hi,hu,hw⟩;simp only at hu hw⊢;by_cases he:i=q.trans.length;subst he;exact .inl ⟨w,by simp only[IT,ltI,AF],by omega⟩;obtain⟨x,hx,_⟩:=AQ (l:=q.trans) (i:=i) (by omega);have hxs:=hT x (List.mem_of_getElem? hx);obtain⟨y,hy,_⟩:=Hu (l:=u) (i:=x.symbol) hxs.1 (by omega);have hb5:∃w',Uw (i:Int) x.symbol (!y) q u w=some w'/\w'.length<=i+1:=by unfold Uw;refine EM (fun _=>?_) (fun _=>⟨_,rfl,by omega⟩);rw[Ff (by simp;omega) (by decide)];exact⟨_,rfl,by simpa using hw⟩
   obtain⟨w',hb,hw'⟩:=hb5;refine .inr ⟨(((i+1:Nat):Int),u.set x.symbol.toNat true,w'),?_,⟨i+1,rfl,by omega,by simpa using hu,hw'⟩,by simp only;omega⟩;simp only[IT,ltD hx,AG,Ah hx (show q.trans.length<=9223372036854775807 by omega)];unfold aHd;rw[AL hx,Aj (by omega),B5 hy hxs.1,hb,AB,Aj (by omega),Aj (by omega)];rfl)
  ((0:Int),List.replicate (q.symbols.length:Int).toNat false,([]:List Int)) ⟨0,rfl,by omega,by simp,by simp⟩
 refine Ao h9 ?_;obtain⟨t1,e1,_⟩:=Am (step:=fun s=>IU q o9 s) o9.length (fun _=>True) (fun _=>True)
  (fun i hi=>by obtain⟨x,hx,_⟩:=AQ hi;simp only[IU,ltD hx,AG,AL hx,Ah hx (show o9.length<=9223372036854775807 by omega)];simp only[Az];split;exact .inr ⟨_,rfl,trivial⟩;exact .inl ⟨rfl,trivial⟩)
  (fun _=>⟨.inl (),by simp only[IU,ltI,AF],trivial⟩)
 refine Ao e1 ?_;rcases t1 with _|_
 case inr=>exact⟨_,rfl,by simp⟩
 rw[BY];have hsl:q.symbols.length<=9223372036854775807:=by omega
 obtain⟨t2,e2,Q2⟩:=Am (step:=fun s=>IV q s) q.symbols.length (fun i=>∀s,q.symbols[i]? =some s->Tx q s) (fun t=>t=.inl ()->∀s∈q.symbols,Tx q s)
  (fun i hi=>by
   obtain⟨x,hx,_⟩:=AQ hi;have hxa:=hF.args x (List.mem_of_getElem? hx);obtain⟨b,hb,hbo⟩:=bCx q x hxa;simp only[IV,ltD hx,AG,AL hx,hb,AB,Ah hx hsl];cases b with
   |false=>exact .inr ⟨_,rfl,by simp⟩
   |true=>
    simp only[Bool.not_true,AF]
    obtain⟨t3,e3,_⟩:=Am (step:=fun s=>IW (i:Int) q s) i (fun _=>True) (fun _=>True)
     (fun j hj=>by
      obtain⟨y,hy,_⟩:=AQ (l:=q.symbols) (i:=j) (by omega);obtain⟨c,hc⟩:=KW x y (by omega);have hlt:decide ((j:Int)<(i:Int))=true:=by simp;omega
      simp only[IW,hlt,AG,AL hx,AL hy,hc,AB,Ah hy hsl];simp only[Az];split;exact .inr ⟨_,rfl,trivial⟩;exact .inl ⟨rfl,trivial⟩)
     (fun _=>⟨.inl (),by simp only[IW,ltI,AF],trivial⟩)
    unfold aSc
    rw[e3,AB]
    rcases t3 with _|_
    exact .inl ⟨rfl,fun s hs=>by rw[hx]at hs;cases hs;exact hbo rfl⟩
    exact .inr ⟨_,rfl,by simp⟩)
  (fun hP=>⟨.inl (),by simp only[IV,ltI,AF],fun _=>Eg hP⟩)
 refine Ao e2 ?_;rcases t2 with _|_
 case inr=>exact⟨_,rfl,by simp⟩
 rw[BY];obtain⟨t4,e4,_⟩:=Am (step:=fun s=>IX q s) q.quants.length (fun _=>True) (fun _=>True)
  (fun i hi=>by
   have hlt:decide ((i:Int)<(q.quants.length:Int))=true:=by simp;omega
   obtain⟨o,ho,_⟩:=Ap (step:=fun s:Bool×Int=>FX (i:Int) q s.1 s.2) (fun s=>∃j:Nat,s.2=(j:Int)/\j<=q.symbols.length) (fun s=>(q.symbols.length-s.2).toNat) (fun _=>True)
    (by
     rintro⟨b,s⟩ ⟨j,rfl,hj⟩;simp only;by_cases he:j=q.symbols.length;subst he;exact .inl ⟨b,by simp only[FX,ltI,AF],trivial⟩;obtain⟨x,hx,_⟩:=AQ (l:=q.symbols) (i:=j) (by omega);have hxa:=hF.args x (List.mem_of_getElem? hx);obtain⟨c,hc⟩:=Mp x (i:Int) (by omega);have hc':Z7 x (i:Int)=some c:=hc;cases b with
     |true=>exact .inr ⟨(true,((j+1:Nat):Int)),by simp only[FX,ltD hx,AG,Ah hx hsl],⟨j+1,rfl,by omega⟩,by simp only;omega⟩
     |false=>exact .inr ⟨(c,((j+1:Nat):Int)),by simp only[FX,ltD hx,AG,AF,AL hx,hc',AB,Ah hx hsl],⟨j+1,rfl,by omega⟩,by simp only;omega⟩)
    (false,(0:Int)) ⟨0,rfl,by omega⟩
   have ho':Ux (i:Int) q false 0=some o:=ho;simp only[IX,hlt,AG,ho',AB,KN (show i<9223372036854775807 by omega)];simp only[Az];split;exact .inr ⟨_,rfl,trivial⟩;exact .inl ⟨rfl,trivial⟩)
  (fun _=>⟨.inl (),by simp only[IX,ltI,AF],trivial⟩)
 refine Ao e4 ?_;rcases t4 with _|_
 exact⟨_,rfl,fun _=>Q2 rfl⟩;exact⟨_,rfl,by simp⟩
theorem N3(l:List (List UInt8))(at':Nat)(h:at'<l.length)(hl:l.length<=9223372036854775807):∃r,Zh l (at':Int)=some r:=by
 unfold Zh;refine KQ ?_;obtain⟨y,hy,_⟩:=AQ h;obtain⟨t,ht,_⟩:=Am (step:=fun i=>JS l (at':Int) i) at' (fun _=>True) (fun _=>True)
  (fun i hi=>by
   obtain⟨x,hx,_⟩:=AQ (l:=l) (i:=i) (by omega);have hlt:decide ((i:Int)<(at':Int))=true:=by simp;omega
   simp only[JS,hlt,AG,AL hx,AL hy,Ah hx hl];simp only[Az];split;exact .inr ⟨_,rfl,trivial⟩;exact .inl ⟨rfl,trivial⟩)
  (fun _=>⟨.inl (),by simp only[JS,ltI,AF],trivial⟩)
 refine Ao ht ?_;rcases t with _|_<;>exact⟨_,rfl,trivial⟩
theorem aXk(q:AD)(hF:CY q):∃r,Xk q=some r:=by
 have h1:=hF.quants;have h2:=hF.frees;have h3:=hF.states;unfold Xk;refine KQ ?_;obtain⟨o7,e7,p7⟩:=Ap (step:=fun s:Int×List (List UInt8)=>Ii q s.1 s.2) (fun s=>∃i:Nat,s.1=(i:Int)/\i<=q.quants.length/\s.2.length<=i) (fun s=>(q.quants.length-s.1).toNat) (fun o=>∀w,o=.inl w->w.length<=9)
  (by rintro⟨s,w⟩ ⟨i,rfl,hi,hw⟩;simp only at hw⊢;by_cases he:i=q.quants.length;subst he;exact .inl ⟨.inl w,by simp only[Ii,ltI,AF],fun w' hw'=>by cases hw';omega⟩;obtain⟨x,hx,_⟩:=AQ (l:=q.quants) (i:=i) (by omega);simp only[Ii,ltD hx,AG,AL hx,Ah hx (show q.quants.length<=9223372036854775807 by omega)];rw[Ff (by simp;omega) (by decide)];simp only[Az];split;exact .inl ⟨_,rfl,by simp⟩;split;exact .inl ⟨_,rfl,by simp⟩;exact .inr ⟨_,rfl,⟨i+1,rfl,by omega,by simpa using hw⟩,by simp only;omega⟩)
  ((0:Int),([]:List (List UInt8))) ⟨0,rfl,by omega,by simp⟩
 refine Ao e7 ?_;rcases o7 with o8|_
 case inr=>exact⟨_,rfl,trivial⟩
 rw[BY];have hw8:=p7 o8 rfl;obtain⟨o13,e13,p13⟩:=Ap (step:=fun s:Int×List (List UInt8)=>Ij q s.1 s.2) (fun s=>∃i:Nat,s.1=(i:Int)/\i<=q.frees.length/\s.2.length<=9+i) (fun s=>(q.frees.length-s.1).toNat) (fun o=>∀w,o=.inl w->w.length<=21)
  (by rintro⟨s,w⟩ ⟨i,rfl,hi,hw⟩;simp only at hw⊢;by_cases he:i=q.frees.length;subst he;exact .inl ⟨.inl w,by simp only[Ij,ltI,AF],fun w' hw'=>by cases hw';omega⟩;obtain⟨x,hx,_⟩:=AQ (l:=q.frees) (i:=i) (by omega);obtain⟨b,hb⟩:=aQl x.init_;simp only[Ij,ltD hx,AG,AL hx,hb,AB,Ah hx (show q.frees.length<=9223372036854775807 by omega)];rw[Ff (by simp;omega) (by decide)];simp only[Az];split;exact .inl ⟨_,rfl,by simp⟩;exact .inr ⟨_,rfl,⟨i+1,rfl,by omega,by simp;omega⟩,by simp only;omega⟩)
  ((0:Int),o8) ⟨0,rfl,by omega,by simpa using hw8⟩
 refine Ao e13 ?_;rcases o13 with o14|_
 case inr=>exact⟨_,rfl,trivial⟩
 rw[BY];have hw14:=p13 o14 rfl;obtain⟨t,ht,_⟩:=Am (step:=fun i=>Ik q o14 i) o14.length (fun _=>True) (fun _=>True)
  (fun i hi=>by
   obtain⟨x,hx,_⟩:=AQ hi;obtain⟨b,hb⟩:=QK x;obtain⟨c,hc⟩:=N3 o14 i hi (by omega);simp only[Ik,ltD hx,AG,AL hx,hb,hc,AB,Ah hx (show o14.length<=9223372036854775807 by omega)];simp only[Az];repeat' split
   all_goals first|exact .inl ⟨rfl,trivial⟩|exact .inr ⟨_,rfl,trivial⟩)
  (fun _=>⟨.inl (),by simp only[Ik,ltI,AF],trivial⟩)
 refine Ao ht ?_;rcases t with _|_
 case inr=>exact⟨_,rfl,trivial⟩
 rw[BY];obtain⟨o30,e30,_⟩:=Ap (step:=fun s:Int×List (List UInt8)=>Il q s.1 s.2) (fun s=>∃i:Nat,s.1=(i:Int)/\i<=q.states.length/\s.2.length=i) (fun s=>(q.states.length-s.1).toNat) (fun _=>True)
  (by
   rintro⟨s,w⟩ ⟨i,rfl,hi,hw⟩;simp only at hw⊢;by_cases he:i=q.states.length;subst he;exact .inl ⟨.inl (),by simp only[Il,ltI,AF],trivial⟩;obtain⟨x,hx,_⟩:=AQ (l:=q.states) (i:=i) (by omega);have hg:(w++[x.name])[i]? =some x.name:=by rw[<-hw];simp
   obtain⟨b,hb⟩:=QK x.name;obtain⟨c,hc⟩:=N3 (w++[x.name]) i (by simp;omega) (by simp;omega);simp only[Il,ltD hx,AG,AL hx,Ah hx (show q.states.length<=9223372036854775807 by omega)];rw[Ff (by simp;omega) (by decide),AL hg,hb,AB,hc];simp only[AB,Az];split;exact .inl ⟨_,rfl,trivial⟩;split;exact .inl ⟨_,rfl,trivial⟩;exact .inr ⟨_,rfl,⟨i+1,rfl,by omega,by simp;omega⟩,by simp only;omega⟩)
  ((0:Int),([]:List (List UInt8))) ⟨0,rfl,by omega,by simp⟩
 refine Ao e30 ?_;rcases o30 with _|_
 obtain⟨b,hb⟩:=QK q.name;rw[BY];exact Ao hb ⟨_,rfl,trivial⟩;exact⟨_,rfl,trivial⟩
structure AY(q:AD):Prop where
 decls:OD q.decls
 quants:q.quants.length<=8
 symbols:∀s∈q.symbols,Tx q s
 guards:∀t∈q.trans,t.guard= -1\/0<=t.guard
 ends : ∀ t ∈ q.trans, (0 <= t.symbol /\ t.symbol < q.symbols.length) /\ (0 <= t.from_ /\ t.from_ < q.states.length) /\ 0 <= t.to /\ t.to < q.states.length
 fires:∀t∈q.trans,∃f r,Xn q t f=some (r,true)
theorem bCi(q:AD)(hF:CY q)(hW:∀t∈q.trans,Mu t):∃r,Yx q=some r/\(r=true->AY q):=by
 have h1:=hF.decls;have h2:=hF.trans;unfold Yx;obtain⟨r1,e1,p1⟩:=bB0 q.decls (by omega);refine Ao e1 ?_;refine Cc (fun _=>⟨_,rfl,by simp⟩) (fun hz=>?_);refine Ar (fun _=>⟨_,rfl,by simp⟩) (fun hq=>?_);refine Ar (fun _=>⟨_,rfl,by simp⟩) (fun _=>?_);refine Ar (fun _=>⟨_,rfl,by simp⟩) (fun _=>?_);refine Ar (fun _=>⟨_,rfl,by simp⟩) (fun _=>?_);refine Ar (fun _=>⟨_,rfl,by simp⟩) (fun _=>?_);refine Ar (fun _=>⟨_,rfl,by simp⟩) (fun _=>?_);refine Ar (fun _=>⟨_,rfl,by simp⟩) (fun _=>?_);refine Ar (fun _=>⟨_,rfl,by simp⟩) (fun _=>?_);obtain⟨r2,e2⟩:=aXk q hF;refine Ao e2 ?_;refine EM (fun _=>⟨_,rfl,by simp⟩) (fun _=>?_);obtain⟨o5,e5,p5⟩:=Ap (step:=fun s:Int×Int=>JH q s.1 s.2) (fun s=>∃i:Nat,s.2=(i:Int)/\i<=q.trans.length/\0<=s.1/\s.1<=q.nodes.length/\∀j,j<i->∀t,q.trans[j]? =some t->0<=t.symbol/\t.symbol<q.symbols.length/\(t.guard= -1\/0<=t.guard)/\(0<=t.from_/\t.from_<q.states.length)/\0<=t.to/\t.to<q.states.length/\∃f r,Xn q t f=some (r,true)) (fun s=>(q.trans.length-s.2).toNat)
  (fun o=>∀w,o=.inl w->∀t∈q.trans,0<=t.symbol/\t.symbol<q.symbols.length/\(t.guard= -1\/0<=t.guard)/\(0<=t.from_/\t.from_<q.states.length)/\0<=t.to/\t.to<q.states.length/\∃f r,Xn q t f=some (r,true))
  (by
   rintro⟨w,s⟩ ⟨i,rfl,hi,hw0,hw1,hP⟩;simp only at hw0 hw1 hP⊢;by_cases he:i=q.trans.length;subst he;exact .inl ⟨.inl w,by simp only[JH,ltI,AF],fun _ _=>Eg hP⟩;obtain⟨x,hx,_⟩:=AQ (l:=q.trans) (i:=i) (by omega);have hxm:=List.mem_of_getElem? hx;obtain⟨r4,e4,p4⟩:=aP6 q hF x (hW x hxm) (hF.sets x hxm) w hw0 hw1;simp only[JH,ltD hx,AG,AL hx,e4,AB,Ah hx (show q.trans.length<=9223372036854775807 by omega)];cases hb:r4.2 with
   |false=>exact .inl ⟨.inr (),rfl,by simp⟩
   |true=>
    have hp:=p4 hb
    refine .inr ⟨(r4.1,((i+1:Nat):Int)),rfl,⟨i+1,rfl,by omega,hp.2.2.1,hp.2.2.2.1,fun j hj t ht=>?_⟩,by simp only;omega⟩
    rcases Nat.lt_or_ge j i with h|h
    exact hP j h t ht
    have:j=i:=by omega
    subst this;rw[hx]at ht;cases ht;exact⟨hp.1,hp.2.1,hp.2.2.2.2.1,hp.2.2.2.2.2.1,hp.2.2.2.2.2.2.1,hp.2.2.2.2.2.2.2,w,r4.1,by rw[e4,<-hb]⟩)
  ((0:Int),(0:Int)) ⟨0,rfl,by omega,by simp,by simp,fun j hj=>by omega⟩
 refine Ao e5 ?_;rcases o5 with o6|_
 rw[BY];refine Ar (fun _=>?_) (fun _=>⟨_,rfl,by simp⟩);obtain⟨r8,e8,p8⟩:=bA4 q hF (fun t ht=>⟨(p5 o6 rfl t ht).1,(p5 o6 rfl t ht).2.1⟩);refine Ao e8 ⟨_,rfl,fun hr=>⟨p1 hz,by omega,p8 hr,fun t ht=>(p5 o6 rfl t ht).2.2.1,fun t ht=>⟨⟨(p5 o6 rfl t ht).1,(p5 o6 rfl t ht).2.1⟩,(p5 o6 rfl t ht).2.2.2.1,(p5 o6 rfl t ht).2.2.2.2.1,(p5 o6 rfl t ht).2.2.2.2.2.1⟩,fun t ht=>(p5 o6 rfl t ht).2.2.2.2.2.2⟩⟩;exact⟨_,rfl,by simp⟩
def aC3(a:List X0)(t:List Int):Bool:=decide (a.length=t.length)&&(a.zip t).all fun p=>decide (p.1.kind=p.2)&&vR p.1
def eR(l:List Xf)(e:X4):Bool:=match Ju l e.name with
 |none=>false
 |some i=>match l[i]? with
  |none=>false
  |some d=>aC3 e.args d.types
theorem bCz(l:List Xf)(e:X4)(hl:l.length<=9223372036854775807)(he:e.args.length<=9223372036854775807):Zj l e=some (eR l e):=by
 unfold Zj;rw[aX3 l _ hl,AB];unfold eR;cases hf:Ju l e.name with
 |none=>simp[AE]
 |some i=>
  obtain⟨d,hd,_⟩:=Sx hf
  dsimp only
  rw[De,if_neg (Int.not_lt.2 (Int.natCast_nonneg i)),AL hd,hd,Az,aD8]
  dsimp only
  unfold aC3
  by_cases hl2:d.types.length=e.args.length
  rw[if_neg (by simp[hl2])]
  unfold aT0
  have hz:(e.args.zip d.types).length=e.args.length:=by simp[hl2]
  rw[GY (e.args.zip d.types) (fun p=>decide (p.1.kind=p.2)&&vR p.1) (.inl ():Unit⊕Unit) (.inr ())
   (fun i z hz=>by obtain⟨hx,hy⟩:=aFq hz;simp only[Ll,ltD hx,AG,AL hx,AL hd,AL hy,aA0,AB,Ah hx he];by_cases h:z.1.kind=z.2<;>cases hv:vR z.1<;>simp[h,AE])
   (by rw[hz];simp only[Ll,ltI,AF]),AB]
  cases(e.args.zip d.types).all _<;>simp[Ba,hl2]
  rw[if_pos (by simp[hl2])]
  have:¬e.args.length=d.types.length:=fun h=>hl2 h.symm
  simp[this]

theorem bEy{i j:Nat}(h:i+j<4611686018427387904):IntKind.wrap .i64 (AA .shr .u64 (IntKind.wrap .u64 (AA .add .i64 (i:Int) (j:Int))) 1)=(((i+j)/2:Nat):Int):=by
 have e1:AA .add .i64 (i:Int) (j:Int)=((i+j:Nat):Int):=by rw[Mg (by omega) (by omega)];omega
 rw[e1,BC (by omega)];have e2:AA .shr .u64 (((i+j:Nat)):Int) 1=(((i+j)/2^1:Nat):Int):=bEh (n:=i+j) (k:=1) (by decide);rw[e2,Nat.pow_one,aV5 (by omega) (by omega)]
theorem aUu{step:Int×Int->Option ((Int×Int)⊕Int)}(n:Nat)(lt:Nat->Bool)
 (h1:∀i j:Nat,i<j->j<=n->step ((i:Int),(j:Int))=some (.inl (if lt ((i+j)/2)=true then((((i+j)/2+1:Nat):Int),(j:Int))else((i:Int),(((i+j)/2:Nat):Int)))))
 (h2:∀i:Nat,step ((i:Int),(i:Int))=some (.inr (i:Int))) (hm:∀a b,a<=b->b<n->lt b=true->lt a=true):
 ∃k:Nat,k<=n/\AR step (0,(n:Int))=some (k:Int)/\(∀a,a<k->lt a=true)/\∀a,k<=a->a<n->lt a=false:=by
 obtain⟨t,ht,k,hk,rfl,p1,p2⟩:=Ap (step:=step) (fun s=>∃i j:Nat,s=((i:Int),(j:Int))/\i<=j/\j<=n/\(∀a,a<i->lt a=true)/\∀a,j<=a->a<n->lt a=false) (fun s=>(s.2-s.1).toNat)
  (fun t=>∃k:Nat,k<=n/\t=(k:Int)/\(∀a,a<k->lt a=true)/\∀a,k<=a->a<n->lt a=false)
  (by
   rintro s ⟨i,j,rfl,hij,hj,q1,q2⟩;rcases Nat.lt_or_ge i j with h|h
   right;cases hl:lt ((i+j)/2)with
   |true=>
    refine⟨((((i+j)/2+1:Nat):Int),(j:Int)),by rw[h1 i j h hj,hl];rfl,⟨(i+j)/2+1,j,rfl,by omega,hj,fun a ha=>hm a ((i+j)/2) (by omega) (by omega) hl,q2⟩,by simp only;omega⟩
   |false=>
    refine⟨((i:Int),(((i+j)/2:Nat):Int)),by rw[h1 i j h hj,hl];rfl,⟨i,(i+j)/2,rfl,by omega,by omega,q1,fun a ha hn=>?_⟩,by simp only;omega⟩
    rcases Nat.lt_or_ge a j with g|g
    cases hla:lt a with
    |false=>rfl
    |true=>rw[hm ((i+j)/2) a ha hn hla]at hl;cases hl
    exact q2 a g hn
   have:i=j:=by omega
   subst this;exact .inl ⟨(i:Int),h2 i,i,hj,rfl,q1,q2⟩)
  (0,(n:Int)) ⟨0,n,rfl,by omega,Nat.le_refl _,fun a ha=>by omega,fun a ha hn=>by omega⟩
 exact⟨k,hk,ht,p1,p2⟩

def SV(w:List X2):Prop:=w.Pairwise (fun a b=>a.var<b.var)/\∀s∈w,0<=s.var/\s.var<=63
theorem Hf:∀{a b:List X2},a.Pairwise (fun x y=>x.var<y.var)->b.Pairwise (fun x y=>x.var<y.var)->(∀s,s∈a↔s∈b)->a=b
 |[],[],_,_,_=>rfl
 |[],y::b,_,_,h=>by have:=(h y).2 (by simp);simp at this
 |x::a,[],_,_,h=>by have:=(h x).1 (by simp);simp at this
 |x::a,y::b,ha,hb,h=>by
  obtain⟨ha1,ha2⟩:=List.pairwise_cons.1 ha;obtain⟨hb1,hb2⟩:=List.pairwise_cons.1 hb;have hxy:x=y:=by
   rcases mc.1 ((h x).1 (by simp))with e|e
   exact e;rcases mc.1 ((h y).2 (by simp))with e2|e2
   exact e2.symm;have:=hb1 x e;have:=ha1 y e2;omega
  subst hxy;congr 1;refine Hf ha2 hb2 fun s=>⟨fun hs=>?_,fun hs=>?_⟩;rcases mc.1 ((h s).1 (List.mem_cons_of_mem _ hs))with e|e
  subst e;have:=ha1 s hs;omega;exact e;rcases mc.1 ((h s).2 (List.mem_cons_of_mem _ hs))with e|e
  subst e;have:=hb1 s hs;omega;exact e
def O3:List X2->X2->List X2
 |[],x=> [x]
 |y::l,x=>if x.var<y.var then x::y::l else y::O3 l x
theorem EX:∀(l:List X2) (x s:X2),s∈O3 l x↔s=x\/s∈l
 |[],x,s=>by simp[O3]
 |y::l,x,s=>by
  unfold O3;split;simp;rw[mc,EX l x s,mc];constructor;rintro(h|h|h)<;>simp[h];rintro(h|h|h)<;>simp[h]
theorem GD:∀(l:List X2) (x:X2),l.Pairwise (fun a b=>a.var<b.var)->(∀s∈l,s.var≠x.var)->(O3 l x).Pairwise (fun a b=>a.var<b.var)
 |[],x,_,_=>by simp[O3]
 |y::l,x,h,hn=>by
  obtain⟨h1,h2⟩:=List.pairwise_cons.1 h;unfold O3;split;rename_i hxy;refine List.pairwise_cons.2 ⟨fun s hs=>?_,h⟩;rcases mc.1 hs with rfl|hs
  exact hxy;have:=h1 s hs;omega;rename_i hxy;refine List.pairwise_cons.2 ⟨fun s hs=>?_,GD l x h2 fun s hs=>hn s (List.mem_cons_of_mem _ hs)⟩;rcases(EX l x s).1 hs with rfl|hs
  have:=hn y (by simp);omega;exact h1 s hs
theorem RN:∀(l:List X2) (x:X2),(O3 l x).length=l.length+1
 |[],x=>rfl
 |y::l,x=>by unfold O3;split<;>simp[RN l x]
theorem Jx{l:List X2}{v:Int}(h:(D9 l v).2=false):∀s∈l,s.var≠v:=by
 intro s hs e;unfold D9 at h;cases hf:l.findSome? (fun s=>if s.var=v then some s.value else none)with
 |some x=>rw[hf]at h;cases h
 |none=>
  rw[List.findSome?_eq_none_iff]at hf
  have:=hf s hs
  simp[e]at this
theorem GC{l:List X2}(hl:l.Pairwise (fun a b=>a.var<b.var)){s:X2}(h:s∈l):D9 l s.var=(s.value,true):=by
 have key:∀(l:List X2),l.Pairwise (fun a b=>a.var<b.var)->s∈l->l.findSome? (fun t=>if t.var=s.var then some t.value else none)=some s.value:=by
  intro l;induction l with
  |nil=>intro _ h;simp at h
  |cons t l ih=>
   intro hp hs
   rw[List.findSome?_cons]
   obtain⟨h1,h2⟩:=List.pairwise_cons.1 hp
   rcases mc.1 hs with rfl|hs
   simp
   have:=h1 s hs
   rw[if_neg (by omega)]
   exact ih h2 hs
 unfold D9;rw[key l hl h]
def Nn(w:List X2)(x:X2):Option (List X2):=if(D9 w x.var).2=true then(if(D9 w x.var).1=x.value then some w else none)else some (O3 w x)
theorem KF{w w':List X2}{x:X2}(hw:SV w)(hx:0<=x.var/\x.var<=63)(h:Nn w x=some w'):SV w'/\w'.length<=w.length+1:=by
 unfold Nn at h;split at h;split at h;cases h;exact⟨hw,by omega⟩;cases h;rename_i hn;cases h;have hn':(D9 w x.var).2=false:=by simpa using hn
 refine⟨⟨GD w x hw.1 (Jx hn'),fun s hs=>?_⟩,by rw[RN];exact Nat.le_refl _⟩;rcases(EX w x s).1 hs with rfl|hs
 exact hx;exact hw.2 s hs
theorem aUz{w:List X2}{x:X2}(hw:w.Pairwise (fun a b=>a.var<b.var))(hn:∀s∈w,s.var≠x.var){k:Nat}(hk:k<=w.length)(h1:∀j s,w[j]? =some s->j<k->s.var<x.var)(h2:∀j s,w[j]? =some s->k<=j->x.var<s.var):
 w.take k++[x]++w.drop k=O3 w x:=by
 refine Hf ?_ (GD w x hw hn) fun s=>?_
 rw[List.append_assoc,List.singleton_append]
 have hd:∀s∈w.drop k,x.var<s.var:=fun s hs=>by obtain⟨j,hj,rfl⟩:=List.mem_iff_getElem.1 hs;rw[List.getElem_drop];exact h2 (k+j) _ (List.getElem?_eq_getElem (by simp at hj;omega)) (by omega)
 have htk:∀s∈w.take k,s.var<x.var:=fun s hs=>by obtain⟨j,hj,rfl⟩:=List.mem_iff_getElem.1 hs;rw[List.getElem_take];simp at hj;exact h1 j _ (List.getElem?_eq_getElem (by omega)) (by omega)
 refine List.pairwise_append.2 ⟨hw.sublist (List.take_sublist _ _),List.pairwise_cons.2 ⟨hd,hw.sublist (List.drop_sublist _ _)⟩,fun a ha b hb=>?_⟩
 rcases mc.1 hb with rfl|hb
 exact htk a ha
 have:=htk a ha;have:=hd b hb;omega
 rw[EX]
 have hw2:s∈w↔s∈w.take k\/s∈w.drop k:=by
  conv=>lhs;rw[<-List.take_append_drop k w]
  rw[ma]
 rw[hw2]
 simp only[ma,List.mem_singleton]
 constructor
 rintro((h|h)|h)<;>simp[h]
 rintro(h|h|h)<;>simp[h]
def GK:List CN->List X0->List X2->List X2->Option (List X2×List X2)
 |a::al,x::xs,b,f=>
  if a.kind=1 then(if a.value=x then GK al xs b f else none)
  else if a.kind=2 then(match Nn b ⟨a.n,x⟩with|none=>none|some b'=>GK al xs b' f)
  else if a.kind=3 then(match Nn f ⟨a.n,x⟩with|none=>none|some f'=>GK al xs b f')
  else GK al xs b f
 |_,_,b,f=>some (b,f)
def aZg(a:CN):Prop:=(a.kind=2->0<=a.n/\a.n<=7)/\(a.kind=3->0<=a.n/\a.n<=63)
def B7(b:List X2):Prop:=∀s∈b,s.var<=7
theorem aRb{w w':List X2}{x:X2}(hw:B7 w)(hx:x.var<=7)(h:Nn w x=some w'):B7 w':=by
 unfold Nn at h;split at h;split at h;cases h;exact hw;cases h;cases h;intro s hs;rcases(EX w x s).1 hs with rfl|hs
 exact hx;exact hw s hs
theorem HW:∀(al:List CN) (xs:List X0) (b f:List X2) (p:List X2×List X2),(∀a∈al,aZg a)->SV b->SV f->B7 b->GK al xs b f=some p->SV p.1/\SV p.2/\B7 p.1/\p.1.length<=b.length+al.length/\p.2.length<=f.length+al.length
 |[],xs,b,f,p,_,hb,hf,h7,h=>by simp only[GK]at h;cases h;exact⟨hb,hf,h7,by simp,by simp⟩
 |a::al,[],b,f,p,_,hb,hf,h7,h=>by simp only[GK]at h;cases h;exact⟨hb,hf,h7,by simp,by simp⟩
 |a::al,x::xs,b,f,p,hA,hb,hf,h7,h=>by
  have hA':∀a∈al,aZg a:=fun a h=>hA a (List.mem_cons_of_mem _ h);have hAa:=hA a (by simp);simp only[GK]at h;split at h;split at h;obtain⟨a1,a2,a3,a4,a5⟩:=HW al xs b f p hA' hb hf h7 h;exact⟨a1,a2,a3,by simp;omega,by simp;omega⟩;cases h;split at h;rename_i h2;split at h;cases h;rename_i b' hp;have hv:=hAa.1 h2;obtain⟨c1,c2⟩:=KF hb (x:=⟨a.n,x⟩) ⟨hv.1,by simp only;omega⟩ hp;obtain⟨a1,a2,a3,a4,a5⟩:=HW al xs b' f p hA' c1 hf (aRb h7 (by simp only;omega) hp) h;exact⟨a1,a2,a3,by simp;omega,by simp;omega⟩;split at h;rename_i h3;split at h;cases h;rename_i f' hp;have hv:=hAa.2 h3;obtain⟨c1,c2⟩:=KF hf (x:=⟨a.n,x⟩) hv hp;obtain⟨a1,a2,a3,a4,a5⟩:=HW al xs b f' p hA' hb c1 h7 h;exact⟨a1,a2,a3,by simp;omega,by simp;omega⟩;obtain⟨a1,a2,a3,a4,a5⟩:=HW al xs b f p hA' hb hf h7 h;exact⟨a1,a2,a3,by simp;omega,by simp;omega⟩
def aO0(a b:List X2):Bool:=a.all fun s=> !(D9 b s.var).2||decide ((D9 b s.var).1=s.value)
theorem bC1(a b:List X2)(ha:a.length<=9223372036854775807)(hb:b.length<=9223372036854775807):Zk a b=some (aO0 a b):=by
 unfold Zk aT1;rw[GY a (fun s=> !(D9 b s.var).2||decide ((D9 b s.var).1=s.value)) (.inl ():Unit⊕Unit) (.inr ())
  (fun i x hx=>by simp only[Lm,ltD hx,AG,AL hx,Ah hx ha,ZI b _ hb,AB,X0.eqb_dec];obtain⟨y,o⟩:=D9 b x.var;cases o;simp[AE];by_cases h:y=x.value<;>simp[AE,h])
  (by simp only[Lm,ltI,AF]),AB]
 unfold aO0;cases a.all _<;>rfl
theorem IC(x:X2)(v:Int):D9 [x] v=if x.var=v then(x.value,true)else(zV,false):=by unfold D9;by_cases h:x.var=v<;>simp[h]
def FU(a b:List X2)(v:Nat):Option X2:=
 if(D9 a v).2=true then some ⟨v,(D9 a v).1⟩else if(D9 b v).2=true then some ⟨v,(D9 b v).1⟩else none
def KT(a b:List X2):List X2:=(List.range 8).filterMap (FU a b)
theorem bB4(a b:List X2)(ha:a.length<=9223372036854775807)(hb:b.length<=9223372036854775807):Ya a b=some (KT a b):=by
 unfold Ya aTa;have hg:∀(l:List X2) (v:Int),l.length<=9223372036854775807->Ym l v=some (D9 l v):=fun l v hl=>ZI l v hl;have h:=Cm (step:=fun s:Int×List X2=>I6 a b s.1 s.2) (List.range 8) (fun w v=>w++(FU a b v).toList) (fun w=>w) (fun i w=>w.length<=i)
  (fun i x w hx hI=>by
   have hi:i<8:=by simpa using B3 hx
   have hxi:x=i:=by rw[List.getElem?_range hi]at hx;cases hx;rfl
   subst hxi;have hd:decide ((x:Int)<8)=true:=by simp;omega
   refine⟨?_,?_⟩;simp only[I6,hd,AG,aLe,hg a _ ha,hg b _ hb,AB,aLg,aLi,KN (show x<9223372036854775807 by omega),FU];rw[Ff (by simp;omega) (by decide),Ff (by simp;omega) (by decide)];cases(D9 a (x:Int)).2<;>cases(D9 b (x:Int)).2<;>simp[AE,AH];unfold FU;split;simpa using hI;split;simpa using hI;simp;omega)
  (fun w _=>by simp[I6,AE]) [] (by simp)
 rw[h,AB];congr 1;unfold KT;have key:∀(l:List Nat) (w:List X2),l.foldl (fun w v=>w++(FU a b v).toList) w=w++l.filterMap (FU a b):=by
  intro l;induction l with
  |nil=>intro w;simp
  |cons v l ih=>intro w;rw[List.foldl_cons,ih,List.filterMap_cons];cases FU a b v<;>simp
 rw[key];simp
theorem Hg{a b:List X2}{v:Nat}{s:X2}(h:FU a b v=some s):s.var=(v:Int):=by unfold FU at h;split at h;cases h;rfl;split at h;cases h;rfl;cases h
theorem Me(a b:List X2):(KT a b).Pairwise (fun x y=>x.var<y.var):=by
 unfold KT;have h8:(List.range 8).Pairwise (· < ·):=List.pairwise_lt_range
 rw[List.pairwise_filterMap];refine h8.imp fun{v w} hvw s hs t ht=>?_;have:=Hg hs;have:=Hg ht;omega
theorem TO{a b:List X2}{s:X2}:s∈KT a b↔0<=s.var/\s.var<=7/\(D9 a s.var=(s.value,true)\/(D9 a s.var).2=false/\D9 b s.var=(s.value,true)):=by
 unfold KT;rw[List.mem_filterMap];constructor;rintro⟨v,hv,h⟩;have hv8:v<8:=by simpa using hv
 have hsv:=Hg h;refine⟨by omega,by omega,?_⟩;rw[hsv];unfold FU at h;split at h;rename_i ha;cases h;left;simp only;rw[<-ha];rename_i ha;split at h;rename_i hb;cases h;right;exact⟨by simpa using ha,by simp only;rw[<-hb]⟩;cases h;rintro⟨h0,h7,h⟩;refine⟨s.var.toNat,by simp;omega,?_⟩;have e:((s.var.toNat:Nat):Int)=s.var:=by omega
 unfold FU;rw[e];rcases h with h|⟨h,h'⟩
 rw[h];simp;rw[h,h'];simp
theorem aO1{b:List X2}{x:X2}(hb:SV b):aO0 b [x]=(Nn b x).isSome:=by
 unfold aO0 Nn;cases hg:(D9 b x.var).2 with
 |true=>
  have hm:=Fj (l:=b) (v:=x.var) (x:=(D9 b x.var).1) (by rw[<-hg])
  by_cases hv:(D9 b x.var).1=x.value
  simp only[if_true,hv,Option.isSome_some]
  rw[List.all_eq_true]
  intro s hs
  rw[IC]
  by_cases h:x.var=s.var
  have:=GC hb.1 hs
  rw[<-h]at this
  rw[this]at hv
  simp[h,<-hv]
  simp[h]
  simp only[if_true,hv,if_false,Option.isSome_none]
  rw[List.all_eq_false]
  refine⟨_,hm,?_⟩
  rw[IC]
  simp
  exact fun h=>hv h.symm
 |false=>
  simp only[Bool.false_eq_true,if_false,Option.isSome_some]
  rw[List.all_eq_true]
  intro s hs
  rw[IC]
  have:=Jx hg s hs
  have h':¬x.var=s.var:=fun h=>this h.symm
  simp[h']
theorem aFo{b w:List X2}{x:X2}(hb:SV b)(h7:B7 b)(hx:0<=x.var/\x.var<=7)(h:Nn b x=some w):KT b [x]=w:=by
 have hw:=KF hb (x:=x) ⟨hx.1,by omega⟩ h;refine Hf (Me _ _) hw.1.1 fun s=>?_;rw[TO,IC];unfold Nn at h;split at h;rename_i hg;split at h;rename_i hv;cases h;constructor;rintro⟨_,_,h1|⟨h1,h2⟩⟩;exact Fj h1;split at h2;rename_i e;rw[e]at hg;rw[h1]at hg;cases hg;simp at h2;intro hs;exact⟨(hb.2 s hs).1,h7 s hs,.inl (GC hb.1 hs)⟩;cases h;rename_i hg;have hg':(D9 b x.var).2=false:=by simpa using hg
 cases h;rw[EX];constructor;rintro⟨_,_,h1|⟨h1,h2⟩⟩;exact .inr (Fj h1);split at h2;rename_i e;left;obtain⟨a,c⟩:=s;obtain⟨a',c'⟩:=x;simp only at e h2;subst e;simp at h2;rw[h2];simp at h2;rintro(rfl|hs);exact⟨hx.1,hx.2,.inr ⟨hg',by simp⟩⟩;exact⟨(hb.2 s hs).1,h7 s hs,.inl (GC hb.1 hs)⟩
theorem bCu{w:List X2}{x:X2}(hw:SV w)(hn:∀s∈w,s.var≠x.var)(hl:w.length<=1000):Ze w x=some (O3 w x):=by
 unfold Ze aTx;obtain⟨t,ht,k,hk,rfl,p1,p2⟩:=Ap (step:=fun s=>JP w x s) (fun s=>∃i:Nat,s=(i:Int)/\i<=w.length/\∀j s,w[j]? =some s->i<=j->x.var<s.var) (fun s=>s.toNat)
  (fun t=>∃k:Nat,k<=w.length/\t=(k:Int)/\(∀j s,w[j]? =some s->j<k->s.var<x.var)/\∀j s,w[j]? =some s->k<=j->x.var<s.var)
  (by
   rintro s ⟨i,rfl,hi,hj⟩;cases i with
   |zero=>exact .inl ⟨0,by simp[JP,AE],0,by omega,rfl,fun j s _ h=>by omega,hj⟩
   |succ i=>
    obtain⟨y,hy,_⟩:=AQ (l:=w) (i:=i) (by omega)
    have e:AA .sub .i64 ((i+1:Nat):Int) 1=(i:Int):=by rw[TJ (by omega) (by omega)];omega
    have hd:decide ((0:Int)<((i+1:Nat):Int))=true:=by simp
    simp only[JP,hd,AG,e,AL hy]
    by_cases h:x.var<y.var
    refine .inr ⟨_,by simp only[h,decide_true,AG],⟨i,rfl,by omega,fun j s hs hij=>?_⟩,by omega⟩
    rcases Nat.eq_or_lt_of_le hij with g|g
    subst g;rw[hy]at hs;cases hs;exact h
    exact hj j s hs g
    refine .inl ⟨_,by simp only[h,decide_false,AF],i+1,hi,rfl,fun j s hs hij=>?_,hj⟩
    have hyx:y.var<x.var:=by have:=hn y (List.mem_of_getElem? hy);omega
    rcases Nat.lt_or_ge j i with g|g
    obtain⟨a1,rfl⟩:=List.getElem?_eq_some_iff.1 hs
    obtain⟨a2,rfl⟩:=List.getElem?_eq_some_iff.1 hy
    have:=List.pairwise_iff_getElem.1 hw.1 j i a1 a2 g;omega
    have:j=i:=by omega
    subst this;rw[hy]at hs;cases hs;exact hyx)
  (w.length:Int) ⟨w.length,rfl,Nat.le_refl _,fun j s hs hij=>by have:=B3 hs;omega⟩
 rw[ht,AB];have es:sub w 0 (k:Int)=w.take k:=by rw[show(0:Int)=((0:Nat):Int)from rfl,aFf];rfl
 rw[es,aFe,Aj (by omega),Ff (by simp;omega) (by decide),Ff (by simp;omega) (by decide),Aj (by omega),Ff (by simp;omega) (by decide)];rw[List.nil_append,aUz hw.1 hn hk p1 p2]
theorem aO8{al:List CN}{e:X4}{sy:X5}{s1 w6:Int}{w9:Ad}(hsy:sy.args=al)(hlen:al.length=e.args.length)(h12:al.length<=12)(hA:∀a∈al,aZg a):∀(n i:Nat) (b f:List X2),al.length-i=n->i<=al.length->SV b->SV f->B7 b->b.length<=i->f.length<=i->
 SG s1 e w6 sy w9 b f (i:Int)=some (match GK (al.drop i) (e.args.drop i) b f with|none=>.inr ()|some p=>.inl p):=by
 subst hsy
 intro n
 induction n with
 |zero=>
  intro i b f hn hi _ _ _ _ _
  have:i=sy.args.length:=by omega
  subst this
  rw[P6]
  simp only[It,ltI,AF,Ae]
  rw[List.drop_length];simp[GK]
 |succ n ih=>
  intro i b f hn hi hb hf h7 hbl hfl
  obtain⟨a,ha,hda⟩:=AQ (l:=sy.args) (i:=i) (by omega)
  obtain⟨x,hx,hdx⟩:=AQ (l:=e.args) (i:=i) (by omega)
  have hAa:=hA a (List.mem_of_getElem? ha)
  rw[P6,hda,hdx]
  simp only[It,ltD ha,AG,aJk,AL ha,AL hx,Ah ha (show sy.args.length<=9223372036854775807 by omega),X0.eqb_dec,Wh,Wi,Wj]
  simp only[GK]
  by_cases h1:a.kind=1
  have h2:¬a.kind=2:=by omega
  have h3:¬a.kind=3:=by omega
  by_cases hv:a.value=x
  have ho:=ih (i+1) b f (by omega) (by omega) hb hf h7 (by omega) (by omega)
  simp[h1,hv,AE,B1,AH,Ba];exact_mod_cast ho
  simp[h1,hv,AE,B1,AH,Ba]
  by_cases h2:a.kind=2
  have h3:¬a.kind=3:=by omega
  have hvr:=hAa.1 h2
  rw[bC1 _ _ (by omega) (by simp),aO1 (x:=⟨a.n,x⟩) hb,bB4 _ _ (by omega) (by simp)]
  cases hp:Nn b ⟨a.n,x⟩with
  |none=>simp[h1,h2,AE,B1,AH,Ba]
  |some b'=>
   obtain⟨c1,c2⟩:=KF hb (x:=⟨a.n,x⟩) ⟨hvr.1,by simp only;omega⟩ hp
   rw[aFo hb h7 (x:=⟨a.n,x⟩) hvr hp]
   have ho:=ih (i+1) b' f (by omega) (by omega) c1 hf (aRb h7 (by simp only;omega) hp) (by omega) (by omega)
   simp[h1,h2,h3,AE,B1,AH,Ba];exact_mod_cast ho
  by_cases h3:a.kind=3
  have hvr:=hAa.2 h3
  rw[ZI f _ (by omega)]
  unfold Nn
  simp only
  cases hg:(D9 f a.n).2 with
  |true=>
   by_cases hv:(D9 f a.n).1=x
   have ho:=ih (i+1) b f (by omega) (by omega) hb hf h7 (by omega) (by omega)
   simp[h1,h2,h3,hg,hv,AE,B1,AH,Ba];exact_mod_cast ho
   simp[h1,h2,h3,hg,hv,AE,B1,AH,Ba]
  |false=>
   have hp:Nn f ⟨a.n,x⟩=some (O3 f ⟨a.n,x⟩):=by unfold Nn;simp[hg]
   obtain⟨c1,c2⟩:=KF hf (x:=⟨a.n,x⟩) hvr hp
   have ho:=ih (i+1) b (O3 f ⟨a.n,x⟩) (by omega) (by omega) hb c1 h7 (by omega) (by omega)
   have hput:=bCu (w:=f) (x:=⟨a.n,x⟩) hf (Jx hg) (by omega)
   simp[h1,h2,h3,hg,AE,B1,AH,Ba,aDw,hput];exact_mod_cast ho
  have ho:=ih (i+1) b f (by omega) (by omega) hb hf h7 (by omega) (by omega)
  simp[h1,h2,h3,AE,B1,AH,Ba];exact_mod_cast ho
def F1(q:AD)(i:Nat)(e:X4):Option Ad:=match q.symbols[i]? with
 |none=>none
 |some s=>match q.decls[s.event.toNat]? with
  |none=>none
  |some d=>if d.name=e.name/\s.args.length=e.args.length then(GK s.args e.args [] []).map fun p=>⟨i,p.1,p.2⟩else none
def aO9(q:AD)(e:X4):List Ad:=if eR q.decls e=true then(List.range q.symbols.length).filterMap fun i=>F1 q i e else []
theorem Pd:SV []:=⟨List.Pairwise.nil,by simp⟩
theorem bDm{q:AD}(hF:CY q)(hR:AY q){s:X5}(hs:s∈q.symbols):∀a∈s.args,aZg a:=fun a ha=>by have:=(hR.symbols s hs).args a ha;have h8:=hR.quants;have hf:=hF.frees;exact⟨fun h=>by have:=this.two h;omega,fun h=>by have:=this.three h;omega⟩
def aWf(o:Option Ad):Ad×Bool:=match o with
 |some h=>(h,true)
 |none=>(⟨0,[],[]⟩,false)
theorem bBm{q:AD}(hF:CY q)(hR:AY q){e:X4}{i:Nat}(hi:i<q.symbols.length):Xs q i e=some (aWf (F1 q i e)):=by
 obtain⟨s,hs,_⟩:=AQ hi;have hsm:=List.mem_of_getElem? hs;have hso:=hR.symbols s hsm;obtain⟨d,hd,hdl⟩:=hso.decl;unfold Xs F1;rw[AL hs,B5 hd hso.event,hs,aD8];simp only[hd];by_cases hn:d.name=e.name;by_cases hlen:s.args.length=e.args.length;have h12:=hF.args s hsm;have ho:=aO8 (sy:=s) (s1:=(i:Int)) (w6:=0) (w9:=⟨0,[],[]⟩) rfl hlen h12 (bDm hF hR hsm) _ 0 [] [] rfl (by omega) Pd Pd (fun s hs=>by simp at hs) (by simp) (by simp);rw[show(0:Int)=((0:Nat):Int)from rfl]at ho⊢;simp only[List.drop_zero]at ho;simp only[hn,hlen,and_self,if_true,decide_true,Bool.not_true,AF];rw[show SG (i:Int) e ((0:Nat):Int) s (Ad.mk ((0:Nat):Int) [] []) [] [] ((0:Nat):Int)=_ from ho,AB];cases GK s.args e.args [] []with
 |none=>simp[Ba,aWf]
 |some p=>simp[Ba,aWf]
 simp[hn,hlen,AE,aWf];simp[hn,AE,aWf]
theorem Ke{α β:Type}(g:α->Option β):∀(l:List α) (w:List β),l.foldl (fun w v=>w++(g v).toList) w=w++l.filterMap g:=by
 intro l;induction l with
 |nil=>intro w;simp
 |cons v l ih=>intro w;rw[List.foldl_cons,ih,List.filterMap_cons];cases g v<;>simp
theorem aEy{n i x:Nat}(h:(List.range n)[i]? =some x):x=i/\i<n:=by
 have hi:i<n:=by simpa using B3 h
 rw[List.getElem?_range hi]at h;cases h;exact⟨rfl,hi⟩
theorem aVf{q:AD}(hF:CY q)(hR:AY q){e:X4}{h:Ad}(hh:h∈aO9 q e):SV h.bind/\B7 h.bind/\h.bind.length<=12/\h.frees.length<=12/\SV h.frees:=by unfold aO9 at hh;split at hh;obtain⟨i,_,hi⟩:=List.mem_filterMap.1 hh;unfold F1 at hi;split at hi;cases hi;rename_i s hs;have hsm:=List.mem_of_getElem? hs;split at hi;cases hi;split at hi;simp only[om]at hi;obtain⟨p,hp,rfl⟩:=hi;have h12:=hF.args s hsm;obtain⟨a1,a2,a3,a4,a5⟩:=HW _ _ _ _ _ (bDm hF hR hsm) Pd Pd (fun s hs=>by simp at hs) hp;simp only[List.length_nil]at a4 a5;exact⟨a1,a3,by simp only;omega,by simp only;omega,a2⟩;cases hi;simp at hh
theorem aQs:∀x:List UInt8,Op.bytesLess x x=false
 |[]=>rfl
 |a::x=>by simp[Op.bytesLess,aQs x]
theorem QV:∀{x y z:List UInt8},Op.bytesLess x y=true->Op.bytesLess y z=true->Op.bytesLess x z=true
 |[],[],_,h,_=>by simp[Op.bytesLess]at h
 |_::_,[],_,h,_=>by simp[Op.bytesLess]at h
 |[],_::_,[],_,h=>by simp[Op.bytesLess]at h
 |[],_::_,_::_,_,_=>rfl
 |_::_,_::_,[],_,h=>by simp[Op.bytesLess]at h
 |a::x,b::y,c::z,h1,h2=>by
  simp only[Op.bytesLess,Bool.or_eq_true,ba,decide_eq_true_eq,beq_iff_eq]at h1 h2⊢;rcases h1 with h1|⟨rfl,h1⟩
  rcases h2 with h2|⟨rfl,h2⟩
  exact .inl (UInt8.lt_trans h1 h2);exact .inl h1;rcases h2 with h2|⟨rfl,h2⟩
  exact .inl h2;exact .inr ⟨rfl,QV h1 h2⟩
theorem aQt:∀{x y:List UInt8},x≠y->Op.bytesLess x y=true\/Op.bytesLess y x=true
 |[],[],h=>absurd rfl h
 |_::_,[],_=>.inr rfl
 |[],_::_,_=>.inl rfl
 |a::x,b::y,h=>by
  simp only[Op.bytesLess,Bool.or_eq_true,ba,decide_eq_true_eq,beq_iff_eq];by_cases hab:a=b;subst hab;rcases aQt (x:=x) (y:=y) (fun e=>h (by rw[e]))with g|g
  exact .inl (.inr ⟨rfl,g⟩);exact .inr (.inr ⟨rfl,g⟩);have:a<b\/b<a:=by rw[UInt8.lt_iff_toNat_lt,UInt8.lt_iff_toNat_lt];have:a.toNat≠b.toNat:=fun e=>hab (UInt8.toNat_inj.1 e);omega
  rcases this with g|g
  exact .inl (.inl g);exact .inr (.inl g)
theorem aDa:∀(x y:List UInt8),(match ((x.zip y).findSome? fun z=>if z.1=z.2 then none else some (Sum.inr (decide (z.1<z.2)):Unit⊕Bool)).getD (.inl ())with| .inl _=>decide (x.length<y.length)| .inr b=>b)=Op.bytesLess x y
 |[],[]=>rfl
 |_::_,[]=>rfl
 |[],_::_=>by simp[Op.bytesLess]
 |a::x,b::y=>by
  rw[List.zip_cons_cons,List.findSome?_cons];by_cases h:a=b;subst h;simp only[if_true,Op.bytesLess,beq_self_eq_true,Bool.true_and,<-aDa x y];have:decide (a<a)=false:=by simp
  rw[this,Bool.false_or];simp only[List.length_cons,Nat.add_lt_add_iff_right];simp[h,Op.bytesLess]
theorem bCl(x y:List UInt8)(hx:x.length<=9223372036854775807)(hy:y.length<=9223372036854775807):Yz x y=some (Op.bytesLess x y):=by
 unfold Yz aM7;have hz:(x.zip y).length=min x.length y.length:=by simp
 rw[D6 (x.zip y) (fun _ z=>if z.1=z.2 then none else some (Sum.inr (decide (z.1<z.2)):Unit⊕Bool)) (.inl ())
  (fun i z h=>by obtain⟨h1,h2⟩:=aFq h;simp only[HL,ltD h1,ltD h2,AG,AL h1,AL h2,Ah h1 hx];by_cases e:z.1=z.2;simp[e,AE];have:¬(z.1.toNat:Int)=(z.2.toNat:Int):=fun g=>e (UInt8.toNat_inj.1 (by omega));have:(decide ((z.1.toNat:Int)<(z.2.toNat:Int)))=decide (z.1<z.2):=decide_eq_decide.2 (by rw[UInt8.lt_iff_toNat_lt];omega);rw[this,if_neg e];simp[*,AE])
  (by
   rw[hz];rcases Nat.le_total x.length y.length with h|h
   rw[Nat.min_eq_left h];simp only[HL,ltI,AF];rw[Nat.min_eq_right h];simp only[HL,ltI,AF];cases decide ((y.length:Int)<(x.length:Int))<;>rfl),AB,DG,<-aDa]
 cases((x.zip y).findSome? fun z=>if z.1=z.2 then none else some (Sum.inr (decide (z.1<z.2)):Unit⊕Bool)).getD (.inl ())<;>simp[Ba]
def ltV(a b:X0):Bool:=if a.kind=b.kind then(if a.kind=1 then decide (a.int<b.int)else if a.kind=2 then Op.bytesLess a.str b.str else !a.bool&&b.bool)else decide (a.kind<b.kind)
theorem aWy(a b:X0):Ql a b=some (ltV a b):=by unfold Ql ltV;by_cases h:a.kind=b.kind<;>by_cases h1:a.kind=1<;>by_cases h2:a.kind=2<;>cases ha:a.bool<;>simp_all [AE]
theorem aF5(a b:X0)(ha:a.str.length<=9223372036854775807)(hb:b.str.length<=9223372036854775807):Q5 a b=some (ltV a b):=by unfold Q5 ltV;rw[bCl _ _ ha hb];by_cases h:a.kind=b.kind<;>by_cases h1:a.kind=1<;>by_cases h2:a.kind=2<;>cases ha:a.bool<;>simp_all [AE,AH]
theorem J8(a:X0):ltV a a=false:=by unfold ltV;rw[if_pos rfl];split;simp;split;exact aQs _;cases a.bool<;>rfl
theorem GZ{a b c:X0}(h1:ltV a b=true)(h2:ltV b c=true):ltV a c=true:=by unfold ltV at*;by_cases e1:a.kind=b.kind;by_cases e2:b.kind=c.kind;rw[if_pos e1]at h1;rw[if_pos e2]at h2;rw[if_pos (e1.trans e2)];rw[e1]at h1⊢;split;rename_i h;rw[if_pos h]at h1 h2;simp at h1 h2⊢;omega;rename_i h;rw[if_neg h]at h1 h2;split;rename_i h;rw[if_pos h]at h1 h2;exact QV h1 h2;rename_i h;rw[if_neg h]at h1 h2;simp at h1 h2⊢;exact⟨h1.1,h2.2⟩;rw[if_neg e2]at h2;rw[e1,if_neg e2];exact h2;rw[if_neg e1]at h1;by_cases e2:b.kind=c.kind;rw[<-e2,if_neg e1];exact h1;rw[if_neg e2]at h2;simp only[decide_eq_true_eq]at h1 h2;rw[if_neg (by omega)];simp;omega
theorem Gq{v:X0}(h:vR v=true):(v.kind=1/\v.str=[]/\v.bool=false)\/(v.kind=2/\v.int=0/\v.bool=false/\v.str.length<=4096)\/(v.kind=3/\v.int=0/\v.str=[]):=by unfold vR at h;split at h;left;simp at h;exact⟨by assumption,h.1,h.2⟩;split at h;right;left;simp at h;exact⟨by assumption,h.1.1,h.1.2,h.2⟩;split at h;right;right;simp at h;exact⟨by assumption,h.1,h.2⟩;cases h
theorem PA{a b:X0}(ha:vR a=true)(hb:vR b=true)(h:a≠b):ltV a b=true\/ltV b a=true:=by
 unfold ltV;by_cases e:a.kind=b.kind;rw[if_pos e,if_pos e.symm,<-e];obtain⟨k,n,s,t⟩:=a;obtain⟨k',n',s',t'⟩:=b;simp only at e;subst e;rcases Gq ha with⟨rfl,h2,h3⟩|⟨rfl,h2,h3,h4⟩|⟨rfl,h2,h3⟩<;>rcases Gq hb with⟨g1,g2,g3⟩|⟨g1,g2,g3,g4⟩|⟨g1,g2,g3⟩<;>simp only[Int.reduceEq]at g1 h2 h3 g2 g3<;>subst_vars
 simp at h⊢;omega;simp at h⊢;exact aQt h;simp at h⊢;cases t<;>cases t'<;>simp_all;rw[if_neg e,if_neg (Ne.symm e)];simp;omega
theorem Ri{w w':List X2}{x s:X2}(h:Nn w x=some w')(hs:s∈w'):s=x\/s∈w:=by unfold Nn at h;split at h;split at h;cases h;exact .inr hs;cases h;cases h;exact(EX w x s).1 hs
theorem RJ:∀(al:List CN) (xs:List X0) (b f:List X2) (p:List X2×List X2),GK al xs b f=some p->∀s∈p.1,s∈b\/s.value∈xs
 |[],xs,b,f,p,h=>by simp only[GK]at h;cases h;exact fun s hs=>.inl hs
 |a::al,[],b,f,p,h=>by simp only[GK]at h;cases h;exact fun s hs=>.inl hs
 |a::al,x::xs,b,f,p,h=>by
  simp only[GK]at h;have go:∀b f,GK al xs b f=some p->∀s∈p.1,s∈b\/s.value∈x::xs:=fun b f h s hs=>(RJ al xs b f p h s hs).imp id (List.mem_cons_of_mem _);split at h;split at h;exact go b f h;cases h;split at h;split at h;cases h;rename_i b' hp;intro s hs;rcases go b' f h s hs with g|g
  rcases Ri hp g with rfl|g
  exact .inr (by simp);exact .inl g;exact .inr g;split at h;split at h;cases h;rename_i f' hp;exact go b f' h;exact go b f h
theorem LC{q:AD}{e:X4}{i:Nat}{h:Ad}(hi:F1 q i e=some h):h.symbol=i/\∀s∈h.bind,s.value∈e.args:=by unfold F1 at hi;split at hi;cases hi;split at hi;cases hi;split at hi;simp only[om]at hi;obtain⟨p,hp,rfl⟩:=hi;exact⟨rfl,fun s hs=>(RJ _ _ _ _ _ hp s hs).resolve_left (by simp)⟩;cases hi
theorem Sv{α:Type}{p:α->Bool}{w:List α}{k:Nat}(h1:∀(j:Nat) y,w[j]? =some y->j<k->p y=true)(h2:∀(j:Nat) y,w[j]? =some y->k<=j->p y=false):w.take k=w.filter p/\w.drop k=w.filter fun y=> !p y:=by
 have a:∀y∈w.take k,p y=true:=fun y hy=>by obtain⟨j,hj⟩:=List.mem_iff_getElem?.1 hy;rw[List.getElem?_take]at hj;split at hj;exact h1 j y hj (by assumption);cases hj
 have b:∀y∈w.drop k,p y=false:=fun y hy=>by obtain⟨j,hj⟩:=List.mem_iff_getElem?.1 hy;rw[List.getElem?_drop]at hj;exact h2 (k+j) y hj (by omega)
 have e:∀p:α->Bool,w.filter p=(w.take k).filter p++(w.drop k).filter p:=fun p=>by rw[<-List.filter_append,List.take_append_drop]
 constructor;rw[e,List.filter_eq_self.2 a,List.filter_eq_nil_iff.2 (fun y hy=>by simp[b y hy]),List.append_nil];rw[e,List.filter_eq_nil_iff.2 (fun y hy=>by simp[a y hy]),List.filter_eq_self.2 (fun y hy=>by simp[b y hy]),List.nil_append]
def SW(w:List X0):Prop:=w.Pairwise (fun a b=>ltV a b=true)/\∀v∈w,vR v=true
def OA(w:List X0)(x:X0):List X0:=if x∈w then w else w.filter (fun y=>ltV y x)++x::w.filter fun y=> !ltV y x
theorem aRg{v:X0}(h:vR v=true):v.str.length<=9223372036854775807:=by
 rcases Gq h with⟨_,h2,_⟩|⟨_,_,_,h4⟩|⟨_,_,h3⟩
 rw[h2];decide;omega;rw[h3];decide
theorem aPj{a b:X0}(h1:ltV a b=true):ltV b a=false:=by
 cases h:ltV b a with
 |false=>rfl
 |true=>have:=GZ h1 h;rw[J8]at this;cases this
theorem aR4{w:List X0}(hw:SW w){i j:Nat}{y z:X0}(hi:w[i]? =some y)(hj:w[j]? =some z)(h:i<j):ltV y z=true:=by obtain⟨a1,rfl⟩:=List.getElem?_eq_some_iff.1 hi;obtain⟨a2,rfl⟩:=List.getElem?_eq_some_iff.1 hj;exact List.pairwise_iff_getElem.1 hw.1 i j a1 a2 h
theorem Ms{w:List X0}{x:X0}(hw:SW w)(hx:vR x=true):SW (OA w x)/\(OA w x).length=w.length+(if x∈w then 0 else 1):=by
 unfold OA;split;exact⟨hw,by simp[*]⟩;rename_i hn;refine⟨⟨?_,fun b hb=>?_⟩,?_⟩;rw[List.pairwise_append,List.pairwise_cons];have hgt:∀y∈w.filter (fun y=> !ltV y x),ltV x y=true:=fun y hy=>by
  obtain⟨h1,h2⟩:=List.mem_filter.1 hy;rcases PA (hw.2 y h1) hx (fun e=>hn (e▸h1))with g|g
  rw[g]at h2;cases h2;exact g
 refine⟨hw.1.filter _,⟨hgt,hw.1.filter _⟩,fun y hy z hz=>?_⟩;have hyx:=(List.mem_filter.1 hy).2;rcases mc.1 hz with rfl|hz
 exact hyx;exact GZ hyx (hgt z hz);rcases ma.1 hb with h|h
 exact hw.2 b (List.mem_filter.1 h).1;rcases mc.1 h with rfl|h
 exact hx;exact hw.2 b (List.mem_filter.1 h).1;have h1:∀w:List X0,(w.filter fun y=>ltV y x).length+(w.filter fun y=> !ltV y x).length=w.length:=by
  intro w;induction w with
  |nil=>rfl
  |cons y w ih=>rw[List.filter_cons,List.filter_cons];cases ltV y x<;>simp<;>omega
 have h1:=h1 w;rw[List.length_append,List.length_cons];omega
def AtW(w:List X0)(x:X0)(k:Nat):Prop:=k<=w.length/\(∀(j:Nat) y,w[j]? =some y->j<k->ltV y x=true)/\(∀(j:Nat) y,w[j]? =some y->k<=j->ltV y x=false)
theorem aQp{w:List X0}{x:X0}{k:Nat}(h:AtW w x k)(hn:x∉w):w.take k++[x]++w.drop k=OA w x:=by obtain⟨c1,c2⟩:=Sv h.2.1 h.2.2;unfold OA;rw[c1,c2,if_neg hn];simp
def aWd(y x:X0):Int:=if ltV y x=true then-1 else if ltV x y=true then 1 else 0
theorem aF2{y x:X0}{s:List X0}(hy:vR y=true)(hx:vR x=true):Qo y x s=some (aWd y x):=by unfold Qo aWd;rw[aWy,aWy,AB,AB];cases ltV y x<;>cases ltV x y<;>rfl
theorem aUx{y x:X0}:decide (aWd y x<0)=ltV y x:=by unfold aWd;cases ltV y x<;>cases ltV x y<;>rfl
theorem aUv{w s:List X0}{x:X0}(hw:SW w)(hx:vR x=true)(hl:w.length<=1000):
 ∃k:Nat,AtW w x k/\Yb w x s=some ((k:Int),decide (x∈w)):=by
 have hsub:∀y∈w,Qo y x s=some (aWd y x):=fun y hy=>aF2 (hw.2 y hy) hx
 unfold Yb aLo
 obtain⟨k,hk,hkr,p1,p2⟩:=aUu (step:=fun s':Int×Int=>HK w s (w.length:Int) x s'.1 s'.2) w.length (fun a=>match w[a]? with|some y=>ltV y x|none=>false)
  (fun i j hij hj=>by
   obtain⟨y,hy,_⟩:=AQ (l:=w) (i:=(i+j)/2) (by omega);have hd:decide ((i:Int)<(j:Int))=true:=by simp;omega
   simp only[HK,hd,AG,aLl,bEy (show i+j<4611686018427387904 by omega),AL hy,hsub y (List.mem_of_getElem? hy),AB,YM,hy,aUx];cases ltV y x with
   |true=>simp only[AG,AB,if_true,KN (show(i+j)/2<9223372036854775807 by omega)]
   |false=>simp[AE,AH])
  (fun i=>by simp[HK,AE])
  (fun a b hab hb h=>by
   obtain⟨y,hy,_⟩:=AQ (l:=w) (i:=a) (by omega);obtain⟨z,hz,_⟩:=AQ (l:=w) (i:=b) hb;simp only[hy,hz]at h⊢;rcases Nat.lt_or_ge a b with g|g
   exact GZ (aR4 hw hy hz g) h;have:a=b:=by omega
   subst this;rw[hy]at hz;cases hz;exact h)
 have q1:∀(j:Nat) y,w[j]? =some y->j<k->ltV y x=true:=fun j s hs hj=>by have:=p1 j hj;simp only[hs]at this;exact this
 have q2:∀(j:Nat) y,w[j]? =some y->k<=j->ltV y x=false:=fun j s hs hj=>by have:=p2 j hj (B3 hs);simp only[hs]at this;exact this
 refine⟨k,⟨hk,q1,q2⟩,?_⟩
 rw[hkr,AB]
 have hmem:∀j:Nat,w[j]? =some x->j=k:=fun j hj=>by
  rcases Nat.lt_trichotomy j k with g|g|g
  have:=q1 j x hj g;rw[J8]at this;cases this;exact g;obtain⟨y,hy,_⟩:=AQ (l:=w) (i:=k) (by have:=B3 hj;omega);have h1:=q2 k y hy (Nat.le_refl _);rw[aR4 hw hy hj g]at h1;cases h1
 by_cases h:k<w.length
 obtain⟨y,hy,_⟩:=AQ h
 rw[De,if_pos (by omega),AL hy,hsub y (List.mem_of_getElem? hy),AB]
 have hge:=q2 k y hy (Nat.le_refl _)
 congr 2
 rw[decide_eq_decide]
 unfold aWd
 rw[hge,if_neg (by simp)]
 constructor
 intro hc
 rcases(Classical.em (y=x))with e|e
 exact e▸List.mem_of_getElem? hy
 rcases PA (hw.2 y (List.mem_of_getElem? hy)) hx e with g|g
 rw[hge]at g;cases g
 rw[if_pos g]at hc;cases hc
 intro hm
 obtain⟨j,hj⟩:=List.mem_iff_getElem?.1 hm
 have:=hmem j hj
 subst this
 rw[hy]at hj;cases hj
 rw[J8];rfl
 rw[De,if_neg (by omega)]
 congr 2
 symm
 rw[decide_eq_false_iff_not]
 intro hm
 obtain⟨j,hj⟩:=List.mem_iff_getElem?.1 hm
 have:=hmem j hj
 have:=B3 hj
 omega
theorem Mq{w:List X0}{x:X0}(hw:SW w)(hx:vR x=true)(hl:w.length<=900):Q9 x w=some (!decide (x∈w),OA w x):=by
 unfold Q9 aF7;obtain⟨k,hk,hb⟩:=aUv (s:=w) hw hx (by omega);rw[hb,AB];by_cases hm:x∈w;simp[hm,AE,AH,OA];have hin:Ul (k:Int) w [x]=some (OA w x):=by unfold Ul aZh;have:=hk.1;rw[if_pos ⟨by omega,by omega,by simp,B2 (by simp;omega) (by decide)⟩,Int.toNat_natCast,aQp hk hm]
 simp only[hm,decide_false,Bool.not_false,AG];rw[hin];rfl
theorem aP3{α:Type}(w:List α)(k:Nat):sub w 0 (k:Int)=w.take k:=by simp[sub]
theorem aP2{α:Type}(w:List α)(k:Nat):sub w (k:Int) (w.length:Int)=w.drop k:=by simp[sub]
theorem aMo{w:List X0}{x:X0}(hw:SW w)(hx:vR x=true)(hl:w.length<=900):Yq w x=some (OA w x):=by
 unfold Yq aTj;obtain⟨t,ht,k,hk,rfl,p1,p2⟩:=Ap (step:=fun s=>JD w x s) (fun s=>∃i:Nat,s=(i:Int)/\i<=w.length/\∀(j:Nat) s,w[j]? =some s->i<=j->ltV x s=true) (fun s=>s.toNat)
  (fun t=>∃k:Nat,k<=w.length/\t=(k:Int)/\(∀(j:Nat) s,w[j]? =some s->k=j+1->ltV x s=false)/\∀(j:Nat) s,w[j]? =some s->k<=j->ltV x s=true)
  (by
   rintro s ⟨i,rfl,hi,hj⟩;cases i with
   |zero=>exact .inl ⟨0,by simp[JD,AE],0,by omega,rfl,fun j s _ h=>by omega,hj⟩
   |succ i=>
    obtain⟨y,hy,_⟩:=AQ (l:=w) (i:=i) (by omega)
    have hyR:=hw.2 y (List.mem_of_getElem? hy)
    have e:AA .sub .i64 ((i+1:Nat):Int) 1=(i:Int):=by rw[TJ (by omega) (by omega)];omega
    have hd:decide ((0:Int)<((i+1:Nat):Int))=true:=by simp
    simp only[JD,hd,AG,e,AL hy,aF5 _ _ (aRg hx) (aRg hyR),AB]
    cases h:ltV x y with
    |true=>
     refine .inr ⟨_,by simp only[AG],⟨i,rfl,by omega,fun j s hs hij=>?_⟩,by omega⟩
     rcases Nat.eq_or_lt_of_le hij with g|g
     subst g;rw[hy]at hs;cases hs;exact h
     exact hj j s hs g
    |false=>
     refine .inl ⟨_,by simp only[AF],i+1,hi,rfl,fun j s hs hij=>?_,hj⟩
     have:j=i:=by omega
     subst this;rw[hy]at hs;cases hs;exact h)
  (w.length:Int) ⟨w.length,rfl,Nat.le_refl _,fun j s hs hij=>by have:=B3 hs;omega⟩
 rw[ht,AB];have hrest:(∀y,w[k-1]? =some y->0<k->y≠x)->(AU ((0:Int)<=0/\(0:Int)<=(k:Int)/\(k:Int)<=(w.length:Int)) (
  AU (fit ([]:List X0).length (sub w 0 (k:Int)).length 40) (
   AU (fit (([]:List X0)++(sub w 0 (k:Int))).length [x].length 40) (
    AU ((0:Int)<=(k:Int)/\((k:Int):Int)<=(w.length:Int)/\(w.length:Int)<=(w.length:Int)) (
     AU (fit ((([]:List X0)++(sub w 0 (k:Int)))++[x]).length (sub w (k:Int) (w.length:Int)).length 40) (
      some (((([]:List X0)++(sub w 0 (k:Int)))++[x])++(sub w (k:Int) (w.length:Int)))))))):Option (List X0))=some (OA w x):=by
  intro hne
  have hlt:∀(j:Nat) y,w[j]? =some y->j<k->ltV y x=true:=fun j y hy hj=>by
   obtain⟨z,hz,_⟩:=AQ (l:=w) (i:=k-1) (by omega);have h1:=p1 (k-1) z hz (by omega);have h2:=hne z hz (by omega);have h3:ltV z x=true:=by
    rcases PA (hw.2 z (List.mem_of_getElem? hz)) hx h2 with g|g
    exact g;rw[h1]at g;cases g
   rcases Nat.lt_or_ge j (k-1)with g|g
   exact GZ (aR4 hw hy hz g) h3;have:j=k-1:=by omega
   subst this;rw[hz]at hy;cases hy;exact h3
  have hAt:AtW w x k:=⟨hk,hlt,fun j y hy hj=>aPj (p2 j y hy hj)⟩
  have hn:x∉w:=fun hm=>by
   obtain⟨j,hj⟩:=List.mem_iff_getElem?.1 hm;rcases Nat.lt_or_ge j k with g|g
   have:=hlt j x hj g;rw[J8]at this;cases this;have:=p2 j x hj g;rw[J8]at this;cases this
  rw[aP3,aP2,Aj (by omega),Ff (by simp;omega) (by decide),Ff (by simp;omega) (by decide),Aj (by omega),Ff (by simp;omega) (by decide),List.nil_append,aQp hAt hn]
 rw[De];split;rename_i h0;obtain⟨y,hy,_⟩:=AQ (l:=w) (i:=k-1) (by omega);have e:AA .sub .i64 (k:Int) 1=((k-1:Nat):Int):=by rw[TJ (by omega) (by omega)];omega
 rw[e,AL hy,X0.eqb_dec];by_cases hyx:y=x;subst hyx;have hm:=List.mem_of_getElem? hy;simp[AE,OA,hm];simp only[hyx,decide_false,AF];exact hrest fun z hz _=>by rw[hy]at hz;cases hz;exact hyx
 exact hrest fun z hz h=>by omega
theorem aXv{q:AD}{e:X4}(hF:CY q)(hR:AY q):Yc q e=some ((List.range q.symbols.length).filterMap fun i=>F1 q i e):=by
 have hs:=hF.symbols;unfold Yc aTb;have h:=Cm (step:=fun s:Int×List Ad=>I7 q e s.1 s.2) (List.range q.symbols.length) (fun w i=>w++(F1 q i e).toList) (fun w=>w) (fun i w=>w.length<=i)
  (fun i x w hx hI=>by
   obtain⟨rfl,hi⟩:=aEy hx;have hlt:decide ((x:Int)<(q.symbols.length:Int))=true:=by simp;omega
   refine⟨?_,by cases F1 q x e<;>simp<;>omega⟩;simp only[I7,hlt,AG,aLq,bBm hF hR hi,AB,aLs,KN (show x<9223372036854775807 by omega)];rw[Ff (by simp;omega) (by decide)];cases F1 q x e<;>simp[aWf,AE,AH])
  (fun w _=>by rw[List.length_range];simp only[I7,ltI,AF]) [] (by simp)
 rw[h,AB,Ke];simp
def Dt(a b:List X2):Bool:=a.all fun s=>decide (D9 b s.var=(s.value,true))
theorem bC3(a b:List X2)(ha:a.length<=9223372036854775807)(hb:b.length<=9223372036854775807):Zl a b=some (Dt a b):=by
 unfold Zl aT2;rw[GY a (fun s=>decide (D9 b s.var=(s.value,true))) (.inl ()) (.inr ())
  (fun i x hx=>by simp only[Ln,ltD hx,AG,AL hx,Ah hx ha,ZI b _ hb,AB,X0.eqb_dec];obtain⟨y,o⟩:=D9 b x.var;cases o;simp[AE];by_cases h:y=x.value<;>simp[AE,h])
  (by simp only[Ln,ltI,AF]),AB]
 unfold Dt;cases a.all _<;>rfl
theorem aXx{l:List Ad}{b:List X2}(hl:l.length<=1000)(hs:∀h∈l,h.bind.length<=9223372036854775807)(hb:b.length<=9223372036854775807):Yf l b=some (l.filter fun h=>Dt h.bind b):=by
 unfold Yf aTd;rw[Cm l (fun w x=>if(Dt x.bind b)=true then w++[x]else w) (fun w=>w) (fun i w=>w.length<=i)
  (fun i x w hx hI=>by have:=B3 hx;refine⟨?_,?_⟩;rotate_left;split;simpa using hI;omega;simp only[Lg,ltD hx,AG,aL2,AL hx,bC3 _ _ (hs x (List.mem_of_getElem? hx)) hb,AB,aL4,Ah hx (show l.length<=9223372036854775807 by omega)];rw[Ff (by simp;omega) (by decide)];cases Dt x.bind b<;>simp[AE,AH])
  (fun w _=>by simp only[Lg,ltI,AF]) [] (by simp),Hn,AB]
 simp
def BR(b:List X2):Prop:=b.Pairwise (fun x y=>x.var<y.var)/\∀s∈b,0<=s.var/\s.var<=7/\vR s.value=true
theorem LP:∀(b:List X2) (lo:Int),b.Pairwise (fun x y=>x.var<y.var)->(∀s∈b,lo<=s.var/\s.var<=7)->b.length<=(8-lo).toNat
 |[],_,_,_=>by simp
 |x::b,lo,hp,h=>by
  rw[List.pairwise_cons]at hp;have h1:=LP b (x.var+1) hp.2 fun s hs=>⟨by have:=hp.1 s hs;omega,(h s (List.mem_cons_of_mem _ hs)).2⟩;have h2:=h x (by simp);rw[List.length_cons];omega
theorem Mm{b:List X2}(h:BR b):b.length<=8:=by have:=LP b 0 h.1 fun s hs=>⟨(h.2 s hs).1,(h.2 s hs).2.1⟩;omega
def okB(l:List X2)(i:Nat):Prop:=∀j,j<i->∃x,l[j]? =some x/\0<=x.var/\x.var<=7/\vR x.value=true/\∀y,0<j->l[j-1]? =some y->y.var<x.var
theorem aEr{l:List X2}(h:okB l l.length):BR l:=by
 have get:∀j (hj:j<l.length),0<=l[j].var/\l[j].var<=7/\vR l[j].value=true/\∀(_:0<j) (h2:j-1<l.length),l[j-1].var<l[j].var:=by intro j hj;obtain⟨x,hx,h1,h2,h5,h3⟩:=h j hj;obtain⟨_,rfl⟩:=List.getElem?_eq_some_iff.1 hx;exact⟨h1,h2,h5,fun h0 h4=>h3 _ h0 (List.getElem?_eq_getElem h4)⟩
 refine⟨List.pairwise_iff_getElem.2 ?_,fun s hs=>?_⟩;intro i j hi hj hij;induction j with
 |zero=>omega
 |succ j ih=>
  have h1:=(get (j+1) hj).2.2.2 (by omega) (by simp;omega)
  simp only[Nat.add_sub_cancel]at h1
  rcases Nat.lt_or_ge i j with h2|h2
  have:=ih (by omega) h2;omega
  have:i=j:=by omega
  subst this;exact h1
 obtain⟨j,hj,rfl⟩:=List.mem_iff_getElem.1 hs;exact⟨(get j hj).1,(get j hj).2.1,(get j hj).2.2.1⟩
theorem Nq(l:List X2)(hl:l.length<=9223372036854775807):∃b,Zs l=some b/\(b=true->BR l):=by
 unfold Zs aT8;obtain⟨t,ht,hQ⟩:=Ap (step:=fun s=>Ja l s) (fun s=>∃i:Nat,s=(i:Int)/\i<=l.length/\okB l i) (fun s=>(l.length-s).toNat) (fun t=>t=.inl ()->okB l l.length)
  (by
   rintro s ⟨i,rfl,hi,hok⟩;by_cases he:i=l.length;subst he;exact .inl ⟨.inl (),by simp only[Ja,ltI,AF],fun _=>hok⟩;obtain⟨x,hx,_⟩:=AQ (l:=l) (i:=i) (by omega);simp only[Ja,ltD hx,AG,AL hx,aA0,AB,Ah hx hl,De];have hgo:(∀y,0<i->l[i-1]? =some y->y.var<x.var)->¬x.var<0->¬7<x.var->vR x.value=true->okB l (i+1):=by
    intro h1 h2 h3 h5 j hj;rcases Nat.lt_or_ge j i with h4|h4
    exact hok j h4;have:j=i:=by omega
    subst this;exact⟨x,hx,by omega,by omega,h5,h1⟩
   by_cases h1:x.var<0;exact .inl ⟨.inr (),by simp[h1],by simp⟩;by_cases h2:7<x.var;exact .inl ⟨.inr (),by simp[h1,h2],by simp⟩;cases hb:vR x.value with
   |false=>exact .inl ⟨.inr (),by simp[h1,h2,AE],by simp⟩
   |true=>
    by_cases h3:0<i
    obtain⟨y,hy,_⟩:=AQ (l:=l) (i:=i-1) (by omega)
    have e:AA .sub .i64 (i:Int) 1=((i-1:Nat):Int):=by rw[TJ (by omega) (by omega)];omega
    rw[e,AL hy]
    by_cases h4:x.var<=y.var
    exact .inl ⟨.inr (),by simp[h1,h2,h3,h4,AE],by simp⟩
    refine .inr ⟨((i+1:Nat):Int),by simp[h1,h2,h3,h4,AE],⟨i+1,rfl,by omega,hgo (fun z _ hz=>?_) h1 h2 hb⟩,by omega⟩
    rw[hy]at hz;cases hz;omega
    refine .inr ⟨((i+1:Nat):Int),by simp[h1,h2,h3,AE],⟨i+1,rfl,by omega,hgo (fun z h0=>absurd h0 h3) h1 h2 hb⟩,by omega⟩)
  (0:Int) ⟨0,rfl,by omega,fun j hj=>by omega⟩
 rw[ht,AB];rcases t with _|_
 exact⟨true,rfl,fun _=>aEr (hQ rfl)⟩;exact⟨false,rfl,by simp⟩
theorem IA(n:Nat)(h:n<4294967296):(BitVec.ofInt 32 (n:Int)).toNat=n:=by simp[BitVec.toNat_ofInt];omega
theorem Hh{n:Nat}(h:n<4294967296):IntKind.wrap .u32 (n:Int)=n:=by simp[IntKind.wrap,IntKind.signed,IntKind.bits];omega
theorem ML{n m:Nat}(hn:n<4294967296)(hm:m<4294967296):AA .or .u32 (n:Int) (m:Int)=((n|||m:Nat):Int):=by have h:n|||m<2^32:=Nat.or_lt_two_pow (by simpa using hn) (by simpa using hm);show IntKind.wrap .u32 (((BitVec.ofInt 32 (n:Int))|||(BitVec.ofInt 32 (m:Int))).toNat:Int)=_;rw[BitVec.toNat_or,IA n hn,IA m hm];exact Hh (by simpa using h)
theorem aQo{n m:Nat}(hn:n<4294967296)(hm:m<4294967296):AA .and .u32 (n:Int) (m:Int)=((n&&&m:Nat):Int):=by have h:n&&&m<2^32:=Nat.and_lt_two_pow _ (by simpa using hm);show IntKind.wrap .u32 (((BitVec.ofInt 32 (n:Int))&&&(BitVec.ofInt 32 (m:Int))).toNat:Int)=_;rw[BitVec.toNat_and,IA n hn,IA m hm];exact Hh (by simpa using h)
theorem PT{s:Nat}(h:s<32):AA .shl .u32 1 (s:Int)=((2^s:Nat):Int):=by
 have e:(1:Int)*2^(min (Int.toNat (s:Int)) (IntKind.bits .u32))=((2^s:Nat):Int):=by rw[Int.toNat_natCast,show min s (IntKind.bits .u32)=s from Nat.min_eq_left (Nat.le_of_lt h)];simp
 show IntKind.wrap .u32 (1*2^(min (Int.toNat (s:Int)) (IntKind.bits .u32)))=_;rw[e];exact Hh (Nat.lt_of_lt_of_le (Nat.pow_lt_pow_right (by decide) h) (by decide))
theorem aP1{s:Nat}(h:s<64):AA .shl .u64 1 (s:Int)=((2^s:Nat):Int):=by
 have e:(1:Int)*2^(min (Int.toNat (s:Int)) (IntKind.bits .u64))=((2^s:Nat):Int):=by rw[Int.toNat_natCast,show min s (IntKind.bits .u64)=s from Nat.min_eq_left (Nat.le_of_lt h)];simp
 show IntKind.wrap .u64 (1*2^(min (Int.toNat (s:Int)) (IntKind.bits .u64)))=_;rw[e];exact BC (Nat.lt_of_lt_of_le (Nat.pow_lt_pow_right (by decide) h) (by decide))
theorem PU{k:IntKind}{n s:Nat}(h:s<k.bits):AA .shr k (n:Int) (s:Int)=((n/2^s:Nat):Int):=by show(n:Int).fdiv (2^(min (Int.toNat (s:Int)) k.bits))=_;rw[Int.toNat_natCast,Nat.min_eq_left (Nat.le_of_lt h),Int.fdiv_eq_ediv_of_nonneg _ (Int.le_of_lt (Int.pow_pos (by decide)))];simp
theorem bEg{k:IntKind}(n:Nat):AA .rem k (n:Int) 2=((n % 2:Nat):Int):=by show(n:Int).tmod 2=_;rw[Int.tmod_eq_emod_of_nonneg (by omega)];omega
theorem Oq(n s:Nat):n/2^s % 2=if n.testBit s=true then 1 else 0:=by have:=Nat.testBit_eq_decide_div_mod_eq (x:=n) (i:=s);rw[this];by_cases h:n/2^s % 2=1;simp[h];simp only[h,decide_false,Bool.false_eq_true,if_false];have:=Nat.mod_two_eq_zero_or_one (n/2^s);omega
theorem Oo(n s:Nat):(n&&&2^s=0)↔n.testBit s=false:=by constructor;intro h;have h2:=congrArg (fun x=>x.testBit s) h;simp only[Nat.testBit_and,Nat.testBit_two_pow_self,Bool.and_true,Nat.zero_testBit]at h2;exact h2;intro h;apply Nat.eq_of_testBit_eq;intro i;rw[Nat.testBit_and,Nat.testBit_two_pow,Nat.zero_testBit];by_cases hi:s=i;subst hi;simp[h];simp[hi]
theorem Fo{α β γ τ:Type}{step:γ×Int->Option (γ×Int⊕τ)}(enc:β->γ)(l:List α)(f:β->α->β)(fin:β->τ)(I:Nat->β->Prop)
 (h1:∀(i:Nat) x w,l[i]? =some x->I i w->step (enc w,(i:Int))=some (.inl (enc (f w x),((i+1:Nat):Int)))/\I (i+1) (f w x))
 (h2:∀w,I l.length w->step (enc w,(l.length:Int))=some (.inr (fin w))) (w:β) (h0:I 0 w):AR step (enc w,0)=some (fin (l.foldl f w)):=by
 have h:=FM (step:=step) l (fun i w=>(enc w,(i:Int))) (fun _ w x=>(.inl (f w x):β⊕τ)) fin I (fun i x w hx hI=>⟨(h1 i x w hx hI).1,fun w' hw=>by cases hw;exact(h1 i x w hx hI).2⟩) h2 (l.length+1) 0 w (by omega) (by omega) h0
 rw[show(enc w,(0:Int))=(enc w,((0:Nat):Int))from rfl,h,List.drop_zero]
 congr 1
 clear h h1 h2 h0
 generalize 0=i
 revert i w
 induction l with
 |nil=>intro w i;rfl
 |cons x xs ih=>intro w i;rw[MY];exact ih _ _
def toF(M s:Nat)(w:Nat)(t:X6):Nat:=if t.from_=(s:Int)/\M.testBit t.symbol.toNat=true then w|||2^t.to.toNat else w
def toN(q:AD)(M s:Nat):Nat:=q.trans.foldl (toF M s) 0
def aFt(q:AD)(M s:Nat):Nat:=if toN q M s=0/\(q.states[s]?.map (·.next))=some false then 2^s else toN q M s
def MJ(q:AD)(S M:Nat)(w:Nat)(s:Nat):Nat:=if S.testBit s=true then w|||aFt q M s else w
def Du(q:AD)(S M:Nat):Nat:=(List.range q.states.length).foldl (MJ q S M) 0
theorem aYx{a b:Nat}(h1:a<4294967296)(h2:b<4294967296):a|||b<4294967296:=by have:=Nat.or_lt_two_pow (n:=32) (x:=a) (y:=b) (by simpa using h1) (by simpa using h2);simpa using this
theorem KD{s:Nat}(h:s<32):2^s<4294967296:=Nat.lt_of_lt_of_le (Nat.pow_lt_pow_right (by decide) h) (by decide)
theorem aFj{q:AD}(h8:q.states.length<=12)(hR:AY q){M s w:Nat}{t:X6}(ht:t∈q.trans)(hw:w<4294967296):toF M s w t<4294967296:=by unfold toF;split;have:=(hR.ends t ht).2.2;exact aYx hw (KD (by omega));exact hw
theorem aFk{q:AD}(h8:q.states.length<=12)(hR:AY q)(M s:Nat):toN q M s<4294967296:=by
 unfold toN;suffices∀(l:List X6) (w:Nat),(∀t∈l,t∈q.trans)->w<4294967296->l.foldl (toF M s) w<4294967296 from this _ _ (fun _ h=>h) (by decide)
 intro l;induction l with
 |nil=>intro w _ h;exact h
 |cons t l ih=>intro w hl hw;exact ih _ (fun t h=>hl t (List.mem_cons_of_mem _ h)) (aFj h8 hR (hl t (by simp)) hw)
theorem aU5{q:AD}(h8:q.states.length<=12)(hR:AY q)(M:Nat){s:Nat}(hs:s<q.states.length):aFt q M s<4294967296:=by unfold aFt;split;exact KD (by omega);exact aFk h8 hR M s
theorem Ra{q:AD}(h8:q.states.length<=12)(hR:AY q)(S M:Nat){w s:Nat}(hs:s<q.states.length)(hw:w<4294967296):MJ q S M w s<4294967296:=by unfold MJ;split;exact aYx hw (aU5 h8 hR M hs);exact hw
theorem Rj{n i x:Nat}(h:(List.range n)[i]? =some x):x=i/\i<n:=by
 have h1:i<n:=by simpa using (List.getElem?_eq_some_iff.1 h).1
 rw[List.getElem?_range h1,oe]at h;exact⟨h.symm,h1⟩
theorem O5{q:AD}(hF:CY q)(hR:AY q)(S M:Nat)(hM:M<18446744073709551616)(s7:Int)(s:Nat)(s14:List Xc)(s15:Int)(x:Xc):
 aIj (S:Int) (M:Int) s7 (s:Int) s14 s15 (s:Int) q.trans (q.trans.length:Int) q x 0 0=some ((toN q M s:Nat):Int):=by
 have h8:=hF.states
 have ht12:=hF.trans
 have hsy:=hF.symbols
 unfold aIj
 have:=Fo (step:=fun z:Int×Int=>Ih (S:Int) (M:Int) s7 (s:Int) s14 s15 (s:Int) q.trans (q.trans.length:Int) q x z.1 z.2) (fun w:Nat=>(w:Int)) q.trans (toF M s) (fun w=>(w:Int)) (fun _ w=>w<4294967296)
  (fun i t w hx hw=>by
   have hm:=List.mem_of_getElem? hx;have he:=hR.ends t hm;refine⟨?_,aFj h8 hR hm hw⟩;obtain⟨y,hy⟩:∃y:Nat,t.symbol=(y:Int):=⟨t.symbol.toNat,by omega⟩;obtain⟨z,hz⟩:∃z:Nat,t.to=(z:Int):=⟨t.to.toNat,by omega⟩;have hy12:y<12:=by omega
   have hz12:z<12:=by omega
   have hwy:IntKind.wrap .u64 (y:Int)=(y:Int):=BC (by omega);have hwz:IntKind.wrap .u64 (z:Int)=(z:Int):=BC (by omega);simp only[Ih,ltD hx,AG,aIg,AL hx,Ah hx (show q.trans.length<=9223372036854775807 by omega),Vs,hy,hz,hwy,hwz,toF,Int.toNat_natCast];rw[aP1 (by omega),bDl hM (Nat.lt_of_lt_of_le (Nat.pow_lt_pow_right (by decide) (show y<64 by omega)) (by decide)),PT (by omega),ML hw (KD (by omega))];have hb:decide (((M&&&2^y:Nat):Int)=0)= !M.testBit y:=by
    have:=Oo M y;cases hb:M.testBit y with
    |false=>have h0:=this.2 hb;rw[h0];rfl
    |true=>
     have h0:¬M&&&2^y=0:=fun h=>by have:=this.1 h;rw[hb]at this;cases this
     simp;omega
   rw[hb];by_cases hf:t.from_=(s:Int);rw[De,if_pos hf,Aj (by omega)];cases hb2:M.testBit y with
   |true=>simp only[Bool.not_true,Bool.not_false,AG,Aj (show(0:Int)<=(z:Int) by omega),AB,hf,true_and,if_true]
   |false=>simp only[Bool.not_false,Bool.not_true,AF,AB,hf,true_and,Bool.false_eq_true,if_false]
   rw[De,if_neg hf];simp only[AF,AB,hf,false_and,if_false])
  (fun w _=>by simp only[Ih,ltI,AF]) 0 (by decide)
 exact this
theorem bBc{q:AD}(hF:CY q)(hR:AY q){S M:Nat}(hS:S<4294967296)(hM:M<18446744073709551616):Xj q (S:Int) (M:Int)=some ((Du q S M:Nat):Int):=by
 have h8:=hF.states;have hl:(List.range q.states.length).length=q.states.length:=List.length_range;have key:=Fo (step:=fun z:Int×Int=>G7 (S:Int) (M:Int) q.states (q.states.length:Int) q z.1 z.2) (fun w:Nat=>(w:Int)) (List.range q.states.length) (MJ q S M) (fun w=>(w:Int)) (fun _ w=>w<4294967296)
  (fun i s w hx hw=>by
   obtain⟨rfl,hs⟩:=Rj hx;refine⟨?_,Ra h8 hR S M hs hw⟩;obtain⟨x,hxs,_⟩:=AQ hs;have hws:IntKind.wrap .u64 (s:Int)=(s:Int):=BC (by omega);simp only[G7,ltD hxs,AG,aIe,AL hxs,hws,Ah hxs (show q.states.length<=9223372036854775807 by omega),Aj (show(0:Int)<=(s:Int) by omega)];rw[PT (by omega),aQo hS (KD (by omega)),O5 hF hR S M hM];have hb:decide (((S&&&2^s:Nat):Int)=0)= !S.testBit s:=by
    have:=Oo S s;cases hb:S.testBit s with
    |false=>have h0:=this.2 hb;rw[h0];rfl
    |true=>
     have h0:¬S&&&2^s=0:=fun h=>by have:=this.1 h;rw[hb]at this;cases this
     simp;omega
   rw[hb];unfold MJ aFt;rw[hxs];cases hb2:S.testBit s with
   |false=>simp only[Bool.not_false,AG,AB,Bool.false_eq_true,if_false]
   |true=>
    have hto:=aFk h8 hR M s
    simp only[Bool.not_true,AF,AB,if_true,Option.map_some,oe]
    by_cases h0:toN q M s=0
    rw[h0]
    cases hn:x.next with
    |false=>
     simp only[Int.ofNat_zero,Int.natCast_zero,decide_true,AG,OW,Bool.not_false,hws,Aj (show(0:Int)<=(s:Int) by omega),AB,and_self,if_true]
     rw[PT (by omega),ML hw (KD (by omega))]
    |true=>
     simp only[Int.natCast_zero,decide_true,AG,OW,Bool.not_true,AF,AB,Bool.true_eq_false,and_false,if_false]
     rw[show(0:Int)=((0:Nat):Int)from rfl,ML hw (by decide)]
    have hd:decide (((toN q M s:Nat):Int)=0)=false:=by simp;omega
    simp only[hd,AF,OW,AB,h0,false_and,if_false]
    rw[ML hw hto])
  (fun w _=>by rw[hl];simp only[G7,ltI,AF]) 0 (by decide)
 unfold Xj aSn;have key':AR (fun z:Int×Int=>G7 (S:Int) (M:Int) q.states (q.states.length:Int) q z.1 z.2) (0,0)=some ((Du q S M:Nat):Int):=key;rw[key',AB]
theorem PP{q:AD}(hF:CY q)(hR:AY q)(S M:Nat)(hM:M<18446744073709551616)(s7:Int)(s:Nat):
 aIc (S:Int) (M:Int) s7 (s:Int) q 0 0=some ((toN q M s:Nat):Int):=by
 have h8:=hF.states
 have ht12:=hF.trans
 have hsy:=hF.symbols
 unfold aIc
 have:=Fo (step:=fun z:Int×Int=>Ig (S:Int) (M:Int) s7 (s:Int) q z.1 z.2) (fun w:Nat=>(w:Int)) q.trans (toF M s) (fun w=>(w:Int)) (fun _ w=>w<4294967296)
  (fun i t w hx hw=>by
   have hm:=List.mem_of_getElem? hx;have he:=hR.ends t hm;refine⟨?_,aFj h8 hR hm hw⟩;obtain⟨y,hy⟩:∃y:Nat,t.symbol=(y:Int):=⟨t.symbol.toNat,by omega⟩;obtain⟨z,hz⟩:∃z:Nat,t.to=(z:Int):=⟨t.to.toNat,by omega⟩;have hy12:y<12:=by omega
   have hz12:z<12:=by omega
   have hwy:IntKind.wrap .u64 (y:Int)=(y:Int):=BC (by omega);have hwz:IntKind.wrap .u64 (z:Int)=(z:Int):=BC (by omega);simp only[Ig,ltD hx,AG,aH9,AL hx,Ah hx (show q.trans.length<=9223372036854775807 by omega),Vn,hy,hz,hwy,hwz,toF,Int.toNat_natCast];rw[PU (k:=.u64) (s:=y) (show y<64 by omega),bEg,Oq,PT (by omega),ML hw (KD (by omega))];by_cases hf:t.from_=(s:Int);rw[De,if_pos hf,Aj (by omega)];cases hb2:M.testBit y with
   |true=>simp only[if_true,Int.natCast_one,decide_true,AG,Aj (show(0:Int)<=(z:Int) by omega),AB,hf,true_and]
   |false=>simp only[Bool.false_eq_true,if_false,Int.natCast_zero,show decide ((0:Int)=1)=false from rfl,AF,AB,and_false]
   rw[De,if_neg hf];simp only[AF,AB,hf,false_and,if_false])
  (fun w _=>by simp only[Ig,ltI,AF]) 0 (by decide)
 exact this
theorem bBb{q:AD}(hF:CY q)(hR:AY q){S M:Nat}(hS:S<4294967296)(hM:M<18446744073709551616):Xi q (S:Int) (M:Int)=some ((Du q S M:Nat):Int):=by
 have h8:=hF.states;have hl:(List.range q.states.length).length=q.states.length:=List.length_range;have key:=Fo (step:=fun z:Int×Int=>G6 (S:Int) (M:Int) q z.1 z.2) (fun w:Nat=>(w:Int)) (List.range q.states.length) (MJ q S M) (fun w=>(w:Int)) (fun _ w=>w<4294967296)
  (fun i s w hx hw=>by
   obtain⟨rfl,hs⟩:=Rj hx;refine⟨?_,Ra h8 hR S M hs hw⟩;obtain⟨x,hxs,_⟩:=AQ hs;have hws:IntKind.wrap .u64 (s:Int)=(s:Int):=BC (by omega);simp only[G6,ltD hxs,AG,aH7,AL hxs,hws,Ah hxs (show q.states.length<=9223372036854775807 by omega),Aj (show(0:Int)<=(s:Int) by omega)];rw[PU (k:=.u32) (s:=s) (show s<32 by omega),bEg,Oq,PP hF hR S M hM];unfold MJ aFt;rw[hxs];cases hb2:S.testBit s with
   |false=>simp only[Bool.false_eq_true,if_false,Int.natCast_zero,decide_true,AG,AB]
   |true=>
    have hto:=aFk h8 hR M s
    simp only[if_true,Int.natCast_one,show decide ((1:Int)=0)=false from rfl,AF,AB,Option.map_some,oe]
    by_cases h0:toN q M s=0
    rw[h0]
    cases hn:x.next with
    |false=>
     simp only[Int.natCast_zero,decide_true,AG,OV,Bool.not_false,hws,Aj (show(0:Int)<=(s:Int) by omega),AB,and_self,if_true]
     rw[PT (by omega),ML hw (KD (by omega))]
    |true=>
     simp only[Int.natCast_zero,decide_true,AG,OV,Bool.not_true,AF,AB,Bool.true_eq_false,and_false,if_false]
     rw[show(0:Int)=((0:Nat):Int)from rfl,ML hw (by decide)]
    have hd:decide (((toN q M s:Nat):Int)=0)=false:=by simp;omega
    simp only[hd,AF,OV,AB,h0,false_and,if_false]
    rw[ML hw hto])
  (fun w _=>by rw[hl];simp only[G6,ltI,AF]) 0 (by decide)
 unfold Xi aSm;have key':AR (fun z:Int×Int=>G6 (S:Int) (M:Int) q z.1 z.2) (0,0)=some ((Du q S M:Nat):Int):=key;rw[key',AB]
structure B6(q:AD):Prop where
 frees:q.frees=[]
 quants:q.quants.length<=1
 states:q.states.length<=8
 symbols:q.symbols.length<=8
 guards:∀t∈q.trans,t.guard= -1
theorem bCg{q:AD}(hF:CY q):∃r,Yv q=some r/\(r=true->B6 q):=by
 have ht:=hF.trans;obtain⟨o,ho,hQ⟩:=Am (step:=fun s=>FH q s) q.trans.length (fun i=>∀t,q.trans[i]? =some t->t.guard= -1) (fun o=>o=Sum.inl ()->∀t∈q.trans,t.guard= -1)
  (fun i hi=>by obtain⟨x,hx,_⟩:=AQ hi;simp only[FH,ltD hx,AG,AL hx,Ah hx (show q.trans.length<=9223372036854775807 by omega)];by_cases h:x.guard= -1;exact .inl ⟨by rw[decide_eq_true h];rfl,fun t h2=>by rw[hx,oe]at h2;exact h2▸h⟩;exact .inr ⟨.inr (),by rw[decide_eq_false h];rfl,fun h=>by cases h⟩)
  (fun hall=>⟨.inl (),by simp only[FH,ltI,AF],fun _=>Eg hall⟩)
 have ho':aAa q 0=some o:=ho;unfold Yv;refine Ar (fun _=>⟨_,rfl,by simp⟩) (fun h1=>?_);refine Ar (fun _=>⟨_,rfl,by simp⟩) (fun h2=>?_);refine Ar (fun _=>⟨_,rfl,by simp⟩) (fun h3=>?_);refine Ar (fun _=>⟨_,rfl,by simp⟩) (fun h4=>?_);refine Ao ho' ?_;rcases o with⟨⟩|⟨⟩
 rw[BY];exact⟨_,rfl,fun _=>⟨List.eq_nil_of_length_eq_zero (by omega),by omega,by omega,by omega,hQ rfl⟩⟩;rw[D8];exact⟨_,rfl,by simp⟩
theorem aZ2(q:AD)(b:List X2)(hb:b.length<=9223372036854775807):∃r,Qz q b=some r/\(r=true->BR b):=by unfold Qz;refine Ar (fun h=>⟨_,rfl,fun _=>?_⟩) (fun _=>?_);have:b=[]:=List.eq_nil_of_length_eq_zero (by omega);subst this;exact⟨List.Pairwise.nil,by simp⟩;refine Ar (fun h1=>?_) (fun _=>⟨_,rfl,by simp⟩);refine Ar (fun h2=>?_) (fun _=>⟨_,rfl,by simp⟩);obtain⟨x,hx,_⟩:=AQ (l:=b) (i:=0) (by omega);obtain⟨y,hy,_⟩:=AQ (l:=q.quants) (i:=0) (by omega);rw[show(0:Int)=((0:Nat):Int)from rfl,AL hx];refine Ar (fun h3=>?_) (fun _=>⟨_,rfl,by simp⟩);rw[AL hx,AL hy];refine Ar (fun h4=>?_) (fun _=>⟨_,rfl,by simp⟩);obtain⟨r,hr,hR⟩:=Nq b hb;exact Ao hr ⟨_,rfl,hR⟩
def CV(n:Nat)(c:X3):Prop:=c.vals=[]/\0<=c.state/\c.state<n
theorem CV.ext{n:Nat}{a b:X3}(ha:CV n a)(hb:CV n b)(h:a.state=b.state):a=b:=by cases a;cases b;have h1:=ha.1;have h2:=hb.1;simp only at h h1 h2;subst h;subst h1;subst h2;rfl
theorem aTc{n:Nat}{a b:X3}(ha:CV n a)(hb:CV n b):Yd a b=some (decide (a.state<b.state)):=by unfold Yd;by_cases h:a.state=b.state;rw[decide_eq_true h];simp only[Bool.not_true,AF];rw[aLv];unfold FD;rw[ha.1,hb.1];simp[AE,B1,AH,Ba,h];rw[decide_eq_false h];rfl
theorem aZs{n:Nat}{a b:X3}(ha:CV n a)(hb:CV n b):Qc a b=some (decide (a=b)):=by
 unfold Qc;rw[aTc ha hb,AB,aTc hb ha,AB];by_cases h:a=b;subst h;simp[AE];have hne:a.state≠b.state:=fun e=>h (ha.ext hb e);by_cases h1:a.state<b.state;simp[h1,AE,h];have h2:b.state<a.state:=by omega
 simp[h1,h2,AE,h]
theorem TK{i:Nat}(h:0<i)(hi:i<=1000000):AA .sub .i64 (i:Int) 1=((i-1:Nat):Int):=by have:IntKind.wrap .i64 ((i:Int)-1)=(i:Int)-1:=IntWalk.i64_in _ ⟨by omega,by omega⟩;show IntKind.wrap .i64 ((i:Int)-1)=_;rw[this];omega
theorem aPw{n:Nat}{w:List X3}{c:X3}(hw:∀x∈w,CV n x)(hc:CV n c)(hl:w.length<=100000):∃k:Nat,k<=w.length/\Lf w c (w.length:Int)=some (k:Int)/\Mw w c (w.length:Int)=some (k:Int):=by
 suffices∀i:Nat,i<=w.length->∃k:Nat,k<=w.length/\Lf w c (i:Int)=some (k:Int)/\Mw w c (i:Int)=some (k:Int)from this _ (Nat.le_refl _)
 intro i;induction i with
 |zero=>
  intro _
  refine⟨0,Nat.zero_le _,?_,?_⟩
  rw[Et];simp[Eb,AE,B1]
  rw[GN];simp[FF,AE,B1]
 |succ i ih=>
  intro hi
  obtain⟨x,hx,_⟩:=AQ (l:=w) (i:=i) (by omega)
  have hL:=aTc hc (hw x (List.mem_of_getElem? hx))
  have hs:AA .sub .i64 ((i+1:Nat):Int) 1=(i:Int):=by rw[TK (by omega) (by omega)];simp
  have hpos:decide ((0:Int)<((i+1:Nat):Int))=true:=decide_eq_true (by omega)
  by_cases h:c.state<x.state
  obtain⟨k,hk,h1,h2⟩:=ih (by omega)
  refine⟨k,hk,?_,?_⟩
  rw[Et]
  simp only[Eb,hpos,AG,hs,AL hx,hL,AB,h,decide_true,BF]
  exact h1
  rw[GN]
  simp only[FF,hpos,AG,hs,Aj (show(0:Int)<=(i:Int)/\(i:Int)+1<=(w.length:Int) by omega),AL hx,hL,AB,h,decide_true,BF]
  exact h2
  refine⟨i+1,hi,?_,?_⟩
  rw[Et]
  simp only[Eb,hpos,AG,hs,AL hx,hL,AB,h,decide_false,AF,Ae]
  rw[GN]
  simp only[FF,hpos,AG,hs,Aj (show(0:Int)<=(i:Int)/\(i:Int)+1<=(w.length:Int) by omega),AL hx,hL,AB,h,decide_false,AF,Ae]
def aV8(n:Nat)(w:List X3)(c:X3)(r:List X3):Prop:=(∀x,x∈r↔x=c\/x∈w)/\r.length<=w.length+1
theorem PO{n:Nat}{w:List X3}{c:X3}(k:Nat)(hk:k<=w.length):aV8 n w c (w.take k++[c]++w.drop k):=by
 constructor;intro x;rw[List.append_assoc,ma,ma,List.mem_singleton];have h:=List.take_append_drop k w;constructor;rintro(h1|h1|h1);exact .inr (List.mem_of_mem_take h1);exact .inl h1;exact .inr (List.mem_of_mem_drop h1);rintro(h1|h1);exact .inr (.inl h1);rw[<-h,ma]at h1;rcases h1 with h1|h1
 exact .inl h1;exact .inr (.inr h1);simp only[List.length_append,List.length_take,List.length_drop,List.length_cons,List.length_nil];omega
theorem Gk{α:Type}(w:List α)(k:Nat):sub w 0 (k:Int)=w.take k:=by simp[sub]
theorem Gj{α:Type}(w:List α)(k:Nat):sub w (k:Int) (w.length:Int)=w.drop k:=by simp[sub]
theorem aXs{n:Nat}{w:List X3}{c:X3}(hw:∀x∈w,CV n x)(hc:CV n c)(hl:w.length<=100000):(∃r,Y6 w c=some r/\aV8 n w c r)/\∃r,Yo c w=some r/\aV8 n w c r:=by
 obtain⟨k,hk,h1,h2⟩:=aPw hw hc hl;have hmid:=PO (n:=n) (w:=w) (c:=c) k hk;have hsame:c∈w->aV8 n w c w:=fun h=>⟨fun x=>⟨.inr,fun hx=>hx.elim (fun e=>e▸h) id⟩,by omega⟩;have e1:(AU ((0:Int)<=0/\(0:Int)<=(k:Int)/\(k:Int)<=(w.length:Int)) (
  AU (fit ([]:List X3).length (sub w 0 (k:Int)).length 32) (
   AU (fit (([]:List X3)++(sub w 0 (k:Int))).length [c].length 32) (
    AU ((0:Int)<=(k:Int)/\((k:Int):Int)<=(w.length:Int)/\(w.length:Int)<=(w.length:Int)) (
     AU (fit ((([]:List X3)++(sub w 0 (k:Int)))++[c]).length (sub w (k:Int) (w.length:Int)).length 32) (
      some (((([]:List X3)++(sub w 0 (k:Int)))++[c])++(sub w (k:Int) (w.length:Int)))))))):Option (List X3))=some (w.take k++[c]++w.drop k):=by
  rw[Gk,Gj,Aj (by omega),Ff (by simp;omega) (by decide),Ff (by simp;omega) (by decide),Aj (by omega),Ff (by simp;omega) (by decide),List.nil_append]
 have e2:(AU ((0:Int)<=0/\(0:Int)<=(k:Int)/\(k:Int)<=(w.length:Int)) (
  AU (fit ([]:List X3).length (sub w 0 (k:Int)).length 32) (
   AU (fit (sub w 0 (k:Int)).length [c].length 32) (
    AU ((0:Int)<=(k:Int)/\(k:Int)<=(w.length:Int)/\(w.length:Int)<=(w.length:Int)) (
     AU (fit ((sub w 0 (k:Int))++[c]).length (sub w (k:Int) (w.length:Int)).length 32) (
      some (((sub w 0 (k:Int))++[c])++(sub w (k:Int) (w.length:Int)))))))):Option (List X3))=some (w.take k++[c]++w.drop k):=by
  rw[Gk,Gj,Aj (by omega),Ff (by simp;omega) (by decide),Ff (by simp;omega) (by decide),Aj (by omega),Ff (by simp;omega) (by decide)]
 unfold Y6 Yo;rw[h1,AB,h2,AB];by_cases h0:0<k;obtain⟨x,hx,_⟩:=AQ (l:=w) (i:=k-1) (by omega);have hs:=TK h0 (by omega);have hO:=aZs (hw x (List.mem_of_getElem? hx)) hc;have hpos:decide ((0:Int)<(k:Int))=true:=decide_eq_true (by omega);simp only[hpos,AG,hs,AL hx,hO,AB,e1,e2,Aj (show(0:Int)<=((k-1:Nat):Int)/\((k-1:Nat):Int)+1<=(w.length:Int) by omega)];by_cases hxc:x=c;simp only[hxc,decide_true,AG];have hm:c∈w:=hxc▸List.mem_of_getElem? hx;exact⟨⟨w,rfl,hsame hm⟩,⟨w,rfl,hsame hm⟩⟩;simp only[hxc,decide_false,AF];exact⟨⟨_,rfl,hmid⟩,⟨_,rfl,hmid⟩⟩;have hpos:decide ((0:Int)<(k:Int))=false:=decide_eq_false (by omega);simp only[hpos,AF,e1,e2];exact⟨⟨_,rfl,hmid⟩,⟨_,rfl,hmid⟩⟩
theorem aV8.cv{n:Nat}{w r:List X3}{c:X3}(h:aV8 n w c r)(hw:∀x∈w,CV n x)(hc:CV n c):∀x∈r,CV n x:=fun x hx=>by
 rcases(h.1 x).1 hx with rfl|h
 exact hc;exact hw x h
theorem TN{q:AD}{t:X6}{f r:Int}(hfr:q.frees=[])(h:Xn q t f=some (r,true)):t.sets=[]:=by
 cases hs:t.sets with
 |nil=>rfl
 |cons x l=>
  exfalso
  have hno:∀o3 o12,SD f q t o3 0=some o12->o12=.inr ():=by
   intro o3 o12 h2;have hx:t.sets[0]? =some x:=by rw[hs];rfl
   rw[aI0]at h2;unfold EH at h2;rw[show(0:Int)=((0:Nat):Int)from rfl,ltD hx,AG,AL hx]at h2;cases hk:Qi q o3 x.expr with
   |none=>rw[hk]at h2;cases h2
   |some r6=>
    rw[hk,AB,hfr]at h2
    by_cases g1:x.free<0
    rw[decide_eq_true (show x.free<((0:Nat):Int)from g1)]at h2
    simp only[AG,Ae,oe]at h2
    exact h2.symm
    rw[decide_eq_false (show¬x.free<((0:Nat):Int)from g1),decide_eq_true (show((([]:List Yh).length:Int)<=x.free) by simp;omega)]at h2
    simp only[AG,AF,Ae,oe]at h2
    exact h2.symm
  unfold Xn at h
  rcases iS h with⟨_,h⟩|⟨_,h⟩
  cases h
  rcases iS h with⟨_,h⟩|⟨_,h⟩
  cases h
  rcases iS h with⟨_,h⟩|⟨_,h⟩
  cases h
  rcases iS h with⟨_,h⟩|⟨_,h⟩
  cases h
  rcases iS h with⟨_,h⟩|⟨_,h⟩
  cases h
  rcases iS h with⟨_,h⟩|⟨_,h⟩
  cases h
  obtain⟨o2,_,h⟩:=bS h
  rcases AJ h with⟨o3,_,h⟩|⟨o4,_,h⟩
  obtain⟨o12,h12,h⟩:=bS h
  have e:=hno _ _ h12
  subst e
  rw[D8]at h
  cases h
  cases h
theorem TF{q:AD}(hR:AY q)(hS:B6 q):∀t∈q.trans,t.sets=[]:=fun t ht=>by obtain⟨f,r,h⟩:=hR.fires t ht;exact TN hS.frees h
theorem K9:∀(al:List CN) (xs:List X0) (b:List X2) (p:List X2×List X2),(∀a∈al,a.kind≠3)->GK al xs b []=some p->p.2=[]
 |[],xs,b,p,_,h=>by
  cases xs<;>(simp only[GK,oe]at h;subst h;rfl)
 |a::al,[],b,p,_,h=>by simp only[GK,oe]at h;subst h;rfl
 |a::al,x::xs,b,p,hk,h=>by
  have ih:=fun b' h'=>K9 al xs b' p (fun a ha=>hk a (List.mem_cons_of_mem _ ha)) h';rw[GK]at h;split at h;split at h;exact ih _ h;cases h;split at h;split at h;cases h;exact ih _ h;split at h;exact absurd (by assumption) (hk a (by simp));exact ih _ h
theorem aDu{q:AD}(hR:AY q)(hS:B6 q){e:X4}{i:Nat}{h:Ad}(hh:F1 q i e=some h):h.frees=[]:=by unfold F1 at hh;split at hh;cases hh;rename_i s hs;split at hh;cases hh;split at hh;rw[om]at hh;obtain⟨p,hp,rfl⟩:=hh;refine K9 _ _ _ _ (fun a ha h3=>?_) hp;have:=((hR.symbols s (List.mem_of_getElem? hs)).args a ha).three h3;rw[hS.frees]at this;simp at this;omega;cases hh
theorem aOz{q:AD}(hR:AY q)(hS:B6 q){i:Nat}{t:X6}(ht:q.trans[i]? =some t){c:X3}(hc:c.vals=[]){h:Ad}(hf:h.frees=[]):U1 q (i:Int) c h=some (X3.mk t.to [],true,0):=by
 have hm:=List.mem_of_getElem? ht;have hg:=hS.guards t hm;have hs:=TF hR hS t hm;have h1:Z4 c.vals h.frees=some []:=by unfold Z4 aNf;rw[hc,hf,An];simp[HN,AE,B1,AH,AU,fit]
 have h2:U0 q (i:Int) h.bind []=some (true,0):=by unfold U0;rw[AL ht,hg];rfl
 have h3:Z5 q (i:Int) h.bind []=some ([],0):=by unfold Z5;rw[AL ht,hs];unfold aNh;rw[An];simp[HO,AE,B1,AH,AU,fit,Ba]
 unfold U1;rw[h1,AB,h2,AB];simp only[decide_true,Bool.not_true,AF];rw[h3,AB];simp only[decide_true,Bool.not_true,AF,AL ht]
structure Mo(l:List Ad):Prop where
 frees:∀h∈l,h.frees=[]
 rise:l.Pairwise fun a b=>a.symbol<b.symbol
 len:l.length<=1000
theorem Mo.ne{l:List Ad}(h:Mo l){i j:Nat}{a b:Ad}(hi:l[i]? =some a)(hj:l[j]? =some b)(hlt:i<j):a.symbol≠b.symbol:=by have h1:=(List.getElem?_eq_some_iff.1 hi);have h2:=(List.getElem?_eq_some_iff.1 hj);obtain⟨p1,e1⟩:=h1;obtain⟨p2,e2⟩:=h2;have:=List.pairwise_iff_getElem.1 h.rise i j p1 p2 hlt;rw[e1,e2]at this;omega
theorem aRj:Qt 0 0=some 0:=rfl
theorem Ti{q:AD}(hF:CY q)(hR:AY q)(hS:B6 q){l:List Ad}(hl:Mo l){ti:Nat}{t:X6}(ht:q.trans[ti]? =some t){c:X3}(hc:c.vals=[])(w0:List X3)(hw0:∀x∈w0,CV q.states.length x)(hb:w0.length<=500):
 ∃w,aH1 l (ti:Int) q c 0 0 w0=some (0,w)/\(∀x∈w,CV q.states.length x)/\w.length<=w0.length+1/\∀x,x∈w↔x∈w0\/(x=X3.mk t.to []/\∃h∈l,h.symbol=t.symbol):=by
 have hte:=hR.ends t (List.mem_of_getElem? ht)
 have hcv:CV q.states.length (X3.mk t.to []):=⟨rfl,hte.2.2.1,hte.2.2.2⟩
 obtain⟨o,ho,w,rfl,hQ⟩:=Ap (step:=fun s:Int×Int×List X3=>E6 l (ti:Int) q c s.1 s.2.1 s.2.2)
  (fun s=>∃(j:Nat) (w:List X3),s=(0,(j:Int),w)/\j<=l.length/\(∀x∈w,CV q.states.length x)/\w.length<=w0.length+1/\((¬ ∃i,i<j/\∃h,l[i]? =some h/\h.symbol=t.symbol)->w.length<=w0.length)/\∀x,x∈w↔x∈w0\/(x=X3.mk t.to []/\∃i,i<j/\∃h,l[i]? =some h/\h.symbol=t.symbol))
  (fun s=>(l.length-s.2.1).toNat)
  (fun o=>∃w,o=((0:Int),w)/\(∀x∈w,CV q.states.length x)/\w.length<=w0.length+1/\∀x,x∈w↔x∈w0\/(x=X3.mk t.to []/\∃h∈l,h.symbol=t.symbol))
  (by
   rintro s ⟨j,w,rfl,hj,hcw,hlen,hno,hm⟩;by_cases he:j=l.length;subst he;refine .inl ⟨(0,w),by simp only[E6,ltI,AF],w,rfl,hcw,hlen,fun x=>?_⟩;rw[hm x];constructor;rintro(h|⟨h,i,hi,a,ha,hs⟩);exact .inl h;exact .inr ⟨h,a,List.mem_of_getElem? ha,hs⟩;rintro(h|⟨h,a,ha,hs⟩);exact .inl h;obtain⟨i,hi⟩:=List.mem_iff_getElem?.1 ha;exact .inr ⟨h,i,(List.getElem?_eq_some_iff.1 hi).1,a,hi,hs⟩;right;obtain⟨y,hy,_⟩:=AQ (l:=l) (i:=j) (by omega);have hln:=hl.len;simp only[E6,ltD hy,AG,Vb,AL hy,AL ht,Ah hy (show l.length<=9223372036854775807 by omega)];by_cases hs:y.symbol=t.symbol;have hnone:¬ ∃i,i<j/\∃h,l[i]? =some h/\h.symbol=t.symbol:=by rintro⟨i,hi,a,ha,has⟩;exact hl.ne ha hy hi (by rw[has,hs])
   have hwl:=hno hnone;obtain⟨r,hr,hP⟩:=(aXs (w:=w) (c:=X3.mk t.to []) hcw hcv (by omega)).2;have hP2:=hP.2;refine⟨((0:Int),((j+1:Nat):Int),r),?_,⟨j+1,r,rfl,by omega,hP.cv hcw hcv,by omega,fun h=>absurd ⟨j,by omega,y,hy,hs⟩ h,fun x=>?_⟩,by simp only;omega⟩;rw[decide_eq_true hs];simp only[Bool.not_true,AF,aOz hR hS ht hc (hl.frees y (List.mem_of_getElem? hy)),AB,aRj,Vc,AG,hr];rw[hP.1 x,hm x];constructor;rintro(h|h|⟨h,i,hi,a⟩);exact .inr ⟨h,j,by omega,y,hy,hs⟩;exact .inl h;exact .inr ⟨h,i,by omega,a⟩;rintro(h|⟨h,i,hi,a⟩);exact .inr (.inl h);exact .inl h;refine⟨((0:Int),((j+1:Nat):Int),w),?_,⟨j+1,w,rfl,by omega,hcw,hlen,fun h=>hno fun⟨i,hi,a⟩=>h ⟨i,by omega,a⟩,fun x=>?_⟩,by simp only;omega⟩;rw[decide_eq_false hs];rfl;rw[hm x];constructor;rintro(h|⟨h,i,hi,a⟩);exact .inl h;exact .inr ⟨h,i,by omega,a⟩;rintro(h|⟨h,i,hi,a,ha,has⟩);exact .inl h;refine .inr ⟨h,i,?_,a,ha,has⟩;rcases Nat.lt_or_ge i j with g|g
   exact g;have:i=j:=by omega
   subst this;rw[hy,oe]at ha;subst ha;exact absurd has hs)
  ((0:Int),(0:Int),w0) ⟨0,w0,rfl,by omega,hw0,by omega,fun _=>Nat.le_refl _,fun x=>by simp⟩
 exact⟨w,ho,hQ⟩
def OI(q:AD)(l:List Ad)(c x:X3):Prop:=∃t∈q.trans,t.from_=c.state/\(∃h∈l,h.symbol=t.symbol)/\x=X3.mk t.to []
theorem Th{q:AD}(hF:CY q)(hR:AY q)(hS:B6 q){l:List Ad}(hl:Mo l){c:X3}(hc:c.vals=[]):
 ∃w,aHz l q c 0 0 []=some (0,w)/\(∀x∈w,CV q.states.length x)/\w.length<=12/\∀x,x∈w↔OI q l c x:=by
 have ht12:=hF.trans
 obtain⟨o,ho,w,rfl,hQ⟩:=Ap (step:=fun s:Int×Int×List X3=>E5 l q c s.1 s.2.1 s.2.2)
  (fun s=>∃(j:Nat) (w:List X3),s=(0,(j:Int),w)/\j<=q.trans.length/\(∀x∈w,CV q.states.length x)/\w.length<=j/\∀x,x∈w↔ ∃i,i<j/\∃t,q.trans[i]? =some t/\t.from_=c.state/\(∃h∈l,h.symbol=t.symbol)/\x=X3.mk t.to [])
  (fun s=>(q.trans.length-s.2.1).toNat)
  (fun o=>∃w,o=((0:Int),w)/\(∀x∈w,CV q.states.length x)/\w.length<=12/\∀x,x∈w↔OI q l c x)
  (by
   rintro s ⟨j,w,rfl,hj,hcw,hlen,hm⟩;by_cases he:j=q.trans.length;subst he;refine .inl ⟨(0,w),by simp only[E5,ltI,AF],w,rfl,hcw,by omega,fun x=>?_⟩;rw[hm x];constructor;rintro⟨i,hi,t,ht,a⟩;exact⟨t,List.mem_of_getElem? ht,a⟩;rintro⟨t,ht,a⟩;obtain⟨i,hi⟩:=List.mem_iff_getElem?.1 ht;exact⟨i,(List.getElem?_eq_some_iff.1 hi).1,t,hi,a⟩;right;obtain⟨t,ht,_⟩:=AQ (l:=q.trans) (i:=j) (by omega);simp only[E5,ltD ht,AG,Va,AL ht,Ah ht (show q.trans.length<=9223372036854775807 by omega)];by_cases hf:t.from_=c.state;obtain⟨r,hr,hrc,hrl,hrm⟩:=Ti hF hR hS hl ht hc w hcw (by omega);refine⟨((0:Int),((j+1:Nat):Int),r),?_,⟨j+1,r,rfl,by omega,hrc,by omega,fun x=>?_⟩,by simp only;omega⟩;rw[decide_eq_true hf];simp only[Bool.not_true,AF,hr,AB];rw[hrm x,hm x];constructor;rintro(⟨i,hi,a⟩|⟨h,a⟩);exact⟨i,by omega,a⟩;exact⟨j,by omega,t,ht,hf,a,h⟩;rintro⟨i,hi,t2,ht2,hf2,hh,hx⟩;rcases Nat.lt_or_ge i j with g|g
   exact .inl ⟨i,g,t2,ht2,hf2,hh,hx⟩;have:i=j:=by omega
   subst this;rw[ht,oe]at ht2;subst ht2;exact .inr ⟨hx,hh⟩;refine⟨((0:Int),((j+1:Nat):Int),w),?_,⟨j+1,w,rfl,by omega,hcw,by omega,fun x=>?_⟩,by simp only;omega⟩;rw[decide_eq_false hf];rfl;rw[hm x];constructor;rintro⟨i,hi,a⟩;exact⟨i,by omega,a⟩;rintro⟨i,hi,t2,ht2,hf2,a⟩;rcases Nat.lt_or_ge i j with g|g
   exact⟨i,g,t2,ht2,hf2,a⟩;have:i=j:=by omega
   subst this;rw[ht,oe]at ht2;subst ht2;exact absurd hf2 hf)
  ((0:Int),(0:Int),[]) ⟨0,[],rfl,by omega,by simp,by simp,fun x=>by simp⟩
 exact⟨w,ho,hQ⟩
def bEn(q:AD)(l:List Ad)(c x:X3):Prop:=OI q l c x\/((∀y,¬OI q l c y)/\(∃s,q.states[c.state.toNat]? =some s/\s.next=false)/\x=c)
theorem bA9{q:AD}(hF:CY q)(hR:AY q)(hS:B6 q){l:List Ad}(hl:Mo l){c:X3}(hc:CV q.states.length c):
 ∃w,Xg q c l=some (w,0)/\(∀x∈w,CV q.states.length x)/\w.length<=12/\∀x,x∈w↔bEn q l c x:=by
 obtain⟨w,hw,hcw,hlen,hm⟩:=Th hF hR hS hl hc.1
 obtain⟨s,hs,hc0⟩:=Hu (l:=q.states) (i:=c.state) hc.2.1 hc.2.2
 unfold Xg
 rw[hw,AB]
 simp only[decide_true,Bool.not_true,AF]
 by_cases h0:w=[]
 subst h0
 have hno:∀y,¬OI q l c y:=fun y h=>by have:=(hm y).2 h;simp at this
 rw[show decide ((([]:List X3).length:Int)=0)=true from rfl,AG,B5 hs hc.2.1]
 cases hn:s.next with
 |false=>
  refine⟨[c],by simp[R8,AE,AH,AU,fit],fun x hx=>by rw[List.mem_singleton.1 hx];exact hc,by simp,fun x=>?_⟩
  rw[List.mem_singleton]
  exact⟨fun h=>.inr ⟨hno,⟨s,hs,hn⟩,h⟩,fun h=>h.elim (fun h=>absurd h (hno x)) fun h=>h.2.2⟩
 |true=>
  refine⟨[],rfl,by simp,by simp,fun x=>⟨fun h=>by simp at h,fun h=>?_⟩⟩
  rcases h with h|⟨_,⟨s2,hs2,hn2⟩,_⟩
  exact absurd h (hno x)
  rw[hs,oe]at hs2;subst hs2;rw[hn]at hn2;cases hn2
 have hd:decide ((w.length:Int)=0)=false:=decide_eq_false fun h=>h0 (List.eq_nil_of_length_eq_zero (by omega))
 rw[hd,AF]
 refine⟨w,rfl,hcw,hlen,fun x=>?_⟩
 rw[hm x]
 refine⟨.inl,fun h=>h.elim id fun h=>?_⟩
 cases w with
 |nil=>exact absurd rfl h0
 |cons y w=>exact absurd ((hm y).1 (by simp)) (h.1 y)
def ga(w:List Int)(i:Nat):Int:=w.getD i 0
def swp(w:List Int)(i j:Nat):List Int:=(w.set i (ga w j)).set j (ga w i)
theorem B4(w:List Int)(i j:Nat):(swp w i j).length=w.length:=by unfold swp;rw[List.length_set,List.length_set]
theorem E1{w:List Int}{i j:Nat}(hi:i<w.length)(hj:j<w.length)(k:Nat):ga (swp w i j) k=if k=j then ga w i else if k=i then ga w j else ga w k:=by unfold swp ga;simp only[List.getD_eq_getElem?_getD,List.getElem?_set,List.length_set];by_cases h1:k=j;subst h1;simp[hj];rw[if_neg (fun e=>h1 e.symm),if_neg h1];by_cases h2:k=i;subst h2;simp[hi];rw[if_neg (fun e=>h2 e.symm),if_neg h2]
theorem Jw{w:List Int}{i:Nat}(h:i<w.length):w[i]=ga w i:=by unfold ga;simp[h]
theorem aP4{w:List Int}{i j:Nat}(hi:i<w.length)(hj:j<w.length):(swp w i j).Perm w:=by have:=List.set_set_perm hi hj;rw[Jw hi,Jw hj]at this;exact this
structure Pm(a b:Nat)(w w':List Int):Prop where
 perm:w'.Perm w
 out:∀i,i<a\/b<=i->ga w' i=ga w i
 src:∀j,a<=j->j<b->∃i,a<=i/\i<b/\ga w' j=ga w i
theorem Pm.len{a b:Nat}{w w':List Int}(h:Pm a b w w'):w'.length=w.length:=h.perm.length_eq
theorem Pm.refl(a b:Nat)(w:List Int):Pm a b w w:=⟨List.Perm.refl _,fun _ _=>rfl,fun j h1 h2=>⟨j,h1,h2,rfl⟩⟩
theorem Pm.trans{a b:Nat}{w w1 w2:List Int}(h:Pm a b w w1)(k:Pm a b w1 w2):Pm a b w w2:=
 ⟨k.perm.trans h.perm,fun i hi=>(k.out i hi).trans (h.out i hi),fun j h1 h2=>by obtain⟨i,a1,a2,a3⟩:=k.src j h1 h2;obtain⟨i2,b1,b2,b3⟩:=h.src i a1 a2;exact⟨i2,b1,b2,a3.trans b3⟩⟩
theorem Pm.mono{a b a' b':Nat}{w w1:List Int}(h:Pm a b w w1)(h1:a'<=a)(h2:b<=b'):Pm a' b' w w1:=
 ⟨h.perm,fun i hi=>h.out i (by omega),fun j j1 j2=>by by_cases hj:a<=j/\j<b;obtain⟨i,a1,a2,a3⟩:=h.src j hj.1 hj.2;exact⟨i,by omega,by omega,a3⟩;exact⟨j,j1,j2,h.out j (by omega)⟩⟩
theorem Pm.swp{a b:Nat}{w:List Int}{i j:Nat}(hi:a<=i/\i<b)(hj:a<=j/\j<b)(hb:b<=w.length):Pm a b w (swp w i j):=by
 have h1:i<w.length:=by omega
 have h2:j<w.length:=by omega
 refine⟨aP4 h1 h2,fun k hk=>?_,fun k k1 k2=>?_⟩;rw[E1 h1 h2,if_neg (by omega),if_neg (by omega)];rw[E1 h1 h2];split;exact⟨i,hi.1,hi.2,rfl⟩;split;exact⟨j,hj.1,hj.2,rfl⟩;exact⟨k,k1,k2,rfl⟩
section
variable {β:Type}
theorem E3{w:List Int}{n:Nat}(h:n<w.length)(k:Int->Option β):AS w (n:Int) k=k (ga w n):=by refine AL ?_ k;rw[List.getElem?_eq_getElem h,Jw h]
theorem Fg{w:List Int}{n:Nat}(h:n<w.length)(k:Option β):AU (0<=(n:Int)/\(n:Int)+1<=(w.length:Int)) k=k:=Aj ⟨by omega,by omega⟩ k
theorem ltT{i j:Nat}(h:i<j)(x y:Option β):AE (decide ((i:Int)<(j:Int))) x y=x:=by rw[decide_eq_true (by omega)];rfl
theorem ltF{i j:Nat}(h:¬i<j)(x y:Option β):AE (decide ((i:Int)<(j:Int))) x y=y:=by rw[decide_eq_false (by omega)];rfl
theorem leT{i j:Nat}(h:i<=j)(x y:Option β):AE (decide ((i:Int)<=(j:Int))) x y=x:=by rw[decide_eq_true (by omega)];rfl
theorem leF{i j:Nat}(h:¬i<=j)(x y:Option β):AE (decide ((i:Int)<=(j:Int))) x y=y:=by rw[decide_eq_false (by omega)];rfl
end
theorem Gm{n:Nat}(h:n<=4611686018427387904):AA .add .i64 (n:Int) 1=((n+1:Nat):Int):=KN (by omega)
theorem D1{n:Nat}(h:1<=n/\n<=4611686018427387904):AA .sub .i64 (n:Int) 1=((n-1:Nat):Int):=by rw[TJ (by omega) (by omega)];omega
theorem QO{n m:Nat}(h:n+m<=4611686018427387904):AA .add .i64 (n:Int) (m:Int)=((n+m:Nat):Int):=by rw[Mg (by omega) (by omega)];omega
theorem aFd{n m:Nat}(h:m<=n/\n<=4611686018427387904):AA .sub .i64 (n:Int) (m:Int)=((n-m:Nat):Int):=by rw[TJ (by omega) (by omega)];omega
theorem B0(a b:Int):Yj a b=some (decide (a<b)):=by unfold Yj Qr;simp[AH,AE]
theorem bDt(a i:Nat)(s2 s6:Int):∀(j:Nat) (w:List Int),w.length<=1000000->i<w.length->a<=j->j<=i->(∀p q,a<=p->p<q->q<=i->q≠j->ga w p<=ga w q)->
 ∃w',SM (a:Int) s2 s6 (j:Int) w=some w'/\Pm a (i+1) w w'/\∀p q,a<=p->p<q->q<=i->ga w' p<=ga w' q:=by
 intro j
 induction j with
 |zero=>
  intro w hl hi ha hj hs
  refine⟨w,?_,Pm.refl _ _ _,fun p q h1 h2 h3=>hs p q h1 h2 h3 (by omega)⟩
  rw[QC]
  unfold E9
  rw[ltF (by omega),Ae]
 |succ j ih=>
  intro w hl hi ha hj hs
  rw[QC]
  by_cases h0:a<j+1
  by_cases h1:ga w (j+1)<ga w j
  have hp:=Pm.swp (a:=a) (b:=i+1) (w:=w) (i:=j+1) (j:=j) ⟨by omega,by omega⟩ ⟨by omega,by omega⟩ (by omega)
  have hg:=E1 (w:=w) (i:=j+1) (j:=j) (by omega) (by omega)
  obtain⟨w',e1,e2,e3⟩:=ih (swp w (j+1) j) (by rw[B4];omega) (by rw[B4];omega) (by omega) (by omega) (fun p q p1 p2 p3 p4=>by have b1:=hs p q p1 p2 p3;have b2:=hs p (j+1) p1;have b3:=hs p j p1;have b4:=hs (j+1) q (by omega);have b5:=hs j q (by omega);rw[hg,hg];by_cases c1:p=j;rw[if_pos c1];by_cases c2:q=j+1;rw[if_neg (by omega),if_pos c2];omega;rw[if_neg (by omega),if_neg c2];exact b4 (by omega) p3 c2;rw[if_neg c1];by_cases c2:p=j+1;rw[if_pos c2,if_neg (by omega),if_neg (by omega)];exact b5 (by omega) p3 (by omega);rw[if_neg c2];by_cases c3:q=j+1;rw[if_neg (by omega),if_pos c3];exact b3 (by omega) (by omega) (by omega);rw[if_neg (by omega),if_neg c3];exact b1 c3)
  refine⟨w',?_,hp.trans e2,e3⟩
  rw[<-e1]
  unfold E9
  rw[ltT h0]
  simp (disch:=omega) only[D1,Nat.add_sub_cancel,Fg,E3,B0,AB,h1,decide_true,AG,List.length_set,Int.toNat_natCast,BF]
  rfl
  refine⟨w,?_,Pm.refl _ _ _,fun p q p1 p2 p3=>?_⟩
  unfold E9
  rw[ltT h0]
  simp (disch:=omega) only[D1,Nat.add_sub_cancel,Fg,E3,B0,AB,h1,decide_false,AF,Ae]
  by_cases hq:q=j+1
  subst hq
  by_cases hpj:p=j
  subst hpj;omega
  have:=hs p j p1 (by omega) (by omega) (by omega)
  omega
  exact hs p q p1 p2 p3 hq
  refine⟨w,?_,Pm.refl _ _ _,fun p q p1 p2 p3=>hs p q p1 p2 p3 (by omega)⟩
  unfold E9
  rw[ltF h0,Ae]
def So(a b:Nat)(w:List Int):Prop:=∀p q,a<=p->p<q->q<b->ga w p<=ga w q
theorem bDs(a b:Nat):∀(m i:Nat) (w:List Int),b<=i+m->w.length<=1000000->b<=w.length->a<i->So a i w->
 ∃w',SK (a:Int) (b:Int) (i:Int) w=some w'/\Pm a b w w'/\So a b w':=by
 intro m
 induction m with
 |zero=>
  intro i w hm hl hb ha hs
  refine⟨w,?_,Pm.refl _ _ _,fun p q h1 h2 h3=>hs p q h1 h2 (by omega)⟩
  rw[QB]
  unfold HH
  rw[ltF (by omega),Ae]
 |succ m ih=>
  intro i w hm hl hb ha hs
  rw[QB]
  unfold HH
  by_cases h0:i<b
  obtain⟨w1,e1,e2,e3⟩:=bDt a i (b:Int) (i:Int) i w hl (by omega) (by omega) (by omega) (fun p q h1 h2 h3 h4=>hs p q h1 h2 (by omega))
  obtain⟨w2,f1,f2,f3⟩:=ih (i+1) w1 (by omega) (by rw[e2.len];exact hl) (by rw[e2.len];exact hb) (by omega) (fun p q h1 h2 h3=>e3 p q h1 h2 (by omega))
  refine⟨w2,?_,(e2.mono (by omega) (by omega)).trans f2,f3⟩
  rw[ltT h0,e1,AB,Gm (by omega),BF]
  exact f1
  refine⟨w,by rw[ltF h0,Ae],Pm.refl _ _ _,fun p q h1 h2 h3=>hs p q h1 h2 (by omega)⟩
theorem bDu(a b:Nat)(w:List Int)(hl:w.length<=1000000)(hb:b<=w.length)(hab:a<=b):∃w',Y0 (a:Int) (b:Int) w=some w'/\Pm a b w w'/\So a b w':=by obtain⟨w',e1,e2,e3⟩:=bDs a b b (a+1) w (by omega) hl hb (by omega) (fun p q h1 h2 h3=>by omega);refine⟨w',?_,e2,e3⟩;unfold Y0;rw[Gm (by omega),e1,AB]
theorem Ng{n:Nat}(h:2*n<=4611686018427387904):AA .mul .i64 2 (n:Int)=((2*n:Nat):Int):=by rw[aYw (by omega) (by omega)];omega
theorem aY4{n k:Nat}(h:n<=4611686018427387904):AA .quo .i64 (n:Int) (k:Int)=((n/k:Nat):Int):=by show IntKind.wrap .i64 ((n:Int).tdiv (k:Int))=_;rw[<-Int.ofNat_tdiv];have:n/k<=n:=Nat.div_le_self _ _;generalize n/k=d at*;exact aV5 (by omega) (by omega)
def Ch(k c:Nat):Prop:=c=2*k+1\/c=2*k+2
def HpX(f lo hi r:Nat)(w:List Int):Prop:=∀k c,lo<=k->Ch k c->c<hi->k≠r->ga w (f+c)<=ga w (f+k)
def Hp(f lo hi:Nat)(w:List Int):Prop:=∀k c,lo<=k->Ch k c->c<hi->ga w (f+c)<=ga w (f+k)
theorem aVs(f lo hi:Nat):∀(m r:Nat) (w:List Int),hi<=r+m->lo<=r->r<=1000000->w.length<=1000000->f+hi<=w.length->HpX f lo hi r w->
 (∀k c,lo<=k->Ch k r->Ch r c->c<hi->ga w (f+c)<=ga w (f+k))->
 ∃w' o,SF (hi:Int) (f:Int) (r:Int) w=some o/\(o=.inl w'\/o=.inr w')/\Pm (f+lo) (f+hi) w w'/\Hp f lo hi w':=by
 intro m
 induction m with
 |zero=>
  intro r w hm hr hr1 hl hf hH hG
  refine⟨w,_,?_,.inl rfl,Pm.refl _ _ _,fun k c h1 h2 h3=>hH k c h1 h2 h3 (by unfold Ch at h2;omega)⟩
  rw[P2]
  unfold Ea KY
  simp (disch:=omega) only[Ng,Gm,leT,AB,D8,BY,Ae]
 |succ m ih=>
  intro r w hm hr hr1 hl hf hH hG
  rw[P2]
  by_cases h0:hi<=2*r+1
  refine⟨w,_,?_,.inl rfl,Pm.refl _ _ _,fun k c h1 h2 h3=>hH k c h1 h2 h3 (by unfold Ch at h2;omega)⟩
  unfold Ea KY
  simp (disch:=omega) only[Ng,Gm,leT,AB,D8,BY,Ae]
  have key:∃c2,Ch r c2/\c2<hi/\(∀c,Ch r c->c<hi->ga w (f+c)<=ga w (f+c2))/\
   Ea (hi:Int) (f:Int) (r:Int) w=(if ga w (f+r)<ga w (f+c2)then some (.inl ((c2:Int),swp w (f+r) (f+c2)))else some (.inr (.inr w))):=by
   by_cases h1:2*r+2<hi
   by_cases h2:ga w (f+(2*r+1))<ga w (f+(2*r+2))
   refine⟨2*r+2,.inr rfl,h1,fun c hc hch=>by rcases hc with rfl|rfl<;>omega,?_⟩
   unfold Ea KY Ld
   have h2':ga w (f+(2*r+1))<ga w (f+(2*r+1)+1):=h2
   by_cases h3:ga w (f+r)<ga w (f+(2*r+2))
   have h3':ga w (f+r)<ga w (f+(2*r+1+1)):=h3
   rw[if_pos h3]
   simp (disch:=omega) only[Ng,Gm,QO,leF,ltT,Fg,E3,B0,AB,h2',h3',decide_true,Bool.not_true,AG,AF,List.length_set,Int.toNat_natCast,BY]
   rfl
   have h3':¬ga w (f+r)<ga w (f+(2*r+1+1)):=h3
   rw[if_neg h3]
   simp (disch:=omega) only[Ng,Gm,QO,leF,ltT,Fg,E3,B0,AB,h2',h3',decide_true,decide_false,Bool.not_false,AG,AF,List.length_set,Int.toNat_natCast,BY,D8]
   refine⟨2*r+1,.inl rfl,by omega,fun c hc hch=>by rcases hc with rfl|rfl<;>omega,?_⟩
   unfold Ea KY Ld
   have h2':¬ga w (f+(2*r+1))<ga w (f+(2*r+1)+1):=h2
   by_cases h3:ga w (f+r)<ga w (f+(2*r+1))
   rw[if_pos h3]
   simp (disch:=omega) only[Ng,Gm,QO,leF,ltT,Fg,E3,B0,AB,h2',h3,decide_true,decide_false,Bool.not_true,AG,AF,List.length_set,Int.toNat_natCast,BY]
   rfl
   rw[if_neg h3]
   simp (disch:=omega) only[Ng,Gm,QO,leF,ltT,Fg,E3,B0,AB,h2',h3,decide_true,decide_false,Bool.not_false,AG,AF,List.length_set,Int.toNat_natCast,BY,D8]
   refine⟨2*r+1,.inl rfl,by omega,fun c hc hch=>by rcases hc with rfl|rfl<;>omega,?_⟩
   unfold Ea KY Ld
   by_cases h3:ga w (f+r)<ga w (f+(2*r+1))
   rw[if_pos h3]
   simp (disch:=omega) only[Ng,Gm,QO,leF,ltF,Fg,E3,B0,AB,h3,decide_true,decide_false,Bool.not_true,AG,AF,List.length_set,Int.toNat_natCast,BY]
   rfl
   rw[if_neg h3]
   simp (disch:=omega) only[Ng,Gm,QO,leF,ltF,Fg,E3,B0,AB,h3,decide_true,decide_false,Bool.not_false,AG,AF,List.length_set,Int.toNat_natCast,BY,D8]
  obtain⟨c2,hc2,hc2h,hmax,hstep⟩:=key
  rw[hstep]
  have hrc:r<c2:=by unfold Ch at hc2;omega
  by_cases h3:ga w (f+r)<ga w (f+c2)
  rw[if_pos h3,BF]
  have hg:=E1 (w:=w) (i:=f+r) (j:=f+c2) (by omega) (by omega)
  have er:ga (swp w (f+r) (f+c2)) (f+r)=ga w (f+c2):=by rw[hg,if_neg (by omega),if_pos rfl]
  have ec:ga (swp w (f+r) (f+c2)) (f+c2)=ga w (f+r):=by rw[hg,if_pos rfl]
  have en:∀x,x≠r->x≠c2->ga (swp w (f+r) (f+c2)) (f+x)=ga w (f+x):=fun x h1 h2=>by rw[hg,if_neg (by omega),if_neg (by omega)]
  obtain⟨w',o,e1,e2,e3,e4⟩:=ih c2 (swp w (f+r) (f+c2)) (by omega) (by omega) (by omega) (by rw[B4];exact hl) (by rw[B4];exact hf)
   (fun k c h1 h2 h4 h5=>by by_cases k1:k=r;subst k1;by_cases k2:c=c2;subst k2;rw[ec,er];omega;rw[er,en c (by unfold Ch at h2;omega) k2];exact hmax c h2 h4;rw[en k k1 h5];by_cases k2:c=r;subst k2;rw[er];exact hG k c2 h1 h2 hc2 hc2h;by_cases k3:c=c2;exfalso;unfold Ch at h2 hc2;omega;rw[en c k2 k3];exact hH k c h1 h2 h4 k1)
   (fun k c h1 h2 h4 h5=>by
    have:k=r:=by unfold Ch at h2 hc2;omega
    subst this;rw[er,en c (by unfold Ch at h4;omega) (by unfold Ch at h4;omega)];exact hH c2 c (by omega) h4 h5 (by omega))
  exact⟨w',o,e1,e2,(Pm.swp ⟨by omega,by omega⟩ ⟨by omega,by omega⟩ hf).trans e3,e4⟩
  rw[if_neg h3,Ae]
  refine⟨w,_,rfl,.inr rfl,Pm.refl _ _ _,fun k c h1 h2 h4=>?_⟩
  by_cases k1:k=r
  subst k1;have:=hmax c h2 h4;omega
  exact hH k c h1 h2 h4 k1
theorem aE6{f lo hi:Nat}{w:List Int}(hl:w.length<=1000000)(hf:f+hi<=w.length)(hr:lo<=1000000)(hH:HpX f lo hi lo w):
 ∃w',Xr (lo:Int) (hi:Int) (f:Int) w=some w'/\Pm (f+lo) (f+hi) w w'/\Hp f lo hi w':=by
 obtain⟨w',o,e1,e2,e3,e4⟩:=aVs f lo hi hi lo w (by omega) (Nat.le_refl _) hr hl hf hH (fun k c h1 h2 h3 h4=>by unfold Ch at h2;omega)
 refine⟨w',?_,e3,e4⟩
 unfold Xr
 rw[e1,AB]
 rcases e2 with rfl|rfl<;>rfl
theorem aVb(f hi:Nat):∀(m:Nat) (w:List Int),w.length<=1000000->f+hi<=w.length->m<=1000000->Hp f m hi w->
 ∃w',SN (f:Int) 0 (hi:Int) ((m:Int)-1) w=some w'/\Pm f (f+hi) w w'/\Hp f 0 hi w':=by
 intro m
 induction m with
 |zero=>
  intro w hl hf hm hH
  refine⟨w,?_,Pm.refl _ _ _,hH⟩
  rw[QD]
  unfold HI
  rw[decide_eq_false (by omega),AF,Ae]
 |succ m ih=>
  intro w hl hf hm hH
  obtain⟨w1,e1,e2,e3⟩:=aE6 (f:=f) (lo:=m) (hi:=hi) hl hf (by omega) (fun k c h1 h2 h3 h4=>hH k c (by omega) h2 h3)
  obtain⟨w2,f1,f2,f3⟩:=ih w1 (by rw[e2.len];exact hl) (by rw[e2.len];exact hf) (by omega) e3
  refine⟨w2,?_,(e2.mono (by omega) (by omega)).trans f2,f3⟩
  rw[QD]
  unfold HI
  rw[show(((m+1:Nat):Int)-1)=(m:Int) by omega,decide_eq_true (by omega),AG,e1,AB,TJ (by omega) (by omega),BF]
  exact f1
theorem aO6{f hi:Nat}{w:List Int}(h:Hp f 0 hi w):∀k,k<hi->ga w (f+k)<=ga w f:=by
 intro k;induction k using Nat.strongRecOn with
 |ind k ih=>
  intro hk
  by_cases h0:k=0
  subst h0;exact Int.le_refl _
  have h1:=h ((k-1)/2) k (by omega) (by unfold Ch;omega) hk
  have h2:=ih ((k-1)/2) (by omega) (by omega)
  omega
theorem aVc(f hi:Nat):∀(m:Nat) (w:List Int),w.length<=1000000->f+hi<=w.length->m<=hi->Hp f 0 m w->(∀p q,p<q->q<hi->m<=q->ga w (f+p)<=ga w (f+q))->
 ∃w',SO (f:Int) 0 ((m:Int)-1) w=some w'/\Pm f (f+hi) w w'/\∀p q,p<q->q<hi->ga w' (f+p)<=ga w' (f+q):=by
 intro m
 induction m with
 |zero=>
  intro w hl hf hm hH hs
  refine⟨w,?_,Pm.refl _ _ _,fun p q h1 h2=>hs p q h1 h2 (by omega)⟩
  rw[QE]
  unfold HJ
  rw[decide_eq_false (by omega),AF,Ae]
 |succ m ih=>
  intro w hl hf hm hH hs
  have hg:=E1 (w:=w) (i:=f) (j:=f+m) (by omega) (by omega)
  have hmx:=aO6 hH
  obtain⟨w1,e1,e2,e3⟩:=aE6 (f:=f) (lo:=0) (hi:=m) (w:=swp w f (f+m)) (by rw[B4];exact hl) (by rw[B4];omega) (by omega) (fun k c h1 h2 h3 h4=>by
   have:0<c:=by unfold Ch at h2;omega
   have:=hH k c h1 h2 (by omega);by_cases km:k=m;unfold Ch at h2;omega;rw[hg,hg,if_neg (by omega),if_neg (by omega),if_neg (by omega),if_neg (by omega)];exact this)
  rw[Nat.add_zero]at e2
  have hsw:Pm f (f+(m+1)) w (swp w f (f+m)):=Pm.swp ⟨by omega,by omega⟩ ⟨by omega,by omega⟩ (by omega)
  have hpm:=hsw.trans (e2.mono (Nat.le_refl _) (by omega))
  obtain⟨w2,f1,f2,f3⟩:=ih w1 (by rw[hpm.len];exact hl) (by rw[hpm.len];exact hf) (by omega) e3 (fun p q h1 h2 h3=>by
   have hp':∀p,p<m+1->∃p',p'<m+1/\ga w1 (f+p)=ga w (f+p'):=fun p hp=>by obtain⟨i,i1,i2,i3⟩:=hpm.src (f+p) (by omega) (by omega);exact⟨i-f,by omega,by rw[i3];congr 1;omega⟩
   by_cases hq:q=m;subst hq;have eq1:ga w1 (f+q)=ga w f:=by rw[e2.out (f+q) (by omega),hg,if_pos rfl]
   obtain⟨p',p1,p2⟩:=hp' p (by omega);rw[eq1,p2];exact hmx p' p1;have eq1:ga w1 (f+q)=ga w (f+q):=hpm.out _ (by omega);rw[eq1];by_cases hpm1:p<m+1;obtain⟨p',p1,p2⟩:=hp' p hpm1;rw[p2];exact hs p' q (by omega) h2 (by omega);rw[hpm.out (f+p) (by omega)];exact hs p q h1 h2 (by omega))
  refine⟨w2,?_,(hpm.mono (by omega) (by omega)).trans f2,f3⟩
  rw[QE]
  unfold HJ
  rw[show(((m+1:Nat):Int)-1)=(m:Int) by omega,decide_eq_true (by omega),AG]
  simp (disch:=omega) only[QO,Fg,E3,List.length_set,Int.toNat_natCast]
  have e1':Xr 0 (m:Int) (f:Int) ((w.set f (ga w (f+m))).set (f+m) (ga w f))=some w1:=e1
  rw[e1',AB,TJ (by omega) (by omega),BF]
  exact f1
theorem aVd(a b:Nat)(w:List Int)(hl:w.length<=1000000)(hb:b<=w.length)(hab:a<b):∃w',Y2 (a:Int) (b:Int) w=some w'/\Pm a b w w'/\So a b w':=by
 obtain⟨w1,e1,e2,e3⟩:=aVb a (b-a) ((b-a-1)/2+1) w hl (by omega) (by omega) (fun k c h1 h2 h3=>by unfold Ch at h2;omega);obtain⟨w2,f1,f2,f3⟩:=aVc a (b-a) (b-a) w1 (by rw[e2.len];exact hl) (by rw[e2.len];omega) (Nat.le_refl _) e3 (fun p q h1 h2 h3=>by omega);have hab':a+(b-a)=b:=by omega
 rw[hab']at e2 f2;refine⟨w2,?_,e2.trans f2,fun p q h1 h2 h3=>?_⟩;unfold Y2;rw[aFd (by omega),D1 (by omega)];have hq:AA .quo .i64 ((b-a-1:Nat):Int) 2=(((b-a-1)/2:Nat):Int):=aY4 (k:=2) (by omega);rw[hq];rw[show((((b-a-1)/2+1:Nat):Int)-1)=(((b-a-1)/2:Nat):Int) by omega]at e1;rw[show(((b-a:Nat):Int)-1)=((b-a-1:Nat):Int) by omega]at f1;rw[e1,AB,f1,AB];have:=f3 (p-a) (q-a) (by omega) (by omega);rw[show a+(p-a)=p by omega,show a+(q-a)=q by omega]at this;exact this
theorem aY5(a b:Nat):∀(m i j:Nat) (w:List Int),j<=i+m->a<=i->j<=b->w.length<=1000000->b<=w.length->i<=1000000->
 ∃w',ST (i:Int) ((j:Int)-1) w=some w'/\Pm a b w w':=by
 intro m
 induction m using Nat.strongRecOn with
 |ind m ih=>
  intro i j w hm ha hj hl hb hi
  rw[aM5]
  unfold JI
  by_cases h0:i+1<j
  have hs:Pm a b w (swp w i (j-1)):=Pm.swp ⟨by omega,by omega⟩ ⟨by omega,by omega⟩ hb
  obtain⟨w',e1,e2⟩:=ih (m-2) (by omega) (i+1) (j-1) (swp w i (j-1)) (by omega) (by omega) (by omega) (by rw[B4];exact hl) (by rw[B4];exact hb) (by omega)
  refine⟨w',?_,hs.trans e2⟩
  rw[show((j:Int)-1)=((j-1:Nat):Int) by omega]
  rw[show(((j-1:Nat):Int)-1)=((j-1-1:Nat):Int) by omega]at e1
  rw[<-e1]
  simp (disch:=omega) only[ltT,Fg,E3,Gm,D1,List.length_set,Int.toNat_natCast,BF]
  rfl
  refine⟨w,?_,Pm.refl _ _ _⟩
  rw[decide_eq_false (by omega),AF,Ae]
theorem aY6(a b:Nat)(w:List Int)(hl:w.length<=1000000)(hb:b<=w.length)(hab:a<=b):∃w',Yy (a:Int) (b:Int) w=some w'/\Pm a b w w':=by obtain⟨w',e1,e2⟩:=aY5 a b b a b w (by omega) (Nat.le_refl _) (Nat.le_refl _) hl hb (by omega);refine⟨w',?_,e2⟩;unfold Yy;rw[TJ (by omega) (by omega),e1,AB]
def l8:List UInt8:=[0,1,2,2,3,3,3,3,4,4,4,4,4,4,4,4,5,5,5,5,5,5,5,5,5,5,5,5,5,5,5,5,6,6,6,6,6,6,6,6,6,6,6,6,6,6,6,6,6,6,6,6,6,6,6,6,6,6,6,6,6,6,6,6]++List.replicate 64 7++List.replicate 128 8
theorem aYt:∀n,n<256->∃c:UInt8,l8[n]? =some c/\c.toNat<=8/\n<2^c.toNat/\(0<n->2^c.toNat<=2*n):=by
 have key:((List.range 256).all fun n=>match l8[n]? with
  |some c=>decide (c.toNat<=8)&&decide (n<2^c.toNat)&&(decide (n=0)||decide (2^c.toNat<=2*n))
  |none=>false)=true:=by kernel_rfl
 intro n hn;have h:=(List.all_eq_true.1 key) n (List.mem_range.2 hn);revert h;cases l8[n]? with
 |none=>intro h;cases h
 |some c=>
  intro h
  simp only[ba,Bool.or_eq_true,decide_eq_true_eq]at h
  exact⟨c,rfl,h.1.1,h.1.2,fun h0=>by rcases h.2 with h2|h2<;>omega⟩
theorem aVi(a0:Int):Z1 a0=(AH (aAo a0 0 (decide (4294967296<=a0))) fun o1=>AH (aAp o1.1 o1.2 (decide (65536<=o1.1))) fun o2=>AH (aAq o2.1 o2.2 (decide (256<=o2.1))) fun o3=>
 AS l8 ((u8w o3.1).toNat:Int) fun x4=>some (AA .add .i64 o3.2 (x4.toNat:Int))):=by kernel_rfl
theorem aQd{n:Nat}(hn:n<65536):∃k:Nat,Qq ((n:Nat):Int)=some (k:Int)/\k<=16/\n<2^k/\(0<n->2^k<=2*n):=by unfold Qq;rw[aVi];unfold aAo aAp aAq;rw[decide_eq_false (by omega),AF,AB,decide_eq_false (by simp only;omega),AF,AB];simp only;by_cases h:256<=n;obtain⟨c,e1,e2,e3,e4⟩:=aYt (n/256) (by omega);refine⟨8+c.toNat,?_,by omega,?_,fun _=>?_⟩;rw[decide_eq_true (by omega),AG,AB];simp only;have hs:AA .shr .u64 (n:Int) 8=((n/2^8:Nat):Int):=bEh (k:=8) (by decide);rw[hs,show(n/2^8)=n/256 from rfl,aFm (by omega)];rw[AL (xs:=l8) e1,AB,Mg (a:=0) (b:=8) (by omega) (by omega),Mg (by omega) (by omega)];simp;rw[Nat.pow_add];omega;rw[Nat.pow_add];have:=e4 (by omega);omega;obtain⟨c,e1,e2,e3,e4⟩:=aYt n (by omega);refine⟨c.toNat,?_,by omega,e3,e4⟩;rw[decide_eq_false (by omega),AF,AB];simp only;rw[aFm (by omega)];rw[AL (xs:=l8) e1,AB,Mg (by omega) (by omega)];simp
theorem aUk(x k:Nat)(hk:k<=62)(hx:x<18446744073709551616):AA .and .u64 (x:Int) (AA .sub .u64 ((2^k:Nat):Int) 1)=((x % 2^k:Nat):Int):=by
 have hp:2^k<=2^62:=Nat.pow_le_pow_right (by decide) hk;have hp0:0<2^k:=Nat.two_pow_pos k;have hs:AA .sub .u64 ((2^k:Nat):Int) 1=((2^k-1:Nat):Int):=by show IntKind.wrap .u64 (((2^k:Nat):Int)-1)=_;rw[show((2^k:Nat):Int)-1=((2^k-1:Nat):Int) by omega];exact BC (by omega)
 rw[hs,bDl hx (by omega),Nat.and_two_pow_sub_one_eq_mod]
theorem S8{n:Nat}(hn:n<65536):∃k:Nat,U4 (n:Int)=some ((2^k:Nat):Int)/\k<=16/\n<2^k/\(0<n->2^k<=2*n):=by obtain⟨k,e1,e2,e3,e4⟩:=aQd hn;refine⟨k,?_,e2,e3,e4⟩;unfold U4;rw[BC (by omega),e1,AB,Aj (by omega)];have hs:AA .shl .u64 1 (k:Int)=((1*2^k % 18446744073709551616:Nat):Int):=bEt (n:=1) (by omega);have hp:2^k<=2^62:=Nat.pow_le_pow_right (by decide) (by omega);rw[hs,Nat.one_mul,Nat.mod_eq_of_lt (by omega)]
theorem aV6{x:Nat}(hx:x<18446744073709551616):∃y:Nat,U5 (x:Int)=some ((y:Int),(y:Int))/\y<18446744073709551616:=by have h1:∀(a k:Nat),k<=64->∃b:Nat,AA .shl .u64 (a:Int) (k:Int)=(b:Int)/\b<18446744073709551616:=fun a k hk=>⟨_,bEt hk,Nat.mod_lt _ (by decide)⟩;have h2:∀(a k:Nat),k<=64->a<18446744073709551616->∃b:Nat,AA .shr .u64 (a:Int) (k:Int)=(b:Int)/\b<18446744073709551616:=fun a k hk ha=>⟨_,bEh hk,Nat.lt_of_le_of_lt (Nat.div_le_self _ _) ha⟩;have h3:∀(a b:Nat),a<18446744073709551616->b<18446744073709551616->∃c:Nat,AA .xor .u64 (a:Int) (b:Int)=(c:Int)/\c<18446744073709551616:=fun a b ha hb=>⟨_,bEz ha hb,Nat.xor_lt_two_pow (n:=64) ha hb⟩;obtain⟨a1,e1,f1⟩:=h1 x 13 (by decide);obtain⟨a2,e2,f2⟩:=h3 x a1 hx f1;obtain⟨a3,e3,f3⟩:=h2 a2 7 (by decide) f2;obtain⟨a4,e4,f4⟩:=h3 a2 a3 f2 f3;obtain⟨a5,e5,f5⟩:=h1 a4 17 (by decide);obtain⟨a6,e6,f6⟩:=h3 a4 a5 f4 f5;refine⟨a6,?_,f6⟩;have e1':AA .shl .u64 (x:Int) 13=(a1:Int):=e1;have e3':AA .shr .u64 (a2:Int) 7=(a3:Int):=e3;have e5':AA .shl .u64 (a4:Int) 17=(a5:Int):=e5;unfold U5;rw[e1',e2,e3',e4,e5',e6]
theorem aYi(a n k q:Nat):∀(m i:Nat) (w:List Int) (x:Nat),q<=i+m->x<18446744073709551616->w.length<=60000->a+n<=w.length->a<=i->q<=a+n->0<n->n<2^k->2^k<=2*n->k<=16->q=a+n/4*2+2->
 ∃w',SJ (a:Int) (n:Int) ((2^k:Nat):Int) (i:Int) w (x:Int)=some w'/\Pm a (a+n) w w':=by
 intro m
 induction m with
 |zero=>
  intro i w x hm hx hl hb ha hq h0 hk1 hk2 hk3 hqe
  refine⟨w,?_,Pm.refl _ _ _⟩
  rw[P9]
  unfold HG
  have hd:AA .quo .i64 (n:Int) 4=((n/4:Nat):Int):=aY4 (k:=4) (by omega)
  have hmu:AA .mul .i64 ((n/4:Nat):Int) 2=((n/4*2:Nat):Int):=by rw[aYw (by omega) (by omega)];omega
  rw[hd,hmu,QO (by omega),Gm (by omega),leF (by omega),Ae]
 |succ m ih=>
  intro i w x hm hx hl hb ha hq h0 hk1 hk2 hk3 hqe
  rw[P9]
  unfold HG
  have hd:AA .quo .i64 (n:Int) 4=((n/4:Nat):Int):=aY4 (k:=4) (by omega)
  have hmu:AA .mul .i64 ((n/4:Nat):Int) 2=((n/4*2:Nat):Int):=by rw[aYw (by omega) (by omega)];omega
  rw[hd,hmu,QO (by omega),Gm (by omega)]
  by_cases h1:i<=a+n/4*2+1
  obtain⟨y,ey,fy⟩:=aV6 hx
  have hmod:y % 2^k<2^k:=Nat.mod_lt _ (Nat.two_pow_pos k)
  have hp:2^k<=2^16:=Nat.pow_le_pow_right (by decide) hk3
  obtain⟨o,ho,hon⟩:∃o:Nat,OY (a:Int) (n:Int) ((2^k:Nat):Int) (i:Int) (((y % 2^k:Nat)):Int) (decide ((n:Int)<=((y % 2^k:Nat):Int))) w (y:Int)=some (o:Int)/\o<n:=by unfold OY;by_cases h2:n<=y % 2^k;exact⟨y % 2^k-n,by rw[decide_eq_true (by omega),AG,aFd (by omega)],by omega⟩;exact⟨y % 2^k,by rw[decide_eq_false (by omega),AF],by omega⟩
  have hs:Pm a (a+n) w (swp w i (a+o)):=Pm.swp ⟨ha,by omega⟩ ⟨by omega,by omega⟩ hb
  obtain⟨w',e1,e2⟩:=ih (i+1) (swp w i (a+o)) y (by omega) fy (by rw[B4];exact hl) (by rw[B4];exact hb) (by omega) hq h0 hk1 hk2 hk3 hqe
  refine⟨w',?_,hs.trans e2⟩
  rw[<-e1,leT h1]
  unfold SI
  rw[ey,AB]
  simp only
  have hw:IntKind.wrap .i64 ((y % 2^k:Nat):Int)=((y % 2^k:Nat):Int):=aV5 (by omega) (by omega)
  rw[aUk y k (by omega) fy,hw,ho,AB]
  simp (disch:=omega) only[QO,Fg,E3,List.length_set,Int.toNat_natCast,AB,Gm,BF]
  rfl
  refine⟨w,by rw[leF h1,Ae],Pm.refl _ _ _⟩
theorem aYj(a b:Nat)(w:List Int)(hl:w.length<=60000)(hb:b<=w.length)(hab:a+8<=b):∃w',Xy (a:Int) (b:Int) w=some w'/\Pm a b w w':=by
 obtain⟨k,e1,e2,e3,e4⟩:=S8 (n:=b-a) (by omega);have hd:AA .quo .i64 ((b-a:Nat):Int) 4=(((b-a)/4:Nat):Int):=aY4 (k:=4) (by omega);have hmu:AA .mul .i64 (((b-a)/4:Nat):Int) 2=(((b-a)/4*2:Nat):Int):=by rw[aYw (by omega) (by omega)];omega
 obtain⟨w',f1,f2⟩:=aYi a (b-a) k (a+(b-a)/4*2+2) 3 (a+(b-a)/4*2-1) w (b-a) (by omega) (by omega) hl (by omega) (by omega) (by omega) (by omega) e3 (e4 (by omega)) e2 rfl;rw[show a+(b-a)=b by omega]at f2;refine⟨w',?_,f2⟩;unfold Xy SH;rw[aFd (by omega),decide_eq_true (by omega),AG,e1,AB,hd,hmu,QO (by omega),D1 (by omega),BC (by omega),f1,AB,AB]
def Vx(lo hi:Nat)(x:Int):Prop:=∃n:Nat,x=(n:Int)/\lo<=n/\n<hi
theorem PI{lo hi:Nat}{w:List Int}(hh:hi<=w.length){x y:Int}(s:Int)(hx:Vx lo hi x)(hy:Vx lo hi y):∃u v s',Qj w x y s=some (u,v,s')/\Vx lo hi u/\Vx lo hi v:=by obtain⟨i,rfl,i1,i2⟩:=hx;obtain⟨j,rfl,j1,j2⟩:=hy;unfold Qj;simp (disch:=omega) only[E3,B0,AB];by_cases h:ga w j<ga w i;exact⟨_,_,_,by rw[decide_eq_true h];rfl,⟨j,rfl,j1,j2⟩,⟨i,rfl,i1,i2⟩⟩;exact⟨_,_,_,by rw[decide_eq_false h];rfl,⟨i,rfl,i1,i2⟩,⟨j,rfl,j1,j2⟩⟩
theorem aQ3{lo hi:Nat}{w:List Int}(hh:hi<=w.length){x y z:Int}(s:Int)(hx:Vx lo hi x)(hy:Vx lo hi y)(hz:Vx lo hi z):∃u s',Qm w x y z s=some (u,s')/\Vx lo hi u:=by obtain⟨a1,b1,s1,e1,f1,g1⟩:=PI hh s hx hy;obtain⟨b2,c2,s2,e2,f2,g2⟩:=PI hh s1 g1 hz;obtain⟨a3,b3,s3,e3,f3,g3⟩:=PI hh s2 f1 f2;refine⟨b3,s3,?_,g3⟩;unfold Qm;simp only[e1,AB,e2,e3]
theorem aCw{lo hi n:Nat}{w:List Int}(hh:hi<=w.length)(hl:w.length<=1000000)(s:Int)(h1:lo+1<=n)(h2:n+1<hi):∃u s',Qk w (n:Int) s=some (u,s')/\Vx lo hi u:=by obtain⟨u,s',e,h⟩:=aQ3 (lo:=lo) (hi:=hi) hh (x:=((n-1:Nat):Int)) (y:=(n:Int)) (z:=((n+1:Nat):Int)) s ⟨n-1,rfl,by omega,by omega⟩ ⟨n,rfl,by omega,by omega⟩ ⟨n+1,rfl,by omega,by omega⟩;refine⟨u,s',?_,h⟩;unfold Qk;rw[D1 (by omega),Gm (by omega),e,AB]
theorem bD1{n k:Nat}(h:n*k<=4611686018427387904):AA .mul .i64 (n:Int) (k:Int)=((n*k:Nat):Int):=by
 have e:(n:Int)*(k:Int)=((n*k:Nat):Int):=by simp
 generalize n*k=d at*;rw[aYw (by omega) (by omega)];exact e
theorem aY0(a b:Nat)(w:List Int)(hl:w.length<=1000000)(hb:b<=w.length)(hab:a+12<b):∃p h,Z8 w (a:Int) (b:Int)=some (p,h)/\Vx a b p:=by
 have hd:AA .quo .i64 ((b-a:Nat):Int) 4=(((b-a)/4:Nat):Int):=aY4 (k:=4) (by omega);have m1:AA .mul .i64 (((b-a)/4:Nat):Int) 1=(((b-a)/4*1:Nat):Int):=bD1 (k:=1) (by omega);have m2:AA .mul .i64 (((b-a)/4:Nat):Int) 2=(((b-a)/4*2:Nat):Int):=bD1 (k:=2) (by omega);have m3:AA .mul .i64 (((b-a)/4:Nat):Int) 3=(((b-a)/4*3:Nat):Int):=bD1 (k:=3) (by omega);have fin:∀(x s:Int),Vx a b x->∃p h,(AE (decide (s=0)) (some (x,(1:Int))) (AE (decide (s=12)) (some (x,2)) (some (x,0))))=some (p,h)/\Vx a b p:=fun x s hx=>by by_cases h1:s=0;exact⟨x,1,by rw[decide_eq_true h1];rfl,hx⟩;by_cases h2:s=12;exact⟨x,2,by rw[decide_eq_false h1,decide_eq_true h2];rfl,hx⟩;exact⟨x,0,by rw[decide_eq_false h1,decide_eq_false h2];rfl,hx⟩
 unfold Z8 SX;rw[aFd (by omega),hd,m1,m2,m3,QO (by omega),QO (by omega),QO (by omega),decide_eq_true (by omega),AG];have hb2:∃x y z s,OZ w ((a+(b-a)/4*1:Nat):Int) ((a+(b-a)/4*2:Nat):Int) ((a+(b-a)/4*3:Nat):Int) (decide (50<=((b-a:Nat):Int))) 0=some (x,y,z,s)/\Vx a b x/\Vx a b y/\Vx a b z:=by unfold OZ;by_cases h:50<=b-a;obtain⟨x,s1,e1,h1⟩:=aCw (lo:=a) (hi:=b) (n:=a+(b-a)/4*1) hb hl 0 (by omega) (by omega);obtain⟨y,s2,e2,h2⟩:=aCw (lo:=a) (hi:=b) (n:=a+(b-a)/4*2) hb hl s1 (by omega) (by omega);obtain⟨z,s3,e3,h3⟩:=aCw (lo:=a) (hi:=b) (n:=a+(b-a)/4*3) hb hl s2 (by omega) (by omega);refine⟨x,y,z,s3,?_,h1,h2,h3⟩;rw[decide_eq_true (by omega),AG,e1,AB,e2,AB,e3,AB];refine⟨_,_,_,_,by rw[decide_eq_false (by omega),AF],⟨_,rfl,by omega,by omega⟩,⟨_,rfl,by omega,by omega⟩,⟨_,rfl,by omega,by omega⟩⟩
 obtain⟨x,y,z,s,e,hx,hy,hz⟩:=hb2;obtain⟨u,s',e',hu⟩:=aQ3 hb s hx hy hz;rw[e,AB];simp only;rw[e',AB,AB];exact fin u s' hu
theorem aY1(a j:Nat)(w:List Int)(hl:w.length<=1000000)(hj:j<w.length)(ha:a<w.length):∀(m i:Nat),j+1<=i+m->i<=j+1->
 ∃o:Nat,OO (a:Int) (j:Int) w (i:Int)=some (o:Int)/\i<=o/\o<=j+1/\(∀k,i<=k->k<o->ga w k<ga w a)/\(o<=j->¬ga w o<ga w a):=by
 intro m
 induction m with
 |zero=>
  intro i hm hi
  refine⟨i,?_,Nat.le_refl _,hi,fun k h1 h2=>by omega,fun h=>by omega⟩
  rw[Po]
  unfold G2
  rw[leF (by omega),Ae]
 |succ m ih=>
  intro i hm hi
  rw[Po]
  unfold G2
  by_cases h0:i<=j
  by_cases h1:ga w i<ga w a
  obtain⟨o,e1,e2,e3,e4,e5⟩:=ih (i+1) (by omega) (by omega)
  refine⟨o,?_,by omega,e3,fun k k1 k2=>?_,e5⟩
  simp (disch:=omega) only[leT,Fg,E3,B0,AB,h1,decide_true,AG,Gm,BF]
  exact e1
  by_cases hk:k=i
  subst hk;exact h1
  exact e4 k (by omega) k2
  refine⟨i,?_,Nat.le_refl _,hi,fun k k1 k2=>by omega,fun _=>h1⟩
  simp (disch:=omega) only[leT,Fg,E3,B0,AB,h1,decide_false,AF,Ae]
  refine⟨i,by rw[leF h0,Ae],Nat.le_refl _,hi,fun k k1 k2=>by omega,fun h=>absurd h h0⟩
theorem aY2(a i:Nat)(w:List Int)(hl:w.length<=1000000)(ha:a<w.length)(hi:1<=i):∀(j:Nat),j<w.length->i<=j+1->
 ∃o:Nat,OP (a:Int) (i:Int) w (j:Int)=some (o:Int)/\i<=o+1/\o<=j/\(∀k,o<k->k<=j->¬ga w k<ga w a)/\(i<=o->ga w o<ga w a):=by
 intro j
 induction j with
 |zero=>
  intro hj hij
  refine⟨0,?_,hij,Nat.le_refl _,fun k h1 h2=>by omega,fun h=>by omega⟩
  rw[Pp]
  unfold G3
  rw[leF (by omega),Ae]
 |succ j ih=>
  intro hj hij
  rw[Pp]
  unfold G3
  by_cases h0:i<=j+1
  by_cases h1:ga w (j+1)<ga w a
  refine⟨j+1,?_,by omega,Nat.le_refl _,fun k k1 k2=>by omega,fun _=>h1⟩
  simp (disch:=omega) only[leT,Fg,E3,B0,AB,h1,decide_true,Bool.not_true,AF,Ae]
  obtain⟨o,e1,e2,e3,e4,e5⟩:=ih (by omega) (by omega)
  refine⟨o,?_,e2,by omega,fun k k1 k2=>?_,e5⟩
  simp (disch:=omega) only[leT,Fg,E3,B0,AB,h1,decide_false,Bool.not_false,AG,D1,BF,Nat.add_sub_cancel]
  exact e1
  by_cases hk:k=j+1
  subst hk;exact h1
  exact e4 k k1 (by omega)
  refine⟨j+1,by rw[leF h0,Ae],by omega,Nat.le_refl _,fun k k1 k2=>by omega,fun h=>absurd h h0⟩
theorem bEd:aG9=OO:=rfl
theorem bEe:aHb=OP:=rfl
theorem bEc(a b:Nat):∀(m i j:Nat) (w:List Int),j+1<=i+m->w.length<=1000000->b<=w.length->a+1<=i->i<=j+1->j<b->(∀k,a<k->k<i->ga w k<ga w a)->(∀k,j<k->k<b->¬ga w k<ga w a)->
 ∃(o:Nat) (w':List Int),R5 (a:Int) (i:Int) (j:Int) w=some ((o:Int),w')/\a<=o/\o<b/\Pm (a+1) b w w'/\(∀k,a<k->k<=o->ga w' k<ga w a)/\(∀k,o<k->k<b->¬ga w' k<ga w a):=by
 intro m
 induction m using Nat.strongRecOn with
 |ind m ih=>
  intro i j w hm hl hb hi hij hj hA hB
  obtain⟨x,e1,e2,e3,e4,e5⟩:=aY1 a j w hl (by omega) (by omega) m i hm hij
  obtain⟨y,f1,f2,f3,f4,f5⟩:=aY2 a x w hl (by omega) (by omega) j (by omega) e3
  rw[aG7]
  unfold IS
  rw[bEd,bEe,e1,AB,f1,AB]
  have hA':∀k,a<k->k<x->ga w k<ga w a:=fun k k1 k2=>by by_cases h:k<i;exact hA k k1 h;exact e4 k (by omega) k2
  have hB':∀k,y<k->k<b->¬ga w k<ga w a:=fun k k1 k2=>by by_cases h:j<k;exact hB k h k2;exact f4 k k1 (by omega)
  by_cases h0:y<x
  refine⟨y,w,by rw[ltT h0,Ae],by omega,by omega,Pm.refl _ _ _,fun k k1 k2=>hA' k k1 (by omega),hB'⟩
  have hx:=e5 (by omega)
  have hy:=f5 (by omega)
  have hxy:x≠y:=fun h=>by subst h;exact hx hy
  have hg:=E1 (w:=w) (i:=x) (j:=y) (by omega) (by omega)
  have ha:ga (swp w x y) a=ga w a:=by rw[hg,if_neg (by omega),if_neg (by omega)]
  obtain⟨o,w',g1,g2,g3,g4,g5,g6⟩:=ih (m-2) (by omega) (x+1) (y-1) (swp w x y) (by omega) (by rw[B4];exact hl) (by rw[B4];exact hb) (by omega) (by omega) (by omega)
   (fun k k1 k2=>by rw[ha,hg];by_cases c1:k=x;rw[if_neg (by omega),if_pos c1];exact hy;rw[if_neg (by omega),if_neg c1];exact hA' k k1 (by omega))
   (fun k k1 k2=>by rw[ha,hg];by_cases c1:k=y;rw[if_pos c1];exact hx;rw[if_neg c1,if_neg (by omega)];exact hB' k (by omega) k2)
  rw[ha]at g5 g6
  refine⟨o,w',?_,g2,g3,(Pm.swp ⟨by omega,by omega⟩ ⟨by omega,by omega⟩ hb).trans g4,g5,g6⟩
  rw[<-g1]
  simp (disch:=omega) only[ltF,Fg,E3,List.length_set,Int.toNat_natCast,Gm,D1,BF]
  rfl
theorem bEf(a b p:Nat)(w:List Int)(hl:w.length<=1000000)(hb:b<=w.length)(hp:a<=p/\p<b)(hab:a+2<=b):
 ∃(o:Nat) (f:Bool) (w':List Int),Xa (a:Int) (b:Int) (p:Int) w=some ((o:Int),f,w')/\a<=o/\o<b/\Pm a b w w'/\(∀k,a<=k->k<o->ga w' k<=ga w' o)/\(∀k,o<k->k<b->ga w' o<=ga w' k):=by
 have hs:Pm a b w (swp w a p):=Pm.swp ⟨by omega,by omega⟩ hp hb
 have hl1:(swp w a p).length=w.length:=B4 w a p
 --the end,from a row that is parted behind its first one
 have fin:∀(o:Nat) (w2:List Int),a<=o->o<b->Pm a b w w2->(∀k,a<k->k<=o->ga w2 k<ga w2 a)->(∀k,o<k->k<b->¬ga w2 k<ga w2 a)->
  Pm a b w (swp w2 o a)/\(∀k,a<=k->k<o->ga (swp w2 o a) k<=ga (swp w2 o a) o)/\(∀k,o<k->k<b->ga (swp w2 o a) o<=ga (swp w2 o a) k):=fun o w2 h1 h2 h3 h4 h5=>by
  have hl2:=h3.len
  have hg:=E1 (w:=w2) (i:=o) (j:=a) (by omega) (by omega)
  have ho:ga (swp w2 o a) o=ga w2 a:=by rw[hg];by_cases c:o=a;rw[if_pos c,c];rw[if_neg c,if_pos rfl]
  refine⟨h3.trans (Pm.swp ⟨h1,h2⟩ ⟨by omega,by omega⟩ (by omega)),fun k k1 k2=>?_,fun k k1 k2=>?_⟩
  rw[ho,hg]
  by_cases c:k=a
  rw[if_pos c];have:=h4 o (by omega) (Nat.le_refl _);omega
  rw[if_neg c,if_neg (by omega)];have:=h4 k (by omega) (by omega);omega
  rw[ho,hg,if_neg (by omega),if_neg (by omega)]
  have:=h5 k k1 k2;omega
 obtain⟨x,e1,e2,e3,e4,e5⟩:=aY1 a (b-1) (swp w a p) (by omega) (by omega) (by omega) b (a+1) (by omega) (by omega)
 obtain⟨y,f1,f2,f3,f4,f5⟩:=aY2 a x (swp w a p) (by omega) (by omega) (by omega) (b-1) (by omega) e3
 have hA:∀k,a<k->k<x->ga (swp w a p) k<ga (swp w a p) a:=fun k k1 k2=>e4 k (by omega) k2
 have hB:∀k,y<k->k<b->¬ga (swp w a p) k<ga (swp w a p) a:=fun k k1 k2=>f4 k k1 (by omega)
 have hdef:((w.set a (ga w p)).set p (ga w a))=swp w a p:=rfl
 unfold Xa
 simp (disch:=omega) only[Fg,E3,List.length_set,Int.toNat_natCast,Gm,D1,hdef,e1,f1,AB]
 by_cases h0:y<x
 obtain⟨g1,g2,g3⟩:=fin y (swp w a p) (by omega) (by omega) hs (fun k k1 k2=>hA k k1 (by omega)) hB
 refine⟨y,true,swp (swp w a p) y a,?_,by omega,by omega,g1,g2,g3⟩
 simp (disch:=omega) only[ltT,Fg,E3,List.length_set,Int.toNat_natCast]
 rfl
 have hx:=e5 (by omega)
 have hy:=f5 (by omega)
 have hxy:x≠y:=fun h=>by subst h;exact hx hy
 have hg:=E1 (w:=swp w a p) (i:=x) (j:=y) (by omega) (by omega)
 have ha:ga (swp (swp w a p) x y) a=ga (swp w a p) a:=by rw[hg,if_neg (by omega),if_neg (by omega)]
 have hl2:(swp (swp w a p) x y).length=w.length:=by rw[B4,hl1]
 obtain⟨o,w',g1,g2,g3,g4,g5,g6⟩:=bEc a b b (x+1) (y-1) (swp (swp w a p) x y) (by omega) (by omega) (by omega) (by omega) (by omega) (by omega)
  (fun k k1 k2=>by rw[ha,hg];by_cases c1:k=x;rw[if_neg (by omega),if_pos c1];exact hy;rw[if_neg (by omega),if_neg c1];exact hA k k1 (by omega))
  (fun k k1 k2=>by rw[ha,hg];by_cases c1:k=y;rw[if_pos c1];exact hx;rw[if_neg c1,if_neg (by omega)];exact hB k (by omega) k2)
 have hwa:ga w' a=ga (swp (swp w a p) x y) a:=g4.out a (by omega)
 rw[<-hwa]at g5 g6
 have hpm:=(hs.trans (Pm.swp (w:=swp w a p) (i:=x) (j:=y) ⟨by omega,by omega⟩ ⟨by omega,by omega⟩ (by omega))).trans (g4.mono (by omega) (Nat.le_refl _))
 have hl3:=hpm.len
 obtain⟨q1,q2,q3⟩:=fin o w' g2 g3 hpm g5 g6
 refine⟨o,false,swp w' o a,?_,g2,g3,q1,q2,q3⟩
 have hdef2:(((swp w a p).set x (ga (swp w a p) y)).set y (ga (swp w a p) x))=swp (swp w a p) x y:=rfl
 simp (disch:=omega) only[ltF,Fg,E3,List.length_set,Int.toNat_natCast,Gm,D1,hdef2,g1,AB]
 rfl
theorem bD4(a j:Nat)(w:List Int)(hl:w.length<=1000000)(hj:j<w.length)(ha:a<w.length):∀(m i:Nat),j+1<=i+m->i<=j+1->
 ∃o:Nat,SA (a:Int) (j:Int) w (i:Int)=some (o:Int)/\i<=o/\o<=j+1/\(∀k,i<=k->k<o->¬ga w a<ga w k)/\(o<=j->ga w a<ga w o):=by
 intro m
 induction m with
 |zero=>
  intro i hm hi
  refine⟨i,?_,Nat.le_refl _,hi,fun k h1 h2=>by omega,fun h=>by omega⟩
  rw[Pt]
  unfold G4
  rw[leF (by omega),Ae]
 |succ m ih=>
  intro i hm hi
  rw[Pt]
  unfold G4
  by_cases h0:i<=j
  by_cases h1:ga w a<ga w i
  refine⟨i,?_,Nat.le_refl _,hi,fun k k1 k2=>by omega,fun _=>h1⟩
  simp (disch:=omega) only[leT,Fg,E3,B0,AB,h1,decide_true,Bool.not_true,AF,Ae]
  obtain⟨o,e1,e2,e3,e4,e5⟩:=ih (i+1) (by omega) (by omega)
  refine⟨o,?_,by omega,e3,fun k k1 k2=>?_,e5⟩
  simp (disch:=omega) only[leT,Fg,E3,B0,AB,h1,decide_false,Bool.not_false,AG,Gm,BF]
  exact e1
  by_cases hk:k=i
  subst hk;exact h1
  exact e4 k (by omega) k2
  refine⟨i,by rw[leF h0,Ae],Nat.le_refl _,hi,fun k k1 k2=>by omega,fun h=>absurd h h0⟩
theorem bD5(a i:Nat)(w:List Int)(hl:w.length<=1000000)(ha:a<w.length)(hi:1<=i):∀(j:Nat),j<w.length->i<=j+1->
 ∃o:Nat,SB (a:Int) (i:Int) w (j:Int)=some (o:Int)/\i<=o+1/\o<=j/\(∀k,o<k->k<=j->ga w a<ga w k)/\(i<=o->¬ga w a<ga w o):=by
 intro j
 induction j with
 |zero=>
  intro hj hij
  refine⟨0,?_,hij,Nat.le_refl _,fun k h1 h2=>by omega,fun h=>by omega⟩
  rw[Pu]
  unfold G5
  rw[leF (by omega),Ae]
 |succ j ih=>
  intro hj hij
  rw[Pu]
  unfold G5
  by_cases h0:i<=j+1
  by_cases h1:ga w a<ga w (j+1)
  obtain⟨o,e1,e2,e3,e4,e5⟩:=ih (by omega) (by omega)
  refine⟨o,?_,e2,by omega,fun k k1 k2=>?_,e5⟩
  simp (disch:=omega) only[leT,Fg,E3,B0,AB,h1,decide_true,AG,D1,BF,Nat.add_sub_cancel]
  exact e1
  by_cases hk:k=j+1
  subst hk;exact h1
  exact e4 k k1 (by omega)
  refine⟨j+1,?_,by omega,Nat.le_refl _,fun k k1 k2=>by omega,fun _=>h1⟩
  simp (disch:=omega) only[leT,Fg,E3,B0,AB,h1,decide_false,AF,Ae]
  refine⟨j+1,by rw[leF h0,Ae],by omega,Nat.le_refl _,fun k k1 k2=>by omega,fun h=>absurd h h0⟩
theorem bD3(a b:Nat):∀(m i j:Nat) (w:List Int),j+1<=i+m->w.length<=1000000->b<=w.length->a+1<=i->i<=j+1->j<b->(∀k,a<k->k<i->¬ga w a<ga w k)->(∀k,j<k->k<b->ga w a<ga w k)->
 ∃(o:Nat) (w':List Int),R9 (a:Int) (i:Int) (j:Int) w=some ((o:Int),w')/\a<o/\o<=b/\Pm (a+1) b w w'/\(∀k,a<k->k<o->¬ga w a<ga w' k)/\(∀k,o<=k->k<b->ga w a<ga w' k):=by
 intro m
 induction m using Nat.strongRecOn with
 |ind m ih=>
  intro i j w hm hl hb hi hij hj hA hB
  obtain⟨x,e1,e2,e3,e4,e5⟩:=bD4 a j w hl (by omega) (by omega) m i hm hij
  obtain⟨y,f1,f2,f3,f4,f5⟩:=bD5 a x w hl (by omega) (by omega) j (by omega) e3
  rw[aH3]
  unfold If
  rw[e1,AB,f1,AB]
  have hA':∀k,a<k->k<x->¬ga w a<ga w k:=fun k k1 k2=>by by_cases h:k<i;exact hA k k1 h;exact e4 k (by omega) k2
  have hB':∀k,y<k->k<b->ga w a<ga w k:=fun k k1 k2=>by by_cases h:j<k;exact hB k h k2;exact f4 k k1 (by omega)
  by_cases h0:y<x
  refine⟨x,w,by rw[ltT h0,Ae],by omega,by omega,Pm.refl _ _ _,hA',fun k k1 k2=>hB' k (by omega) k2⟩
  have hx:=e5 (by omega)
  have hy:=f5 (by omega)
  have hxy:x≠y:=fun h=>by subst h;exact hy hx
  have hg:=E1 (w:=w) (i:=x) (j:=y) (by omega) (by omega)
  have ha:ga (swp w x y) a=ga w a:=by rw[hg,if_neg (by omega),if_neg (by omega)]
  obtain⟨o,w',g1,g2,g3,g4,g5,g6⟩:=ih (m-2) (by omega) (x+1) (y-1) (swp w x y) (by omega) (by rw[B4];exact hl) (by rw[B4];exact hb) (by omega) (by omega) (by omega)
   (fun k k1 k2=>by rw[ha,hg];by_cases c1:k=x;rw[if_neg (by omega),if_pos c1];exact hy;rw[if_neg (by omega),if_neg c1];exact hA' k k1 (by omega))
   (fun k k1 k2=>by rw[ha,hg];by_cases c1:k=y;rw[if_pos c1];exact hx;rw[if_neg c1,if_neg (by omega)];exact hB' k (by omega) k2)
  rw[ha]at g5 g6
  refine⟨o,w',?_,g2,g3,(Pm.swp ⟨by omega,by omega⟩ ⟨by omega,by omega⟩ hb).trans g4,g5,g6⟩
  rw[<-g1]
  simp (disch:=omega) only[ltF,Fg,E3,List.length_set,Int.toNat_natCast,Gm,D1,BF]
  rfl
theorem bD6(a b p:Nat)(w:List Int)(hl:w.length<=1000000)(hb:b<=w.length)(hp:a<=p/\p<b)(hab:a+2<=b):
 ∃(o:Nat) (w':List Int),Xh (a:Int) (b:Int) (p:Int) w=some ((o:Int),w')/\a<o/\o<=b/\Pm a b w w'/\(∀k,a<=k->k<o->ga w' k<=ga w p):=by
 have hs:Pm a b w (swp w a p):=Pm.swp ⟨by omega,by omega⟩ hp hb
 have hl1:(swp w a p).length=w.length:=B4 w a p
 obtain⟨o,w',e1,e2,e3,e4,e5,e6⟩:=bD3 a b b (a+1) (b-1) (swp w a p) (by omega) (by omega) (by omega) (by omega) (by omega) (by omega) (fun k k1 k2=>by omega) (fun k k1 k2=>by omega)
 have ha:ga (swp w a p) a=ga w p:=by rw[E1 (by omega) (by omega)];by_cases c:a=p;rw[if_pos c,c];rw[if_neg c,if_pos rfl]
 rw[ha]at e5
 refine⟨o,w',?_,e2,e3,hs.trans (e4.mono (by omega) (Nat.le_refl _)),fun k k1 k2=>?_⟩
 have hdef:((w.set a (ga w p)).set p (ga w a))=swp w a p:=rfl
 unfold Xh
 simp (disch:=omega) only[Fg,E3,List.length_set,Int.toNat_natCast,Gm,D1,hdef,e1,AB]
 by_cases c:k=a
 subst c;rw[e4.out k (by omega),ha];exact Int.le_refl _
 have:=e5 k (by omega) k2;omega
def Lo(a b:Nat)(w:List Int):Prop:=0<a->∀k,a<=k->k<b->ga w (a-1)<=ga w k
theorem Lo.pm{a b:Nat}{w w':List Int}(h:Lo a b w)(p:Pm a b w w'):Lo a b w':=fun h0 k k1 k2=>by obtain⟨i,i1,i2,i3⟩:=p.src k k1 k2;rw[i3,p.out (a-1) (by omega)];exact h h0 i i1 i2
theorem bD8(a b:Nat)(s8:Int)(w:List Int)(hl:w.length<=1000000)(hb:b<=w.length):∀(m i:Nat),b<=i+m->a<i->i<=b->So a i w->
 ∃o:Nat,R1 (a:Int) (b:Int) s8 w (i:Int)=some (o:Int)/\i<=o/\o<=b/\So a o w:=by
 intro m
 induction m with
 |zero=>
  intro i hm ha hi hs
  refine⟨i,?_,Nat.le_refl _,hi,hs⟩
  rw[Pg]
  unfold Gz
  rw[ltF (by omega),Ae]
 |succ m ih=>
  intro i hm ha hi hs
  rw[Pg]
  unfold Gz
  by_cases h0:i<b
  by_cases h1:ga w i<ga w (i-1)
  refine⟨i,?_,Nat.le_refl _,hi,hs⟩
  simp (disch:=omega) only[ltT,Fg,E3,D1,B0,AB,h1,decide_true,Bool.not_true,AF,Ae]
  obtain⟨o,e1,e2,e3,e4⟩:=ih (i+1) (by omega) (by omega) (by omega) (fun p q p1 p2 p3=>by by_cases hq:q=i;subst hq;by_cases hp:p=q-1;subst hp;omega;have:=hs p (q-1) p1 (by omega) (by omega);omega;exact hs p q p1 p2 (by omega))
  refine⟨o,?_,by omega,e3,e4⟩
  simp (disch:=omega) only[ltT,Fg,E3,D1,B0,AB,h1,decide_false,Bool.not_false,AG,Gm,BF]
  exact e1
  refine⟨i,by rw[ltF h0,Ae],Nat.le_refl _,hi,hs⟩
theorem bD9(a b i:Nat)(s2 s7 s8:Int)(hib:i<b):∀(j:Nat) (w:List Int),w.length<=1000000->b<=w.length->a<=j->j<=i->Lo a b w->(∀p q,a<=p->p<q->q<=i->q≠j->ga w p<=ga w q)->
 ∃w',R2 (a:Int) s2 s7 s8 (j:Int) w=some w'/\Pm a (i+1) w w'/\So a (i+1) w':=by
 intro j
 induction j with
 |zero=>
  intro w hl hb ha hj hL hs
  refine⟨w,?_,Pm.refl _ _ _,fun p q h1 h2 h3=>hs p q h1 h2 (by omega) (by omega)⟩
  rw[Ph]
  unfold G0
  rw[decide_eq_false (by omega),AF,Ae]
 |succ j ih=>
  intro w hl hb ha hj hL hs
  rw[Ph]
  unfold G0
  rw[decide_eq_true (by omega),AG]
  by_cases h1:ga w (j+1)<ga w j
  by_cases h0:a<j+1
  have hp:=Pm.swp (a:=a) (b:=i+1) (w:=w) (i:=j+1) (j:=j) ⟨by omega,by omega⟩ ⟨by omega,by omega⟩ (by omega)
  have hg:=E1 (w:=w) (i:=j+1) (j:=j) (by omega) (by omega)
  obtain⟨w',e1,e2,e3⟩:=ih (swp w (j+1) j) (by rw[B4];omega) (by rw[B4];omega) (by omega) (by omega) (hL.pm (hp.mono (Nat.le_refl _) (by omega))) (fun p q p1 p2 p3 p4=>by have b1:=hs p q p1 p2 p3;have b2:=hs p (j+1) p1;have b3:=hs p j p1;have b4:=hs (j+1) q (by omega);have b5:=hs j q (by omega);rw[hg,hg];by_cases c1:p=j;rw[if_pos c1];by_cases c2:q=j+1;rw[if_neg (by omega),if_pos c2];omega;rw[if_neg (by omega),if_neg c2];exact b4 (by omega) p3 c2;rw[if_neg c1];by_cases c2:p=j+1;rw[if_pos c2,if_neg (by omega),if_neg (by omega)];exact b5 (by omega) p3 (by omega);rw[if_neg c2];by_cases c3:q=j+1;rw[if_neg (by omega),if_pos c3];exact b3 (by omega) (by omega) (by omega);rw[if_neg (by omega),if_neg c3];exact b1 c3)
  refine⟨w',?_,hp.trans e2,e3⟩
  rw[<-e1]
  simp (disch:=omega) only[D1,Nat.add_sub_cancel,Fg,E3,B0,AB,h1,decide_true,Bool.not_true,AF,List.length_set,Int.toNat_natCast,BF]
  rfl
  exfalso
  have:=hL (by omega) (j+1) (by omega) (by omega)
  rw[show a-1=j by omega]at this
  omega
  refine⟨w,?_,Pm.refl _ _ _,fun p q p1 p2 p3=>?_⟩
  simp (disch:=omega) only[D1,Nat.add_sub_cancel,Fg,E3,B0,AB,h1,decide_false,Bool.not_false,AG,Ae]
  by_cases hq:q=j+1
  subst hq
  by_cases hpj:p=j
  subst hpj;omega
  have:=hs p j p1 (by omega) (by omega) (by omega)
  omega
  exact hs p q p1 p2 (by omega) hq
theorem bEa(o b:Nat)(s1 s7 s8:Int):∀(m j:Nat) (w:List Int),b<=j+m->w.length<=1000000->b<=w.length->o<j->
 ∃w',R3 s1 (b:Int) s7 s8 (j:Int) w=some w'/\Pm o b w w':=by
 intro m
 induction m with
 |zero=>
  intro j w hm hl hb hj
  refine⟨w,?_,Pm.refl _ _ _⟩
  rw[Pi]
  unfold G1
  rw[ltF (by omega),Ae]
 |succ m ih=>
  intro j w hm hl hb hj
  rw[Pi]
  unfold G1
  by_cases h0:j<b
  by_cases h1:ga w j<ga w (j-1)
  have hp:=Pm.swp (a:=o) (b:=b) (w:=w) (i:=j) (j:=j-1) ⟨by omega,by omega⟩ ⟨by omega,by omega⟩ hb
  obtain⟨w',e1,e2⟩:=ih (j+1) (swp w j (j-1)) (by omega) (by rw[B4];exact hl) (by rw[B4];exact hb) (by omega)
  refine⟨w',?_,hp.trans e2⟩
  rw[<-e1]
  simp (disch:=omega) only[ltT,D1,Fg,E3,B0,AB,h1,decide_true,Bool.not_true,AF,List.length_set,Int.toNat_natCast,Gm,BF]
  rfl
  refine⟨w,?_,Pm.refl _ _ _⟩
  simp (disch:=omega) only[ltT,D1,Fg,E3,B0,AB,h1,decide_false,Bool.not_false,AG,Ae]
  refine⟨w,by rw[ltF h0,Ae],Pm.refl _ _ _⟩
theorem bD7(a b:Nat):∀(m k i:Nat) (w:List Int),5<=k+m->k<=5->w.length<=1000000->b<=w.length->a<i->i<=b->Lo a b w->So a i w->
 ∃w' o,OM (a:Int) (b:Int) (i:Int) (k:Int) w=some o/\Pm a b w w'/\(o=.inl w'\/∃f,o=.inr (f,w')/\(f=true->So a b w')):=by
 intro m
 induction m with
 |zero=>
  intro k i w hm hk hl hb ha hi hL hs
  refine⟨w,_,?_,Pm.refl _ _ _,.inl rfl⟩
  rw[Pf]
  unfold Gy
  rw[decide_eq_false (by omega),AF,Ae]
 |succ m ih=>
  intro k i w hm hk hl hb ha hi hL hs
  rw[Pf]
  unfold Gy
  by_cases h5:k<5
  rw[decide_eq_true (by omega),AG]
  unfold R0
  obtain⟨o,e1,e2,e3,e4⟩:=bD8 a b (k:Int) w hl hb b i (by omega) ha hi hs
  rw[e1,AB]
  by_cases h0:o=b
  refine⟨w,_,by rw[decide_eq_true (by omega),AG,AB,D8,Ae],Pm.refl _ _ _,.inr ⟨true,rfl,fun _=>h0▸e4⟩⟩
  rw[decide_eq_false (by omega),AF,aFd (by omega)]
  by_cases h50:b-a<50
  refine⟨w,_,by rw[decide_eq_true (by omega),AG,AB,D8,Ae],Pm.refl _ _ _,.inr ⟨false,rfl,fun h=>by cases h⟩⟩
  rw[decide_eq_false (by omega),AF]
  have hsw:=Pm.swp (a:=a) (b:=b) (w:=w) (i:=o) (j:=o-1) ⟨by omega,by omega⟩ ⟨by omega,by omega⟩ hb
  have hg:=E1 (w:=w) (i:=o) (j:=o-1) (by omega) (by omega)
  have hdef:((w.set o (ga w (o-1))).set (o-1) (ga w o))=swp w o (o-1):=rfl
  obtain⟨w1,f1,f2,f3⟩:∃w1,OK (a:Int) (b:Int) (o:Int) (k:Int) (decide (2<=((o-a:Nat):Int))) (swp w o (o-1))=some w1/\Pm a b (swp w o (o-1)) w1/\So a o w1:=by
   unfold OK;by_cases h2:2<=o-a;obtain⟨w1,g1,g2,g3⟩:=bD9 a b (o-1) (b:Int) (o:Int) (k:Int) (by omega) (o-1) (swp w o (o-1)) (by rw[B4];exact hl) (by rw[B4];exact hb) (by omega) (Nat.le_refl _) (hL.pm hsw) (fun p q p1 p2 p3 p4=>by rw[hg,hg,if_neg (by omega),if_neg (by omega),if_neg (by omega),if_neg (by omega)];exact e4 p q p1 p2 (by omega))
   rw[show o-1+1=o by omega]at g2 g3;refine⟨w1,?_,g2.mono (Nat.le_refl _) (by omega),g3⟩;rw[decide_eq_true (by omega),AG,D1 (by omega),g1,AB];exact⟨_,by rw[decide_eq_false (by omega),AF],Pm.refl _ _ _,fun p q p1 p2 p3=>by omega⟩
  have hl1:w1.length=w.length:=by rw[f2.len,B4]
  obtain⟨w2,g1,g2⟩:∃w2,OL (a:Int) (b:Int) (o:Int) (k:Int) (decide (2<=((b-o:Nat):Int))) w1=some w2/\Pm o b w1 w2:=by unfold OL;by_cases h2:2<=b-o;obtain⟨w2,g1,g2⟩:=bEa o b (a:Int) (o:Int) (k:Int) b (o+1) w1 (by omega) (by omega) (by omega) (by omega);exact⟨w2,by rw[decide_eq_true (by omega),AG,Gm (by omega),g1,AB],g2⟩;exact⟨_,by rw[decide_eq_false (by omega),AF],Pm.refl _ _ _⟩
  have hpm:=(hsw.trans f2).trans (g2.mono (by omega) (Nat.le_refl _))
  have hl2:=hpm.len
  obtain⟨w3,q,r1,r2,r3⟩:=ih (k+1) o w2 (by omega) (by omega) (by omega) (by omega) (by omega) (by omega) (hL.pm hpm) (fun p q p1 p2 p3=>by rw[g2.out p (by omega),g2.out q (by omega)];exact f3 p q p1 p2 p3)
  refine⟨w3,q,?_,hpm.trans r2,r3⟩
  rw[<-r1]
  simp (disch:=omega) only[Fg,E3,D1,aFd,List.length_set,Int.toNat_natCast,hdef,f1,g1,AB,BY,Gm,BF]
  exact⟨w,_,by rw[decide_eq_false (by omega),AF,Ae],Pm.refl _ _ _,.inl rfl⟩
theorem bEb(a b:Nat)(w:List Int)(hl:w.length<=1000000)(hb:b<=w.length)(hab:a<b)(hL:Lo a b w):
 ∃(f:Bool) (w':List Int),X8 (a:Int) (b:Int) w=some (f,w')/\Pm a b w w'/\(f=true->So a b w'):=by
 obtain⟨w',o,e1,e2,e3⟩:=bD7 a b 5 0 (a+1) w (by omega) (by omega) hl hb (by omega) (by omega) hL (fun p q p1 p2 p3=>by omega)
 unfold X8
 have e1':OM (a:Int) (b:Int) ((a+1:Nat):Int) 0 w=some o:=e1
 rw[Gm (by omega),e1',AB]
 rcases e3 with rfl|⟨f,rfl,hf⟩
 exact⟨false,w',rfl,e2,fun h=>by cases h⟩
 exact⟨f,w',rfl,e2,hf⟩
abbrev aZp:=Int×Int×Int×Bool×Bool×List Int
def Rd(a b:Nat)(w:List Int)(x:aZp):Prop:=∃a' b':Nat,x.1=(a':Int)/\x.2.1=(b':Int)/\a<=a'/\a'<=b'/\b'<=b/\b'-a'<b-a/\Pm a b w x.2.2.2.2.2/\Lo a' b' x.2.2.2.2.2/\
 (∀p q,a<=p->p<a'->p<q->q<b->ga x.2.2.2.2.2 p<=ga x.2.2.2.2.2 q)/\∀p q,a<=p->p<q->b'<=q->q<b->ga x.2.2.2.2.2 p<=ga x.2.2.2.2.2 q
def Slf(self:Int->Int->Int->List Int->Option (List Int))(N:Nat):Prop:=∀(a b:Nat) (lim:Int) (w:List Int),b-a<N->a<=b->b<=w.length->w.length<=60000->Lo a b w->∃w',self (a:Int) (b:Int) lim w=some w'/\Pm a b w w'/\So a b w'
theorem Lo.sub{a b b':Nat}{w:List Int}(h:Lo a b w)(hb:b'<=b):Lo a b' w:=fun h0 k k1 k2=>h h0 k k1 (by omega)
theorem bDp{self:Int->Int->Int->List Int->Option (List Int)}{a b o:Nat}(lim:Int)(wp:Bool)(t:Int){w w1:List Int}(hS:Slf self (b-a))(hl:w.length<=60000)(hb:b<=w.length)(ho:a<=o)(hob:o<b)(hp:Pm a b w w1)(hL:Lo a b w1)
 (h1:∀k,a<=k->k<o->ga w1 k<=ga w1 o) (h2:∀k,o<k->k<b->ga w1 o<=ga w1 k) (hab:2<=b-a):
 ∃y:Int×Int×Bool×List Int,F8 self (a:Int) (b:Int) lim wp (o:Int) ((o-a:Nat):Int) ((b-o:Nat):Int) t (decide (((o-a:Nat):Int)<((b-o:Nat):Int))) w1=some y/\∀wb,Rd a b w (y.1,y.2.1,lim,wb,wp,y.2.2.2):=by
 have hl1:=hp.len
 unfold F8
 by_cases h:o-a<b-o
 obtain⟨w2,e1,e2,e3⟩:=hS a o lim w1 (by omega) ho (by omega) (by omega) (hL.sub (by omega))
 refine⟨(AA .add .i64 (o:Int) 1,(b:Int),decide (t<=((o-a:Nat):Int)),w2),by rw[decide_eq_true (by omega),AG,e1,AB],fun wb=>⟨o+1,b,Gm (by omega),rfl,by omega,by omega,by omega,by omega,hp.trans (e2.mono (Nat.le_refl _) (by omega)),fun h0 k k1 k2=>?_,fun p q p1 p2 p3 p4=>?_,fun p q p1 p2 p3 p4=>by omega⟩⟩
 show ga w2 (o+1-1)<=ga w2 k
 rw[Nat.add_sub_cancel,e2.out o (by omega),e2.out k (by omega)]
 exact h2 k (by omega) k2
 show ga w2 p<=ga w2 q
 by_cases c1:q<o
 exact e3 p q p1 p3 c1
 rw[e2.out q (by omega)]
 have hpo:ga w2 p<=ga w1 o:=by by_cases c2:p=o;rw[c2,e2.out o (by omega)];exact Int.le_refl _;obtain⟨p',q1,q2,q3⟩:=e2.src p p1 (by omega);rw[q3];exact h1 p' q1 q2
 by_cases c3:q=o
 rw[c3];exact hpo
 have:=h2 q (by omega) p4;omega
 obtain⟨w2,e1,e2,e3⟩:=hS (o+1) b lim w1 (by omega) (by omega) (by omega) (by omega) (fun h0 k k1 k2=>by rw[Nat.add_sub_cancel];exact h2 k (by omega) k2)
 have hL2:Lo a b w2:=hL.pm (e2.mono (by omega) (Nat.le_refl _))
 refine⟨((a:Int),(o:Int),decide (t<=((b-o:Nat):Int)),w2),by rw[decide_eq_false (by omega),AF,Gm (by omega),e1,AB],fun wb=>⟨a,o,rfl,rfl,Nat.le_refl _,ho,by omega,by omega,hp.trans (e2.mono (by omega) (Nat.le_refl _)),hL2.sub (by omega),fun p q p1 p2 p3 p4=>by omega,fun p q p1 p2 p3 p4=>?_⟩⟩
 show ga w2 p<=ga w2 q
 by_cases c1:o<p
 exact e3 p q c1 p2 p4
 rw[e2.out p (by omega)]
 have hpo:ga w1 p<=ga w1 o:=by by_cases c2:p=o;rw[c2];exact Int.le_refl _;exact h1 p p1 (by omega)
 by_cases c3:q=o
 rw[c3,e2.out o (by omega)];exact hpo
 obtain⟨q',q1,q2,q3⟩:=e2.src q (by omega) p4
 have:=h2 q' (by omega) q2
 omega
def aVz(self:Int->Int->Int->List Int->Option (List Int))(s1 s2 d lim:Int)(s8 s9:Bool)(pv:Int)(w:List Int):Option (aZp⊕List Int):=
 AE (decide (0<s1)) (
  AU (0<=(AA .sub .i64 s1 1)/\(AA .sub .i64 s1 1)+1<=(w.length:Int)) (
   AS w (AA .sub .i64 s1 1) fun x12=>
   AU (0<=pv/\pv+1<=(w.length:Int)) (
    AS w pv fun x13=>
    AH (Yj x12 x13) fun r14=>
    AE (!r14) (
     AH (Xh s1 s2 pv w) fun r15=>
     some (.inl (r15.1,s2,lim,s8,s9,r15.2))) (
     AH (Xa s1 s2 pv w) fun r16=>
     AH (F8 self s1 s2 lim r16.2.1 r16.1 (AA .sub .i64 r16.1 s1) (AA .sub .i64 s2 r16.1) (AA .quo .i64 d 8) (decide ((AA .sub .i64 r16.1 s1)<(AA .sub .i64 s2 r16.1))) r16.2.2) fun o19=>
     some (.inl (o19.1,o19.2.1,lim,o19.2.2.1,r16.2.1,o19.2.2.2)))))) (
  AH (Xa s1 s2 pv w) fun r20=>
  AH (F8 self s1 s2 lim r20.2.1 r20.1 (AA .sub .i64 r20.1 s1) (AA .sub .i64 s2 r20.1) (AA .quo .i64 d 8) (decide ((AA .sub .i64 r20.1 s1)<(AA .sub .i64 s2 r20.1))) r20.2.2) fun o21=>
  some (.inl (o21.1,o21.2.1,lim,o21.2.2.1,r20.2.1,o21.2.2.2)))
theorem aV0{self:Int->Int->Int->List Int->Option (List Int)}{a b p:Nat}(d lim:Int)(s8 s9:Bool){w w1:List Int}(hS:Slf self (b-a))(hl:w.length<=60000)(hb:b<=w.length)(hp:a<=p/\p<b)(hab:a+2<=b)(h1:Pm a b w w1)(hL:Lo a b w1):
 ∃x,aVz self (a:Int) (b:Int) d lim s8 s9 (p:Int) w1=some (.inl x)/\Rd a b w x:=by
 have hl1:=h1.len
 have part:∃x,(AH (Xa (a:Int) (b:Int) (p:Int) w1) fun r20=>
  AH (F8 self (a:Int) (b:Int) lim r20.2.1 r20.1 (AA .sub .i64 r20.1 (a:Int)) (AA .sub .i64 (b:Int) r20.1) (AA .quo .i64 d 8) (decide ((AA .sub .i64 r20.1 (a:Int))<(AA .sub .i64 (b:Int) r20.1))) r20.2.2) fun o21=>
  some (.inl (o21.1,o21.2.1,lim,o21.2.2.1,r20.2.1,o21.2.2.2):aZp⊕List Int))=some (.inl x)/\Rd a b w x:=by
  obtain⟨o,f,w2,e1,e2,e3,e4,e5,e6⟩:=bEf a b p w1 (by omega) (by omega) hp hab
  obtain⟨y,f1,f2⟩:=bDp (o:=o) lim f (AA .quo .i64 d 8) hS hl hb e2 e3 (h1.trans e4) (hL.pm e4) e5 e6 (by omega)
  refine⟨_,?_,f2 y.2.2.1⟩
  rw[e1,AB]
  simp only
  rw[aFd (n:=o) (m:=a) (by omega),aFd (n:=b) (m:=o) (by omega),f1,AB]
 unfold aVz
 by_cases h0:0<a
 rw[decide_eq_true (by omega),AG]
 by_cases hc:ga w1 (a-1)<ga w1 p
 obtain⟨x,x1,x2⟩:=part
 refine⟨x,?_,x2⟩
 rw[<-x1]
 simp (disch:=omega) only[D1,Fg,E3,B0,AB,hc,decide_true,Bool.not_true,AF]
 obtain⟨o,w2,e1,e2,e3,e4,e5⟩:=bD6 a b p w1 (by omega) (by omega) hp hab
 have hL2:=hL.pm e4
 have ha:ga w2 (a-1)=ga w1 (a-1):=e4.out _ (by omega)
 refine⟨((o:Int),(b:Int),lim,s8,s9,w2),?_,⟨o,b,rfl,rfl,by omega,e3,Nat.le_refl _,by omega,h1.trans e4,fun q0 k k1 k2=>?_,fun p' q p1 p2 p3 p4=>?_,fun p' q p1 p2 p3 p4=>by omega⟩⟩
 simp (disch:=omega) only[D1,Fg,E3,B0,AB,hc,decide_false,Bool.not_false,AG,e1]
 show ga w2 (o-1)<=ga w2 k
 have:=e5 (o-1) (by omega) (by omega)
 have:=hL2 h0 k (by omega) k2
 omega
 show ga w2 p'<=ga w2 q
 have:=e5 p' p1 p2
 have:=hL2 h0 q (by omega) p4
 omega
 rw[decide_eq_false (by omega),AF];exact part
theorem bDo{self:Int->Int->Int->List Int->Option (List Int)}{a b:Nat}(lim:Int)(s8 s9 fl:Bool)(t pv:Int){w1:List Int}(hl:w1.length<=60000)(hb:b<=w1.length)(hab:a<b)(hL:Lo a b w1):
 ∃o w2,KX self (a:Int) (b:Int) lim s8 s9 t pv fl w1=some o/\Pm a b w1 w2/\(o=.inl w2\/o=.inr w2/\So a b w2):=by
 unfold KX
 cases fl with
 |false=>exact⟨_,w1,rfl,Pm.refl _ _ _,.inl rfl⟩
 |true=>
  obtain⟨f,w2,e1,e2,e3⟩:=bEb a b w1 (by omega) hb hab hL
  rw[AG,e1,AB]
  cases f with
  |true=>exact⟨_,w2,rfl,e2,.inr ⟨rfl,e3 rfl⟩⟩
  |false=>exact⟨_,w2,rfl,e2,.inl rfl⟩
theorem bDn{self:Int->Int->Int->List Int->Option (List Int)}{a b:Nat}(lim:Int)(s8 s9:Bool){w:List Int}(hS:Slf self (b-a))(hl:w.length<=60000)(hb:b<=w.length)(hab:a<=b)(hL:Lo a b w):
 ∃o,OS self (a:Int) (b:Int) lim s8 s9 w=some o/\((∃w',o=.inr w'/\Pm a b w w'/\So a b w')\/∃x,o=.inl x/\Rd a b w x):=by
 unfold OS
 rw[aFd (n:=b) (m:=a) (by omega)]
 by_cases h12:b-a<=12
 obtain⟨w',e1,e2,e3⟩:=bDu a b w (by omega) hb hab
 exact⟨_,by rw[decide_eq_true (by omega),AG,e1,AB],.inl ⟨w',rfl,e2,e3⟩⟩
 rw[decide_eq_false (by omega),AF]
 by_cases hlim:lim=0
 obtain⟨w',e1,e2,e3⟩:=aVd a b w (by omega) hb (by omega)
 exact⟨_,by rw[decide_eq_true hlim,AG,e1,AB],.inl ⟨w',rfl,e2,e3⟩⟩
 rw[decide_eq_false hlim,AF]
 obtain⟨l1,w1,e1,e2⟩:∃l1 w1,OT self (a:Int) (b:Int) lim s8 s9 ((b-a:Nat):Int) (!s8) w=some (l1,w1)/\Pm a b w w1:=by
  unfold OT;cases s8 with
  |true=>exact⟨_,_,rfl,Pm.refl _ _ _⟩
  |false=>
   obtain⟨w1,e1,e2⟩:=aYj a b w hl hb (by omega)
   exact⟨_,w1,by rw[Bool.not_false,AG,e1,AB],e2⟩
 have hl1:=e2.len
 obtain⟨pv,hint,f1,p,rfl,p1,p2⟩:=aY0 a b w1 (by omega) (by omega) (by omega)
 obtain⟨p',hint',w2,g1,g2,g3,g4⟩:∃(p':Nat) (hint':Int) (w2:List Int),OU self (a:Int) (b:Int) l1 s8 s9 ((b-a:Nat):Int) (p:Int) hint (decide (hint=2)) w1=some ((p':Int),hint',w2)/\a<=p'/\p'<b/\Pm a b w1 w2:=by unfold OU;by_cases h2:hint=2;obtain⟨w2,g1,g2⟩:=aY6 a b w1 (by omega) (by omega) hab;refine⟨b-1-(p-a),1,w2,?_,by omega,by omega,g2⟩;rw[decide_eq_true h2,AG,g1,AB,D1 (by omega),aFd (n:=p) (m:=a) (by omega),aFd (n:=b-1) (m:=p-a) (by omega)];exact⟨p,hint,w1,by rw[decide_eq_false h2,AF],p1,p2,Pm.refl _ _ _⟩
 have h02:=e2.trans g4
 have hL2:=hL.pm h02
 have hl2:=h02.len
 have fin:∀fl:Bool,∃o,(AH (KX self (a:Int) (b:Int) l1 s8 s9 ((b-a:Nat):Int) (p':Int) fl w2) fun o9=>
  Ba o9 (fun o10=>aVz self (a:Int) (b:Int) ((b-a:Nat):Int) l1 s8 s9 (p':Int) o10) (fun o11=>some (.inr o11)))=some o/\((∃w',o=.inr w'/\Pm a b w w'/\So a b w')\/∃x,o=.inl x/\Rd a b w x):=fun fl=>by
  obtain⟨o,w3,h1,h2,h3⟩:=bDo (self:=self) l1 s8 s9 fl ((b-a:Nat):Int) (p':Int) (w1:=w2) (by omega) (by omega) (by omega) hL2
  rw[h1,AB]
  rcases h3 with rfl|⟨rfl,h3⟩
  obtain⟨x,x1,x2⟩:=aV0 ((b-a:Nat):Int) l1 s8 s9 hS hl hb ⟨g2,g3⟩ (by omega) (h02.trans h2) (hL2.pm h2)
  exact⟨_,by rw[BY,x1],.inr ⟨x,rfl,x2⟩⟩
  exact⟨_,D8 _ _ _,.inl ⟨w3,rfl,h02.trans h2,h3⟩⟩
 rw[e1,AB]
 simp only
 rw[f1,AB]
 simp only
 rw[g1,AB]
 simp only
 cases s8 with
 |true=>cases s9 with
  |true=>rw[AG,AG];exact fin (decide (hint'=1))
  |false=>rw[AG,AF];exact fin false
 |false=>rw[AF];exact fin false
theorem aYz{self:Int->Int->Int->List Int->Option (List Int)}{N:Nat}(hS:Slf self N):∀(m a b:Nat) (lim:Int) (s8 s9:Bool) (w:List Int),b-a<=m->b-a<=N->w.length<=60000->b<=w.length->a<=b->Lo a b w->
 ∃w',R7 self (a:Int) (b:Int) lim s8 s9 w=some w'/\Pm a b w w'/\So a b w':=by
 intro m
 induction m using Nat.strongRecOn with
 |ind m ih=>
  intro a b lim s8 s9 w hm hN hl hb hab hL
  rw[aHo]
  unfold IY
  obtain⟨o,e1,e2⟩:=bDn lim s8 s9 (fun a' b' l w' h1 h2 h3 h4 h5=>hS a' b' l w' (by omega) h2 h3 h4 h5) hl hb hab hL
  rw[e1,AB]
  rcases e2 with⟨w',rfl,f1,f2⟩|⟨x,rfl,f1⟩
  exact⟨w',by rw[D8,Ae],f1,f2⟩
  obtain⟨a',b',x1,x2,k1,k2,k3,k4,k5,k6,k7,k8⟩:=f1
  have hl5:=k5.len
  obtain⟨w',g1,g2,g3⟩:=ih (b'-a') (by omega) a' b' x.2.2.1 x.2.2.2.1 x.2.2.2.2.1 x.2.2.2.2.2 (Nat.le_refl _) (by omega) (by omega) (by omega) k2 k6
  refine⟨w',?_,k5.trans (g2.mono k1 k3),fun p q p1 p2 p3=>?_⟩
  rw[BY,BF]
  simp only
  rw[x1,x2];exact g1
  by_cases c1:p<a'
  rw[g2.out p (by omega)]
  by_cases c2:a'<=q/\q<b'
  obtain⟨q',q1,q2,q3⟩:=g2.src q c2.1 c2.2
  rw[q3];exact k7 p q' p1 c1 (by omega) (by omega)
  rw[g2.out q (by omega)];exact k7 p q p1 c1 p2 p3
  by_cases c2:b'<=q
  rw[g2.out q (by omega)]
  by_cases c3:p<b'
  obtain⟨p',q1,q2,q3⟩:=g2.src p (by omega) c3
  rw[q3];exact k8 p' q (by omega) (by omega) c2 p3
  rw[g2.out p (by omega)];exact k8 p q p1 p2 c2 p3
  exact g3 p q (by omega) p2 (by omega)
theorem bD2:∀n,Slf (aQj n) n:=by
 intro n;induction n with
 |zero=>intro a b lim w h;omega
 |succ n ih=>
  intro a b lim w h1 h2 h3 h4 h5
  obtain⟨w',e1,e2,e3⟩:=aYz ih (b-a) a b lim true true w (Nat.le_refl _) (by omega) h4 h3 h2 h5
  refine⟨w',?_,e2,e3⟩
  show aSd (aQj n) (a:Int) (b:Int) lim w=some w'
  unfold aSd
  rw[e1,AB]
theorem Tu{w:List Int}(hl:w.length<=60000):∃w',Qs w=some w'/\w'.Perm w/\w'.Pairwise (· <= ·):=by obtain⟨k,e1,_⟩:=aQd (n:=w.length) (by omega);obtain⟨w',f1,f2,f3⟩:=bD2 100000 0 w.length (k:Int) w (by omega) (by omega) (Nat.le_refl _) hl (fun h=>by omega);refine⟨w',?_,f2.perm,?_⟩;unfold Qs;rw[BC (by omega),e1,AB];have f1':Xd 0 (w.length:Int) (k:Int) w=some w':=f1;rw[f1',AB];rw[List.pairwise_iff_getElem];intro i j hi hj hij;have:=f3 i j (by omega) hij (by have:=f2.len;omega);rw[Jw hi,Jw hj];exact this
theorem GI{l m:List Int}(h1:l.Pairwise (· <= ·))(h2:m.Pairwise (· <= ·))(hp:l.Perm m):l=m:=
 List.Perm.eq_of_pairwise (fun a b _ _ h3 h4=>by omega) h1 h2 hp
theorem aGi{w l:List Int}(hl:w.length<=60000)(hs:l.Pairwise (· <= ·))(hp:l.Perm w):Un w=some l:=by unfold Un;refine aUr fun p hp'=>?_;obtain⟨w',e1,e2,e3⟩:=Tu (w:=p) (by rw[hp'.length_eq];exact hl);rw[e1,GI e3 hs (e2.trans (hp'.trans hp.symm))]
theorem aDx{α:Type}{le:α->α->Bool}{x y:α}{l:List α}:y∈NW le x l↔y=x\/y∈l:=by rw[(HY le x l).mem_iff,mc]
theorem Ho{α:Type}{le:α->α->Bool}(h1:∀a b,le a b=true\/le b a=true)(h2:∀a b c,le a b=true->le b c=true->le a c=true)(x:α):∀{l:List α},l.Pairwise (fun a b=>le a b=true)->(NW le x l).Pairwise (fun a b=>le a b=true)
 |[],_=>by simp[NW]
 |y::l,h=>by
  obtain⟨ha,hb⟩:=List.pairwise_cons.1 h;rw[NW];split;rename_i hxy;refine List.pairwise_cons.2 ⟨fun z hz=>?_,h⟩;rcases mc.1 hz with rfl|hz
  exact hxy;exact h2 _ _ _ hxy (ha z hz);rename_i hxy;refine List.pairwise_cons.2 ⟨fun z hz=>?_,Ho h1 h2 x hb⟩;rcases aDx.1 hz with rfl|hz
  rcases h1 y z with h|h
  exact h;rw[hxy]at h;cases h;exact ha z hz
theorem E0{α:Type}{le:α->α->Bool}(h1:∀a b,le a b=true\/le b a=true)(h2:∀a b c,le a b=true->le b c=true->le a c=true):∀(l:List α),(Nv le l).Pairwise (fun a b=>le a b=true)
 |[]=>List.Pairwise.nil
 |x::l=>Ho h1 h2 x (E0 h1 h2 l)
theorem Ez(xs:List Int):(aPz xs).Pairwise (· <= ·):=
 (E0 (le:=fun a b:Int=>decide (a<=b)) (fun a b=>by simp only[decide_eq_true_eq];omega) (fun a b c h1 h2=>by simp only[decide_eq_true_eq]at*;omega) xs).imp fun h=>by simpa using h
theorem J3{V:Type}(S:List (Int×V)):(aPe S).Pairwise (fun a b=>a.1<=b.1):=
 (E0 (le:=fun a b:Int×V=>decide (a.1<=b.1)) (fun a b=>by simp only[decide_eq_true_eq];omega) (fun a b c h1 h2=>by simp only[decide_eq_true_eq]at*;omega) S).imp fun h=>by simpa using h
def aRn(q:AD)(l:List Ad)(cs:List X3)(x:X3):Prop:=∃c∈cs,bEn q l c x
theorem TW{n:Nat}(s1:List X3)(s2:List Ad)(s9 s10:Int)(q:AD){r:List X3}(hr:∀x∈r,CV n x)(hrl:r.length<=12){w0:List X3}(hw:∀x∈w0,CV n x)(hl:w0.length<=90000):
 ∃w,aJp s1 s2 s9 s10 r q w0 0=some w/\(∀x∈w,CV n x)/\w.length<=w0.length+r.length/\∀x,x∈w↔x∈w0\/x∈r:=by
 obtain⟨o,ho,hQ⟩:=Ap (step:=fun s:List X3×Int=>E8 s1 s2 s9 s10 r q s.1 s.2)
  (fun s=>∃(j:Nat) (w:List X3),s=(w,(j:Int))/\j<=r.length/\(∀x∈w,CV n x)/\w.length<=w0.length+j/\∀x,x∈w↔x∈w0\/x∈r.take j)
  (fun s=>(r.length-s.2).toNat)
  (fun o=>(∀x∈o,CV n x)/\o.length<=w0.length+r.length/\∀x,x∈o↔x∈w0\/x∈r)
  (by
   rintro s ⟨j,w,rfl,hj,hcw,hlen,hm⟩;by_cases he:j=r.length;subst he;exact .inl ⟨w,by simp only[E8,ltI,AF],hcw,hlen,fun x=>by rw[hm x,List.take_length]⟩;right;obtain⟨y,hy,_⟩:=AQ (l:=r) (i:=j) (by omega);have hcy:=hr y (List.mem_of_getElem? hy);obtain⟨r2,hr2,hP⟩:=(aXs hcw hcy (by omega)).1;have hP2:=hP.2;have htake:r.take (j+1)=r.take j++[y]:=by rw[List.take_add_one,hy];rfl
   refine⟨(r2,((j+1:Nat):Int)),?_,⟨j+1,r2,rfl,by omega,hP.cv hcw hcy,by omega,fun x=>?_⟩,by simp only;omega⟩;simp only[E8,ltD hy,AG,AL hy,hr2,AB,Ah hy (show r.length<=9223372036854775807 by omega)];rw[hP.1 x,hm x,htake,ma,List.mem_singleton];constructor;rintro(h|h|h);exact .inr (.inr h);exact .inl h;exact .inr (.inl h);rintro(h|h|h);exact .inr (.inl h);exact .inr (.inr h);exact .inl h)
  (w0,(0:Int)) ⟨0,w0,rfl,by omega,hw,by omega,fun x=>by simp⟩
 exact⟨o,ho,hQ⟩
theorem TV{q:AD}(hF:CY q)(hR:AY q)(hS:B6 q){l:List Ad}(hl:Mo l){cs:List X3}(hc:∀c∈cs,CV q.states.length c)(hcl:cs.length<=1000):
 ∃w,aJn cs l q [] 0 0=some (w,0)/\(∀x∈w,CV q.states.length x)/\w.length<=12*cs.length/\∀x,x∈w↔aRn q l cs x:=by
 obtain⟨o,ho,w,rfl,hcw,hlen,hm⟩:=Ap (step:=fun s:List X3×Int×Int=>E7 cs l q s.1 s.2.1 s.2.2)
  (fun s=>∃(j:Nat) (w:List X3),s=(w,0,(j:Int))/\j<=cs.length/\(∀x∈w,CV q.states.length x)/\w.length<=12*j/\∀x,x∈w↔aRn q l (cs.take j) x)
  (fun s=>(cs.length-s.2.2).toNat)
  (fun o=>∃w,o=(w,(0:Int))/\(∀x∈w,CV q.states.length x)/\w.length<=12*cs.length/\∀x,x∈w↔aRn q l cs x)
  (by
   rintro s ⟨j,w,rfl,hj,hcw,hlen,hm⟩;by_cases he:j=cs.length;subst he;exact .inl ⟨(w,0),by simp only[E7,ltI,AF],w,rfl,hcw,by omega,fun x=>by rw[hm x,List.take_length]⟩;right;obtain⟨c,hy,_⟩:=AQ (l:=cs) (i:=j) (by omega);have hcy:=hc c (List.mem_of_getElem? hy);obtain⟨r,hr,hrc,hrl,hrm⟩:=bA9 hF hR hS hl hcy;obtain⟨w2,hw2,hw2c,hw2l,hw2m⟩:=TW cs l 0 (j:Int) q hrc hrl hcw (by omega);have htake:cs.take (j+1)=cs.take j++[c]:=by rw[List.take_add_one,hy];rfl
   refine⟨(w2,(0:Int),((j+1:Nat):Int)),?_,⟨j+1,w2,rfl,by omega,hw2c,by omega,fun x=>?_⟩,by simp only;omega⟩;simp only[E7,ltD hy,AG,AL hy,hr,AB,aRj,hw2,Ah hy (show cs.length<=9223372036854775807 by omega)];rw[hw2m x,hm x,hrm x,htake];unfold aRn;constructor;rintro(⟨a,ha,h⟩|h);exact⟨a,ml _ ha,h⟩;exact⟨c,by simp,h⟩;rintro⟨a,ha,h⟩;rcases ma.1 ha with g|g
   exact .inl ⟨a,g,h⟩;rw[List.mem_singleton.1 g]at h;exact .inr h)
  ([],(0:Int),(0:Int)) ⟨0,[],rfl,by omega,by simp,by simp,fun x=>by simp[aRn]⟩
 exact⟨w,ho,hcw,hlen,hm⟩
theorem aXo{q:AD}(hF:CY q)(hR:AY q)(hS:B6 q){l:List Ad}(hl:Mo l){cs:List X3}(hc:∀c∈cs,CV q.states.length c)(hcl:cs.length<=256):
 ∃r,Xt q cs l=some r/\(r.2=0->(∀x∈r.1,CV q.states.length x)/\r.1.length<=256/\∀x,x∈r.1↔aRn q l cs x):=by
 obtain⟨w,ho',hcw,hlen,hm⟩:=TV hF hR hS hl hc (by omega)
 unfold Xt
 rw[ho',AB]
 simp only[decide_true,AG,OX]
 by_cases h:256<w.length
 rw[decide_eq_true (by omega),AG,AB]
 exact⟨_,rfl,fun h=>by cases h⟩
 rw[decide_eq_false (by omega),AF,AB]
 exact⟨_,rfl,fun _=>⟨hcw,by simp only;omega,hm⟩⟩
def ND(n S:Nat):List X3:=((List.range n).filter fun s=>S.testBit s).map fun s=>X3.mk ((s:Nat):Int) []
theorem Jp{n S:Nat}{x:X3}:x∈ND n S↔ ∃s,s<n/\S.testBit s=true/\x=X3.mk (s:Int) []:=by unfold ND;simp only[mm,List.mem_filter,List.mem_range];constructor;rintro⟨s,⟨h1,h2⟩,h3⟩;exact⟨s,h1,h2,h3.symm⟩;rintro⟨s,h1,h2,h3⟩;exact⟨s,⟨h1,h2⟩,h3.symm⟩
structure Tb(n:Nat)(l:List Ad):Prop extends Mo l where
 sym:∀h∈l,0<=h.symbol/\h.symbol<n
theorem aUg{a b:Nat}(h:a+b<18446744073709551616):AA .add .u64 (a:Int) (b:Int)=((a+b:Nat):Int):=by show IntKind.wrap .u64 ((a:Int)+(b:Int))=_;rw[<-Int.natCast_add];exact BC h
theorem Tg{n:Nat}(hn:n<=12){l:List Ad}(hl:Tb n l):∃M:Nat,Zf l=some (M:Int)/\M<18446744073709551616/\∀k:Nat,M.testBit k=true↔ ∃h∈l,h.symbol=(k:Int):=by
 have hln:=hl.len;obtain⟨o,ho,M,rfl,hQ⟩:=Ap (step:=fun s:Int×Int=>JQ l s.1 s.2)
  (fun s=>∃(j w:Nat),s=((w:Int),(j:Int))/\j<=l.length/\w<2^12/\∀k:Nat,w.testBit k=true↔ ∃i,i<j/\∃h,l[i]? =some h/\h.symbol=(k:Int))
  (fun s=>(l.length-s.2).toNat)
  (fun o=>∃M:Nat,o=(M:Int)/\M<18446744073709551616/\∀k:Nat,M.testBit k=true↔ ∃h∈l,h.symbol=(k:Int))
  (by
   rintro s ⟨j,w,rfl,hj,hw,hm⟩;by_cases he:j=l.length;subst he;refine .inl ⟨(w:Int),by simp only[JQ,ltI,AF],w,rfl,Nat.lt_of_lt_of_le hw (by decide),fun k=>?_⟩;rw[hm k];constructor;rintro⟨i,_,h,hi,hs⟩;exact⟨h,List.mem_of_getElem? hi,hs⟩;rintro⟨h,hh,hs⟩;obtain⟨i,hi⟩:=List.mem_iff_getElem?.1 hh;exact⟨i,(List.getElem?_eq_some_iff.1 hi).1,h,hi,hs⟩;right;obtain⟨y,hy,_⟩:=AQ (l:=l) (i:=j) (by omega);have hsy:=hl.sym y (List.mem_of_getElem? hy);obtain⟨z,hz⟩:∃z:Nat,y.symbol=(z:Int):=⟨y.symbol.toNat,by omega⟩;have hz12:z<12:=by omega
   have hwz:w<2^z:=Nat.lt_pow_two_of_testBit w fun i hi=>by
    cases hb:w.testBit i with
    |false=>rfl
    |true=>
     exfalso
     obtain⟨a,ha,h,hh,hs⟩:=(hm i).1 hb
     obtain⟨p1,e1⟩:=List.getElem?_eq_some_iff.1 hh
     obtain⟨p2,e2⟩:=List.getElem?_eq_some_iff.1 hy
     have:=List.pairwise_iff_getElem.1 hl.rise a j p1 p2 ha
     rw[e1,e2]at this
     omega
   have hor:w+2^z=2^z|||w:=by have:=Nat.two_pow_add_eq_or_of_lt hwz 1;rw[Nat.mul_one]at this;rw[Nat.add_comm];exact this
   have hp12:2^z<2^12:=Nat.pow_lt_pow_right (by decide) hz12;have hlt12:w+2^z<2^12:=by rw[hor];exact Nat.or_lt_two_pow hp12 hw
   have hwz2:IntKind.wrap .u64 (z:Int)=(z:Int):=BC (by omega);refine⟨(((w+2^z:Nat):Int),((j+1:Nat):Int)),?_,⟨j+1,w+2^z,rfl,by omega,hlt12,fun k=>?_⟩,by simp only;omega⟩;simp only[JQ,ltD hy,AG,AL hy,hz,hwz2,Aj (show(0:Int)<=(z:Int) by omega),Ah hy (show l.length<=9223372036854775807 by omega)];rw[aP1 (by omega),aUg (Nat.lt_of_lt_of_le hlt12 (by decide))];rw[hor,Nat.testBit_or,Nat.testBit_two_pow,Bool.or_eq_true,decide_eq_true_eq,hm k];constructor;rintro(h|⟨i,hi,a⟩);exact⟨j,by omega,y,hy,by rw[hz,h]⟩;exact⟨i,by omega,a⟩;rintro⟨i,hi,h,hh,hs⟩;rcases Nat.lt_or_ge i j with g|g
   exact .inr ⟨i,g,h,hh,hs⟩;have:i=j:=by omega
   subst this;rw[hy,oe]at hh;subst hh;exact .inl (by omega))
  ((0:Int),(0:Int)) ⟨0,0,rfl,by omega,by decide,fun k=>by simp⟩
 have ho':aTy l 0 0=some (M:Int):=ho;exact⟨M,by unfold Zf;rw[ho',AB],hQ⟩
theorem GB{α:Type}(f:Nat->α->Nat)(P:α->Nat->Prop)(hf:∀w x k,(f w x).testBit k=true↔w.testBit k=true\/P x k):∀(l:List α) (w k:Nat),(l.foldl f w).testBit k=true↔w.testBit k=true\/∃x∈l,P x k
 |[],w,k=>by simp
 |x::l,w,k=>by
  rw[List.foldl_cons,GB f P hf l,hf];constructor;rintro((h|h)|⟨y,hy,h⟩);exact .inl h;exact .inr ⟨x,by simp,h⟩;exact .inr ⟨y,List.mem_cons_of_mem _ hy,h⟩;rintro(h|⟨y,hy,h⟩);exact .inl (.inl h);rcases mc.1 hy with rfl|hy
  exact .inl (.inr h);exact .inr ⟨y,hy,h⟩
theorem KP(q:AD)(M s k:Nat):(toN q M s).testBit k=true↔ ∃t∈q.trans,(t.from_=(s:Int)/\M.testBit t.symbol.toNat=true)/\t.to.toNat=k:=by
 unfold toN;rw[GB (toF M s) (fun t k=>(t.from_=(s:Int)/\M.testBit t.symbol.toNat=true)/\t.to.toNat=k) (fun w t k=>by unfold toF;by_cases h:t.from_=(s:Int)/\M.testBit t.symbol.toNat=true;rw[if_pos h,Nat.testBit_or,Nat.testBit_two_pow,Bool.or_eq_true,decide_eq_true_eq];exact⟨fun a=>a.elim .inl fun b=>.inr ⟨h,b⟩,fun a=>a.elim .inl fun b=>.inr b.2⟩;rw[if_neg h];exact⟨.inl,fun a=>a.elim id fun b=>absurd b.1 h⟩)]
 simp
theorem Md(q:AD)(M s:Nat):toN q M s=0↔ ∀t∈q.trans,¬(t.from_=(s:Int)/\M.testBit t.symbol.toNat=true):=by
 constructor;intro h t ht hh;have:=(KP q M s t.to.toNat).2 ⟨t,ht,hh,rfl⟩;rw[h]at this;simp at this;intro h;apply Nat.eq_of_testBit_eq;intro i;rw[Nat.zero_testBit];cases hb:(toN q M s).testBit i with
 |false=>rfl
 |true=>
  obtain⟨t,ht,hh,_⟩:=(KP q M s i).1 hb
  exact absurd hh (h t ht)
theorem Nj(q:AD)(S M k:Nat):(Du q S M).testBit k=true↔ ∃s,s<q.states.length/\S.testBit s=true/\(aFt q M s).testBit k=true:=by
 unfold Du;rw[GB (MJ q S M) (fun s k=>S.testBit s=true/\(aFt q M s).testBit k=true) (fun w s k=>by unfold MJ;by_cases h:S.testBit s=true;rw[if_pos h,Nat.testBit_or,Bool.or_eq_true];exact⟨fun a=>a.elim .inl fun b=>.inr ⟨h,b⟩,fun a=>a.elim .inl fun b=>.inr b.2⟩;rw[if_neg h];exact⟨.inl,fun a=>a.elim id fun b=>absurd b.1 h⟩)]
 simp only[List.mem_range,Nat.zero_testBit,Bool.false_eq_true,false_or]
theorem aEo{q:AD}(hF:CY q)(hR:AY q){S M:Nat}{l:List Ad}(hl:Tb q.symbols.length l)(hM:∀k:Nat,M.testBit k=true↔ ∃h∈l,h.symbol=(k:Int))(k:Nat):
 (Du q S M).testBit k=true↔ ∃x,aRn q l (ND q.states.length S) x/\x.state=(k:Int):=by
 have hsy:=hF.symbols
 have hbit:∀t∈q.trans,(M.testBit t.symbol.toNat=true↔ ∃h∈l,h.symbol=t.symbol):=fun t ht=>by have:=(hR.ends t ht).1;rw[hM,show((t.symbol.toNat:Nat):Int)=t.symbol by omega]
 have hstep:∀(s:Nat) (y:X3),OI q l (X3.mk (s:Int) []) y↔ ∃t∈q.trans,(t.from_=(s:Int)/\M.testBit t.symbol.toNat=true)/\y=X3.mk t.to []:=fun s y=>by unfold OI;constructor;rintro⟨t,ht,h1,h2,h3⟩;exact⟨t,ht,⟨h1,(hbit t ht).2 h2⟩,h3⟩;rintro⟨t,ht,⟨h1,h2⟩,h3⟩;exact⟨t,ht,h1,(hbit t ht).1 h2,h3⟩
 rw[Nj]
 constructor
 rintro⟨s,hs,hSs,hb⟩
 obtain⟨st,hst,_⟩:=AQ hs
 have hc:X3.mk (s:Int) []∈ND q.states.length S:=Jp.2 ⟨s,hs,hSs,rfl⟩
 unfold aFt at hb
 split at hb
 rename_i h0
 rw[Nat.testBit_two_pow,decide_eq_true_eq]at hb
 subst hb
 refine⟨X3.mk (s:Int) [],⟨_,hc,.inr ⟨fun y hy=>?_,?_,rfl⟩⟩,rfl⟩
 obtain⟨t,ht,hh,_⟩:=(hstep s y).1 hy
 exact(Md q M s).1 h0.1 t ht hh
 have h2:=h0.2
 rw[hst,Option.map_some,oe]at h2
 exact⟨st,by simpa using hst,h2⟩
 obtain⟨t,ht,hh,hk⟩:=(KP q M s k).1 hb
 have:=(hR.ends t ht).2.2
 exact⟨X3.mk t.to [],⟨_,hc,.inl ((hstep s _).2 ⟨t,ht,hh,rfl⟩)⟩,by simp only;omega⟩
 rintro⟨x,⟨c,hc,hO⟩,hk⟩
 obtain⟨s,hs,hSs,rfl⟩:=Jp.1 hc
 obtain⟨st,hst,_⟩:=AQ hs
 refine⟨s,hs,hSs,?_⟩
 unfold aFt
 rcases hO with h|⟨hno,⟨st2,hst2,hn⟩,rfl⟩
 obtain⟨t,ht,hh,rfl⟩:=(hstep s x).1 h
 rw[if_neg fun h0=>(Md q M s).1 h0.1 t ht hh]
 refine(KP q M s k).2 ⟨t,ht,hh,?_⟩
 simp only at hk;omega
 have h0:toN q M s=0:=(Md q M s).2 fun t ht hh=>hno _ ((hstep s _).2 ⟨t,ht,hh,rfl⟩)
 have hst':q.states[s]? =some st2:=by simpa using hst2
 rw[if_pos ⟨h0,by rw[hst',Option.map_some,hn]⟩,Nat.testBit_two_pow,decide_eq_true_eq]
 simp only at hk;omega
theorem LD{q:AD}(hF:CY q)(hR:AY q)(hS:B6 q)(e:X4)(b:List X2):Tb q.symbols.length (((List.range q.symbols.length).filterMap fun i=>F1 q i e).filter fun h=>Dt h.bind b):=by
 have hsy:=hF.symbols;have hmem:∀h∈(List.range q.symbols.length).filterMap (fun i=>F1 q i e),∃i,i<q.symbols.length/\F1 q i e=some h:=fun h hh=>by obtain⟨i,hi,hh⟩:=List.mem_filterMap.1 hh;exact⟨i,List.mem_range.1 hi,hh⟩
 refine⟨⟨fun h hh=>?_,?_,?_⟩,fun h hh=>?_⟩;obtain⟨i,_,hi⟩:=hmem h (List.mem_filter.1 hh).1;exact aDu hR hS hi;refine List.Pairwise.filter _ ?_;rw[List.pairwise_filterMap];refine List.Pairwise.imp ?_ (List.pairwise_lt_range (n:=q.symbols.length));intro i j hij a ha c hc;have h1:=(LC ha).1;have h2:=(LC hc).1;omega;have h1:=List.length_filter_le (fun h:Ad=>Dt h.bind b) ((List.range q.symbols.length).filterMap fun i=>F1 q i e);have h2:=List.length_filterMap_le (fun i=>F1 q i e) (List.range q.symbols.length);rw[List.length_range]at h2;omega;obtain⟨i,hi,hh⟩:=hmem h (List.mem_filter.1 hh).1;have:=(LC hh).1;omega

theorem Hm{α τ:Type}(p:α->Bool)(c d:τ):∀l:List α,(l.findSome? fun t=>if p t=true then some c else none).getD d=if l.any p=true then c else d
 |[]=>rfl
 |x::l=>by
  rw[List.findSome?_cons,List.any_cons];cases h:p x with
  |true=>simp
  |false=>simp only[Bool.false_eq_true,if_false,Bool.false_or];exact Hm p c d l
theorem aOu(l:List X6)(hl:l.length<=1000):Uh l=some (l.any fun t=>decide (0<=t.guard)):=by
 have hloop:aOa l (l.length:Int) 0=some (if(l.any fun t=>decide (0<=t.guard))=true then .inr ((l.findIdx fun t=>decide (0<=t.guard):Nat):Int)else .inl ()):=by unfold aOa;refine DY (step:=fun s=>Jc l (l.length:Int) s) l (fun t=>decide (0<=t.guard)) (fun i x hx=>?_) ?_;simp only[Jc,ltD hx,AG,AL hx,Ur,AB,Ah hx (show l.length<=9223372036854775807 by omega)];by_cases h:0<=x.guard<;>simp[h,AE];simp only[Jc,ltI,AF]
 unfold Uh Zu;rw[hloop,AB];cases h:l.any fun t=>decide (0<=t.guard)with
 |true=>rw[if_pos rfl,D8,AB];simp
 |false=>rw[if_neg (by simp),BY,AB];rfl
theorem aGh{q:AD}(hF:CY q)(hR:AY q):∃b,Ui q=some b/\Yv q=some b:=by
 have ht:=hF.trans;have hloop:aAa q 0=some (if(q.trans.any fun t=>decide (0<=t.guard))=true then .inr ()else .inl ()):=by
  unfold aAa;rw[D6 (step:=fun s=>FH q s) q.trans (fun _ t=>if decide (0<=t.guard)=true then some (Sum.inr ():Unit⊕Unit)else none) (.inl ())
   (fun i x hx=>by
    simp only[FH,ltD hx,AG,AL hx,Ah hx (show q.trans.length<=9223372036854775807 by omega)];rcases hR.guards x (List.mem_of_getElem? hx)with h|h
    simp[h,AE];have:¬x.guard= -1:=by omega
    simp[h,this,AE]) (by simp only[FH,ltI,AF])]
  rw[DG (fun t:X6=>if decide (0<=t.guard)=true then some (Sum.inr ():Unit⊕Unit)else none),Hm]
 unfold Ui Us Yv;rw[aOu _ (by omega),hloop];generalize (q.trans.any fun t=>decide (0<=t.guard))=g;by_cases h1:q.frees.length=0<;>by_cases h2:q.quants.length<=1<;>by_cases h3:q.states.length<=8<;>by_cases h4:q.symbols.length<=8<;>cases g<;>
  simp[De,h1,h2,h3,h4,AH,AE,Ba,show((q.quants.length:Int)<=1)↔q.quants.length<=1 by omega,show((q.states.length:Int)<=8)↔q.states.length<=8 by omega,show((q.symbols.length:Int)<=8)↔q.symbols.length<=8 by omega,show((1:Int)<q.quants.length)↔ ¬q.quants.length<=1 by omega,show((8:Int)<q.states.length)↔ ¬q.states.length<=8 by omega,show((8:Int)<q.symbols.length)↔ ¬q.symbols.length<=8 by omega,show((0:Int)<q.frees.length)↔ ¬q.frees.length=0 by omega,show((q.frees.length:Int)=0)↔q.frees.length=0 by omega,show(0<q.frees.length)↔ ¬q.frees.length=0 by omega]
theorem ID(l:List X0)(v:X0)(hl:l.length<=1000000):Qp l v=some (decide (v∈l)):=by
 have hloop:aN5 l (l.length:Int) v 0=some (if(l.any fun t=>decide (v=t))=true then .inr ((l.findIdx fun t=>decide (v=t):Nat):Int)else .inl ()):=by unfold aN5;refine DY (step:=fun s=>JY l (l.length:Int) v s) l (fun t=>decide (v=t)) (fun i x hx=>?_) ?_;simp only[JY,ltD hx,AG,AL hx,X0.eqb_dec,Ah hx (show l.length<=9223372036854775807 by omega)];by_cases h:v=x<;>simp[h,AE];simp only[JY,ltI,AF]
 have hany:(l.any fun t=>decide (v=t))=decide (v∈l):=by rw[Bool.eq_iff_iff,List.any_eq_true];simp
 unfold Qp Zq;rw[hloop,AB,hany];by_cases h:v∈l;simp only[h,decide_true,if_true,D8,AB];simp;simp only[h,decide_false,Bool.false_eq_true,if_false,BY,AB];rfl
theorem Fp{w:List X0}{x v:X0}:v∈OA w x↔v=x\/v∈w:=by unfold OA;by_cases h:x∈w;rw[if_pos h];exact⟨.inr,fun hh=>hh.elim (fun e=>e▸h) id⟩;rw[if_neg h];simp only[ma,mc,List.mem_filter];cases ltV v x<;>simp<;>constructor<;>(intro hh;rcases hh with a|b<;>simp_all)
theorem Tl{x:X0}:Qe x=some (true,[x]):=by
 have hb:Yb ([]:List X0) x ([]:List X0)=some (0,false):=by unfold Yb aLo;rw[An];simp[HK,YM,AE,AH,B1]
 unfold Qe aGb Ut aZi;rw[hb];simp[AH,AE,fit]
theorem aWi{w:List X0}(h:w.length<=1000):U3 w=some (w,w):=by unfold U3 Uu RF;rw[if_pos (B2 (by omega) (by decide))];rfl



theorem Ha{α β τ:Type}{step:β×Int->Option (β×Int⊕τ)}(l:List α)(f:β->α->β)(fin:β->τ)(I:Nat->β->Prop)
 (h1:∀(i:Nat) x w,l[i]? =some x->I i w->step (w,(i:Int))=some (.inl (f w x,((i+1:Nat):Int)))/\I (i+1) (f w x))
 (h2:∀w,I l.length w->step (w,(l.length:Int))=some (.inr (fin w))) (w:β) (h0:I 0 w):AR step (w,0)=some (fin (l.foldl f w)):=by
 have h:=FM (step:=step) l (fun i w=>(w,(i:Int))) (fun _ w x=>(.inl (f w x):β⊕τ)) fin I (fun i x w hx hI=>⟨(h1 i x w hx hI).1,fun w' hw=>by cases hw;exact(h1 i x w hx hI).2⟩) h2 (l.length+1) 0 w (by omega) (by omega) h0
 rw[show(w,(0:Int))=(w,((0:Nat):Int))from rfl,h,List.drop_zero]
 congr 1
 clear h h1 h2 h0
 generalize 0=i
 revert i w
 induction l with
 |nil=>intro w i;rfl
 |cons x xs ih=>intro w i;rw[MY];exact ih _ _
def Kx(k:Int)(w:List X0)(a:CN):List X0:=if a.kind=1/\a.value.kind=k then OA w a.value else w
def Dp(q:AD)(k:Int):List X0:=q.symbols.foldl (fun w s=>s.args.foldl (Kx k) w) (if k=3 then [X0.mk 3 0 [] false,X0.mk 3 0 [] true]else [])
theorem Jv{α β:Type}(I:Nat->β->Prop)(f:β->α->β):∀(l:List α) (i:Nat) (w:β),(∀(j:Nat) x w,x∈l->I j w->I (j+1) (f w x))->I i w->I (i+l.length) (l.foldl f w)
 |[],i,w,_,h0=>h0
 |x::l,i,w,h,h0=>by
  rw[List.foldl_cons,List.length_cons,show i+(l.length+1)=(i+1)+l.length by omega];exact Jv I f l (i+1) _ (fun j y w hy=>h j y w (List.mem_cons_of_mem _ hy)) (h i x w (by simp) h0)
theorem OG(k:Int):SW (if k=3 then [X0.mk 3 0 [] false,X0.mk 3 0 [] true]else []):=by
 split;refine⟨?_,?_⟩;simp[ltV];intro v hv;simp only[mc,List.not_mem_nil,or_false]at hv;rcases hv with rfl|rfl<;>decide
 exact⟨List.Pairwise.nil,by simp⟩
theorem L1{k:Int}{w:List X0}{a:CN}{n:Nat}(ha:a.kind=1->vR a.value=true)(hw:SW w)(hl:w.length<=n):SW (Kx k w a)/\(Kx k w a).length<=n+1:=by unfold Kx;split;rename_i h;have:=Ms hw (ha h.1);refine⟨this.1,?_⟩;rw[this.2];split<;>omega;exact⟨hw,by omega⟩
end
end Go.Ac
