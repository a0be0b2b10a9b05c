/- Own work: the plain law. -/
import Derived.Test.YtaacajciajkodaaGreatSh36a
import Derived.Test.YtaacajciajkodaaGreatAcC
set_option linter.unusedVariables false
set_option linter.unusedSimpArgs false
namespace Go.Ac
noncomputable section
def vR(v:X0):Bool:=
 if v.kind=1 then decide (v.str=[])&& !v.bool
 else if v.kind=2 then decide (v.int=0)&& !v.bool&&decide (v.str.length<=4096)
 else if v.kind=3 then decide (v.int=0)&&decide (v.str=[])else false
theorem aTa(v:X0):Zn v=some (vR v):=by
 unfold Zn vR;have hc:decide ((v.str.length:Int)<=4096)=decide (v.str.length<=4096):=by
  by_cases h:v.str.length<=4096;have:(v.str.length:Int)<=4096:=by omega
  simp[h,this];have:¬(v.str.length:Int)<=4096:=by omega
  simp[h,this]
 rw[hc];by_cases h1:v.kind=1;by_cases hs:v.str=[]<;>simp[h1,hs,AE];by_cases h2:v.kind=2;by_cases hn:v.int=0<;>cases hb:v.bool<;>simp[h2,hn,AE];by_cases h3:v.kind=3;by_cases hn:v.int=0<;>simp[h3,hn,AE];simp[h1,h2,h3,AE]
theorem X0.eqb_dec(a b:X0):X0.eqb a b=decide (a=b):=by rw[Bool.eq_iff_iff,X0.eqb_iff];simp
def zV:X0:=⟨0,0,[],false⟩
def EB(l:List X2)(v:Int):X0×Bool:=match l.findSome? (fun s=>if s.var=v then some s.value else none)with
 |some x=>(x,true)
 |none=>(zV,false)
theorem aQz(l:List X2)(v:Int)(o:Unit⊕X0)(h:o=(l.findSome? (fun s=>if s.var=v then some (Sum.inr s.value:Unit⊕X0)else none)).getD (.inl ())):
 Cd o (fun _=>some (X0.mk 0 0 ([]:List UInt8) false,false)) (fun o4=>some (o4,true))=some (EB l v):=by
 subst h
 have e:l.findSome? (fun s=>if s.var=v then some (Sum.inr s.value:Unit⊕X0)else none)=(l.findSome? (fun s=>if s.var=v then some s.value else none)).map Sum.inr:=by
  induction l with
  |nil=>rfl
  |cons s l ih=>rw[List.findSome?_cons,List.findSome?_cons];by_cases h:s.var=v<;>simp[h,ih]
 rw[e]
 unfold EB
 cases l.findSome? (fun s=>if s.var=v then some s.value else none)<;>rfl
theorem aJ6(l:List X2)(v:Int)(hl:l.length<=9223372036854775807):Yq l v=some (EB l v):=by
 unfold Yq aPl;rw[Ei l (fun _ s=>if s.var=v then some (Sum.inr s.value:Unit⊕X0)else none) (.inl ())
  (fun i x hx=>by simp only[K2,ltD hx,AJ,AP hx,A9 hx hl,D0];by_cases h:x.var=v<;>simp[h])
  (by simp only[K2,ltI,AI]),ED,AB]
 exact aQz l v _ rfl
theorem aNe(v:X0):∃b,Zn v=some b:=by
 unfold Zn;simp only[CS];repeat' split
 all_goals exact⟨_,rfl⟩
theorem FR{l:List X2}{v:Int}{x:X0}(h:EB l v=(x,true)):X2.mk v x∈l:=by unfold EB at h;split at h;rename_i y hy;cases h;obtain⟨s,hs,hv⟩:=List.exists_of_findSome?_eq_some hy;split at hv;rename_i e;cases hv;rw[<-e];exact hs;cases hv;cases h
theorem MN{β:Type}{a b n:Nat}(h:a+b<=1073741824)(hn:n<=131072)(k:Option β):AV (fit a b n) k=k:=Av (B2 h hn) k
structure EG(q:AD):Prop where
 decls:q.decls.length<=12
 quants:q.quants.length<=9
 frees:q.frees.length<=12
 states:q.states.length<=12
 symbols:q.symbols.length<=12
 trans:q.trans.length<=12
 nodes:q.nodes.length<=40
 args:∀s∈q.symbols,s.args.length<=12
 sets:∀t∈q.trans,t.sets.length<=12
theorem F1{α:Type}{l:List α}{R:α->Prop}(h:∀j,j<l.length->∀x,l[j]? =some x->R x):∀x∈l,R x:=by intro x hx;obtain⟨j,hj,rfl⟩:=List.mem_iff_getElem.1 hx;exact h j hj _ (List.getElem?_eq_getElem hj)
theorem aVy(q:AD):∃n,Xh q=some n/\(n≠0->EG q):=by
 unfold Xh;simp only[D0];iterate 8 (split; · exact⟨0,rfl,by simp⟩)
 rename_i h1 h2 h3 h4 h5 h6 h7 h8;have hd:q.decls.length<=9223372036854775807:=by omega
 have hs:q.symbols.length<=9223372036854775807:=by omega
 have hf:q.frees.length<=9223372036854775807:=by omega
 have hn:q.nodes.length<=9223372036854775807:=by omega
 have ht:q.trans.length<=9223372036854775807:=by omega
 obtain⟨t1,e1,_⟩:=Am (step:=fun s=>IE q s) q.decls.length (fun _=>True) (fun _=>True)
  (fun i hi=>by
   obtain⟨x,hx,_⟩:=Ab hi;simp only[IE,ltD hx,AJ,AP hx,A9 hx hd];simp only[CS];repeat' split
   all_goals first|exact .inl ⟨rfl,trivial⟩|exact .inr ⟨_,rfl,trivial⟩)
  (fun _=>⟨.inl (),by simp only[IE,ltI,AI],trivial⟩)
 obtain⟨t2,e2,Q2⟩:=Am (step:=fun s=>IF q s) q.symbols.length (fun i=>∀x,q.symbols[i]? =some x->x.args.length<=12) (fun t=>t=.inl ()->∀s∈q.symbols,s.args.length<=12)
  (fun i hi=>by
   obtain⟨x,hx,_⟩:=Ab hi;simp only[IF,ltD hx,AJ,AP hx,A9 hx hs,D0];split;exact .inr ⟨_,rfl,by simp⟩;rename_i h12;obtain⟨t3,e3,_⟩:=Am (step:=fun s=>IG (i:Int) q s) x.args.length (fun _=>True) (fun _=>True)
    (fun j hj=>by obtain⟨y,hy,_⟩:=Ab hj;simp only[IG,AP hx,ltD hy,AJ,AP hy,A9 hy (show x.args.length<=9223372036854775807 by omega)];simp only[CS];split;exact .inr ⟨_,rfl,trivial⟩;exact .inl ⟨rfl,trivial⟩)
    (fun _=>⟨.inl (),by simp only[IG,AP hx,ltI,AI],trivial⟩)
   unfold aOv;rw[e3,AB];rcases t3 with _|_
   exact .inl ⟨rfl,fun y hy=>by rw[hx]at hy;cases hy;omega⟩;exact .inr ⟨_,rfl,by simp⟩)
  (fun hP=>⟨.inl (),by simp only[IF,ltI,AI],fun _=>F1 hP⟩)
 obtain⟨t4,e4,_⟩:=Am (step:=fun s=>IH q s) q.frees.length (fun _=>True) (fun _=>True)
  (fun i hi=>by obtain⟨x,hx,_⟩:=Ab hi;simp only[IH,ltD hx,AJ,AP hx,A9 hx hf];simp only[CS];split;exact .inr ⟨_,rfl,trivial⟩;exact .inl ⟨rfl,trivial⟩)
  (fun _=>⟨.inl (),by simp only[IH,ltI,AI],trivial⟩)
 obtain⟨t5,e5,_⟩:=Am (step:=fun s=>II q s) q.nodes.length (fun _=>True) (fun _=>True)
  (fun i hi=>by obtain⟨x,hx,_⟩:=Ab hi;simp only[II,ltD hx,AJ,AP hx,A9 hx hn];simp only[CS];split;exact .inr ⟨_,rfl,trivial⟩;exact .inl ⟨rfl,trivial⟩)
  (fun _=>⟨.inl (),by simp only[II,ltI,AI],trivial⟩)
 obtain⟨t6,e6,Q6⟩:=Am (step:=fun s=>IJ q s) q.trans.length (fun i=>∀x,q.trans[i]? =some x->x.sets.length<=12) (fun t=>t=.inl ()->∀s∈q.trans,s.sets.length<=12)
  (fun i hi=>by obtain⟨x,hx,_⟩:=Ab hi;simp only[IJ,ltD hx,AJ,AP hx,A9 hx ht,D0];split;exact .inr ⟨_,rfl,by simp⟩;exact .inl ⟨rfl,fun y hy=>by rw[hx]at hy;cases hy;omega⟩)
  (fun hP=>⟨.inl (),by simp only[IJ,ltI,AI],fun _=>F1 hP⟩)
 unfold aOt aOu aOw aOx aOy;rw[e1,AB,e2,e4,e5,e6];simp only[AB];rcases t1 with _|_<;>rcases t2 with _|_<;>rcases t4 with _|_<;>rcases t5 with _|_<;>rcases t6 with _|_<;>simp only[CQ,D9]<;>
  first
  |exact⟨0,rfl,by simp⟩
  |exact⟨1,rfl,fun _=>⟨by omega,by omega,by omega,by omega,by omega,by omega,by omega,Q2 rfl,Q6 rfl⟩⟩
theorem aS3(s:List UInt8):∃b,Z2 s=some b:=by
 unfold Z2;simp only[D0];split;exact⟨_,rfl⟩;split;exact⟨_,rfl⟩;obtain⟨t1,e1,_⟩:=Am (step:=fun i=>It s i) s.length (fun _=>True) (fun _=>True)
  (fun i hi=>by
   obtain⟨x,hx,_⟩:=Ab hi;simp only[It,ltD hx,AJ,AP hx,A9 hx (show s.length<=9223372036854775807 by omega)];simp only[CS];repeat' split
   all_goals first|exact .inl ⟨rfl,trivial⟩|exact .inr ⟨_,rfl,trivial⟩)
  (fun _=>⟨.inl (),by simp only[It,ltI,AI],trivial⟩)
 unfold aPp;rw[e1,AB];rcases t1 with _|_<;>exact⟨_,rfl⟩
theorem QG(s:List UInt8):∃b,Ys s=some b:=by
 unfold Ys Qn;rw[AB];generalize hw:([([97,99,99,101,112,116]:List UInt8),([97,108,115,111]:List UInt8),([97,110,100]:List UInt8),([98,111,111,108]:List UInt8),([100,111]:List UInt8),([101,118,101,110,116]:List UInt8),([101,120,105,115,116,115]:List UInt8),([102,97,108,115,101]:List UInt8),([102,111,114,97,108,108]:List UInt8),([102,114,101,101]:List UInt8),([105,102]:List UInt8),([105,110,116]:List UInt8),([110,101,120,116]:List UInt8),([110,111,116]:List UInt8),([111,110]:List UInt8),([111,114]:List UInt8),([113,101,97]:List UInt8),([115,107,105,112]:List UInt8),([115,116,97,114,116]:List UInt8),([115,116,114,105,110,103]:List UInt8),([116,111]:List UInt8),([116,114,117,101]:List UInt8)]:List (List UInt8))=ws;have hl:ws.length<=9223372036854775807:=by rw[<-hw];simp
 obtain⟨t1,e1,_⟩:=Am (step:=fun i=>Io s ws i) ws.length (fun _=>True) (fun _=>True)
  (fun i hi=>by obtain⟨x,hx,_⟩:=Ab hi;simp only[Io,ltD hx,AJ,AP hx,A9 hx hl];simp only[CS];split;exact .inr ⟨_,rfl,trivial⟩;exact .inl ⟨rfl,trivial⟩)
  (fun _=>⟨.inl (),by simp only[Io,ltI,AI],trivial⟩)
 unfold aPn;rw[e1,AB];rcases t1 with _|_
 obtain⟨b,hb⟩:=aS3 s;rw[CQ,hb,AB];cases b<;>exact⟨_,rfl⟩;exact⟨_,rfl⟩
def Su(l:List Xl)(n:List UInt8):Option Nat:=if l.any (fun d=>decide (d.name=n))=true then some (l.findIdx fun d=>decide (d.name=n))else none
theorem aYb(l:List Xl)(n:List UInt8)(hl:l.length<=9223372036854775807):Z9 l n=some (match Su l n with|some i=>(i:Int)|none=> -1):=by
 unfold Z9 aPv;rw[KX l (fun d=>decide (d.name=n))
  (fun i x hx=>by simp only[K4,ltD hx,AJ,AP hx,A9 hx hl];simp only[CS];cases decide (x.name=n)<;>rfl)
  (by simp only[K4,ltI,AI]),AB]
 unfold Su;cases l.any _<;>rfl
theorem aLs{l:List Xl}{n:List UInt8}{j:Nat}{d:Xl}(hj:l[j]? =some d)(hn:d.name=n):∃i,Su l n=some i/\i<=j:=by have ha:l.any (fun d=>decide (d.name=n))=true:=List.any_eq_true.2 ⟨d,List.mem_of_getElem? hj,by simpa using hn⟩;refine⟨l.findIdx fun d=>decide (d.name=n),by unfold Su;rw[if_pos ha],?_⟩;refine Nat.le_of_not_lt fun hlt=>?_;have:=List.not_of_lt_findIdx hlt;obtain⟨h1,rfl⟩:=List.getElem?_eq_some_iff.1 hj;simp[hn]at this
def NO(l:List Xl):Prop:=∀j d,l[j]? =some d->Su l d.name=some j
theorem aWx(l:List Xl)(hl:l.length<=9223372036854775807):∃r,Y6 l=some r/\(r.1=0->NO l):=by
 unfold Y6;rw[D0];split;exact⟨_,rfl,by simp⟩;obtain⟨t1,e1,Q1⟩:=Am (step:=fun i=>Ez l i) l.length (fun i=>∀d,l[i]? =some d->Su l d.name=some i) (fun t=>match t with| .inl _=>NO l| .inr r=>r.1≠0)
  (fun i hi=>by
   obtain⟨x,hx,_⟩:=Ab hi;obtain⟨b,hb⟩:=QG x.name;simp only[Ez,ltD hx,AJ,AP hx,A9 hx hl,hb,AB,aYb l _ hl];cases b with
   |false=>exact .inr ⟨_,rfl,by simp⟩
   |true=>
    simp only[Bool.not_true,AI]
    obtain⟨k,hk,hki⟩:=aLs hx rfl
    rw[hk]
    dsimp only
    rw[D0]
    split
    exact .inr ⟨_,rfl,by simp⟩
    ·rename_i hge
     rw[D0]
     split
     exact .inr ⟨_,rfl,by simp⟩
     ·obtain⟨t2,e2,_⟩:=Am (step:=fun s=>E0 l (i:Int) s) x.types.length (fun _=>True) (fun _=>True)
       (fun j hj=>by
        obtain⟨y,hy,_⟩:=Ab hj;simp only[E0,AP hx,ltD hy,AJ,AP hy,A9 hy (show x.types.length<=9223372036854775807 by omega)];simp only[CS];repeat' split
        all_goals first|exact .inl ⟨rfl,trivial⟩|exact .inr ⟨_,rfl,trivial⟩)
       (fun _=>⟨.inl (),by simp only[E0,AP hx,ltI,AI],trivial⟩)
      unfold aIh
      rw[e2,AB]
      rcases t2 with _|_
      refine .inl ⟨rfl,fun d hd=>?_⟩
      rw[hx]at hd;cases hd
      have:k=i:=by omega
      rw[hk,this]
      exact .inr ⟨_,rfl,by simp⟩)
  (fun hP=>⟨.inl (),by simp only[Ez,ltI,AI],fun j d hd=>hP j (Dv hd) d hd⟩)
 unfold aIf;rw[e1,AB];rcases t1 with _|r
 exact⟨_,rfl,fun _=>Q1⟩;exact⟨_,rfl,fun h=>absurd h Q1⟩
theorem aNf(op:Int):∃r,Zs op 0 0=some r:=by unfold Zs;rw[show Qh 0 0=some (AA .add .i64 0 0,true) by simp[Qh,AE],show Zr 0 0=some (AA .sub .i64 0 0,true) by simp[Zr,AE],show Qi 0 0=some (0,true) by simp[Qi,AE],show Qj 0 0=some (0,0,7) by simp[Qj,AE]];simp only[AB,Zx,Bool.not_true,AI];refine Kg ?_;repeat' first|exact⟨_,rfl,trivial⟩|refine BV (fun _=>?_) (fun _=>?_)|refine QV (fun _=>?_) (fun _=>?_)
theorem bAb(a b:Int):∃r,Zp ⟨a,0,[],false⟩ ⟨b,0,[],false⟩=some r:=by
 unfold Zp;have hb:Yw [] []=some false:=by unfold Yw aKg;rw[Ah];simp[G8,AE,CW,AG,Cd]
 simp only[hb,AB];refine Kg ?_;repeat' first|exact⟨_,rfl,trivial⟩|refine BV (fun _=>?_) (fun _=>?_)|refine Dg (fun _=>?_) (fun _=>?_)|refine QV (fun _=>?_) (fun _=>?_)
theorem bAi(op a b:Int):∃r,Qa op ⟨a,0,[],false⟩ ⟨b,0,[],false⟩=some r:=by unfold Qa;obtain⟨r1,h1⟩:=bAb a b;obtain⟨r2,h2⟩:=bAb b a;obtain⟨r3,h3⟩:=aNf 9;obtain⟨r4,h4⟩:=aNf op;have h4':Zs op 0 0=some r4:=h4;have hc:∀{β:Type} (k:Option β),AV (([]:List UInt8).length+([]:List UInt8).length<=9223372036854775807) k=k:=fun k=>Av (by simp) k;simp only[Zl,AB,h1,h2,h3,h4',hc,AI];refine Kg ?_;repeat' first|exact⟨_,rfl,trivial⟩|refine BV (fun _=>?_) (fun _=>?_)|refine Dg (fun _=>?_) (fun _=>?_)|refine QV (fun _=>?_) (fun _=>?_)
theorem aTe(op a b:Int):∃r,Zy op a b=some r/\(r≠0->a≠0):=by unfold Zy;obtain⟨r,hr⟩:=bAi op a b;rw[hr];simp only[AB];refine BV (fun _=>⟨_,rfl,by simp⟩) (fun h=>?_);repeat' first|exact⟨_,rfl,fun _=>by omega⟩|refine BV (fun _=>?_) (fun _=>?_)|refine Dg (fun _=>?_) (fun _=>?_)
theorem aCv{α:Type}{l:List α}{i:Int}(h0:0<=i)(h1:i<l.length):∃x,l[i.toNat]? =some x/\i=(i.toNat:Int):=by obtain⟨x,hx,_⟩:=Ab (l:=l) (i:=i.toNat) (by omega);exact⟨x,hx,by omega⟩
theorem EU{α β:Type}{l:List α}{i:Int}{x:α}(h:l[i.toNat]? =some x)(h0:0<=i)(k:α->Option β):AU l i k=k x:=by have e:AU l ((i.toNat:Nat):Int) k=k x:=AP h k;rwa [show((i.toNat:Nat):Int)=i by omega]at e
theorem aLn(q:AD)(hq:q.nodes.length<=2048):∀(n:Nat) (i:Int),-9223372036854775000<=i->0<n->i+1<n->∃r,aNd n q i=some r/\(r.1≠0->0<=r.2.2/\r.2.2<=i/\i<q.nodes.length):=by
 intro n;induction n with
 |zero=>intro i h0 h;omega
 |succ n ih=>
  intro i h0 _ h
  show∃r,aPq (aNd n) q i=some r/\_
  unfold aPq
  refine BV (fun _=>⟨_,rfl,by simp⟩) (fun hi0=>?_)
  refine BV (fun _=>⟨_,rfl,by simp⟩) (fun hi1=>?_)
  obtain⟨x,hx,_⟩:=aCv (l:=q.nodes) (i:=i) (by omega) (by omega)
  rw[EU hx (by omega)]
  obtain⟨b,hb⟩:=aNe x.value
  have e1:AA .sub .i64 i 1=i-1:=TD (by omega) (by omega)
  rw[e1]
  refine BV (fun _=>?_) (fun _=>?_)
  refine Dg (fun _=>⟨_,rfl,by simp⟩) (fun _=>?_)
  refine Dg (fun _=>⟨_,rfl,by simp⟩) (fun _=>?_)
  refine Ba hb ?_
  exact E6 (fun _=>⟨_,rfl,by simp⟩) (fun _=>⟨_,rfl,fun _=>⟨by simp only;omega,Int.le_refl _,by omega⟩⟩)
  refine E6 (fun _=>⟨_,rfl,by simp⟩) (fun _=>?_)
  refine BV (fun _=>?_) (fun _=>?_)
  refine BV (fun _=>⟨_,rfl,by simp⟩) (fun _=>?_)
  refine BV (fun _=>⟨_,rfl,by simp⟩) (fun _=>?_)
  refine Dg (fun _=>⟨_,rfl,by simp⟩) (fun _=>?_)
  obtain⟨y,hy,_⟩:=aCv (l:=q.quants) (i:=x.a) (by omega) (by omega)
  rw[EU hy (by omega)]
  exact⟨_,rfl,fun _=>⟨by simp only;omega,Int.le_refl _,by omega⟩⟩
  refine BV (fun _=>?_) (fun _=>?_)
  refine BV (fun _=>⟨_,rfl,by simp⟩) (fun _=>?_)
  refine BV (fun _=>⟨_,rfl,by simp⟩) (fun _=>?_)
  refine Dg (fun _=>⟨_,rfl,by simp⟩) (fun _=>?_)
  obtain⟨y,hy,_⟩:=aCv (l:=q.frees) (i:=x.a) (by omega) (by omega)
  rw[EU hy (by omega)]
  exact⟨_,rfl,fun _=>⟨by simp only;omega,Int.le_refl _,by omega⟩⟩
  refine BV (fun _=>⟨_,rfl,by simp⟩) (fun _=>?_)
  refine BV (fun _=>⟨_,rfl,by simp⟩) (fun _=>?_)
  obtain⟨r5,h5,p5⟩:=ih (i-1) (by omega) (by omega) (by omega)
  refine Ba h5 ?_
  refine BV (fun _=>?_) (fun _=>?_)
  refine BV (fun _=>⟨_,rfl,by simp⟩) (fun hk=>?_)
  refine Dg (fun _=>⟨_,rfl,by simp⟩) (fun _=>?_)
  refine Dg (fun _=>⟨_,rfl,by simp⟩) (fun _=>?_)
  obtain⟨r6,h6,_⟩:=aTe x.op r5.1 r5.1
  refine Ba h6 ?_
  have:=p5 hk
  exact⟨_,rfl,fun _=>by simp only;omega⟩
  refine BV (fun _=>⟨_,rfl,by simp⟩) (fun hk=>?_)
  have hp:=p5 hk
  have e2:AA .sub .i64 r5.2.2 1=r5.2.2-1:=TD (by omega) (by omega)
  rw[e2]
  refine Dg (fun _=>⟨_,rfl,by simp⟩) (fun _=>?_)
  refine Dg (fun _=>⟨_,rfl,by simp⟩) (fun _=>?_)
  obtain⟨r7,h7,p7⟩:=ih (r5.2.2-1) (by omega) (by omega) (by omega)
  refine Ba h7 ?_
  obtain⟨r8,h8,p8⟩:=aTe x.op r7.1 r5.1
  refine Ba h8 ?_
  refine⟨_,rfl,fun h=>?_⟩
  have:=p7 (p8 h)
  simp only;omega
theorem TQ(q:AD)(hq:q.nodes.length<=2048)(f i:Int)(hi: -9223372036854775808<=i/\i<=9223372036854775807):∃r,Q5 q f i=some r/\(r.1≠0->0<=i/\i<q.nodes.length):=by
 unfold Q5 Z3;by_cases h:0<=i/\i<q.nodes.length;obtain⟨r,hr,_⟩:=aLn q hq 100000 i (by omega) (by omega) (by omega);refine Ba hr ?_;refine BV (fun _=>⟨_,rfl,by simp⟩) (fun _=>?_);exact Dg (fun _=>⟨_,rfl,by simp⟩) (fun _=>⟨_,rfl,fun _=>h⟩);have hz:aNd 100000 q i=some (0,0,0):=by show aPq (aNd 99999) q i=_;unfold aPq;rw[D0,D0];split;rfl;rw[if_pos (by omega)]
 refine Ba hz ?_;exact⟨(0,0),by simp[AE],by simp⟩
theorem Ly(s:X5)(v:Int)(hs:s.args.length<=9223372036854775807):∃r,Z0 s v=some r:=by
 unfold Z0 aPo;obtain⟨t,ht,_⟩:=Am (step:=fun i=>Is v s i) s.args.length (fun _=>True) (fun _=>True)
  (fun i hi=>by
   obtain⟨x,hx,_⟩:=Ab hi;simp only[Is,ltD hx,AJ,AP hx,A9 hx hs];simp only[CS];repeat' split
   all_goals first|exact .inl ⟨rfl,trivial⟩|exact .inr ⟨_,rfl,trivial⟩)
  (fun _=>⟨.inl (),by simp only[Is,ltI,AI],trivial⟩)
 rw[ht,AB];rcases t with _|_<;>exact⟨_,rfl⟩
theorem aAj(q:AD)(s:X5)(hs:s.args.length<=9223372036854775807)(hq:q.nodes.length<=2048)(f t:Int)(hf:0<=f)(ht:t<=q.nodes.length):∃r,Ze q s f t=some r:=by
 unfold Ze aPy;obtain⟨u,hu,_⟩:=BY (step:=fun i=>Iz t q s i) (fun i=>0<=i) (fun i=>(t-i).toNat) (fun _=>True)
  (by
   intro i hi;by_cases h:i<t
   ·obtain⟨x,hx,_⟩:=aCv (l:=q.nodes) (i:=i) hi (by omega);obtain⟨b,hb⟩:=Ly s x.a hs;simp only[Iz,h,decide_true,AJ,EU hx hi,hb,AB,MC (a:=i) (b:=1) (by omega) (by omega)];simp only[CS];repeat' split
    all_goals first|exact .inl ⟨_,rfl,trivial⟩|exact .inr ⟨_,rfl,by omega,by omega⟩
   exact .inl ⟨.inl (),by simp[Iz,h,AE],trivial⟩)
  f hf
 rw[hu,AB];rcases u with _|_<;>exact⟨_,rfl⟩
def aR4(n:Int):Prop:= -9223372036854775808<=n/\n<=9223372036854775807
structure J9(t:Xr):Prop where
 guard:aR4 t.guard
 sets:∀s∈t.sets,aR4 s.expr
theorem aMz(q:AD)(hF:EG q)(t:Xr)(hT:J9 t)(hts:t.sets.length<=12)(f:Int)(hf:0<=f)(hfl:f<=q.nodes.length):
 ∃r,Y7 q t f=some r/\(r.2=true->0<=t.symbol/\t.symbol<q.symbols.length/\0<=r.1/\r.1<=q.nodes.length/\(t.guard= -1\/0<=t.guard)/\(0<=t.from_/\t.from_<q.states.length)/\0<=t.to/\t.to<q.states.length):=by
 have hn:q.nodes.length<=2048:=Nat.le_trans hF.nodes (by decide)
 have hfr:q.frees.length<=12:=hF.frees
 unfold Y7
 refine BV (fun _=>⟨_,rfl,by simp⟩) (fun ha=>?_)
 refine BV (fun _=>⟨_,rfl,by simp⟩) (fun hb=>?_)
 refine BV (fun _=>⟨_,rfl,by simp⟩) (fun hc=>?_)
 refine BV (fun _=>⟨_,rfl,by simp⟩) (fun hd=>?_)
 refine BV (fun _=>⟨_,rfl,by simp⟩) (fun hs0=>?_)
 refine BV (fun _=>⟨_,rfl,by simp⟩) (fun hs1=>?_)
 obtain⟨o2,h2,p2⟩:∃o,WT f f (!decide (t.guard=(-1))) q t=some o/\∀x,o=.inl x->0<=x/\x<=q.nodes.length/\(t.guard= -1\/0<=t.guard):=by unfold WT;refine Dg (fun _=>?_) (fun hg=>⟨_,rfl,fun x hx=>by cases hx;exact⟨hf,hfl,.inl hg⟩⟩);obtain⟨r1,h1,p1⟩:=TQ q hn f t.guard hT.guard;refine Ba h1 ?_;refine Dg (fun _=>⟨_,rfl,by simp⟩) (fun h3=>?_);refine BV (fun _=>⟨_,rfl,by simp⟩) (fun _=>?_);have:=p1 (by omega);refine⟨_,rfl,fun x hx=>?_⟩;cases hx;refine⟨?_,?_,.inr this.1⟩<;>(rw[MC (by omega) (by omega)];omega)
 refine Ba h2 ?_
 rcases o2 with o3|_
 have h3:=p2 o3 rfl
 rw[CQ]
 unfold aO8
 obtain⟨u,hu,pu⟩:=BY (step:=fun s:Int×Int=>Ie f q t s.1 s.2) (fun s=>∃i:Nat,s.2=(i:Int)/\i<=t.sets.length/\0<=s.1/\s.1<=q.nodes.length) (fun s=>(t.sets.length-s.2).toNat)
  (fun o=>∀x,o=.inl x->0<=x/\x<=q.nodes.length)
  (by
   rintro⟨w,s⟩ ⟨i,rfl,hi,hw0,hw1⟩;simp only at hw0 hw1⊢;by_cases he:i=t.sets.length;subst he;exact .inl ⟨.inl w,by simp only[Ie,ltI,AI],fun x hx=>by cases hx;exact⟨hw0,hw1⟩⟩;obtain⟨x,hx,_⟩:=Ab (l:=t.sets) (i:=i) (by omega);obtain⟨r6,h6,p6⟩:=TQ q hn w x.expr (hT.sets x (List.mem_of_getElem? hx));have h6':Q5 q w x.expr=some r6:=h6;simp only[Ie,ltD hx,AJ,AP hx,h6',AB,A9 hx (show t.sets.length<=9223372036854775807 by omega)];by_cases g1:x.free<0;exact .inl ⟨.inr (),by simp[g1,AE],by simp⟩;by_cases g2:(q.frees.length:Int)<=x.free;exact .inl ⟨.inr (),by simp[g1,g2,AE],by simp⟩;by_cases g3:r6.1=0;exact .inl ⟨.inr (),by simp[g1,g2,g3,AE],by simp⟩;by_cases g4:64<r6.2;exact .inl ⟨.inr (),by simp[g1,g2,g3,g4,AE],by simp⟩;obtain⟨y,hy,_⟩:=aCv (l:=q.frees) (i:=x.free) (by omega) (by omega);by_cases g5:r6.1=y.init_.kind;obtain⟨t3,e3,_⟩:=Am (step:=fun s=>If f (i:Int) q t x s) i (fun _=>True) (fun _=>True)
    (fun j hj=>by
     obtain⟨z,hz,_⟩:=Ab (l:=t.sets) (i:=j) (by omega);have hlt:decide ((j:Int)<(i:Int))=true:=by simp;omega
     simp only[If,hlt,AJ,AP hz,A9 hz (show t.sets.length<=9223372036854775807 by omega)];simp only[CS];split;exact .inr ⟨_,rfl,trivial⟩;exact .inl ⟨rfl,trivial⟩)
    (fun _=>⟨.inl (),by simp only[If,ltI,AI],trivial⟩)
   have e3':aO9 f (i:Int) q t x 0=some t3:=e3;have hp:=p6 g3;rcases t3 with _|_
   refine .inr ⟨(AA .add .i64 x.expr 1,((i+1:Nat):Int)),?_,⟨i+1,rfl,by omega,?_,?_⟩,by simp only;omega⟩;rw[D0,if_neg g1,D0,if_neg g2,D0,if_neg g3,D0,if_neg g4,EU hy (show 0<=x.free by omega)];simp only[g5,decide_true,Bool.not_true,AI,e3',AB,CQ];simp only;rw[MC (by omega) (by omega)];omega;simp only;rw[MC (by omega) (by omega)];omega;refine .inl ⟨.inr (),?_,by simp⟩;rw[D0,if_neg g1,D0,if_neg g2,D0,if_neg g3,D0,if_neg g4,EU hy (show 0<=x.free by omega)];simp only[g5,decide_true,Bool.not_true,AI,e3',AB,D9];refine .inl ⟨.inr (),?_,by simp⟩;rw[D0,if_neg g1,D0,if_neg g2,D0,if_neg g3,D0,if_neg g4,EU hy (show 0<=x.free by omega)];simp only[g5,decide_false,Bool.not_false,AJ])
  (o3,(0:Int)) ⟨0,rfl,by omega,h3.1,h3.2.1⟩
 refine Ba hu ?_
 rcases u with o13|_
 rw[CQ]
 have h13:=pu o13 rfl
 obtain⟨x,hx,_⟩:=aCv (l:=q.symbols) (i:=t.symbol) (by omega) (by omega)
 rw[EU hx (by omega)]
 obtain⟨r16,h16⟩:=aAj q x (Nat.le_trans (hF.args x (List.mem_of_getElem? hx)) (by decide)) hn f o13 hf h13.2
 refine Ba h16 ⟨_,rfl,fun _=>⟨by omega,by omega,h13.1,h13.2,h3.2.2,⟨by omega,by omega⟩,by omega,by omega⟩⟩
 exact⟨_,rfl,by simp⟩
 exact⟨_,rfl,by simp⟩
structure TN(q:AD)(a:Bz):Prop where
 two:a.kind=2->0<=a.n/\a.n<q.quants.length
 three:a.kind=3->0<=a.n/\a.n<q.frees.length
 one:a.kind=1->vR a.value=true
theorem aU1(q:AD)(a:Bz)(k:Int):∃r,Qb q a k=some r/\(r=true->TN q a):=by unfold Qb;have hb:=aTa a.value;refine BV (fun h=>?_) (fun h1=>?_);have ho:vR a.value=true->TN q a:=fun hv=>⟨fun h2=>by omega,fun h2=>by omega,fun _=>hv⟩;refine BV (fun _=>?_) (fun _=>⟨_,rfl,by simp⟩);refine Ba hb ?_;exact QV (fun hv=>⟨_,rfl,fun _=>ho hv⟩) (fun _=>⟨_,rfl,by simp⟩);refine E6 (fun _=>⟨_,rfl,by simp⟩) (fun _=>?_);refine BV (fun h2=>?_) (fun h2=>?_);refine BV (fun h3=>?_) (fun _=>⟨_,rfl,by simp⟩);refine BV (fun h4=>?_) (fun _=>⟨_,rfl,by simp⟩);obtain⟨y,hy,_⟩:=aCv h3 h4;rw[EU hy h3];exact⟨_,rfl,fun _=>⟨fun _=>⟨h3,h4⟩,fun h=>by omega,fun h=>by omega⟩⟩;refine BV (fun h5=>?_) (fun h5=>?_);refine BV (fun h3=>?_) (fun _=>⟨_,rfl,by simp⟩);refine BV (fun h4=>?_) (fun _=>⟨_,rfl,by simp⟩);obtain⟨y,hy,_⟩:=aCv h3 h4;rw[EU hy h3];exact⟨_,rfl,fun _=>⟨fun h=>by omega,fun _=>⟨h3,h4⟩,fun h=>by omega⟩⟩;exact BV (fun _=>⟨_,rfl,fun _=>⟨fun h=>by omega,fun h=>by omega,fun h=>by omega⟩⟩) (fun _=>⟨_,rfl,by simp⟩)
structure TY(q:AD)(s:X5):Prop where
 event:0<=s.event
 decl:∃d,q.decls[s.event.toNat]? =some d/\s.args.length=d.types.length
 args:∀a∈s.args,TN q a
theorem aYd(q:AD)(s:X5)(hs:s.args.length<=12):∃r,Zb q s=some r/\(r=true->TY q s):=by
 unfold Zb;refine BV (fun _=>⟨_,rfl,by simp⟩) (fun h0=>?_);refine BV (fun _=>⟨_,rfl,by simp⟩) (fun h1=>?_);obtain⟨d,hd,_⟩:=aCv (l:=q.decls) (i:=s.event) (by omega) (by omega);rw[EU hd (by omega)];refine Dg (fun _=>⟨_,rfl,by simp⟩) (fun h2=>?_);obtain⟨t,ht,hQ⟩:=Am (step:=fun i=>Iy q s i) s.args.length (fun i=>∀a,s.args[i]? =some a->TN q a) (fun t=>t=.inl ()->∀a∈s.args,TN q a)
  (fun i hi=>by
   obtain⟨x,hx,_⟩:=Ab hi;obtain⟨y,hy,_⟩:=Ab (l:=d.types) (i:=i) (by omega);obtain⟨b,hb,hbo⟩:=aU1 q x y;simp only[Iy,ltD hx,AJ,AP hx,EU hd (show 0<=s.event by omega),AP hy,hb,AB,A9 hx (show s.args.length<=9223372036854775807 by omega)];cases b with
   |false=>exact .inr ⟨_,rfl,by simp⟩
   |true=>exact .inl ⟨rfl,fun a ha=>by rw[hx]at ha;cases ha;exact hbo rfl⟩)
  (fun hP=>⟨.inl (),by simp only[Iy,ltI,AI],fun _=>F1 hP⟩)
 refine Ba ht ?_;rcases t with _|_
 exact⟨_,rfl,fun _=>⟨by omega,⟨d,hd,by omega⟩,hQ rfl⟩⟩;exact⟨_,rfl,by simp⟩
theorem Jt(a b:X5)(ha:a.args.length<=9223372036854775807):∃r,Zi a b=some r:=by
 unfold Zi;refine Kg ?_;refine Dg (fun _=>⟨_,rfl,trivial⟩) (fun _=>?_);refine Dg (fun _=>⟨_,rfl,trivial⟩) (fun h=>?_);obtain⟨t,ht,_⟩:=Am (step:=fun i=>I3 a b i) a.args.length (fun _=>True) (fun _=>True)
  (fun i hi=>by obtain⟨x,hx,_⟩:=Ab hi;obtain⟨y,hy,_⟩:=Ab (l:=b.args) (i:=i) (by omega);simp only[I3,ltD hx,AJ,AP hx,AP hy,A9 hx ha];simp only[CS];split;exact .inr ⟨_,rfl,trivial⟩;exact .inl ⟨rfl,trivial⟩)
  (fun _=>⟨.inl (),by simp only[I3,ltI,AI],trivial⟩)
 refine Ba ht ?_;rcases t with _|_<;>exact⟨_,rfl,trivial⟩
theorem aVv(q:AD)(hF:EG q)(hT:∀t∈q.trans,0<=t.symbol/\t.symbol<q.symbols.length):∃r,Xc q=some r/\(r=true->∀s∈q.symbols,TY q s):=by
 have hsy:=hF.symbols;have htr:=hF.trans;have hqu:=hF.quants;unfold Xc;rw[Av ⟨by omega,B2 (by omega) (by decide)⟩];obtain⟨o9,h9,hl9⟩:=BY (step:=fun s:Int×List Bool×List Int=>H8 q s.1 s.2.1 s.2.2) (fun s=>∃i:Nat,s.1=(i:Int)/\i<=q.trans.length/\s.2.1.length=q.symbols.length/\s.2.2.length<=i) (fun s=>(q.trans.length-s.1).toNat) (fun o=>o.length<=12)
  (by
   rintro⟨s,u,w⟩ ⟨i,rfl,hi,hu,hw⟩;simp only at hu hw⊢;by_cases he:i=q.trans.length;subst he;exact .inl ⟨w,by simp only[H8,ltI,AI],by omega⟩;obtain⟨x,hx,_⟩:=Ab (l:=q.trans) (i:=i) (by omega);have hxs:=hT x (List.mem_of_getElem? hx);obtain⟨y,hy,_⟩:=aCv (l:=u) (i:=x.symbol) hxs.1 (by omega);have hb5:∃w',UW (i:Int) x.symbol (!y) q u w=some w'/\w'.length<=i+1:=by unfold UW;refine E6 (fun _=>?_) (fun _=>⟨_,rfl,by omega⟩);rw[MN (by simp;omega) (by decide)];exact⟨_,rfl,by simpa using hw⟩
   obtain⟨w',hb,hw'⟩:=hb5;refine .inr ⟨(((i+1:Nat):Int),u.set x.symbol.toNat true,w'),?_,⟨i+1,rfl,by omega,by simpa using hu,hw'⟩,by simp only;omega⟩;simp only[H8,ltD hx,AJ,A9 hx (show q.trans.length<=9223372036854775807 by omega)];unfold aFb;rw[AP hx,Av (by omega),EU hy hxs.1,hb,AB,Av (by omega),Av (by omega)];rfl)
  ((0:Int),List.replicate (q.symbols.length:Int).toNat false,([]:List Int)) ⟨0,rfl,by omega,by simp,by simp⟩
 refine Ba h9 ?_;obtain⟨t1,e1,_⟩:=Am (step:=fun s=>H9 q o9 s) o9.length (fun _=>True) (fun _=>True)
  (fun i hi=>by obtain⟨x,hx,_⟩:=Ab hi;simp only[H9,ltD hx,AJ,AP hx,A9 hx (show o9.length<=9223372036854775807 by omega)];simp only[CS];split;exact .inr ⟨_,rfl,trivial⟩;exact .inl ⟨rfl,trivial⟩)
  (fun _=>⟨.inl (),by simp only[H9,ltI,AI],trivial⟩)
 refine Ba e1 ?_;rcases t1 with _|_
 case inr=>exact⟨_,rfl,by simp⟩
 rw[CQ];have hsl:q.symbols.length<=9223372036854775807:=by omega
 obtain⟨t2,e2,Q2⟩:=Am (step:=fun s=>IA q s) q.symbols.length (fun i=>∀s,q.symbols[i]? =some s->TY q s) (fun t=>t=.inl ()->∀s∈q.symbols,TY q s)
  (fun i hi=>by
   obtain⟨x,hx,_⟩:=Ab hi;have hxa:=hF.args x (List.mem_of_getElem? hx);obtain⟨b,hb,hbo⟩:=aYd q x hxa;simp only[IA,ltD hx,AJ,AP hx,hb,AB,A9 hx hsl];cases b with
   |false=>exact .inr ⟨_,rfl,by simp⟩
   |true=>
    simp only[Bool.not_true,AI]
    obtain⟨t3,e3,_⟩:=Am (step:=fun s=>IB (i:Int) q s) i (fun _=>True) (fun _=>True)
     (fun j hj=>by
      obtain⟨y,hy,_⟩:=Ab (l:=q.symbols) (i:=j) (by omega);obtain⟨c,hc⟩:=Jt x y (by omega);have hlt:decide ((j:Int)<(i:Int))=true:=by simp;omega
      simp only[IB,hlt,AJ,AP hx,AP hy,hc,AB,A9 hy hsl];simp only[CS];split;exact .inr ⟨_,rfl,trivial⟩;exact .inl ⟨rfl,trivial⟩)
     (fun _=>⟨.inl (),by simp only[IB,ltI,AI],trivial⟩)
    unfold aOq
    rw[e3,AB]
    rcases t3 with _|_
    exact .inl ⟨rfl,fun s hs=>by rw[hx]at hs;cases hs;exact hbo rfl⟩
    exact .inr ⟨_,rfl,by simp⟩)
  (fun hP=>⟨.inl (),by simp only[IA,ltI,AI],fun _=>F1 hP⟩)
 refine Ba e2 ?_;rcases t2 with _|_
 case inr=>exact⟨_,rfl,by simp⟩
 rw[CQ];obtain⟨t4,e4,_⟩:=Am (step:=fun s=>IC q s) q.quants.length (fun _=>True) (fun _=>True)
  (fun i hi=>by
   have hlt:decide ((i:Int)<(q.quants.length:Int))=true:=by simp;omega
   obtain⟨o,ho,_⟩:=BY (step:=fun s:Bool×Int=>FF (i:Int) q s.1 s.2) (fun s=>∃j:Nat,s.2=(j:Int)/\j<=q.symbols.length) (fun s=>(q.symbols.length-s.2).toNat) (fun _=>True)
    (by
     rintro⟨b,s⟩ ⟨j,rfl,hj⟩;simp only;by_cases he:j=q.symbols.length;subst he;exact .inl ⟨b,by simp only[FF,ltI,AI],trivial⟩;obtain⟨x,hx,_⟩:=Ab (l:=q.symbols) (i:=j) (by omega);have hxa:=hF.args x (List.mem_of_getElem? hx);obtain⟨c,hc⟩:=Ly x (i:Int) (by omega);have hc':Z0 x (i:Int)=some c:=hc;cases b with
     |true=>exact .inr ⟨(true,((j+1:Nat):Int)),by simp only[FF,ltD hx,AJ,A9 hx hsl],⟨j+1,rfl,by omega⟩,by simp only;omega⟩
     |false=>exact .inr ⟨(c,((j+1:Nat):Int)),by simp only[FF,ltD hx,AJ,AI,AP hx,hc',AB,A9 hx hsl],⟨j+1,rfl,by omega⟩,by simp only;omega⟩)
    (false,(0:Int)) ⟨0,rfl,by omega⟩
   have ho':UX (i:Int) q false 0=some o:=ho;simp only[IC,hlt,AJ,ho',AB,M9 (show i<9223372036854775807 by omega)];simp only[CS];split;exact .inr ⟨_,rfl,trivial⟩;exact .inl ⟨rfl,trivial⟩)
  (fun _=>⟨.inl (),by simp only[IC,ltI,AI],trivial⟩)
 refine Ba e4 ?_;rcases t4 with _|_
 exact⟨_,rfl,fun _=>Q2 rfl⟩;exact⟨_,rfl,by simp⟩
theorem NC(l:List (List UInt8))(at':Nat)(h:at'<l.length)(hl:l.length<=9223372036854775807):∃r,Za l (at':Int)=some r:=by
 unfold Za;refine Kg ?_;obtain⟨y,hy,_⟩:=Ab h;obtain⟨t,ht,_⟩:=Am (step:=fun i=>Ix l (at':Int) i) at' (fun _=>True) (fun _=>True)
  (fun i hi=>by
   obtain⟨x,hx,_⟩:=Ab (l:=l) (i:=i) (by omega);have hlt:decide ((i:Int)<(at':Int))=true:=by simp;omega
   simp only[Ix,hlt,AJ,AP hx,AP hy,A9 hx hl];simp only[CS];split;exact .inr ⟨_,rfl,trivial⟩;exact .inl ⟨rfl,trivial⟩)
  (fun _=>⟨.inl (),by simp only[Ix,ltI,AI],trivial⟩)
 refine Ba ht ?_;rcases t with _|_<;>exact⟨_,rfl,trivial⟩
theorem aSq(q:AD)(hF:EG q):∃r,Xs q=some r:=by
 have h1:=hF.quants;have h2:=hF.frees;have h3:=hF.states;unfold Xs;refine Kg ?_;obtain⟨o7,e7,p7⟩:=BY (step:=fun s:Int×List (List UInt8)=>IR q s.1 s.2) (fun s=>∃i:Nat,s.1=(i:Int)/\i<=q.quants.length/\s.2.length<=i) (fun s=>(q.quants.length-s.1).toNat) (fun o=>∀w,o=.inl w->w.length<=9)
  (by rintro⟨s,w⟩ ⟨i,rfl,hi,hw⟩;simp only at hw⊢;by_cases he:i=q.quants.length;subst he;exact .inl ⟨.inl w,by simp only[IR,ltI,AI],fun w' hw'=>by cases hw';omega⟩;obtain⟨x,hx,_⟩:=Ab (l:=q.quants) (i:=i) (by omega);simp only[IR,ltD hx,AJ,AP hx,A9 hx (show q.quants.length<=9223372036854775807 by omega)];rw[MN (by simp;omega) (by decide)];simp only[CS];split;exact .inl ⟨_,rfl,by simp⟩;split;exact .inl ⟨_,rfl,by simp⟩;exact .inr ⟨_,rfl,⟨i+1,rfl,by omega,by simpa using hw⟩,by simp only;omega⟩)
  ((0:Int),([]:List (List UInt8))) ⟨0,rfl,by omega,by simp⟩
 refine Ba e7 ?_;rcases o7 with o8|_
 case inr=>exact⟨_,rfl,trivial⟩
 rw[CQ];have hw8:=p7 o8 rfl;obtain⟨o13,e13,p13⟩:=BY (step:=fun s:Int×List (List UInt8)=>IS q s.1 s.2) (fun s=>∃i:Nat,s.1=(i:Int)/\i<=q.frees.length/\s.2.length<=9+i) (fun s=>(q.frees.length-s.1).toNat) (fun o=>∀w,o=.inl w->w.length<=21)
  (by rintro⟨s,w⟩ ⟨i,rfl,hi,hw⟩;simp only at hw⊢;by_cases he:i=q.frees.length;subst he;exact .inl ⟨.inl w,by simp only[IS,ltI,AI],fun w' hw'=>by cases hw';omega⟩;obtain⟨x,hx,_⟩:=Ab (l:=q.frees) (i:=i) (by omega);obtain⟨b,hb⟩:=aNe x.init_;simp only[IS,ltD hx,AJ,AP hx,hb,AB,A9 hx (show q.frees.length<=9223372036854775807 by omega)];rw[MN (by simp;omega) (by decide)];simp only[CS];split;exact .inl ⟨_,rfl,by simp⟩;exact .inr ⟨_,rfl,⟨i+1,rfl,by omega,by simp;omega⟩,by simp only;omega⟩)
  ((0:Int),o8) ⟨0,rfl,by omega,by simpa using hw8⟩
 refine Ba e13 ?_;rcases o13 with o14|_
 case inr=>exact⟨_,rfl,trivial⟩
 rw[CQ];have hw14:=p13 o14 rfl;obtain⟨t,ht,_⟩:=Am (step:=fun i=>IT q o14 i) o14.length (fun _=>True) (fun _=>True)
  (fun i hi=>by
   obtain⟨x,hx,_⟩:=Ab hi;obtain⟨b,hb⟩:=QG x;obtain⟨c,hc⟩:=NC o14 i hi (by omega);simp only[IT,ltD hx,AJ,AP hx,hb,hc,AB,A9 hx (show o14.length<=9223372036854775807 by omega)];simp only[CS];repeat' split
   all_goals first|exact .inl ⟨rfl,trivial⟩|exact .inr ⟨_,rfl,trivial⟩)
  (fun _=>⟨.inl (),by simp only[IT,ltI,AI],trivial⟩)
 refine Ba ht ?_;rcases t with _|_
 case inr=>exact⟨_,rfl,trivial⟩
 rw[CQ];obtain⟨o30,e30,_⟩:=BY (step:=fun s:Int×List (List UInt8)=>IU q s.1 s.2) (fun s=>∃i:Nat,s.1=(i:Int)/\i<=q.states.length/\s.2.length=i) (fun s=>(q.states.length-s.1).toNat) (fun _=>True)
  (by
   rintro⟨s,w⟩ ⟨i,rfl,hi,hw⟩;simp only at hw⊢;by_cases he:i=q.states.length;subst he;exact .inl ⟨.inl (),by simp only[IU,ltI,AI],trivial⟩;obtain⟨x,hx,_⟩:=Ab (l:=q.states) (i:=i) (by omega);have hg:(w++[x.name])[i]? =some x.name:=by rw[<-hw];simp
   obtain⟨b,hb⟩:=QG x.name;obtain⟨c,hc⟩:=NC (w++[x.name]) i (by simp;omega) (by simp;omega);simp only[IU,ltD hx,AJ,AP hx,A9 hx (show q.states.length<=9223372036854775807 by omega)];rw[MN (by simp;omega) (by decide),AP hg,hb,AB,hc];simp only[AB,CS];split;exact .inl ⟨_,rfl,trivial⟩;split;exact .inl ⟨_,rfl,trivial⟩;exact .inr ⟨_,rfl,⟨i+1,rfl,by omega,by simp;omega⟩,by simp only;omega⟩)
  ((0:Int),([]:List (List UInt8))) ⟨0,rfl,by omega,by simp⟩
 refine Ba e30 ?_;rcases o30 with _|_
 obtain⟨b,hb⟩:=QG q.name;rw[CQ];exact Ba hb ⟨_,rfl,trivial⟩;exact⟨_,rfl,trivial⟩
structure Ao(q:AD):Prop where
 decls:NO q.decls
 quants:q.quants.length<=8
 symbols:∀s∈q.symbols,TY q s
 guards:∀t∈q.trans,t.guard= -1\/0<=t.guard
 ends : ∀ t ∈ q.trans, (0 <= t.symbol /\ t.symbol < q.symbols.length) /\ (0 <= t.from_ /\ t.from_ < q.states.length) /\ 0 <= t.to /\ t.to < q.states.length
 fires:∀t∈q.trans,∃f r,Y7 q t f=some (r,true)
theorem aXy(q:AD)(hF:EG q)(hW:∀t∈q.trans,J9 t):∃r,Yx q=some r/\(r=true->Ao q):=by
 have h1:=hF.decls;have h2:=hF.trans;unfold Yx;obtain⟨r1,e1,p1⟩:=aWx q.decls (by omega);refine Ba e1 ?_;refine Dg (fun _=>⟨_,rfl,by simp⟩) (fun hz=>?_);refine BV (fun _=>⟨_,rfl,by simp⟩) (fun hq=>?_);refine BV (fun _=>⟨_,rfl,by simp⟩) (fun _=>?_);refine BV (fun _=>⟨_,rfl,by simp⟩) (fun _=>?_);refine BV (fun _=>⟨_,rfl,by simp⟩) (fun _=>?_);refine BV (fun _=>⟨_,rfl,by simp⟩) (fun _=>?_);refine BV (fun _=>⟨_,rfl,by simp⟩) (fun _=>?_);refine BV (fun _=>⟨_,rfl,by simp⟩) (fun _=>?_);refine BV (fun _=>⟨_,rfl,by simp⟩) (fun _=>?_);obtain⟨r2,e2⟩:=aSq q hF;refine Ba e2 ?_;refine E6 (fun _=>⟨_,rfl,by simp⟩) (fun _=>?_);obtain⟨o5,e5,p5⟩:=BY (step:=fun s:Int×Int=>Iq q s.1 s.2) (fun s=>∃i:Nat,s.2=(i:Int)/\i<=q.trans.length/\0<=s.1/\s.1<=q.nodes.length/\∀j,j<i->∀t,q.trans[j]? =some t->0<=t.symbol/\t.symbol<q.symbols.length/\(t.guard= -1\/0<=t.guard)/\(0<=t.from_/\t.from_<q.states.length)/\0<=t.to/\t.to<q.states.length/\∃f r,Y7 q t f=some (r,true)) (fun s=>(q.trans.length-s.2).toNat)
  (fun o=>∀w,o=.inl w->∀t∈q.trans,0<=t.symbol/\t.symbol<q.symbols.length/\(t.guard= -1\/0<=t.guard)/\(0<=t.from_/\t.from_<q.states.length)/\0<=t.to/\t.to<q.states.length/\∃f r,Y7 q t f=some (r,true))
  (by
   rintro⟨w,s⟩ ⟨i,rfl,hi,hw0,hw1,hP⟩;simp only at hw0 hw1 hP⊢;by_cases he:i=q.trans.length;subst he;exact .inl ⟨.inl w,by simp only[Iq,ltI,AI],fun _ _=>F1 hP⟩;obtain⟨x,hx,_⟩:=Ab (l:=q.trans) (i:=i) (by omega);have hxm:=List.mem_of_getElem? hx;obtain⟨r4,e4,p4⟩:=aMz q hF x (hW x hxm) (hF.sets x hxm) w hw0 hw1;simp only[Iq,ltD hx,AJ,AP hx,e4,AB,A9 hx (show q.trans.length<=9223372036854775807 by omega)];cases hb:r4.2 with
   |false=>exact .inl ⟨.inr (),rfl,by simp⟩
   |true=>
    have hp:=p4 hb
    refine .inr ⟨(r4.1,((i+1:Nat):Int)),rfl,⟨i+1,rfl,by omega,hp.2.2.1,hp.2.2.2.1,fun j hj t ht=>?_⟩,by simp only;omega⟩
    rcases Nat.lt_or_ge j i with h|h
    exact hP j h t ht
    have:j=i:=by omega
    subst this;rw[hx]at ht;cases ht;exact⟨hp.1,hp.2.1,hp.2.2.2.2.1,hp.2.2.2.2.2.1,hp.2.2.2.2.2.2.1,hp.2.2.2.2.2.2.2,w,r4.1,by rw[e4,<-hb]⟩)
  ((0:Int),(0:Int)) ⟨0,rfl,by omega,by simp,by simp,fun j hj=>by omega⟩
 refine Ba e5 ?_;rcases o5 with o6|_
 rw[CQ];refine BV (fun _=>?_) (fun _=>⟨_,rfl,by simp⟩);obtain⟨r8,e8,p8⟩:=aVv q hF (fun t ht=>⟨(p5 o6 rfl t ht).1,(p5 o6 rfl t ht).2.1⟩);refine Ba e8 ⟨_,rfl,fun hr=>⟨p1 hz,by omega,p8 hr,fun t ht=>(p5 o6 rfl t ht).2.2.1,fun t ht=>⟨⟨(p5 o6 rfl t ht).1,(p5 o6 rfl t ht).2.1⟩,(p5 o6 rfl t ht).2.2.2.1,(p5 o6 rfl t ht).2.2.2.2.1,(p5 o6 rfl t ht).2.2.2.2.2.1⟩,fun t ht=>(p5 o6 rfl t ht).2.2.2.2.2.2⟩⟩;exact⟨_,rfl,by simp⟩
theorem bAl{i j:Nat}(h:i+j<4611686018427387904):IntKind.wrap .i64 (AA .shr .u64 (IntKind.wrap .u64 (AA .add .i64 (i:Int) (j:Int))) 1)=(((i+j)/2:Nat):Int):=by
 have e1:AA .add .i64 (i:Int) (j:Int)=((i+j:Nat):Int):=by rw[MC (by omega) (by omega)];omega
 rw[e1,As (by omega)];have e2:AA .shr .u64 (((i+j:Nat)):Int) 1=(((i+j)/2^1:Nat):Int):=aZ3 (n:=i+j) (k:=1) (by decide);rw[e2,Nat.pow_one,aRn (by omega) (by omega)]
theorem aQn{step:Int×Int->Option ((Int×Int)⊕Int)}(n:Nat)(lt:Nat->Bool)
 (h1:∀i j:Nat,i<j->j<=n->step ((i:Int),(j:Int))=some (.inl (if lt ((i+j)/2)=true then((((i+j)/2+1:Nat):Int),(j:Int))else((i:Int),(((i+j)/2:Nat):Int)))))
 (h2:∀i:Nat,step ((i:Int),(i:Int))=some (.inr (i:Int))) (hm:∀a b,a<=b->b<n->lt b=true->lt a=true):
 ∃k:Nat,k<=n/\AR step (0,(n:Int))=some (k:Int)/\(∀a,a<k->lt a=true)/\∀a,k<=a->a<n->lt a=false:=by
 obtain⟨t,ht,k,hk,rfl,p1,p2⟩:=BY (step:=step) (fun s=>∃i j:Nat,s=((i:Int),(j:Int))/\i<=j/\j<=n/\(∀a,a<i->lt a=true)/\∀a,j<=a->a<n->lt a=false) (fun s=>(s.2-s.1).toNat)
  (fun t=>∃k:Nat,k<=n/\t=(k:Int)/\(∀a,a<k->lt a=true)/\∀a,k<=a->a<n->lt a=false)
  (by
   rintro s ⟨i,j,rfl,hij,hj,q1,q2⟩;rcases Nat.lt_or_ge i j with h|h
   right;cases hl:lt ((i+j)/2)with
   |true=>
    refine⟨((((i+j)/2+1:Nat):Int),(j:Int)),by rw[h1 i j h hj,hl];rfl,⟨(i+j)/2+1,j,rfl,by omega,hj,fun a ha=>hm a ((i+j)/2) (by omega) (by omega) hl,q2⟩,by simp only;omega⟩
   |false=>
    refine⟨((i:Int),(((i+j)/2:Nat):Int)),by rw[h1 i j h hj,hl];rfl,⟨i,(i+j)/2,rfl,by omega,by omega,q1,fun a ha hn=>?_⟩,by simp only;omega⟩
    rcases Nat.lt_or_ge a j with g|g
    cases hla:lt a with
    |false=>rfl
    |true=>rw[hm ((i+j)/2) a ha hn hla]at hl;cases hl
    exact q2 a g hn
   have:i=j:=by omega
   subst this;exact .inl ⟨(i:Int),h2 i,i,hj,rfl,q1,q2⟩)
  (0,(n:Int)) ⟨0,n,rfl,by omega,Nat.le_refl _,fun a ha=>by omega,fun a ha hn=>by omega⟩
 exact⟨k,hk,ht,p1,p2⟩

def SV(w:List X2):Prop:=w.Pairwise (fun a b=>a.var<b.var)/\∀s∈w,0<=s.var/\s.var<=63
theorem HN:∀{a b:List X2},a.Pairwise (fun x y=>x.var<y.var)->b.Pairwise (fun x y=>x.var<y.var)->(∀s,s∈a↔s∈b)->a=b
 |[],[],_,_,_=>rfl
 |[],y::b,_,_,h=>by have:=(h y).2 (by simp);simp at this
 |x::a,[],_,_,h=>by have:=(h x).1 (by simp);simp at this
 |x::a,y::b,ha,hb,h=>by
  obtain⟨ha1,ha2⟩:=List.pairwise_cons.1 ha;obtain⟨hb1,hb2⟩:=List.pairwise_cons.1 hb;have hxy:x=y:=by
   rcases mc.1 ((h x).1 (by simp))with e|e
   exact e;rcases mc.1 ((h y).2 (by simp))with e2|e2
   exact e2.symm;have:=hb1 x e;have:=ha1 y e2;omega
  subst hxy;congr 1;refine HN ha2 hb2 fun s=>⟨fun hs=>?_,fun hs=>?_⟩;rcases mc.1 ((h s).1 (List.mem_cons_of_mem _ hs))with e|e
  subst e;have:=ha1 s hs;omega;exact e;rcases mc.1 ((h s).2 (List.mem_cons_of_mem _ hs))with e|e
  subst e;have:=hb1 s hs;omega;exact e
def O7:List X2->X2->List X2
 |[],x=> [x]
 |y::l,x=>if x.var<y.var then x::y::l else y::O7 l x
theorem EV:∀(l:List X2) (x s:X2),s∈O7 l x↔s=x\/s∈l
 |[],x,s=>by simp[O7]
 |y::l,x,s=>by
  unfold O7;split;simp;rw[mc,EV l x s,mc];constructor;rintro(h|h|h)<;>simp[h];rintro(h|h|h)<;>simp[h]
theorem F7:∀(l:List X2) (x:X2),l.Pairwise (fun a b=>a.var<b.var)->(∀s∈l,s.var≠x.var)->(O7 l x).Pairwise (fun a b=>a.var<b.var)
 |[],x,_,_=>by simp[O7]
 |y::l,x,h,hn=>by
  obtain⟨h1,h2⟩:=List.pairwise_cons.1 h;unfold O7;split;rename_i hxy;refine List.pairwise_cons.2 ⟨fun s hs=>?_,h⟩;rcases mc.1 hs with rfl|hs
  exact hxy;have:=h1 s hs;omega;rename_i hxy;refine List.pairwise_cons.2 ⟨fun s hs=>?_,F7 l x h2 fun s hs=>hn s (List.mem_cons_of_mem _ hs)⟩;rcases(EV l x s).1 hs with rfl|hs
  have:=hn y (by simp);omega;exact h1 s hs
theorem Qt:∀(l:List X2) (x:X2),(O7 l x).length=l.length+1
 |[],x=>rfl
 |y::l,x=>by unfold O7;split<;>simp[Qt l x]
theorem JL{l:List X2}{v:Int}(h:(EB l v).2=false):∀s∈l,s.var≠v:=by
 intro s hs e;unfold EB at h;cases hf:l.findSome? (fun s=>if s.var=v then some s.value else none)with
 |some x=>rw[hf]at h;cases h
 |none=>
  rw[List.findSome?_eq_none_iff]at hf
  have:=hf s hs
  simp[e]at this
theorem F6{l:List X2}(hl:l.Pairwise (fun a b=>a.var<b.var)){s:X2}(h:s∈l):EB l s.var=(s.value,true):=by
 have key:∀(l:List X2),l.Pairwise (fun a b=>a.var<b.var)->s∈l->l.findSome? (fun t=>if t.var=s.var then some t.value else none)=some s.value:=by
  intro l;induction l with
  |nil=>intro _ h;simp at h
  |cons t l ih=>
   intro hp hs
   rw[List.findSome?_cons]
   obtain⟨h1,h2⟩:=List.pairwise_cons.1 hp
   rcases mc.1 hs with rfl|hs
   simp
   have:=h1 s hs
   rw[if_neg (by omega)]
   exact ih h2 hs
 unfold EB;rw[key l hl h]
def My(w:List X2)(x:X2):Option (List X2):=if(EB w x.var).2=true then(if(EB w x.var).1=x.value then some w else none)else some (O7 w x)
theorem Jg{w w':List X2}{x:X2}(hw:SV w)(hx:0<=x.var/\x.var<=63)(h:My w x=some w'):SV w'/\w'.length<=w.length+1:=by
 unfold My at h;split at h;split at h;cases h;exact⟨hw,by omega⟩;cases h;rename_i hn;cases h;have hn':(EB w x.var).2=false:=by simpa using hn
 refine⟨⟨F7 w x hw.1 (JL hn'),fun s hs=>?_⟩,by rw[Qt];exact Nat.le_refl _⟩;rcases(EV w x s).1 hs with rfl|hs
 exact hx;exact hw.2 s hs
theorem aQs{w:List X2}{x:X2}(hw:w.Pairwise (fun a b=>a.var<b.var))(hn:∀s∈w,s.var≠x.var){k:Nat}(hk:k<=w.length)(h1:∀j s,w[j]? =some s->j<k->s.var<x.var)(h2:∀j s,w[j]? =some s->k<=j->x.var<s.var):
 w.take k++[x]++w.drop k=O7 w x:=by
 refine HN ?_ (F7 w x hw hn) fun s=>?_
 rw[List.append_assoc,List.singleton_append]
 have hd:∀s∈w.drop k,x.var<s.var:=fun s hs=>by obtain⟨j,hj,rfl⟩:=List.mem_iff_getElem.1 hs;rw[List.getElem_drop];exact h2 (k+j) _ (List.getElem?_eq_getElem (by simp at hj;omega)) (by omega)
 have htk:∀s∈w.take k,s.var<x.var:=fun s hs=>by obtain⟨j,hj,rfl⟩:=List.mem_iff_getElem.1 hs;rw[List.getElem_take];simp at hj;exact h1 j _ (List.getElem?_eq_getElem (by omega)) (by omega)
 refine List.pairwise_append.2 ⟨hw.sublist (List.take_sublist _ _),List.pairwise_cons.2 ⟨hd,hw.sublist (List.drop_sublist _ _)⟩,fun a ha b hb=>?_⟩
 rcases mc.1 hb with rfl|hb
 exact htk a ha
 have:=htk a ha;have:=hd b hb;omega
 rw[EV]
 have hw2:s∈w↔s∈w.take k\/s∈w.drop k:=by
  conv=>lhs;rw[<-List.take_append_drop k w]
  rw[ma]
 rw[hw2]
 simp only[ma,List.mem_singleton]
 constructor
 rintro((h|h)|h)<;>simp[h]
 rintro(h|h|h)<;>simp[h]
def HZ:List Bz->List X0->List X2->List X2->Option (List X2×List X2)
 |a::al,x::xs,b,f=>
  if a.kind=1 then(if a.value=x then HZ al xs b f else none)
  else if a.kind=2 then(match My b ⟨a.n,x⟩with|none=>none|some b'=>HZ al xs b' f)
  else if a.kind=3 then(match My f ⟨a.n,x⟩with|none=>none|some f'=>HZ al xs b f')
  else HZ al xs b f
 |_,_,b,f=>some (b,f)
def aUk(a:Bz):Prop:=(a.kind=2->0<=a.n/\a.n<=7)/\(a.kind=3->0<=a.n/\a.n<=63)
def B7(b:List X2):Prop:=∀s∈b,s.var<=7
theorem aN4{w w':List X2}{x:X2}(hw:B7 w)(hx:x.var<=7)(h:My w x=some w'):B7 w':=by
 unfold My at h;split at h;split at h;cases h;exact hw;cases h;cases h;intro s hs;rcases(EV w x s).1 hs with rfl|hs
 exact hx;exact hw s hs
theorem JI:∀(al:List Bz) (xs:List X0) (b f:List X2) (p:List X2×List X2),(∀a∈al,aUk a)->SV b->SV f->B7 b->HZ al xs b f=some p->SV p.1/\SV p.2/\B7 p.1/\p.1.length<=b.length+al.length/\p.2.length<=f.length+al.length
 |[],xs,b,f,p,_,hb,hf,h7,h=>by simp only[HZ]at h;cases h;exact⟨hb,hf,h7,by simp,by simp⟩
 |a::al,[],b,f,p,_,hb,hf,h7,h=>by simp only[HZ]at h;cases h;exact⟨hb,hf,h7,by simp,by simp⟩
 |a::al,x::xs,b,f,p,hA,hb,hf,h7,h=>by
  have hA':∀a∈al,aUk a:=fun a h=>hA a (List.mem_cons_of_mem _ h);have hAa:=hA a (by simp);simp only[HZ]at h;split at h;split at h;obtain⟨a1,a2,a3,a4,a5⟩:=JI al xs b f p hA' hb hf h7 h;exact⟨a1,a2,a3,by simp;omega,by simp;omega⟩;cases h;split at h;rename_i h2;split at h;cases h;rename_i b' hp;have hv:=hAa.1 h2;obtain⟨c1,c2⟩:=Jg hb (x:=⟨a.n,x⟩) ⟨hv.1,by simp only;omega⟩ hp;obtain⟨a1,a2,a3,a4,a5⟩:=JI al xs b' f p hA' c1 hf (aN4 h7 (by simp only;omega) hp) h;exact⟨a1,a2,a3,by simp;omega,by simp;omega⟩;split at h;rename_i h3;split at h;cases h;rename_i f' hp;have hv:=hAa.2 h3;obtain⟨c1,c2⟩:=Jg hf (x:=⟨a.n,x⟩) hv hp;obtain⟨a1,a2,a3,a4,a5⟩:=JI al xs b f' p hA' hb c1 h7 h;exact⟨a1,a2,a3,by simp;omega,by simp;omega⟩;obtain⟨a1,a2,a3,a4,a5⟩:=JI al xs b f p hA' hb hf h7 h;exact⟨a1,a2,a3,by simp;omega,by simp;omega⟩
def aLt(a b:List X2):Bool:=a.all fun s=> !(EB b s.var).2||decide ((EB b s.var).1=s.value)
theorem aYf(a b:List X2)(ha:a.length<=9223372036854775807)(hb:b.length<=9223372036854775807):Zc a b=some (aLt a b):=by
 unfold Zc aPw;rw[JW a (fun s=> !(EB b s.var).2||decide ((EB b s.var).1=s.value)) (.inl ():Unit⊕Unit) (.inr ())
  (fun i x hx=>by simp only[K5,ltD hx,AJ,AP hx,A9 hx ha,aJ6 b _ hb,AB,X0.eqb_dec];obtain⟨y,o⟩:=EB b x.var;cases o;simp[AE];by_cases h:y=x.value<;>simp[AE,h])
  (by simp only[K5,ltI,AI]),AB]
 unfold aLt;cases a.all _<;>rfl
theorem Hk(x:X2)(v:Int):EB [x] v=if x.var=v then(x.value,true)else(zV,false):=by unfold EB;by_cases h:x.var=v<;>simp[h]
def FD(a b:List X2)(v:Nat):Option X2:=
 if(EB a v).2=true then some ⟨v,(EB a v).1⟩else if(EB b v).2=true then some ⟨v,(EB b v).1⟩else none
def Jp(a b:List X2):List X2:=(List.range 8).filterMap (FD a b)
theorem aW3(a b:List X2)(ha:a.length<=9223372036854775807)(hb:b.length<=9223372036854775807):Ya a b=some (Jp a b):=by
 unfold Ya aPd;have hg:∀(l:List X2) (v:Int),l.length<=9223372036854775807->Yq l v=some (EB l v):=fun l v hl=>aJ6 l v hl;have h:=Ej (step:=fun s:Int×List X2=>Ig a b s.1 s.2) (List.range 8) (fun w v=>w++(FD a b v).toList) (fun w=>w) (fun i w=>w.length<=i)
  (fun i x w hx hI=>by
   have hi:i<8:=by simpa using Dv hx
   have hxi:x=i:=by rw[List.getElem?_range hi]at hx;cases hx;rfl
   subst hxi;have hd:decide ((x:Int)<8)=true:=by simp;omega
   refine⟨?_,?_⟩;simp only[Ig,hd,AJ,aIt,hg a _ ha,hg b _ hb,AB,aIv,aIx,M9 (show x<9223372036854775807 by omega),FD];rw[MN (by simp;omega) (by decide),MN (by simp;omega) (by decide)];cases(EB a (x:Int)).2<;>cases(EB b (x:Int)).2<;>simp[AE,AG];unfold FD;split;simpa using hI;split;simpa using hI;simp;omega)
  (fun w _=>by simp[Ig,AE]) [] (by simp)
 rw[h,AB];congr 1;unfold Jp;have key:∀(l:List Nat) (w:List X2),l.foldl (fun w v=>w++(FD a b v).toList) w=w++l.filterMap (FD a b):=by
  intro l;induction l with
  |nil=>intro w;simp
  |cons v l ih=>intro w;rw[List.foldl_cons,ih,List.filterMap_cons];cases FD a b v<;>simp
 rw[key];simp
theorem HO{a b:List X2}{v:Nat}{s:X2}(h:FD a b v=some s):s.var=(v:Int):=by unfold FD at h;split at h;cases h;rfl;split at h;cases h;rfl;cases h
theorem Lr(a b:List X2):(Jp a b).Pairwise (fun x y=>x.var<y.var):=by
 unfold Jp;have h8:(List.range 8).Pairwise (· < ·):=List.pairwise_lt_range
 rw[List.pairwise_filterMap];refine h8.imp fun{v w} hvw s hs t ht=>?_;have:=HO hs;have:=HO ht;omega
theorem TF{a b:List X2}{s:X2}:s∈Jp a b↔0<=s.var/\s.var<=7/\(EB a s.var=(s.value,true)\/(EB a s.var).2=false/\EB b s.var=(s.value,true)):=by
 unfold Jp;rw[List.mem_filterMap];constructor;rintro⟨v,hv,h⟩;have hv8:v<8:=by simpa using hv
 have hsv:=HO h;refine⟨by omega,by omega,?_⟩;rw[hsv];unfold FD at h;split at h;rename_i ha;cases h;left;simp only;rw[<-ha];rename_i ha;split at h;rename_i hb;cases h;right;exact⟨by simpa using ha,by simp only;rw[<-hb]⟩;cases h;rintro⟨h0,h7,h⟩;refine⟨s.var.toNat,by simp;omega,?_⟩;have e:((s.var.toNat:Nat):Int)=s.var:=by omega
 unfold FD;rw[e];rcases h with h|⟨h,h'⟩
 rw[h];simp;rw[h,h'];simp
theorem aLu{b:List X2}{x:X2}(hb:SV b):aLt b [x]=(My b x).isSome:=by
 unfold aLt My;cases hg:(EB b x.var).2 with
 |true=>
  have hm:=FR (l:=b) (v:=x.var) (x:=(EB b x.var).1) (by rw[<-hg])
  by_cases hv:(EB b x.var).1=x.value
  simp only[if_true,hv,Option.isSome_some]
  rw[List.all_eq_true]
  intro s hs
  rw[Hk]
  by_cases h:x.var=s.var
  have:=F6 hb.1 hs
  rw[<-h]at this
  rw[this]at hv
  simp[h,<-hv]
  simp[h]
  simp only[if_true,hv,if_false,Option.isSome_none]
  rw[List.all_eq_false]
  refine⟨_,hm,?_⟩
  rw[Hk]
  simp
  exact fun h=>hv h.symm
 |false=>
  simp only[Bool.false_eq_true,if_false,Option.isSome_some]
  rw[List.all_eq_true]
  intro s hs
  rw[Hk]
  have:=JL hg s hs
  have h':¬x.var=s.var:=fun h=>this h.symm
  simp[h']
theorem aCp{b w:List X2}{x:X2}(hb:SV b)(h7:B7 b)(hx:0<=x.var/\x.var<=7)(h:My b x=some w):Jp b [x]=w:=by
 have hw:=Jg hb (x:=x) ⟨hx.1,by omega⟩ h;refine HN (Lr _ _) hw.1.1 fun s=>?_;rw[TF,Hk];unfold My at h;split at h;rename_i hg;split at h;rename_i hv;cases h;constructor;rintro⟨_,_,h1|⟨h1,h2⟩⟩;exact FR h1;split at h2;rename_i e;rw[e]at hg;rw[h1]at hg;cases hg;simp at h2;intro hs;exact⟨(hb.2 s hs).1,h7 s hs,.inl (F6 hb.1 hs)⟩;cases h;rename_i hg;have hg':(EB b x.var).2=false:=by simpa using hg
 cases h;rw[EV];constructor;rintro⟨_,_,h1|⟨h1,h2⟩⟩;exact .inr (FR h1);split at h2;rename_i e;left;obtain⟨a,c⟩:=s;obtain⟨a',c'⟩:=x;simp only at e h2;subst e;simp at h2;rw[h2];simp at h2;rintro(rfl|hs);exact⟨hx.1,hx.2,.inr ⟨hg',by simp⟩⟩;exact⟨(hb.2 s hs).1,h7 s hs,.inl (F6 hb.1 hs)⟩
theorem aX8{w:List X2}{x:X2}(hw:SV w)(hn:∀s∈w,s.var≠x.var)(hl:w.length<=1000):Z7 w x=some (O7 w x):=by
 unfold Z7 aPt;obtain⟨t,ht,k,hk,rfl,p1,p2⟩:=BY (step:=fun s=>Iv w x s) (fun s=>∃i:Nat,s=(i:Int)/\i<=w.length/\∀j s,w[j]? =some s->i<=j->x.var<s.var) (fun s=>s.toNat)
  (fun t=>∃k:Nat,k<=w.length/\t=(k:Int)/\(∀j s,w[j]? =some s->j<k->s.var<x.var)/\∀j s,w[j]? =some s->k<=j->x.var<s.var)
  (by
   rintro s ⟨i,rfl,hi,hj⟩;cases i with
   |zero=>exact .inl ⟨0,by simp[Iv,AE],0,by omega,rfl,fun j s _ h=>by omega,hj⟩
   |succ i=>
    obtain⟨y,hy,_⟩:=Ab (l:=w) (i:=i) (by omega)
    have e:AA .sub .i64 ((i+1:Nat):Int) 1=(i:Int):=by rw[TD (by omega) (by omega)];omega
    have hd:decide ((0:Int)<((i+1:Nat):Int))=true:=by simp
    simp only[Iv,hd,AJ,e,AP hy]
    by_cases h:x.var<y.var
    refine .inr ⟨_,by simp only[h,decide_true,AJ],⟨i,rfl,by omega,fun j s hs hij=>?_⟩,by omega⟩
    rcases Nat.eq_or_lt_of_le hij with g|g
    subst g;rw[hy]at hs;cases hs;exact h
    exact hj j s hs g
    refine .inl ⟨_,by simp only[h,decide_false,AI],i+1,hi,rfl,fun j s hs hij=>?_,hj⟩
    have hyx:y.var<x.var:=by have:=hn y (List.mem_of_getElem? hy);omega
    rcases Nat.lt_or_ge j i with g|g
    obtain⟨a1,rfl⟩:=List.getElem?_eq_some_iff.1 hs
    obtain⟨a2,rfl⟩:=List.getElem?_eq_some_iff.1 hy
    have:=List.pairwise_iff_getElem.1 hw.1 j i a1 a2 g;omega
    have:j=i:=by omega
    subst this;rw[hy]at hs;cases hs;exact hyx)
  (w.length:Int) ⟨w.length,rfl,Nat.le_refl _,fun j s hs hij=>by have:=Dv hs;omega⟩
 rw[ht,AB];have es:sub w 0 (k:Int)=w.take k:=by rw[show(0:Int)=((0:Nat):Int)from rfl,aCg];rfl
 rw[es,aCf,Av (by omega),MN (by simp;omega) (by decide),MN (by simp;omega) (by decide),Av (by omega),MN (by simp;omega) (by decide)];rw[List.nil_append,aQs hw.1 hn hk p1 p2]
theorem aL1{al:List Bz}{e:Xd}{sy:X5}{s1 w6:Int}{w9:Ap}(hsy:sy.args=al)(hlen:al.length=e.args.length)(h12:al.length<=12)(hA:∀a∈al,aUk a):∀(n i:Nat) (b f:List X2),al.length-i=n->i<=al.length->SV b->SV f->B7 b->b.length<=i->f.length<=i->
 SD s1 e w6 sy w9 b f (i:Int)=some (match HZ (al.drop i) (e.args.drop i) b f with|none=>.inr ()|some p=>.inl p):=by
 subst hsy
 intro n
 induction n with
 |zero=>
  intro i b f hn hi _ _ _ _ _
  have:i=sy.args.length:=by omega
  subst this
  rw[P7]
  simp only[IZ,ltI,AI,Ae]
  rw[List.drop_length];simp[HZ]
 |succ n ih=>
  intro i b f hn hi hb hf h7 hbl hfl
  obtain⟨a,ha,hda⟩:=Ab (l:=sy.args) (i:=i) (by omega)
  obtain⟨x,hx,hdx⟩:=Ab (l:=e.args) (i:=i) (by omega)
  have hAa:=hA a (List.mem_of_getElem? ha)
  rw[P7,hda,hdx]
  simp only[IZ,ltD ha,AJ,aHh,AP ha,AP hx,A9 ha (show sy.args.length<=9223372036854775807 by omega),X0.eqb_dec,Vo,Vp,Vq]
  simp only[HZ]
  by_cases h1:a.kind=1
  have h2:¬a.kind=2:=by omega
  have h3:¬a.kind=3:=by omega
  by_cases hv:a.value=x
  have ho:=ih (i+1) b f (by omega) (by omega) hb hf h7 (by omega) (by omega)
  simp[h1,hv,AE,CW,AG,Cd];exact_mod_cast ho
  simp[h1,hv,AE,CW,AG,Cd]
  by_cases h2:a.kind=2
  have h3:¬a.kind=3:=by omega
  have hvr:=hAa.1 h2
  rw[aYf _ _ (by omega) (by simp),aLu (x:=⟨a.n,x⟩) hb,aW3 _ _ (by omega) (by simp)]
  cases hp:My b ⟨a.n,x⟩with
  |none=>simp[h1,h2,AE,CW,AG,Cd]
  |some b'=>
   obtain⟨c1,c2⟩:=Jg hb (x:=⟨a.n,x⟩) ⟨hvr.1,by simp only;omega⟩ hp
   rw[aCp hb h7 (x:=⟨a.n,x⟩) hvr hp]
   have ho:=ih (i+1) b' f (by omega) (by omega) c1 hf (aN4 h7 (by simp only;omega) hp) (by omega) (by omega)
   simp[h1,h2,h3,AE,CW,AG,Cd];exact_mod_cast ho
  by_cases h3:a.kind=3
  have hvr:=hAa.2 h3
  rw[aJ6 f _ (by omega)]
  unfold My
  simp only
  cases hg:(EB f a.n).2 with
  |true=>
   by_cases hv:(EB f a.n).1=x
   have ho:=ih (i+1) b f (by omega) (by omega) hb hf h7 (by omega) (by omega)
   simp[h1,h2,h3,hg,hv,AE,CW,AG,Cd];exact_mod_cast ho
   simp[h1,h2,h3,hg,hv,AE,CW,AG,Cd]
  |false=>
   have hp:My f ⟨a.n,x⟩=some (O7 f ⟨a.n,x⟩):=by unfold My;simp[hg]
   obtain⟨c1,c2⟩:=Jg hf (x:=⟨a.n,x⟩) hvr hp
   have ho:=ih (i+1) b (O7 f ⟨a.n,x⟩) (by omega) (by omega) hb c1 h7 (by omega) (by omega)
   have hput:=aX8 (w:=f) (x:=⟨a.n,x⟩) hf (JL hg) (by omega)
   simp[h1,h2,h3,hg,AE,CW,AG,Cd,aA1,hput];exact_mod_cast ho
  have ho:=ih (i+1) b f (by omega) (by omega) hb hf h7 (by omega) (by omega)
  simp[h1,h2,h3,AE,CW,AG,Cd];exact_mod_cast ho
def JO(q:AD)(i:Nat)(e:Xd):Option Ap:=match q.symbols[i]? with
 |none=>none
 |some s=>match q.decls[s.event.toNat]? with
  |none=>none
  |some d=>if d.name=e.name/\s.args.length=e.args.length then(HZ s.args e.args [] []).map fun p=>⟨i,p.1,p.2⟩else none
theorem aNa:SV []:=⟨List.Pairwise.nil,by simp⟩
theorem bAc{q:AD}(hF:EG q)(hR:Ao q){s:X5}(hs:s∈q.symbols):∀a∈s.args,aUk a:=fun a ha=>by have:=(hR.symbols s hs).args a ha;have h8:=hR.quants;have hf:=hF.frees;exact⟨fun h=>by have:=this.two h;omega,fun h=>by have:=this.three h;omega⟩
def aRx(o:Option Ap):Ap×Bool:=match o with
 |some h=>(h,true)
 |none=>(⟨0,[],[]⟩,false)
theorem aWl{q:AD}(hF:EG q)(hR:Ao q){e:Xd}{i:Nat}(hi:i<q.symbols.length):Xx q i e=some (aRx (JO q i e)):=by
 obtain⟨s,hs,_⟩:=Ab hi;have hsm:=List.mem_of_getElem? hs;have hso:=hR.symbols s hsm;obtain⟨d,hd,hdl⟩:=hso.decl;unfold Xx JO;rw[AP hs,EU hd hso.event,hs,aQ5];simp only[hd];by_cases hn:d.name=e.name;by_cases hlen:s.args.length=e.args.length;have h12:=hF.args s hsm;have ho:=aL1 (sy:=s) (s1:=(i:Int)) (w6:=0) (w9:=⟨0,[],[]⟩) rfl hlen h12 (bAc hF hR hsm) _ 0 [] [] rfl (by omega) aNa aNa (fun s hs=>by simp at hs) (by simp) (by simp);rw[show(0:Int)=((0:Nat):Int)from rfl]at ho⊢;simp only[List.drop_zero]at ho;simp only[hn,hlen,and_self,if_true,decide_true,Bool.not_true,AI];rw[show SD (i:Int) e ((0:Nat):Int) s (Ap.mk ((0:Nat):Int) [] []) [] [] ((0:Nat):Int)=_ from ho,AB];cases HZ s.args e.args [] []with
 |none=>simp[Cd,aRx]
 |some p=>simp[Cd,aRx]
 simp[hn,hlen,AE,aRx];simp[hn,AE,aRx]
theorem J0{α β:Type}(g:α->Option β):∀(l:List α) (w:List β),l.foldl (fun w v=>w++(g v).toList) w=w++l.filterMap g:=by
 intro l;induction l with
 |nil=>intro w;simp
 |cons v l ih=>intro w;rw[List.foldl_cons,ih,List.filterMap_cons];cases g v<;>simp
theorem aBz{n i x:Nat}(h:(List.range n)[i]? =some x):x=i/\i<n:=by
 have hi:i<n:=by simpa using Dv h
 rw[List.getElem?_range hi]at h;cases h;exact⟨rfl,hi⟩
theorem aNl:∀x:List UInt8,Op.bytesLess x x=false
 |[]=>rfl
 |a::x=>by simp[Op.bytesLess,aNl x]
theorem QN:∀{x y z:List UInt8},Op.bytesLess x y=true->Op.bytesLess y z=true->Op.bytesLess x z=true
 |[],[],_,h,_=>by simp[Op.bytesLess]at h
 |_::_,[],_,h,_=>by simp[Op.bytesLess]at h
 |[],_::_,[],_,h=>by simp[Op.bytesLess]at h
 |[],_::_,_::_,_,_=>rfl
 |_::_,_::_,[],_,h=>by simp[Op.bytesLess]at h
 |a::x,b::y,c::z,h1,h2=>by
  simp only[Op.bytesLess,Bool.or_eq_true,ba,decide_eq_true_eq,beq_iff_eq]at h1 h2⊢;rcases h1 with h1|⟨rfl,h1⟩
  rcases h2 with h2|⟨rfl,h2⟩
  exact .inl (UInt8.lt_trans h1 h2);exact .inl h1;rcases h2 with h2|⟨rfl,h2⟩
  exact .inl h2;exact .inr ⟨rfl,QN h1 h2⟩
theorem aNm:∀{x y:List UInt8},x≠y->Op.bytesLess x y=true\/Op.bytesLess y x=true
 |[],[],h=>absurd rfl h
 |_::_,[],_=>.inr rfl
 |[],_::_,_=>.inl rfl
 |a::x,b::y,h=>by
  simp only[Op.bytesLess,Bool.or_eq_true,ba,decide_eq_true_eq,beq_iff_eq];by_cases hab:a=b;subst hab;rcases aNm (x:=x) (y:=y) (fun e=>h (by rw[e]))with g|g
  exact .inl (.inr ⟨rfl,g⟩);exact .inr (.inr ⟨rfl,g⟩);have:a<b\/b<a:=by rw[UInt8.lt_iff_toNat_lt,UInt8.lt_iff_toNat_lt];have:a.toNat≠b.toNat:=fun e=>hab (UInt8.toNat_inj.1 e);omega
  rcases this with g|g
  exact .inl (.inl g);exact .inr (.inl g)
theorem aAh:∀(x y:List UInt8),(match ((x.zip y).findSome? fun z=>if z.1=z.2 then none else some (Sum.inr (decide (z.1<z.2)):Unit⊕Bool)).getD (.inl ())with| .inl _=>decide (x.length<y.length)| .inr b=>b)=Op.bytesLess x y
 |[],[]=>rfl
 |_::_,[]=>rfl
 |[],_::_=>by simp[Op.bytesLess]
 |a::x,b::y=>by
  rw[List.zip_cons_cons,List.findSome?_cons];by_cases h:a=b;subst h;simp only[if_true,Op.bytesLess,beq_self_eq_true,Bool.true_and,<-aAh x y];have:decide (a<a)=false:=by simp
  rw[this,Bool.false_or];simp only[List.length_cons,Nat.add_lt_add_iff_right];simp[h,Op.bytesLess]
theorem aXw(x y:List UInt8)(hx:x.length<=9223372036854775807)(hy:y.length<=9223372036854775807):Yw x y=some (Op.bytesLess x y):=by
 unfold Yw aKg;have hz:(x.zip y).length=min x.length y.length:=by simp
 rw[Ei (x.zip y) (fun _ z=>if z.1=z.2 then none else some (Sum.inr (decide (z.1<z.2)):Unit⊕Bool)) (.inl ())
  (fun i z h=>by obtain⟨h1,h2⟩:=aRq h;simp only[G8,ltD h1,ltD h2,AJ,AP h1,AP h2,A9 h1 hx];by_cases e:z.1=z.2;simp[e,AE];have:¬(z.1.toNat:Int)=(z.2.toNat:Int):=fun g=>e (UInt8.toNat_inj.1 (by omega));have:(decide ((z.1.toNat:Int)<(z.2.toNat:Int)))=decide (z.1<z.2):=decide_eq_decide.2 (by rw[UInt8.lt_iff_toNat_lt];omega);rw[this,if_neg e];simp[*,AE])
  (by
   rw[hz];rcases Nat.le_total x.length y.length with h|h
   rw[Nat.min_eq_left h];simp only[G8,ltI,AI];rw[Nat.min_eq_right h];simp only[G8,ltI,AI];cases decide ((y.length:Int)<(x.length:Int))<;>rfl),AB,ED,<-aAh]
 cases((x.zip y).findSome? fun z=>if z.1=z.2 then none else some (Sum.inr (decide (z.1<z.2)):Unit⊕Bool)).getD (.inl ())<;>simp[Cd]
def ltV(a b:X0):Bool:=if a.kind=b.kind then(if a.kind=1 then decide (a.int<b.int)else if a.kind=2 then Op.bytesLess a.str b.str else !a.bool&&b.bool)else decide (a.kind<b.kind)
theorem aTg(a b:X0):Zz a b=some (ltV a b):=by unfold Zz ltV;by_cases h:a.kind=b.kind<;>by_cases h1:a.kind=1<;>by_cases h2:a.kind=2<;>cases ha:a.bool<;>simp_all [AE]
theorem aYu(a b:X0)(ha:a.str.length<=9223372036854775807)(hb:b.str.length<=9223372036854775807):Zp a b=some (ltV a b):=by unfold Zp ltV;rw[aXw _ _ ha hb];by_cases h:a.kind=b.kind<;>by_cases h1:a.kind=1<;>by_cases h2:a.kind=2<;>cases ha:a.bool<;>simp_all [AE,AG]
theorem JX(a:X0):ltV a a=false:=by unfold ltV;rw[if_pos rfl];split;simp;split;exact aNl _;cases a.bool<;>rfl
theorem GP{a b c:X0}(h1:ltV a b=true)(h2:ltV b c=true):ltV a c=true:=by unfold ltV at*;by_cases e1:a.kind=b.kind;by_cases e2:b.kind=c.kind;rw[if_pos e1]at h1;rw[if_pos e2]at h2;rw[if_pos (e1.trans e2)];rw[e1]at h1⊢;split;rename_i h;rw[if_pos h]at h1 h2;simp at h1 h2⊢;omega;rename_i h;rw[if_neg h]at h1 h2;split;rename_i h;rw[if_pos h]at h1 h2;exact QN h1 h2;rename_i h;rw[if_neg h]at h1 h2;simp at h1 h2⊢;exact⟨h1.1,h2.2⟩;rw[if_neg e2]at h2;rw[e1,if_neg e2];exact h2;rw[if_neg e1]at h1;by_cases e2:b.kind=c.kind;rw[<-e2,if_neg e1];exact h1;rw[if_neg e2]at h2;simp only[decide_eq_true_eq]at h1 h2;rw[if_neg (by omega)];simp;omega
theorem Hm{v:X0}(h:vR v=true):(v.kind=1/\v.str=[]/\v.bool=false)\/(v.kind=2/\v.int=0/\v.bool=false/\v.str.length<=4096)\/(v.kind=3/\v.int=0/\v.str=[]):=by unfold vR at h;split at h;left;simp at h;exact⟨by assumption,h.1,h.2⟩;split at h;right;left;simp at h;exact⟨by assumption,h.1.1,h.1.2,h.2⟩;split at h;right;right;simp at h;exact⟨by assumption,h.1,h.2⟩;cases h
theorem PE{a b:X0}(ha:vR a=true)(hb:vR b=true)(h:a≠b):ltV a b=true\/ltV b a=true:=by
 unfold ltV;by_cases e:a.kind=b.kind;rw[if_pos e,if_pos e.symm,<-e];obtain⟨k,n,s,t⟩:=a;obtain⟨k',n',s',t'⟩:=b;simp only at e;subst e;rcases Hm ha with⟨rfl,h2,h3⟩|⟨rfl,h2,h3,h4⟩|⟨rfl,h2,h3⟩<;>rcases Hm hb with⟨g1,g2,g3⟩|⟨g1,g2,g3,g4⟩|⟨g1,g2,g3⟩<;>simp only[Int.reduceEq]at g1 h2 h3 g2 g3<;>subst_vars
 simp at h⊢;omega;simp at h⊢;exact aNm h;simp at h⊢;cases t<;>cases t'<;>simp_all;rw[if_neg e,if_neg (Ne.symm e)];simp;omega
theorem aMp{w w':List X2}{x s:X2}(h:My w x=some w')(hs:s∈w'):s=x\/s∈w:=by unfold My at h;split at h;split at h;cases h;exact .inr hs;cases h;cases h;exact(EV w x s).1 hs
theorem QZ:∀(al:List Bz) (xs:List X0) (b f:List X2) (p:List X2×List X2),HZ al xs b f=some p->∀s∈p.1,s∈b\/s.value∈xs
 |[],xs,b,f,p,h=>by simp only[HZ]at h;cases h;exact fun s hs=>.inl hs
 |a::al,[],b,f,p,h=>by simp only[HZ]at h;cases h;exact fun s hs=>.inl hs
 |a::al,x::xs,b,f,p,h=>by
  simp only[HZ]at h;have go:∀b f,HZ al xs b f=some p->∀s∈p.1,s∈b\/s.value∈x::xs:=fun b f h s hs=>(QZ al xs b f p h s hs).imp id (List.mem_cons_of_mem _);split at h;split at h;exact go b f h;cases h;split at h;split at h;cases h;rename_i b' hp;intro s hs;rcases go b' f h s hs with g|g
  rcases aMp hp g with rfl|g
  exact .inr (by simp);exact .inl g;exact .inr g;split at h;split at h;cases h;rename_i f' hp;exact go b f' h;exact go b f h
theorem Mf{q:AD}{e:Xd}{i:Nat}{h:Ap}(hi:JO q i e=some h):h.symbol=i/\∀s∈h.bind,s.value∈e.args:=by unfold JO at hi;split at hi;cases hi;split at hi;cases hi;split at hi;simp only[om]at hi;obtain⟨p,hp,rfl⟩:=hi;exact⟨rfl,fun s hs=>(QZ _ _ _ _ _ hp s hs).resolve_left (by simp)⟩;cases hi
theorem Sr{α:Type}{p:α->Bool}{w:List α}{k:Nat}(h1:∀(j:Nat) y,w[j]? =some y->j<k->p y=true)(h2:∀(j:Nat) y,w[j]? =some y->k<=j->p y=false):w.take k=w.filter p/\w.drop k=w.filter fun y=> !p y:=by
 have a:∀y∈w.take k,p y=true:=fun y hy=>by obtain⟨j,hj⟩:=List.mem_iff_getElem?.1 hy;rw[List.getElem?_take]at hj;split at hj;exact h1 j y hj (by assumption);cases hj
 have b:∀y∈w.drop k,p y=false:=fun y hy=>by obtain⟨j,hj⟩:=List.mem_iff_getElem?.1 hy;rw[List.getElem?_drop]at hj;exact h2 (k+j) y hj (by omega)
 have e:∀p:α->Bool,w.filter p=(w.take k).filter p++(w.drop k).filter p:=fun p=>by rw[<-List.filter_append,List.take_append_drop]
 constructor;rw[e,List.filter_eq_self.2 a,List.filter_eq_nil_iff.2 (fun y hy=>by simp[b y hy]),List.append_nil];rw[e,List.filter_eq_nil_iff.2 (fun y hy=>by simp[a y hy]),List.filter_eq_self.2 (fun y hy=>by simp[b y hy]),List.nil_append]
def SW(w:List X0):Prop:=w.Pairwise (fun a b=>ltV a b=true)/\∀v∈w,vR v=true
def NK(w:List X0)(x:X0):List X0:=if x∈w then w else w.filter (fun y=>ltV y x)++x::w.filter fun y=> !ltV y x
theorem aN9{v:X0}(h:vR v=true):v.str.length<=9223372036854775807:=by
 rcases Hm h with⟨_,h2,_⟩|⟨_,_,_,h4⟩|⟨_,_,h3⟩
 rw[h2];decide;omega;rw[h3];decide
theorem aMb{a b:X0}(h1:ltV a b=true):ltV b a=false:=by
 cases h:ltV b a with
 |false=>rfl
 |true=>have:=GP h1 h;rw[JX]at this;cases this
theorem aOj{w:List X0}(hw:SW w){i j:Nat}{y z:X0}(hi:w[i]? =some y)(hj:w[j]? =some z)(h:i<j):ltV y z=true:=by obtain⟨a1,rfl⟩:=List.getElem?_eq_some_iff.1 hi;obtain⟨a2,rfl⟩:=List.getElem?_eq_some_iff.1 hj;exact List.pairwise_iff_getElem.1 hw.1 i j a1 a2 h
theorem L3{w:List X0}{x:X0}(hw:SW w)(hx:vR x=true):SW (NK w x)/\(NK w x).length=w.length+(if x∈w then 0 else 1):=by
 unfold NK;split;exact⟨hw,by simp[*]⟩;rename_i hn;refine⟨⟨?_,fun b hb=>?_⟩,?_⟩;rw[List.pairwise_append,List.pairwise_cons];have hgt:∀y∈w.filter (fun y=> !ltV y x),ltV x y=true:=fun y hy=>by
  obtain⟨h1,h2⟩:=List.mem_filter.1 hy;rcases PE (hw.2 y h1) hx (fun e=>hn (e▸h1))with g|g
  rw[g]at h2;cases h2;exact g
 refine⟨hw.1.filter _,⟨hgt,hw.1.filter _⟩,fun y hy z hz=>?_⟩;have hyx:=(List.mem_filter.1 hy).2;rcases mc.1 hz with rfl|hz
 exact hyx;exact GP hyx (hgt z hz);rcases ma.1 hb with h|h
 exact hw.2 b (List.mem_filter.1 h).1;rcases mc.1 h with rfl|h
 exact hx;exact hw.2 b (List.mem_filter.1 h).1;have h1:∀w:List X0,(w.filter fun y=>ltV y x).length+(w.filter fun y=> !ltV y x).length=w.length:=by
  intro w;induction w with
  |nil=>rfl
  |cons y w ih=>rw[List.filter_cons,List.filter_cons];cases ltV y x<;>simp<;>omega
 have h1:=h1 w;rw[List.length_append,List.length_cons];omega
def AtW(w:List X0)(x:X0)(k:Nat):Prop:=k<=w.length/\(∀(j:Nat) y,w[j]? =some y->j<k->ltV y x=true)/\(∀(j:Nat) y,w[j]? =some y->k<=j->ltV y x=false)
theorem aNj{w:List X0}{x:X0}{k:Nat}(h:AtW w x k)(hn:x∉w):w.take k++[x]++w.drop k=NK w x:=by obtain⟨c1,c2⟩:=Sr h.2.1 h.2.2;unfold NK;rw[c1,c2,if_neg hn];simp
def aRu(y x:X0):Int:=if ltV y x=true then-1 else if ltV x y=true then 1 else 0
theorem aC8{y x:X0}{s:List X0}(hy:vR y=true)(hx:vR x=true):Q3 y x s=some (aRu y x):=by unfold Q3 aRu;rw[aTg,aTg,AB,AB];cases ltV y x<;>cases ltV x y<;>rfl
theorem aQq{y x:X0}:decide (aRu y x<0)=ltV y x:=by unfold aRu;cases ltV y x<;>cases ltV x y<;>rfl
theorem aQo{w s:List X0}{x:X0}(hw:SW w)(hx:vR x=true)(hl:w.length<=1000):
 ∃k:Nat,AtW w x k/\Xz w x s=some ((k:Int),decide (x∈w)):=by
 have hsub:∀y∈w,Q3 y x s=some (aRu y x):=fun y hy=>aC8 (hw.2 y hy) hx
 unfold Xz SF
 obtain⟨k,hk,hkr,p1,p2⟩:=aQn (step:=fun s':Int×Int=>Fz w s (w.length:Int) x s'.1 s'.2) w.length (fun a=>match w[a]? with|some y=>ltV y x|none=>false)
  (fun i j hij hj=>by
   obtain⟨y,hy,_⟩:=Ab (l:=w) (i:=(i+j)/2) (by omega);have hd:decide ((i:Int)<(j:Int))=true:=by simp;omega
   simp only[Fz,hd,AJ,aHp,bAl (show i+j<4611686018427387904 by omega),AP hy,hsub y (List.mem_of_getElem? hy),AB,Vy,hy,aQq];cases ltV y x with
   |true=>simp only[AJ,AB,if_true,M9 (show(i+j)/2<9223372036854775807 by omega)]
   |false=>simp[AE,AG])
  (fun i=>by simp[Fz,AE])
  (fun a b hab hb h=>by
   obtain⟨y,hy,_⟩:=Ab (l:=w) (i:=a) (by omega);obtain⟨z,hz,_⟩:=Ab (l:=w) (i:=b) hb;simp only[hy,hz]at h⊢;rcases Nat.lt_or_ge a b with g|g
   exact GP (aOj hw hy hz g) h;have:a=b:=by omega
   subst this;rw[hy]at hz;cases hz;exact h)
 have q1:∀(j:Nat) y,w[j]? =some y->j<k->ltV y x=true:=fun j s hs hj=>by have:=p1 j hj;simp only[hs]at this;exact this
 have q2:∀(j:Nat) y,w[j]? =some y->k<=j->ltV y x=false:=fun j s hs hj=>by have:=p2 j hj (Dv hs);simp only[hs]at this;exact this
 refine⟨k,⟨hk,q1,q2⟩,?_⟩
 rw[hkr,AB]
 have hmem:∀j:Nat,w[j]? =some x->j=k:=fun j hj=>by
  rcases Nat.lt_trichotomy j k with g|g|g
  have:=q1 j x hj g;rw[JX]at this;cases this;exact g;obtain⟨y,hy,_⟩:=Ab (l:=w) (i:=k) (by have:=Dv hj;omega);have h1:=q2 k y hy (Nat.le_refl _);rw[aOj hw hy hj g]at h1;cases h1
 by_cases h:k<w.length
 obtain⟨y,hy,_⟩:=Ab h
 rw[D0,if_pos (by omega),AP hy,hsub y (List.mem_of_getElem? hy),AB]
 have hge:=q2 k y hy (Nat.le_refl _)
 congr 2
 rw[decide_eq_decide]
 unfold aRu
 rw[hge,if_neg (by simp)]
 constructor
 intro hc
 rcases(Classical.em (y=x))with e|e
 exact e▸List.mem_of_getElem? hy
 rcases PE (hw.2 y (List.mem_of_getElem? hy)) hx e with g|g
 rw[hge]at g;cases g
 rw[if_pos g]at hc;cases hc
 intro hm
 obtain⟨j,hj⟩:=List.mem_iff_getElem?.1 hm
 have:=hmem j hj
 subst this
 rw[hy]at hj;cases hj
 rw[JX];rfl
 rw[D0,if_neg (by omega)]
 congr 2
 symm
 rw[decide_eq_false_iff_not]
 intro hm
 obtain⟨j,hj⟩:=List.mem_iff_getElem?.1 hm
 have:=hmem j hj
 have:=Dv hj
 omega
theorem Lz{w:List X0}{x:X0}(hw:SW w)(hx:vR x=true)(hl:w.length<=900):Z5 x w=some (!decide (x∈w),NK w x):=by
 unfold Z5 YF;obtain⟨k,hk,hb⟩:=aQo (s:=w) hw hx (by omega);rw[hb,AB];by_cases hm:x∈w;simp[hm,AE,AG,NK];have hin:Qo (k:Int) w [x]=some (NK w x):=by unfold Qo aUp;have:=hk.1;rw[if_pos ⟨by omega,by omega,by simp,B2 (by simp;omega) (by decide)⟩,Int.toNat_natCast,aNj hk hm]
 simp only[hm,decide_false,Bool.not_false,AJ];rw[hin];rfl
theorem aMw{α:Type}(w:List α)(k:Nat):sub w 0 (k:Int)=w.take k:=by simp[sub]
theorem aMv{α:Type}(w:List α)(k:Nat):sub w (k:Int) (w.length:Int)=w.drop k:=by simp[sub]
theorem aJz{w:List X0}{x:X0}(hw:SW w)(hx:vR x=true)(hl:w.length<=900):Yo w x=some (NK w x):=by
 unfold Yo aPi;obtain⟨t,ht,k,hk,rfl,p1,p2⟩:=BY (step:=fun s=>Im w x s) (fun s=>∃i:Nat,s=(i:Int)/\i<=w.length/\∀(j:Nat) s,w[j]? =some s->i<=j->ltV x s=true) (fun s=>s.toNat)
  (fun t=>∃k:Nat,k<=w.length/\t=(k:Int)/\(∀(j:Nat) s,w[j]? =some s->k=j+1->ltV x s=false)/\∀(j:Nat) s,w[j]? =some s->k<=j->ltV x s=true)
  (by
   rintro s ⟨i,rfl,hi,hj⟩;cases i with
   |zero=>exact .inl ⟨0,by simp[Im,AE],0,by omega,rfl,fun j s _ h=>by omega,hj⟩
   |succ i=>
    obtain⟨y,hy,_⟩:=Ab (l:=w) (i:=i) (by omega)
    have hyR:=hw.2 y (List.mem_of_getElem? hy)
    have e:AA .sub .i64 ((i+1:Nat):Int) 1=(i:Int):=by rw[TD (by omega) (by omega)];omega
    have hd:decide ((0:Int)<((i+1:Nat):Int))=true:=by simp
    simp only[Im,hd,AJ,e,AP hy,aYu _ _ (aN9 hx) (aN9 hyR),AB]
    cases h:ltV x y with
    |true=>
     refine .inr ⟨_,by simp only[AJ],⟨i,rfl,by omega,fun j s hs hij=>?_⟩,by omega⟩
     rcases Nat.eq_or_lt_of_le hij with g|g
     subst g;rw[hy]at hs;cases hs;exact h
     exact hj j s hs g
    |false=>
     refine .inl ⟨_,by simp only[AI],i+1,hi,rfl,fun j s hs hij=>?_,hj⟩
     have:j=i:=by omega
     subst this;rw[hy]at hs;cases hs;exact h)
  (w.length:Int) ⟨w.length,rfl,Nat.le_refl _,fun j s hs hij=>by have:=Dv hs;omega⟩
 rw[ht,AB];have hrest:(∀y,w[k-1]? =some y->0<k->y≠x)->(AV ((0:Int)<=0/\(0:Int)<=(k:Int)/\(k:Int)<=(w.length:Int)) (
  AV (fit ([]:List X0).length (sub w 0 (k:Int)).length 40) (
   AV (fit (([]:List X0)++(sub w 0 (k:Int))).length [x].length 40) (
    AV ((0:Int)<=(k:Int)/\((k:Int):Int)<=(w.length:Int)/\(w.length:Int)<=(w.length:Int)) (
     AV (fit ((([]:List X0)++(sub w 0 (k:Int)))++[x]).length (sub w (k:Int) (w.length:Int)).length 40) (
      some (((([]:List X0)++(sub w 0 (k:Int)))++[x])++(sub w (k:Int) (w.length:Int)))))))):Option (List X0))=some (NK w x):=by
  intro hne
  have hlt:∀(j:Nat) y,w[j]? =some y->j<k->ltV y x=true:=fun j y hy hj=>by
   obtain⟨z,hz,_⟩:=Ab (l:=w) (i:=k-1) (by omega);have h1:=p1 (k-1) z hz (by omega);have h2:=hne z hz (by omega);have h3:ltV z x=true:=by
    rcases PE (hw.2 z (List.mem_of_getElem? hz)) hx h2 with g|g
    exact g;rw[h1]at g;cases g
   rcases Nat.lt_or_ge j (k-1)with g|g
   exact GP (aOj hw hy hz g) h3;have:j=k-1:=by omega
   subst this;rw[hz]at hy;cases hy;exact h3
  have hAt:AtW w x k:=⟨hk,hlt,fun j y hy hj=>aMb (p2 j y hy hj)⟩
  have hn:x∉w:=fun hm=>by
   obtain⟨j,hj⟩:=List.mem_iff_getElem?.1 hm;rcases Nat.lt_or_ge j k with g|g
   have:=hlt j x hj g;rw[JX]at this;cases this;have:=p2 j x hj g;rw[JX]at this;cases this
  rw[aMw,aMv,Av (by omega),MN (by simp;omega) (by decide),MN (by simp;omega) (by decide),Av (by omega),MN (by simp;omega) (by decide),List.nil_append,aNj hAt hn]
 rw[D0];split;rename_i h0;obtain⟨y,hy,_⟩:=Ab (l:=w) (i:=k-1) (by omega);have e:AA .sub .i64 (k:Int) 1=((k-1:Nat):Int):=by rw[TD (by omega) (by omega)];omega
 rw[e,AP hy,X0.eqb_dec];by_cases hyx:y=x;subst hyx;have hm:=List.mem_of_getElem? hy;simp[AE,NK,hm];simp only[hyx,decide_false,AI];exact hrest fun z hz _=>by rw[hy]at hz;cases hz;exact hyx
 exact hrest fun z hz h=>by omega
theorem aXn{q:AD}{e:Xd}(hF:EG q)(hR:Ao q):Yk q e=some ((List.range q.symbols.length).filterMap fun i=>JO q i e):=by
 have hs:=hF.symbols;unfold Yk aPg;have h:=Ej (step:=fun s:Int×List Ap=>Il q e s.1 s.2) (List.range q.symbols.length) (fun w i=>w++(JO q i e).toList) (fun w=>w) (fun i w=>w.length<=i)
  (fun i x w hx hI=>by
   obtain⟨rfl,hi⟩:=aBz hx;have hlt:decide ((x:Int)<(q.symbols.length:Int))=true:=by simp;omega
   refine⟨?_,by cases JO q x e<;>simp<;>omega⟩;simp only[Il,hlt,AJ,aJp,aWl hF hR hi,AB,aJr,M9 (show x<9223372036854775807 by omega)];rw[MN (by simp;omega) (by decide)];cases JO q x e<;>simp[aRx,AE,AG])
  (fun w _=>by rw[List.length_range];simp only[Il,ltI,AI]) [] (by simp)
 rw[h,AB,J0];simp
def Dz(a b:List X2):Bool:=a.all fun s=>decide (EB b s.var=(s.value,true))
theorem aYh(a b:List X2)(ha:a.length<=9223372036854775807)(hb:b.length<=9223372036854775807):Zd a b=some (Dz a b):=by
 unfold Zd aPx;rw[JW a (fun s=>decide (EB b s.var=(s.value,true))) (.inl ()) (.inr ())
  (fun i x hx=>by simp only[K6,ltD hx,AJ,AP hx,A9 hx ha,aJ6 b _ hb,AB,X0.eqb_dec];obtain⟨y,o⟩:=EB b x.var;cases o;simp[AE];by_cases h:y=x.value<;>simp[AE,h])
  (by simp only[K6,ltI,AI]),AB]
 unfold Dz;cases a.all _<;>rfl
theorem aXp{l:List Ap}{b:List X2}(hl:l.length<=1000)(hs:∀h∈l,h.bind.length<=9223372036854775807)(hb:b.length<=9223372036854775807):Ym l b=some (l.filter fun h=>Dz h.bind b):=by
 unfold Ym aPh;rw[Ej l (fun w x=>if(Dz x.bind b)=true then w++[x]else w) (fun w=>w) (fun i w=>w.length<=i)
  (fun i x w hx hI=>by have:=Dv hx;refine⟨?_,?_⟩;rotate_left;split;simpa using hI;omega;simp only[K0,ltD hx,AJ,aJu,AP hx,aYh _ _ (hs x (List.mem_of_getElem? hx)) hb,AB,aJw,A9 hx (show l.length<=9223372036854775807 by omega)];rw[MN (by simp;omega) (by decide)];cases Dz x.bind b<;>simp[AE,AG])
  (fun w _=>by simp only[K0,ltI,AI]) [] (by simp),HT,AB]
 simp
def BR(b:List X2):Prop:=b.Pairwise (fun x y=>x.var<y.var)/\∀s∈b,0<=s.var/\s.var<=7/\vR s.value=true
theorem Kf:∀(b:List X2) (lo:Int),b.Pairwise (fun x y=>x.var<y.var)->(∀s∈b,lo<=s.var/\s.var<=7)->b.length<=(8-lo).toNat
 |[],_,_,_=>by simp
 |x::b,lo,hp,h=>by
  rw[List.pairwise_cons]at hp;have h1:=Kf b (x.var+1) hp.2 fun s hs=>⟨by have:=hp.1 s hs;omega,(h s (List.mem_cons_of_mem _ hs)).2⟩;have h2:=h x (by simp);rw[List.length_cons];omega
theorem TO{b:List X2}(h:BR b):b.length<=8:=by have:=Kf b 0 h.1 fun s hs=>⟨(h.2 s hs).1,(h.2 s hs).2.1⟩;omega
def okB(l:List X2)(i:Nat):Prop:=∀j,j<i->∃x,l[j]? =some x/\0<=x.var/\x.var<=7/\vR x.value=true/\∀y,0<j->l[j-1]? =some y->y.var<x.var
theorem aBs{l:List X2}(h:okB l l.length):BR l:=by
 have get:∀j (hj:j<l.length),0<=l[j].var/\l[j].var<=7/\vR l[j].value=true/\∀(_:0<j) (h2:j-1<l.length),l[j-1].var<l[j].var:=by intro j hj;obtain⟨x,hx,h1,h2,h5,h3⟩:=h j hj;obtain⟨_,rfl⟩:=List.getElem?_eq_some_iff.1 hx;exact⟨h1,h2,h5,fun h0 h4=>h3 _ h0 (List.getElem?_eq_getElem h4)⟩
 refine⟨List.pairwise_iff_getElem.2 ?_,fun s hs=>?_⟩;intro i j hi hj hij;induction j with
 |zero=>omega
 |succ j ih=>
  have h1:=(get (j+1) hj).2.2.2 (by omega) (by simp;omega)
  simp only[Nat.add_sub_cancel]at h1
  rcases Nat.lt_or_ge i j with h2|h2
  have:=ih (by omega) h2;omega
  have:i=j:=by omega
  subst this;exact h1
 obtain⟨j,hj,rfl⟩:=List.mem_iff_getElem.1 hs;exact⟨(get j hj).1,(get j hj).2.1,(get j hj).2.2.1⟩
theorem M2(l:List X2)(hl:l.length<=9223372036854775807):∃b,Zf l=some b/\(b=true->BR l):=by
 unfold Zf aPz;obtain⟨t,ht,hQ⟩:=BY (step:=fun s=>I0 l s) (fun s=>∃i:Nat,s=(i:Int)/\i<=l.length/\okB l i) (fun s=>(l.length-s).toNat) (fun t=>t=.inl ()->okB l l.length)
  (by
   rintro s ⟨i,rfl,hi,hok⟩;by_cases he:i=l.length;subst he;exact .inl ⟨.inl (),by simp only[I0,ltI,AI],fun _=>hok⟩;obtain⟨x,hx,_⟩:=Ab (l:=l) (i:=i) (by omega);simp only[I0,ltD hx,AJ,AP hx,aTa,AB,A9 hx hl,D0];have hgo:(∀y,0<i->l[i-1]? =some y->y.var<x.var)->¬x.var<0->¬7<x.var->vR x.value=true->okB l (i+1):=by
    intro h1 h2 h3 h5 j hj;rcases Nat.lt_or_ge j i with h4|h4
    exact hok j h4;have:j=i:=by omega
    subst this;exact⟨x,hx,by omega,by omega,h5,h1⟩
   by_cases h1:x.var<0;exact .inl ⟨.inr (),by simp[h1],by simp⟩;by_cases h2:7<x.var;exact .inl ⟨.inr (),by simp[h1,h2],by simp⟩;cases hb:vR x.value with
   |false=>exact .inl ⟨.inr (),by simp[h1,h2,AE],by simp⟩
   |true=>
    by_cases h3:0<i
    obtain⟨y,hy,_⟩:=Ab (l:=l) (i:=i-1) (by omega)
    have e:AA .sub .i64 (i:Int) 1=((i-1:Nat):Int):=by rw[TD (by omega) (by omega)];omega
    rw[e,AP hy]
    by_cases h4:x.var<=y.var
    exact .inl ⟨.inr (),by simp[h1,h2,h3,h4,AE],by simp⟩
    refine .inr ⟨((i+1:Nat):Int),by simp[h1,h2,h3,h4,AE],⟨i+1,rfl,by omega,hgo (fun z _ hz=>?_) h1 h2 hb⟩,by omega⟩
    rw[hy]at hz;cases hz;omega
    refine .inr ⟨((i+1:Nat):Int),by simp[h1,h2,h3,AE],⟨i+1,rfl,by omega,hgo (fun z h0=>absurd h0 h3) h1 h2 hb⟩,by omega⟩)
  (0:Int) ⟨0,rfl,by omega,fun j hj=>by omega⟩
 rw[ht,AB];rcases t with _|_
 exact⟨true,rfl,fun _=>aBs (hQ rfl)⟩;exact⟨false,rfl,by simp⟩
theorem Hj(n:Nat)(h:n<4294967296):(BitVec.ofInt 32 (n:Int)).toNat=n:=by simp[BitVec.toNat_ofInt];omega
theorem HP{n:Nat}(h:n<4294967296):IntKind.wrap .u32 (n:Int)=n:=by simp[IntKind.wrap,IntKind.signed,IntKind.bits];omega
theorem Mv{n m:Nat}(hn:n<4294967296)(hm:m<4294967296):AA .or .u32 (n:Int) (m:Int)=((n|||m:Nat):Int):=by have h:n|||m<2^32:=Nat.or_lt_two_pow (by simpa using hn) (by simpa using hm);show IntKind.wrap .u32 (((BitVec.ofInt 32 (n:Int))|||(BitVec.ofInt 32 (m:Int))).toNat:Int)=_;rw[BitVec.toNat_or,Hj n hn,Hj m hm];exact HP (by simpa using h)
theorem aNi{n m:Nat}(hn:n<4294967296)(hm:m<4294967296):AA .and .u32 (n:Int) (m:Int)=((n&&&m:Nat):Int):=by have h:n&&&m<2^32:=Nat.and_lt_two_pow _ (by simpa using hm);show IntKind.wrap .u32 (((BitVec.ofInt 32 (n:Int))&&&(BitVec.ofInt 32 (m:Int))).toNat:Int)=_;rw[BitVec.toNat_and,Hj n hn,Hj m hm];exact HP (by simpa using h)
theorem PY{s:Nat}(h:s<32):AA .shl .u32 1 (s:Int)=((2^s:Nat):Int):=by
 have e:(1:Int)*2^(min (Int.toNat (s:Int)) (IntKind.bits .u32))=((2^s:Nat):Int):=by rw[Int.toNat_natCast,show min s (IntKind.bits .u32)=s from Nat.min_eq_left (Nat.le_of_lt h)];simp
 show IntKind.wrap .u32 (1*2^(min (Int.toNat (s:Int)) (IntKind.bits .u32)))=_;rw[e];exact HP (Nat.lt_of_lt_of_le (Nat.pow_lt_pow_right (by decide) h) (by decide))
theorem aMs{s:Nat}(h:s<64):AA .shl .u64 1 (s:Int)=((2^s:Nat):Int):=by
 have e:(1:Int)*2^(min (Int.toNat (s:Int)) (IntKind.bits .u64))=((2^s:Nat):Int):=by rw[Int.toNat_natCast,show min s (IntKind.bits .u64)=s from Nat.min_eq_left (Nat.le_of_lt h)];simp
 show IntKind.wrap .u64 (1*2^(min (Int.toNat (s:Int)) (IntKind.bits .u64)))=_;rw[e];exact As (Nat.lt_of_lt_of_le (Nat.pow_lt_pow_right (by decide) h) (by decide))
theorem PZ{k:IntKind}{n s:Nat}(h:s<k.bits):AA .shr k (n:Int) (s:Int)=((n/2^s:Nat):Int):=by show(n:Int).fdiv (2^(min (Int.toNat (s:Int)) k.bits))=_;rw[Int.toNat_natCast,Nat.min_eq_left (Nat.le_of_lt h),Int.fdiv_eq_ediv_of_nonneg _ (Int.le_of_lt (Int.pow_pos (by decide)))];simp
theorem aZ2{k:IntKind}(n:Nat):AA .rem k (n:Int) 2=((n % 2:Nat):Int):=by show(n:Int).tmod 2=_;rw[Int.tmod_eq_emod_of_nonneg (by omega)];omega
theorem Ox(n s:Nat):n/2^s % 2=if n.testBit s=true then 1 else 0:=by have:=Nat.testBit_eq_decide_div_mod_eq (x:=n) (i:=s);rw[this];by_cases h:n/2^s % 2=1;simp[h];simp only[h,decide_false,Bool.false_eq_true,if_false];have:=Nat.mod_two_eq_zero_or_one (n/2^s);omega
theorem Ow(n s:Nat):(n&&&2^s=0)↔n.testBit s=false:=by constructor;intro h;have h2:=congrArg (fun x=>x.testBit s) h;simp only[Nat.testBit_and,Nat.testBit_two_pow_self,Bool.and_true,Nat.zero_testBit]at h2;exact h2;intro h;apply Nat.eq_of_testBit_eq;intro i;rw[Nat.testBit_and,Nat.testBit_two_pow,Nat.zero_testBit];by_cases hi:s=i;subst hi;simp[h];simp[hi]
theorem FV{α β γ τ:Type}{step:γ×Int->Option (γ×Int⊕τ)}(enc:β->γ)(l:List α)(f:β->α->β)(fin:β->τ)(I:Nat->β->Prop)
 (h1:∀(i:Nat) x w,l[i]? =some x->I i w->step (enc w,(i:Int))=some (.inl (enc (f w x),((i+1:Nat):Int)))/\I (i+1) (f w x))
 (h2:∀w,I l.length w->step (enc w,(l.length:Int))=some (.inr (fin w))) (w:β) (h0:I 0 w):AR step (enc w,0)=some (fin (l.foldl f w)):=by
 have h:=Ek (step:=step) l (fun i w=>(enc w,(i:Int))) (fun _ w x=>(.inl (f w x):β⊕τ)) fin I (fun i x w hx hI=>⟨(h1 i x w hx hI).1,fun w' hw=>by cases hw;exact(h1 i x w hx hI).2⟩) h2 (l.length+1) 0 w (by omega) (by omega) h0
 rw[show(enc w,(0:Int))=(enc w,((0:Nat):Int))from rfl,h,List.drop_zero]
 congr 1
 clear h h1 h2 h0
 generalize 0=i
 revert i w
 induction l with
 |nil=>intro w i;rfl
 |cons x xs ih=>intro w i;rw[NM];exact ih _ _
def toF(M s:Nat)(w:Nat)(t:Xr):Nat:=if t.from_=(s:Int)/\M.testBit t.symbol.toNat=true then w|||2^t.to.toNat else w
def toN(q:AD)(M s:Nat):Nat:=q.trans.foldl (toF M s) 0
def aNs(q:AD)(M s:Nat):Nat:=if toN q M s=0/\(q.states[s]?.map (·.next))=some false then 2^s else toN q M s
def LZ(q:AD)(S M:Nat)(w:Nat)(s:Nat):Nat:=if S.testBit s=true then w|||aNs q M s else w
def EP(q:AD)(S M:Nat):Nat:=(List.range q.states.length).foldl (LZ q S M) 0
theorem aT2{a b:Nat}(h1:a<4294967296)(h2:b<4294967296):a|||b<4294967296:=by have:=Nat.or_lt_two_pow (n:=32) (x:=a) (y:=b) (by simpa using h1) (by simpa using h2);simpa using this
theorem Je{s:Nat}(h:s<32):2^s<4294967296:=Nat.lt_of_lt_of_le (Nat.pow_lt_pow_right (by decide) h) (by decide)
theorem aCj{q:AD}(h8:q.states.length<=12)(hR:Ao q){M s w:Nat}{t:Xr}(ht:t∈q.trans)(hw:w<4294967296):toF M s w t<4294967296:=by unfold toF;split;have:=(hR.ends t ht).2.2;exact aT2 hw (Je (by omega));exact hw
theorem aCk{q:AD}(h8:q.states.length<=12)(hR:Ao q)(M s:Nat):toN q M s<4294967296:=by
 unfold toN;suffices∀(l:List Xr) (w:Nat),(∀t∈l,t∈q.trans)->w<4294967296->l.foldl (toF M s) w<4294967296 from this _ _ (fun _ h=>h) (by decide)
 intro l;induction l with
 |nil=>intro w _ h;exact h
 |cons t l ih=>intro w hl hw;exact ih _ (fun t h=>hl t (List.mem_cons_of_mem _ h)) (aCj h8 hR (hl t (by simp)) hw)
theorem aQw{q:AD}(h8:q.states.length<=12)(hR:Ao q)(M:Nat){s:Nat}(hs:s<q.states.length):aNs q M s<4294967296:=by unfold aNs;split;exact Je (by omega);exact aCk h8 hR M s
theorem RH{q:AD}(h8:q.states.length<=12)(hR:Ao q)(S M:Nat){w s:Nat}(hs:s<q.states.length)(hw:w<4294967296):LZ q S M w s<4294967296:=by unfold LZ;split;exact aT2 hw (aQw h8 hR M hs);exact hw
theorem RN{n i x:Nat}(h:(List.range n)[i]? =some x):x=i/\i<n:=by
 have h1:i<n:=by simpa using (List.getElem?_eq_some_iff.1 h).1
 rw[List.getElem?_range h1,oe]at h;exact⟨h.symm,h1⟩
theorem O9{q:AD}(hF:EG q)(hR:Ao q)(S M:Nat)(hM:M<18446744073709551616)(s7:Int)(s:Nat)(s14:List Xg)(s15:Int)(x:Xg):
 Rq (S:Int) (M:Int) s7 (s:Int) s14 s15 (s:Int) q.trans (q.trans.length:Int) q x 0 0=some ((toN q M s:Nat):Int):=by
 have h8:=hF.states
 have ht12:=hF.trans
 have hsy:=hF.symbols
 unfold Rq
 have:=FV (step:=fun z:Int×Int=>Gp (S:Int) (M:Int) s7 (s:Int) s14 s15 (s:Int) q.trans (q.trans.length:Int) q x z.1 z.2) (fun w:Nat=>(w:Int)) q.trans (toF M s) (fun w=>(w:Int)) (fun _ w=>w<4294967296)
  (fun i t w hx hw=>by
   have hm:=List.mem_of_getElem? hx;have he:=hR.ends t hm;refine⟨?_,aCj h8 hR hm hw⟩;obtain⟨y,hy⟩:∃y:Nat,t.symbol=(y:Int):=⟨t.symbol.toNat,by omega⟩;obtain⟨z,hz⟩:∃z:Nat,t.to=(z:Int):=⟨t.to.toNat,by omega⟩;have hy12:y<12:=by omega
   have hz12:z<12:=by omega
   have hwy:IntKind.wrap .u64 (y:Int)=(y:Int):=As (by omega);have hwz:IntKind.wrap .u64 (z:Int)=(z:Int):=As (by omega);simp only[Gp,ltD hx,AJ,aEn,AP hx,A9 hx (show q.trans.length<=9223372036854775807 by omega),UB,hy,hz,hwy,hwz,toF,Int.toNat_natCast];rw[aMs (by omega),aY7 hM (Nat.lt_of_lt_of_le (Nat.pow_lt_pow_right (by decide) (show y<64 by omega)) (by decide)),PY (by omega),Mv hw (Je (by omega))];have hb:decide (((M&&&2^y:Nat):Int)=0)= !M.testBit y:=by
    have:=Ow M y;cases hb:M.testBit y with
    |false=>have h0:=this.2 hb;rw[h0];rfl
    |true=>
     have h0:¬M&&&2^y=0:=fun h=>by have:=this.1 h;rw[hb]at this;cases this
     simp;omega
   rw[hb];by_cases hf:t.from_=(s:Int);rw[D0,if_pos hf,Av (by omega)];cases hb2:M.testBit y with
   |true=>simp only[Bool.not_true,Bool.not_false,AJ,Av (show(0:Int)<=(z:Int) by omega),AB,hf,true_and,if_true]
   |false=>simp only[Bool.not_false,Bool.not_true,AI,AB,hf,true_and,Bool.false_eq_true,if_false]
   rw[D0,if_neg hf];simp only[AI,AB,hf,false_and,if_false])
  (fun w _=>by simp only[Gp,ltI,AI]) 0 (by decide)
 exact this
theorem aVq{q:AD}(hF:EG q)(hR:Ao q){S M:Nat}(hS:S<4294967296)(hM:M<18446744073709551616):X9 q (S:Int) (M:Int)=some ((EP q S M:Nat):Int):=by
 have h8:=hF.states;have hl:(List.range q.states.length).length=q.states.length:=List.length_range;have key:=FV (step:=fun z:Int×Int=>Ew (S:Int) (M:Int) q.states (q.states.length:Int) q z.1 z.2) (fun w:Nat=>(w:Int)) (List.range q.states.length) (LZ q S M) (fun w=>(w:Int)) (fun _ w=>w<4294967296)
  (fun i s w hx hw=>by
   obtain⟨rfl,hs⟩:=RN hx;refine⟨?_,RH h8 hR S M hs hw⟩;obtain⟨x,hxs,_⟩:=Ab hs;have hws:IntKind.wrap .u64 (s:Int)=(s:Int):=As (by omega);simp only[Ew,ltD hxs,AJ,Ro,AP hxs,hws,A9 hxs (show q.states.length<=9223372036854775807 by omega),Av (show(0:Int)<=(s:Int) by omega)];rw[PY (by omega),aNi hS (Je (by omega)),O9 hF hR S M hM];have hb:decide (((S&&&2^s:Nat):Int)=0)= !S.testBit s:=by
    have:=Ow S s;cases hb:S.testBit s with
    |false=>have h0:=this.2 hb;rw[h0];rfl
    |true=>
     have h0:¬S&&&2^s=0:=fun h=>by have:=this.1 h;rw[hb]at this;cases this
     simp;omega
   rw[hb];unfold LZ aNs;rw[hxs];cases hb2:S.testBit s with
   |false=>simp only[Bool.not_false,AJ,AB,Bool.false_eq_true,if_false]
   |true=>
    have hto:=aCk h8 hR M s
    simp only[Bool.not_true,AI,AB,if_true,Option.map_some,oe]
    by_cases h0:toN q M s=0
    rw[h0]
    cases hn:x.next with
    |false=>
     simp only[Int.ofNat_zero,Int.natCast_zero,decide_true,AJ,Kq,Bool.not_false,hws,Av (show(0:Int)<=(s:Int) by omega),AB,and_self,if_true]
     rw[PY (by omega),Mv hw (Je (by omega))]
    |true=>
     simp only[Int.natCast_zero,decide_true,AJ,Kq,Bool.not_true,AI,AB,Bool.true_eq_false,and_false,if_false]
     rw[show(0:Int)=((0:Nat):Int)from rfl,Mv hw (by decide)]
    have hd:decide (((toN q M s:Nat):Int)=0)=false:=by simp;omega
    simp only[hd,AI,Kq,AB,h0,false_and,if_false]
    rw[Mv hw hto])
  (fun w _=>by rw[hl];simp only[Ew,ltI,AI]) 0 (by decide)
 unfold X9 UC;have key':AR (fun z:Int×Int=>Ew (S:Int) (M:Int) q.states (q.states.length:Int) q z.1 z.2) (0,0)=some ((EP q S M:Nat):Int):=key;rw[key',AB]
theorem PV{q:AD}(hF:EG q)(hR:Ao q)(S M:Nat)(hM:M<18446744073709551616)(s7:Int)(s:Nat):
 aGl (S:Int) (M:Int) s7 (s:Int) q 0 0=some ((toN q M s:Nat):Int):=by
 have h8:=hF.states
 have ht12:=hF.trans
 have hsy:=hF.symbols
 unfold aGl
 have:=FV (step:=fun z:Int×Int=>IO (S:Int) (M:Int) s7 (s:Int) q z.1 z.2) (fun w:Nat=>(w:Int)) q.trans (toF M s) (fun w=>(w:Int)) (fun _ w=>w<4294967296)
  (fun i t w hx hw=>by
   have hm:=List.mem_of_getElem? hx;have he:=hR.ends t hm;refine⟨?_,aCj h8 hR hm hw⟩;obtain⟨y,hy⟩:∃y:Nat,t.symbol=(y:Int):=⟨t.symbol.toNat,by omega⟩;obtain⟨z,hz⟩:∃z:Nat,t.to=(z:Int):=⟨t.to.toNat,by omega⟩;have hy12:y<12:=by omega
   have hz12:z<12:=by omega
   have hwy:IntKind.wrap .u64 (y:Int)=(y:Int):=As (by omega);have hwz:IntKind.wrap .u64 (z:Int)=(z:Int):=As (by omega);simp only[IO,ltD hx,AJ,aGi,AP hx,A9 hx (show q.trans.length<=9223372036854775807 by omega),VF,hy,hz,hwy,hwz,toF,Int.toNat_natCast];rw[PZ (k:=.u64) (s:=y) (show y<64 by omega),aZ2,Ox,PY (by omega),Mv hw (Je (by omega))];by_cases hf:t.from_=(s:Int);rw[D0,if_pos hf,Av (by omega)];cases hb2:M.testBit y with
   |true=>simp only[if_true,Int.natCast_one,decide_true,AJ,Av (show(0:Int)<=(z:Int) by omega),AB,hf,true_and]
   |false=>simp only[Bool.false_eq_true,if_false,Int.natCast_zero,show decide ((0:Int)=1)=false from rfl,AI,AB,and_false]
   rw[D0,if_neg hf];simp only[AI,AB,hf,false_and,if_false])
  (fun w _=>by simp only[IO,ltI,AI]) 0 (by decide)
 exact this
theorem aV9{q:AD}(hF:EG q)(hR:Ao q){S M:Nat}(hS:S<4294967296)(hM:M<18446744073709551616):Xn q (S:Int) (M:Int)=some ((EP q S M:Nat):Int):=by
 have h8:=hF.states;have hl:(List.range q.states.length).length=q.states.length:=List.length_range;have key:=FV (step:=fun z:Int×Int=>Gu (S:Int) (M:Int) q z.1 z.2) (fun w:Nat=>(w:Int)) (List.range q.states.length) (LZ q S M) (fun w=>(w:Int)) (fun _ w=>w<4294967296)
  (fun i s w hx hw=>by
   obtain⟨rfl,hs⟩:=RN hx;refine⟨?_,RH h8 hR S M hs hw⟩;obtain⟨x,hxs,_⟩:=Ab hs;have hws:IntKind.wrap .u64 (s:Int)=(s:Int):=As (by omega);simp only[Gu,ltD hxs,AJ,aGg,AP hxs,hws,A9 hxs (show q.states.length<=9223372036854775807 by omega),Av (show(0:Int)<=(s:Int) by omega)];rw[PZ (k:=.u32) (s:=s) (show s<32 by omega),aZ2,Ox,PV hF hR S M hM];unfold LZ aNs;rw[hxs];cases hb2:S.testBit s with
   |false=>simp only[Bool.false_eq_true,if_false,Int.natCast_zero,decide_true,AJ,AB]
   |true=>
    have hto:=aCk h8 hR M s
    simp only[if_true,Int.natCast_one,show decide ((1:Int)=0)=false from rfl,AI,AB,Option.map_some,oe]
    by_cases h0:toN q M s=0
    rw[h0]
    cases hn:x.next with
    |false=>
     simp only[Int.natCast_zero,decide_true,AJ,OH,Bool.not_false,hws,Av (show(0:Int)<=(s:Int) by omega),AB,and_self,if_true]
     rw[PY (by omega),Mv hw (Je (by omega))]
    |true=>
     simp only[Int.natCast_zero,decide_true,AJ,OH,Bool.not_true,AI,AB,Bool.true_eq_false,and_false,if_false]
     rw[show(0:Int)=((0:Nat):Int)from rfl,Mv hw (by decide)]
    have hd:decide (((toN q M s:Nat):Int)=0)=false:=by simp;omega
    simp only[hd,AI,OH,AB,h0,false_and,if_false]
    rw[Mv hw hto])
  (fun w _=>by rw[hl];simp only[Gu,ltI,AI]) 0 (by decide)
 unfold Xn aO0;have key':AR (fun z:Int×Int=>Gu (S:Int) (M:Int) q z.1 z.2) (0,0)=some ((EP q S M:Nat):Int):=key;rw[key',AB]
structure DE(q:AD):Prop where
 frees:q.frees=[]
 quants:q.quants.length<=1
 states:q.states.length<=8
 symbols:q.symbols.length<=8
 guards:∀t∈q.trans,t.guard= -1
theorem aX5{q:AD}(hF:EG q):∃r,Z4 q=some r/\(r=true->DE q):=by
 have ht:=hF.trans;obtain⟨o,ho,hQ⟩:=Am (step:=fun s=>Iu q s) q.trans.length (fun i=>∀t,q.trans[i]? =some t->t.guard= -1) (fun o=>o=Sum.inl ()->∀t∈q.trans,t.guard= -1)
  (fun i hi=>by obtain⟨x,hx,_⟩:=Ab hi;simp only[Iu,ltD hx,AJ,AP hx,A9 hx (show q.trans.length<=9223372036854775807 by omega)];by_cases h:x.guard= -1;exact .inl ⟨by rw[decide_eq_true h];rfl,fun t h2=>by rw[hx,oe]at h2;exact h2▸h⟩;exact .inr ⟨.inr (),by rw[decide_eq_false h];rfl,fun h=>by cases h⟩)
  (fun hall=>⟨.inl (),by simp only[Iu,ltI,AI],fun _=>F1 hall⟩)
 have ho':aPs q 0=some o:=ho;unfold Z4;refine BV (fun _=>⟨_,rfl,by simp⟩) (fun h1=>?_);refine BV (fun _=>⟨_,rfl,by simp⟩) (fun h2=>?_);refine BV (fun _=>⟨_,rfl,by simp⟩) (fun h3=>?_);refine BV (fun _=>⟨_,rfl,by simp⟩) (fun h4=>?_);refine Ba ho' ?_;rcases o with⟨⟩|⟨⟩
 rw[CQ];exact⟨_,rfl,fun _=>⟨List.eq_nil_of_length_eq_zero (by omega),by omega,by omega,by omega,hQ rfl⟩⟩;rw[D9];exact⟨_,rfl,by simp⟩
theorem aU3(q:AD)(b:List X2)(hb:b.length<=9223372036854775807):∃r,Qc q b=some r/\(r=true->BR b):=by unfold Qc;refine BV (fun h=>⟨_,rfl,fun _=>?_⟩) (fun _=>?_);have:b=[]:=List.eq_nil_of_length_eq_zero (by omega);subst this;exact⟨List.Pairwise.nil,by simp⟩;refine BV (fun h1=>?_) (fun _=>⟨_,rfl,by simp⟩);refine BV (fun h2=>?_) (fun _=>⟨_,rfl,by simp⟩);obtain⟨x,hx,_⟩:=Ab (l:=b) (i:=0) (by omega);obtain⟨y,hy,_⟩:=Ab (l:=q.quants) (i:=0) (by omega);rw[show(0:Int)=((0:Nat):Int)from rfl,AP hx];refine BV (fun h3=>?_) (fun _=>⟨_,rfl,by simp⟩);rw[AP hx,AP hy];refine BV (fun h4=>?_) (fun _=>⟨_,rfl,by simp⟩);obtain⟨r,hr,hR⟩:=M2 b hb;exact Ba hr ⟨_,rfl,hR⟩
theorem KP:∀(al:List Bz) (xs:List X0) (b:List X2) (p:List X2×List X2),(∀a∈al,a.kind≠3)->HZ al xs b []=some p->p.2=[]
 |[],xs,b,p,_,h=>by
  cases xs<;>(simp only[HZ,oe]at h;subst h;rfl)
 |a::al,[],b,p,_,h=>by simp only[HZ,oe]at h;subst h;rfl
 |a::al,x::xs,b,p,hk,h=>by
  have ih:=fun b' h'=>KP al xs b' p (fun a ha=>hk a (List.mem_cons_of_mem _ ha)) h';rw[HZ]at h;split at h;split at h;exact ih _ h;cases h;split at h;split at h;cases h;exact ih _ h;split at h;exact absurd (by assumption) (hk a (by simp));exact ih _ h
theorem aAz{q:AD}(hR:Ao q)(hS:DE q){e:Xd}{i:Nat}{h:Ap}(hh:JO q i e=some h):h.frees=[]:=by unfold JO at hh;split at hh;cases hh;rename_i s hs;split at hh;cases hh;split at hh;rw[om]at hh;obtain⟨p,hp,rfl⟩:=hh;refine KP _ _ _ _ (fun a ha h3=>?_) hp;have:=((hR.symbols s (List.mem_of_getElem? hs)).args a ha).three h3;rw[hS.frees]at this;simp at this;omega;cases hh
structure aUw(l:List Ap):Prop where
 frees:∀h∈l,h.frees=[]
 rise:l.Pairwise fun a b=>a.symbol<b.symbol
 len:l.length<=1000
def ga(w:List Int)(i:Nat):Int:=w.getD i 0
def swp(w:List Int)(i j:Nat):List Int:=(w.set i (ga w j)).set j (ga w i)
theorem B1(w:List Int)(i j:Nat):(swp w i j).length=w.length:=by unfold swp;rw[List.length_set,List.length_set]
theorem Es{w:List Int}{i j:Nat}(hi:i<w.length)(hj:j<w.length)(k:Nat):ga (swp w i j) k=if k=j then ga w i else if k=i then ga w j else ga w k:=by unfold swp ga;simp only[List.getD_eq_getElem?_getD,List.getElem?_set,List.length_set];by_cases h1:k=j;subst h1;simp[hj];rw[if_neg (fun e=>h1 e.symm),if_neg h1];by_cases h2:k=i;subst h2;simp[hi];rw[if_neg (fun e=>h2 e.symm),if_neg h2]
theorem JK{w:List Int}{i:Nat}(h:i<w.length):w[i]=ga w i:=by unfold ga;simp[h]
theorem aMx{w:List Int}{i j:Nat}(hi:i<w.length)(hj:j<w.length):(swp w i j).Perm w:=by have:=List.set_set_perm hi hj;rw[JK hi,JK hj]at this;exact this
structure Pm(a b:Nat)(w w':List Int):Prop where
 perm:w'.Perm w
 out:∀i,i<a\/b<=i->ga w' i=ga w i
 src:∀j,a<=j->j<b->∃i,a<=i/\i<b/\ga w' j=ga w i
theorem Pm.len{a b:Nat}{w w':List Int}(h:Pm a b w w'):w'.length=w.length:=h.perm.length_eq
theorem Pm.refl(a b:Nat)(w:List Int):Pm a b w w:=⟨List.Perm.refl _,fun _ _=>rfl,fun j h1 h2=>⟨j,h1,h2,rfl⟩⟩
theorem Pm.trans{a b:Nat}{w w1 w2:List Int}(h:Pm a b w w1)(k:Pm a b w1 w2):Pm a b w w2:=
 ⟨k.perm.trans h.perm,fun i hi=>(k.out i hi).trans (h.out i hi),fun j h1 h2=>by obtain⟨i,a1,a2,a3⟩:=k.src j h1 h2;obtain⟨i2,b1,b2,b3⟩:=h.src i a1 a2;exact⟨i2,b1,b2,a3.trans b3⟩⟩
theorem Pm.mono{a b a' b':Nat}{w w1:List Int}(h:Pm a b w w1)(h1:a'<=a)(h2:b<=b'):Pm a' b' w w1:=
 ⟨h.perm,fun i hi=>h.out i (by omega),fun j j1 j2=>by by_cases hj:a<=j/\j<b;obtain⟨i,a1,a2,a3⟩:=h.src j hj.1 hj.2;exact⟨i,by omega,by omega,a3⟩;exact⟨j,j1,j2,h.out j (by omega)⟩⟩
theorem Pm.swp{a b:Nat}{w:List Int}{i j:Nat}(hi:a<=i/\i<b)(hj:a<=j/\j<b)(hb:b<=w.length):Pm a b w (swp w i j):=by
 have h1:i<w.length:=by omega
 have h2:j<w.length:=by omega
 refine⟨aMx h1 h2,fun k hk=>?_,fun k k1 k2=>?_⟩;rw[Es h1 h2,if_neg (by omega),if_neg (by omega)];rw[Es h1 h2];split;exact⟨i,hi.1,hi.2,rfl⟩;split;exact⟨j,hj.1,hj.2,rfl⟩;exact⟨k,k1,k2,rfl⟩
section
variable {β:Type}
theorem Et{w:List Int}{n:Nat}(h:n<w.length)(k:Int->Option β):AU w (n:Int) k=k (ga w n):=by refine AP ?_ k;rw[List.getElem?_eq_getElem h,JK h]
theorem FN{w:List Int}{n:Nat}(h:n<w.length)(k:Option β):AV (0<=(n:Int)/\(n:Int)+1<=(w.length:Int)) k=k:=Av ⟨by omega,by omega⟩ k
theorem ltT{i j:Nat}(h:i<j)(x y:Option β):AE (decide ((i:Int)<(j:Int))) x y=x:=by rw[decide_eq_true (by omega)];rfl
theorem ltF{i j:Nat}(h:¬i<j)(x y:Option β):AE (decide ((i:Int)<(j:Int))) x y=y:=by rw[decide_eq_false (by omega)];rfl
theorem leT{i j:Nat}(h:i<=j)(x y:Option β):AE (decide ((i:Int)<=(j:Int))) x y=x:=by rw[decide_eq_true (by omega)];rfl
theorem leF{i j:Nat}(h:¬i<=j)(x y:Option β):AE (decide ((i:Int)<=(j:Int))) x y=y:=by rw[decide_eq_false (by omega)];rfl
end
theorem GY{n:Nat}(h:n<=4611686018427387904):AA .add .i64 (n:Int) 1=((n+1:Nat):Int):=M9 (by omega)
theorem Do{n:Nat}(h:1<=n/\n<=4611686018427387904):AA .sub .i64 (n:Int) 1=((n-1:Nat):Int):=by rw[TD (by omega) (by omega)];omega
theorem QJ{n m:Nat}(h:n+m<=4611686018427387904):AA .add .i64 (n:Int) (m:Int)=((n+m:Nat):Int):=by rw[MC (by omega) (by omega)];omega
theorem aCe{n m:Nat}(h:m<=n/\n<=4611686018427387904):AA .sub .i64 (n:Int) (m:Int)=((n-m:Nat):Int):=by rw[TD (by omega) (by omega)];omega
theorem By(a b:Int):Yh a b=some (decide (a<b)):=by unfold Yh Q9;simp[AG,AE]
theorem aZe(a i:Nat)(s2 s6:Int):∀(j:Nat) (w:List Int),w.length<=1000000->i<w.length->a<=j->j<=i->(∀p q,a<=p->p<q->q<=i->q≠j->ga w p<=ga w q)->
 ∃w',SL (a:Int) s2 s6 (j:Int) w=some w'/\Pm a (i+1) w w'/\∀p q,a<=p->p<q->q<=i->ga w' p<=ga w' q:=by
 intro j
 induction j with
 |zero=>
  intro w hl hi ha hj hs
  refine⟨w,?_,Pm.refl _ _ _,fun p q h1 h2 h3=>hs p q h1 h2 h3 (by omega)⟩
  rw[QB]
  unfold Ey
  rw[ltF (by omega),Ae]
 |succ j ih=>
  intro w hl hi ha hj hs
  rw[QB]
  by_cases h0:a<j+1
  by_cases h1:ga w (j+1)<ga w j
  have hp:=Pm.swp (a:=a) (b:=i+1) (w:=w) (i:=j+1) (j:=j) ⟨by omega,by omega⟩ ⟨by omega,by omega⟩ (by omega)
  have hg:=Es (w:=w) (i:=j+1) (j:=j) (by omega) (by omega)
  obtain⟨w',e1,e2,e3⟩:=ih (swp w (j+1) j) (by rw[B1];omega) (by rw[B1];omega) (by omega) (by omega) (fun p q p1 p2 p3 p4=>by have b1:=hs p q p1 p2 p3;have b2:=hs p (j+1) p1;have b3:=hs p j p1;have b4:=hs (j+1) q (by omega);have b5:=hs j q (by omega);rw[hg,hg];by_cases c1:p=j;rw[if_pos c1];by_cases c2:q=j+1;rw[if_neg (by omega),if_pos c2];omega;rw[if_neg (by omega),if_neg c2];exact b4 (by omega) p3 c2;rw[if_neg c1];by_cases c2:p=j+1;rw[if_pos c2,if_neg (by omega),if_neg (by omega)];exact b5 (by omega) p3 (by omega);rw[if_neg c2];by_cases c3:q=j+1;rw[if_neg (by omega),if_pos c3];exact b3 (by omega) (by omega) (by omega);rw[if_neg (by omega),if_neg c3];exact b1 c3)
  refine⟨w',?_,hp.trans e2,e3⟩
  rw[<-e1]
  unfold Ey
  rw[ltT h0]
  simp (disch:=omega) only[Do,Nat.add_sub_cancel,FN,Et,By,AB,h1,decide_true,AJ,List.length_set,Int.toNat_natCast,BF]
  rfl
  refine⟨w,?_,Pm.refl _ _ _,fun p q p1 p2 p3=>?_⟩
  unfold Ey
  rw[ltT h0]
  simp (disch:=omega) only[Do,Nat.add_sub_cancel,FN,Et,By,AB,h1,decide_false,AI,Ae]
  by_cases hq:q=j+1
  subst hq
  by_cases hpj:p=j
  subst hpj;omega
  have:=hs p j p1 (by omega) (by omega) (by omega)
  omega
  exact hs p q p1 p2 p3 hq
  refine⟨w,?_,Pm.refl _ _ _,fun p q p1 p2 p3=>hs p q p1 p2 p3 (by omega)⟩
  unfold Ey
  rw[ltF h0,Ae]
def So(a b:Nat)(w:List Int):Prop:=∀p q,a<=p->p<q->q<b->ga w p<=ga w q
theorem aZd(a b:Nat):∀(m i:Nat) (w:List Int),b<=i+m->w.length<=1000000->b<=w.length->a<i->So a i w->
 ∃w',SK (a:Int) (b:Int) (i:Int) w=some w'/\Pm a b w w'/\So a b w':=by
 intro m
 induction m with
 |zero=>
  intro i w hm hl hb ha hs
  refine⟨w,?_,Pm.refl _ _ _,fun p q h1 h2 h3=>hs p q h1 h2 (by omega)⟩
  rw[QA]
  unfold Gz
  rw[ltF (by omega),Ae]
 |succ m ih=>
  intro i w hm hl hb ha hs
  rw[QA]
  unfold Gz
  by_cases h0:i<b
  obtain⟨w1,e1,e2,e3⟩:=aZe a i (b:Int) (i:Int) i w hl (by omega) (by omega) (by omega) (fun p q h1 h2 h3 h4=>hs p q h1 h2 (by omega))
  obtain⟨w2,f1,f2,f3⟩:=ih (i+1) w1 (by omega) (by rw[e2.len];exact hl) (by rw[e2.len];exact hb) (by omega) (fun p q h1 h2 h3=>e3 p q h1 h2 (by omega))
  refine⟨w2,?_,(e2.mono (by omega) (by omega)).trans f2,f3⟩
  rw[ltT h0,e1,AB,GY (by omega),BF]
  exact f1
  refine⟨w,by rw[ltF h0,Ae],Pm.refl _ _ _,fun p q h1 h2 h3=>hs p q h1 h2 (by omega)⟩
theorem aZf(a b:Nat)(w:List Int)(hl:w.length<=1000000)(hb:b<=w.length)(hab:a<=b):∃w',Y2 (a:Int) (b:Int) w=some w'/\Pm a b w w'/\So a b w':=by obtain⟨w',e1,e2,e3⟩:=aZd a b b (a+1) w (by omega) hl hb (by omega) (fun p q h1 h2 h3=>by omega);refine⟨w',?_,e2,e3⟩;unfold Y2;rw[GY (by omega),e1,AB]
theorem Mr{n:Nat}(h:2*n<=4611686018427387904):AA .mul .i64 2 (n:Int)=((2*n:Nat):Int):=by rw[aT0 (by omega) (by omega)];omega
theorem aT9{n k:Nat}(h:n<=4611686018427387904):AA .quo .i64 (n:Int) (k:Int)=((n/k:Nat):Int):=by show IntKind.wrap .i64 ((n:Int).tdiv (k:Int))=_;rw[<-Int.ofNat_tdiv];have:n/k<=n:=Nat.div_le_self _ _;generalize n/k=d at*;exact aRn (by omega) (by omega)
def Ch(k c:Nat):Prop:=c=2*k+1\/c=2*k+2
def HpX(f lo hi r:Nat)(w:List Int):Prop:=∀k c,lo<=k->Ch k c->c<hi->k≠r->ga w (f+c)<=ga w (f+k)
def Hp(f lo hi:Nat)(w:List Int):Prop:=∀k c,lo<=k->Ch k c->c<hi->ga w (f+c)<=ga w (f+k)
theorem aRg(f lo hi:Nat):∀(m r:Nat) (w:List Int),hi<=r+m->lo<=r->r<=1000000->w.length<=1000000->f+hi<=w.length->HpX f lo hi r w->
 (∀k c,lo<=k->Ch k r->Ch r c->c<hi->ga w (f+c)<=ga w (f+k))->
 ∃w' o,SC (hi:Int) (f:Int) (r:Int) w=some o/\(o=.inl w'\/o=.inr w')/\Pm (f+lo) (f+hi) w w'/\Hp f lo hi w':=by
 intro m
 induction m with
 |zero=>
  intro r w hm hr hr1 hl hf hH hG
  refine⟨w,_,?_,.inl rfl,Pm.refl _ _ _,fun k c h1 h2 h3=>hH k c h1 h2 h3 (by unfold Ch at h2;omega)⟩
  rw[P3]
  unfold EY Jv
  simp (disch:=omega) only[Mr,GY,leT,AB,D9,CQ,Ae]
 |succ m ih=>
  intro r w hm hr hr1 hl hf hH hG
  rw[P3]
  by_cases h0:hi<=2*r+1
  refine⟨w,_,?_,.inl rfl,Pm.refl _ _ _,fun k c h1 h2 h3=>hH k c h1 h2 h3 (by unfold Ch at h2;omega)⟩
  unfold EY Jv
  simp (disch:=omega) only[Mr,GY,leT,AB,D9,CQ,Ae]
  have key:∃c2,Ch r c2/\c2<hi/\(∀c,Ch r c->c<hi->ga w (f+c)<=ga w (f+c2))/\
   EY (hi:Int) (f:Int) (r:Int) w=(if ga w (f+r)<ga w (f+c2)then some (.inl ((c2:Int),swp w (f+r) (f+c2)))else some (.inr (.inr w))):=by
   by_cases h1:2*r+2<hi
   by_cases h2:ga w (f+(2*r+1))<ga w (f+(2*r+2))
   refine⟨2*r+2,.inr rfl,h1,fun c hc hch=>by rcases hc with rfl|rfl<;>omega,?_⟩
   unfold EY Jv Ky
   have h2':ga w (f+(2*r+1))<ga w (f+(2*r+1)+1):=h2
   by_cases h3:ga w (f+r)<ga w (f+(2*r+2))
   have h3':ga w (f+r)<ga w (f+(2*r+1+1)):=h3
   rw[if_pos h3]
   simp (disch:=omega) only[Mr,GY,QJ,leF,ltT,FN,Et,By,AB,h2',h3',decide_true,Bool.not_true,AJ,AI,List.length_set,Int.toNat_natCast,CQ]
   rfl
   have h3':¬ga w (f+r)<ga w (f+(2*r+1+1)):=h3
   rw[if_neg h3]
   simp (disch:=omega) only[Mr,GY,QJ,leF,ltT,FN,Et,By,AB,h2',h3',decide_true,decide_false,Bool.not_false,AJ,AI,List.length_set,Int.toNat_natCast,CQ,D9]
   refine⟨2*r+1,.inl rfl,by omega,fun c hc hch=>by rcases hc with rfl|rfl<;>omega,?_⟩
   unfold EY Jv Ky
   have h2':¬ga w (f+(2*r+1))<ga w (f+(2*r+1)+1):=h2
   by_cases h3:ga w (f+r)<ga w (f+(2*r+1))
   rw[if_pos h3]
   simp (disch:=omega) only[Mr,GY,QJ,leF,ltT,FN,Et,By,AB,h2',h3,decide_true,decide_false,Bool.not_true,AJ,AI,List.length_set,Int.toNat_natCast,CQ]
   rfl
   rw[if_neg h3]
   simp (disch:=omega) only[Mr,GY,QJ,leF,ltT,FN,Et,By,AB,h2',h3,decide_true,decide_false,Bool.not_false,AJ,AI,List.length_set,Int.toNat_natCast,CQ,D9]
   refine⟨2*r+1,.inl rfl,by omega,fun c hc hch=>by rcases hc with rfl|rfl<;>omega,?_⟩
   unfold EY Jv Ky
   by_cases h3:ga w (f+r)<ga w (f+(2*r+1))
   rw[if_pos h3]
   simp (disch:=omega) only[Mr,GY,QJ,leF,ltF,FN,Et,By,AB,h3,decide_true,decide_false,Bool.not_true,AJ,AI,List.length_set,Int.toNat_natCast,CQ]
   rfl
   rw[if_neg h3]
   simp (disch:=omega) only[Mr,GY,QJ,leF,ltF,FN,Et,By,AB,h3,decide_true,decide_false,Bool.not_false,AJ,AI,List.length_set,Int.toNat_natCast,CQ,D9]
  obtain⟨c2,hc2,hc2h,hmax,hstep⟩:=key
  rw[hstep]
  have hrc:r<c2:=by unfold Ch at hc2;omega
  by_cases h3:ga w (f+r)<ga w (f+c2)
  rw[if_pos h3,BF]
  have hg:=Es (w:=w) (i:=f+r) (j:=f+c2) (by omega) (by omega)
  have er:ga (swp w (f+r) (f+c2)) (f+r)=ga w (f+c2):=by rw[hg,if_neg (by omega),if_pos rfl]
  have ec:ga (swp w (f+r) (f+c2)) (f+c2)=ga w (f+r):=by rw[hg,if_pos rfl]
  have en:∀x,x≠r->x≠c2->ga (swp w (f+r) (f+c2)) (f+x)=ga w (f+x):=fun x h1 h2=>by rw[hg,if_neg (by omega),if_neg (by omega)]
  obtain⟨w',o,e1,e2,e3,e4⟩:=ih c2 (swp w (f+r) (f+c2)) (by omega) (by omega) (by omega) (by rw[B1];exact hl) (by rw[B1];exact hf)
   (fun k c h1 h2 h4 h5=>by by_cases k1:k=r;subst k1;by_cases k2:c=c2;subst k2;rw[ec,er];omega;rw[er,en c (by unfold Ch at h2;omega) k2];exact hmax c h2 h4;rw[en k k1 h5];by_cases k2:c=r;subst k2;rw[er];exact hG k c2 h1 h2 hc2 hc2h;by_cases k3:c=c2;exfalso;unfold Ch at h2 hc2;omega;rw[en c k2 k3];exact hH k c h1 h2 h4 k1)
   (fun k c h1 h2 h4 h5=>by
    have:k=r:=by unfold Ch at h2 hc2;omega
    subst this;rw[er,en c (by unfold Ch at h4;omega) (by unfold Ch at h4;omega)];exact hH c2 c (by omega) h4 h5 (by omega))
  exact⟨w',o,e1,e2,(Pm.swp ⟨by omega,by omega⟩ ⟨by omega,by omega⟩ hf).trans e3,e4⟩
  rw[if_neg h3,Ae]
  refine⟨w,_,rfl,.inr rfl,Pm.refl _ _ _,fun k c h1 h2 h4=>?_⟩
  by_cases k1:k=r
  subst k1;have:=hmax c h2 h4;omega
  exact hH k c h1 h2 h4 k1
theorem aB8{f lo hi:Nat}{w:List Int}(hl:w.length<=1000000)(hf:f+hi<=w.length)(hr:lo<=1000000)(hH:HpX f lo hi lo w):
 ∃w',Xw (lo:Int) (hi:Int) (f:Int) w=some w'/\Pm (f+lo) (f+hi) w w'/\Hp f lo hi w':=by
 obtain⟨w',o,e1,e2,e3,e4⟩:=aRg f lo hi hi lo w (by omega) (Nat.le_refl _) hr hl hf hH (fun k c h1 h2 h3 h4=>by unfold Ch at h2;omega)
 refine⟨w',?_,e3,e4⟩
 unfold Xw
 rw[e1,AB]
 rcases e2 with rfl|rfl<;>rfl
theorem aQ0(f hi:Nat):∀(m:Nat) (w:List Int),w.length<=1000000->f+hi<=w.length->m<=1000000->Hp f m hi w->
 ∃w',SM (f:Int) 0 (hi:Int) ((m:Int)-1) w=some w'/\Pm f (f+hi) w w'/\Hp f 0 hi w':=by
 intro m
 induction m with
 |zero=>
  intro w hl hf hm hH
  refine⟨w,?_,Pm.refl _ _ _,hH⟩
  rw[QD]
  unfold G1
  rw[decide_eq_false (by omega),AI,Ae]
 |succ m ih=>
  intro w hl hf hm hH
  obtain⟨w1,e1,e2,e3⟩:=aB8 (f:=f) (lo:=m) (hi:=hi) hl hf (by omega) (fun k c h1 h2 h3 h4=>hH k c (by omega) h2 h3)
  obtain⟨w2,f1,f2,f3⟩:=ih w1 (by rw[e2.len];exact hl) (by rw[e2.len];exact hf) (by omega) e3
  refine⟨w2,?_,(e2.mono (by omega) (by omega)).trans f2,f3⟩
  rw[QD]
  unfold G1
  rw[show(((m+1:Nat):Int)-1)=(m:Int) by omega,decide_eq_true (by omega),AJ,e1,AB,TD (by omega) (by omega),BF]
  exact f1
theorem aLz{f hi:Nat}{w:List Int}(h:Hp f 0 hi w):∀k,k<hi->ga w (f+k)<=ga w f:=by
 intro k;induction k using Nat.strongRecOn with
 |ind k ih=>
  intro hk
  by_cases h0:k=0
  subst h0;exact Int.le_refl _
  have h1:=h ((k-1)/2) k (by omega) (by unfold Ch;omega) hk
  have h2:=ih ((k-1)/2) (by omega) (by omega)
  omega
theorem aQ1(f hi:Nat):∀(m:Nat) (w:List Int),w.length<=1000000->f+hi<=w.length->m<=hi->Hp f 0 m w->(∀p q,p<q->q<hi->m<=q->ga w (f+p)<=ga w (f+q))->
 ∃w',SN (f:Int) 0 ((m:Int)-1) w=some w'/\Pm f (f+hi) w w'/\∀p q,p<q->q<hi->ga w' (f+p)<=ga w' (f+q):=by
 intro m
 induction m with
 |zero=>
  intro w hl hf hm hH hs
  refine⟨w,?_,Pm.refl _ _ _,fun p q h1 h2=>hs p q h1 h2 (by omega)⟩
  rw[QE]
  unfold G2
  rw[decide_eq_false (by omega),AI,Ae]
 |succ m ih=>
  intro w hl hf hm hH hs
  have hg:=Es (w:=w) (i:=f) (j:=f+m) (by omega) (by omega)
  have hmx:=aLz hH
  obtain⟨w1,e1,e2,e3⟩:=aB8 (f:=f) (lo:=0) (hi:=m) (w:=swp w f (f+m)) (by rw[B1];exact hl) (by rw[B1];omega) (by omega) (fun k c h1 h2 h3 h4=>by
   have:0<c:=by unfold Ch at h2;omega
   have:=hH k c h1 h2 (by omega);by_cases km:k=m;unfold Ch at h2;omega;rw[hg,hg,if_neg (by omega),if_neg (by omega),if_neg (by omega),if_neg (by omega)];exact this)
  rw[Nat.add_zero]at e2
  have hsw:Pm f (f+(m+1)) w (swp w f (f+m)):=Pm.swp ⟨by omega,by omega⟩ ⟨by omega,by omega⟩ (by omega)
  have hpm:=hsw.trans (e2.mono (Nat.le_refl _) (by omega))
  obtain⟨w2,f1,f2,f3⟩:=ih w1 (by rw[hpm.len];exact hl) (by rw[hpm.len];exact hf) (by omega) e3 (fun p q h1 h2 h3=>by
   have hp':∀p,p<m+1->∃p',p'<m+1/\ga w1 (f+p)=ga w (f+p'):=fun p hp=>by obtain⟨i,i1,i2,i3⟩:=hpm.src (f+p) (by omega) (by omega);exact⟨i-f,by omega,by rw[i3];congr 1;omega⟩
   by_cases hq:q=m;subst hq;have eq1:ga w1 (f+q)=ga w f:=by rw[e2.out (f+q) (by omega),hg,if_pos rfl]
   obtain⟨p',p1,p2⟩:=hp' p (by omega);rw[eq1,p2];exact hmx p' p1;have eq1:ga w1 (f+q)=ga w (f+q):=hpm.out _ (by omega);rw[eq1];by_cases hpm1:p<m+1;obtain⟨p',p1,p2⟩:=hp' p hpm1;rw[p2];exact hs p' q (by omega) h2 (by omega);rw[hpm.out (f+p) (by omega)];exact hs p q h1 h2 (by omega))
  refine⟨w2,?_,(hpm.mono (by omega) (by omega)).trans f2,f3⟩
  rw[QE]
  unfold G2
  rw[show(((m+1:Nat):Int)-1)=(m:Int) by omega,decide_eq_true (by omega),AJ]
  simp (disch:=omega) only[QJ,FN,Et,List.length_set,Int.toNat_natCast]
  have e1':Xw 0 (m:Int) (f:Int) ((w.set f (ga w (f+m))).set (f+m) (ga w f))=some w1:=e1
  rw[e1',AB,TD (by omega) (by omega),BF]
  exact f1
theorem aQ2(a b:Nat)(w:List Int)(hl:w.length<=1000000)(hb:b<=w.length)(hab:a<b):∃w',Y4 (a:Int) (b:Int) w=some w'/\Pm a b w w'/\So a b w':=by
 obtain⟨w1,e1,e2,e3⟩:=aQ0 a (b-a) ((b-a-1)/2+1) w hl (by omega) (by omega) (fun k c h1 h2 h3=>by unfold Ch at h2;omega);obtain⟨w2,f1,f2,f3⟩:=aQ1 a (b-a) (b-a) w1 (by rw[e2.len];exact hl) (by rw[e2.len];omega) (Nat.le_refl _) e3 (fun p q h1 h2 h3=>by omega);have hab':a+(b-a)=b:=by omega
 rw[hab']at e2 f2;refine⟨w2,?_,e2.trans f2,fun p q h1 h2 h3=>?_⟩;unfold Y4;rw[aCe (by omega),Do (by omega)];have hq:AA .quo .i64 ((b-a-1:Nat):Int) 2=(((b-a-1)/2:Nat):Int):=aT9 (k:=2) (by omega);rw[hq];rw[show((((b-a-1)/2+1:Nat):Int)-1)=(((b-a-1)/2:Nat):Int) by omega]at e1;rw[show(((b-a:Nat):Int)-1)=((b-a-1:Nat):Int) by omega]at f1;rw[e1,AB,f1,AB];have:=f3 (p-a) (q-a) (by omega) (by omega);rw[show a+(p-a)=p by omega,show a+(q-a)=q by omega]at this;exact this
theorem aUa(a b:Nat):∀(m i j:Nat) (w:List Int),j<=i+m->a<=i->j<=b->w.length<=1000000->b<=w.length->i<=1000000->
 ∃w',SS (i:Int) ((j:Int)-1) w=some w'/\Pm a b w w':=by
 intro m
 induction m using Nat.strongRecOn with
 |ind m ih=>
  intro i j w hm ha hj hl hb hi
  rw[aKe]
  unfold Ip
  by_cases h0:i+1<j
  have hs:Pm a b w (swp w i (j-1)):=Pm.swp ⟨by omega,by omega⟩ ⟨by omega,by omega⟩ hb
  obtain⟨w',e1,e2⟩:=ih (m-2) (by omega) (i+1) (j-1) (swp w i (j-1)) (by omega) (by omega) (by omega) (by rw[B1];exact hl) (by rw[B1];exact hb) (by omega)
  refine⟨w',?_,hs.trans e2⟩
  rw[show((j:Int)-1)=((j-1:Nat):Int) by omega]
  rw[show(((j-1:Nat):Int)-1)=((j-1-1:Nat):Int) by omega]at e1
  rw[<-e1]
  simp (disch:=omega) only[ltT,FN,Et,GY,Do,List.length_set,Int.toNat_natCast,BF]
  rfl
  refine⟨w,?_,Pm.refl _ _ _⟩
  rw[decide_eq_false (by omega),AI,Ae]
theorem aUb(a b:Nat)(w:List Int)(hl:w.length<=1000000)(hb:b<=w.length)(hab:a<=b):∃w',Yv (a:Int) (b:Int) w=some w'/\Pm a b w w':=by obtain⟨w',e1,e2⟩:=aUa a b b a b w (by omega) (Nat.le_refl _) (Nat.le_refl _) hl hb (by omega);refine⟨w',?_,e2⟩;unfold Yv;rw[TD (by omega) (by omega),e1,AB]
def l8:List UInt8:=[0,1,2,2,3,3,3,3,4,4,4,4,4,4,4,4,5,5,5,5,5,5,5,5,5,5,5,5,5,5,5,5,6,6,6,6,6,6,6,6,6,6,6,6,6,6,6,6,6,6,6,6,6,6,6,6,6,6,6,6,6,6,6,6]++List.replicate 64 7++List.replicate 128 8
theorem aTw:∀n,n<256->∃c:UInt8,l8[n]? =some c/\c.toNat<=8/\n<2^c.toNat/\(0<n->2^c.toNat<=2*n):=by
 have key:((List.range 256).all fun n=>match l8[n]? with
  |some c=>decide (c.toNat<=8)&&decide (n<2^c.toNat)&&(decide (n=0)||decide (2^c.toNat<=2*n))
  |none=>false)=true:=by kernel_rfl
 intro n hn;have h:=(List.all_eq_true.1 key) n (List.mem_range.2 hn);revert h;cases l8[n]? with
 |none=>intro h;cases h
 |some c=>
  intro h
  simp only[ba,Bool.or_eq_true,decide_eq_true_eq]at h
  exact⟨c,rfl,h.1.1,h.1.2,fun h0=>by rcases h.2 with h2|h2<;>omega⟩
theorem aQ6(a0:Int):Yy a0=(AG (XS a0 0 (decide (4294967296<=a0))) fun o1=>AG (XT o1.1 o1.2 (decide (65536<=o1.1))) fun o2=>AG (XU o2.1 o2.2 (decide (256<=o2.1))) fun o3=>
 AU l8 ((u8w o3.1).toNat:Int) fun x4=>some (AA .add .i64 o3.2 (x4.toNat:Int))):=by kernel_rfl
theorem aM7{n:Nat}(hn:n<65536):∃k:Nat,Q8 ((n:Nat):Int)=some (k:Int)/\k<=16/\n<2^k/\(0<n->2^k<=2*n):=by unfold Q8;rw[aQ6];unfold XS XT XU;rw[decide_eq_false (by omega),AI,AB,decide_eq_false (by simp only;omega),AI,AB];simp only;by_cases h:256<=n;obtain⟨c,e1,e2,e3,e4⟩:=aTw (n/256) (by omega);refine⟨8+c.toNat,?_,by omega,?_,fun _=>?_⟩;rw[decide_eq_true (by omega),AJ,AB];simp only;have hs:AA .shr .u64 (n:Int) 8=((n/2^8:Nat):Int):=aZ3 (k:=8) (by decide);rw[hs,show(n/2^8)=n/256 from rfl,aCn (by omega)];rw[AP (xs:=l8) e1,AB,MC (a:=0) (b:=8) (by omega) (by omega),MC (by omega) (by omega)];simp;rw[Nat.pow_add];omega;rw[Nat.pow_add];have:=e4 (by omega);omega;obtain⟨c,e1,e2,e3,e4⟩:=aTw n (by omega);refine⟨c.toNat,?_,by omega,e3,e4⟩;rw[decide_eq_false (by omega),AI,AB];simp only;rw[aCn (by omega)];rw[AP (xs:=l8) e1,AB,MC (by omega) (by omega)];simp
theorem aQd(x k:Nat)(hk:k<=62)(hx:x<18446744073709551616):AA .and .u64 (x:Int) (AA .sub .u64 ((2^k:Nat):Int) 1)=((x % 2^k:Nat):Int):=by
 have hp:2^k<=2^62:=Nat.pow_le_pow_right (by decide) hk;have hp0:0<2^k:=Nat.two_pow_pos k;have hs:AA .sub .u64 ((2^k:Nat):Int) 1=((2^k-1:Nat):Int):=by show IntKind.wrap .u64 (((2^k:Nat):Int)-1)=_;rw[show((2^k:Nat):Int)-1=((2^k-1:Nat):Int) by omega];exact As (by omega)
 rw[hs,aY7 hx (by omega),Nat.and_two_pow_sub_one_eq_mod]
theorem S1{n:Nat}(hn:n<65536):∃k:Nat,Qe (n:Int)=some ((2^k:Nat):Int)/\k<=16/\n<2^k/\(0<n->2^k<=2*n):=by obtain⟨k,e1,e2,e3,e4⟩:=aM7 hn;refine⟨k,?_,e2,e3,e4⟩;unfold Qe;rw[As (by omega),e1,AB,Av (by omega)];have hs:AA .shl .u64 1 (k:Int)=((1*2^k % 18446744073709551616:Nat):Int):=bAg (n:=1) (by omega);have hp:2^k<=2^62:=Nat.pow_le_pow_right (by decide) (by omega);rw[hs,Nat.one_mul,Nat.mod_eq_of_lt (by omega)]
theorem aRo{x:Nat}(hx:x<18446744073709551616):∃y:Nat,Qf (x:Int)=some ((y:Int),(y:Int))/\y<18446744073709551616:=by have h1:∀(a k:Nat),k<=64->∃b:Nat,AA .shl .u64 (a:Int) (k:Int)=(b:Int)/\b<18446744073709551616:=fun a k hk=>⟨_,bAg hk,Nat.mod_lt _ (by decide)⟩;have h2:∀(a k:Nat),k<=64->a<18446744073709551616->∃b:Nat,AA .shr .u64 (a:Int) (k:Int)=(b:Int)/\b<18446744073709551616:=fun a k hk ha=>⟨_,aZ3 hk,Nat.lt_of_le_of_lt (Nat.div_le_self _ _) ha⟩;have h3:∀(a b:Nat),a<18446744073709551616->b<18446744073709551616->∃c:Nat,AA .xor .u64 (a:Int) (b:Int)=(c:Int)/\c<18446744073709551616:=fun a b ha hb=>⟨_,bAn ha hb,Nat.xor_lt_two_pow (n:=64) ha hb⟩;obtain⟨a1,e1,f1⟩:=h1 x 13 (by decide);obtain⟨a2,e2,f2⟩:=h3 x a1 hx f1;obtain⟨a3,e3,f3⟩:=h2 a2 7 (by decide) f2;obtain⟨a4,e4,f4⟩:=h3 a2 a3 f2 f3;obtain⟨a5,e5,f5⟩:=h1 a4 17 (by decide);obtain⟨a6,e6,f6⟩:=h3 a4 a5 f4 f5;refine⟨a6,?_,f6⟩;have e1':AA .shl .u64 (x:Int) 13=(a1:Int):=e1;have e3':AA .shr .u64 (a2:Int) 7=(a3:Int):=e3;have e5':AA .shl .u64 (a4:Int) 17=(a5:Int):=e5;unfold Qf;rw[e1',e2,e3',e4,e5',e6]
theorem aTk(a n k q:Nat):∀(m i:Nat) (w:List Int) (x:Nat),q<=i+m->x<18446744073709551616->w.length<=60000->a+n<=w.length->a<=i->q<=a+n->0<n->n<2^k->2^k<=2*n->k<=16->q=a+n/4*2+2->
 ∃w',SI (a:Int) (n:Int) ((2^k:Nat):Int) (i:Int) w (x:Int)=some w'/\Pm a (a+n) w w':=by
 intro m
 induction m with
 |zero=>
  intro i w x hm hx hl hb ha hq h0 hk1 hk2 hk3 hqe
  refine⟨w,?_,Pm.refl _ _ _⟩
  rw[P8]
  unfold Gy
  have hd:AA .quo .i64 (n:Int) 4=((n/4:Nat):Int):=aT9 (k:=4) (by omega)
  have hmu:AA .mul .i64 ((n/4:Nat):Int) 2=((n/4*2:Nat):Int):=by rw[aT0 (by omega) (by omega)];omega
  rw[hd,hmu,QJ (by omega),GY (by omega),leF (by omega),Ae]
 |succ m ih=>
  intro i w x hm hx hl hb ha hq h0 hk1 hk2 hk3 hqe
  rw[P8]
  unfold Gy
  have hd:AA .quo .i64 (n:Int) 4=((n/4:Nat):Int):=aT9 (k:=4) (by omega)
  have hmu:AA .mul .i64 ((n/4:Nat):Int) 2=((n/4*2:Nat):Int):=by rw[aT0 (by omega) (by omega)];omega
  rw[hd,hmu,QJ (by omega),GY (by omega)]
  by_cases h1:i<=a+n/4*2+1
  obtain⟨y,ey,fy⟩:=aRo hx
  have hmod:y % 2^k<2^k:=Nat.mod_lt _ (Nat.two_pow_pos k)
  have hp:2^k<=2^16:=Nat.pow_le_pow_right (by decide) hk3
  obtain⟨o,ho,hon⟩:∃o:Nat,OQ (a:Int) (n:Int) ((2^k:Nat):Int) (i:Int) (((y % 2^k:Nat)):Int) (decide ((n:Int)<=((y % 2^k:Nat):Int))) w (y:Int)=some (o:Int)/\o<n:=by unfold OQ;by_cases h2:n<=y % 2^k;exact⟨y % 2^k-n,by rw[decide_eq_true (by omega),AJ,aCe (by omega)],by omega⟩;exact⟨y % 2^k,by rw[decide_eq_false (by omega),AI],by omega⟩
  have hs:Pm a (a+n) w (swp w i (a+o)):=Pm.swp ⟨ha,by omega⟩ ⟨by omega,by omega⟩ hb
  obtain⟨w',e1,e2⟩:=ih (i+1) (swp w i (a+o)) y (by omega) fy (by rw[B1];exact hl) (by rw[B1];exact hb) (by omega) hq h0 hk1 hk2 hk3 hqe
  refine⟨w',?_,hs.trans e2⟩
  rw[<-e1,leT h1]
  unfold SH
  rw[ey,AB]
  simp only
  have hw:IntKind.wrap .i64 ((y % 2^k:Nat):Int)=((y % 2^k:Nat):Int):=aRn (by omega) (by omega)
  rw[aQd y k (by omega) fy,hw,ho,AB]
  simp (disch:=omega) only[QJ,FN,Et,List.length_set,Int.toNat_natCast,AB,GY,BF]
  rfl
  refine⟨w,by rw[leF h1,Ae],Pm.refl _ _ _⟩
theorem aTl(a b:Nat)(w:List Int)(hl:w.length<=60000)(hb:b<=w.length)(hab:a+8<=b):∃w',Y0 (a:Int) (b:Int) w=some w'/\Pm a b w w':=by
 obtain⟨k,e1,e2,e3,e4⟩:=S1 (n:=b-a) (by omega);have hd:AA .quo .i64 ((b-a:Nat):Int) 4=(((b-a)/4:Nat):Int):=aT9 (k:=4) (by omega);have hmu:AA .mul .i64 (((b-a)/4:Nat):Int) 2=(((b-a)/4*2:Nat):Int):=by rw[aT0 (by omega) (by omega)];omega
 obtain⟨w',f1,f2⟩:=aTk a (b-a) k (a+(b-a)/4*2+2) 3 (a+(b-a)/4*2-1) w (b-a) (by omega) (by omega) hl (by omega) (by omega) (by omega) (by omega) e3 (e4 (by omega)) e2 rfl;rw[show a+(b-a)=b by omega]at f2;refine⟨w',?_,f2⟩;unfold Y0 SG;rw[aCe (by omega),decide_eq_true (by omega),AJ,e1,AB,hd,hmu,QJ (by omega),Do (by omega),As (by omega),f1,AB,AB]
def Vx(lo hi:Nat)(x:Int):Prop:=∃n:Nat,x=(n:Int)/\lo<=n/\n<hi
theorem PN{lo hi:Nat}{w:List Int}(hh:hi<=w.length){x y:Int}(s:Int)(hx:Vx lo hi x)(hy:Vx lo hi y):∃u v s',Zt w x y s=some (u,v,s')/\Vx lo hi u/\Vx lo hi v:=by obtain⟨i,rfl,i1,i2⟩:=hx;obtain⟨j,rfl,j1,j2⟩:=hy;unfold Zt;simp (disch:=omega) only[Et,By,AB];by_cases h:ga w j<ga w i;exact⟨_,_,_,by rw[decide_eq_true h];rfl,⟨j,rfl,j1,j2⟩,⟨i,rfl,i1,i2⟩⟩;exact⟨_,_,_,by rw[decide_eq_false h];rfl,⟨i,rfl,i1,i2⟩,⟨j,rfl,j1,j2⟩⟩
theorem aNz{lo hi:Nat}{w:List Int}(hh:hi<=w.length){x y z:Int}(s:Int)(hx:Vx lo hi x)(hy:Vx lo hi y)(hz:Vx lo hi z):∃u s',Q4 w x y z s=some (u,s')/\Vx lo hi u:=by obtain⟨a1,b1,s1,e1,f1,g1⟩:=PN hh s hx hy;obtain⟨b2,c2,s2,e2,f2,g2⟩:=PN hh s1 g1 hz;obtain⟨a3,b3,s3,e3,f3,g3⟩:=PN hh s2 f1 f2;refine⟨b3,s3,?_,g3⟩;unfold Q4;simp only[e1,AB,e2,e3]
theorem ZU{lo hi n:Nat}{w:List Int}(hh:hi<=w.length)(hl:w.length<=1000000)(s:Int)(h1:lo+1<=n)(h2:n+1<hi):∃u s',Zu w (n:Int) s=some (u,s')/\Vx lo hi u:=by obtain⟨u,s',e,h⟩:=aNz (lo:=lo) (hi:=hi) hh (x:=((n-1:Nat):Int)) (y:=(n:Int)) (z:=((n+1:Nat):Int)) s ⟨n-1,rfl,by omega,by omega⟩ ⟨n,rfl,by omega,by omega⟩ ⟨n+1,rfl,by omega,by omega⟩;refine⟨u,s',?_,h⟩;unfold Zu;rw[Do (by omega),GY (by omega),e,AB]
theorem aZn{n k:Nat}(h:n*k<=4611686018427387904):AA .mul .i64 (n:Int) (k:Int)=((n*k:Nat):Int):=by
 have e:(n:Int)*(k:Int)=((n*k:Nat):Int):=by simp
 generalize n*k=d at*;rw[aT0 (by omega) (by omega)];exact e
theorem aT5(a b:Nat)(w:List Int)(hl:w.length<=1000000)(hb:b<=w.length)(hab:a+12<b):∃p h,Z1 w (a:Int) (b:Int)=some (p,h)/\Vx a b p:=by
 have hd:AA .quo .i64 ((b-a:Nat):Int) 4=(((b-a)/4:Nat):Int):=aT9 (k:=4) (by omega);have m1:AA .mul .i64 (((b-a)/4:Nat):Int) 1=(((b-a)/4*1:Nat):Int):=aZn (k:=1) (by omega);have m2:AA .mul .i64 (((b-a)/4:Nat):Int) 2=(((b-a)/4*2:Nat):Int):=aZn (k:=2) (by omega);have m3:AA .mul .i64 (((b-a)/4:Nat):Int) 3=(((b-a)/4*3:Nat):Int):=aZn (k:=3) (by omega);have fin:∀(x s:Int),Vx a b x->∃p h,(AE (decide (s=0)) (some (x,(1:Int))) (AE (decide (s=12)) (some (x,2)) (some (x,0))))=some (p,h)/\Vx a b p:=fun x s hx=>by by_cases h1:s=0;exact⟨x,1,by rw[decide_eq_true h1];rfl,hx⟩;by_cases h2:s=12;exact⟨x,2,by rw[decide_eq_false h1,decide_eq_true h2];rfl,hx⟩;exact⟨x,0,by rw[decide_eq_false h1,decide_eq_false h2];rfl,hx⟩
 unfold Z1 ST;rw[aCe (by omega),hd,m1,m2,m3,QJ (by omega),QJ (by omega),QJ (by omega),decide_eq_true (by omega),AJ];have hb2:∃x y z s,Of w ((a+(b-a)/4*1:Nat):Int) ((a+(b-a)/4*2:Nat):Int) ((a+(b-a)/4*3:Nat):Int) (decide (50<=((b-a:Nat):Int))) 0=some (x,y,z,s)/\Vx a b x/\Vx a b y/\Vx a b z:=by unfold Of;by_cases h:50<=b-a;obtain⟨x,s1,e1,h1⟩:=ZU (lo:=a) (hi:=b) (n:=a+(b-a)/4*1) hb hl 0 (by omega) (by omega);obtain⟨y,s2,e2,h2⟩:=ZU (lo:=a) (hi:=b) (n:=a+(b-a)/4*2) hb hl s1 (by omega) (by omega);obtain⟨z,s3,e3,h3⟩:=ZU (lo:=a) (hi:=b) (n:=a+(b-a)/4*3) hb hl s2 (by omega) (by omega);refine⟨x,y,z,s3,?_,h1,h2,h3⟩;rw[decide_eq_true (by omega),AJ,e1,AB,e2,AB,e3,AB];refine⟨_,_,_,_,by rw[decide_eq_false (by omega),AI],⟨_,rfl,by omega,by omega⟩,⟨_,rfl,by omega,by omega⟩,⟨_,rfl,by omega,by omega⟩⟩
 obtain⟨x,y,z,s,e,hx,hy,hz⟩:=hb2;obtain⟨u,s',e',hu⟩:=aNz hb s hx hy hz;rw[e,AB];simp only;rw[e',AB,AB];exact fin u s' hu
theorem aT6(a j:Nat)(w:List Int)(hl:w.length<=1000000)(hj:j<w.length)(ha:a<w.length):∀(m i:Nat),j+1<=i+m->i<=j+1->
 ∃o:Nat,Nz (a:Int) (j:Int) w (i:Int)=some (o:Int)/\i<=o/\o<=j+1/\(∀k,i<=k->k<o->ga w k<ga w a)/\(o<=j->¬ga w o<ga w a):=by
 intro m
 induction m with
 |zero=>
  intro i hm hi
  refine⟨i,?_,Nat.le_refl _,hi,fun k h1 h2=>by omega,fun h=>by omega⟩
  rw[Pp]
  unfold Gq
  rw[leF (by omega),Ae]
 |succ m ih=>
  intro i hm hi
  rw[Pp]
  unfold Gq
  by_cases h0:i<=j
  by_cases h1:ga w i<ga w a
  obtain⟨o,e1,e2,e3,e4,e5⟩:=ih (i+1) (by omega) (by omega)
  refine⟨o,?_,by omega,e3,fun k k1 k2=>?_,e5⟩
  simp (disch:=omega) only[leT,FN,Et,By,AB,h1,decide_true,AJ,GY,BF]
  exact e1
  by_cases hk:k=i
  subst hk;exact h1
  exact e4 k (by omega) k2
  refine⟨i,?_,Nat.le_refl _,hi,fun k k1 k2=>by omega,fun _=>h1⟩
  simp (disch:=omega) only[leT,FN,Et,By,AB,h1,decide_false,AI,Ae]
  refine⟨i,by rw[leF h0,Ae],Nat.le_refl _,hi,fun k k1 k2=>by omega,fun h=>absurd h h0⟩
theorem aT7(a i:Nat)(w:List Int)(hl:w.length<=1000000)(ha:a<w.length)(hi:1<=i):∀(j:Nat),j<w.length->i<=j+1->
 ∃o:Nat,N0 (a:Int) (i:Int) w (j:Int)=some (o:Int)/\i<=o+1/\o<=j/\(∀k,o<k->k<=j->¬ga w k<ga w a)/\(i<=o->ga w o<ga w a):=by
 intro j
 induction j with
 |zero=>
  intro hj hij
  refine⟨0,?_,hij,Nat.le_refl _,fun k h1 h2=>by omega,fun h=>by omega⟩
  rw[Pq]
  unfold Gr
  rw[leF (by omega),Ae]
 |succ j ih=>
  intro hj hij
  rw[Pq]
  unfold Gr
  by_cases h0:i<=j+1
  by_cases h1:ga w (j+1)<ga w a
  refine⟨j+1,?_,by omega,Nat.le_refl _,fun k k1 k2=>by omega,fun _=>h1⟩
  simp (disch:=omega) only[leT,FN,Et,By,AB,h1,decide_true,Bool.not_true,AI,Ae]
  obtain⟨o,e1,e2,e3,e4,e5⟩:=ih (by omega) (by omega)
  refine⟨o,?_,e2,by omega,fun k k1 k2=>?_,e5⟩
  simp (disch:=omega) only[leT,FN,Et,By,AB,h1,decide_false,Bool.not_false,AJ,Do,BF,Nat.add_sub_cancel]
  exact e1
  by_cases hk:k=j+1
  subst hk;exact h1
  exact e4 k k1 (by omega)
  refine⟨j+1,by rw[leF h0,Ae],by omega,Nat.le_refl _,fun k k1 k2=>by omega,fun h=>absurd h h0⟩
theorem aZz:aE7=Nz:=rfl
theorem aZ0:aE9=N0:=rfl
theorem aZy(a b:Nat):∀(m i j:Nat) (w:List Int),j+1<=i+m->w.length<=1000000->b<=w.length->a+1<=i->i<=j+1->j<b->(∀k,a<k->k<i->ga w k<ga w a)->(∀k,j<k->k<b->¬ga w k<ga w a)->
 ∃(o:Nat) (w':List Int),Rv (a:Int) (i:Int) (j:Int) w=some ((o:Int),w')/\a<=o/\o<b/\Pm (a+1) b w w'/\(∀k,a<k->k<=o->ga w' k<ga w a)/\(∀k,o<k->k<b->¬ga w' k<ga w a):=by
 intro m
 induction m using Nat.strongRecOn with
 |ind m ih=>
  intro i j w hm hl hb hi hij hj hA hB
  obtain⟨x,e1,e2,e3,e4,e5⟩:=aT6 a j w hl (by omega) (by omega) m i hm hij
  obtain⟨y,f1,f2,f3,f4,f5⟩:=aT7 a x w hl (by omega) (by omega) j (by omega) e3
  rw[aE5]
  unfold H7
  rw[aZz,aZ0,e1,AB,f1,AB]
  have hA':∀k,a<k->k<x->ga w k<ga w a:=fun k k1 k2=>by by_cases h:k<i;exact hA k k1 h;exact e4 k (by omega) k2
  have hB':∀k,y<k->k<b->¬ga w k<ga w a:=fun k k1 k2=>by by_cases h:j<k;exact hB k h k2;exact f4 k k1 (by omega)
  by_cases h0:y<x
  refine⟨y,w,by rw[ltT h0,Ae],by omega,by omega,Pm.refl _ _ _,fun k k1 k2=>hA' k k1 (by omega),hB'⟩
  have hx:=e5 (by omega)
  have hy:=f5 (by omega)
  have hxy:x≠y:=fun h=>by subst h;exact hx hy
  have hg:=Es (w:=w) (i:=x) (j:=y) (by omega) (by omega)
  have ha:ga (swp w x y) a=ga w a:=by rw[hg,if_neg (by omega),if_neg (by omega)]
  obtain⟨o,w',g1,g2,g3,g4,g5,g6⟩:=ih (m-2) (by omega) (x+1) (y-1) (swp w x y) (by omega) (by rw[B1];exact hl) (by rw[B1];exact hb) (by omega) (by omega) (by omega)
   (fun k k1 k2=>by rw[ha,hg];by_cases c1:k=x;rw[if_neg (by omega),if_pos c1];exact hy;rw[if_neg (by omega),if_neg c1];exact hA' k k1 (by omega))
   (fun k k1 k2=>by rw[ha,hg];by_cases c1:k=y;rw[if_pos c1];exact hx;rw[if_neg c1,if_neg (by omega)];exact hB' k (by omega) k2)
  rw[ha]at g5 g6
  refine⟨o,w',?_,g2,g3,(Pm.swp ⟨by omega,by omega⟩ ⟨by omega,by omega⟩ hb).trans g4,g5,g6⟩
  rw[<-g1]
  simp (disch:=omega) only[ltF,FN,Et,List.length_set,Int.toNat_natCast,GY,Do,BF]
  rfl
theorem aZ1(a b p:Nat)(w:List Int)(hl:w.length<=1000000)(hb:b<=w.length)(hp:a<=p/\p<b)(hab:a+2<=b):
 ∃(o:Nat) (f:Bool) (w':List Int),Xb (a:Int) (b:Int) (p:Int) w=some ((o:Int),f,w')/\a<=o/\o<b/\Pm a b w w'/\(∀k,a<=k->k<o->ga w' k<=ga w' o)/\(∀k,o<k->k<b->ga w' o<=ga w' k):=by
 have hs:Pm a b w (swp w a p):=Pm.swp ⟨by omega,by omega⟩ hp hb
 have hl1:(swp w a p).length=w.length:=B1 w a p
 --the end,from a row that is parted behind its first one
 have fin:∀(o:Nat) (w2:List Int),a<=o->o<b->Pm a b w w2->(∀k,a<k->k<=o->ga w2 k<ga w2 a)->(∀k,o<k->k<b->¬ga w2 k<ga w2 a)->
  Pm a b w (swp w2 o a)/\(∀k,a<=k->k<o->ga (swp w2 o a) k<=ga (swp w2 o a) o)/\(∀k,o<k->k<b->ga (swp w2 o a) o<=ga (swp w2 o a) k):=fun o w2 h1 h2 h3 h4 h5=>by
  have hl2:=h3.len
  have hg:=Es (w:=w2) (i:=o) (j:=a) (by omega) (by omega)
  have ho:ga (swp w2 o a) o=ga w2 a:=by rw[hg];by_cases c:o=a;rw[if_pos c,c];rw[if_neg c,if_pos rfl]
  refine⟨h3.trans (Pm.swp ⟨h1,h2⟩ ⟨by omega,by omega⟩ (by omega)),fun k k1 k2=>?_,fun k k1 k2=>?_⟩
  rw[ho,hg]
  by_cases c:k=a
  rw[if_pos c];have:=h4 o (by omega) (Nat.le_refl _);omega
  rw[if_neg c,if_neg (by omega)];have:=h4 k (by omega) (by omega);omega
  rw[ho,hg,if_neg (by omega),if_neg (by omega)]
  have:=h5 k k1 k2;omega
 obtain⟨x,e1,e2,e3,e4,e5⟩:=aT6 a (b-1) (swp w a p) (by omega) (by omega) (by omega) b (a+1) (by omega) (by omega)
 obtain⟨y,f1,f2,f3,f4,f5⟩:=aT7 a x (swp w a p) (by omega) (by omega) (by omega) (b-1) (by omega) e3
 have hA:∀k,a<k->k<x->ga (swp w a p) k<ga (swp w a p) a:=fun k k1 k2=>e4 k (by omega) k2
 have hB:∀k,y<k->k<b->¬ga (swp w a p) k<ga (swp w a p) a:=fun k k1 k2=>f4 k k1 (by omega)
 have hdef:((w.set a (ga w p)).set p (ga w a))=swp w a p:=rfl
 unfold Xb
 simp (disch:=omega) only[FN,Et,List.length_set,Int.toNat_natCast,GY,Do,hdef,e1,f1,AB]
 by_cases h0:y<x
 obtain⟨g1,g2,g3⟩:=fin y (swp w a p) (by omega) (by omega) hs (fun k k1 k2=>hA k k1 (by omega)) hB
 refine⟨y,true,swp (swp w a p) y a,?_,by omega,by omega,g1,g2,g3⟩
 simp (disch:=omega) only[ltT,FN,Et,List.length_set,Int.toNat_natCast]
 rfl
 have hx:=e5 (by omega)
 have hy:=f5 (by omega)
 have hxy:x≠y:=fun h=>by subst h;exact hx hy
 have hg:=Es (w:=swp w a p) (i:=x) (j:=y) (by omega) (by omega)
 have ha:ga (swp (swp w a p) x y) a=ga (swp w a p) a:=by rw[hg,if_neg (by omega),if_neg (by omega)]
 have hl2:(swp (swp w a p) x y).length=w.length:=by rw[B1,hl1]
 obtain⟨o,w',g1,g2,g3,g4,g5,g6⟩:=aZy a b b (x+1) (y-1) (swp (swp w a p) x y) (by omega) (by omega) (by omega) (by omega) (by omega) (by omega)
  (fun k k1 k2=>by rw[ha,hg];by_cases c1:k=x;rw[if_neg (by omega),if_pos c1];exact hy;rw[if_neg (by omega),if_neg c1];exact hA k k1 (by omega))
  (fun k k1 k2=>by rw[ha,hg];by_cases c1:k=y;rw[if_pos c1];exact hx;rw[if_neg c1,if_neg (by omega)];exact hB k (by omega) k2)
 have hwa:ga w' a=ga (swp (swp w a p) x y) a:=g4.out a (by omega)
 rw[<-hwa]at g5 g6
 have hpm:=(hs.trans (Pm.swp (w:=swp w a p) (i:=x) (j:=y) ⟨by omega,by omega⟩ ⟨by omega,by omega⟩ (by omega))).trans (g4.mono (by omega) (Nat.le_refl _))
 have hl3:=hpm.len
 obtain⟨q1,q2,q3⟩:=fin o w' g2 g3 hpm g5 g6
 refine⟨o,false,swp w' o a,?_,g2,g3,q1,q2,q3⟩
 have hdef2:(((swp w a p).set x (ga (swp w a p) y)).set y (ga (swp w a p) x))=swp (swp w a p) x y:=rfl
 simp (disch:=omega) only[ltF,FN,Et,List.length_set,Int.toNat_natCast,GY,Do,hdef2,g1,AB]
 rfl
theorem aZq(a j:Nat)(w:List Int)(hl:w.length<=1000000)(hj:j<w.length)(ha:a<w.length):∀(m i:Nat),j+1<=i+m->i<=j+1->
 ∃o:Nat,R6 (a:Int) (j:Int) w (i:Int)=some (o:Int)/\i<=o/\o<=j+1/\(∀k,i<=k->k<o->¬ga w a<ga w k)/\(o<=j->ga w a<ga w o):=by
 intro m
 induction m with
 |zero=>
  intro i hm hi
  refine⟨i,?_,Nat.le_refl _,hi,fun k h1 h2=>by omega,fun h=>by omega⟩
  rw[Pw]
  unfold Gv
  rw[leF (by omega),Ae]
 |succ m ih=>
  intro i hm hi
  rw[Pw]
  unfold Gv
  by_cases h0:i<=j
  by_cases h1:ga w a<ga w i
  refine⟨i,?_,Nat.le_refl _,hi,fun k k1 k2=>by omega,fun _=>h1⟩
  simp (disch:=omega) only[leT,FN,Et,By,AB,h1,decide_true,Bool.not_true,AI,Ae]
  obtain⟨o,e1,e2,e3,e4,e5⟩:=ih (i+1) (by omega) (by omega)
  refine⟨o,?_,by omega,e3,fun k k1 k2=>?_,e5⟩
  simp (disch:=omega) only[leT,FN,Et,By,AB,h1,decide_false,Bool.not_false,AJ,GY,BF]
  exact e1
  by_cases hk:k=i
  subst hk;exact h1
  exact e4 k (by omega) k2
  refine⟨i,by rw[leF h0,Ae],Nat.le_refl _,hi,fun k k1 k2=>by omega,fun h=>absurd h h0⟩
theorem aZr(a i:Nat)(w:List Int)(hl:w.length<=1000000)(ha:a<w.length)(hi:1<=i):∀(j:Nat),j<w.length->i<=j+1->
 ∃o:Nat,R7 (a:Int) (i:Int) w (j:Int)=some (o:Int)/\i<=o+1/\o<=j/\(∀k,o<k->k<=j->ga w a<ga w k)/\(i<=o->¬ga w a<ga w o):=by
 intro j
 induction j with
 |zero=>
  intro hj hij
  refine⟨0,?_,hij,Nat.le_refl _,fun k h1 h2=>by omega,fun h=>by omega⟩
  rw[Px]
  unfold Gw
  rw[leF (by omega),Ae]
 |succ j ih=>
  intro hj hij
  rw[Px]
  unfold Gw
  by_cases h0:i<=j+1
  by_cases h1:ga w a<ga w (j+1)
  obtain⟨o,e1,e2,e3,e4,e5⟩:=ih (by omega) (by omega)
  refine⟨o,?_,e2,by omega,fun k k1 k2=>?_,e5⟩
  simp (disch:=omega) only[leT,FN,Et,By,AB,h1,decide_true,AJ,Do,BF,Nat.add_sub_cancel]
  exact e1
  by_cases hk:k=j+1
  subst hk;exact h1
  exact e4 k k1 (by omega)
  refine⟨j+1,?_,by omega,Nat.le_refl _,fun k k1 k2=>by omega,fun _=>h1⟩
  simp (disch:=omega) only[leT,FN,Et,By,AB,h1,decide_false,AI,Ae]
  refine⟨j+1,by rw[leF h0,Ae],by omega,Nat.le_refl _,fun k k1 k2=>by omega,fun h=>absurd h h0⟩
theorem aZp(a b:Nat):∀(m i j:Nat) (w:List Int),j+1<=i+m->w.length<=1000000->b<=w.length->a+1<=i->i<=j+1->j<b->(∀k,a<k->k<i->¬ga w a<ga w k)->(∀k,j<k->k<b->ga w a<ga w k)->
 ∃(o:Nat) (w':List Int),R5 (a:Int) (i:Int) (j:Int) w=some ((o:Int),w')/\a<o/\o<=b/\Pm (a+1) b w w'/\(∀k,a<k->k<o->¬ga w a<ga w' k)/\(∀k,o<=k->k<b->ga w a<ga w' k):=by
 intro m
 induction m using Nat.strongRecOn with
 |ind m ih=>
  intro i j w hm hl hb hi hij hj hA hB
  obtain⟨x,e1,e2,e3,e4,e5⟩:=aZq a j w hl (by omega) (by omega) m i hm hij
  obtain⟨y,f1,f2,f3,f4,f5⟩:=aZr a x w hl (by omega) (by omega) j (by omega) e3
  rw[aGt]
  unfold IQ
  rw[e1,AB,f1,AB]
  have hA':∀k,a<k->k<x->¬ga w a<ga w k:=fun k k1 k2=>by by_cases h:k<i;exact hA k k1 h;exact e4 k (by omega) k2
  have hB':∀k,y<k->k<b->ga w a<ga w k:=fun k k1 k2=>by by_cases h:j<k;exact hB k h k2;exact f4 k k1 (by omega)
  by_cases h0:y<x
  refine⟨x,w,by rw[ltT h0,Ae],by omega,by omega,Pm.refl _ _ _,hA',fun k k1 k2=>hB' k (by omega) k2⟩
  have hx:=e5 (by omega)
  have hy:=f5 (by omega)
  have hxy:x≠y:=fun h=>by subst h;exact hy hx
  have hg:=Es (w:=w) (i:=x) (j:=y) (by omega) (by omega)
  have ha:ga (swp w x y) a=ga w a:=by rw[hg,if_neg (by omega),if_neg (by omega)]
  obtain⟨o,w',g1,g2,g3,g4,g5,g6⟩:=ih (m-2) (by omega) (x+1) (y-1) (swp w x y) (by omega) (by rw[B1];exact hl) (by rw[B1];exact hb) (by omega) (by omega) (by omega)
   (fun k k1 k2=>by rw[ha,hg];by_cases c1:k=x;rw[if_neg (by omega),if_pos c1];exact hy;rw[if_neg (by omega),if_neg c1];exact hA' k k1 (by omega))
   (fun k k1 k2=>by rw[ha,hg];by_cases c1:k=y;rw[if_pos c1];exact hx;rw[if_neg c1,if_neg (by omega)];exact hB' k (by omega) k2)
  rw[ha]at g5 g6
  refine⟨o,w',?_,g2,g3,(Pm.swp ⟨by omega,by omega⟩ ⟨by omega,by omega⟩ hb).trans g4,g5,g6⟩
  rw[<-g1]
  simp (disch:=omega) only[ltF,FN,Et,List.length_set,Int.toNat_natCast,GY,Do,BF]
  rfl
theorem aZs(a b p:Nat)(w:List Int)(hl:w.length<=1000000)(hb:b<=w.length)(hp:a<=p/\p<b)(hab:a+2<=b):
 ∃(o:Nat) (w':List Int),Xp (a:Int) (b:Int) (p:Int) w=some ((o:Int),w')/\a<o/\o<=b/\Pm a b w w'/\(∀k,a<=k->k<o->ga w' k<=ga w p):=by
 have hs:Pm a b w (swp w a p):=Pm.swp ⟨by omega,by omega⟩ hp hb
 have hl1:(swp w a p).length=w.length:=B1 w a p
 obtain⟨o,w',e1,e2,e3,e4,e5,e6⟩:=aZp a b b (a+1) (b-1) (swp w a p) (by omega) (by omega) (by omega) (by omega) (by omega) (by omega) (fun k k1 k2=>by omega) (fun k k1 k2=>by omega)
 have ha:ga (swp w a p) a=ga w p:=by rw[Es (by omega) (by omega)];by_cases c:a=p;rw[if_pos c,c];rw[if_neg c,if_pos rfl]
 rw[ha]at e5
 refine⟨o,w',?_,e2,e3,hs.trans (e4.mono (by omega) (Nat.le_refl _)),fun k k1 k2=>?_⟩
 have hdef:((w.set a (ga w p)).set p (ga w a))=swp w a p:=rfl
 unfold Xp
 simp (disch:=omega) only[FN,Et,List.length_set,Int.toNat_natCast,GY,Do,hdef,e1,AB]
 by_cases c:k=a
 subst c;rw[e4.out k (by omega),ha];exact Int.le_refl _
 have:=e5 k (by omega) k2;omega
def Lo(a b:Nat)(w:List Int):Prop:=0<a->∀k,a<=k->k<b->ga w (a-1)<=ga w k
theorem Lo.pm{a b:Nat}{w w':List Int}(h:Lo a b w)(p:Pm a b w w'):Lo a b w':=fun h0 k k1 k2=>by obtain⟨i,i1,i2,i3⟩:=p.src k k1 k2;rw[i3,p.out (a-1) (by omega)];exact h h0 i i1 i2
theorem aZu(a b:Nat)(s8:Int)(w:List Int)(hl:w.length<=1000000)(hb:b<=w.length):∀(m i:Nat),b<=i+m->a<i->i<=b->So a i w->
 ∃o:Nat,Rl (a:Int) (b:Int) s8 w (i:Int)=some (o:Int)/\i<=o/\o<=b/\So a o w:=by
 intro m
 induction m with
 |zero=>
  intro i hm ha hi hs
  refine⟨i,?_,Nat.le_refl _,hi,hs⟩
  rw[Pi]
  unfold Gk
  rw[ltF (by omega),Ae]
 |succ m ih=>
  intro i hm ha hi hs
  rw[Pi]
  unfold Gk
  by_cases h0:i<b
  by_cases h1:ga w i<ga w (i-1)
  refine⟨i,?_,Nat.le_refl _,hi,hs⟩
  simp (disch:=omega) only[ltT,FN,Et,Do,By,AB,h1,decide_true,Bool.not_true,AI,Ae]
  obtain⟨o,e1,e2,e3,e4⟩:=ih (i+1) (by omega) (by omega) (by omega) (fun p q p1 p2 p3=>by by_cases hq:q=i;subst hq;by_cases hp:p=q-1;subst hp;omega;have:=hs p (q-1) p1 (by omega) (by omega);omega;exact hs p q p1 p2 (by omega))
  refine⟨o,?_,by omega,e3,e4⟩
  simp (disch:=omega) only[ltT,FN,Et,Do,By,AB,h1,decide_false,Bool.not_false,AJ,GY,BF]
  exact e1
  refine⟨i,by rw[ltF h0,Ae],Nat.le_refl _,hi,hs⟩
theorem aZv(a b i:Nat)(s2 s7 s8:Int)(hib:i<b):∀(j:Nat) (w:List Int),w.length<=1000000->b<=w.length->a<=j->j<=i->Lo a b w->(∀p q,a<=p->p<q->q<=i->q≠j->ga w p<=ga w q)->
 ∃w',Rm (a:Int) s2 s7 s8 (j:Int) w=some w'/\Pm a (i+1) w w'/\So a (i+1) w':=by
 intro j
 induction j with
 |zero=>
  intro w hl hb ha hj hL hs
  refine⟨w,?_,Pm.refl _ _ _,fun p q h1 h2 h3=>hs p q h1 h2 (by omega) (by omega)⟩
  rw[Pj]
  unfold Gm
  rw[decide_eq_false (by omega),AI,Ae]
 |succ j ih=>
  intro w hl hb ha hj hL hs
  rw[Pj]
  unfold Gm
  rw[decide_eq_true (by omega),AJ]
  by_cases h1:ga w (j+1)<ga w j
  by_cases h0:a<j+1
  have hp:=Pm.swp (a:=a) (b:=i+1) (w:=w) (i:=j+1) (j:=j) ⟨by omega,by omega⟩ ⟨by omega,by omega⟩ (by omega)
  have hg:=Es (w:=w) (i:=j+1) (j:=j) (by omega) (by omega)
  obtain⟨w',e1,e2,e3⟩:=ih (swp w (j+1) j) (by rw[B1];omega) (by rw[B1];omega) (by omega) (by omega) (hL.pm (hp.mono (Nat.le_refl _) (by omega))) (fun p q p1 p2 p3 p4=>by have b1:=hs p q p1 p2 p3;have b2:=hs p (j+1) p1;have b3:=hs p j p1;have b4:=hs (j+1) q (by omega);have b5:=hs j q (by omega);rw[hg,hg];by_cases c1:p=j;rw[if_pos c1];by_cases c2:q=j+1;rw[if_neg (by omega),if_pos c2];omega;rw[if_neg (by omega),if_neg c2];exact b4 (by omega) p3 c2;rw[if_neg c1];by_cases c2:p=j+1;rw[if_pos c2,if_neg (by omega),if_neg (by omega)];exact b5 (by omega) p3 (by omega);rw[if_neg c2];by_cases c3:q=j+1;rw[if_neg (by omega),if_pos c3];exact b3 (by omega) (by omega) (by omega);rw[if_neg (by omega),if_neg c3];exact b1 c3)
  refine⟨w',?_,hp.trans e2,e3⟩
  rw[<-e1]
  simp (disch:=omega) only[Do,Nat.add_sub_cancel,FN,Et,By,AB,h1,decide_true,Bool.not_true,AI,List.length_set,Int.toNat_natCast,BF]
  rfl
  exfalso
  have:=hL (by omega) (j+1) (by omega) (by omega)
  rw[show a-1=j by omega]at this
  omega
  refine⟨w,?_,Pm.refl _ _ _,fun p q p1 p2 p3=>?_⟩
  simp (disch:=omega) only[Do,Nat.add_sub_cancel,FN,Et,By,AB,h1,decide_false,Bool.not_false,AJ,Ae]
  by_cases hq:q=j+1
  subst hq
  by_cases hpj:p=j
  subst hpj;omega
  have:=hs p j p1 (by omega) (by omega) (by omega)
  omega
  exact hs p q p1 p2 (by omega) hq
theorem aZw(o b:Nat)(s1 s7 s8:Int):∀(m j:Nat) (w:List Int),b<=j+m->w.length<=1000000->b<=w.length->o<j->
 ∃w',Rn s1 (b:Int) s7 s8 (j:Int) w=some w'/\Pm o b w w':=by
 intro m
 induction m with
 |zero=>
  intro j w hm hl hb hj
  refine⟨w,?_,Pm.refl _ _ _⟩
  rw[Pk]
  unfold Gn
  rw[ltF (by omega),Ae]
 |succ m ih=>
  intro j w hm hl hb hj
  rw[Pk]
  unfold Gn
  by_cases h0:j<b
  by_cases h1:ga w j<ga w (j-1)
  have hp:=Pm.swp (a:=o) (b:=b) (w:=w) (i:=j) (j:=j-1) ⟨by omega,by omega⟩ ⟨by omega,by omega⟩ hb
  obtain⟨w',e1,e2⟩:=ih (j+1) (swp w j (j-1)) (by omega) (by rw[B1];exact hl) (by rw[B1];exact hb) (by omega)
  refine⟨w',?_,hp.trans e2⟩
  rw[<-e1]
  simp (disch:=omega) only[ltT,Do,FN,Et,By,AB,h1,decide_true,Bool.not_true,AI,List.length_set,Int.toNat_natCast,GY,BF]
  rfl
  refine⟨w,?_,Pm.refl _ _ _⟩
  simp (disch:=omega) only[ltT,Do,FN,Et,By,AB,h1,decide_false,Bool.not_false,AJ,Ae]
  refine⟨w,by rw[ltF h0,Ae],Pm.refl _ _ _⟩
theorem aZt(a b:Nat):∀(m k i:Nat) (w:List Int),5<=k+m->k<=5->w.length<=1000000->b<=w.length->a<i->i<=b->Lo a b w->So a i w->
 ∃w' o,No (a:Int) (b:Int) (i:Int) (k:Int) w=some o/\Pm a b w w'/\(o=.inl w'\/∃f,o=.inr (f,w')/\(f=true->So a b w')):=by
 intro m
 induction m with
 |zero=>
  intro k i w hm hk hl hb ha hi hL hs
  refine⟨w,_,?_,Pm.refl _ _ _,.inl rfl⟩
  rw[Ph]
  unfold Gj
  rw[decide_eq_false (by omega),AI,Ae]
 |succ m ih=>
  intro k i w hm hk hl hb ha hi hL hs
  rw[Ph]
  unfold Gj
  by_cases h5:k<5
  rw[decide_eq_true (by omega),AJ]
  unfold Rk
  obtain⟨o,e1,e2,e3,e4⟩:=aZu a b (k:Int) w hl hb b i (by omega) ha hi hs
  rw[e1,AB]
  by_cases h0:o=b
  refine⟨w,_,by rw[decide_eq_true (by omega),AJ,AB,D9,Ae],Pm.refl _ _ _,.inr ⟨true,rfl,fun _=>h0▸e4⟩⟩
  rw[decide_eq_false (by omega),AI,aCe (by omega)]
  by_cases h50:b-a<50
  refine⟨w,_,by rw[decide_eq_true (by omega),AJ,AB,D9,Ae],Pm.refl _ _ _,.inr ⟨false,rfl,fun h=>by cases h⟩⟩
  rw[decide_eq_false (by omega),AI]
  have hsw:=Pm.swp (a:=a) (b:=b) (w:=w) (i:=o) (j:=o-1) ⟨by omega,by omega⟩ ⟨by omega,by omega⟩ hb
  have hg:=Es (w:=w) (i:=o) (j:=o-1) (by omega) (by omega)
  have hdef:((w.set o (ga w (o-1))).set (o-1) (ga w o))=swp w o (o-1):=rfl
  obtain⟨w1,f1,f2,f3⟩:∃w1,Nm (a:Int) (b:Int) (o:Int) (k:Int) (decide (2<=((o-a:Nat):Int))) (swp w o (o-1))=some w1/\Pm a b (swp w o (o-1)) w1/\So a o w1:=by
   unfold Nm;by_cases h2:2<=o-a;obtain⟨w1,g1,g2,g3⟩:=aZv a b (o-1) (b:Int) (o:Int) (k:Int) (by omega) (o-1) (swp w o (o-1)) (by rw[B1];exact hl) (by rw[B1];exact hb) (by omega) (Nat.le_refl _) (hL.pm hsw) (fun p q p1 p2 p3 p4=>by rw[hg,hg,if_neg (by omega),if_neg (by omega),if_neg (by omega),if_neg (by omega)];exact e4 p q p1 p2 (by omega))
   rw[show o-1+1=o by omega]at g2 g3;refine⟨w1,?_,g2.mono (Nat.le_refl _) (by omega),g3⟩;rw[decide_eq_true (by omega),AJ,Do (by omega),g1,AB];exact⟨_,by rw[decide_eq_false (by omega),AI],Pm.refl _ _ _,fun p q p1 p2 p3=>by omega⟩
  have hl1:w1.length=w.length:=by rw[f2.len,B1]
  obtain⟨w2,g1,g2⟩:∃w2,Nn (a:Int) (b:Int) (o:Int) (k:Int) (decide (2<=((b-o:Nat):Int))) w1=some w2/\Pm o b w1 w2:=by unfold Nn;by_cases h2:2<=b-o;obtain⟨w2,g1,g2⟩:=aZw o b (a:Int) (o:Int) (k:Int) b (o+1) w1 (by omega) (by omega) (by omega) (by omega);exact⟨w2,by rw[decide_eq_true (by omega),AJ,GY (by omega),g1,AB],g2⟩;exact⟨_,by rw[decide_eq_false (by omega),AI],Pm.refl _ _ _⟩
  have hpm:=(hsw.trans f2).trans (g2.mono (by omega) (Nat.le_refl _))
  have hl2:=hpm.len
  obtain⟨w3,q,r1,r2,r3⟩:=ih (k+1) o w2 (by omega) (by omega) (by omega) (by omega) (by omega) (by omega) (hL.pm hpm) (fun p q p1 p2 p3=>by rw[g2.out p (by omega),g2.out q (by omega)];exact f3 p q p1 p2 p3)
  refine⟨w3,q,?_,hpm.trans r2,r3⟩
  rw[<-r1]
  simp (disch:=omega) only[FN,Et,Do,aCe,List.length_set,Int.toNat_natCast,hdef,f1,g1,AB,CQ,GY,BF]
  exact⟨w,_,by rw[decide_eq_false (by omega),AI,Ae],Pm.refl _ _ _,.inl rfl⟩
theorem aZx(a b:Nat)(w:List Int)(hl:w.length<=1000000)(hb:b<=w.length)(hab:a<b)(hL:Lo a b w):
 ∃(f:Bool) (w':List Int),X8 (a:Int) (b:Int) w=some (f,w')/\Pm a b w w'/\(f=true->So a b w'):=by
 obtain⟨w',o,e1,e2,e3⟩:=aZt a b 5 0 (a+1) w (by omega) (by omega) hl hb (by omega) (by omega) hL (fun p q p1 p2 p3=>by omega)
 unfold X8
 have e1':No (a:Int) (b:Int) ((a+1:Nat):Int) 0 w=some o:=e1
 rw[GY (by omega),e1',AB]
 rcases e3 with rfl|⟨f,rfl,hf⟩
 exact⟨false,w',rfl,e2,fun h=>by cases h⟩
 exact⟨f,w',rfl,e2,hf⟩
abbrev aUy:=Int×Int×Int×Bool×Bool×List Int
def Rd(a b:Nat)(w:List Int)(x:aUy):Prop:=∃a' b':Nat,x.1=(a':Int)/\x.2.1=(b':Int)/\a<=a'/\a'<=b'/\b'<=b/\b'-a'<b-a/\Pm a b w x.2.2.2.2.2/\Lo a' b' x.2.2.2.2.2/\
 (∀p q,a<=p->p<a'->p<q->q<b->ga x.2.2.2.2.2 p<=ga x.2.2.2.2.2 q)/\∀p q,a<=p->p<q->b'<=q->q<b->ga x.2.2.2.2.2 p<=ga x.2.2.2.2.2 q
def Slf(self:Int->Int->Int->List Int->Option (List Int))(N:Nat):Prop:=∀(a b:Nat) (lim:Int) (w:List Int),b-a<N->a<=b->b<=w.length->w.length<=60000->Lo a b w->∃w',self (a:Int) (b:Int) lim w=some w'/\Pm a b w w'/\So a b w'
theorem Lo.sub{a b b':Nat}{w:List Int}(h:Lo a b w)(hb:b'<=b):Lo a b' w:=fun h0 k k1 k2=>h h0 k k1 (by omega)
theorem aZa{self:Int->Int->Int->List Int->Option (List Int)}{a b o:Nat}(lim:Int)(wp:Bool)(t:Int){w w1:List Int}(hS:Slf self (b-a))(hl:w.length<=60000)(hb:b<=w.length)(ho:a<=o)(hob:o<b)(hp:Pm a b w w1)(hL:Lo a b w1)
 (h1:∀k,a<=k->k<o->ga w1 k<=ga w1 o) (h2:∀k,o<k->k<b->ga w1 o<=ga w1 k) (hab:2<=b-a):
 ∃y:Int×Int×Bool×List Int,Fr self (a:Int) (b:Int) lim wp (o:Int) ((o-a:Nat):Int) ((b-o:Nat):Int) t (decide (((o-a:Nat):Int)<((b-o:Nat):Int))) w1=some y/\∀wb,Rd a b w (y.1,y.2.1,lim,wb,wp,y.2.2.2):=by
 have hl1:=hp.len
 unfold Fr
 by_cases h:o-a<b-o
 obtain⟨w2,e1,e2,e3⟩:=hS a o lim w1 (by omega) ho (by omega) (by omega) (hL.sub (by omega))
 refine⟨(AA .add .i64 (o:Int) 1,(b:Int),decide (t<=((o-a:Nat):Int)),w2),by rw[decide_eq_true (by omega),AJ,e1,AB],fun wb=>⟨o+1,b,GY (by omega),rfl,by omega,by omega,by omega,by omega,hp.trans (e2.mono (Nat.le_refl _) (by omega)),fun h0 k k1 k2=>?_,fun p q p1 p2 p3 p4=>?_,fun p q p1 p2 p3 p4=>by omega⟩⟩
 show ga w2 (o+1-1)<=ga w2 k
 rw[Nat.add_sub_cancel,e2.out o (by omega),e2.out k (by omega)]
 exact h2 k (by omega) k2
 show ga w2 p<=ga w2 q
 by_cases c1:q<o
 exact e3 p q p1 p3 c1
 rw[e2.out q (by omega)]
 have hpo:ga w2 p<=ga w1 o:=by by_cases c2:p=o;rw[c2,e2.out o (by omega)];exact Int.le_refl _;obtain⟨p',q1,q2,q3⟩:=e2.src p p1 (by omega);rw[q3];exact h1 p' q1 q2
 by_cases c3:q=o
 rw[c3];exact hpo
 have:=h2 q (by omega) p4;omega
 obtain⟨w2,e1,e2,e3⟩:=hS (o+1) b lim w1 (by omega) (by omega) (by omega) (by omega) (fun h0 k k1 k2=>by rw[Nat.add_sub_cancel];exact h2 k (by omega) k2)
 have hL2:Lo a b w2:=hL.pm (e2.mono (by omega) (Nat.le_refl _))
 refine⟨((a:Int),(o:Int),decide (t<=((b-o:Nat):Int)),w2),by rw[decide_eq_false (by omega),AI,GY (by omega),e1,AB],fun wb=>⟨a,o,rfl,rfl,Nat.le_refl _,ho,by omega,by omega,hp.trans (e2.mono (by omega) (Nat.le_refl _)),hL2.sub (by omega),fun p q p1 p2 p3 p4=>by omega,fun p q p1 p2 p3 p4=>?_⟩⟩
 show ga w2 p<=ga w2 q
 by_cases c1:o<p
 exact e3 p q c1 p2 p4
 rw[e2.out p (by omega)]
 have hpo:ga w1 p<=ga w1 o:=by by_cases c2:p=o;rw[c2];exact Int.le_refl _;exact h1 p p1 (by omega)
 by_cases c3:q=o
 rw[c3,e2.out o (by omega)];exact hpo
 obtain⟨q',q1,q2,q3⟩:=e2.src q (by omega) p4
 have:=h2 q' (by omega) q2
 omega
def aRi(self:Int->Int->Int->List Int->Option (List Int))(s1 s2 d lim:Int)(s8 s9:Bool)(pv:Int)(w:List Int):Option (aUy⊕List Int):=
 AE (decide (0<s1)) (
  AV (0<=(AA .sub .i64 s1 1)/\(AA .sub .i64 s1 1)+1<=(w.length:Int)) (
   AU w (AA .sub .i64 s1 1) fun x12=>
   AV (0<=pv/\pv+1<=(w.length:Int)) (
    AU w pv fun x13=>
    AG (Yh x12 x13) fun r14=>
    AE (!r14) (
     AG (Xp s1 s2 pv w) fun r15=>
     some (.inl (r15.1,s2,lim,s8,s9,r15.2))) (
     AG (Xb s1 s2 pv w) fun r16=>
     AG (Fr self s1 s2 lim r16.2.1 r16.1 (AA .sub .i64 r16.1 s1) (AA .sub .i64 s2 r16.1) (AA .quo .i64 d 8) (decide ((AA .sub .i64 r16.1 s1)<(AA .sub .i64 s2 r16.1))) r16.2.2) fun o19=>
     some (.inl (o19.1,o19.2.1,lim,o19.2.2.1,r16.2.1,o19.2.2.2)))))) (
  AG (Xb s1 s2 pv w) fun r20=>
  AG (Fr self s1 s2 lim r20.2.1 r20.1 (AA .sub .i64 r20.1 s1) (AA .sub .i64 s2 r20.1) (AA .quo .i64 d 8) (decide ((AA .sub .i64 r20.1 s1)<(AA .sub .i64 s2 r20.1))) r20.2.2) fun o21=>
  some (.inl (o21.1,o21.2.1,lim,o21.2.2.1,r20.2.1,o21.2.2.2)))
theorem aRj{self:Int->Int->Int->List Int->Option (List Int)}{a b p:Nat}(d lim:Int)(s8 s9:Bool){w w1:List Int}(hS:Slf self (b-a))(hl:w.length<=60000)(hb:b<=w.length)(hp:a<=p/\p<b)(hab:a+2<=b)(h1:Pm a b w w1)(hL:Lo a b w1):
 ∃x,aRi self (a:Int) (b:Int) d lim s8 s9 (p:Int) w1=some (.inl x)/\Rd a b w x:=by
 have hl1:=h1.len
 have part:∃x,(AG (Xb (a:Int) (b:Int) (p:Int) w1) fun r20=>
  AG (Fr self (a:Int) (b:Int) lim r20.2.1 r20.1 (AA .sub .i64 r20.1 (a:Int)) (AA .sub .i64 (b:Int) r20.1) (AA .quo .i64 d 8) (decide ((AA .sub .i64 r20.1 (a:Int))<(AA .sub .i64 (b:Int) r20.1))) r20.2.2) fun o21=>
  some (.inl (o21.1,o21.2.1,lim,o21.2.2.1,r20.2.1,o21.2.2.2):aUy⊕List Int))=some (.inl x)/\Rd a b w x:=by
  obtain⟨o,f,w2,e1,e2,e3,e4,e5,e6⟩:=aZ1 a b p w1 (by omega) (by omega) hp hab
  obtain⟨y,f1,f2⟩:=aZa (o:=o) lim f (AA .quo .i64 d 8) hS hl hb e2 e3 (h1.trans e4) (hL.pm e4) e5 e6 (by omega)
  refine⟨_,?_,f2 y.2.2.1⟩
  rw[e1,AB]
  simp only
  rw[aCe (n:=o) (m:=a) (by omega),aCe (n:=b) (m:=o) (by omega),f1,AB]
 unfold aRi
 by_cases h0:0<a
 rw[decide_eq_true (by omega),AJ]
 by_cases hc:ga w1 (a-1)<ga w1 p
 obtain⟨x,x1,x2⟩:=part
 refine⟨x,?_,x2⟩
 rw[<-x1]
 simp (disch:=omega) only[Do,FN,Et,By,AB,hc,decide_true,Bool.not_true,AI]
 obtain⟨o,w2,e1,e2,e3,e4,e5⟩:=aZs a b p w1 (by omega) (by omega) hp hab
 have hL2:=hL.pm e4
 have ha:ga w2 (a-1)=ga w1 (a-1):=e4.out _ (by omega)
 refine⟨((o:Int),(b:Int),lim,s8,s9,w2),?_,⟨o,b,rfl,rfl,by omega,e3,Nat.le_refl _,by omega,h1.trans e4,fun q0 k k1 k2=>?_,fun p' q p1 p2 p3 p4=>?_,fun p' q p1 p2 p3 p4=>by omega⟩⟩
 simp (disch:=omega) only[Do,FN,Et,By,AB,hc,decide_false,Bool.not_false,AJ,e1]
 show ga w2 (o-1)<=ga w2 k
 have:=e5 (o-1) (by omega) (by omega)
 have:=hL2 h0 k (by omega) k2
 omega
 show ga w2 p'<=ga w2 q
 have:=e5 p' p1 p2
 have:=hL2 h0 q (by omega) p4
 omega
 rw[decide_eq_false (by omega),AI];exact part
theorem aY9{self:Int->Int->Int->List Int->Option (List Int)}{a b:Nat}(lim:Int)(s8 s9 fl:Bool)(t pv:Int){w1:List Int}(hl:w1.length<=60000)(hb:b<=w1.length)(hab:a<b)(hL:Lo a b w1):
 ∃o w2,Ju self (a:Int) (b:Int) lim s8 s9 t pv fl w1=some o/\Pm a b w1 w2/\(o=.inl w2\/o=.inr w2/\So a b w2):=by
 unfold Ju
 cases fl with
 |false=>exact⟨_,w1,rfl,Pm.refl _ _ _,.inl rfl⟩
 |true=>
  obtain⟨f,w2,e1,e2,e3⟩:=aZx a b w1 (by omega) hb hab hL
  rw[AJ,e1,AB]
  cases f with
  |true=>exact⟨_,w2,rfl,e2,.inr ⟨rfl,e3 rfl⟩⟩
  |false=>exact⟨_,w2,rfl,e2,.inl rfl⟩
theorem aY8{self:Int->Int->Int->List Int->Option (List Int)}{a b:Nat}(lim:Int)(s8 s9:Bool){w:List Int}(hS:Slf self (b-a))(hl:w.length<=60000)(hb:b<=w.length)(hab:a<=b)(hL:Lo a b w):
 ∃o,N4 self (a:Int) (b:Int) lim s8 s9 w=some o/\((∃w',o=.inr w'/\Pm a b w w'/\So a b w')\/∃x,o=.inl x/\Rd a b w x):=by
 unfold N4
 rw[aCe (n:=b) (m:=a) (by omega)]
 by_cases h12:b-a<=12
 obtain⟨w',e1,e2,e3⟩:=aZf a b w (by omega) hb hab
 exact⟨_,by rw[decide_eq_true (by omega),AJ,e1,AB],.inl ⟨w',rfl,e2,e3⟩⟩
 rw[decide_eq_false (by omega),AI]
 by_cases hlim:lim=0
 obtain⟨w',e1,e2,e3⟩:=aQ2 a b w (by omega) hb (by omega)
 exact⟨_,by rw[decide_eq_true hlim,AJ,e1,AB],.inl ⟨w',rfl,e2,e3⟩⟩
 rw[decide_eq_false hlim,AI]
 obtain⟨l1,w1,e1,e2⟩:∃l1 w1,N5 self (a:Int) (b:Int) lim s8 s9 ((b-a:Nat):Int) (!s8) w=some (l1,w1)/\Pm a b w w1:=by
  unfold N5;cases s8 with
  |true=>exact⟨_,_,rfl,Pm.refl _ _ _⟩
  |false=>
   obtain⟨w1,e1,e2⟩:=aTl a b w hl hb (by omega)
   exact⟨_,w1,by rw[Bool.not_false,AJ,e1,AB],e2⟩
 have hl1:=e2.len
 obtain⟨pv,hint,f1,p,rfl,p1,p2⟩:=aT5 a b w1 (by omega) (by omega) (by omega)
 obtain⟨p',hint',w2,g1,g2,g3,g4⟩:∃(p':Nat) (hint':Int) (w2:List Int),N6 self (a:Int) (b:Int) l1 s8 s9 ((b-a:Nat):Int) (p:Int) hint (decide (hint=2)) w1=some ((p':Int),hint',w2)/\a<=p'/\p'<b/\Pm a b w1 w2:=by unfold N6;by_cases h2:hint=2;obtain⟨w2,g1,g2⟩:=aUb a b w1 (by omega) (by omega) hab;refine⟨b-1-(p-a),1,w2,?_,by omega,by omega,g2⟩;rw[decide_eq_true h2,AJ,g1,AB,Do (by omega),aCe (n:=p) (m:=a) (by omega),aCe (n:=b-1) (m:=p-a) (by omega)];exact⟨p,hint,w1,by rw[decide_eq_false h2,AI],p1,p2,Pm.refl _ _ _⟩
 have h02:=e2.trans g4
 have hL2:=hL.pm h02
 have hl2:=h02.len
 have fin:∀fl:Bool,∃o,(AG (Ju self (a:Int) (b:Int) l1 s8 s9 ((b-a:Nat):Int) (p':Int) fl w2) fun o9=>
  Cd o9 (fun o10=>aRi self (a:Int) (b:Int) ((b-a:Nat):Int) l1 s8 s9 (p':Int) o10) (fun o11=>some (.inr o11)))=some o/\((∃w',o=.inr w'/\Pm a b w w'/\So a b w')\/∃x,o=.inl x/\Rd a b w x):=fun fl=>by
  obtain⟨o,w3,h1,h2,h3⟩:=aY9 (self:=self) l1 s8 s9 fl ((b-a:Nat):Int) (p':Int) (w1:=w2) (by omega) (by omega) (by omega) hL2
  rw[h1,AB]
  rcases h3 with rfl|⟨rfl,h3⟩
  obtain⟨x,x1,x2⟩:=aRj ((b-a:Nat):Int) l1 s8 s9 hS hl hb ⟨g2,g3⟩ (by omega) (h02.trans h2) (hL2.pm h2)
  exact⟨_,by rw[CQ,x1],.inr ⟨x,rfl,x2⟩⟩
  exact⟨_,D9 _ _ _,.inl ⟨w3,rfl,h02.trans h2,h3⟩⟩
 rw[e1,AB]
 simp only
 rw[f1,AB]
 simp only
 rw[g1,AB]
 simp only
 cases s8 with
 |true=>cases s9 with
  |true=>rw[AJ,AJ];exact fin (decide (hint'=1))
  |false=>rw[AJ,AI];exact fin false
 |false=>rw[AI];exact fin false
theorem aT4{self:Int->Int->Int->List Int->Option (List Int)}{N:Nat}(hS:Slf self N):∀(m a b:Nat) (lim:Int) (s8 s9:Bool) (w:List Int),b-a<=m->b-a<=N->w.length<=60000->b<=w.length->a<=b->Lo a b w->
 ∃w',Rx self (a:Int) (b:Int) lim s8 s9 w=some w'/\Pm a b w w'/\So a b w':=by
 intro m
 induction m using Nat.strongRecOn with
 |ind m ih=>
  intro a b lim s8 s9 w hm hN hl hb hab hL
  rw[aFm]
  unfold ID
  obtain⟨o,e1,e2⟩:=aY8 lim s8 s9 (fun a' b' l w' h1 h2 h3 h4 h5=>hS a' b' l w' (by omega) h2 h3 h4 h5) hl hb hab hL
  rw[e1,AB]
  rcases e2 with⟨w',rfl,f1,f2⟩|⟨x,rfl,f1⟩
  exact⟨w',by rw[D9,Ae],f1,f2⟩
  obtain⟨a',b',x1,x2,k1,k2,k3,k4,k5,k6,k7,k8⟩:=f1
  have hl5:=k5.len
  obtain⟨w',g1,g2,g3⟩:=ih (b'-a') (by omega) a' b' x.2.2.1 x.2.2.2.1 x.2.2.2.2.1 x.2.2.2.2.2 (Nat.le_refl _) (by omega) (by omega) (by omega) k2 k6
  refine⟨w',?_,k5.trans (g2.mono k1 k3),fun p q p1 p2 p3=>?_⟩
  rw[CQ,BF]
  simp only
  rw[x1,x2];exact g1
  by_cases c1:p<a'
  rw[g2.out p (by omega)]
  by_cases c2:a'<=q/\q<b'
  obtain⟨q',q1,q2,q3⟩:=g2.src q c2.1 c2.2
  rw[q3];exact k7 p q' p1 c1 (by omega) (by omega)
  rw[g2.out q (by omega)];exact k7 p q p1 c1 p2 p3
  by_cases c2:b'<=q
  rw[g2.out q (by omega)]
  by_cases c3:p<b'
  obtain⟨p',q1,q2,q3⟩:=g2.src p (by omega) c3
  rw[q3];exact k8 p' q (by omega) (by omega) c2 p3
  rw[g2.out p (by omega)];exact k8 p q p1 p2 c2 p3
  exact g3 p q (by omega) p2 (by omega)
theorem aZo:∀n,Slf (aNb n) n:=by
 intro n;induction n with
 |zero=>intro a b lim w h;omega
 |succ n ih=>
  intro a b lim w h1 h2 h3 h4 h5
  obtain⟨w',e1,e2,e3⟩:=aT4 ih (b-a) a b lim true true w (Nat.le_refl _) (by omega) h4 h3 h2 h5
  refine⟨w',?_,e2,e3⟩
  show aOr (aNb n) (a:Int) (b:Int) lim w=some w'
  unfold aOr
  rw[e1,AB]
theorem TX{w:List Int}(hl:w.length<=60000):∃w',Q0 w=some w'/\w'.Perm w/\w'.Pairwise (· <= ·):=by obtain⟨k,e1,_⟩:=aM7 (n:=w.length) (by omega);obtain⟨w',f1,f2,f3⟩:=aZo 100000 0 w.length (k:Int) w (by omega) (by omega) (Nat.le_refl _) hl (fun h=>by omega);refine⟨w',?_,f2.perm,?_⟩;unfold Q0;rw[As (by omega),e1,AB];have f1':Xf 0 (w.length:Int) (k:Int) w=some w':=f1;rw[f1',AB];rw[List.pairwise_iff_getElem];intro i j hi hj hij;have:=f3 i j (by omega) hij (by have:=f2.len;omega);rw[JK hi,JK hj];exact this
theorem Eq{l m:List Int}(h1:l.Pairwise (· <= ·))(h2:m.Pairwise (· <= ·))(hp:l.Perm m):l=m:=
 List.Perm.eq_of_pairwise (fun a b _ _ h3 h4=>by omega) h1 h2 hp
theorem Pf{w l:List Int}(hl:w.length<=60000)(hs:l.Pairwise (· <= ·))(hp:l.Perm w):Qm w=some l:=by unfold Qm;refine aQk fun p hp'=>?_;obtain⟨w',e1,e2,e3⟩:=TX (w:=p) (by rw[hp'.length_eq];exact hl);rw[e1,Eq e3 hs (e2.trans (hp'.trans hp.symm))]
theorem aA2{α:Type}{le:α->α->Bool}{x y:α}{l:List α}:y∈Mi le x l↔y=x\/y∈l:=by rw[(HH le x l).mem_iff,mc]
end
end Go.Ac
