/- Own work: the plain law. -/
import Derived.Test.YtgcfokfcilgnlaaGreatSh23m
import Derived.Test.YtgcfokfcilgnlaaGreatAcC
set_option linter.unusedVariables false
set_option linter.unusedSimpArgs false
namespace Go.Ac
noncomputable section
def vR(v:X0):Bool:=
 if v.kind=1 then decide (v.str=[])&& !v.bool
 else if v.kind=2 then decide (v.int=0)&& !v.bool&&decide (v.str.length<=4096)
 else if v.kind=3 then decide (v.int=0)&&decide (v.str=[])else false
theorem aSd(v:X0):Zn v=some (vR v):=by
 unfold Zn vR;have hc:decide ((v.str.length:Int)<=4096)=decide (v.str.length<=4096):=by
  by_cases h:v.str.length<=4096;have:(v.str.length:Int)<=4096:=by omega
  simp[h,this];have:¬(v.str.length:Int)<=4096:=by omega
  simp[h,this]
 rw[hc];by_cases h1:v.kind=1;by_cases hs:v.str=[]<;>simp[h1,hs,AE];by_cases h2:v.kind=2;by_cases hn:v.int=0<;>cases hb:v.bool<;>simp[h2,hn,AE];by_cases h3:v.kind=3;by_cases hn:v.int=0<;>simp[h3,hn,AE];simp[h1,h2,h3,AE]
theorem X0.eqb_dec(a b:X0):X0.eqb a b=decide (a=b):=by rw[Bool.eq_iff_iff,X0.eqb_iff];simp
def zV:X0:=⟨0,0,[],false⟩
def EF(l:List X2)(v:Int):X0×Bool:=match l.findSome? (fun s=>if s.var=v then some s.value else none)with
 |some x=>(x,true)
 |none=>(zV,false)
theorem aPv(l:List X2)(v:Int)(o:Unit⊕X0)(h:o=(l.findSome? (fun s=>if s.var=v then some (Sum.inr s.value:Unit⊕X0)else none)).getD (.inl ())):
 CH o (fun _=>some (X0.mk 0 0 ([]:List UInt8) false,false)) (fun o4=>some (o4,true))=some (EF l v):=by
 subst h
 have e:l.findSome? (fun s=>if s.var=v then some (Sum.inr s.value:Unit⊕X0)else none)=(l.findSome? (fun s=>if s.var=v then some s.value else none)).map Sum.inr:=by
  induction l with
  |nil=>rfl
  |cons s l ih=>rw[List.findSome?_cons,List.findSome?_cons];by_cases h:s.var=v<;>simp[h,ih]
 rw[e]
 unfold EF
 cases l.findSome? (fun s=>if s.var=v then some s.value else none)<;>rfl
theorem aHu(l:List X2)(v:Int)(hl:l.length<=9223372036854775807):Yk l v=some (EF l v):=by
 unfold Yk aN3;rw[DG l (fun _ s=>if s.var=v then some (Sum.inr s.value:Unit⊕X0)else none) (.inl ())
  (fun i x hx=>by simp only[Kx,ltD hx,AI,AN hx,Ag hx hl,Dj];by_cases h:x.var=v<;>simp[h])
  (by simp only[Kx,ltI,AG]),Dh,AB]
 exact aPv l v _ rfl
theorem aLb(v:X0):∃b,Zn v=some b:=by
 unfold Zn;simp only[BE];repeat' split
 all_goals exact⟨_,rfl⟩
theorem FQ{l:List X2}{v:Int}{x:X0}(h:EF l v=(x,true)):X2.mk v x∈l:=by unfold EF at h;split at h;rename_i y hy;cases h;obtain⟨s,hs,hv⟩:=List.exists_of_findSome?_eq_some hy;split at hv;rename_i e;cases hv;rw[<-e];exact hs;cases hv;cases h
theorem KP{β:Type}{a b n:Nat}(h:a+b<=1073741824)(hn:n<=131072)(k:Option β):AY (fit a b n) k=k:=Aw (B0 h hn) k
structure DF(q:AD):Prop where
 decls:q.decls.length<=12
 quants:q.quants.length<=9
 frees:q.frees.length<=12
 states:q.states.length<=12
 symbols:q.symbols.length<=12
 trans:q.trans.length<=12
 nodes:q.nodes.length<=40
 args:∀s∈q.symbols,s.args.length<=12
 sets:∀t∈q.trans,t.sets.length<=12
theorem Fl{α:Type}{l:List α}{R:α->Prop}(h:∀j,j<l.length->∀x,l[j]? =some x->R x):∀x∈l,R x:=by intro x hx;obtain⟨j,hj,rfl⟩:=List.mem_iff_getElem.1 hx;exact h j hj _ (List.getElem?_eq_getElem hj)
theorem aVc(q:AD):∃n,Xa q=some n/\(n≠0->DF q):=by
 unfold Xa;simp only[Dj];iterate 8 (split; · exact⟨0,rfl,by simp⟩)
 rename_i h1 h2 h3 h4 h5 h6 h7 h8;have hd:q.decls.length<=9223372036854775807:=by omega
 have hs:q.symbols.length<=9223372036854775807:=by omega
 have hf:q.frees.length<=9223372036854775807:=by omega
 have hn:q.nodes.length<=9223372036854775807:=by omega
 have ht:q.trans.length<=9223372036854775807:=by omega
 obtain⟨t1,e1,_⟩:=An (step:=fun s=>Hu q s) q.decls.length (fun _=>True) (fun _=>True)
  (fun i hi=>by
   obtain⟨x,hx,_⟩:=AZ hi;simp only[Hu,ltD hx,AI,AN hx,Ag hx hd];simp only[BE];repeat' split
   all_goals first|exact .inl ⟨rfl,trivial⟩|exact .inr ⟨_,rfl,trivial⟩)
  (fun _=>⟨.inl (),by simp only[Hu,ltI,AG],trivial⟩)
 obtain⟨t2,e2,Q2⟩:=An (step:=fun s=>Hv q s) q.symbols.length (fun i=>∀x,q.symbols[i]? =some x->x.args.length<=12) (fun t=>t=.inl ()->∀s∈q.symbols,s.args.length<=12)
  (fun i hi=>by
   obtain⟨x,hx,_⟩:=AZ hi;simp only[Hv,ltD hx,AI,AN hx,Ag hx hs,Dj];split;exact .inr ⟨_,rfl,by simp⟩;rename_i h12;obtain⟨t3,e3,_⟩:=An (step:=fun s=>Hx (i:Int) q s) x.args.length (fun _=>True) (fun _=>True)
    (fun j hj=>by obtain⟨y,hy,_⟩:=AZ hj;simp only[Hx,AN hx,ltD hy,AI,AN hy,Ag hy (show x.args.length<=9223372036854775807 by omega)];simp only[BE];split;exact .inr ⟨_,rfl,trivial⟩;exact .inl ⟨rfl,trivial⟩)
    (fun _=>⟨.inl (),by simp only[Hx,AN hx,ltI,AG],trivial⟩)
   unfold aMw;rw[e3,AB];rcases t3 with _|_
   exact .inl ⟨rfl,fun y hy=>by rw[hx]at hy;cases hy;omega⟩;exact .inr ⟨_,rfl,by simp⟩)
  (fun hP=>⟨.inl (),by simp only[Hv,ltI,AG],fun _=>Fl hP⟩)
 obtain⟨t4,e4,_⟩:=An (step:=fun s=>Hy q s) q.frees.length (fun _=>True) (fun _=>True)
  (fun i hi=>by obtain⟨x,hx,_⟩:=AZ hi;simp only[Hy,ltD hx,AI,AN hx,Ag hx hf];simp only[BE];split;exact .inr ⟨_,rfl,trivial⟩;exact .inl ⟨rfl,trivial⟩)
  (fun _=>⟨.inl (),by simp only[Hy,ltI,AG],trivial⟩)
 obtain⟨t5,e5,_⟩:=An (step:=fun s=>Hz q s) q.nodes.length (fun _=>True) (fun _=>True)
  (fun i hi=>by obtain⟨x,hx,_⟩:=AZ hi;simp only[Hz,ltD hx,AI,AN hx,Ag hx hn];simp only[BE];split;exact .inr ⟨_,rfl,trivial⟩;exact .inl ⟨rfl,trivial⟩)
  (fun _=>⟨.inl (),by simp only[Hz,ltI,AG],trivial⟩)
 obtain⟨t6,e6,Q6⟩:=An (step:=fun s=>H0 q s) q.trans.length (fun i=>∀x,q.trans[i]? =some x->x.sets.length<=12) (fun t=>t=.inl ()->∀s∈q.trans,s.sets.length<=12)
  (fun i hi=>by obtain⟨x,hx,_⟩:=AZ hi;simp only[H0,ltD hx,AI,AN hx,Ag hx ht,Dj];split;exact .inr ⟨_,rfl,by simp⟩;exact .inl ⟨rfl,fun y hy=>by rw[hx]at hy;cases hy;omega⟩)
  (fun hP=>⟨.inl (),by simp only[H0,ltI,AG],fun _=>Fl hP⟩)
 unfold aMu aMv aMx aMy aMz;rw[e1,AB,e2,e4,e5,e6];simp only[AB];rcases t1 with _|_<;>rcases t2 with _|_<;>rcases t4 with _|_<;>rcases t5 with _|_<;>rcases t6 with _|_<;>simp only[CR,ED]<;>
  first
  |exact⟨0,rfl,by simp⟩
  |exact⟨1,rfl,fun _=>⟨by omega,by omega,by omega,by omega,by omega,by omega,by omega,Q2 rfl,Q6 rfl⟩⟩
theorem aR7(s:List UInt8):∃b,Yx s=some b:=by
 unfold Yx;simp only[Dj];split;exact⟨_,rfl⟩;split;exact⟨_,rfl⟩;obtain⟨t1,e1,_⟩:=An (step:=fun i=>Io s i) s.length (fun _=>True) (fun _=>True)
  (fun i hi=>by
   obtain⟨x,hx,_⟩:=AZ hi;simp only[Io,ltD hx,AI,AN hx,Ag hx (show s.length<=9223372036854775807 by omega)];simp only[BE];repeat' split
   all_goals first|exact .inl ⟨rfl,trivial⟩|exact .inr ⟨_,rfl,trivial⟩)
  (fun _=>⟨.inl (),by simp only[Io,ltI,AG],trivial⟩)
 unfold aN8;rw[e1,AB];rcases t1 with _|_<;>exact⟨_,rfl⟩
theorem PH(s:List UInt8):∃b,Yl s=some b:=by
 unfold Yl Qz;rw[AB];generalize hw:([([97,99,99,101,112,116]:List UInt8),([97,108,115,111]:List UInt8),([97,110,100]:List UInt8),([98,111,111,108]:List UInt8),([100,111]:List UInt8),([101,118,101,110,116]:List UInt8),([101,120,105,115,116,115]:List UInt8),([102,97,108,115,101]:List UInt8),([102,111,114,97,108,108]:List UInt8),([102,114,101,101]:List UInt8),([105,102]:List UInt8),([105,110,116]:List UInt8),([110,101,120,116]:List UInt8),([110,111,116]:List UInt8),([111,110]:List UInt8),([111,114]:List UInt8),([113,101,97]:List UInt8),([115,107,105,112]:List UInt8),([115,116,97,114,116]:List UInt8),([115,116,114,105,110,103]:List UInt8),([116,111]:List UInt8),([116,114,117,101]:List UInt8)]:List (List UInt8))=ws;have hl:ws.length<=9223372036854775807:=by rw[<-hw];simp
 obtain⟨t1,e1,_⟩:=An (step:=fun i=>Ii s ws i) ws.length (fun _=>True) (fun _=>True)
  (fun i hi=>by obtain⟨x,hx,_⟩:=AZ hi;simp only[Ii,ltD hx,AI,AN hx,Ag hx hl];simp only[BE];split;exact .inr ⟨_,rfl,trivial⟩;exact .inl ⟨rfl,trivial⟩)
  (fun _=>⟨.inl (),by simp only[Ii,ltI,AG],trivial⟩)
 unfold aN4;rw[e1,AB];rcases t1 with _|_
 obtain⟨b,hb⟩:=aR7 s;rw[CR,hb,AB];cases b<;>exact⟨_,rfl⟩;exact⟨_,rfl⟩
def Ra(l:List Xe)(n:List UInt8):Option Nat:=if l.any (fun d=>decide (d.name=n))=true then some (l.findIdx fun d=>decide (d.name=n))else none
theorem aW1(l:List Xe)(n:List UInt8)(hl:l.length<=9223372036854775807):Z4 l n=some (match Ra l n with|some i=>(i:Int)|none=> -1):=by
 unfold Z4 aOf;rw[Dt l (fun d=>decide (d.name=n))
  (fun i x hx=>by simp only[Kz,ltD hx,AI,AN hx,Ag hx hl];simp only[BE];cases decide (x.name=n)<;>rfl)
  (by simp only[Kz,ltI,AG]),AB]
 unfold Ra;cases l.any _<;>rfl
theorem aJt{l:List Xe}{n:List UInt8}{j:Nat}{d:Xe}(hj:l[j]? =some d)(hn:d.name=n):∃i,Ra l n=some i/\i<=j:=by have ha:l.any (fun d=>decide (d.name=n))=true:=List.any_eq_true.2 ⟨d,List.mem_of_getElem? hj,by simpa using hn⟩;refine⟨l.findIdx fun d=>decide (d.name=n),by unfold Ra;rw[if_pos ha],?_⟩;refine Nat.le_of_not_lt fun hlt=>?_;have:=List.not_of_lt_findIdx hlt;obtain⟨h1,rfl⟩:=List.getElem?_eq_some_iff.1 hj;simp[hn]at this
def NI(l:List Xe):Prop:=∀j d,l[j]? =some d->Ra l d.name=some j
theorem aVz(l:List Xe)(hl:l.length<=9223372036854775807):∃r,Xz l=some r/\(r.1=0->NI l):=by
 unfold Xz;rw[Dj];split;exact⟨_,rfl,by simp⟩;obtain⟨t1,e1,Q1⟩:=An (step:=fun i=>E2 l i) l.length (fun i=>∀d,l[i]? =some d->Ra l d.name=some i) (fun t=>match t with| .inl _=>NI l| .inr r=>r.1≠0)
  (fun i hi=>by
   obtain⟨x,hx,_⟩:=AZ hi;obtain⟨b,hb⟩:=PH x.name;simp only[E2,ltD hx,AI,AN hx,Ag hx hl,hb,AB,aW1 l _ hl];cases b with
   |false=>exact .inr ⟨_,rfl,by simp⟩
   |true=>
    simp only[Bool.not_true,AG]
    obtain⟨k,hk,hki⟩:=aJt hx rfl
    rw[hk]
    dsimp only
    rw[Dj]
    split
    exact .inr ⟨_,rfl,by simp⟩
    ·rename_i hge
     rw[Dj]
     split
     exact .inr ⟨_,rfl,by simp⟩
     ·obtain⟨t2,e2,_⟩:=An (step:=fun s=>E3 l (i:Int) s) x.types.length (fun _=>True) (fun _=>True)
       (fun j hj=>by
        obtain⟨y,hy,_⟩:=AZ hj;simp only[E3,AN hx,ltD hy,AI,AN hy,Ag hy (show x.types.length<=9223372036854775807 by omega)];simp only[BE];repeat' split
        all_goals first|exact .inl ⟨rfl,trivial⟩|exact .inr ⟨_,rfl,trivial⟩)
       (fun _=>⟨.inl (),by simp only[E3,AN hx,ltI,AG],trivial⟩)
      unfold aFr
      rw[e2,AB]
      rcases t2 with _|_
      refine .inl ⟨rfl,fun d hd=>?_⟩
      rw[hx]at hd;cases hd
      have:k=i:=by omega
      rw[hk,this]
      exact .inr ⟨_,rfl,by simp⟩)
  (fun hP=>⟨.inl (),by simp only[E2,ltI,AG],fun j d hd=>hP j (DX hd) d hd⟩)
 unfold aFp;rw[e1,AB];rcases t1 with _|r
 exact⟨_,rfl,fun _=>Q1⟩;exact⟨_,rfl,fun h=>absurd h Q1⟩
theorem aLc(op:Int):∃r,Zu op 0 0=some r:=by unfold Zu;rw[show Qm 0 0=some (AA .add .i64 0 0,true) by simp[Qm,AE],show Zt 0 0=some (AA .sub .i64 0 0,true) by simp[Zt,AE],show Qn 0 0=some (0,true) by simp[Qn,AE],show Qo 0 0=some (0,0,7) by simp[Qo,AE]];simp only[AB,Zx,Bool.not_true,AG];refine Kk ?_;repeat' first|exact⟨_,rfl,trivial⟩|refine BT (fun _=>?_) (fun _=>?_)|refine Pa (fun _=>?_) (fun _=>?_)
theorem aYt(a b:Int):∃r,Zp ⟨a,0,[],false⟩ ⟨b,0,[],false⟩=some r:=by
 unfold Zp;have hb:Yp [] []=some false:=by unfold Yp aH0;rw[Al];simp[Gv,AE,CY,AJ,CH]
 simp only[hb,AB];refine Kk ?_;repeat' first|exact⟨_,rfl,trivial⟩|refine BT (fun _=>?_) (fun _=>?_)|refine Df (fun _=>?_) (fun _=>?_)|refine Pa (fun _=>?_) (fun _=>?_)
theorem aY1(op a b:Int):∃r,Qd op ⟨a,0,[],false⟩ ⟨b,0,[],false⟩=some r:=by unfold Qd;obtain⟨r1,h1⟩:=aYt a b;obtain⟨r2,h2⟩:=aYt b a;obtain⟨r3,h3⟩:=aLc 9;obtain⟨r4,h4⟩:=aLc op;have h4':Zu op 0 0=some r4:=h4;have hc:∀{β:Type} (k:Option β),AY (([]:List UInt8).length+([]:List UInt8).length<=9223372036854775807) k=k:=fun k=>Aw (by simp) k;simp only[Zm,AB,h1,h2,h3,h4',hc,AG];refine Kk ?_;repeat' first|exact⟨_,rfl,trivial⟩|refine BT (fun _=>?_) (fun _=>?_)|refine Df (fun _=>?_) (fun _=>?_)|refine Pa (fun _=>?_) (fun _=>?_)
theorem aSg(op a b:Int):∃r,Zy op a b=some r/\(r≠0->a≠0):=by unfold Zy;obtain⟨r,hr⟩:=aY1 op a b;rw[hr];simp only[AB];refine BT (fun _=>⟨_,rfl,by simp⟩) (fun h=>?_);repeat' first|exact⟨_,rfl,fun _=>by omega⟩|refine BT (fun _=>?_) (fun _=>?_)|refine Df (fun _=>?_) (fun _=>?_)
theorem YS{α:Type}{l:List α}{i:Int}(h0:0<=i)(h1:i<l.length):∃x,l[i.toNat]? =some x/\i=(i.toNat:Int):=by obtain⟨x,hx,_⟩:=AZ (l:=l) (i:=i.toNat) (by omega);exact⟨x,hx,by omega⟩
theorem D3{α β:Type}{l:List α}{i:Int}{x:α}(h:l[i.toNat]? =some x)(h0:0<=i)(k:α->Option β):AW l i k=k x:=by have e:AW l ((i.toNat:Nat):Int) k=k x:=AN h k;rwa [show((i.toNat:Nat):Int)=i by omega]at e
theorem aJm(q:AD)(hq:q.nodes.length<=2048):∀(n:Nat) (i:Int),-9223372036854775000<=i->0<n->i+1<n->∃r,aLa n q i=some r/\(r.1≠0->0<=r.2.2/\r.2.2<=i/\i<q.nodes.length):=by
 intro n;induction n with
 |zero=>intro i h0 h;omega
 |succ n ih=>
  intro i h0 _ h
  show∃r,aN9 (aLa n) q i=some r/\_
  unfold aN9
  refine BT (fun _=>⟨_,rfl,by simp⟩) (fun hi0=>?_)
  refine BT (fun _=>⟨_,rfl,by simp⟩) (fun hi1=>?_)
  obtain⟨x,hx,_⟩:=YS (l:=q.nodes) (i:=i) (by omega) (by omega)
  rw[D3 hx (by omega)]
  obtain⟨b,hb⟩:=aLb x.value
  have e1:AA .sub .i64 i 1=i-1:=aAx (by omega) (by omega)
  rw[e1]
  refine BT (fun _=>?_) (fun _=>?_)
  refine Df (fun _=>⟨_,rfl,by simp⟩) (fun _=>?_)
  refine Df (fun _=>⟨_,rfl,by simp⟩) (fun _=>?_)
  refine BY hb ?_
  exact Ep (fun _=>⟨_,rfl,by simp⟩) (fun _=>⟨_,rfl,fun _=>⟨by simp only;omega,Int.le_refl _,by omega⟩⟩)
  refine Ep (fun _=>⟨_,rfl,by simp⟩) (fun _=>?_)
  refine BT (fun _=>?_) (fun _=>?_)
  refine BT (fun _=>⟨_,rfl,by simp⟩) (fun _=>?_)
  refine BT (fun _=>⟨_,rfl,by simp⟩) (fun _=>?_)
  refine Df (fun _=>⟨_,rfl,by simp⟩) (fun _=>?_)
  obtain⟨y,hy,_⟩:=YS (l:=q.quants) (i:=x.a) (by omega) (by omega)
  rw[D3 hy (by omega)]
  exact⟨_,rfl,fun _=>⟨by simp only;omega,Int.le_refl _,by omega⟩⟩
  refine BT (fun _=>?_) (fun _=>?_)
  refine BT (fun _=>⟨_,rfl,by simp⟩) (fun _=>?_)
  refine BT (fun _=>⟨_,rfl,by simp⟩) (fun _=>?_)
  refine Df (fun _=>⟨_,rfl,by simp⟩) (fun _=>?_)
  obtain⟨y,hy,_⟩:=YS (l:=q.frees) (i:=x.a) (by omega) (by omega)
  rw[D3 hy (by omega)]
  exact⟨_,rfl,fun _=>⟨by simp only;omega,Int.le_refl _,by omega⟩⟩
  refine BT (fun _=>⟨_,rfl,by simp⟩) (fun _=>?_)
  refine BT (fun _=>⟨_,rfl,by simp⟩) (fun _=>?_)
  obtain⟨r5,h5,p5⟩:=ih (i-1) (by omega) (by omega) (by omega)
  refine BY h5 ?_
  refine BT (fun _=>?_) (fun _=>?_)
  refine BT (fun _=>⟨_,rfl,by simp⟩) (fun hk=>?_)
  refine Df (fun _=>⟨_,rfl,by simp⟩) (fun _=>?_)
  refine Df (fun _=>⟨_,rfl,by simp⟩) (fun _=>?_)
  obtain⟨r6,h6,_⟩:=aSg x.op r5.1 r5.1
  refine BY h6 ?_
  have:=p5 hk
  exact⟨_,rfl,fun _=>by simp only;omega⟩
  refine BT (fun _=>⟨_,rfl,by simp⟩) (fun hk=>?_)
  have hp:=p5 hk
  have e2:AA .sub .i64 r5.2.2 1=r5.2.2-1:=aAx (by omega) (by omega)
  rw[e2]
  refine Df (fun _=>⟨_,rfl,by simp⟩) (fun _=>?_)
  refine Df (fun _=>⟨_,rfl,by simp⟩) (fun _=>?_)
  obtain⟨r7,h7,p7⟩:=ih (r5.2.2-1) (by omega) (by omega) (by omega)
  refine BY h7 ?_
  obtain⟨r8,h8,p8⟩:=aSg x.op r7.1 r5.1
  refine BY h8 ?_
  refine⟨_,rfl,fun h=>?_⟩
  have:=p7 (p8 h)
  simp only;omega
theorem R0(q:AD)(hq:q.nodes.length<=2048)(f i:Int)(hi: -9223372036854775808<=i/\i<=9223372036854775807):∃r,Q7 q f i=some r/\(r.1≠0->0<=i/\i<q.nodes.length):=by
 unfold Q7 Yy;by_cases h:0<=i/\i<q.nodes.length;obtain⟨r,hr,_⟩:=aJm q hq 100000 i (by omega) (by omega) (by omega);refine BY hr ?_;refine BT (fun _=>⟨_,rfl,by simp⟩) (fun _=>?_);exact Df (fun _=>⟨_,rfl,by simp⟩) (fun _=>⟨_,rfl,fun _=>h⟩);have hz:aLa 100000 q i=some (0,0,0):=by show aN9 (aLa 99999) q i=_;unfold aN9;rw[Dj,Dj];split;rfl;rw[if_pos (by omega)]
 refine BY hz ?_;exact⟨(0,0),by simp[AE],by simp⟩
theorem Lv(s:X3)(v:Int)(hs:s.args.length<=9223372036854775807):∃r,Yv s v=some r:=by
 unfold Yv aN7;obtain⟨t,ht,_⟩:=An (step:=fun i=>In v s i) s.args.length (fun _=>True) (fun _=>True)
  (fun i hi=>by
   obtain⟨x,hx,_⟩:=AZ hi;simp only[In,ltD hx,AI,AN hx,Ag hx hs];simp only[BE];repeat' split
   all_goals first|exact .inl ⟨rfl,trivial⟩|exact .inr ⟨_,rfl,trivial⟩)
  (fun _=>⟨.inl (),by simp only[In,ltI,AG],trivial⟩)
 rw[ht,AB];rcases t with _|_<;>exact⟨_,rfl⟩
theorem YD(q:AD)(s:X3)(hs:s.args.length<=9223372036854775807)(hq:q.nodes.length<=2048)(f t:Int)(hf:0<=f)(ht:t<=q.nodes.length):∃r,Za q s f t=some r:=by
 unfold Za aOj;obtain⟨u,hu,_⟩:=BC (step:=fun i=>Iw t q s i) (fun i=>0<=i) (fun i=>(t-i).toNat) (fun _=>True)
  (by
   intro i hi;by_cases h:i<t
   ·obtain⟨x,hx,_⟩:=YS (l:=q.nodes) (i:=i) hi (by omega);obtain⟨b,hb⟩:=Lv s x.a hs;simp only[Iw,h,decide_true,AI,D3 hx hi,hb,AB,L8 (a:=i) (b:=1) (by omega) (by omega)];simp only[BE];repeat' split
    all_goals first|exact .inl ⟨_,rfl,trivial⟩|exact .inr ⟨_,rfl,by omega,by omega⟩
   exact .inl ⟨.inl (),by simp[Iw,h,AE],trivial⟩)
  f hf
 rw[hu,AB];rcases u with _|_<;>exact⟨_,rfl⟩
def aQ5(n:Int):Prop:= -9223372036854775808<=n/\n<=9223372036854775807
structure KC(t:Xd):Prop where
 guard:aQ5 t.guard
 sets:∀s∈t.sets,aQ5 s.expr
theorem aKw(q:AD)(hF:DF q)(t:Xd)(hT:KC t)(hts:t.sets.length<=12)(f:Int)(hf:0<=f)(hfl:f<=q.nodes.length):
 ∃r,Y0 q t f=some r/\(r.2=true->0<=t.symbol/\t.symbol<q.symbols.length/\0<=r.1/\r.1<=q.nodes.length/\(t.guard= -1\/0<=t.guard)/\(0<=t.from_/\t.from_<q.states.length)/\0<=t.to/\t.to<q.states.length):=by
 have hn:q.nodes.length<=2048:=Nat.le_trans hF.nodes (by decide)
 have hfr:q.frees.length<=12:=hF.frees
 unfold Y0
 refine BT (fun _=>⟨_,rfl,by simp⟩) (fun ha=>?_)
 refine BT (fun _=>⟨_,rfl,by simp⟩) (fun hb=>?_)
 refine BT (fun _=>⟨_,rfl,by simp⟩) (fun hc=>?_)
 refine BT (fun _=>⟨_,rfl,by simp⟩) (fun hd=>?_)
 refine BT (fun _=>⟨_,rfl,by simp⟩) (fun hs0=>?_)
 refine BT (fun _=>⟨_,rfl,by simp⟩) (fun hs1=>?_)
 obtain⟨o2,h2,p2⟩:∃o,Uy f f (!decide (t.guard=(-1))) q t=some o/\∀x,o=.inl x->0<=x/\x<=q.nodes.length/\(t.guard= -1\/0<=t.guard):=by unfold Uy;refine Df (fun _=>?_) (fun hg=>⟨_,rfl,fun x hx=>by cases hx;exact⟨hf,hfl,.inl hg⟩⟩);obtain⟨r1,h1,p1⟩:=R0 q hn f t.guard hT.guard;refine BY h1 ?_;refine Df (fun _=>⟨_,rfl,by simp⟩) (fun h3=>?_);refine BT (fun _=>⟨_,rfl,by simp⟩) (fun _=>?_);have:=p1 (by omega);refine⟨_,rfl,fun x hx=>?_⟩;cases hx;refine⟨?_,?_,.inr this.1⟩<;>(rw[L8 (by omega) (by omega)];omega)
 refine BY h2 ?_
 rcases o2 with o3|_
 have h3:=p2 o3 rfl
 rw[CR]
 unfold aNo
 obtain⟨u,hu,pu⟩:=BC (step:=fun s:Int×Int=>IR f q t s.1 s.2) (fun s=>∃i:Nat,s.2=(i:Int)/\i<=t.sets.length/\0<=s.1/\s.1<=q.nodes.length) (fun s=>(t.sets.length-s.2).toNat)
  (fun o=>∀x,o=.inl x->0<=x/\x<=q.nodes.length)
  (by
   rintro⟨w,s⟩ ⟨i,rfl,hi,hw0,hw1⟩;simp only at hw0 hw1⊢;by_cases he:i=t.sets.length;subst he;exact .inl ⟨.inl w,by simp only[IR,ltI,AG],fun x hx=>by cases hx;exact⟨hw0,hw1⟩⟩;obtain⟨x,hx,_⟩:=AZ (l:=t.sets) (i:=i) (by omega);obtain⟨r6,h6,p6⟩:=R0 q hn w x.expr (hT.sets x (List.mem_of_getElem? hx));have h6':Q7 q w x.expr=some r6:=h6;simp only[IR,ltD hx,AI,AN hx,h6',AB,Ag hx (show t.sets.length<=9223372036854775807 by omega)];by_cases g1:x.free<0;exact .inl ⟨.inr (),by simp[g1,AE],by simp⟩;by_cases g2:(q.frees.length:Int)<=x.free;exact .inl ⟨.inr (),by simp[g1,g2,AE],by simp⟩;by_cases g3:r6.1=0;exact .inl ⟨.inr (),by simp[g1,g2,g3,AE],by simp⟩;by_cases g4:64<r6.2;exact .inl ⟨.inr (),by simp[g1,g2,g3,g4,AE],by simp⟩;obtain⟨y,hy,_⟩:=YS (l:=q.frees) (i:=x.free) (by omega) (by omega);by_cases g5:r6.1=y.init_.kind;obtain⟨t3,e3,_⟩:=An (step:=fun s=>IS f (i:Int) q t x s) i (fun _=>True) (fun _=>True)
    (fun j hj=>by
     obtain⟨z,hz,_⟩:=AZ (l:=t.sets) (i:=j) (by omega);have hlt:decide ((j:Int)<(i:Int))=true:=by simp;omega
     simp only[IS,hlt,AI,AN hz,Ag hz (show t.sets.length<=9223372036854775807 by omega)];simp only[BE];split;exact .inr ⟨_,rfl,trivial⟩;exact .inl ⟨rfl,trivial⟩)
    (fun _=>⟨.inl (),by simp only[IS,ltI,AG],trivial⟩)
   have e3':aNp f (i:Int) q t x 0=some t3:=e3;have hp:=p6 g3;rcases t3 with _|_
   refine .inr ⟨(AA .add .i64 x.expr 1,((i+1:Nat):Int)),?_,⟨i+1,rfl,by omega,?_,?_⟩,by simp only;omega⟩;rw[Dj,if_neg g1,Dj,if_neg g2,Dj,if_neg g3,Dj,if_neg g4,D3 hy (show 0<=x.free by omega)];simp only[g5,decide_true,Bool.not_true,AG,e3',AB,CR];simp only;rw[L8 (by omega) (by omega)];omega;simp only;rw[L8 (by omega) (by omega)];omega;refine .inl ⟨.inr (),?_,by simp⟩;rw[Dj,if_neg g1,Dj,if_neg g2,Dj,if_neg g3,Dj,if_neg g4,D3 hy (show 0<=x.free by omega)];simp only[g5,decide_true,Bool.not_true,AG,e3',AB,ED];refine .inl ⟨.inr (),?_,by simp⟩;rw[Dj,if_neg g1,Dj,if_neg g2,Dj,if_neg g3,Dj,if_neg g4,D3 hy (show 0<=x.free by omega)];simp only[g5,decide_false,Bool.not_false,AI])
  (o3,(0:Int)) ⟨0,rfl,by omega,h3.1,h3.2.1⟩
 refine BY hu ?_
 rcases u with o13|_
 rw[CR]
 have h13:=pu o13 rfl
 obtain⟨x,hx,_⟩:=YS (l:=q.symbols) (i:=t.symbol) (by omega) (by omega)
 rw[D3 hx (by omega)]
 obtain⟨r16,h16⟩:=YD q x (Nat.le_trans (hF.args x (List.mem_of_getElem? hx)) (by decide)) hn f o13 hf h13.2
 refine BY h16 ⟨_,rfl,fun _=>⟨by omega,by omega,h13.1,h13.2,h3.2.2,⟨by omega,by omega⟩,by omega,by omega⟩⟩
 exact⟨_,rfl,by simp⟩
 exact⟨_,rfl,by simp⟩
structure Rw(q:AD)(a:BW):Prop where
 two:a.kind=2->0<=a.n/\a.n<q.quants.length
 three:a.kind=3->0<=a.n/\a.n<q.frees.length
 one:a.kind=1->vR a.value=true
theorem aUb(q:AD)(a:BW)(k:Int):∃r,Qe q a k=some r/\(r=true->Rw q a):=by unfold Qe;have hb:=aSd a.value;refine BT (fun h=>?_) (fun h1=>?_);have ho:vR a.value=true->Rw q a:=fun hv=>⟨fun h2=>by omega,fun h2=>by omega,fun _=>hv⟩;refine BT (fun _=>?_) (fun _=>⟨_,rfl,by simp⟩);refine BY hb ?_;exact Pa (fun hv=>⟨_,rfl,fun _=>ho hv⟩) (fun _=>⟨_,rfl,by simp⟩);refine Ep (fun _=>⟨_,rfl,by simp⟩) (fun _=>?_);refine BT (fun h2=>?_) (fun h2=>?_);refine BT (fun h3=>?_) (fun _=>⟨_,rfl,by simp⟩);refine BT (fun h4=>?_) (fun _=>⟨_,rfl,by simp⟩);obtain⟨y,hy,_⟩:=YS h3 h4;rw[D3 hy h3];exact⟨_,rfl,fun _=>⟨fun _=>⟨h3,h4⟩,fun h=>by omega,fun h=>by omega⟩⟩;refine BT (fun h5=>?_) (fun h5=>?_);refine BT (fun h3=>?_) (fun _=>⟨_,rfl,by simp⟩);refine BT (fun h4=>?_) (fun _=>⟨_,rfl,by simp⟩);obtain⟨y,hy,_⟩:=YS h3 h4;rw[D3 hy h3];exact⟨_,rfl,fun _=>⟨fun h=>by omega,fun _=>⟨h3,h4⟩,fun h=>by omega⟩⟩;exact BT (fun _=>⟨_,rfl,fun _=>⟨fun h=>by omega,fun h=>by omega,fun h=>by omega⟩⟩) (fun _=>⟨_,rfl,by simp⟩)
structure R8(q:AD)(s:X3):Prop where
 event:0<=s.event
 decl:∃d,q.decls[s.event.toNat]? =some d/\s.args.length=d.types.length
 args:∀a∈s.args,Rw q a
theorem aW3(q:AD)(s:X3)(hs:s.args.length<=12):∃r,Z6 q s=some r/\(r=true->R8 q s):=by
 unfold Z6;refine BT (fun _=>⟨_,rfl,by simp⟩) (fun h0=>?_);refine BT (fun _=>⟨_,rfl,by simp⟩) (fun h1=>?_);obtain⟨d,hd,_⟩:=YS (l:=q.decls) (i:=s.event) (by omega) (by omega);rw[D3 hd (by omega)];refine Df (fun _=>⟨_,rfl,by simp⟩) (fun h2=>?_);obtain⟨t,ht,hQ⟩:=An (step:=fun i=>Iu q s i) s.args.length (fun i=>∀a,s.args[i]? =some a->Rw q a) (fun t=>t=.inl ()->∀a∈s.args,Rw q a)
  (fun i hi=>by
   obtain⟨x,hx,_⟩:=AZ hi;obtain⟨y,hy,_⟩:=AZ (l:=d.types) (i:=i) (by omega);obtain⟨b,hb,hbo⟩:=aUb q x y;simp only[Iu,ltD hx,AI,AN hx,D3 hd (show 0<=s.event by omega),AN hy,hb,AB,Ag hx (show s.args.length<=9223372036854775807 by omega)];cases b with
   |false=>exact .inr ⟨_,rfl,by simp⟩
   |true=>exact .inl ⟨rfl,fun a ha=>by rw[hx]at ha;cases ha;exact hbo rfl⟩)
  (fun hP=>⟨.inl (),by simp only[Iu,ltI,AG],fun _=>Fl hP⟩)
 refine BY ht ?_;rcases t with _|_
 exact⟨_,rfl,fun _=>⟨by omega,⟨d,hd,by omega⟩,hQ rfl⟩⟩;exact⟨_,rfl,by simp⟩
theorem Ju(a b:X3)(ha:a.args.length<=9223372036854775807):∃r,Zg a b=some r:=by
 unfold Zg;refine Kk ?_;refine Df (fun _=>⟨_,rfl,trivial⟩) (fun _=>?_);refine Df (fun _=>⟨_,rfl,trivial⟩) (fun h=>?_);obtain⟨t,ht,_⟩:=An (step:=fun i=>I2 a b i) a.args.length (fun _=>True) (fun _=>True)
  (fun i hi=>by obtain⟨x,hx,_⟩:=AZ hi;obtain⟨y,hy,_⟩:=AZ (l:=b.args) (i:=i) (by omega);simp only[I2,ltD hx,AI,AN hx,AN hy,Ag hx ha];simp only[BE];split;exact .inr ⟨_,rfl,trivial⟩;exact .inl ⟨rfl,trivial⟩)
  (fun _=>⟨.inl (),by simp only[I2,ltI,AG],trivial⟩)
 refine BY ht ?_;rcases t with _|_<;>exact⟨_,rfl,trivial⟩
theorem aU9(q:AD)(hF:DF q)(hT:∀t∈q.trans,0<=t.symbol/\t.symbol<q.symbols.length):∃r,X7 q=some r/\(r=true->∀s∈q.symbols,R8 q s):=by
 have hsy:=hF.symbols;have htr:=hF.trans;have hqu:=hF.quants;unfold X7;rw[Aw ⟨by omega,B0 (by omega) (by decide)⟩];obtain⟨o9,h9,hl9⟩:=BC (step:=fun s:Int×List Bool×List Int=>Hn q s.1 s.2.1 s.2.2) (fun s=>∃i:Nat,s.1=(i:Int)/\i<=q.trans.length/\s.2.1.length=q.symbols.length/\s.2.2.length<=i) (fun s=>(q.trans.length-s.1).toNat) (fun o=>o.length<=12)
  (by
   rintro⟨s,u,w⟩ ⟨i,rfl,hi,hu,hw⟩;simp only at hu hw⊢;by_cases he:i=q.trans.length;subst he;exact .inl ⟨w,by simp only[Hn,ltI,AG],by omega⟩;obtain⟨x,hx,_⟩:=AZ (l:=q.trans) (i:=i) (by omega);have hxs:=hT x (List.mem_of_getElem? hx);obtain⟨y,hy,_⟩:=YS (l:=u) (i:=x.symbol) hxs.1 (by omega);have hb5:∃w',Sb (i:Int) x.symbol (!y) q u w=some w'/\w'.length<=i+1:=by unfold Sb;refine Ep (fun _=>?_) (fun _=>⟨_,rfl,by omega⟩);rw[KP (by simp;omega) (by decide)];exact⟨_,rfl,by simpa using hw⟩
   obtain⟨w',hb,hw'⟩:=hb5;refine .inr ⟨(((i+1:Nat):Int),u.set x.symbol.toNat true,w'),?_,⟨i+1,rfl,by omega,by simpa using hu,hw'⟩,by simp only;omega⟩;simp only[Hn,ltD hx,AI,Ag hx (show q.trans.length<=9223372036854775807 by omega)];unfold aCl;rw[AN hx,Aw (by omega),D3 hy hxs.1,hb,AB,Aw (by omega),Aw (by omega)];rfl)
  ((0:Int),List.replicate (q.symbols.length:Int).toNat false,([]:List Int)) ⟨0,rfl,by omega,by simp,by simp⟩
 refine BY h9 ?_;obtain⟨t1,e1,_⟩:=An (step:=fun s=>Ho q o9 s) o9.length (fun _=>True) (fun _=>True)
  (fun i hi=>by obtain⟨x,hx,_⟩:=AZ hi;simp only[Ho,ltD hx,AI,AN hx,Ag hx (show o9.length<=9223372036854775807 by omega)];simp only[BE];split;exact .inr ⟨_,rfl,trivial⟩;exact .inl ⟨rfl,trivial⟩)
  (fun _=>⟨.inl (),by simp only[Ho,ltI,AG],trivial⟩)
 refine BY e1 ?_;rcases t1 with _|_
 case inr=>exact⟨_,rfl,by simp⟩
 rw[CR];have hsl:q.symbols.length<=9223372036854775807:=by omega
 obtain⟨t2,e2,Q2⟩:=An (step:=fun s=>Hq q s) q.symbols.length (fun i=>∀s,q.symbols[i]? =some s->R8 q s) (fun t=>t=.inl ()->∀s∈q.symbols,R8 q s)
  (fun i hi=>by
   obtain⟨x,hx,_⟩:=AZ hi;have hxa:=hF.args x (List.mem_of_getElem? hx);obtain⟨b,hb,hbo⟩:=aW3 q x hxa;simp only[Hq,ltD hx,AI,AN hx,hb,AB,Ag hx hsl];cases b with
   |false=>exact .inr ⟨_,rfl,by simp⟩
   |true=>
    simp only[Bool.not_true,AG]
    obtain⟨t3,e3,_⟩:=An (step:=fun s=>Hr (i:Int) q s) i (fun _=>True) (fun _=>True)
     (fun j hj=>by
      obtain⟨y,hy,_⟩:=AZ (l:=q.symbols) (i:=j) (by omega);obtain⟨c,hc⟩:=Ju x y (by omega);have hlt:decide ((j:Int)<(i:Int))=true:=by simp;omega
      simp only[Hr,hlt,AI,AN hx,AN hy,hc,AB,Ag hy hsl];simp only[BE];split;exact .inr ⟨_,rfl,trivial⟩;exact .inl ⟨rfl,trivial⟩)
     (fun _=>⟨.inl (),by simp only[Hr,ltI,AG],trivial⟩)
    unfold aMr
    rw[e3,AB]
    rcases t3 with _|_
    exact .inl ⟨rfl,fun s hs=>by rw[hx]at hs;cases hs;exact hbo rfl⟩
    exact .inr ⟨_,rfl,by simp⟩)
  (fun hP=>⟨.inl (),by simp only[Hq,ltI,AG],fun _=>Fl hP⟩)
 refine BY e2 ?_;rcases t2 with _|_
 case inr=>exact⟨_,rfl,by simp⟩
 rw[CR];obtain⟨t4,e4,_⟩:=An (step:=fun s=>Hs q s) q.quants.length (fun _=>True) (fun _=>True)
  (fun i hi=>by
   have hlt:decide ((i:Int)<(q.quants.length:Int))=true:=by simp;omega
   obtain⟨o,ho,_⟩:=BC (step:=fun s:Bool×Int=>FE (i:Int) q s.1 s.2) (fun s=>∃j:Nat,s.2=(j:Int)/\j<=q.symbols.length) (fun s=>(q.symbols.length-s.2).toNat) (fun _=>True)
    (by
     rintro⟨b,s⟩ ⟨j,rfl,hj⟩;simp only;by_cases he:j=q.symbols.length;subst he;exact .inl ⟨b,by simp only[FE,ltI,AG],trivial⟩;obtain⟨x,hx,_⟩:=AZ (l:=q.symbols) (i:=j) (by omega);have hxa:=hF.args x (List.mem_of_getElem? hx);obtain⟨c,hc⟩:=Lv x (i:Int) (by omega);have hc':Yv x (i:Int)=some c:=hc;cases b with
     |true=>exact .inr ⟨(true,((j+1:Nat):Int)),by simp only[FE,ltD hx,AI,Ag hx hsl],⟨j+1,rfl,by omega⟩,by simp only;omega⟩
     |false=>exact .inr ⟨(c,((j+1:Nat):Int)),by simp only[FE,ltD hx,AI,AG,AN hx,hc',AB,Ag hx hsl],⟨j+1,rfl,by omega⟩,by simp only;omega⟩)
    (false,(0:Int)) ⟨0,rfl,by omega⟩
   have ho':Sc (i:Int) q false 0=some o:=ho;simp only[Hs,hlt,AI,ho',AB,M5 (show i<9223372036854775807 by omega)];simp only[BE];split;exact .inr ⟨_,rfl,trivial⟩;exact .inl ⟨rfl,trivial⟩)
  (fun _=>⟨.inl (),by simp only[Hs,ltI,AG],trivial⟩)
 refine BY e4 ?_;rcases t4 with _|_
 exact⟨_,rfl,fun _=>Q2 rfl⟩;exact⟨_,rfl,by simp⟩
theorem M9(l:List (List UInt8))(at':Nat)(h:at'<l.length)(hl:l.length<=9223372036854775807):∃r,Z5 l (at':Int)=some r:=by
 unfold Z5;refine Kk ?_;obtain⟨y,hy,_⟩:=AZ h;obtain⟨t,ht,_⟩:=An (step:=fun i=>It l (at':Int) i) at' (fun _=>True) (fun _=>True)
  (fun i hi=>by
   obtain⟨x,hx,_⟩:=AZ (l:=l) (i:=i) (by omega);have hlt:decide ((i:Int)<(at':Int))=true:=by simp;omega
   simp only[It,hlt,AI,AN hx,AN hy,Ag hx hl];simp only[BE];split;exact .inr ⟨_,rfl,trivial⟩;exact .inl ⟨rfl,trivial⟩)
  (fun _=>⟨.inl (),by simp only[It,ltI,AG],trivial⟩)
 refine BY ht ?_;rcases t with _|_<;>exact⟨_,rfl,trivial⟩
theorem aRw(q:AD)(hF:DF q):∃r,Xi q=some r:=by
 have h1:=hF.quants;have h2:=hF.frees;have h3:=hF.states;unfold Xi;refine Kk ?_;obtain⟨o7,e7,p7⟩:=BC (step:=fun s:Int×List (List UInt8)=>IA q s.1 s.2) (fun s=>∃i:Nat,s.1=(i:Int)/\i<=q.quants.length/\s.2.length<=i) (fun s=>(q.quants.length-s.1).toNat) (fun o=>∀w,o=.inl w->w.length<=9)
  (by rintro⟨s,w⟩ ⟨i,rfl,hi,hw⟩;simp only at hw⊢;by_cases he:i=q.quants.length;subst he;exact .inl ⟨.inl w,by simp only[IA,ltI,AG],fun w' hw'=>by cases hw';omega⟩;obtain⟨x,hx,_⟩:=AZ (l:=q.quants) (i:=i) (by omega);simp only[IA,ltD hx,AI,AN hx,Ag hx (show q.quants.length<=9223372036854775807 by omega)];rw[KP (by simp;omega) (by decide)];simp only[BE];split;exact .inl ⟨_,rfl,by simp⟩;split;exact .inl ⟨_,rfl,by simp⟩;exact .inr ⟨_,rfl,⟨i+1,rfl,by omega,by simpa using hw⟩,by simp only;omega⟩)
  ((0:Int),([]:List (List UInt8))) ⟨0,rfl,by omega,by simp⟩
 refine BY e7 ?_;rcases o7 with o8|_
 case inr=>exact⟨_,rfl,trivial⟩
 rw[CR];have hw8:=p7 o8 rfl;obtain⟨o13,e13,p13⟩:=BC (step:=fun s:Int×List (List UInt8)=>IB q s.1 s.2) (fun s=>∃i:Nat,s.1=(i:Int)/\i<=q.frees.length/\s.2.length<=9+i) (fun s=>(q.frees.length-s.1).toNat) (fun o=>∀w,o=.inl w->w.length<=21)
  (by rintro⟨s,w⟩ ⟨i,rfl,hi,hw⟩;simp only at hw⊢;by_cases he:i=q.frees.length;subst he;exact .inl ⟨.inl w,by simp only[IB,ltI,AG],fun w' hw'=>by cases hw';omega⟩;obtain⟨x,hx,_⟩:=AZ (l:=q.frees) (i:=i) (by omega);obtain⟨b,hb⟩:=aLb x.init_;simp only[IB,ltD hx,AI,AN hx,hb,AB,Ag hx (show q.frees.length<=9223372036854775807 by omega)];rw[KP (by simp;omega) (by decide)];simp only[BE];split;exact .inl ⟨_,rfl,by simp⟩;exact .inr ⟨_,rfl,⟨i+1,rfl,by omega,by simp;omega⟩,by simp only;omega⟩)
  ((0:Int),o8) ⟨0,rfl,by omega,by simpa using hw8⟩
 refine BY e13 ?_;rcases o13 with o14|_
 case inr=>exact⟨_,rfl,trivial⟩
 rw[CR];have hw14:=p13 o14 rfl;obtain⟨t,ht,_⟩:=An (step:=fun i=>IC q o14 i) o14.length (fun _=>True) (fun _=>True)
  (fun i hi=>by
   obtain⟨x,hx,_⟩:=AZ hi;obtain⟨b,hb⟩:=PH x;obtain⟨c,hc⟩:=M9 o14 i hi (by omega);simp only[IC,ltD hx,AI,AN hx,hb,hc,AB,Ag hx (show o14.length<=9223372036854775807 by omega)];simp only[BE];repeat' split
   all_goals first|exact .inl ⟨rfl,trivial⟩|exact .inr ⟨_,rfl,trivial⟩)
  (fun _=>⟨.inl (),by simp only[IC,ltI,AG],trivial⟩)
 refine BY ht ?_;rcases t with _|_
 case inr=>exact⟨_,rfl,trivial⟩
 rw[CR];obtain⟨o30,e30,_⟩:=BC (step:=fun s:Int×List (List UInt8)=>ID q s.1 s.2) (fun s=>∃i:Nat,s.1=(i:Int)/\i<=q.states.length/\s.2.length=i) (fun s=>(q.states.length-s.1).toNat) (fun _=>True)
  (by
   rintro⟨s,w⟩ ⟨i,rfl,hi,hw⟩;simp only at hw⊢;by_cases he:i=q.states.length;subst he;exact .inl ⟨.inl (),by simp only[ID,ltI,AG],trivial⟩;obtain⟨x,hx,_⟩:=AZ (l:=q.states) (i:=i) (by omega);have hg:(w++[x.name])[i]? =some x.name:=by rw[<-hw];simp
   obtain⟨b,hb⟩:=PH x.name;obtain⟨c,hc⟩:=M9 (w++[x.name]) i (by simp;omega) (by simp;omega);simp only[ID,ltD hx,AI,AN hx,Ag hx (show q.states.length<=9223372036854775807 by omega)];rw[KP (by simp;omega) (by decide),AN hg,hb,AB,hc];simp only[AB,BE];split;exact .inl ⟨_,rfl,trivial⟩;split;exact .inl ⟨_,rfl,trivial⟩;exact .inr ⟨_,rfl,⟨i+1,rfl,by omega,by simp;omega⟩,by simp only;omega⟩)
  ((0:Int),([]:List (List UInt8))) ⟨0,rfl,by omega,by simp⟩
 refine BY e30 ?_;rcases o30 with _|_
 obtain⟨b,hb⟩:=PH q.name;rw[CR];exact BY hb ⟨_,rfl,trivial⟩;exact⟨_,rfl,trivial⟩
structure Af(q:AD):Prop where
 decls:NI q.decls
 quants:q.quants.length<=8
 symbols:∀s∈q.symbols,R8 q s
 guards:∀t∈q.trans,t.guard= -1\/0<=t.guard
 ends : ∀ t ∈ q.trans, (0 <= t.symbol /\ t.symbol < q.symbols.length) /\ (0 <= t.from_ /\ t.from_ < q.states.length) /\ 0 <= t.to /\ t.to < q.states.length
 fires:∀t∈q.trans,∃f r,Y0 q t f=some (r,true)
theorem aWn(q:AD)(hF:DF q)(hW:∀t∈q.trans,KC t):∃r,Yq q=some r/\(r=true->Af q):=by
 have h1:=hF.decls;have h2:=hF.trans;unfold Yq;obtain⟨r1,e1,p1⟩:=aVz q.decls (by omega);refine BY e1 ?_;refine Df (fun _=>⟨_,rfl,by simp⟩) (fun hz=>?_);refine BT (fun _=>⟨_,rfl,by simp⟩) (fun hq=>?_);refine BT (fun _=>⟨_,rfl,by simp⟩) (fun _=>?_);refine BT (fun _=>⟨_,rfl,by simp⟩) (fun _=>?_);refine BT (fun _=>⟨_,rfl,by simp⟩) (fun _=>?_);refine BT (fun _=>⟨_,rfl,by simp⟩) (fun _=>?_);refine BT (fun _=>⟨_,rfl,by simp⟩) (fun _=>?_);refine BT (fun _=>⟨_,rfl,by simp⟩) (fun _=>?_);refine BT (fun _=>⟨_,rfl,by simp⟩) (fun _=>?_);obtain⟨r2,e2⟩:=aRw q hF;refine BY e2 ?_;refine Ep (fun _=>⟨_,rfl,by simp⟩) (fun _=>?_);obtain⟨o5,e5,p5⟩:=BC (step:=fun s:Int×Int=>Ik q s.1 s.2) (fun s=>∃i:Nat,s.2=(i:Int)/\i<=q.trans.length/\0<=s.1/\s.1<=q.nodes.length/\∀j,j<i->∀t,q.trans[j]? =some t->0<=t.symbol/\t.symbol<q.symbols.length/\(t.guard= -1\/0<=t.guard)/\(0<=t.from_/\t.from_<q.states.length)/\0<=t.to/\t.to<q.states.length/\∃f r,Y0 q t f=some (r,true)) (fun s=>(q.trans.length-s.2).toNat)
  (fun o=>∀w,o=.inl w->∀t∈q.trans,0<=t.symbol/\t.symbol<q.symbols.length/\(t.guard= -1\/0<=t.guard)/\(0<=t.from_/\t.from_<q.states.length)/\0<=t.to/\t.to<q.states.length/\∃f r,Y0 q t f=some (r,true))
  (by
   rintro⟨w,s⟩ ⟨i,rfl,hi,hw0,hw1,hP⟩;simp only at hw0 hw1 hP⊢;by_cases he:i=q.trans.length;subst he;exact .inl ⟨.inl w,by simp only[Ik,ltI,AG],fun _ _=>Fl hP⟩;obtain⟨x,hx,_⟩:=AZ (l:=q.trans) (i:=i) (by omega);have hxm:=List.mem_of_getElem? hx;obtain⟨r4,e4,p4⟩:=aKw q hF x (hW x hxm) (hF.sets x hxm) w hw0 hw1;simp only[Ik,ltD hx,AI,AN hx,e4,AB,Ag hx (show q.trans.length<=9223372036854775807 by omega)];cases hb:r4.2 with
   |false=>exact .inl ⟨.inr (),rfl,by simp⟩
   |true=>
    have hp:=p4 hb
    refine .inr ⟨(r4.1,((i+1:Nat):Int)),rfl,⟨i+1,rfl,by omega,hp.2.2.1,hp.2.2.2.1,fun j hj t ht=>?_⟩,by simp only;omega⟩
    rcases Nat.lt_or_ge j i with h|h
    exact hP j h t ht
    have:j=i:=by omega
    subst this;rw[hx]at ht;cases ht;exact⟨hp.1,hp.2.1,hp.2.2.2.2.1,hp.2.2.2.2.2.1,hp.2.2.2.2.2.2.1,hp.2.2.2.2.2.2.2,w,r4.1,by rw[e4,<-hb]⟩)
  ((0:Int),(0:Int)) ⟨0,rfl,by omega,by simp,by simp,fun j hj=>by omega⟩
 refine BY e5 ?_;rcases o5 with o6|_
 rw[CR];refine BT (fun _=>?_) (fun _=>⟨_,rfl,by simp⟩);obtain⟨r8,e8,p8⟩:=aU9 q hF (fun t ht=>⟨(p5 o6 rfl t ht).1,(p5 o6 rfl t ht).2.1⟩);refine BY e8 ⟨_,rfl,fun hr=>⟨p1 hz,by omega,p8 hr,fun t ht=>(p5 o6 rfl t ht).2.2.1,fun t ht=>⟨⟨(p5 o6 rfl t ht).1,(p5 o6 rfl t ht).2.1⟩,(p5 o6 rfl t ht).2.2.2.1,(p5 o6 rfl t ht).2.2.2.2.1,(p5 o6 rfl t ht).2.2.2.2.2.1⟩,fun t ht=>(p5 o6 rfl t ht).2.2.2.2.2.2⟩⟩;exact⟨_,rfl,by simp⟩
theorem aY3{i j:Nat}(h:i+j<4611686018427387904):IntKind.wrap .i64 (AA .shr .u64 (IntKind.wrap .u64 (AA .add .i64 (i:Int) (j:Int))) 1)=(((i+j)/2:Nat):Int):=by
 have e1:AA .add .i64 (i:Int) (j:Int)=((i+j:Nat):Int):=by rw[L8 (by omega) (by omega)];omega
 rw[e1,Aq (by omega)];have e2:AA .shr .u64 (((i+j:Nat)):Int) 1=(((i+j)/2^1:Nat):Int):=aT0 (n:=i+j) (k:=1) (by decide);rw[e2,Nat.pow_one,aQn (by omega) (by omega)]
theorem aPh{step:Int×Int->Option ((Int×Int)⊕Int)}(n:Nat)(lt:Nat->Bool)
 (h1:∀i j:Nat,i<j->j<=n->step ((i:Int),(j:Int))=some (.inl (if lt ((i+j)/2)=true then((((i+j)/2+1:Nat):Int),(j:Int))else((i:Int),(((i+j)/2:Nat):Int)))))
 (h2:∀i:Nat,step ((i:Int),(i:Int))=some (.inr (i:Int))) (hm:∀a b,a<=b->b<n->lt b=true->lt a=true):
 ∃k:Nat,k<=n/\AQ step (0,(n:Int))=some (k:Int)/\(∀a,a<k->lt a=true)/\∀a,k<=a->a<n->lt a=false:=by
 obtain⟨t,ht,k,hk,rfl,p1,p2⟩:=BC (step:=step) (fun s=>∃i j:Nat,s=((i:Int),(j:Int))/\i<=j/\j<=n/\(∀a,a<i->lt a=true)/\∀a,j<=a->a<n->lt a=false) (fun s=>(s.2-s.1).toNat)
  (fun t=>∃k:Nat,k<=n/\t=(k:Int)/\(∀a,a<k->lt a=true)/\∀a,k<=a->a<n->lt a=false)
  (by
   rintro s ⟨i,j,rfl,hij,hj,q1,q2⟩;rcases Nat.lt_or_ge i j with h|h
   right;cases hl:lt ((i+j)/2)with
   |true=>
    refine⟨((((i+j)/2+1:Nat):Int),(j:Int)),by rw[h1 i j h hj,hl];rfl,⟨(i+j)/2+1,j,rfl,by omega,hj,fun a ha=>hm a ((i+j)/2) (by omega) (by omega) hl,q2⟩,by simp only;omega⟩
   |false=>
    refine⟨((i:Int),(((i+j)/2:Nat):Int)),by rw[h1 i j h hj,hl];rfl,⟨i,(i+j)/2,rfl,by omega,by omega,q1,fun a ha hn=>?_⟩,by simp only;omega⟩
    rcases Nat.lt_or_ge a j with g|g
    cases hla:lt a with
    |false=>rfl
    |true=>rw[hm ((i+j)/2) a ha hn hla]at hl;cases hl
    exact q2 a g hn
   have:i=j:=by omega
   subst this;exact .inl ⟨(i:Int),h2 i,i,hj,rfl,q1,q2⟩)
  (0,(n:Int)) ⟨0,n,rfl,by omega,Nat.le_refl _,fun a ha=>by omega,fun a ha hn=>by omega⟩
 exact⟨k,hk,ht,p1,p2⟩

def SV(w:List X2):Prop:=w.Pairwise (fun a b=>a.var<b.var)/\∀s∈w,0<=s.var/\s.var<=63
theorem HC:∀{a b:List X2},a.Pairwise (fun x y=>x.var<y.var)->b.Pairwise (fun x y=>x.var<y.var)->(∀s,s∈a↔s∈b)->a=b
 |[],[],_,_,_=>rfl
 |[],y::b,_,_,h=>by have:=(h y).2 (by simp);simp at this
 |x::a,[],_,_,h=>by have:=(h x).1 (by simp);simp at this
 |x::a,y::b,ha,hb,h=>by
  obtain⟨ha1,ha2⟩:=List.pairwise_cons.1 ha;obtain⟨hb1,hb2⟩:=List.pairwise_cons.1 hb;have hxy:x=y:=by
   rcases mc.1 ((h x).1 (by simp))with e|e
   exact e;rcases mc.1 ((h y).2 (by simp))with e2|e2
   exact e2.symm;have:=hb1 x e;have:=ha1 y e2;omega
  subst hxy;congr 1;refine HC ha2 hb2 fun s=>⟨fun hs=>?_,fun hs=>?_⟩;rcases mc.1 ((h s).1 (List.mem_cons_of_mem _ hs))with e|e
  subst e;have:=ha1 s hs;omega;exact e;rcases mc.1 ((h s).2 (List.mem_cons_of_mem _ hs))with e|e
  subst e;have:=hb1 s hs;omega;exact e
def N8:List X2->X2->List X2
 |[],x=> [x]
 |y::l,x=>if x.var<y.var then x::y::l else y::N8 l x
theorem EW:∀(l:List X2) (x s:X2),s∈N8 l x↔s=x\/s∈l
 |[],x,s=>by simp[N8]
 |y::l,x,s=>by
  unfold N8;split;simp;rw[mc,EW l x s,mc];constructor;rintro(h|h|h)<;>simp[h];rintro(h|h|h)<;>simp[h]
theorem Fr:∀(l:List X2) (x:X2),l.Pairwise (fun a b=>a.var<b.var)->(∀s∈l,s.var≠x.var)->(N8 l x).Pairwise (fun a b=>a.var<b.var)
 |[],x,_,_=>by simp[N8]
 |y::l,x,h,hn=>by
  obtain⟨h1,h2⟩:=List.pairwise_cons.1 h;unfold N8;split;rename_i hxy;refine List.pairwise_cons.2 ⟨fun s hs=>?_,h⟩;rcases mc.1 hs with rfl|hs
  exact hxy;have:=h1 s hs;omega;rename_i hxy;refine List.pairwise_cons.2 ⟨fun s hs=>?_,Fr l x h2 fun s hs=>hn s (List.mem_cons_of_mem _ hs)⟩;rcases(EW l x s).1 hs with rfl|hs
  have:=hn y (by simp);omega;exact h1 s hs
theorem Pf:∀(l:List X2) (x:X2),(N8 l x).length=l.length+1
 |[],x=>rfl
 |y::l,x=>by unfold N8;split<;>simp[Pf l x]
theorem JQ{l:List X2}{v:Int}(h:(EF l v).2=false):∀s∈l,s.var≠v:=by
 intro s hs e;unfold EF at h;cases hf:l.findSome? (fun s=>if s.var=v then some s.value else none)with
 |some x=>rw[hf]at h;cases h
 |none=>
  rw[List.findSome?_eq_none_iff]at hf
  have:=hf s hs
  simp[e]at this
theorem Fq{l:List X2}(hl:l.Pairwise (fun a b=>a.var<b.var)){s:X2}(h:s∈l):EF l s.var=(s.value,true):=by
 have key:∀(l:List X2),l.Pairwise (fun a b=>a.var<b.var)->s∈l->l.findSome? (fun t=>if t.var=s.var then some t.value else none)=some s.value:=by
  intro l;induction l with
  |nil=>intro _ h;simp at h
  |cons t l ih=>
   intro hp hs
   rw[List.findSome?_cons]
   obtain⟨h1,h2⟩:=List.pairwise_cons.1 hp
   rcases mc.1 hs with rfl|hs
   simp
   have:=h1 s hs
   rw[if_neg (by omega)]
   exact ih h2 hs
 unfold EF;rw[key l hl h]
def Mu(w:List X2)(x:X2):Option (List X2):=if(EF w x.var).2=true then(if(EF w x.var).1=x.value then some w else none)else some (N8 w x)
theorem Jj{w w':List X2}{x:X2}(hw:SV w)(hx:0<=x.var/\x.var<=63)(h:Mu w x=some w'):SV w'/\w'.length<=w.length+1:=by
 unfold Mu at h;split at h;split at h;cases h;exact⟨hw,by omega⟩;cases h;rename_i hn;cases h;have hn':(EF w x.var).2=false:=by simpa using hn
 refine⟨⟨Fr w x hw.1 (JQ hn'),fun s hs=>?_⟩,by rw[Pf];exact Nat.le_refl _⟩;rcases(EW w x s).1 hs with rfl|hs
 exact hx;exact hw.2 s hs
theorem aPm{w:List X2}{x:X2}(hw:w.Pairwise (fun a b=>a.var<b.var))(hn:∀s∈w,s.var≠x.var){k:Nat}(hk:k<=w.length)(h1:∀j s,w[j]? =some s->j<k->s.var<x.var)(h2:∀j s,w[j]? =some s->k<=j->x.var<s.var):
 w.take k++[x]++w.drop k=N8 w x:=by
 refine HC ?_ (Fr w x hw hn) fun s=>?_
 rw[List.append_assoc,List.singleton_append]
 have hd:∀s∈w.drop k,x.var<s.var:=fun s hs=>by obtain⟨j,hj,rfl⟩:=List.mem_iff_getElem.1 hs;rw[List.getElem_drop];exact h2 (k+j) _ (List.getElem?_eq_getElem (by simp at hj;omega)) (by omega)
 have htk:∀s∈w.take k,s.var<x.var:=fun s hs=>by obtain⟨j,hj,rfl⟩:=List.mem_iff_getElem.1 hs;rw[List.getElem_take];simp at hj;exact h1 j _ (List.getElem?_eq_getElem (by omega)) (by omega)
 refine List.pairwise_append.2 ⟨hw.sublist (List.take_sublist _ _),List.pairwise_cons.2 ⟨hd,hw.sublist (List.drop_sublist _ _)⟩,fun a ha b hb=>?_⟩
 rcases mc.1 hb with rfl|hb
 exact htk a ha
 have:=htk a ha;have:=hd b hb;omega
 rw[EW]
 have hw2:s∈w↔s∈w.take k\/s∈w.drop k:=by
  conv=>lhs;rw[<-List.take_append_drop k w]
  rw[ma]
 rw[hw2]
 simp only[ma,List.mem_singleton]
 constructor
 rintro((h|h)|h)<;>simp[h]
 rintro(h|h|h)<;>simp[h]
def HP:List BW->List X0->List X2->List X2->Option (List X2×List X2)
 |a::al,x::xs,b,f=>
  if a.kind=1 then(if a.value=x then HP al xs b f else none)
  else if a.kind=2 then(match Mu b ⟨a.n,x⟩with|none=>none|some b'=>HP al xs b' f)
  else if a.kind=3 then(match Mu f ⟨a.n,x⟩with|none=>none|some f'=>HP al xs b f')
  else HP al xs b f
 |_,_,b,f=>some (b,f)
def aTr(a:BW):Prop:=(a.kind=2->0<=a.n/\a.n<=7)/\(a.kind=3->0<=a.n/\a.n<=63)
def B7(b:List X2):Prop:=∀s∈b,s.var<=7
theorem aL1{w w':List X2}{x:X2}(hw:B7 w)(hx:x.var<=7)(h:Mu w x=some w'):B7 w':=by
 unfold Mu at h;split at h;split at h;cases h;exact hw;cases h;cases h;intro s hs;rcases(EW w x s).1 hs with rfl|hs
 exact hx;exact hw s hs
theorem JN:∀(al:List BW) (xs:List X0) (b f:List X2) (p:List X2×List X2),(∀a∈al,aTr a)->SV b->SV f->B7 b->HP al xs b f=some p->SV p.1/\SV p.2/\B7 p.1/\p.1.length<=b.length+al.length/\p.2.length<=f.length+al.length
 |[],xs,b,f,p,_,hb,hf,h7,h=>by simp only[HP]at h;cases h;exact⟨hb,hf,h7,by simp,by simp⟩
 |a::al,[],b,f,p,_,hb,hf,h7,h=>by simp only[HP]at h;cases h;exact⟨hb,hf,h7,by simp,by simp⟩
 |a::al,x::xs,b,f,p,hA,hb,hf,h7,h=>by
  have hA':∀a∈al,aTr a:=fun a h=>hA a (List.mem_cons_of_mem _ h);have hAa:=hA a (by simp);simp only[HP]at h;split at h;split at h;obtain⟨a1,a2,a3,a4,a5⟩:=JN al xs b f p hA' hb hf h7 h;exact⟨a1,a2,a3,by simp;omega,by simp;omega⟩;cases h;split at h;rename_i h2;split at h;cases h;rename_i b' hp;have hv:=hAa.1 h2;obtain⟨c1,c2⟩:=Jj hb (x:=⟨a.n,x⟩) ⟨hv.1,by simp only;omega⟩ hp;obtain⟨a1,a2,a3,a4,a5⟩:=JN al xs b' f p hA' c1 hf (aL1 h7 (by simp only;omega) hp) h;exact⟨a1,a2,a3,by simp;omega,by simp;omega⟩;split at h;rename_i h3;split at h;cases h;rename_i f' hp;have hv:=hAa.2 h3;obtain⟨c1,c2⟩:=Jj hf (x:=⟨a.n,x⟩) hv hp;obtain⟨a1,a2,a3,a4,a5⟩:=JN al xs b f' p hA' hb c1 h7 h;exact⟨a1,a2,a3,by simp;omega,by simp;omega⟩;obtain⟨a1,a2,a3,a4,a5⟩:=JN al xs b f p hA' hb hf h7 h;exact⟨a1,a2,a3,by simp;omega,by simp;omega⟩
def aJu(a b:List X2):Bool:=a.all fun s=> !(EF b s.var).2||decide ((EF b s.var).1=s.value)
theorem aW5(a b:List X2)(ha:a.length<=9223372036854775807)(hb:b.length<=9223372036854775807):Z7 a b=some (aJu a b):=by
 unfold Z7 aOg;rw[Jb a (fun s=> !(EF b s.var).2||decide ((EF b s.var).1=s.value)) (.inl ():Unit⊕Unit) (.inr ())
  (fun i x hx=>by simp only[K0,ltD hx,AI,AN hx,Ag hx ha,aHu b _ hb,AB,X0.eqb_dec];obtain⟨y,o⟩:=EF b x.var;cases o;simp[AE];by_cases h:y=x.value<;>simp[AE,h])
  (by simp only[K0,ltI,AG]),AB]
 unfold aJu;cases a.all _<;>rfl
theorem Hc(x:X2)(v:Int):EF [x] v=if x.var=v then(x.value,true)else(zV,false):=by unfold EF;by_cases h:x.var=v<;>simp[h]
def FD(a b:List X2)(v:Nat):Option X2:=
 if(EF a v).2=true then some ⟨v,(EF a v).1⟩else if(EF b v).2=true then some ⟨v,(EF b v).1⟩else none
def Jr(a b:List X2):List X2:=(List.range 8).filterMap (FD a b)
theorem aV7(a b:List X2)(ha:a.length<=9223372036854775807)(hb:b.length<=9223372036854775807):Y5 a b=some (Jr a b):=by
 unfold Y5 aNs;have hg:∀(l:List X2) (v:Int),l.length<=9223372036854775807->Yk l v=some (EF l v):=fun l v hl=>aHu l v hl;have h:=Ci (step:=fun s:Int×List X2=>IZ a b s.1 s.2) (List.range 8) (fun w v=>w++(FD a b v).toList) (fun w=>w) (fun i w=>w.length<=i)
  (fun i x w hx hI=>by
   have hi:i<8:=by simpa using DX hx
   have hxi:x=i:=by rw[List.getElem?_range hi]at hx;cases hx;rfl
   subst hxi;have hd:decide ((x:Int)<8)=true:=by simp;omega
   refine⟨?_,?_⟩;simp only[IZ,hd,AI,aGd,hg a _ ha,hg b _ hb,AB,aGf,aGh,M5 (show x<9223372036854775807 by omega),FD];rw[KP (by simp;omega) (by decide),KP (by simp;omega) (by decide)];cases(EF a (x:Int)).2<;>cases(EF b (x:Int)).2<;>simp[AE,AJ];unfold FD;split;simpa using hI;split;simpa using hI;simp;omega)
  (fun w _=>by simp[IZ,AE]) [] (by simp)
 rw[h,AB];congr 1;unfold Jr;have key:∀(l:List Nat) (w:List X2),l.foldl (fun w v=>w++(FD a b v).toList) w=w++l.filterMap (FD a b):=by
  intro l;induction l with
  |nil=>intro w;simp
  |cons v l ih=>intro w;rw[List.foldl_cons,ih,List.filterMap_cons];cases FD a b v<;>simp
 rw[key];simp
theorem HE{a b:List X2}{v:Nat}{s:X2}(h:FD a b v=some s):s.var=(v:Int):=by unfold FD at h;split at h;cases h;rfl;split at h;cases h;rfl;cases h
theorem Ll(a b:List X2):(Jr a b).Pairwise (fun x y=>x.var<y.var):=by
 unfold Jr;have h8:(List.range 8).Pairwise (· < ·):=List.pairwise_lt_range
 rw[List.pairwise_filterMap];refine h8.imp fun{v w} hvw s hs t ht=>?_;have:=HE hs;have:=HE ht;omega
theorem Rr{a b:List X2}{s:X2}:s∈Jr a b↔0<=s.var/\s.var<=7/\(EF a s.var=(s.value,true)\/(EF a s.var).2=false/\EF b s.var=(s.value,true)):=by
 unfold Jr;rw[List.mem_filterMap];constructor;rintro⟨v,hv,h⟩;have hv8:v<8:=by simpa using hv
 have hsv:=HE h;refine⟨by omega,by omega,?_⟩;rw[hsv];unfold FD at h;split at h;rename_i ha;cases h;left;simp only;rw[<-ha];rename_i ha;split at h;rename_i hb;cases h;right;exact⟨by simpa using ha,by simp only;rw[<-hb]⟩;cases h;rintro⟨h0,h7,h⟩;refine⟨s.var.toNat,by simp;omega,?_⟩;have e:((s.var.toNat:Nat):Int)=s.var:=by omega
 unfold FD;rw[e];rcases h with h|⟨h,h'⟩
 rw[h];simp;rw[h,h'];simp
theorem aJv{b:List X2}{x:X2}(hb:SV b):aJu b [x]=(Mu b x).isSome:=by
 unfold aJu Mu;cases hg:(EF b x.var).2 with
 |true=>
  have hm:=FQ (l:=b) (v:=x.var) (x:=(EF b x.var).1) (by rw[<-hg])
  by_cases hv:(EF b x.var).1=x.value
  simp only[if_true,hv,Option.isSome_some]
  rw[List.all_eq_true]
  intro s hs
  rw[Hc]
  by_cases h:x.var=s.var
  have:=Fq hb.1 hs
  rw[<-h]at this
  rw[this]at hv
  simp[h,<-hv]
  simp[h]
  simp only[if_true,hv,if_false,Option.isSome_none]
  rw[List.all_eq_false]
  refine⟨_,hm,?_⟩
  rw[Hc]
  simp
  exact fun h=>hv h.symm
 |false=>
  simp only[Bool.false_eq_true,if_false,Option.isSome_some]
  rw[List.all_eq_true]
  intro s hs
  rw[Hc]
  have:=JQ hg s hs
  have h':¬x.var=s.var:=fun h=>this h.symm
  simp[h']
theorem aBb{b w:List X2}{x:X2}(hb:SV b)(h7:B7 b)(hx:0<=x.var/\x.var<=7)(h:Mu b x=some w):Jr b [x]=w:=by
 have hw:=Jj hb (x:=x) ⟨hx.1,by omega⟩ h;refine HC (Ll _ _) hw.1.1 fun s=>?_;rw[Rr,Hc];unfold Mu at h;split at h;rename_i hg;split at h;rename_i hv;cases h;constructor;rintro⟨_,_,h1|⟨h1,h2⟩⟩;exact FQ h1;split at h2;rename_i e;rw[e]at hg;rw[h1]at hg;cases hg;simp at h2;intro hs;exact⟨(hb.2 s hs).1,h7 s hs,.inl (Fq hb.1 hs)⟩;cases h;rename_i hg;have hg':(EF b x.var).2=false:=by simpa using hg
 cases h;rw[EW];constructor;rintro⟨_,_,h1|⟨h1,h2⟩⟩;exact .inr (FQ h1);split at h2;rename_i e;left;obtain⟨a,c⟩:=s;obtain⟨a',c'⟩:=x;simp only at e h2;subst e;simp at h2;rw[h2];simp at h2;rintro(rfl|hs);exact⟨hx.1,hx.2,.inr ⟨hg',by simp⟩⟩;exact⟨(hb.2 s hs).1,h7 s hs,.inl (Fq hb.1 hs)⟩
theorem aWy{w:List X2}{x:X2}(hw:SV w)(hn:∀s∈w,s.var≠x.var)(hl:w.length<=1000):Z2 w x=some (N8 w x):=by
 unfold Z2 aOd;obtain⟨t,ht,k,hk,rfl,p1,p2⟩:=BC (step:=fun s=>Ir w x s) (fun s=>∃i:Nat,s=(i:Int)/\i<=w.length/\∀j s,w[j]? =some s->i<=j->x.var<s.var) (fun s=>s.toNat)
  (fun t=>∃k:Nat,k<=w.length/\t=(k:Int)/\(∀j s,w[j]? =some s->j<k->s.var<x.var)/\∀j s,w[j]? =some s->k<=j->x.var<s.var)
  (by
   rintro s ⟨i,rfl,hi,hj⟩;cases i with
   |zero=>exact .inl ⟨0,by simp[Ir,AE],0,by omega,rfl,fun j s _ h=>by omega,hj⟩
   |succ i=>
    obtain⟨y,hy,_⟩:=AZ (l:=w) (i:=i) (by omega)
    have e:AA .sub .i64 ((i+1:Nat):Int) 1=(i:Int):=by rw[aAx (by omega) (by omega)];omega
    have hd:decide ((0:Int)<((i+1:Nat):Int))=true:=by simp
    simp only[Ir,hd,AI,e,AN hy]
    by_cases h:x.var<y.var
    refine .inr ⟨_,by simp only[h,decide_true,AI],⟨i,rfl,by omega,fun j s hs hij=>?_⟩,by omega⟩
    rcases Nat.eq_or_lt_of_le hij with g|g
    subst g;rw[hy]at hs;cases hs;exact h
    exact hj j s hs g
    refine .inl ⟨_,by simp only[h,decide_false,AG],i+1,hi,rfl,fun j s hs hij=>?_,hj⟩
    have hyx:y.var<x.var:=by have:=hn y (List.mem_of_getElem? hy);omega
    rcases Nat.lt_or_ge j i with g|g
    obtain⟨a1,rfl⟩:=List.getElem?_eq_some_iff.1 hs
    obtain⟨a2,rfl⟩:=List.getElem?_eq_some_iff.1 hy
    have:=List.pairwise_iff_getElem.1 hw.1 j i a1 a2 g;omega
    have:j=i:=by omega
    subst this;rw[hy]at hs;cases hs;exact hyx)
  (w.length:Int) ⟨w.length,rfl,Nat.le_refl _,fun j s hs hij=>by have:=DX hs;omega⟩
 rw[ht,AB];have es:sub w 0 (k:Int)=w.take k:=by rw[show(0:Int)=((0:Nat):Int)from rfl,aA0];rfl
 rw[es,aAz,Aw (by omega),KP (by simp;omega) (by decide),KP (by simp;omega) (by decide),Aw (by omega),KP (by simp;omega) (by decide)];rw[List.nil_append,aPm hw.1 hn hk p1 p2]
theorem aJ0{al:List BW}{e:X8}{sy:X3}{s1 w6:Int}{w9:Ar}(hsy:sy.args=al)(hlen:al.length=e.args.length)(h12:al.length<=12)(hA:∀a∈al,aTr a):∀(n i:Nat) (b f:List X2),al.length-i=n->i<=al.length->SV b->SV f->B7 b->b.length<=i->f.length<=i->
 QM s1 e w6 sy w9 b f (i:Int)=some (match HP (al.drop i) (e.args.drop i) b f with|none=>.inr ()|some p=>.inl p):=by
 subst hsy
 intro n
 induction n with
 |zero=>
  intro i b f hn hi _ _ _ _ _
  have:i=sy.args.length:=by omega
  subst this
  rw[O5]
  simp only[IK,ltI,AG,Ad]
  rw[List.drop_length];simp[HP]
 |succ n ih=>
  intro i b f hn hi hb hf h7 hbl hfl
  obtain⟨a,ha,hda⟩:=AZ (l:=sy.args) (i:=i) (by omega)
  obtain⟨x,hx,hdx⟩:=AZ (l:=e.args) (i:=i) (by omega)
  have hAa:=hA a (List.mem_of_getElem? ha)
  rw[O5,hda,hdx]
  simp only[IK,ltD ha,AI,aEs,AN ha,AN hx,Ag ha (show sy.args.length<=9223372036854775807 by omega),X0.eqb_dec,UM,UN,UO]
  simp only[HP]
  by_cases h1:a.kind=1
  have h2:¬a.kind=2:=by omega
  have h3:¬a.kind=3:=by omega
  by_cases hv:a.value=x
  have ho:=ih (i+1) b f (by omega) (by omega) hb hf h7 (by omega) (by omega)
  simp[h1,hv,AE,CY,AJ,CH];exact_mod_cast ho
  simp[h1,hv,AE,CY,AJ,CH]
  by_cases h2:a.kind=2
  have h3:¬a.kind=3:=by omega
  have hvr:=hAa.1 h2
  rw[aW5 _ _ (by omega) (by simp),aJv (x:=⟨a.n,x⟩) hb,aV7 _ _ (by omega) (by simp)]
  cases hp:Mu b ⟨a.n,x⟩with
  |none=>simp[h1,h2,AE,CY,AJ,CH]
  |some b'=>
   obtain⟨c1,c2⟩:=Jj hb (x:=⟨a.n,x⟩) ⟨hvr.1,by simp only;omega⟩ hp
   rw[aBb hb h7 (x:=⟨a.n,x⟩) hvr hp]
   have ho:=ih (i+1) b' f (by omega) (by omega) c1 hf (aL1 h7 (by simp only;omega) hp) (by omega) (by omega)
   simp[h1,h2,h3,AE,CY,AJ,CH];exact_mod_cast ho
  by_cases h3:a.kind=3
  have hvr:=hAa.2 h3
  rw[aHu f _ (by omega)]
  unfold Mu
  simp only
  cases hg:(EF f a.n).2 with
  |true=>
   by_cases hv:(EF f a.n).1=x
   have ho:=ih (i+1) b f (by omega) (by omega) hb hf h7 (by omega) (by omega)
   simp[h1,h2,h3,hg,hv,AE,CY,AJ,CH];exact_mod_cast ho
   simp[h1,h2,h3,hg,hv,AE,CY,AJ,CH]
  |false=>
   have hp:Mu f ⟨a.n,x⟩=some (N8 f ⟨a.n,x⟩):=by unfold Mu;simp[hg]
   obtain⟨c1,c2⟩:=Jj hf (x:=⟨a.n,x⟩) hvr hp
   have ho:=ih (i+1) b (N8 f ⟨a.n,x⟩) (by omega) (by omega) hb c1 h7 (by omega) (by omega)
   have hput:=aWy (w:=f) (x:=⟨a.n,x⟩) hf (JQ hg) (by omega)
   simp[h1,h2,h3,hg,AE,CY,AJ,CH,YX,hput];exact_mod_cast ho
  have ho:=ih (i+1) b f (by omega) (by omega) hb hf h7 (by omega) (by omega)
  simp[h1,h2,h3,AE,CY,AJ,CH];exact_mod_cast ho
def JT(q:AD)(i:Nat)(e:X8):Option Ar:=match q.symbols[i]? with
 |none=>none
 |some s=>match q.decls[s.event.toNat]? with
  |none=>none
  |some d=>if d.name=e.name/\s.args.length=e.args.length then(HP s.args e.args [] []).map fun p=>⟨i,p.1,p.2⟩else none
theorem aK7:SV []:=⟨List.Pairwise.nil,by simp⟩
theorem aYu{q:AD}(hF:DF q)(hR:Af q){s:X3}(hs:s∈q.symbols):∀a∈s.args,aTr a:=fun a ha=>by have:=(hR.symbols s hs).args a ha;have h8:=hR.quants;have hf:=hF.frees;exact⟨fun h=>by have:=this.two h;omega,fun h=>by have:=this.three h;omega⟩
def aQx(o:Option Ar):Ar×Bool:=match o with
 |some h=>(h,true)
 |none=>(⟨0,[],[]⟩,false)
theorem aVn{q:AD}(hF:DF q)(hR:Af q){e:X8}{i:Nat}(hi:i<q.symbols.length):Xq q i e=some (aQx (JT q i e)):=by
 obtain⟨s,hs,_⟩:=AZ hi;have hsm:=List.mem_of_getElem? hs;have hso:=hR.symbols s hsm;obtain⟨d,hd,hdl⟩:=hso.decl;unfold Xq JT;rw[AN hs,D3 hd hso.event,hs,aP1];simp only[hd];by_cases hn:d.name=e.name;by_cases hlen:s.args.length=e.args.length;have h12:=hF.args s hsm;have ho:=aJ0 (sy:=s) (s1:=(i:Int)) (w6:=0) (w9:=⟨0,[],[]⟩) rfl hlen h12 (aYu hF hR hsm) _ 0 [] [] rfl (by omega) aK7 aK7 (fun s hs=>by simp at hs) (by simp) (by simp);rw[show(0:Int)=((0:Nat):Int)from rfl]at ho⊢;simp only[List.drop_zero]at ho;simp only[hn,hlen,and_self,if_true,decide_true,Bool.not_true,AG];rw[show QM (i:Int) e ((0:Nat):Int) s (Ar.mk ((0:Nat):Int) [] []) [] [] ((0:Nat):Int)=_ from ho,AB];cases HP s.args e.args [] []with
 |none=>simp[CH,aQx]
 |some p=>simp[CH,aQx]
 simp[hn,hlen,AE,aQx];simp[hn,AE,aQx]
theorem J2{α β:Type}(g:α->Option β):∀(l:List α) (w:List β),l.foldl (fun w v=>w++(g v).toList) w=w++l.filterMap g:=by
 intro l;induction l with
 |nil=>intro w;simp
 |cons v l ih=>intro w;rw[List.foldl_cons,ih,List.filterMap_cons];cases g v<;>simp
theorem aAf{n i x:Nat}(h:(List.range n)[i]? =some x):x=i/\i<n:=by
 have hi:i<n:=by simpa using DX h
 rw[List.getElem?_range hi]at h;cases h;exact⟨rfl,hi⟩
theorem aLj:∀x:List UInt8,Op.bytesLess x x=false
 |[]=>rfl
 |a::x=>by simp[Op.bytesLess,aLj x]
theorem PP:∀{x y z:List UInt8},Op.bytesLess x y=true->Op.bytesLess y z=true->Op.bytesLess x z=true
 |[],[],_,h,_=>by simp[Op.bytesLess]at h
 |_::_,[],_,h,_=>by simp[Op.bytesLess]at h
 |[],_::_,[],_,h=>by simp[Op.bytesLess]at h
 |[],_::_,_::_,_,_=>rfl
 |_::_,_::_,[],_,h=>by simp[Op.bytesLess]at h
 |a::x,b::y,c::z,h1,h2=>by
  simp only[Op.bytesLess,Bool.or_eq_true,ba,decide_eq_true_eq,beq_iff_eq]at h1 h2⊢;rcases h1 with h1|⟨rfl,h1⟩
  rcases h2 with h2|⟨rfl,h2⟩
  exact .inl (UInt8.lt_trans h1 h2);exact .inl h1;rcases h2 with h2|⟨rfl,h2⟩
  exact .inl h2;exact .inr ⟨rfl,PP h1 h2⟩
theorem aLk:∀{x y:List UInt8},x≠y->Op.bytesLess x y=true\/Op.bytesLess y x=true
 |[],[],h=>absurd rfl h
 |_::_,[],_=>.inr rfl
 |[],_::_,_=>.inl rfl
 |a::x,b::y,h=>by
  simp only[Op.bytesLess,Bool.or_eq_true,ba,decide_eq_true_eq,beq_iff_eq];by_cases hab:a=b;subst hab;rcases aLk (x:=x) (y:=y) (fun e=>h (by rw[e]))with g|g
  exact .inl (.inr ⟨rfl,g⟩);exact .inr (.inr ⟨rfl,g⟩);have:a<b\/b<a:=by rw[UInt8.lt_iff_toNat_lt,UInt8.lt_iff_toNat_lt];have:a.toNat≠b.toNat:=fun e=>hab (UInt8.toNat_inj.1 e);omega
  rcases this with g|g
  exact .inl (.inl g);exact .inr (.inl g)
theorem YB:∀(x y:List UInt8),(match ((x.zip y).findSome? fun z=>if z.1=z.2 then none else some (Sum.inr (decide (z.1<z.2)):Unit⊕Bool)).getD (.inl ())with| .inl _=>decide (x.length<y.length)| .inr b=>b)=Op.bytesLess x y
 |[],[]=>rfl
 |_::_,[]=>rfl
 |[],_::_=>by simp[Op.bytesLess]
 |a::x,b::y=>by
  rw[List.zip_cons_cons,List.findSome?_cons];by_cases h:a=b;subst h;simp only[if_true,Op.bytesLess,beq_self_eq_true,Bool.true_and,<-YB x y];have:decide (a<a)=false:=by simp
  rw[this,Bool.false_or];simp only[List.length_cons,Nat.add_lt_add_iff_right];simp[h,Op.bytesLess]
theorem aWl(x y:List UInt8)(hx:x.length<=9223372036854775807)(hy:y.length<=9223372036854775807):Yp x y=some (Op.bytesLess x y):=by
 unfold Yp aH0;have hz:(x.zip y).length=min x.length y.length:=by simp
 rw[DG (x.zip y) (fun _ z=>if z.1=z.2 then none else some (Sum.inr (decide (z.1<z.2)):Unit⊕Bool)) (.inl ())
  (fun i z h=>by obtain⟨h1,h2⟩:=aQq h;simp only[Gv,ltD h1,ltD h2,AI,AN h1,AN h2,Ag h1 hx];by_cases e:z.1=z.2;simp[e,AE];have:¬(z.1.toNat:Int)=(z.2.toNat:Int):=fun g=>e (UInt8.toNat_inj.1 (by omega));have:(decide ((z.1.toNat:Int)<(z.2.toNat:Int)))=decide (z.1<z.2):=decide_eq_decide.2 (by rw[UInt8.lt_iff_toNat_lt];omega);rw[this,if_neg e];simp[*,AE])
  (by
   rw[hz];rcases Nat.le_total x.length y.length with h|h
   rw[Nat.min_eq_left h];simp only[Gv,ltI,AG];rw[Nat.min_eq_right h];simp only[Gv,ltI,AG];cases decide ((y.length:Int)<(x.length:Int))<;>rfl),AB,Dh,<-YB]
 cases((x.zip y).findSome? fun z=>if z.1=z.2 then none else some (Sum.inr (decide (z.1<z.2)):Unit⊕Bool)).getD (.inl ())<;>simp[CH]
def ltV(a b:X0):Bool:=if a.kind=b.kind then(if a.kind=1 then decide (a.int<b.int)else if a.kind=2 then Op.bytesLess a.str b.str else !a.bool&&b.bool)else decide (a.kind<b.kind)
theorem aSi(a b:X0):Zz a b=some (ltV a b):=by unfold Zz ltV;by_cases h:a.kind=b.kind<;>by_cases h1:a.kind=1<;>by_cases h2:a.kind=2<;>cases ha:a.bool<;>simp_all [AE]
theorem aXm(a b:X0)(ha:a.str.length<=9223372036854775807)(hb:b.str.length<=9223372036854775807):Zp a b=some (ltV a b):=by unfold Zp ltV;rw[aWl _ _ ha hb];by_cases h:a.kind=b.kind<;>by_cases h1:a.kind=1<;>by_cases h2:a.kind=2<;>cases ha:a.bool<;>simp_all [AE,AJ]
theorem Jc(a:X0):ltV a a=false:=by unfold ltV;rw[if_pos rfl];split;simp;split;exact aLj _;cases a.bool<;>rfl
theorem GC{a b c:X0}(h1:ltV a b=true)(h2:ltV b c=true):ltV a c=true:=by unfold ltV at*;by_cases e1:a.kind=b.kind;by_cases e2:b.kind=c.kind;rw[if_pos e1]at h1;rw[if_pos e2]at h2;rw[if_pos (e1.trans e2)];rw[e1]at h1⊢;split;rename_i h;rw[if_pos h]at h1 h2;simp at h1 h2⊢;omega;rename_i h;rw[if_neg h]at h1 h2;split;rename_i h;rw[if_pos h]at h1 h2;exact PP h1 h2;rename_i h;rw[if_neg h]at h1 h2;simp at h1 h2⊢;exact⟨h1.1,h2.2⟩;rw[if_neg e2]at h2;rw[e1,if_neg e2];exact h2;rw[if_neg e1]at h1;by_cases e2:b.kind=c.kind;rw[<-e2,if_neg e1];exact h1;rw[if_neg e2]at h2;simp only[decide_eq_true_eq]at h1 h2;rw[if_neg (by omega)];simp;omega
theorem Hd{v:X0}(h:vR v=true):(v.kind=1/\v.str=[]/\v.bool=false)\/(v.kind=2/\v.int=0/\v.bool=false/\v.str.length<=4096)\/(v.kind=3/\v.int=0/\v.str=[]):=by unfold vR at h;split at h;left;simp at h;exact⟨by assumption,h.1,h.2⟩;split at h;right;left;simp at h;exact⟨by assumption,h.1.1,h.1.2,h.2⟩;split at h;right;right;simp at h;exact⟨by assumption,h.1,h.2⟩;cases h
theorem OF{a b:X0}(ha:vR a=true)(hb:vR b=true)(h:a≠b):ltV a b=true\/ltV b a=true:=by
 unfold ltV;by_cases e:a.kind=b.kind;rw[if_pos e,if_pos e.symm,<-e];obtain⟨k,n,s,t⟩:=a;obtain⟨k',n',s',t'⟩:=b;simp only at e;subst e;rcases Hd ha with⟨rfl,h2,h3⟩|⟨rfl,h2,h3,h4⟩|⟨rfl,h2,h3⟩<;>rcases Hd hb with⟨g1,g2,g3⟩|⟨g1,g2,g3,g4⟩|⟨g1,g2,g3⟩<;>simp only[Int.reduceEq]at g1 h2 h3 g2 g3<;>subst_vars
 simp at h⊢;omega;simp at h⊢;exact aLk h;simp at h⊢;cases t<;>cases t'<;>simp_all;rw[if_neg e,if_neg (Ne.symm e)];simp;omega
theorem aKm{w w':List X2}{x s:X2}(h:Mu w x=some w')(hs:s∈w'):s=x\/s∈w:=by unfold Mu at h;split at h;split at h;cases h;exact .inr hs;cases h;cases h;exact(EW w x s).1 hs
theorem Pe:∀(al:List BW) (xs:List X0) (b f:List X2) (p:List X2×List X2),HP al xs b f=some p->∀s∈p.1,s∈b\/s.value∈xs
 |[],xs,b,f,p,h=>by simp only[HP]at h;cases h;exact fun s hs=>.inl hs
 |a::al,[],b,f,p,h=>by simp only[HP]at h;cases h;exact fun s hs=>.inl hs
 |a::al,x::xs,b,f,p,h=>by
  simp only[HP]at h;have go:∀b f,HP al xs b f=some p->∀s∈p.1,s∈b\/s.value∈x::xs:=fun b f h s hs=>(Pe al xs b f p h s hs).imp id (List.mem_cons_of_mem _);split at h;split at h;exact go b f h;cases h;split at h;split at h;cases h;rename_i b' hp;intro s hs;rcases go b' f h s hs with g|g
  rcases aKm hp g with rfl|g
  exact .inr (by simp);exact .inl g;exact .inr g;split at h;split at h;cases h;rename_i f' hp;exact go b f' h;exact go b f h
theorem MZ{q:AD}{e:X8}{i:Nat}{h:Ar}(hi:JT q i e=some h):h.symbol=i/\∀s∈h.bind,s.value∈e.args:=by unfold JT at hi;split at hi;cases hi;split at hi;cases hi;split at hi;simp only[om]at hi;obtain⟨p,hp,rfl⟩:=hi;exact⟨rfl,fun s hs=>(Pe _ _ _ _ _ hp s hs).resolve_left (by simp)⟩;cases hi
theorem RY{α:Type}{p:α->Bool}{w:List α}{k:Nat}(h1:∀(j:Nat) y,w[j]? =some y->j<k->p y=true)(h2:∀(j:Nat) y,w[j]? =some y->k<=j->p y=false):w.take k=w.filter p/\w.drop k=w.filter fun y=> !p y:=by
 have a:∀y∈w.take k,p y=true:=fun y hy=>by obtain⟨j,hj⟩:=List.mem_iff_getElem?.1 hy;rw[List.getElem?_take]at hj;split at hj;exact h1 j y hj (by assumption);cases hj
 have b:∀y∈w.drop k,p y=false:=fun y hy=>by obtain⟨j,hj⟩:=List.mem_iff_getElem?.1 hy;rw[List.getElem?_drop]at hj;exact h2 (k+j) y hj (by omega)
 have e:∀p:α->Bool,w.filter p=(w.take k).filter p++(w.drop k).filter p:=fun p=>by rw[<-List.filter_append,List.take_append_drop]
 constructor;rw[e,List.filter_eq_self.2 a,List.filter_eq_nil_iff.2 (fun y hy=>by simp[b y hy]),List.append_nil];rw[e,List.filter_eq_nil_iff.2 (fun y hy=>by simp[a y hy]),List.filter_eq_self.2 (fun y hy=>by simp[b y hy]),List.nil_append]
def SW(w:List X0):Prop:=w.Pairwise (fun a b=>ltV a b=true)/\∀v∈w,vR v=true
def NF(w:List X0)(x:X0):List X0:=if x∈w then w else w.filter (fun y=>ltV y x)++x::w.filter fun y=> !ltV y x
theorem aL7{v:X0}(h:vR v=true):v.str.length<=9223372036854775807:=by
 rcases Hd h with⟨_,h2,_⟩|⟨_,_,_,h4⟩|⟨_,_,h3⟩
 rw[h2];decide;omega;rw[h3];decide
theorem aKa{a b:X0}(h1:ltV a b=true):ltV b a=false:=by
 cases h:ltV b a with
 |false=>rfl
 |true=>have:=GC h1 h;rw[Jc]at this;cases this
theorem aMj{w:List X0}(hw:SW w){i j:Nat}{y z:X0}(hi:w[i]? =some y)(hj:w[j]? =some z)(h:i<j):ltV y z=true:=by obtain⟨a1,rfl⟩:=List.getElem?_eq_some_iff.1 hi;obtain⟨a2,rfl⟩:=List.getElem?_eq_some_iff.1 hj;exact List.pairwise_iff_getElem.1 hw.1 i j a1 a2 h
theorem L1{w:List X0}{x:X0}(hw:SW w)(hx:vR x=true):SW (NF w x)/\(NF w x).length=w.length+(if x∈w then 0 else 1):=by
 unfold NF;split;exact⟨hw,by simp[*]⟩;rename_i hn;refine⟨⟨?_,fun b hb=>?_⟩,?_⟩;rw[List.pairwise_append,List.pairwise_cons];have hgt:∀y∈w.filter (fun y=> !ltV y x),ltV x y=true:=fun y hy=>by
  obtain⟨h1,h2⟩:=List.mem_filter.1 hy;rcases OF (hw.2 y h1) hx (fun e=>hn (e▸h1))with g|g
  rw[g]at h2;cases h2;exact g
 refine⟨hw.1.filter _,⟨hgt,hw.1.filter _⟩,fun y hy z hz=>?_⟩;have hyx:=(List.mem_filter.1 hy).2;rcases mc.1 hz with rfl|hz
 exact hyx;exact GC hyx (hgt z hz);rcases ma.1 hb with h|h
 exact hw.2 b (List.mem_filter.1 h).1;rcases mc.1 h with rfl|h
 exact hx;exact hw.2 b (List.mem_filter.1 h).1;have h1:∀w:List X0,(w.filter fun y=>ltV y x).length+(w.filter fun y=> !ltV y x).length=w.length:=by
  intro w;induction w with
  |nil=>rfl
  |cons y w ih=>rw[List.filter_cons,List.filter_cons];cases ltV y x<;>simp<;>omega
 have h1:=h1 w;rw[List.length_append,List.length_cons];omega
def AtW(w:List X0)(x:X0)(k:Nat):Prop:=k<=w.length/\(∀(j:Nat) y,w[j]? =some y->j<k->ltV y x=true)/\(∀(j:Nat) y,w[j]? =some y->k<=j->ltV y x=false)
theorem aLg{w:List X0}{x:X0}{k:Nat}(h:AtW w x k)(hn:x∉w):w.take k++[x]++w.drop k=NF w x:=by obtain⟨c1,c2⟩:=RY h.2.1 h.2.2;unfold NF;rw[c1,c2,if_neg hn];simp
def aQv(y x:X0):Int:=if ltV y x=true then-1 else if ltV x y=true then 1 else 0
theorem aBu{y x:X0}{s:List X0}(hy:vR y=true)(hx:vR x=true):Q9 y x s=some (aQv y x):=by unfold Q9 aQv;rw[aSi,aSi,AB,AB];cases ltV y x<;>cases ltV x y<;>rfl
theorem aPk{y x:X0}:decide (aQv y x<0)=ltV y x:=by unfold aQv;cases ltV y x<;>cases ltV x y<;>rfl
theorem aPi{w s:List X0}{x:X0}(hw:SW w)(hx:vR x=true)(hl:w.length<=1000):
 ∃k:Nat,AtW w x k/\Y6 w x s=some ((k:Int),decide (x∈w)):=by
 have hsub:∀y∈w,Q9 y x s=some (aQv y x):=fun y hy=>aBu (hw.2 y hy) hx
 unfold Y6 aGn
 obtain⟨k,hk,hkr,p1,p2⟩:=aPh (step:=fun s':Int×Int=>Gu w s (w.length:Int) x s'.1 s'.2) w.length (fun a=>match w[a]? with|some y=>ltV y x|none=>false)
  (fun i j hij hj=>by
   obtain⟨y,hy,_⟩:=AZ (l:=w) (i:=(i+j)/2) (by omega);have hd:decide ((i:Int)<(j:Int))=true:=by simp;omega
   simp only[Gu,hd,AI,aGk,aY3 (show i+j<4611686018427387904 by omega),AN hy,hsub y (List.mem_of_getElem? hy),AB,VV,hy,aPk];cases ltV y x with
   |true=>simp only[AI,AB,if_true,M5 (show(i+j)/2<9223372036854775807 by omega)]
   |false=>simp[AE,AJ])
  (fun i=>by simp[Gu,AE])
  (fun a b hab hb h=>by
   obtain⟨y,hy,_⟩:=AZ (l:=w) (i:=a) (by omega);obtain⟨z,hz,_⟩:=AZ (l:=w) (i:=b) hb;simp only[hy,hz]at h⊢;rcases Nat.lt_or_ge a b with g|g
   exact GC (aMj hw hy hz g) h;have:a=b:=by omega
   subst this;rw[hy]at hz;cases hz;exact h)
 have q1:∀(j:Nat) y,w[j]? =some y->j<k->ltV y x=true:=fun j s hs hj=>by have:=p1 j hj;simp only[hs]at this;exact this
 have q2:∀(j:Nat) y,w[j]? =some y->k<=j->ltV y x=false:=fun j s hs hj=>by have:=p2 j hj (DX hs);simp only[hs]at this;exact this
 refine⟨k,⟨hk,q1,q2⟩,?_⟩
 rw[hkr,AB]
 have hmem:∀j:Nat,w[j]? =some x->j=k:=fun j hj=>by
  rcases Nat.lt_trichotomy j k with g|g|g
  have:=q1 j x hj g;rw[Jc]at this;cases this;exact g;obtain⟨y,hy,_⟩:=AZ (l:=w) (i:=k) (by have:=DX hj;omega);have h1:=q2 k y hy (Nat.le_refl _);rw[aMj hw hy hj g]at h1;cases h1
 by_cases h:k<w.length
 obtain⟨y,hy,_⟩:=AZ h
 rw[Dj,if_pos (by omega),AN hy,hsub y (List.mem_of_getElem? hy),AB]
 have hge:=q2 k y hy (Nat.le_refl _)
 congr 2
 rw[decide_eq_decide]
 unfold aQv
 rw[hge,if_neg (by simp)]
 constructor
 intro hc
 rcases(Classical.em (y=x))with e|e
 exact e▸List.mem_of_getElem? hy
 rcases OF (hw.2 y (List.mem_of_getElem? hy)) hx e with g|g
 rw[hge]at g;cases g
 rw[if_pos g]at hc;cases hc
 intro hm
 obtain⟨j,hj⟩:=List.mem_iff_getElem?.1 hm
 have:=hmem j hj
 subst this
 rw[hy]at hj;cases hj
 rw[Jc];rfl
 rw[Dj,if_neg (by omega)]
 congr 2
 symm
 rw[decide_eq_false_iff_not]
 intro hm
 obtain⟨j,hj⟩:=List.mem_iff_getElem?.1 hm
 have:=hmem j hj
 have:=DX hj
 omega
theorem Lx{w:List X0}{x:X0}(hw:SW w)(hx:vR x=true)(hl:w.length<=900):Zq x w=some (!decide (x∈w),NF w x):=by
 unfold Zq aI5;obtain⟨k,hk,hb⟩:=aPi (s:=w) hw hx (by omega);rw[hb,AB];by_cases hm:x∈w;simp[hm,AE,AJ,NF];have hin:U1 (k:Int) w [x]=some (NF w x):=by unfold U1 aTt;have:=hk.1;rw[if_pos ⟨by omega,by omega,by simp,B0 (by simp;omega) (by decide)⟩,Int.toNat_natCast,aLg hk hm]
 simp only[hm,decide_false,Bool.not_false,AI];rw[hin];rfl
theorem aKs{α:Type}(w:List α)(k:Nat):sub w 0 (k:Int)=w.take k:=by simp[sub]
theorem aKr{α:Type}(w:List α)(k:Nat):sub w (k:Int) (w.length:Int)=w.drop k:=by simp[sub]
theorem aHd{w:List X0}{x:X0}(hw:SW w)(hx:vR x=true)(hl:w.length<=900):Yf w x=some (NF w x):=by
 unfold Yf aNy;obtain⟨t,ht,k,hk,rfl,p1,p2⟩:=BC (step:=fun s=>If w x s) (fun s=>∃i:Nat,s=(i:Int)/\i<=w.length/\∀(j:Nat) s,w[j]? =some s->i<=j->ltV x s=true) (fun s=>s.toNat)
  (fun t=>∃k:Nat,k<=w.length/\t=(k:Int)/\(∀(j:Nat) s,w[j]? =some s->k=j+1->ltV x s=false)/\∀(j:Nat) s,w[j]? =some s->k<=j->ltV x s=true)
  (by
   rintro s ⟨i,rfl,hi,hj⟩;cases i with
   |zero=>exact .inl ⟨0,by simp[If,AE],0,by omega,rfl,fun j s _ h=>by omega,hj⟩
   |succ i=>
    obtain⟨y,hy,_⟩:=AZ (l:=w) (i:=i) (by omega)
    have hyR:=hw.2 y (List.mem_of_getElem? hy)
    have e:AA .sub .i64 ((i+1:Nat):Int) 1=(i:Int):=by rw[aAx (by omega) (by omega)];omega
    have hd:decide ((0:Int)<((i+1:Nat):Int))=true:=by simp
    simp only[If,hd,AI,e,AN hy,aXm _ _ (aL7 hx) (aL7 hyR),AB]
    cases h:ltV x y with
    |true=>
     refine .inr ⟨_,by simp only[AI],⟨i,rfl,by omega,fun j s hs hij=>?_⟩,by omega⟩
     rcases Nat.eq_or_lt_of_le hij with g|g
     subst g;rw[hy]at hs;cases hs;exact h
     exact hj j s hs g
    |false=>
     refine .inl ⟨_,by simp only[AG],i+1,hi,rfl,fun j s hs hij=>?_,hj⟩
     have:j=i:=by omega
     subst this;rw[hy]at hs;cases hs;exact h)
  (w.length:Int) ⟨w.length,rfl,Nat.le_refl _,fun j s hs hij=>by have:=DX hs;omega⟩
 rw[ht,AB];have hrest:(∀y,w[k-1]? =some y->0<k->y≠x)->(AY ((0:Int)<=0/\(0:Int)<=(k:Int)/\(k:Int)<=(w.length:Int)) (
  AY (fit ([]:List X0).length (sub w 0 (k:Int)).length 40) (
   AY (fit (([]:List X0)++(sub w 0 (k:Int))).length [x].length 40) (
    AY ((0:Int)<=(k:Int)/\((k:Int):Int)<=(w.length:Int)/\(w.length:Int)<=(w.length:Int)) (
     AY (fit ((([]:List X0)++(sub w 0 (k:Int)))++[x]).length (sub w (k:Int) (w.length:Int)).length 40) (
      some (((([]:List X0)++(sub w 0 (k:Int)))++[x])++(sub w (k:Int) (w.length:Int)))))))):Option (List X0))=some (NF w x):=by
  intro hne
  have hlt:∀(j:Nat) y,w[j]? =some y->j<k->ltV y x=true:=fun j y hy hj=>by
   obtain⟨z,hz,_⟩:=AZ (l:=w) (i:=k-1) (by omega);have h1:=p1 (k-1) z hz (by omega);have h2:=hne z hz (by omega);have h3:ltV z x=true:=by
    rcases OF (hw.2 z (List.mem_of_getElem? hz)) hx h2 with g|g
    exact g;rw[h1]at g;cases g
   rcases Nat.lt_or_ge j (k-1)with g|g
   exact GC (aMj hw hy hz g) h3;have:j=k-1:=by omega
   subst this;rw[hz]at hy;cases hy;exact h3
  have hAt:AtW w x k:=⟨hk,hlt,fun j y hy hj=>aKa (p2 j y hy hj)⟩
  have hn:x∉w:=fun hm=>by
   obtain⟨j,hj⟩:=List.mem_iff_getElem?.1 hm;rcases Nat.lt_or_ge j k with g|g
   have:=hlt j x hj g;rw[Jc]at this;cases this;have:=p2 j x hj g;rw[Jc]at this;cases this
  rw[aKs,aKr,Aw (by omega),KP (by simp;omega) (by decide),KP (by simp;omega) (by decide),Aw (by omega),KP (by simp;omega) (by decide),List.nil_append,aLg hAt hn]
 rw[Dj];split;rename_i h0;obtain⟨y,hy,_⟩:=AZ (l:=w) (i:=k-1) (by omega);have e:AA .sub .i64 (k:Int) 1=((k-1:Nat):Int):=by rw[aAx (by omega) (by omega)];omega
 rw[e,AN hy,X0.eqb_dec];by_cases hyx:y=x;subst hyx;have hm:=List.mem_of_getElem? hy;simp[AE,NF,hm];simp only[hyx,decide_false,AG];exact hrest fun z hz _=>by rw[hy]at hz;cases hz;exact hyx
 exact hrest fun z hz h=>by omega
theorem aWc{q:AD}{e:X8}(hF:DF q)(hR:Af q):Yb q e=some ((List.range q.symbols.length).filterMap fun i=>JT q i e):=by
 have hs:=hF.symbols;unfold Yb aNv;have h:=Ci (step:=fun s:Int×List Ar=>Id q e s.1 s.2) (List.range q.symbols.length) (fun w i=>w++(JT q i e).toList) (fun w=>w) (fun i w=>w.length<=i)
  (fun i x w hx hI=>by
   obtain⟨rfl,hi⟩:=aAf hx;have hlt:decide ((x:Int)<(q.symbols.length:Int))=true:=by simp;omega
   refine⟨?_,by cases JT q x e<;>simp<;>omega⟩;simp only[Id,hlt,AI,aG0,aVn hF hR hi,AB,aG2,M5 (show x<9223372036854775807 by omega)];rw[KP (by simp;omega) (by decide)];cases JT q x e<;>simp[aQx,AE,AJ])
  (fun w _=>by rw[List.length_range];simp only[Id,ltI,AG]) [] (by simp)
 rw[h,AB,J2];simp
def D5(a b:List X2):Bool:=a.all fun s=>decide (EF b s.var=(s.value,true))
theorem aW7(a b:List X2)(ha:a.length<=9223372036854775807)(hb:b.length<=9223372036854775807):Z8 a b=some (D5 a b):=by
 unfold Z8 aOh;rw[Jb a (fun s=>decide (EF b s.var=(s.value,true))) (.inl ()) (.inr ())
  (fun i x hx=>by simp only[K1,ltD hx,AI,AN hx,Ag hx ha,aHu b _ hb,AB,X0.eqb_dec];obtain⟨y,o⟩:=EF b x.var;cases o;simp[AE];by_cases h:y=x.value<;>simp[AE,h])
  (by simp only[K1,ltI,AG]),AB]
 unfold D5;cases a.all _<;>rfl
theorem aWf{l:List Ar}{b:List X2}(hl:l.length<=1000)(hs:∀h∈l,h.bind.length<=9223372036854775807)(hb:b.length<=9223372036854775807):Yd l b=some (l.filter fun h=>D5 h.bind b):=by
 unfold Yd aNx;rw[Ci l (fun w x=>if(D5 x.bind b)=true then w++[x]else w) (fun w=>w) (fun i w=>w.length<=i)
  (fun i x w hx hI=>by have:=DX hx;refine⟨?_,?_⟩;rotate_left;split;simpa using hI;omega;simp only[Kv,ltD hx,AI,aG8,AN hx,aW7 _ _ (hs x (List.mem_of_getElem? hx)) hb,AB,aHa,Ag hx (show l.length<=9223372036854775807 by omega)];rw[KP (by simp;omega) (by decide)];cases D5 x.bind b<;>simp[AE,AJ])
  (fun w _=>by simp only[Kv,ltI,AG]) [] (by simp),HJ,AB]
 simp
def BR(b:List X2):Prop:=b.Pairwise (fun x y=>x.var<y.var)/\∀s∈b,0<=s.var/\s.var<=7/\vR s.value=true
theorem Ki:∀(b:List X2) (lo:Int),b.Pairwise (fun x y=>x.var<y.var)->(∀s∈b,lo<=s.var/\s.var<=7)->b.length<=(8-lo).toNat
 |[],_,_,_=>by simp
 |x::b,lo,hp,h=>by
  rw[List.pairwise_cons]at hp;have h1:=Ki b (x.var+1) hp.2 fun s hs=>⟨by have:=hp.1 s hs;omega,(h s (List.mem_cons_of_mem _ hs)).2⟩;have h2:=h x (by simp);rw[List.length_cons];omega
theorem Rx{b:List X2}(h:BR b):b.length<=8:=by have:=Ki b 0 h.1 fun s hs=>⟨(h.2 s hs).1,(h.2 s hs).2.1⟩;omega
def okB(l:List X2)(i:Nat):Prop:=∀j,j<i->∃x,l[j]? =some x/\0<=x.var/\x.var<=7/\vR x.value=true/\∀y,0<j->l[j-1]? =some y->y.var<x.var
theorem ZY{l:List X2}(h:okB l l.length):BR l:=by
 have get:∀j (hj:j<l.length),0<=l[j].var/\l[j].var<=7/\vR l[j].value=true/\∀(_:0<j) (h2:j-1<l.length),l[j-1].var<l[j].var:=by intro j hj;obtain⟨x,hx,h1,h2,h5,h3⟩:=h j hj;obtain⟨_,rfl⟩:=List.getElem?_eq_some_iff.1 hx;exact⟨h1,h2,h5,fun h0 h4=>h3 _ h0 (List.getElem?_eq_getElem h4)⟩
 refine⟨List.pairwise_iff_getElem.2 ?_,fun s hs=>?_⟩;intro i j hi hj hij;induction j with
 |zero=>omega
 |succ j ih=>
  have h1:=(get (j+1) hj).2.2.2 (by omega) (by simp;omega)
  simp only[Nat.add_sub_cancel]at h1
  rcases Nat.lt_or_ge i j with h2|h2
  have:=ih (by omega) h2;omega
  have:i=j:=by omega
  subst this;exact h1
 obtain⟨j,hj,rfl⟩:=List.mem_iff_getElem.1 hs;exact⟨(get j hj).1,(get j hj).2.1,(get j hj).2.2.1⟩
theorem Mx(l:List X2)(hl:l.length<=9223372036854775807):∃b,Zc l=some b/\(b=true->BR l):=by
 unfold Zc aOl;obtain⟨t,ht,hQ⟩:=BC (step:=fun s=>Iy l s) (fun s=>∃i:Nat,s=(i:Int)/\i<=l.length/\okB l i) (fun s=>(l.length-s).toNat) (fun t=>t=.inl ()->okB l l.length)
  (by
   rintro s ⟨i,rfl,hi,hok⟩;by_cases he:i=l.length;subst he;exact .inl ⟨.inl (),by simp only[Iy,ltI,AG],fun _=>hok⟩;obtain⟨x,hx,_⟩:=AZ (l:=l) (i:=i) (by omega);simp only[Iy,ltD hx,AI,AN hx,aSd,AB,Ag hx hl,Dj];have hgo:(∀y,0<i->l[i-1]? =some y->y.var<x.var)->¬x.var<0->¬7<x.var->vR x.value=true->okB l (i+1):=by
    intro h1 h2 h3 h5 j hj;rcases Nat.lt_or_ge j i with h4|h4
    exact hok j h4;have:j=i:=by omega
    subst this;exact⟨x,hx,by omega,by omega,h5,h1⟩
   by_cases h1:x.var<0;exact .inl ⟨.inr (),by simp[h1],by simp⟩;by_cases h2:7<x.var;exact .inl ⟨.inr (),by simp[h1,h2],by simp⟩;cases hb:vR x.value with
   |false=>exact .inl ⟨.inr (),by simp[h1,h2,AE],by simp⟩
   |true=>
    by_cases h3:0<i
    obtain⟨y,hy,_⟩:=AZ (l:=l) (i:=i-1) (by omega)
    have e:AA .sub .i64 (i:Int) 1=((i-1:Nat):Int):=by rw[aAx (by omega) (by omega)];omega
    rw[e,AN hy]
    by_cases h4:x.var<=y.var
    exact .inl ⟨.inr (),by simp[h1,h2,h3,h4,AE],by simp⟩
    refine .inr ⟨((i+1:Nat):Int),by simp[h1,h2,h3,h4,AE],⟨i+1,rfl,by omega,hgo (fun z _ hz=>?_) h1 h2 hb⟩,by omega⟩
    rw[hy]at hz;cases hz;omega
    refine .inr ⟨((i+1:Nat):Int),by simp[h1,h2,h3,AE],⟨i+1,rfl,by omega,hgo (fun z h0=>absurd h0 h3) h1 h2 hb⟩,by omega⟩)
  (0:Int) ⟨0,rfl,by omega,fun j hj=>by omega⟩
 rw[ht,AB];rcases t with _|_
 exact⟨true,rfl,fun _=>ZY (hQ rfl)⟩;exact⟨false,rfl,by simp⟩
theorem Ha(n:Nat)(h:n<4294967296):(BitVec.ofInt 32 (n:Int)).toNat=n:=by simp[BitVec.toNat_ofInt];omega
theorem HF{n:Nat}(h:n<4294967296):IntKind.wrap .u32 (n:Int)=n:=by simp[IntKind.wrap,IntKind.signed,IntKind.bits];omega
theorem Mr{n m:Nat}(hn:n<4294967296)(hm:m<4294967296):AA .or .u32 (n:Int) (m:Int)=((n|||m:Nat):Int):=by have h:n|||m<2^32:=Nat.or_lt_two_pow (by simpa using hn) (by simpa using hm);show IntKind.wrap .u32 (((BitVec.ofInt 32 (n:Int))|||(BitVec.ofInt 32 (m:Int))).toNat:Int)=_;rw[BitVec.toNat_or,Ha n hn,Ha m hm];exact HF (by simpa using h)
theorem aLf{n m:Nat}(hn:n<4294967296)(hm:m<4294967296):AA .and .u32 (n:Int) (m:Int)=((n&&&m:Nat):Int):=by have h:n&&&m<2^32:=Nat.and_lt_two_pow _ (by simpa using hm);show IntKind.wrap .u32 (((BitVec.ofInt 32 (n:Int))&&&(BitVec.ofInt 32 (m:Int))).toNat:Int)=_;rw[BitVec.toNat_and,Ha n hn,Ha m hm];exact HF (by simpa using h)
theorem OX{s:Nat}(h:s<32):AA .shl .u32 1 (s:Int)=((2^s:Nat):Int):=by
 have e:(1:Int)*2^(min (Int.toNat (s:Int)) (IntKind.bits .u32))=((2^s:Nat):Int):=by rw[Int.toNat_natCast,show min s (IntKind.bits .u32)=s from Nat.min_eq_left (Nat.le_of_lt h)];simp
 show IntKind.wrap .u32 (1*2^(min (Int.toNat (s:Int)) (IntKind.bits .u32)))=_;rw[e];exact HF (Nat.lt_of_lt_of_le (Nat.pow_lt_pow_right (by decide) h) (by decide))
theorem aAq{s:Nat}(h:s<64):AA .shl .u64 1 (s:Int)=((2^s:Nat):Int):=by
 have e:(1:Int)*2^(min (Int.toNat (s:Int)) (IntKind.bits .u64))=((2^s:Nat):Int):=by rw[Int.toNat_natCast,show min s (IntKind.bits .u64)=s from Nat.min_eq_left (Nat.le_of_lt h)];simp
 show IntKind.wrap .u64 (1*2^(min (Int.toNat (s:Int)) (IntKind.bits .u64)))=_;rw[e];exact Aq (Nat.lt_of_lt_of_le (Nat.pow_lt_pow_right (by decide) h) (by decide))
theorem OY{k:IntKind}{n s:Nat}(h:s<k.bits):AA .shr k (n:Int) (s:Int)=((n/2^s:Nat):Int):=by show(n:Int).fdiv (2^(min (Int.toNat (s:Int)) k.bits))=_;rw[Int.toNat_natCast,Nat.min_eq_left (Nat.le_of_lt h),Int.fdiv_eq_ediv_of_nonneg _ (Int.le_of_lt (Int.pow_pos (by decide)))];simp
theorem aTz{k:IntKind}(n:Nat):AA .rem k (n:Int) 2=((n % 2:Nat):Int):=by show(n:Int).tmod 2=_;rw[Int.tmod_eq_emod_of_nonneg (by omega)];omega
theorem LL(n s:Nat):n/2^s % 2=if n.testBit s=true then 1 else 0:=by have:=Nat.testBit_eq_decide_div_mod_eq (x:=n) (i:=s);rw[this];by_cases h:n/2^s % 2=1;simp[h];simp only[h,decide_false,Bool.false_eq_true,if_false];have:=Nat.mod_two_eq_zero_or_one (n/2^s);omega
theorem LK(n s:Nat):(n&&&2^s=0)↔n.testBit s=false:=by constructor;intro h;have h2:=congrArg (fun x=>x.testBit s) h;simp only[Nat.testBit_and,Nat.testBit_two_pow_self,Bool.and_true,Nat.zero_testBit]at h2;exact h2;intro h;apply Nat.eq_of_testBit_eq;intro i;rw[Nat.testBit_and,Nat.testBit_two_pow,Nat.zero_testBit];by_cases hi:s=i;subst hi;simp[h];simp[hi]
theorem FU{α β γ τ:Type}{step:γ×Int->Option (γ×Int⊕τ)}(enc:β->γ)(l:List α)(f:β->α->β)(fin:β->τ)(I:Nat->β->Prop)
 (h1:∀(i:Nat) x w,l[i]? =some x->I i w->step (enc w,(i:Int))=some (.inl (enc (f w x),((i+1:Nat):Int)))/\I (i+1) (f w x))
 (h2:∀w,I l.length w->step (enc w,(l.length:Int))=some (.inr (fin w))) (w:β) (h0:I 0 w):AQ step (enc w,0)=some (fin (l.foldl f w)):=by
 have h:=E7 (step:=step) l (fun i w=>(enc w,(i:Int))) (fun _ w x=>(.inl (f w x):β⊕τ)) fin I (fun i x w hx hI=>⟨(h1 i x w hx hI).1,fun w' hw=>by cases hw;exact(h1 i x w hx hI).2⟩) h2 (l.length+1) 0 w (by omega) (by omega) h0
 rw[show(enc w,(0:Int))=(enc w,((0:Nat):Int))from rfl,h,List.drop_zero]
 congr 1
 clear h h1 h2 h0
 generalize 0=i
 revert i w
 induction l with
 |nil=>intro w i;rfl
 |cons x xs ih=>intro w i;rw[Lt];exact ih _ _
def toF(M s:Nat)(w:Nat)(t:Xd):Nat:=if t.from_=(s:Int)/\M.testBit t.symbol.toNat=true then w|||2^t.to.toNat else w
def toN(q:AD)(M s:Nat):Nat:=q.trans.foldl (toF M s) 0
def aLo(q:AD)(M s:Nat):Nat:=if toN q M s=0/\(q.states[s]?.map (·.next))=some false then 2^s else toN q M s
def LW(q:AD)(S M:Nat)(w:Nat)(s:Nat):Nat:=if S.testBit s=true then w|||aLo q M s else w
def Dg(q:AD)(S M:Nat):Nat:=(List.range q.states.length).foldl (LW q S M) 0
theorem aS7{a b:Nat}(h1:a<4294967296)(h2:b<4294967296):a|||b<4294967296:=by have:=Nat.or_lt_two_pow (n:=32) (x:=a) (y:=b) (by simpa using h1) (by simpa using h2);simpa using this
theorem Jh{s:Nat}(h:s<32):2^s<4294967296:=Nat.lt_of_lt_of_le (Nat.pow_lt_pow_right (by decide) h) (by decide)
theorem aA5{q:AD}(h8:q.states.length<=12)(hR:Af q){M s w:Nat}{t:Xd}(ht:t∈q.trans)(hw:w<4294967296):toF M s w t<4294967296:=by unfold toF;split;have:=(hR.ends t ht).2.2;exact aS7 hw (Jh (by omega));exact hw
theorem aA6{q:AD}(h8:q.states.length<=12)(hR:Af q)(M s:Nat):toN q M s<4294967296:=by
 unfold toN;suffices∀(l:List Xd) (w:Nat),(∀t∈l,t∈q.trans)->w<4294967296->l.foldl (toF M s) w<4294967296 from this _ _ (fun _ h=>h) (by decide)
 intro l;induction l with
 |nil=>intro w _ h;exact h
 |cons t l ih=>intro w hl hw;exact ih _ (fun t h=>hl t (List.mem_cons_of_mem _ h)) (aA5 h8 hR (hl t (by simp)) hw)
theorem aPr{q:AD}(h8:q.states.length<=12)(hR:Af q)(M:Nat){s:Nat}(hs:s<q.states.length):aLo q M s<4294967296:=by unfold aLo;split;exact Jh (by omega);exact aA6 h8 hR M s
theorem Pt{q:AD}(h8:q.states.length<=12)(hR:Af q)(S M:Nat){w s:Nat}(hs:s<q.states.length)(hw:w<4294967296):LW q S M w s<4294967296:=by unfold LW;split;exact aS7 hw (aPr h8 hR M hs);exact hw
theorem Pz{n i x:Nat}(h:(List.range n)[i]? =some x):x=i/\i<n:=by
 have h1:i<n:=by simpa using (List.getElem?_eq_some_iff.1 h).1
 rw[List.getElem?_range h1,oe]at h;exact⟨h.symm,h1⟩
theorem OA{q:AD}(hF:DF q)(hR:Af q)(S M:Nat)(hM:M<18446744073709551616)(s7:Int)(s:Nat)(s14:List Xc)(s15:Int)(x:Xc):
 aDq (S:Int) (M:Int) s7 (s:Int) s14 s15 (s:Int) q.trans (q.trans.length:Int) q x 0 0=some ((toN q M s:Nat):Int):=by
 have h8:=hF.states
 have ht12:=hF.trans
 have hsy:=hF.symbols
 unfold aDq
 have:=FU (step:=fun z:Int×Int=>H9 (S:Int) (M:Int) s7 (s:Int) s14 s15 (s:Int) q.trans (q.trans.length:Int) q x z.1 z.2) (fun w:Nat=>(w:Int)) q.trans (toF M s) (fun w=>(w:Int)) (fun _ w=>w<4294967296)
  (fun i t w hx hw=>by
   have hm:=List.mem_of_getElem? hx;have he:=hR.ends t hm;refine⟨?_,aA5 h8 hR hm hw⟩;obtain⟨y,hy⟩:∃y:Nat,t.symbol=(y:Int):=⟨t.symbol.toNat,by omega⟩;obtain⟨z,hz⟩:∃z:Nat,t.to=(z:Int):=⟨t.to.toNat,by omega⟩;have hy12:y<12:=by omega
   have hz12:z<12:=by omega
   have hwy:IntKind.wrap .u64 (y:Int)=(y:Int):=Aq (by omega);have hwz:IntKind.wrap .u64 (z:Int)=(z:Int):=Aq (by omega);simp only[H9,ltD hx,AI,aDn,AN hx,Ag hx (show q.trans.length<=9223372036854775807 by omega),TW,hy,hz,hwy,hwz,toF,Int.toNat_natCast];rw[aAq (by omega),aTs hM (Nat.lt_of_lt_of_le (Nat.pow_lt_pow_right (by decide) (show y<64 by omega)) (by decide)),OX (by omega),Mr hw (Jh (by omega))];have hb:decide (((M&&&2^y:Nat):Int)=0)= !M.testBit y:=by
    have:=LK M y;cases hb:M.testBit y with
    |false=>have h0:=this.2 hb;rw[h0];rfl
    |true=>
     have h0:¬M&&&2^y=0:=fun h=>by have:=this.1 h;rw[hb]at this;cases this
     simp;omega
   rw[hb];by_cases hf:t.from_=(s:Int);rw[Dj,if_pos hf,Aw (by omega)];cases hb2:M.testBit y with
   |true=>simp only[Bool.not_true,Bool.not_false,AI,Aw (show(0:Int)<=(z:Int) by omega),AB,hf,true_and,if_true]
   |false=>simp only[Bool.not_false,Bool.not_true,AG,AB,hf,true_and,Bool.false_eq_true,if_false]
   rw[Dj,if_neg hf];simp only[AG,AB,hf,false_and,if_false])
  (fun w _=>by simp only[H9,ltI,AG]) 0 (by decide)
 exact this
theorem aVf{q:AD}(hF:DF q)(hR:Af q){S M:Nat}(hS:S<4294967296)(hM:M<18446744073709551616):Xh q (S:Int) (M:Int)=some ((Dg q S M:Nat):Int):=by
 have h8:=hF.states;have hl:(List.range q.states.length).length=q.states.length:=List.length_range;have key:=FU (step:=fun z:Int×Int=>Ge (S:Int) (M:Int) q.states (q.states.length:Int) q z.1 z.2) (fun w:Nat=>(w:Int)) (List.range q.states.length) (LW q S M) (fun w=>(w:Int)) (fun _ w=>w<4294967296)
  (fun i s w hx hw=>by
   obtain⟨rfl,hs⟩:=Pz hx;refine⟨?_,Pt h8 hR S M hs hw⟩;obtain⟨x,hxs,_⟩:=AZ hs;have hws:IntKind.wrap .u64 (s:Int)=(s:Int):=Aq (by omega);simp only[Ge,ltD hxs,AI,aDl,AN hxs,hws,Ag hxs (show q.states.length<=9223372036854775807 by omega),Aw (show(0:Int)<=(s:Int) by omega)];rw[OX (by omega),aLf hS (Jh (by omega)),OA hF hR S M hM];have hb:decide (((S&&&2^s:Nat):Int)=0)= !S.testBit s:=by
    have:=LK S s;cases hb:S.testBit s with
    |false=>have h0:=this.2 hb;rw[h0];rfl
    |true=>
     have h0:¬S&&&2^s=0:=fun h=>by have:=this.1 h;rw[hb]at this;cases this
     simp;omega
   rw[hb];unfold LW aLo;rw[hxs];cases hb2:S.testBit s with
   |false=>simp only[Bool.not_false,AI,AB,Bool.false_eq_true,if_false]
   |true=>
    have hto:=aA6 h8 hR M s
    simp only[Bool.not_true,AG,AB,if_true,Option.map_some,oe]
    by_cases h0:toN q M s=0
    rw[h0]
    cases hn:x.next with
    |false=>
     simp only[Int.ofNat_zero,Int.natCast_zero,decide_true,AI,Nb,Bool.not_false,hws,Aw (show(0:Int)<=(s:Int) by omega),AB,and_self,if_true]
     rw[OX (by omega),Mr hw (Jh (by omega))]
    |true=>
     simp only[Int.natCast_zero,decide_true,AI,Nb,Bool.not_true,AG,AB,Bool.true_eq_false,and_false,if_false]
     rw[show(0:Int)=((0:Nat):Int)from rfl,Mr hw (by decide)]
    have hd:decide (((toN q M s:Nat):Int)=0)=false:=by simp;omega
    simp only[hd,AG,Nb,AB,h0,false_and,if_false]
    rw[Mr hw hto])
  (fun w _=>by rw[hl];simp only[Ge,ltI,AG]) 0 (by decide)
 unfold Xh aM7;have key':AQ (fun z:Int×Int=>Ge (S:Int) (M:Int) q.states (q.states.length:Int) q z.1 z.2) (0,0)=some ((Dg q S M:Nat):Int):=key;rw[key',AB]
theorem OU{q:AD}(hF:DF q)(hR:Af q)(S M:Nat)(hM:M<18446744073709551616)(s7:Int)(s:Nat):
 aDj (S:Int) (M:Int) s7 (s:Int) q 0 0=some ((toN q M s:Nat):Int):=by
 have h8:=hF.states
 have ht12:=hF.trans
 have hsy:=hF.symbols
 unfold aDj
 have:=FU (step:=fun z:Int×Int=>H8 (S:Int) (M:Int) s7 (s:Int) q z.1 z.2) (fun w:Nat=>(w:Int)) q.trans (toF M s) (fun w=>(w:Int)) (fun _ w=>w<4294967296)
  (fun i t w hx hw=>by
   have hm:=List.mem_of_getElem? hx;have he:=hR.ends t hm;refine⟨?_,aA5 h8 hR hm hw⟩;obtain⟨y,hy⟩:∃y:Nat,t.symbol=(y:Int):=⟨t.symbol.toNat,by omega⟩;obtain⟨z,hz⟩:∃z:Nat,t.to=(z:Int):=⟨t.to.toNat,by omega⟩;have hy12:y<12:=by omega
   have hz12:z<12:=by omega
   have hwy:IntKind.wrap .u64 (y:Int)=(y:Int):=Aq (by omega);have hwz:IntKind.wrap .u64 (z:Int)=(z:Int):=Aq (by omega);simp only[H8,ltD hx,AI,aDg,AN hx,Ag hx (show q.trans.length<=9223372036854775807 by omega),TQ,hy,hz,hwy,hwz,toF,Int.toNat_natCast];rw[OY (k:=.u64) (s:=y) (show y<64 by omega),aTz,LL,OX (by omega),Mr hw (Jh (by omega))];by_cases hf:t.from_=(s:Int);rw[Dj,if_pos hf,Aw (by omega)];cases hb2:M.testBit y with
   |true=>simp only[if_true,Int.natCast_one,decide_true,AI,Aw (show(0:Int)<=(z:Int) by omega),AB,hf,true_and]
   |false=>simp only[Bool.false_eq_true,if_false,Int.natCast_zero,show decide ((0:Int)=1)=false from rfl,AG,AB,and_false]
   rw[Dj,if_neg hf];simp only[AG,AB,hf,false_and,if_false])
  (fun w _=>by simp only[H8,ltI,AG]) 0 (by decide)
 exact this
theorem aVe{q:AD}(hF:DF q)(hR:Af q){S M:Nat}(hS:S<4294967296)(hM:M<18446744073709551616):Xg q (S:Int) (M:Int)=some ((Dg q S M:Nat):Int):=by
 have h8:=hF.states;have hl:(List.range q.states.length).length=q.states.length:=List.length_range;have key:=FU (step:=fun z:Int×Int=>Gd (S:Int) (M:Int) q z.1 z.2) (fun w:Nat=>(w:Int)) (List.range q.states.length) (LW q S M) (fun w=>(w:Int)) (fun _ w=>w<4294967296)
  (fun i s w hx hw=>by
   obtain⟨rfl,hs⟩:=Pz hx;refine⟨?_,Pt h8 hR S M hs hw⟩;obtain⟨x,hxs,_⟩:=AZ hs;have hws:IntKind.wrap .u64 (s:Int)=(s:Int):=Aq (by omega);simp only[Gd,ltD hxs,AI,aDe,AN hxs,hws,Ag hxs (show q.states.length<=9223372036854775807 by omega),Aw (show(0:Int)<=(s:Int) by omega)];rw[OY (k:=.u32) (s:=s) (show s<32 by omega),aTz,LL,OU hF hR S M hM];unfold LW aLo;rw[hxs];cases hb2:S.testBit s with
   |false=>simp only[Bool.false_eq_true,if_false,Int.natCast_zero,decide_true,AI,AB]
   |true=>
    have hto:=aA6 h8 hR M s
    simp only[if_true,Int.natCast_one,show decide ((1:Int)=0)=false from rfl,AG,AB,Option.map_some,oe]
    by_cases h0:toN q M s=0
    rw[h0]
    cases hn:x.next with
    |false=>
     simp only[Int.natCast_zero,decide_true,AI,Na,Bool.not_false,hws,Aw (show(0:Int)<=(s:Int) by omega),AB,and_self,if_true]
     rw[OX (by omega),Mr hw (Jh (by omega))]
    |true=>
     simp only[Int.natCast_zero,decide_true,AI,Na,Bool.not_true,AG,AB,Bool.true_eq_false,and_false,if_false]
     rw[show(0:Int)=((0:Nat):Int)from rfl,Mr hw (by decide)]
    have hd:decide (((toN q M s:Nat):Int)=0)=false:=by simp;omega
    simp only[hd,AG,Na,AB,h0,false_and,if_false]
    rw[Mr hw hto])
  (fun w _=>by rw[hl];simp only[Gd,ltI,AG]) 0 (by decide)
 unfold Xg aM5;have key':AQ (fun z:Int×Int=>Gd (S:Int) (M:Int) q z.1 z.2) (0,0)=some ((Dg q S M:Nat):Int):=key;rw[key',AB]
structure CI(q:AD):Prop where
 frees:q.frees=[]
 quants:q.quants.length<=1
 states:q.states.length<=8
 symbols:q.symbols.length<=8
 guards:∀t∈q.trans,t.guard= -1
theorem aWv{q:AD}(hF:DF q):∃r,Yz q=some r/\(r=true->CI q):=by
 have ht:=hF.trans;obtain⟨o,ho,hQ⟩:=An (step:=fun s=>Ip q s) q.trans.length (fun i=>∀t,q.trans[i]? =some t->t.guard= -1) (fun o=>o=Sum.inl ()->∀t∈q.trans,t.guard= -1)
  (fun i hi=>by obtain⟨x,hx,_⟩:=AZ hi;simp only[Ip,ltD hx,AI,AN hx,Ag hx (show q.trans.length<=9223372036854775807 by omega)];by_cases h:x.guard= -1;exact .inl ⟨by rw[decide_eq_true h];rfl,fun t h2=>by rw[hx,oe]at h2;exact h2▸h⟩;exact .inr ⟨.inr (),by rw[decide_eq_false h];rfl,fun h=>by cases h⟩)
  (fun hall=>⟨.inl (),by simp only[Ip,ltI,AG],fun _=>Fl hall⟩)
 have ho':aOb q 0=some o:=ho;unfold Yz;refine BT (fun _=>⟨_,rfl,by simp⟩) (fun h1=>?_);refine BT (fun _=>⟨_,rfl,by simp⟩) (fun h2=>?_);refine BT (fun _=>⟨_,rfl,by simp⟩) (fun h3=>?_);refine BT (fun _=>⟨_,rfl,by simp⟩) (fun h4=>?_);refine BY ho' ?_;rcases o with⟨⟩|⟨⟩
 rw[CR];exact⟨_,rfl,fun _=>⟨List.eq_nil_of_length_eq_zero (by omega),by omega,by omega,by omega,hQ rfl⟩⟩;rw[ED];exact⟨_,rfl,by simp⟩
theorem aUd(q:AD)(b:List X2)(hb:b.length<=9223372036854775807):∃r,Qf q b=some r/\(r=true->BR b):=by unfold Qf;refine BT (fun h=>⟨_,rfl,fun _=>?_⟩) (fun _=>?_);have:b=[]:=List.eq_nil_of_length_eq_zero (by omega);subst this;exact⟨List.Pairwise.nil,by simp⟩;refine BT (fun h1=>?_) (fun _=>⟨_,rfl,by simp⟩);refine BT (fun h2=>?_) (fun _=>⟨_,rfl,by simp⟩);obtain⟨x,hx,_⟩:=AZ (l:=b) (i:=0) (by omega);obtain⟨y,hy,_⟩:=AZ (l:=q.quants) (i:=0) (by omega);rw[show(0:Int)=((0:Nat):Int)from rfl,AN hx];refine BT (fun h3=>?_) (fun _=>⟨_,rfl,by simp⟩);rw[AN hx,AN hy];refine BT (fun h4=>?_) (fun _=>⟨_,rfl,by simp⟩);obtain⟨r,hr,hR⟩:=Mx b hb;exact BY hr ⟨_,rfl,hR⟩
theorem aYm{i:Nat}(h:0<i)(hi:i<=1000000):AA .sub .i64 (i:Int) 1=((i-1:Nat):Int):=by have:IntKind.wrap .i64 ((i:Int)-1)=(i:Int)-1:=IntWalk.i64_in _ ⟨by omega,by omega⟩;show IntKind.wrap .i64 ((i:Int)-1)=_;rw[this];omega
theorem KX:∀(al:List BW) (xs:List X0) (b:List X2) (p:List X2×List X2),(∀a∈al,a.kind≠3)->HP al xs b []=some p->p.2=[]
 |[],xs,b,p,_,h=>by
  cases xs<;>(simp only[HP,oe]at h;subst h;rfl)
 |a::al,[],b,p,_,h=>by simp only[HP,oe]at h;subst h;rfl
 |a::al,x::xs,b,p,hk,h=>by
  have ih:=fun b' h'=>KX al xs b' p (fun a ha=>hk a (List.mem_cons_of_mem _ ha)) h';rw[HP]at h;split at h;split at h;exact ih _ h;cases h;split at h;split at h;cases h;exact ih _ h;split at h;exact absurd (by assumption) (hk a (by simp));exact ih _ h
theorem YV{q:AD}(hR:Af q)(hS:CI q){e:X8}{i:Nat}{h:Ar}(hh:JT q i e=some h):h.frees=[]:=by unfold JT at hh;split at hh;cases hh;rename_i s hs;split at hh;cases hh;split at hh;rw[om]at hh;obtain⟨p,hp,rfl⟩:=hh;refine KX _ _ _ _ (fun a ha h3=>?_) hp;have:=((hR.symbols s (List.mem_of_getElem? hs)).args a ha).three h3;rw[hS.frees]at this;simp at this;omega;cases hh
structure aT2(l:List Ar):Prop where
 frees:∀h∈l,h.frees=[]
 rise:l.Pairwise fun a b=>a.symbol<b.symbol
 len:l.length<=1000
def ga(w:List Int)(i:Nat):Int:=w.getD i 0
def swp(w:List Int)(i j:Nat):List Int:=(w.set i (ga w j)).set j (ga w i)
theorem Bw(w:List Int)(i j:Nat):(swp w i j).length=w.length:=by unfold swp;rw[List.length_set,List.length_set]
theorem Ew{w:List Int}{i j:Nat}(hi:i<w.length)(hj:j<w.length)(k:Nat):ga (swp w i j) k=if k=j then ga w i else if k=i then ga w j else ga w k:=by unfold swp ga;simp only[List.getD_eq_getElem?_getD,List.getElem?_set,List.length_set];by_cases h1:k=j;subst h1;simp[hj];rw[if_neg (fun e=>h1 e.symm),if_neg h1];by_cases h2:k=i;subst h2;simp[hi];rw[if_neg (fun e=>h2 e.symm),if_neg h2]
theorem JP{w:List Int}{i:Nat}(h:i<w.length):w[i]=ga w i:=by unfold ga;simp[h]
theorem aKt{w:List Int}{i j:Nat}(hi:i<w.length)(hj:j<w.length):(swp w i j).Perm w:=by have:=List.set_set_perm hi hj;rw[JP hi,JP hj]at this;exact this
structure Pm(a b:Nat)(w w':List Int):Prop where
 perm:w'.Perm w
 out:∀i,i<a\/b<=i->ga w' i=ga w i
 src:∀j,a<=j->j<b->∃i,a<=i/\i<b/\ga w' j=ga w i
theorem Pm.len{a b:Nat}{w w':List Int}(h:Pm a b w w'):w'.length=w.length:=h.perm.length_eq
theorem Pm.refl(a b:Nat)(w:List Int):Pm a b w w:=⟨List.Perm.refl _,fun _ _=>rfl,fun j h1 h2=>⟨j,h1,h2,rfl⟩⟩
theorem Pm.trans{a b:Nat}{w w1 w2:List Int}(h:Pm a b w w1)(k:Pm a b w1 w2):Pm a b w w2:=
 ⟨k.perm.trans h.perm,fun i hi=>(k.out i hi).trans (h.out i hi),fun j h1 h2=>by obtain⟨i,a1,a2,a3⟩:=k.src j h1 h2;obtain⟨i2,b1,b2,b3⟩:=h.src i a1 a2;exact⟨i2,b1,b2,a3.trans b3⟩⟩
theorem Pm.mono{a b a' b':Nat}{w w1:List Int}(h:Pm a b w w1)(h1:a'<=a)(h2:b<=b'):Pm a' b' w w1:=
 ⟨h.perm,fun i hi=>h.out i (by omega),fun j j1 j2=>by by_cases hj:a<=j/\j<b;obtain⟨i,a1,a2,a3⟩:=h.src j hj.1 hj.2;exact⟨i,by omega,by omega,a3⟩;exact⟨j,j1,j2,h.out j (by omega)⟩⟩
theorem Pm.swp{a b:Nat}{w:List Int}{i j:Nat}(hi:a<=i/\i<b)(hj:a<=j/\j<b)(hb:b<=w.length):Pm a b w (swp w i j):=by
 have h1:i<w.length:=by omega
 have h2:j<w.length:=by omega
 refine⟨aKt h1 h2,fun k hk=>?_,fun k k1 k2=>?_⟩;rw[Ew h1 h2,if_neg (by omega),if_neg (by omega)];rw[Ew h1 h2];split;exact⟨i,hi.1,hi.2,rfl⟩;split;exact⟨j,hj.1,hj.2,rfl⟩;exact⟨k,k1,k2,rfl⟩
section
variable {β:Type}
theorem Ey{w:List Int}{n:Nat}(h:n<w.length)(k:Int->Option β):AW w (n:Int) k=k (ga w n):=by refine AN ?_ k;rw[List.getElem?_eq_getElem h,JP h]
theorem FM{w:List Int}{n:Nat}(h:n<w.length)(k:Option β):AY (0<=(n:Int)/\(n:Int)+1<=(w.length:Int)) k=k:=Aw ⟨by omega,by omega⟩ k
theorem ltT{i j:Nat}(h:i<j)(x y:Option β):AE (decide ((i:Int)<(j:Int))) x y=x:=by rw[decide_eq_true (by omega)];rfl
theorem ltF{i j:Nat}(h:¬i<j)(x y:Option β):AE (decide ((i:Int)<(j:Int))) x y=y:=by rw[decide_eq_false (by omega)];rfl
theorem leT{i j:Nat}(h:i<=j)(x y:Option β):AE (decide ((i:Int)<=(j:Int))) x y=x:=by rw[decide_eq_true (by omega)];rfl
theorem leF{i j:Nat}(h:¬i<=j)(x y:Option β):AE (decide ((i:Int)<=(j:Int))) x y=y:=by rw[decide_eq_false (by omega)];rfl
end
theorem GM{n:Nat}(h:n<=4611686018427387904):AA .add .i64 (n:Int) 1=((n+1:Nat):Int):=M5 (by omega)
theorem Dv{n:Nat}(h:1<=n/\n<=4611686018427387904):AA .sub .i64 (n:Int) 1=((n-1:Nat):Int):=by rw[aAx (by omega) (by omega)];omega
theorem PK{n m:Nat}(h:n+m<=4611686018427387904):AA .add .i64 (n:Int) (m:Int)=((n+m:Nat):Int):=by rw[L8 (by omega) (by omega)];omega
theorem aAy{n m:Nat}(h:m<=n/\n<=4611686018427387904):AA .sub .i64 (n:Int) (m:Int)=((n-m:Nat):Int):=by rw[aAx (by omega) (by omega)];omega
theorem Bv(a b:Int):Y9 a b=some (decide (a<b)):=by unfold Y9 Qc;simp[AJ,AE]
theorem aXy(a i:Nat)(s2 s6:Int):∀(j:Nat) (w:List Int),w.length<=1000000->i<w.length->a<=j->j<=i->(∀p q,a<=p->p<q->q<=i->q≠j->ga w p<=ga w q)->
 ∃w',QR (a:Int) s2 s6 (j:Int) w=some w'/\Pm a (i+1) w w'/\∀p q,a<=p->p<q->q<=i->ga w' p<=ga w' q:=by
 intro j
 induction j with
 |zero=>
  intro w hl hi ha hj hs
  refine⟨w,?_,Pm.refl _ _ _,fun p q h1 h2 h3=>hs p q h1 h2 h3 (by omega)⟩
  rw[O9]
  unfold E1
  rw[ltF (by omega),Ad]
 |succ j ih=>
  intro w hl hi ha hj hs
  rw[O9]
  by_cases h0:a<j+1
  by_cases h1:ga w (j+1)<ga w j
  have hp:=Pm.swp (a:=a) (b:=i+1) (w:=w) (i:=j+1) (j:=j) ⟨by omega,by omega⟩ ⟨by omega,by omega⟩ (by omega)
  have hg:=Ew (w:=w) (i:=j+1) (j:=j) (by omega) (by omega)
  obtain⟨w',e1,e2,e3⟩:=ih (swp w (j+1) j) (by rw[Bw];omega) (by rw[Bw];omega) (by omega) (by omega) (fun p q p1 p2 p3 p4=>by have b1:=hs p q p1 p2 p3;have b2:=hs p (j+1) p1;have b3:=hs p j p1;have b4:=hs (j+1) q (by omega);have b5:=hs j q (by omega);rw[hg,hg];by_cases c1:p=j;rw[if_pos c1];by_cases c2:q=j+1;rw[if_neg (by omega),if_pos c2];omega;rw[if_neg (by omega),if_neg c2];exact b4 (by omega) p3 c2;rw[if_neg c1];by_cases c2:p=j+1;rw[if_pos c2,if_neg (by omega),if_neg (by omega)];exact b5 (by omega) p3 (by omega);rw[if_neg c2];by_cases c3:q=j+1;rw[if_neg (by omega),if_pos c3];exact b3 (by omega) (by omega) (by omega);rw[if_neg (by omega),if_neg c3];exact b1 c3)
  refine⟨w',?_,hp.trans e2,e3⟩
  rw[<-e1]
  unfold E1
  rw[ltT h0]
  simp (disch:=omega) only[Dv,Nat.add_sub_cancel,FM,Ey,Bv,AB,h1,decide_true,AI,List.length_set,Int.toNat_natCast,BF]
  rfl
  refine⟨w,?_,Pm.refl _ _ _,fun p q p1 p2 p3=>?_⟩
  unfold E1
  rw[ltT h0]
  simp (disch:=omega) only[Dv,Nat.add_sub_cancel,FM,Ey,Bv,AB,h1,decide_false,AG,Ad]
  by_cases hq:q=j+1
  subst hq
  by_cases hpj:p=j
  subst hpj;omega
  have:=hs p j p1 (by omega) (by omega) (by omega)
  omega
  exact hs p q p1 p2 p3 hq
  refine⟨w,?_,Pm.refl _ _ _,fun p q p1 p2 p3=>hs p q p1 p2 p3 (by omega)⟩
  unfold E1
  rw[ltF h0,Ad]
def So(a b:Nat)(w:List Int):Prop:=∀p q,a<=p->p<q->q<b->ga w p<=ga w q
theorem aXx(a b:Nat):∀(m i:Nat) (w:List Int),b<=i+m->w.length<=1000000->b<=w.length->a<i->So a i w->
 ∃w',QQ (a:Int) (b:Int) (i:Int) w=some w'/\Pm a b w w'/\So a b w':=by
 intro m
 induction m with
 |zero=>
  intro i w hm hl hb ha hs
  refine⟨w,?_,Pm.refl _ _ _,fun p q h1 h2 h3=>hs p q h1 h2 (by omega)⟩
  rw[O8]
  unfold Gr
  rw[ltF (by omega),Ad]
 |succ m ih=>
  intro i w hm hl hb ha hs
  rw[O8]
  unfold Gr
  by_cases h0:i<b
  obtain⟨w1,e1,e2,e3⟩:=aXy a i (b:Int) (i:Int) i w hl (by omega) (by omega) (by omega) (fun p q h1 h2 h3 h4=>hs p q h1 h2 (by omega))
  obtain⟨w2,f1,f2,f3⟩:=ih (i+1) w1 (by omega) (by rw[e2.len];exact hl) (by rw[e2.len];exact hb) (by omega) (fun p q h1 h2 h3=>e3 p q h1 h2 (by omega))
  refine⟨w2,?_,(e2.mono (by omega) (by omega)).trans f2,f3⟩
  rw[ltT h0,e1,AB,GM (by omega),BF]
  exact f1
  refine⟨w,by rw[ltF h0,Ad],Pm.refl _ _ _,fun p q h1 h2 h3=>hs p q h1 h2 (by omega)⟩
theorem aXz(a b:Nat)(w:List Int)(hl:w.length<=1000000)(hb:b<=w.length)(hab:a<=b):∃w',Xv (a:Int) (b:Int) w=some w'/\Pm a b w w'/\So a b w':=by obtain⟨w',e1,e2,e3⟩:=aXx a b b (a+1) w (by omega) hl hb (by omega) (fun p q h1 h2 h3=>by omega);refine⟨w',?_,e2,e3⟩;unfold Xv;rw[GM (by omega),e1,AB]
theorem Mm{n:Nat}(h:2*n<=4611686018427387904):AA .mul .i64 2 (n:Int)=((2*n:Nat):Int):=by rw[aS4 (by omega) (by omega)];omega
theorem aTe{n k:Nat}(h:n<=4611686018427387904):AA .quo .i64 (n:Int) (k:Int)=((n/k:Nat):Int):=by show IntKind.wrap .i64 ((n:Int).tdiv (k:Int))=_;rw[<-Int.ofNat_tdiv];have:n/k<=n:=Nat.div_le_self _ _;generalize n/k=d at*;exact aQn (by omega) (by omega)
def Ch(k c:Nat):Prop:=c=2*k+1\/c=2*k+2
def HpX(f lo hi r:Nat)(w:List Int):Prop:=∀k c,lo<=k->Ch k c->c<hi->k≠r->ga w (f+c)<=ga w (f+k)
def Hp(f lo hi:Nat)(w:List Int):Prop:=∀k c,lo<=k->Ch k c->c<hi->ga w (f+c)<=ga w (f+k)
theorem aQf(f lo hi:Nat):∀(m r:Nat) (w:List Int),hi<=r+m->lo<=r->r<=1000000->w.length<=1000000->f+hi<=w.length->HpX f lo hi r w->
 (∀k c,lo<=k->Ch k r->Ch r c->c<hi->ga w (f+c)<=ga w (f+k))->
 ∃w' o,QL (hi:Int) (f:Int) (r:Int) w=some o/\(o=.inl w'\/o=.inr w')/\Pm (f+lo) (f+hi) w w'/\Hp f lo hi w':=by
 intro m
 induction m with
 |zero=>
  intro r w hm hr hr1 hl hf hH hG
  refine⟨w,_,?_,.inl rfl,Pm.refl _ _ _,fun k c h1 h2 h3=>hH k c h1 h2 h3 (by unfold Ch at h2;omega)⟩
  rw[O1]
  unfold EZ Jw
  simp (disch:=omega) only[Mm,GM,leT,AB,ED,CR,Ad]
 |succ m ih=>
  intro r w hm hr hr1 hl hf hH hG
  rw[O1]
  by_cases h0:hi<=2*r+1
  refine⟨w,_,?_,.inl rfl,Pm.refl _ _ _,fun k c h1 h2 h3=>hH k c h1 h2 h3 (by unfold Ch at h2;omega)⟩
  unfold EZ Jw
  simp (disch:=omega) only[Mm,GM,leT,AB,ED,CR,Ad]
  have key:∃c2,Ch r c2/\c2<hi/\(∀c,Ch r c->c<hi->ga w (f+c)<=ga w (f+c2))/\
   EZ (hi:Int) (f:Int) (r:Int) w=(if ga w (f+r)<ga w (f+c2)then some (.inl ((c2:Int),swp w (f+r) (f+c2)))else some (.inr (.inr w))):=by
   by_cases h1:2*r+2<hi
   by_cases h2:ga w (f+(2*r+1))<ga w (f+(2*r+2))
   refine⟨2*r+2,.inr rfl,h1,fun c hc hch=>by rcases hc with rfl|rfl<;>omega,?_⟩
   unfold EZ Jw Ku
   have h2':ga w (f+(2*r+1))<ga w (f+(2*r+1)+1):=h2
   by_cases h3:ga w (f+r)<ga w (f+(2*r+2))
   have h3':ga w (f+r)<ga w (f+(2*r+1+1)):=h3
   rw[if_pos h3]
   simp (disch:=omega) only[Mm,GM,PK,leF,ltT,FM,Ey,Bv,AB,h2',h3',decide_true,Bool.not_true,AI,AG,List.length_set,Int.toNat_natCast,CR]
   rfl
   have h3':¬ga w (f+r)<ga w (f+(2*r+1+1)):=h3
   rw[if_neg h3]
   simp (disch:=omega) only[Mm,GM,PK,leF,ltT,FM,Ey,Bv,AB,h2',h3',decide_true,decide_false,Bool.not_false,AI,AG,List.length_set,Int.toNat_natCast,CR,ED]
   refine⟨2*r+1,.inl rfl,by omega,fun c hc hch=>by rcases hc with rfl|rfl<;>omega,?_⟩
   unfold EZ Jw Ku
   have h2':¬ga w (f+(2*r+1))<ga w (f+(2*r+1)+1):=h2
   by_cases h3:ga w (f+r)<ga w (f+(2*r+1))
   rw[if_pos h3]
   simp (disch:=omega) only[Mm,GM,PK,leF,ltT,FM,Ey,Bv,AB,h2',h3,decide_true,decide_false,Bool.not_true,AI,AG,List.length_set,Int.toNat_natCast,CR]
   rfl
   rw[if_neg h3]
   simp (disch:=omega) only[Mm,GM,PK,leF,ltT,FM,Ey,Bv,AB,h2',h3,decide_true,decide_false,Bool.not_false,AI,AG,List.length_set,Int.toNat_natCast,CR,ED]
   refine⟨2*r+1,.inl rfl,by omega,fun c hc hch=>by rcases hc with rfl|rfl<;>omega,?_⟩
   unfold EZ Jw Ku
   by_cases h3:ga w (f+r)<ga w (f+(2*r+1))
   rw[if_pos h3]
   simp (disch:=omega) only[Mm,GM,PK,leF,ltF,FM,Ey,Bv,AB,h3,decide_true,decide_false,Bool.not_true,AI,AG,List.length_set,Int.toNat_natCast,CR]
   rfl
   rw[if_neg h3]
   simp (disch:=omega) only[Mm,GM,PK,leF,ltF,FM,Ey,Bv,AB,h3,decide_true,decide_false,Bool.not_false,AI,AG,List.length_set,Int.toNat_natCast,CR,ED]
  obtain⟨c2,hc2,hc2h,hmax,hstep⟩:=key
  rw[hstep]
  have hrc:r<c2:=by unfold Ch at hc2;omega
  by_cases h3:ga w (f+r)<ga w (f+c2)
  rw[if_pos h3,BF]
  have hg:=Ew (w:=w) (i:=f+r) (j:=f+c2) (by omega) (by omega)
  have er:ga (swp w (f+r) (f+c2)) (f+r)=ga w (f+c2):=by rw[hg,if_neg (by omega),if_pos rfl]
  have ec:ga (swp w (f+r) (f+c2)) (f+c2)=ga w (f+r):=by rw[hg,if_pos rfl]
  have en:∀x,x≠r->x≠c2->ga (swp w (f+r) (f+c2)) (f+x)=ga w (f+x):=fun x h1 h2=>by rw[hg,if_neg (by omega),if_neg (by omega)]
  obtain⟨w',o,e1,e2,e3,e4⟩:=ih c2 (swp w (f+r) (f+c2)) (by omega) (by omega) (by omega) (by rw[Bw];exact hl) (by rw[Bw];exact hf)
   (fun k c h1 h2 h4 h5=>by by_cases k1:k=r;subst k1;by_cases k2:c=c2;subst k2;rw[ec,er];omega;rw[er,en c (by unfold Ch at h2;omega) k2];exact hmax c h2 h4;rw[en k k1 h5];by_cases k2:c=r;subst k2;rw[er];exact hG k c2 h1 h2 hc2 hc2h;by_cases k3:c=c2;exfalso;unfold Ch at h2 hc2;omega;rw[en c k2 k3];exact hH k c h1 h2 h4 k1)
   (fun k c h1 h2 h4 h5=>by
    have:k=r:=by unfold Ch at h2 hc2;omega
    subst this;rw[er,en c (by unfold Ch at h4;omega) (by unfold Ch at h4;omega)];exact hH c2 c (by omega) h4 h5 (by omega))
  exact⟨w',o,e1,e2,(Pm.swp ⟨by omega,by omega⟩ ⟨by omega,by omega⟩ hf).trans e3,e4⟩
  rw[if_neg h3,Ad]
  refine⟨w,_,rfl,.inr rfl,Pm.refl _ _ _,fun k c h1 h2 h4=>?_⟩
  by_cases k1:k=r
  subst k1;have:=hmax c h2 h4;omega
  exact hH k c h1 h2 h4 k1
theorem aAr{f lo hi:Nat}{w:List Int}(hl:w.length<=1000000)(hf:f+hi<=w.length)(hr:lo<=1000000)(hH:HpX f lo hi lo w):
 ∃w',Xp (lo:Int) (hi:Int) (f:Int) w=some w'/\Pm (f+lo) (f+hi) w w'/\Hp f lo hi w':=by
 obtain⟨w',o,e1,e2,e3,e4⟩:=aQf f lo hi hi lo w (by omega) (Nat.le_refl _) hr hl hf hH (fun k c h1 h2 h3 h4=>by unfold Ch at h2;omega)
 refine⟨w',?_,e3,e4⟩
 unfold Xp
 rw[e1,AB]
 rcases e2 with rfl|rfl<;>rfl
theorem aPw(f hi:Nat):∀(m:Nat) (w:List Int),w.length<=1000000->f+hi<=w.length->m<=1000000->Hp f m hi w->
 ∃w',QS (f:Int) 0 (hi:Int) ((m:Int)-1) w=some w'/\Pm f (f+hi) w w'/\Hp f 0 hi w':=by
 intro m
 induction m with
 |zero=>
  intro w hl hf hm hH
  refine⟨w,?_,Pm.refl _ _ _,hH⟩
  rw[PA]
  unfold Gs
  rw[decide_eq_false (by omega),AG,Ad]
 |succ m ih=>
  intro w hl hf hm hH
  obtain⟨w1,e1,e2,e3⟩:=aAr (f:=f) (lo:=m) (hi:=hi) hl hf (by omega) (fun k c h1 h2 h3 h4=>hH k c (by omega) h2 h3)
  obtain⟨w2,f1,f2,f3⟩:=ih w1 (by rw[e2.len];exact hl) (by rw[e2.len];exact hf) (by omega) e3
  refine⟨w2,?_,(e2.mono (by omega) (by omega)).trans f2,f3⟩
  rw[PA]
  unfold Gs
  rw[show(((m+1:Nat):Int)-1)=(m:Int) by omega,decide_eq_true (by omega),AI,e1,AB,aAx (by omega) (by omega),BF]
  exact f1
theorem aJy{f hi:Nat}{w:List Int}(h:Hp f 0 hi w):∀k,k<hi->ga w (f+k)<=ga w f:=by
 intro k;induction k using Nat.strongRecOn with
 |ind k ih=>
  intro hk
  by_cases h0:k=0
  subst h0;exact Int.le_refl _
  have h1:=h ((k-1)/2) k (by omega) (by unfold Ch;omega) hk
  have h2:=ih ((k-1)/2) (by omega) (by omega)
  omega
theorem aPx(f hi:Nat):∀(m:Nat) (w:List Int),w.length<=1000000->f+hi<=w.length->m<=hi->Hp f 0 m w->(∀p q,p<q->q<hi->m<=q->ga w (f+p)<=ga w (f+q))->
 ∃w',QT (f:Int) 0 ((m:Int)-1) w=some w'/\Pm f (f+hi) w w'/\∀p q,p<q->q<hi->ga w' (f+p)<=ga w' (f+q):=by
 intro m
 induction m with
 |zero=>
  intro w hl hf hm hH hs
  refine⟨w,?_,Pm.refl _ _ _,fun p q h1 h2=>hs p q h1 h2 (by omega)⟩
  rw[PB]
  unfold Gt
  rw[decide_eq_false (by omega),AG,Ad]
 |succ m ih=>
  intro w hl hf hm hH hs
  have hg:=Ew (w:=w) (i:=f) (j:=f+m) (by omega) (by omega)
  have hmx:=aJy hH
  obtain⟨w1,e1,e2,e3⟩:=aAr (f:=f) (lo:=0) (hi:=m) (w:=swp w f (f+m)) (by rw[Bw];exact hl) (by rw[Bw];omega) (by omega) (fun k c h1 h2 h3 h4=>by
   have:0<c:=by unfold Ch at h2;omega
   have:=hH k c h1 h2 (by omega);by_cases km:k=m;unfold Ch at h2;omega;rw[hg,hg,if_neg (by omega),if_neg (by omega),if_neg (by omega),if_neg (by omega)];exact this)
  rw[Nat.add_zero]at e2
  have hsw:Pm f (f+(m+1)) w (swp w f (f+m)):=Pm.swp ⟨by omega,by omega⟩ ⟨by omega,by omega⟩ (by omega)
  have hpm:=hsw.trans (e2.mono (Nat.le_refl _) (by omega))
  obtain⟨w2,f1,f2,f3⟩:=ih w1 (by rw[hpm.len];exact hl) (by rw[hpm.len];exact hf) (by omega) e3 (fun p q h1 h2 h3=>by
   have hp':∀p,p<m+1->∃p',p'<m+1/\ga w1 (f+p)=ga w (f+p'):=fun p hp=>by obtain⟨i,i1,i2,i3⟩:=hpm.src (f+p) (by omega) (by omega);exact⟨i-f,by omega,by rw[i3];congr 1;omega⟩
   by_cases hq:q=m;subst hq;have eq1:ga w1 (f+q)=ga w f:=by rw[e2.out (f+q) (by omega),hg,if_pos rfl]
   obtain⟨p',p1,p2⟩:=hp' p (by omega);rw[eq1,p2];exact hmx p' p1;have eq1:ga w1 (f+q)=ga w (f+q):=hpm.out _ (by omega);rw[eq1];by_cases hpm1:p<m+1;obtain⟨p',p1,p2⟩:=hp' p hpm1;rw[p2];exact hs p' q (by omega) h2 (by omega);rw[hpm.out (f+p) (by omega)];exact hs p q h1 h2 (by omega))
  refine⟨w2,?_,(hpm.mono (by omega) (by omega)).trans f2,f3⟩
  rw[PB]
  unfold Gt
  rw[show(((m+1:Nat):Int)-1)=(m:Int) by omega,decide_eq_true (by omega),AI]
  simp (disch:=omega) only[PK,FM,Ey,List.length_set,Int.toNat_natCast]
  have e1':Xp 0 (m:Int) (f:Int) ((w.set f (ga w (f+m))).set (f+m) (ga w f))=some w1:=e1
  rw[e1',AB,aAx (by omega) (by omega),BF]
  exact f1
theorem aPy(a b:Nat)(w:List Int)(hl:w.length<=1000000)(hb:b<=w.length)(hab:a<b):∃w',Xw (a:Int) (b:Int) w=some w'/\Pm a b w w'/\So a b w':=by
 obtain⟨w1,e1,e2,e3⟩:=aPw a (b-a) ((b-a-1)/2+1) w hl (by omega) (by omega) (fun k c h1 h2 h3=>by unfold Ch at h2;omega);obtain⟨w2,f1,f2,f3⟩:=aPx a (b-a) (b-a) w1 (by rw[e2.len];exact hl) (by rw[e2.len];omega) (Nat.le_refl _) e3 (fun p q h1 h2 h3=>by omega);have hab':a+(b-a)=b:=by omega
 rw[hab']at e2 f2;refine⟨w2,?_,e2.trans f2,fun p q h1 h2 h3=>?_⟩;unfold Xw;rw[aAy (by omega),Dv (by omega)];have hq:AA .quo .i64 ((b-a-1:Nat):Int) 2=(((b-a-1)/2:Nat):Int):=aTe (k:=2) (by omega);rw[hq];rw[show((((b-a-1)/2+1:Nat):Int)-1)=(((b-a-1)/2:Nat):Int) by omega]at e1;rw[show(((b-a:Nat):Int)-1)=((b-a-1:Nat):Int) by omega]at f1;rw[e1,AB,f1,AB];have:=f3 (p-a) (q-a) (by omega) (by omega);rw[show a+(p-a)=p by omega,show a+(q-a)=q by omega]at this;exact this
theorem aTf(a b:Nat):∀(m i j:Nat) (w:List Int),j<=i+m->a<=i->j<=b->w.length<=1000000->b<=w.length->i<=1000000->
 ∃w',QX (i:Int) ((j:Int)-1) w=some w'/\Pm a b w w':=by
 intro m
 induction m using Nat.strongRecOn with
 |ind m ih=>
  intro i j w hm ha hj hl hb hi
  rw[aHy]
  unfold Ij
  by_cases h0:i+1<j
  have hs:Pm a b w (swp w i (j-1)):=Pm.swp ⟨by omega,by omega⟩ ⟨by omega,by omega⟩ hb
  obtain⟨w',e1,e2⟩:=ih (m-2) (by omega) (i+1) (j-1) (swp w i (j-1)) (by omega) (by omega) (by omega) (by rw[Bw];exact hl) (by rw[Bw];exact hb) (by omega)
  refine⟨w',?_,hs.trans e2⟩
  rw[show((j:Int)-1)=((j-1:Nat):Int) by omega]
  rw[show(((j-1:Nat):Int)-1)=((j-1-1:Nat):Int) by omega]at e1
  rw[<-e1]
  simp (disch:=omega) only[ltT,FM,Ey,GM,Dv,List.length_set,Int.toNat_natCast,BF]
  rfl
  refine⟨w,?_,Pm.refl _ _ _⟩
  rw[decide_eq_false (by omega),AG,Ad]
theorem aTg(a b:Nat)(w:List Int)(hl:w.length<=1000000)(hb:b<=w.length)(hab:a<=b):∃w',Yo (a:Int) (b:Int) w=some w'/\Pm a b w w':=by obtain⟨w',e1,e2⟩:=aTf a b b a b w (by omega) (Nat.le_refl _) (Nat.le_refl _) hl hb (by omega);refine⟨w',?_,e2⟩;unfold Yo;rw[aAx (by omega) (by omega),e1,AB]
def l8:List UInt8:=[0,1,2,2,3,3,3,3,4,4,4,4,4,4,4,4,5,5,5,5,5,5,5,5,5,5,5,5,5,5,5,5,6,6,6,6,6,6,6,6,6,6,6,6,6,6,6,6,6,6,6,6,6,6,6,6,6,6,6,6,6,6,6,6]++List.replicate 64 7++List.replicate 128 8
theorem aSz:∀n,n<256->∃c:UInt8,l8[n]? =some c/\c.toNat<=8/\n<2^c.toNat/\(0<n->2^c.toNat<=2*n):=by
 have key:((List.range 256).all fun n=>match l8[n]? with
  |some c=>decide (c.toNat<=8)&&decide (n<2^c.toNat)&&(decide (n=0)||decide (2^c.toNat<=2*n))
  |none=>false)=true:=by kernel_rfl
 intro n hn;have h:=(List.all_eq_true.1 key) n (List.mem_range.2 hn);revert h;cases l8[n]? with
 |none=>intro h;cases h
 |some c=>
  intro h
  simp only[ba,Bool.or_eq_true,decide_eq_true_eq]at h
  exact⟨c,rfl,h.1.1,h.1.2,fun h0=>by rcases h.2 with h2|h2<;>omega⟩
theorem aP2(a0:Int):Yr a0=(AJ (V8 a0 0 (decide (4294967296<=a0))) fun o1=>AJ (V9 o1.1 o1.2 (decide (65536<=o1.1))) fun o2=>AJ (WA o2.1 o2.2 (decide (256<=o2.1))) fun o3=>
 AW l8 ((u8w o3.1).toNat:Int) fun x4=>some (AA .add .i64 o3.2 (x4.toNat:Int))):=by kernel_rfl
theorem aK4{n:Nat}(hn:n<65536):∃k:Nat,Qb ((n:Nat):Int)=some (k:Int)/\k<=16/\n<2^k/\(0<n->2^k<=2*n):=by unfold Qb;rw[aP2];unfold V8 V9 WA;rw[decide_eq_false (by omega),AG,AB,decide_eq_false (by simp only;omega),AG,AB];simp only;by_cases h:256<=n;obtain⟨c,e1,e2,e3,e4⟩:=aSz (n/256) (by omega);refine⟨8+c.toNat,?_,by omega,?_,fun _=>?_⟩;rw[decide_eq_true (by omega),AI,AB];simp only;have hs:AA .shr .u64 (n:Int) 8=((n/2^8:Nat):Int):=aT0 (k:=8) (by decide);rw[hs,show(n/2^8)=n/256 from rfl,aA9 (by omega)];rw[AN (xs:=l8) e1,AB,L8 (a:=0) (b:=8) (by omega) (by omega),L8 (by omega) (by omega)];simp;rw[Nat.pow_add];omega;rw[Nat.pow_add];have:=e4 (by omega);omega;obtain⟨c,e1,e2,e3,e4⟩:=aSz n (by omega);refine⟨c.toNat,?_,by omega,e3,e4⟩;rw[decide_eq_false (by omega),AG,AB];simp only;rw[aA9 (by omega)];rw[AN (xs:=l8) e1,AB,L8 (by omega) (by omega)];simp
theorem aO7(x k:Nat)(hk:k<=62)(hx:x<18446744073709551616):AA .and .u64 (x:Int) (AA .sub .u64 ((2^k:Nat):Int) 1)=((x % 2^k:Nat):Int):=by
 have hp:2^k<=2^62:=Nat.pow_le_pow_right (by decide) hk;have hp0:0<2^k:=Nat.two_pow_pos k;have hs:AA .sub .u64 ((2^k:Nat):Int) 1=((2^k-1:Nat):Int):=by show IntKind.wrap .u64 (((2^k:Nat):Int)-1)=_;rw[show((2^k:Nat):Int)-1=((2^k-1:Nat):Int) by omega];exact Aq (by omega)
 rw[hs,aTs hx (by omega),Nat.and_two_pow_sub_one_eq_mod]
theorem Rj{n:Nat}(hn:n<65536):∃k:Nat,Qj (n:Int)=some ((2^k:Nat):Int)/\k<=16/\n<2^k/\(0<n->2^k<=2*n):=by obtain⟨k,e1,e2,e3,e4⟩:=aK4 hn;refine⟨k,?_,e2,e3,e4⟩;unfold Qj;rw[Aq (by omega),e1,AB,Aw (by omega)];have hs:AA .shl .u64 1 (k:Int)=((1*2^k % 18446744073709551616:Nat):Int):=aYy (n:=1) (by omega);have hp:2^k<=2^62:=Nat.pow_le_pow_right (by decide) (by omega);rw[hs,Nat.one_mul,Nat.mod_eq_of_lt (by omega)]
theorem aQo{x:Nat}(hx:x<18446744073709551616):∃y:Nat,Qk (x:Int)=some ((y:Int),(y:Int))/\y<18446744073709551616:=by have h1:∀(a k:Nat),k<=64->∃b:Nat,AA .shl .u64 (a:Int) (k:Int)=(b:Int)/\b<18446744073709551616:=fun a k hk=>⟨_,aYy hk,Nat.mod_lt _ (by decide)⟩;have h2:∀(a k:Nat),k<=64->a<18446744073709551616->∃b:Nat,AA .shr .u64 (a:Int) (k:Int)=(b:Int)/\b<18446744073709551616:=fun a k hk ha=>⟨_,aT0 hk,Nat.lt_of_le_of_lt (Nat.div_le_self _ _) ha⟩;have h3:∀(a b:Nat),a<18446744073709551616->b<18446744073709551616->∃c:Nat,AA .xor .u64 (a:Int) (b:Int)=(c:Int)/\c<18446744073709551616:=fun a b ha hb=>⟨_,aY5 ha hb,Nat.xor_lt_two_pow (n:=64) ha hb⟩;obtain⟨a1,e1,f1⟩:=h1 x 13 (by decide);obtain⟨a2,e2,f2⟩:=h3 x a1 hx f1;obtain⟨a3,e3,f3⟩:=h2 a2 7 (by decide) f2;obtain⟨a4,e4,f4⟩:=h3 a2 a3 f2 f3;obtain⟨a5,e5,f5⟩:=h1 a4 17 (by decide);obtain⟨a6,e6,f6⟩:=h3 a4 a5 f4 f5;refine⟨a6,?_,f6⟩;have e1':AA .shl .u64 (x:Int) 13=(a1:Int):=e1;have e3':AA .shr .u64 (a2:Int) 7=(a3:Int):=e3;have e5':AA .shl .u64 (a4:Int) 17=(a5:Int):=e5;unfold Qk;rw[e1',e2,e3',e4,e5',e6]
theorem aSl(a n k q:Nat):∀(m i:Nat) (w:List Int) (x:Nat),q<=i+m->x<18446744073709551616->w.length<=60000->a+n<=w.length->a<=i->q<=a+n->0<n->n<2^k->2^k<=2*n->k<=16->q=a+n/4*2+2->
 ∃w',QP (a:Int) (n:Int) ((2^k:Nat):Int) (i:Int) w (x:Int)=some w'/\Pm a (a+n) w w':=by
 intro m
 induction m with
 |zero=>
  intro i w x hm hx hl hb ha hq h0 hk1 hk2 hk3 hqe
  refine⟨w,?_,Pm.refl _ _ _⟩
  rw[O6]
  unfold Gp
  have hd:AA .quo .i64 (n:Int) 4=((n/4:Nat):Int):=aTe (k:=4) (by omega)
  have hmu:AA .mul .i64 ((n/4:Nat):Int) 2=((n/4*2:Nat):Int):=by rw[aS4 (by omega) (by omega)];omega
  rw[hd,hmu,PK (by omega),GM (by omega),leF (by omega),Ad]
 |succ m ih=>
  intro i w x hm hx hl hb ha hq h0 hk1 hk2 hk3 hqe
  rw[O6]
  unfold Gp
  have hd:AA .quo .i64 (n:Int) 4=((n/4:Nat):Int):=aTe (k:=4) (by omega)
  have hmu:AA .mul .i64 ((n/4:Nat):Int) 2=((n/4*2:Nat):Int):=by rw[aS4 (by omega) (by omega)];omega
  rw[hd,hmu,PK (by omega),GM (by omega)]
  by_cases h1:i<=a+n/4*2+1
  obtain⟨y,ey,fy⟩:=aQo hx
  have hmod:y % 2^k<2^k:=Nat.mod_lt _ (Nat.two_pow_pos k)
  have hp:2^k<=2^16:=Nat.pow_le_pow_right (by decide) hk3
  obtain⟨o,ho,hon⟩:∃o:Nat,Nc (a:Int) (n:Int) ((2^k:Nat):Int) (i:Int) (((y % 2^k:Nat)):Int) (decide ((n:Int)<=((y % 2^k:Nat):Int))) w (y:Int)=some (o:Int)/\o<n:=by unfold Nc;by_cases h2:n<=y % 2^k;exact⟨y % 2^k-n,by rw[decide_eq_true (by omega),AI,aAy (by omega)],by omega⟩;exact⟨y % 2^k,by rw[decide_eq_false (by omega),AG],by omega⟩
  have hs:Pm a (a+n) w (swp w i (a+o)):=Pm.swp ⟨ha,by omega⟩ ⟨by omega,by omega⟩ hb
  obtain⟨w',e1,e2⟩:=ih (i+1) (swp w i (a+o)) y (by omega) fy (by rw[Bw];exact hl) (by rw[Bw];exact hb) (by omega) hq h0 hk1 hk2 hk3 hqe
  refine⟨w',?_,hs.trans e2⟩
  rw[<-e1,leT h1]
  unfold QO
  rw[ey,AB]
  simp only
  have hw:IntKind.wrap .i64 ((y % 2^k:Nat):Int)=((y % 2^k:Nat):Int):=aQn (by omega) (by omega)
  rw[aO7 y k (by omega) fy,hw,ho,AB]
  simp (disch:=omega) only[PK,FM,Ey,List.length_set,Int.toNat_natCast,AB,GM,BF]
  rfl
  refine⟨w,by rw[leF h1,Ad],Pm.refl _ _ _⟩
theorem aSm(a b:Nat)(w:List Int)(hl:w.length<=60000)(hb:b<=w.length)(hab:a+8<=b):∃w',Xs (a:Int) (b:Int) w=some w'/\Pm a b w w':=by
 obtain⟨k,e1,e2,e3,e4⟩:=Rj (n:=b-a) (by omega);have hd:AA .quo .i64 ((b-a:Nat):Int) 4=(((b-a)/4:Nat):Int):=aTe (k:=4) (by omega);have hmu:AA .mul .i64 (((b-a)/4:Nat):Int) 2=(((b-a)/4*2:Nat):Int):=by rw[aS4 (by omega) (by omega)];omega
 obtain⟨w',f1,f2⟩:=aSl a (b-a) k (a+(b-a)/4*2+2) 3 (a+(b-a)/4*2-1) w (b-a) (by omega) (by omega) hl (by omega) (by omega) (by omega) (by omega) e3 (e4 (by omega)) e2 rfl;rw[show a+(b-a)=b by omega]at f2;refine⟨w',?_,f2⟩;unfold Xs QN;rw[aAy (by omega),decide_eq_true (by omega),AI,e1,AB,hd,hmu,PK (by omega),Dv (by omega),Aq (by omega),f1,AB,AB]
def Vx(lo hi:Nat)(x:Int):Prop:=∃n:Nat,x=(n:Int)/\lo<=n/\n<hi
theorem OO{lo hi:Nat}{w:List Int}(hh:hi<=w.length){x y:Int}(s:Int)(hx:Vx lo hi x)(hy:Vx lo hi y):∃u v s',Zv w x y s=some (u,v,s')/\Vx lo hi u/\Vx lo hi v:=by obtain⟨i,rfl,i1,i2⟩:=hx;obtain⟨j,rfl,j1,j2⟩:=hy;unfold Zv;simp (disch:=omega) only[Ey,Bv,AB];by_cases h:ga w j<ga w i;exact⟨_,_,_,by rw[decide_eq_true h];rfl,⟨j,rfl,j1,j2⟩,⟨i,rfl,i1,i2⟩⟩;exact⟨_,_,_,by rw[decide_eq_false h];rfl,⟨i,rfl,i1,i2⟩,⟨j,rfl,j1,j2⟩⟩
theorem aLv{lo hi:Nat}{w:List Int}(hh:hi<=w.length){x y z:Int}(s:Int)(hx:Vx lo hi x)(hy:Vx lo hi y)(hz:Vx lo hi z):∃u s',Q3 w x y z s=some (u,s')/\Vx lo hi u:=by obtain⟨a1,b1,s1,e1,f1,g1⟩:=OO hh s hx hy;obtain⟨b2,c2,s2,e2,f2,g2⟩:=OO hh s1 g1 hz;obtain⟨a3,b3,s3,e3,f3,g3⟩:=OO hh s2 f1 f2;refine⟨b3,s3,?_,g3⟩;unfold Q3;simp only[e1,AB,e2,e3]
theorem XO{lo hi n:Nat}{w:List Int}(hh:hi<=w.length)(hl:w.length<=1000000)(s:Int)(h1:lo+1<=n)(h2:n+1<hi):∃u s',Zw w (n:Int) s=some (u,s')/\Vx lo hi u:=by obtain⟨u,s',e,h⟩:=aLv (lo:=lo) (hi:=hi) hh (x:=((n-1:Nat):Int)) (y:=(n:Int)) (z:=((n+1:Nat):Int)) s ⟨n-1,rfl,by omega,by omega⟩ ⟨n,rfl,by omega,by omega⟩ ⟨n+1,rfl,by omega,by omega⟩;refine⟨u,s',?_,h⟩;unfold Zw;rw[Dv (by omega),GM (by omega),e,AB]
theorem aX7{n k:Nat}(h:n*k<=4611686018427387904):AA .mul .i64 (n:Int) (k:Int)=((n*k:Nat):Int):=by
 have e:(n:Int)*(k:Int)=((n*k:Nat):Int):=by simp
 generalize n*k=d at*;rw[aS4 (by omega) (by omega)];exact e
theorem aTa(a b:Nat)(w:List Int)(hl:w.length<=1000000)(hb:b<=w.length)(hab:a+12<b):∃p h,Yw w (a:Int) (b:Int)=some (p,h)/\Vx a b p:=by
 have hd:AA .quo .i64 ((b-a:Nat):Int) 4=(((b-a)/4:Nat):Int):=aTe (k:=4) (by omega);have m1:AA .mul .i64 (((b-a)/4:Nat):Int) 1=(((b-a)/4*1:Nat):Int):=aX7 (k:=1) (by omega);have m2:AA .mul .i64 (((b-a)/4:Nat):Int) 2=(((b-a)/4*2:Nat):Int):=aX7 (k:=2) (by omega);have m3:AA .mul .i64 (((b-a)/4:Nat):Int) 3=(((b-a)/4*3:Nat):Int):=aX7 (k:=3) (by omega);have fin:∀(x s:Int),Vx a b x->∃p h,(AE (decide (s=0)) (some (x,(1:Int))) (AE (decide (s=12)) (some (x,2)) (some (x,0))))=some (p,h)/\Vx a b p:=fun x s hx=>by by_cases h1:s=0;exact⟨x,1,by rw[decide_eq_true h1];rfl,hx⟩;by_cases h2:s=12;exact⟨x,2,by rw[decide_eq_false h1,decide_eq_true h2];rfl,hx⟩;exact⟨x,0,by rw[decide_eq_false h1,decide_eq_false h2];rfl,hx⟩
 unfold Yw QY;rw[aAy (by omega),hd,m1,m2,m3,PK (by omega),PK (by omega),PK (by omega),decide_eq_true (by omega),AI];have hb2:∃x y z s,Nf w ((a+(b-a)/4*1:Nat):Int) ((a+(b-a)/4*2:Nat):Int) ((a+(b-a)/4*3:Nat):Int) (decide (50<=((b-a:Nat):Int))) 0=some (x,y,z,s)/\Vx a b x/\Vx a b y/\Vx a b z:=by unfold Nf;by_cases h:50<=b-a;obtain⟨x,s1,e1,h1⟩:=XO (lo:=a) (hi:=b) (n:=a+(b-a)/4*1) hb hl 0 (by omega) (by omega);obtain⟨y,s2,e2,h2⟩:=XO (lo:=a) (hi:=b) (n:=a+(b-a)/4*2) hb hl s1 (by omega) (by omega);obtain⟨z,s3,e3,h3⟩:=XO (lo:=a) (hi:=b) (n:=a+(b-a)/4*3) hb hl s2 (by omega) (by omega);refine⟨x,y,z,s3,?_,h1,h2,h3⟩;rw[decide_eq_true (by omega),AI,e1,AB,e2,AB,e3,AB];refine⟨_,_,_,_,by rw[decide_eq_false (by omega),AG],⟨_,rfl,by omega,by omega⟩,⟨_,rfl,by omega,by omega⟩,⟨_,rfl,by omega,by omega⟩⟩
 obtain⟨x,y,z,s,e,hx,hy,hz⟩:=hb2;obtain⟨u,s',e',hu⟩:=aLv hb s hx hy hz;rw[e,AB];simp only;rw[e',AB,AB];exact fin u s' hu
theorem aTb(a j:Nat)(w:List Int)(hl:w.length<=1000000)(hj:j<w.length)(ha:a<w.length):∀(m i:Nat),j+1<=i+m->i<=j+1->
 ∃o:Nat,NT (a:Int) (j:Int) w (i:Int)=some (o:Int)/\i<=o/\o<=j+1/\(∀k,i<=k->k<o->ga w k<ga w a)/\(o<=j->¬ga w o<ga w a):=by
 intro m
 induction m with
 |zero=>
  intro i hm hi
  refine⟨i,?_,Nat.le_refl _,hi,fun k h1 h2=>by omega,fun h=>by omega⟩
  rw[Oi]
  unfold GZ
  rw[leF (by omega),Ad]
 |succ m ih=>
  intro i hm hi
  rw[Oi]
  unfold GZ
  by_cases h0:i<=j
  by_cases h1:ga w i<ga w a
  obtain⟨o,e1,e2,e3,e4,e5⟩:=ih (i+1) (by omega) (by omega)
  refine⟨o,?_,by omega,e3,fun k k1 k2=>?_,e5⟩
  simp (disch:=omega) only[leT,FM,Ey,Bv,AB,h1,decide_true,AI,GM,BF]
  exact e1
  by_cases hk:k=i
  subst hk;exact h1
  exact e4 k (by omega) k2
  refine⟨i,?_,Nat.le_refl _,hi,fun k k1 k2=>by omega,fun _=>h1⟩
  simp (disch:=omega) only[leT,FM,Ey,Bv,AB,h1,decide_false,AG,Ad]
  refine⟨i,by rw[leF h0,Ad],Nat.le_refl _,hi,fun k k1 k2=>by omega,fun h=>absurd h h0⟩
theorem aTc(a i:Nat)(w:List Int)(hl:w.length<=1000000)(ha:a<w.length)(hi:1<=i):∀(j:Nat),j<w.length->i<=j+1->
 ∃o:Nat,NU (a:Int) (i:Int) w (j:Int)=some (o:Int)/\i<=o+1/\o<=j/\(∀k,o<k->k<=j->¬ga w k<ga w a)/\(i<=o->ga w o<ga w a):=by
 intro j
 induction j with
 |zero=>
  intro hj hij
  refine⟨0,?_,hij,Nat.le_refl _,fun k h1 h2=>by omega,fun h=>by omega⟩
  rw[Oj]
  unfold Ga
  rw[leF (by omega),Ad]
 |succ j ih=>
  intro hj hij
  rw[Oj]
  unfold Ga
  by_cases h0:i<=j+1
  by_cases h1:ga w (j+1)<ga w a
  refine⟨j+1,?_,by omega,Nat.le_refl _,fun k k1 k2=>by omega,fun _=>h1⟩
  simp (disch:=omega) only[leT,FM,Ey,Bv,AB,h1,decide_true,Bool.not_true,AG,Ad]
  obtain⟨o,e1,e2,e3,e4,e5⟩:=ih (by omega) (by omega)
  refine⟨o,?_,e2,by omega,fun k k1 k2=>?_,e5⟩
  simp (disch:=omega) only[leT,FM,Ey,Bv,AB,h1,decide_false,Bool.not_false,AI,Dv,BF,Nat.add_sub_cancel]
  exact e1
  by_cases hk:k=j+1
  subst hk;exact h1
  exact e4 k k1 (by omega)
  refine⟨j+1,by rw[leF h0,Ad],by omega,Nat.le_refl _,fun k k1 k2=>by omega,fun h=>absurd h h0⟩
theorem aYj:aCh=NT:=rfl
theorem aYk:aCj=NU:=rfl
theorem aYi(a b:Nat):∀(m i j:Nat) (w:List Int),j+1<=i+m->w.length<=1000000->b<=w.length->a+1<=i->i<=j+1->j<b->(∀k,a<k->k<i->ga w k<ga w a)->(∀k,j<k->k<b->¬ga w k<ga w a)->
 ∃(o:Nat) (w':List Int),QE (a:Int) (i:Int) (j:Int) w=some ((o:Int),w')/\a<=o/\o<b/\Pm (a+1) b w w'/\(∀k,a<k->k<=o->ga w' k<ga w a)/\(∀k,o<k->k<b->¬ga w' k<ga w a):=by
 intro m
 induction m using Nat.strongRecOn with
 |ind m ih=>
  intro i j w hm hl hb hi hij hj hA hB
  obtain⟨x,e1,e2,e3,e4,e5⟩:=aTb a j w hl (by omega) (by omega) m i hm hij
  obtain⟨y,f1,f2,f3,f4,f5⟩:=aTc a x w hl (by omega) (by omega) j (by omega) e3
  rw[aCf]
  unfold Hm
  rw[aYj,aYk,e1,AB,f1,AB]
  have hA':∀k,a<k->k<x->ga w k<ga w a:=fun k k1 k2=>by by_cases h:k<i;exact hA k k1 h;exact e4 k (by omega) k2
  have hB':∀k,y<k->k<b->¬ga w k<ga w a:=fun k k1 k2=>by by_cases h:j<k;exact hB k h k2;exact f4 k k1 (by omega)
  by_cases h0:y<x
  refine⟨y,w,by rw[ltT h0,Ad],by omega,by omega,Pm.refl _ _ _,fun k k1 k2=>hA' k k1 (by omega),hB'⟩
  have hx:=e5 (by omega)
  have hy:=f5 (by omega)
  have hxy:x≠y:=fun h=>by subst h;exact hx hy
  have hg:=Ew (w:=w) (i:=x) (j:=y) (by omega) (by omega)
  have ha:ga (swp w x y) a=ga w a:=by rw[hg,if_neg (by omega),if_neg (by omega)]
  obtain⟨o,w',g1,g2,g3,g4,g5,g6⟩:=ih (m-2) (by omega) (x+1) (y-1) (swp w x y) (by omega) (by rw[Bw];exact hl) (by rw[Bw];exact hb) (by omega) (by omega) (by omega)
   (fun k k1 k2=>by rw[ha,hg];by_cases c1:k=x;rw[if_neg (by omega),if_pos c1];exact hy;rw[if_neg (by omega),if_neg c1];exact hA' k k1 (by omega))
   (fun k k1 k2=>by rw[ha,hg];by_cases c1:k=y;rw[if_pos c1];exact hx;rw[if_neg c1,if_neg (by omega)];exact hB' k (by omega) k2)
  rw[ha]at g5 g6
  refine⟨o,w',?_,g2,g3,(Pm.swp ⟨by omega,by omega⟩ ⟨by omega,by omega⟩ hb).trans g4,g5,g6⟩
  rw[<-g1]
  simp (disch:=omega) only[ltF,FM,Ey,List.length_set,Int.toNat_natCast,GM,Dv,BF]
  rfl
theorem aYl(a b p:Nat)(w:List Int)(hl:w.length<=1000000)(hb:b<=w.length)(hp:a<=p/\p<b)(hab:a+2<=b):
 ∃(o:Nat) (f:Bool) (w':List Int),X6 (a:Int) (b:Int) (p:Int) w=some ((o:Int),f,w')/\a<=o/\o<b/\Pm a b w w'/\(∀k,a<=k->k<o->ga w' k<=ga w' o)/\(∀k,o<k->k<b->ga w' o<=ga w' k):=by
 have hs:Pm a b w (swp w a p):=Pm.swp ⟨by omega,by omega⟩ hp hb
 have hl1:(swp w a p).length=w.length:=Bw w a p
 --the end,from a row that is parted behind its first one
 have fin:∀(o:Nat) (w2:List Int),a<=o->o<b->Pm a b w w2->(∀k,a<k->k<=o->ga w2 k<ga w2 a)->(∀k,o<k->k<b->¬ga w2 k<ga w2 a)->
  Pm a b w (swp w2 o a)/\(∀k,a<=k->k<o->ga (swp w2 o a) k<=ga (swp w2 o a) o)/\(∀k,o<k->k<b->ga (swp w2 o a) o<=ga (swp w2 o a) k):=fun o w2 h1 h2 h3 h4 h5=>by
  have hl2:=h3.len
  have hg:=Ew (w:=w2) (i:=o) (j:=a) (by omega) (by omega)
  have ho:ga (swp w2 o a) o=ga w2 a:=by rw[hg];by_cases c:o=a;rw[if_pos c,c];rw[if_neg c,if_pos rfl]
  refine⟨h3.trans (Pm.swp ⟨h1,h2⟩ ⟨by omega,by omega⟩ (by omega)),fun k k1 k2=>?_,fun k k1 k2=>?_⟩
  rw[ho,hg]
  by_cases c:k=a
  rw[if_pos c];have:=h4 o (by omega) (Nat.le_refl _);omega
  rw[if_neg c,if_neg (by omega)];have:=h4 k (by omega) (by omega);omega
  rw[ho,hg,if_neg (by omega),if_neg (by omega)]
  have:=h5 k k1 k2;omega
 obtain⟨x,e1,e2,e3,e4,e5⟩:=aTb a (b-1) (swp w a p) (by omega) (by omega) (by omega) b (a+1) (by omega) (by omega)
 obtain⟨y,f1,f2,f3,f4,f5⟩:=aTc a x (swp w a p) (by omega) (by omega) (by omega) (b-1) (by omega) e3
 have hA:∀k,a<k->k<x->ga (swp w a p) k<ga (swp w a p) a:=fun k k1 k2=>e4 k (by omega) k2
 have hB:∀k,y<k->k<b->¬ga (swp w a p) k<ga (swp w a p) a:=fun k k1 k2=>f4 k k1 (by omega)
 have hdef:((w.set a (ga w p)).set p (ga w a))=swp w a p:=rfl
 unfold X6
 simp (disch:=omega) only[FM,Ey,List.length_set,Int.toNat_natCast,GM,Dv,hdef,e1,f1,AB]
 by_cases h0:y<x
 obtain⟨g1,g2,g3⟩:=fin y (swp w a p) (by omega) (by omega) hs (fun k k1 k2=>hA k k1 (by omega)) hB
 refine⟨y,true,swp (swp w a p) y a,?_,by omega,by omega,g1,g2,g3⟩
 simp (disch:=omega) only[ltT,FM,Ey,List.length_set,Int.toNat_natCast]
 rfl
 have hx:=e5 (by omega)
 have hy:=f5 (by omega)
 have hxy:x≠y:=fun h=>by subst h;exact hx hy
 have hg:=Ew (w:=swp w a p) (i:=x) (j:=y) (by omega) (by omega)
 have ha:ga (swp (swp w a p) x y) a=ga (swp w a p) a:=by rw[hg,if_neg (by omega),if_neg (by omega)]
 have hl2:(swp (swp w a p) x y).length=w.length:=by rw[Bw,hl1]
 obtain⟨o,w',g1,g2,g3,g4,g5,g6⟩:=aYi a b b (x+1) (y-1) (swp (swp w a p) x y) (by omega) (by omega) (by omega) (by omega) (by omega) (by omega)
  (fun k k1 k2=>by rw[ha,hg];by_cases c1:k=x;rw[if_neg (by omega),if_pos c1];exact hy;rw[if_neg (by omega),if_neg c1];exact hA k k1 (by omega))
  (fun k k1 k2=>by rw[ha,hg];by_cases c1:k=y;rw[if_pos c1];exact hx;rw[if_neg c1,if_neg (by omega)];exact hB k (by omega) k2)
 have hwa:ga w' a=ga (swp (swp w a p) x y) a:=g4.out a (by omega)
 rw[<-hwa]at g5 g6
 have hpm:=(hs.trans (Pm.swp (w:=swp w a p) (i:=x) (j:=y) ⟨by omega,by omega⟩ ⟨by omega,by omega⟩ (by omega))).trans (g4.mono (by omega) (Nat.le_refl _))
 have hl3:=hpm.len
 obtain⟨q1,q2,q3⟩:=fin o w' g2 g3 hpm g5 g6
 refine⟨o,false,swp w' o a,?_,g2,g3,q1,q2,q3⟩
 have hdef2:(((swp w a p).set x (ga (swp w a p) y)).set y (ga (swp w a p) x))=swp (swp w a p) x y:=rfl
 simp (disch:=omega) only[ltF,FM,Ey,List.length_set,Int.toNat_natCast,GM,Dv,hdef2,g1,AB]
 rfl
theorem aYa(a j:Nat)(w:List Int)(hl:w.length<=1000000)(hj:j<w.length)(ha:a<w.length):∀(m i:Nat),j+1<=i+m->i<=j+1->
 ∃o:Nat,QI (a:Int) (j:Int) w (i:Int)=some (o:Int)/\i<=o/\o<=j+1/\(∀k,i<=k->k<o->¬ga w a<ga w k)/\(o<=j->ga w a<ga w o):=by
 intro m
 induction m with
 |zero=>
  intro i hm hi
  refine⟨i,?_,Nat.le_refl _,hi,fun k h1 h2=>by omega,fun h=>by omega⟩
  rw[Oq]
  unfold Gb
  rw[leF (by omega),Ad]
 |succ m ih=>
  intro i hm hi
  rw[Oq]
  unfold Gb
  by_cases h0:i<=j
  by_cases h1:ga w a<ga w i
  refine⟨i,?_,Nat.le_refl _,hi,fun k k1 k2=>by omega,fun _=>h1⟩
  simp (disch:=omega) only[leT,FM,Ey,Bv,AB,h1,decide_true,Bool.not_true,AG,Ad]
  obtain⟨o,e1,e2,e3,e4,e5⟩:=ih (i+1) (by omega) (by omega)
  refine⟨o,?_,by omega,e3,fun k k1 k2=>?_,e5⟩
  simp (disch:=omega) only[leT,FM,Ey,Bv,AB,h1,decide_false,Bool.not_false,AI,GM,BF]
  exact e1
  by_cases hk:k=i
  subst hk;exact h1
  exact e4 k (by omega) k2
  refine⟨i,by rw[leF h0,Ad],Nat.le_refl _,hi,fun k k1 k2=>by omega,fun h=>absurd h h0⟩
theorem aYb(a i:Nat)(w:List Int)(hl:w.length<=1000000)(ha:a<w.length)(hi:1<=i):∀(j:Nat),j<w.length->i<=j+1->
 ∃o:Nat,QJ (a:Int) (i:Int) w (j:Int)=some (o:Int)/\i<=o+1/\o<=j/\(∀k,o<k->k<=j->ga w a<ga w k)/\(i<=o->¬ga w a<ga w o):=by
 intro j
 induction j with
 |zero=>
  intro hj hij
  refine⟨0,?_,hij,Nat.le_refl _,fun k h1 h2=>by omega,fun h=>by omega⟩
  rw[Ot]
  unfold Gc
  rw[leF (by omega),Ad]
 |succ j ih=>
  intro hj hij
  rw[Ot]
  unfold Gc
  by_cases h0:i<=j+1
  by_cases h1:ga w a<ga w (j+1)
  obtain⟨o,e1,e2,e3,e4,e5⟩:=ih (by omega) (by omega)
  refine⟨o,?_,e2,by omega,fun k k1 k2=>?_,e5⟩
  simp (disch:=omega) only[leT,FM,Ey,Bv,AB,h1,decide_true,AI,Dv,BF,Nat.add_sub_cancel]
  exact e1
  by_cases hk:k=j+1
  subst hk;exact h1
  exact e4 k k1 (by omega)
  refine⟨j+1,?_,by omega,Nat.le_refl _,fun k k1 k2=>by omega,fun _=>h1⟩
  simp (disch:=omega) only[leT,FM,Ey,Bv,AB,h1,decide_false,AG,Ad]
  refine⟨j+1,by rw[leF h0,Ad],by omega,Nat.le_refl _,fun k k1 k2=>by omega,fun h=>absurd h h0⟩
theorem aX9(a b:Nat):∀(m i j:Nat) (w:List Int),j+1<=i+m->w.length<=1000000->b<=w.length->a+1<=i->i<=j+1->j<b->(∀k,a<k->k<i->¬ga w a<ga w k)->(∀k,j<k->k<b->ga w a<ga w k)->
 ∃(o:Nat) (w':List Int),QH (a:Int) (i:Int) (j:Int) w=some ((o:Int),w')/\a<o/\o<=b/\Pm (a+1) b w w'/\(∀k,a<k->k<o->¬ga w a<ga w' k)/\(∀k,o<=k->k<b->ga w a<ga w' k):=by
 intro m
 induction m using Nat.strongRecOn with
 |ind m ih=>
  intro i j w hm hl hb hi hij hj hA hB
  obtain⟨x,e1,e2,e3,e4,e5⟩:=aYa a j w hl (by omega) (by omega) m i hm hij
  obtain⟨y,f1,f2,f3,f4,f5⟩:=aYb a x w hl (by omega) (by omega) j (by omega) e3
  rw[aDa]
  unfold H7
  rw[e1,AB,f1,AB]
  have hA':∀k,a<k->k<x->¬ga w a<ga w k:=fun k k1 k2=>by by_cases h:k<i;exact hA k k1 h;exact e4 k (by omega) k2
  have hB':∀k,y<k->k<b->ga w a<ga w k:=fun k k1 k2=>by by_cases h:j<k;exact hB k h k2;exact f4 k k1 (by omega)
  by_cases h0:y<x
  refine⟨x,w,by rw[ltT h0,Ad],by omega,by omega,Pm.refl _ _ _,hA',fun k k1 k2=>hB' k (by omega) k2⟩
  have hx:=e5 (by omega)
  have hy:=f5 (by omega)
  have hxy:x≠y:=fun h=>by subst h;exact hy hx
  have hg:=Ew (w:=w) (i:=x) (j:=y) (by omega) (by omega)
  have ha:ga (swp w x y) a=ga w a:=by rw[hg,if_neg (by omega),if_neg (by omega)]
  obtain⟨o,w',g1,g2,g3,g4,g5,g6⟩:=ih (m-2) (by omega) (x+1) (y-1) (swp w x y) (by omega) (by rw[Bw];exact hl) (by rw[Bw];exact hb) (by omega) (by omega) (by omega)
   (fun k k1 k2=>by rw[ha,hg];by_cases c1:k=x;rw[if_neg (by omega),if_pos c1];exact hy;rw[if_neg (by omega),if_neg c1];exact hA' k k1 (by omega))
   (fun k k1 k2=>by rw[ha,hg];by_cases c1:k=y;rw[if_pos c1];exact hx;rw[if_neg c1,if_neg (by omega)];exact hB' k (by omega) k2)
  rw[ha]at g5 g6
  refine⟨o,w',?_,g2,g3,(Pm.swp ⟨by omega,by omega⟩ ⟨by omega,by omega⟩ hb).trans g4,g5,g6⟩
  rw[<-g1]
  simp (disch:=omega) only[ltF,FM,Ey,List.length_set,Int.toNat_natCast,GM,Dv,BF]
  rfl
theorem aYc(a b p:Nat)(w:List Int)(hl:w.length<=1000000)(hb:b<=w.length)(hp:a<=p/\p<b)(hab:a+2<=b):
 ∃(o:Nat) (w':List Int),Xf (a:Int) (b:Int) (p:Int) w=some ((o:Int),w')/\a<o/\o<=b/\Pm a b w w'/\(∀k,a<=k->k<o->ga w' k<=ga w p):=by
 have hs:Pm a b w (swp w a p):=Pm.swp ⟨by omega,by omega⟩ hp hb
 have hl1:(swp w a p).length=w.length:=Bw w a p
 obtain⟨o,w',e1,e2,e3,e4,e5,e6⟩:=aX9 a b b (a+1) (b-1) (swp w a p) (by omega) (by omega) (by omega) (by omega) (by omega) (by omega) (fun k k1 k2=>by omega) (fun k k1 k2=>by omega)
 have ha:ga (swp w a p) a=ga w p:=by rw[Ew (by omega) (by omega)];by_cases c:a=p;rw[if_pos c,c];rw[if_neg c,if_pos rfl]
 rw[ha]at e5
 refine⟨o,w',?_,e2,e3,hs.trans (e4.mono (by omega) (Nat.le_refl _)),fun k k1 k2=>?_⟩
 have hdef:((w.set a (ga w p)).set p (ga w a))=swp w a p:=rfl
 unfold Xf
 simp (disch:=omega) only[FM,Ey,List.length_set,Int.toNat_natCast,GM,Dv,hdef,e1,AB]
 by_cases c:k=a
 subst c;rw[e4.out k (by omega),ha];exact Int.le_refl _
 have:=e5 k (by omega) k2;omega
def Lo(a b:Nat)(w:List Int):Prop:=0<a->∀k,a<=k->k<b->ga w (a-1)<=ga w k
theorem Lo.pm{a b:Nat}{w w':List Int}(h:Lo a b w)(p:Pm a b w w'):Lo a b w':=fun h0 k k1 k2=>by obtain⟨i,i1,i2,i3⟩:=p.src k k1 k2;rw[i3,p.out (a-1) (by omega)];exact h h0 i i1 i2
theorem aYe(a b:Nat)(s8:Int)(w:List Int)(hl:w.length<=1000000)(hb:b<=w.length):∀(m i:Nat),b<=i+m->a<i->i<=b->So a i w->
 ∃o:Nat,QB (a:Int) (b:Int) s8 w (i:Int)=some (o:Int)/\i<=o/\o<=b/\So a o w:=by
 intro m
 induction m with
 |zero=>
  intro i hm ha hi hs
  refine⟨i,?_,Nat.le_refl _,hi,hs⟩
  rw[Of]
  unfold GW
  rw[ltF (by omega),Ad]
 |succ m ih=>
  intro i hm ha hi hs
  rw[Of]
  unfold GW
  by_cases h0:i<b
  by_cases h1:ga w i<ga w (i-1)
  refine⟨i,?_,Nat.le_refl _,hi,hs⟩
  simp (disch:=omega) only[ltT,FM,Ey,Dv,Bv,AB,h1,decide_true,Bool.not_true,AG,Ad]
  obtain⟨o,e1,e2,e3,e4⟩:=ih (i+1) (by omega) (by omega) (by omega) (fun p q p1 p2 p3=>by by_cases hq:q=i;subst hq;by_cases hp:p=q-1;subst hp;omega;have:=hs p (q-1) p1 (by omega) (by omega);omega;exact hs p q p1 p2 (by omega))
  refine⟨o,?_,by omega,e3,e4⟩
  simp (disch:=omega) only[ltT,FM,Ey,Dv,Bv,AB,h1,decide_false,Bool.not_false,AI,GM,BF]
  exact e1
  refine⟨i,by rw[ltF h0,Ad],Nat.le_refl _,hi,hs⟩
theorem aYf(a b i:Nat)(s2 s7 s8:Int)(hib:i<b):∀(j:Nat) (w:List Int),w.length<=1000000->b<=w.length->a<=j->j<=i->Lo a b w->(∀p q,a<=p->p<q->q<=i->q≠j->ga w p<=ga w q)->
 ∃w',QC (a:Int) s2 s7 s8 (j:Int) w=some w'/\Pm a (i+1) w w'/\So a (i+1) w':=by
 intro j
 induction j with
 |zero=>
  intro w hl hb ha hj hL hs
  refine⟨w,?_,Pm.refl _ _ _,fun p q h1 h2 h3=>hs p q h1 h2 (by omega) (by omega)⟩
  rw[Og]
  unfold GX
  rw[decide_eq_false (by omega),AG,Ad]
 |succ j ih=>
  intro w hl hb ha hj hL hs
  rw[Og]
  unfold GX
  rw[decide_eq_true (by omega),AI]
  by_cases h1:ga w (j+1)<ga w j
  by_cases h0:a<j+1
  have hp:=Pm.swp (a:=a) (b:=i+1) (w:=w) (i:=j+1) (j:=j) ⟨by omega,by omega⟩ ⟨by omega,by omega⟩ (by omega)
  have hg:=Ew (w:=w) (i:=j+1) (j:=j) (by omega) (by omega)
  obtain⟨w',e1,e2,e3⟩:=ih (swp w (j+1) j) (by rw[Bw];omega) (by rw[Bw];omega) (by omega) (by omega) (hL.pm (hp.mono (Nat.le_refl _) (by omega))) (fun p q p1 p2 p3 p4=>by have b1:=hs p q p1 p2 p3;have b2:=hs p (j+1) p1;have b3:=hs p j p1;have b4:=hs (j+1) q (by omega);have b5:=hs j q (by omega);rw[hg,hg];by_cases c1:p=j;rw[if_pos c1];by_cases c2:q=j+1;rw[if_neg (by omega),if_pos c2];omega;rw[if_neg (by omega),if_neg c2];exact b4 (by omega) p3 c2;rw[if_neg c1];by_cases c2:p=j+1;rw[if_pos c2,if_neg (by omega),if_neg (by omega)];exact b5 (by omega) p3 (by omega);rw[if_neg c2];by_cases c3:q=j+1;rw[if_neg (by omega),if_pos c3];exact b3 (by omega) (by omega) (by omega);rw[if_neg (by omega),if_neg c3];exact b1 c3)
  refine⟨w',?_,hp.trans e2,e3⟩
  rw[<-e1]
  simp (disch:=omega) only[Dv,Nat.add_sub_cancel,FM,Ey,Bv,AB,h1,decide_true,Bool.not_true,AG,List.length_set,Int.toNat_natCast,BF]
  rfl
  exfalso
  have:=hL (by omega) (j+1) (by omega) (by omega)
  rw[show a-1=j by omega]at this
  omega
  refine⟨w,?_,Pm.refl _ _ _,fun p q p1 p2 p3=>?_⟩
  simp (disch:=omega) only[Dv,Nat.add_sub_cancel,FM,Ey,Bv,AB,h1,decide_false,Bool.not_false,AI,Ad]
  by_cases hq:q=j+1
  subst hq
  by_cases hpj:p=j
  subst hpj;omega
  have:=hs p j p1 (by omega) (by omega) (by omega)
  omega
  exact hs p q p1 p2 (by omega) hq
theorem aYg(o b:Nat)(s1 s7 s8:Int):∀(m j:Nat) (w:List Int),b<=j+m->w.length<=1000000->b<=w.length->o<j->
 ∃w',QD s1 (b:Int) s7 s8 (j:Int) w=some w'/\Pm o b w w':=by
 intro m
 induction m with
 |zero=>
  intro j w hm hl hb hj
  refine⟨w,?_,Pm.refl _ _ _⟩
  rw[Oh]
  unfold GY
  rw[ltF (by omega),Ad]
 |succ m ih=>
  intro j w hm hl hb hj
  rw[Oh]
  unfold GY
  by_cases h0:j<b
  by_cases h1:ga w j<ga w (j-1)
  have hp:=Pm.swp (a:=o) (b:=b) (w:=w) (i:=j) (j:=j-1) ⟨by omega,by omega⟩ ⟨by omega,by omega⟩ hb
  obtain⟨w',e1,e2⟩:=ih (j+1) (swp w j (j-1)) (by omega) (by rw[Bw];exact hl) (by rw[Bw];exact hb) (by omega)
  refine⟨w',?_,hp.trans e2⟩
  rw[<-e1]
  simp (disch:=omega) only[ltT,Dv,FM,Ey,Bv,AB,h1,decide_true,Bool.not_true,AG,List.length_set,Int.toNat_natCast,GM,BF]
  rfl
  refine⟨w,?_,Pm.refl _ _ _⟩
  simp (disch:=omega) only[ltT,Dv,FM,Ey,Bv,AB,h1,decide_false,Bool.not_false,AI,Ad]
  refine⟨w,by rw[ltF h0,Ad],Pm.refl _ _ _⟩
theorem aYd(a b:Nat):∀(m k i:Nat) (w:List Int),5<=k+m->k<=5->w.length<=1000000->b<=w.length->a<i->i<=b->Lo a b w->So a i w->
 ∃w' o,NS (a:Int) (b:Int) (i:Int) (k:Int) w=some o/\Pm a b w w'/\(o=.inl w'\/∃f,o=.inr (f,w')/\(f=true->So a b w')):=by
 intro m
 induction m with
 |zero=>
  intro k i w hm hk hl hb ha hi hL hs
  refine⟨w,_,?_,Pm.refl _ _ _,.inl rfl⟩
  rw[Oe]
  unfold GV
  rw[decide_eq_false (by omega),AG,Ad]
 |succ m ih=>
  intro k i w hm hk hl hb ha hi hL hs
  rw[Oe]
  unfold GV
  by_cases h5:k<5
  rw[decide_eq_true (by omega),AI]
  unfold QA
  obtain⟨o,e1,e2,e3,e4⟩:=aYe a b (k:Int) w hl hb b i (by omega) ha hi hs
  rw[e1,AB]
  by_cases h0:o=b
  refine⟨w,_,by rw[decide_eq_true (by omega),AI,AB,ED,Ad],Pm.refl _ _ _,.inr ⟨true,rfl,fun _=>h0▸e4⟩⟩
  rw[decide_eq_false (by omega),AG,aAy (by omega)]
  by_cases h50:b-a<50
  refine⟨w,_,by rw[decide_eq_true (by omega),AI,AB,ED,Ad],Pm.refl _ _ _,.inr ⟨false,rfl,fun h=>by cases h⟩⟩
  rw[decide_eq_false (by omega),AG]
  have hsw:=Pm.swp (a:=a) (b:=b) (w:=w) (i:=o) (j:=o-1) ⟨by omega,by omega⟩ ⟨by omega,by omega⟩ hb
  have hg:=Ew (w:=w) (i:=o) (j:=o-1) (by omega) (by omega)
  have hdef:((w.set o (ga w (o-1))).set (o-1) (ga w o))=swp w o (o-1):=rfl
  obtain⟨w1,f1,f2,f3⟩:∃w1,NQ (a:Int) (b:Int) (o:Int) (k:Int) (decide (2<=((o-a:Nat):Int))) (swp w o (o-1))=some w1/\Pm a b (swp w o (o-1)) w1/\So a o w1:=by
   unfold NQ;by_cases h2:2<=o-a;obtain⟨w1,g1,g2,g3⟩:=aYf a b (o-1) (b:Int) (o:Int) (k:Int) (by omega) (o-1) (swp w o (o-1)) (by rw[Bw];exact hl) (by rw[Bw];exact hb) (by omega) (Nat.le_refl _) (hL.pm hsw) (fun p q p1 p2 p3 p4=>by rw[hg,hg,if_neg (by omega),if_neg (by omega),if_neg (by omega),if_neg (by omega)];exact e4 p q p1 p2 (by omega))
   rw[show o-1+1=o by omega]at g2 g3;refine⟨w1,?_,g2.mono (Nat.le_refl _) (by omega),g3⟩;rw[decide_eq_true (by omega),AI,Dv (by omega),g1,AB];exact⟨_,by rw[decide_eq_false (by omega),AG],Pm.refl _ _ _,fun p q p1 p2 p3=>by omega⟩
  have hl1:w1.length=w.length:=by rw[f2.len,Bw]
  obtain⟨w2,g1,g2⟩:∃w2,NR (a:Int) (b:Int) (o:Int) (k:Int) (decide (2<=((b-o:Nat):Int))) w1=some w2/\Pm o b w1 w2:=by unfold NR;by_cases h2:2<=b-o;obtain⟨w2,g1,g2⟩:=aYg o b (a:Int) (o:Int) (k:Int) b (o+1) w1 (by omega) (by omega) (by omega) (by omega);exact⟨w2,by rw[decide_eq_true (by omega),AI,GM (by omega),g1,AB],g2⟩;exact⟨_,by rw[decide_eq_false (by omega),AG],Pm.refl _ _ _⟩
  have hpm:=(hsw.trans f2).trans (g2.mono (by omega) (Nat.le_refl _))
  have hl2:=hpm.len
  obtain⟨w3,q,r1,r2,r3⟩:=ih (k+1) o w2 (by omega) (by omega) (by omega) (by omega) (by omega) (by omega) (hL.pm hpm) (fun p q p1 p2 p3=>by rw[g2.out p (by omega),g2.out q (by omega)];exact f3 p q p1 p2 p3)
  refine⟨w3,q,?_,hpm.trans r2,r3⟩
  rw[<-r1]
  simp (disch:=omega) only[FM,Ey,Dv,aAy,List.length_set,Int.toNat_natCast,hdef,f1,g1,AB,CR,GM,BF]
  exact⟨w,_,by rw[decide_eq_false (by omega),AG,Ad],Pm.refl _ _ _,.inl rfl⟩
theorem aYh(a b:Nat)(w:List Int)(hl:w.length<=1000000)(hb:b<=w.length)(hab:a<b)(hL:Lo a b w):
 ∃(f:Bool) (w':List Int),X5 (a:Int) (b:Int) w=some (f,w')/\Pm a b w w'/\(f=true->So a b w'):=by
 obtain⟨w',o,e1,e2,e3⟩:=aYd a b 5 0 (a+1) w (by omega) (by omega) hl hb (by omega) (by omega) hL (fun p q p1 p2 p3=>by omega)
 unfold X5
 have e1':NS (a:Int) (b:Int) ((a+1:Nat):Int) 0 w=some o:=e1
 rw[GM (by omega),e1',AB]
 rcases e3 with rfl|⟨f,rfl,hf⟩
 exact⟨false,w',rfl,e2,fun h=>by cases h⟩
 exact⟨f,w',rfl,e2,hf⟩
abbrev aT4:=Int×Int×Int×Bool×Bool×List Int
def Rd(a b:Nat)(w:List Int)(x:aT4):Prop:=∃a' b':Nat,x.1=(a':Int)/\x.2.1=(b':Int)/\a<=a'/\a'<=b'/\b'<=b/\b'-a'<b-a/\Pm a b w x.2.2.2.2.2/\Lo a' b' x.2.2.2.2.2/\
 (∀p q,a<=p->p<a'->p<q->q<b->ga x.2.2.2.2.2 p<=ga x.2.2.2.2.2 q)/\∀p q,a<=p->p<q->b'<=q->q<b->ga x.2.2.2.2.2 p<=ga x.2.2.2.2.2 q
def Slf(self:Int->Int->Int->List Int->Option (List Int))(N:Nat):Prop:=∀(a b:Nat) (lim:Int) (w:List Int),b-a<N->a<=b->b<=w.length->w.length<=60000->Lo a b w->∃w',self (a:Int) (b:Int) lim w=some w'/\Pm a b w w'/\So a b w'
theorem Lo.sub{a b b':Nat}{w:List Int}(h:Lo a b w)(hb:b'<=b):Lo a b' w:=fun h0 k k1 k2=>h h0 k k1 (by omega)
theorem aXt{self:Int->Int->Int->List Int->Option (List Int)}{a b o:Nat}(lim:Int)(wp:Bool)(t:Int){w w1:List Int}(hS:Slf self (b-a))(hl:w.length<=60000)(hb:b<=w.length)(ho:a<=o)(hob:o<b)(hp:Pm a b w w1)(hL:Lo a b w1)
 (h1:∀k,a<=k->k<o->ga w1 k<=ga w1 o) (h2:∀k,o<k->k<b->ga w1 o<=ga w1 k) (hab:2<=b-a):
 ∃y:Int×Int×Bool×List Int,Fk self (a:Int) (b:Int) lim wp (o:Int) ((o-a:Nat):Int) ((b-o:Nat):Int) t (decide (((o-a:Nat):Int)<((b-o:Nat):Int))) w1=some y/\∀wb,Rd a b w (y.1,y.2.1,lim,wb,wp,y.2.2.2):=by
 have hl1:=hp.len
 unfold Fk
 by_cases h:o-a<b-o
 obtain⟨w2,e1,e2,e3⟩:=hS a o lim w1 (by omega) ho (by omega) (by omega) (hL.sub (by omega))
 refine⟨(AA .add .i64 (o:Int) 1,(b:Int),decide (t<=((o-a:Nat):Int)),w2),by rw[decide_eq_true (by omega),AI,e1,AB],fun wb=>⟨o+1,b,GM (by omega),rfl,by omega,by omega,by omega,by omega,hp.trans (e2.mono (Nat.le_refl _) (by omega)),fun h0 k k1 k2=>?_,fun p q p1 p2 p3 p4=>?_,fun p q p1 p2 p3 p4=>by omega⟩⟩
 show ga w2 (o+1-1)<=ga w2 k
 rw[Nat.add_sub_cancel,e2.out o (by omega),e2.out k (by omega)]
 exact h2 k (by omega) k2
 show ga w2 p<=ga w2 q
 by_cases c1:q<o
 exact e3 p q p1 p3 c1
 rw[e2.out q (by omega)]
 have hpo:ga w2 p<=ga w1 o:=by by_cases c2:p=o;rw[c2,e2.out o (by omega)];exact Int.le_refl _;obtain⟨p',q1,q2,q3⟩:=e2.src p p1 (by omega);rw[q3];exact h1 p' q1 q2
 by_cases c3:q=o
 rw[c3];exact hpo
 have:=h2 q (by omega) p4;omega
 obtain⟨w2,e1,e2,e3⟩:=hS (o+1) b lim w1 (by omega) (by omega) (by omega) (by omega) (fun h0 k k1 k2=>by rw[Nat.add_sub_cancel];exact h2 k (by omega) k2)
 have hL2:Lo a b w2:=hL.pm (e2.mono (by omega) (Nat.le_refl _))
 refine⟨((a:Int),(o:Int),decide (t<=((b-o:Nat):Int)),w2),by rw[decide_eq_false (by omega),AG,GM (by omega),e1,AB],fun wb=>⟨a,o,rfl,rfl,Nat.le_refl _,ho,by omega,by omega,hp.trans (e2.mono (by omega) (Nat.le_refl _)),hL2.sub (by omega),fun p q p1 p2 p3 p4=>by omega,fun p q p1 p2 p3 p4=>?_⟩⟩
 show ga w2 p<=ga w2 q
 by_cases c1:o<p
 exact e3 p q c1 p2 p4
 rw[e2.out p (by omega)]
 have hpo:ga w1 p<=ga w1 o:=by by_cases c2:p=o;rw[c2];exact Int.le_refl _;exact h1 p p1 (by omega)
 by_cases c3:q=o
 rw[c3,e2.out o (by omega)];exact hpo
 obtain⟨q',q1,q2,q3⟩:=e2.src q (by omega) p4
 have:=h2 q' (by omega) q2
 omega
def aQi(self:Int->Int->Int->List Int->Option (List Int))(s1 s2 d lim:Int)(s8 s9:Bool)(pv:Int)(w:List Int):Option (aT4⊕List Int):=
 AE (decide (0<s1)) (
  AY (0<=(AA .sub .i64 s1 1)/\(AA .sub .i64 s1 1)+1<=(w.length:Int)) (
   AW w (AA .sub .i64 s1 1) fun x12=>
   AY (0<=pv/\pv+1<=(w.length:Int)) (
    AW w pv fun x13=>
    AJ (Y9 x12 x13) fun r14=>
    AE (!r14) (
     AJ (Xf s1 s2 pv w) fun r15=>
     some (.inl (r15.1,s2,lim,s8,s9,r15.2))) (
     AJ (X6 s1 s2 pv w) fun r16=>
     AJ (Fk self s1 s2 lim r16.2.1 r16.1 (AA .sub .i64 r16.1 s1) (AA .sub .i64 s2 r16.1) (AA .quo .i64 d 8) (decide ((AA .sub .i64 r16.1 s1)<(AA .sub .i64 s2 r16.1))) r16.2.2) fun o19=>
     some (.inl (o19.1,o19.2.1,lim,o19.2.2.1,r16.2.1,o19.2.2.2)))))) (
  AJ (X6 s1 s2 pv w) fun r20=>
  AJ (Fk self s1 s2 lim r20.2.1 r20.1 (AA .sub .i64 r20.1 s1) (AA .sub .i64 s2 r20.1) (AA .quo .i64 d 8) (decide ((AA .sub .i64 r20.1 s1)<(AA .sub .i64 s2 r20.1))) r20.2.2) fun o21=>
  some (.inl (o21.1,o21.2.1,lim,o21.2.2.1,r20.2.1,o21.2.2.2)))
theorem aQj{self:Int->Int->Int->List Int->Option (List Int)}{a b p:Nat}(d lim:Int)(s8 s9:Bool){w w1:List Int}(hS:Slf self (b-a))(hl:w.length<=60000)(hb:b<=w.length)(hp:a<=p/\p<b)(hab:a+2<=b)(h1:Pm a b w w1)(hL:Lo a b w1):
 ∃x,aQi self (a:Int) (b:Int) d lim s8 s9 (p:Int) w1=some (.inl x)/\Rd a b w x:=by
 have hl1:=h1.len
 have part:∃x,(AJ (X6 (a:Int) (b:Int) (p:Int) w1) fun r20=>
  AJ (Fk self (a:Int) (b:Int) lim r20.2.1 r20.1 (AA .sub .i64 r20.1 (a:Int)) (AA .sub .i64 (b:Int) r20.1) (AA .quo .i64 d 8) (decide ((AA .sub .i64 r20.1 (a:Int))<(AA .sub .i64 (b:Int) r20.1))) r20.2.2) fun o21=>
  some (.inl (o21.1,o21.2.1,lim,o21.2.2.1,r20.2.1,o21.2.2.2):aT4⊕List Int))=some (.inl x)/\Rd a b w x:=by
  obtain⟨o,f,w2,e1,e2,e3,e4,e5,e6⟩:=aYl a b p w1 (by omega) (by omega) hp hab
  obtain⟨y,f1,f2⟩:=aXt (o:=o) lim f (AA .quo .i64 d 8) hS hl hb e2 e3 (h1.trans e4) (hL.pm e4) e5 e6 (by omega)
  refine⟨_,?_,f2 y.2.2.1⟩
  rw[e1,AB]
  simp only
  rw[aAy (n:=o) (m:=a) (by omega),aAy (n:=b) (m:=o) (by omega),f1,AB]
 unfold aQi
 by_cases h0:0<a
 rw[decide_eq_true (by omega),AI]
 by_cases hc:ga w1 (a-1)<ga w1 p
 obtain⟨x,x1,x2⟩:=part
 refine⟨x,?_,x2⟩
 rw[<-x1]
 simp (disch:=omega) only[Dv,FM,Ey,Bv,AB,hc,decide_true,Bool.not_true,AG]
 obtain⟨o,w2,e1,e2,e3,e4,e5⟩:=aYc a b p w1 (by omega) (by omega) hp hab
 have hL2:=hL.pm e4
 have ha:ga w2 (a-1)=ga w1 (a-1):=e4.out _ (by omega)
 refine⟨((o:Int),(b:Int),lim,s8,s9,w2),?_,⟨o,b,rfl,rfl,by omega,e3,Nat.le_refl _,by omega,h1.trans e4,fun q0 k k1 k2=>?_,fun p' q p1 p2 p3 p4=>?_,fun p' q p1 p2 p3 p4=>by omega⟩⟩
 simp (disch:=omega) only[Dv,FM,Ey,Bv,AB,hc,decide_false,Bool.not_false,AI,e1]
 show ga w2 (o-1)<=ga w2 k
 have:=e5 (o-1) (by omega) (by omega)
 have:=hL2 h0 k (by omega) k2
 omega
 show ga w2 p'<=ga w2 q
 have:=e5 p' p1 p2
 have:=hL2 h0 q (by omega) p4
 omega
 rw[decide_eq_false (by omega),AG];exact part
theorem aXs{self:Int->Int->Int->List Int->Option (List Int)}{a b:Nat}(lim:Int)(s8 s9 fl:Bool)(t pv:Int){w1:List Int}(hl:w1.length<=60000)(hb:b<=w1.length)(hab:a<b)(hL:Lo a b w1):
 ∃o w2,Jv self (a:Int) (b:Int) lim s8 s9 t pv fl w1=some o/\Pm a b w1 w2/\(o=.inl w2\/o=.inr w2/\So a b w2):=by
 unfold Jv
 cases fl with
 |false=>exact⟨_,w1,rfl,Pm.refl _ _ _,.inl rfl⟩
 |true=>
  obtain⟨f,w2,e1,e2,e3⟩:=aYh a b w1 (by omega) hb hab hL
  rw[AI,e1,AB]
  cases f with
  |true=>exact⟨_,w2,rfl,e2,.inr ⟨rfl,e3 rfl⟩⟩
  |false=>exact⟨_,w2,rfl,e2,.inl rfl⟩
end
end Go.Ac
