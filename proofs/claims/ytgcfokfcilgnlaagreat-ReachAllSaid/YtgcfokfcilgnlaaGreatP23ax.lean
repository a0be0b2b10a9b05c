/- Own work: the plain law. -/
import Derived.Test.YtgcfokfcilgnlaaGreatSh23a
import Derived.Test.YtgcfokfcilgnlaaGreatAcC
set_option linter.unusedVariables false
set_option linter.unusedSimpArgs false
namespace Go.Ac
noncomputable section
def vR(v:X0):Bool:=
 if v.kind=1 then decide (v.str=[])&& !v.bool
 else if v.kind=2 then decide (v.int=0)&& !v.bool&&decide (v.str.length<=4096)
 else if v.kind=3 then decide (v.int=0)&&decide (v.str=[])else false
theorem aOh(v:X0):Zi v=some (vR v):=by
 unfold Zi vR;have hc:decide ((v.str.length:Int)<=4096)=decide (v.str.length<=4096):=by
  by_cases h:v.str.length<=4096;have:(v.str.length:Int)<=4096:=by omega
  simp [h,this];have: ¬(v.str.length:Int)<=4096:=by omega
  simp [h,this]
 rw [hc];by_cases h1:v.kind=1;by_cases hs:v.str=[]<;>simp [h1,hs,AE];by_cases h2:v.kind=2;by_cases hn:v.int=0<;>cases hb:v.bool<;>simp [h2,hn,AE];by_cases h3:v.kind=3;by_cases hn:v.int=0<;>simp [h3,hn,AE];simp [h1,h2,h3,AE]
theorem X0.eqb_dec(a b:X0):X0.eqb a b=decide (a=b):=by rw [Bool.eq_iff_iff,X0.eqb_iff];simp
def zV:X0:=⟨0,0,[],false⟩
def D1(l:List X2)(v:Int):X0×Bool:=match l.findSome? (fun s=>if s.var=v then some s.value else none)with
 |some x=>(x,true)
 |none=>(zV,false)
theorem aMd(l:List X2)(v:Int)(o:Unit⊕X0)(h:o=(l.findSome? (fun s=>if s.var=v then some (Sum.inr s.value:Unit⊕X0)else none)).getD (.inl ())):
 CP o (fun _=>some (X0.mk 0 0 ([]:List UInt8) false,false)) (fun o4=>some (o4,true))=some (D1 l v):=by
 subst h
 have e:l.findSome? (fun s=>if s.var=v then some (Sum.inr s.value:Unit⊕X0)else none)=(l.findSome? (fun s=>if s.var=v then some s.value else none)).map Sum.inr:=by
  induction l with
  |nil=>rfl
  |cons s l ih=>rw [List.findSome?_cons,List.findSome?_cons];by_cases h:s.var=v<;>simp [h,ih]
 rw [e]
 unfold D1
 cases l.findSome? (fun s=>if s.var=v then some s.value else none)<;>rfl
theorem aEv(l:List X2)(v:Int)(hl:l.length<=9223372036854775807):Yh l v=some (D1 l v):=by
 unfold Yh aKo;rw [D9 l (fun _ s=>if s.var=v then some (Sum.inr s.value:Unit⊕X0)else none) (.inl ())
  (fun i x hx=>by simp only [KR,ltD hx,AI,AP hx,An hx hl,Db];by_cases h:x.var=v<;>simp [h])
  (by simp only [KR,ltI,AH]),DY,AB]
 exact aMd l v _ rfl
theorem aH6(v:X0): ∃b,Zi v=some b:=by
 unfold Zi;simp only [BD];repeat' split
 all_goals exact⟨_,rfl⟩
theorem FC{l:List X2}{v:Int}{x:X0}(h:D1 l v=(x,true)):X2.mk v x∈l:=by unfold D1 at h;split at h;rename_i y hy;cases h;obtain⟨s,hs,hv⟩:=List.exists_of_findSome?_eq_some hy;split at hv;rename_i e;cases hv;rw [<-e];exact hs;cases hv;cases h
theorem LZ{β:Type}{a b n:Nat}(h:a+b<=1073741824)(hn:n<=131072)(k:Option β):AY (fit a b n) k=k:=A8 (Bw h hn) k
structure De(q:AD):Prop where
 decls:q.decls.length<=12
 quants:q.quants.length<=9
 frees:q.frees.length<=12
 states:q.states.length<=12
 symbols:q.symbols.length<=12
 trans:q.trans.length<=12
 nodes:q.nodes.length<=40
 args: ∀s∈q.symbols,s.args.length<=12
 sets: ∀t∈q.trans,t.sets.length<=12
theorem FY{α:Type}{l:List α}{R:α->Prop}(h: ∀j,j<l.length-> ∀x,l[j]? =some x->R x): ∀x∈l,R x:=by intro x hx;obtain⟨j,hj,rfl⟩:=List.mem_iff_getElem.1 hx;exact h j hj _ (List.getElem?_eq_getElem hj)
theorem aRc(q:AD): ∃n,Xa q=some n/\(n≠0->De q):=by
 unfold Xa;simp only [Db];iterate 8 (split; · exact⟨0,rfl,by simp⟩)
 rename_i h1 h2 h3 h4 h5 h6 h7 h8;have hd:q.decls.length<=9223372036854775807:=by omega
 have hs:q.symbols.length<=9223372036854775807:=by omega
 have hf:q.frees.length<=9223372036854775807:=by omega
 have hn:q.nodes.length<=9223372036854775807:=by omega
 have ht:q.trans.length<=9223372036854775807:=by omega
 obtain⟨t1,e1,_⟩:=Ak (step:=fun s=>Hd q s) q.decls.length (fun _=>True) (fun _=>True)
  (fun i hi=>by
   obtain⟨x,hx,_⟩:=Aa hi;simp only [Hd,ltD hx,AI,AP hx,An hx hd];simp only [BD];repeat' split
   all_goals first|exact .inl ⟨rfl,trivial⟩|exact .inr ⟨_,rfl,trivial⟩)
  (fun _=>⟨.inl (),by simp only [Hd,ltI,AH],trivial⟩)
 obtain⟨t2,e2,Q2⟩:=Ak (step:=fun s=>He q s) q.symbols.length (fun i=> ∀x,q.symbols[i]? =some x->x.args.length<=12) (fun t=>t= .inl ()-> ∀s∈q.symbols,s.args.length<=12)
  (fun i hi=>by
   obtain⟨x,hx,_⟩:=Aa hi;simp only [He,ltD hx,AI,AP hx,An hx hs,Db];split;exact .inr ⟨_,rfl,by simp⟩;rename_i h12;obtain⟨t3,e3,_⟩:=Ak (step:=fun s=>Hf (i:Int) q s) x.args.length (fun _=>True) (fun _=>True)
    (fun j hj=>by obtain⟨y,hy,_⟩:=Aa hj;simp only [Hf,AP hx,ltD hy,AI,AP hy,An hy (show x.args.length<=9223372036854775807 by omega)];simp only [BD];split;exact .inr ⟨_,rfl,trivial⟩;exact .inl ⟨rfl,trivial⟩)
    (fun _=>⟨.inl (),by simp only [Hf,AP hx,ltI,AH],trivial⟩)
   unfold aJo;rw [e3,AB];rcases t3 with _|_
   exact .inl ⟨rfl,fun y hy=>by rw [hx]at hy;cases hy;omega⟩;exact .inr ⟨_,rfl,by simp⟩)
  (fun hP=>⟨.inl (),by simp only [He,ltI,AH],fun _=>FY hP⟩)
 obtain⟨t4,e4,_⟩:=Ak (step:=fun s=>Hg q s) q.frees.length (fun _=>True) (fun _=>True)
  (fun i hi=>by obtain⟨x,hx,_⟩:=Aa hi;simp only [Hg,ltD hx,AI,AP hx,An hx hf];simp only [BD];split;exact .inr ⟨_,rfl,trivial⟩;exact .inl ⟨rfl,trivial⟩)
  (fun _=>⟨.inl (),by simp only [Hg,ltI,AH],trivial⟩)
 obtain⟨t5,e5,_⟩:=Ak (step:=fun s=>Hh q s) q.nodes.length (fun _=>True) (fun _=>True)
  (fun i hi=>by obtain⟨x,hx,_⟩:=Aa hi;simp only [Hh,ltD hx,AI,AP hx,An hx hn];simp only [BD];split;exact .inr ⟨_,rfl,trivial⟩;exact .inl ⟨rfl,trivial⟩)
  (fun _=>⟨.inl (),by simp only [Hh,ltI,AH],trivial⟩)
 obtain⟨t6,e6,Q6⟩:=Ak (step:=fun s=>Hi q s) q.trans.length (fun i=> ∀x,q.trans[i]? =some x->x.sets.length<=12) (fun t=>t= .inl ()-> ∀s∈q.trans,s.sets.length<=12)
  (fun i hi=>by obtain⟨x,hx,_⟩:=Aa hi;simp only [Hi,ltD hx,AI,AP hx,An hx ht,Db];split;exact .inr ⟨_,rfl,by simp⟩;exact .inl ⟨rfl,fun y hy=>by rw [hx]at hy;cases hy;omega⟩)
  (fun hP=>⟨.inl (),by simp only [Hi,ltI,AH],fun _=>FY hP⟩)
 unfold aJm aJn aJp aJq aJr;rw [e1,AB,e2,e4,e5,e6];simp only [AB];rcases t1 with _|_<;>rcases t2 with _|_<;>rcases t4 with _|_<;>rcases t5 with _|_<;>rcases t6 with _|_<;>simp only [CT,EC]<;>
  first
  |exact⟨0,rfl,by simp⟩
  |exact⟨1,rfl,fun _=>⟨by omega,by omega,by omega,by omega,by omega,by omega,by omega,Q2 rfl,Q6 rfl⟩⟩
theorem aOb(s:List UInt8): ∃b,Ys s=some b:=by
 unfold Ys;simp only [Db];split;exact⟨_,rfl⟩;split;exact⟨_,rfl⟩;obtain⟨t1,e1,_⟩:=Ak (step:=fun i=>IR s i) s.length (fun _=>True) (fun _=>True)
  (fun i hi=>by
   obtain⟨x,hx,_⟩:=Aa hi;simp only [IR,ltD hx,AI,AP hx,An hx (show s.length<=9223372036854775807 by omega)];simp only [BD];repeat' split
   all_goals first|exact .inl ⟨rfl,trivial⟩|exact .inr ⟨_,rfl,trivial⟩)
  (fun _=>⟨.inl (),by simp only [IR,ltI,AH],trivial⟩)
 unfold aKr;rw [e1,AB];rcases t1 with _|_<;>exact⟨_,rfl⟩
theorem OX(s:List UInt8): ∃b,Yi s=some b:=by
 unfold Yi Qs;rw [AB];generalize hw:([([97,99,99,101,112,116]:List UInt8),([97,108,115,111]:List UInt8),([97,110,100]:List UInt8),([98,111,111,108]:List UInt8),([100,111]:List UInt8),([101,118,101,110,116]:List UInt8),([101,120,105,115,116,115]:List UInt8),([102,97,108,115,101]:List UInt8),([102,111,114,97,108,108]:List UInt8),([102,114,101,101]:List UInt8),([105,102]:List UInt8),([105,110,116]:List UInt8),([110,101,120,116]:List UInt8),([110,111,116]:List UInt8),([111,110]:List UInt8),([111,114]:List UInt8),([113,101,97]:List UInt8),([115,107,105,112]:List UInt8),([115,116,97,114,116]:List UInt8),([115,116,114,105,110,103]:List UInt8),([116,111]:List UInt8),([116,114,117,101]:List UInt8)]:List (List UInt8))=ws;have hl:ws.length<=9223372036854775807:=by rw [<-hw];simp
 obtain⟨t1,e1,_⟩:=Ak (step:=fun i=>IM s ws i) ws.length (fun _=>True) (fun _=>True)
  (fun i hi=>by obtain⟨x,hx,_⟩:=Aa hi;simp only [IM,ltD hx,AI,AP hx,An hx hl];simp only [BD];split;exact .inr ⟨_,rfl,trivial⟩;exact .inl ⟨rfl,trivial⟩)
  (fun _=>⟨.inl (),by simp only [IM,ltI,AH],trivial⟩)
 unfold aKp;rw [e1,AB];rcases t1 with _|_
 obtain⟨b,hb⟩:=aOb s;rw [CT,hb,AB];cases b<;>exact⟨_,rfl⟩;exact⟨_,rfl⟩
def QG(l:List Xd)(n:List UInt8):Option Nat:=if l.any (fun d=>decide (d.name=n))=true then some (l.findIdx fun d=>decide (d.name=n))else none
theorem aS2(l:List Xd)(n:List UInt8)(hl:l.length<=9223372036854775807):Yz l n=some (match QG l n with|some i=>(i:Int)|none=> -1):=by
 unfold Yz aKy;rw [Dh l (fun d=>decide (d.name=n))
  (fun i x hx=>by simp only [KU,ltD hx,AI,AP hx,An hx hl];simp only [BD];cases decide (x.name=n)<;>rfl)
  (by simp only [KU,ltI,AH]),AB]
 unfold QG;cases l.any _<;>rfl
theorem aGp{l:List Xd}{n:List UInt8}{j:Nat}{d:Xd}(hj:l[j]? =some d)(hn:d.name=n): ∃i,QG l n=some i/\i<=j:=by have ha:l.any (fun d=>decide (d.name=n))=true:=List.any_eq_true.2 ⟨d,List.mem_of_getElem? hj,by simpa using hn⟩;refine⟨l.findIdx fun d=>decide (d.name=n),by unfold QG;rw [if_pos ha], ?_⟩;refine Nat.le_of_not_lt fun hlt=> ?_;have:=List.not_of_lt_findIdx hlt;obtain⟨h1,rfl⟩:=List.getElem?_eq_some_iff.1 hj;simp [hn]at this
def Mg(l:List Xd):Prop:= ∀j d,l[j]? =some d->QG l d.name=some j
theorem aR1(l:List Xd)(hl:l.length<=9223372036854775807): ∃r,Xx l=some r/\(r.1=0->Mg l):=by
 unfold Xx;rw [Db];split;exact⟨_,rfl,by simp⟩;obtain⟨t1,e1,Q1⟩:=Ak (step:=fun i=>Em l i) l.length (fun i=> ∀d,l[i]? =some d->QG l d.name=some i) (fun t=>match t with| .inl _=>Mg l| .inr r=>r.1≠0)
  (fun i hi=>by
   obtain⟨x,hx,_⟩:=Aa hi;obtain⟨b,hb⟩:=OX x.name;simp only [Em,ltD hx,AI,AP hx,An hx hl,hb,AB,aS2 l _ hl];cases b with
   |false=>exact .inr ⟨_,rfl,by simp⟩
   |true=>
    simp only [Bool.not_true,AH]
    obtain⟨k,hk,hki⟩:=aGp hx rfl
    rw [hk]
    dsimp only
    rw [Db]
    split
    exact .inr ⟨_,rfl,by simp⟩
    ·rename_i hge
     rw [Db]
     split
     exact .inr ⟨_,rfl,by simp⟩
     ·obtain⟨t2,e2,_⟩:=Ak (step:=fun s=>En l (i:Int) s) x.types.length (fun _=>True) (fun _=>True)
       (fun j hj=>by
        obtain⟨y,hy,_⟩:=Aa hj;simp only [En,AP hx,ltD hy,AI,AP hy,An hy (show x.types.length<=9223372036854775807 by omega)];simp only [BD];repeat' split
        all_goals first|exact .inl ⟨rfl,trivial⟩|exact .inr ⟨_,rfl,trivial⟩)
       (fun _=>⟨.inl (),by simp only [En,AP hx,ltI,AH],trivial⟩)
      unfold aCy
      rw [e2,AB]
      rcases t2 with _|_
      refine .inl ⟨rfl,fun d hd=> ?_⟩
      rw [hx]at hd;cases hd
      have:k=i:=by omega
      rw [hk,this]
      exact .inr ⟨_,rfl,by simp⟩)
  (fun hP=>⟨.inl (),by simp only [Em,ltI,AH],fun j d hd=>hP j (Ec hd) d hd⟩)
 unfold aCw;rw [e1,AB];rcases t1 with _|r
 exact⟨_,rfl,fun _=>Q1⟩;exact⟨_,rfl,fun h=>absurd h Q1⟩
theorem aH7(op:Int): ∃r,Zp op 0 0=some r:=by unfold Zp;rw [show Qf 0 0=some (AA .add .i64 0 0,true) by simp [Qf,AE],show Zo 0 0=some (AA .sub .i64 0 0,true) by simp [Zo,AE],show Qg 0 0=some (0,true) by simp [Qg,AE],show Qh 0 0=some (0,0,7) by simp [Qh,AE]];simp only [AB,Zs,Bool.not_true,AH];refine KE ?_;repeat' first|exact⟨_,rfl,trivial⟩|refine BT (fun _=> ?_) (fun _=> ?_)|refine Ot (fun _=> ?_) (fun _=> ?_)
theorem aUv(a b:Int): ∃r,Zk ⟨a,0,[],false⟩ ⟨b,0,[],false⟩=some r:=by
 unfold Zk;have hb:Ym [] []=some false:=by unfold Ym aE1;rw [Aj];simp [Ge,AE,CU,AJ,CP]
 simp only [hb,AB];refine KE ?_;repeat' first|exact⟨_,rfl,trivial⟩|refine BT (fun _=> ?_) (fun _=> ?_)|refine DW (fun _=> ?_) (fun _=> ?_)|refine Ot (fun _=> ?_) (fun _=> ?_)
theorem aU3(op a b:Int): ∃r,Q7 op ⟨a,0,[],false⟩ ⟨b,0,[],false⟩=some r:=by unfold Q7;obtain⟨r1,h1⟩:=aUv a b;obtain⟨r2,h2⟩:=aUv b a;obtain⟨r3,h3⟩:=aH7 9;obtain⟨r4,h4⟩:=aH7 op;have h4':Zp op 0 0=some r4:=h4;have hc: ∀{β:Type} (k:Option β),AY (([]:List UInt8).length+([]:List UInt8).length<=9223372036854775807) k=k:=fun k=>A8 (by simp) k;simp only [Zh,AB,h1,h2,h3,h4',hc,AH];refine KE ?_;repeat' first|exact⟨_,rfl,trivial⟩|refine BT (fun _=> ?_) (fun _=> ?_)|refine DW (fun _=> ?_) (fun _=> ?_)|refine Ot (fun _=> ?_) (fun _=> ?_)
theorem aOm(op a b:Int): ∃r,Zt op a b=some r/\(r≠0->a≠0):=by unfold Zt;obtain⟨r,hr⟩:=aU3 op a b;rw [hr];simp only [AB];refine BT (fun _=>⟨_,rfl,by simp⟩) (fun h=> ?_);repeat' first|exact⟨_,rfl,fun _=>by omega⟩|refine BT (fun _=> ?_) (fun _=> ?_)|refine DW (fun _=> ?_) (fun _=> ?_)
theorem Wb{α:Type}{l:List α}{i:Int}(h0:0<=i)(h1:i<l.length): ∃x,l[i.toNat]? =some x/\i=(i.toNat:Int):=by obtain⟨x,hx,_⟩:=Aa (l:=l) (i:=i.toNat) (by omega);exact⟨x,hx,by omega⟩
theorem Do{α β:Type}{l:List α}{i:Int}{x:α}(h:l[i.toNat]? =some x)(h0:0<=i)(k:α->Option β):AX l i k=k x:=by have e:AX l ((i.toNat:Nat):Int) k=k x:=AP h k;rwa [show((i.toNat:Nat):Int)=i by omega]at e
theorem aGk(q:AD)(hq:q.nodes.length<=2048): ∀(n:Nat) (i:Int),-9223372036854775000<=i->0<n->i+1<n-> ∃r,aH5 n q i=some r/\(r.1≠0->0<=r.2.2/\r.2.2<=i/\i<q.nodes.length):=by
 intro n;induction n with
 |zero=>intro i h0 h;omega
 |succ n ih=>
  intro i h0 _ h
  show∃r,aKs (aH5 n) q i=some r/\_
  unfold aKs
  refine BT (fun _=>⟨_,rfl,by simp⟩) (fun hi0=> ?_)
  refine BT (fun _=>⟨_,rfl,by simp⟩) (fun hi1=> ?_)
  obtain⟨x,hx,_⟩:=Wb (l:=q.nodes) (i:=i) (by omega) (by omega)
  rw [Do hx (by omega)]
  obtain⟨b,hb⟩:=aH6 x.value
  have e1:AA .sub .i64 i 1=i-1:=XV (by omega) (by omega)
  rw [e1]
  refine BT (fun _=> ?_) (fun _=> ?_)
  refine DW (fun _=>⟨_,rfl,by simp⟩) (fun _=> ?_)
  refine DW (fun _=>⟨_,rfl,by simp⟩) (fun _=> ?_)
  refine BW hb ?_
  exact Eb (fun _=>⟨_,rfl,by simp⟩) (fun _=>⟨_,rfl,fun _=>⟨by simp only;omega,Int.le_refl _,by omega⟩⟩)
  refine Eb (fun _=>⟨_,rfl,by simp⟩) (fun _=> ?_)
  refine BT (fun _=> ?_) (fun _=> ?_)
  refine BT (fun _=>⟨_,rfl,by simp⟩) (fun _=> ?_)
  refine BT (fun _=>⟨_,rfl,by simp⟩) (fun _=> ?_)
  refine DW (fun _=>⟨_,rfl,by simp⟩) (fun _=> ?_)
  obtain⟨y,hy,_⟩:=Wb (l:=q.quants) (i:=x.a) (by omega) (by omega)
  rw [Do hy (by omega)]
  exact⟨_,rfl,fun _=>⟨by simp only;omega,Int.le_refl _,by omega⟩⟩
  refine BT (fun _=> ?_) (fun _=> ?_)
  refine BT (fun _=>⟨_,rfl,by simp⟩) (fun _=> ?_)
  refine BT (fun _=>⟨_,rfl,by simp⟩) (fun _=> ?_)
  refine DW (fun _=>⟨_,rfl,by simp⟩) (fun _=> ?_)
  obtain⟨y,hy,_⟩:=Wb (l:=q.frees) (i:=x.a) (by omega) (by omega)
  rw [Do hy (by omega)]
  exact⟨_,rfl,fun _=>⟨by simp only;omega,Int.le_refl _,by omega⟩⟩
  refine BT (fun _=>⟨_,rfl,by simp⟩) (fun _=> ?_)
  refine BT (fun _=>⟨_,rfl,by simp⟩) (fun _=> ?_)
  obtain⟨r5,h5,p5⟩:=ih (i-1) (by omega) (by omega) (by omega)
  refine BW h5 ?_
  refine BT (fun _=> ?_) (fun _=> ?_)
  refine BT (fun _=>⟨_,rfl,by simp⟩) (fun hk=> ?_)
  refine DW (fun _=>⟨_,rfl,by simp⟩) (fun _=> ?_)
  refine DW (fun _=>⟨_,rfl,by simp⟩) (fun _=> ?_)
  obtain⟨r6,h6,_⟩:=aOm x.op r5.1 r5.1
  refine BW h6 ?_
  have:=p5 hk
  exact⟨_,rfl,fun _=>by simp only;omega⟩
  refine BT (fun _=>⟨_,rfl,by simp⟩) (fun hk=> ?_)
  have hp:=p5 hk
  have e2:AA .sub .i64 r5.2.2 1=r5.2.2-1:=XV (by omega) (by omega)
  rw [e2]
  refine DW (fun _=>⟨_,rfl,by simp⟩) (fun _=> ?_)
  refine DW (fun _=>⟨_,rfl,by simp⟩) (fun _=> ?_)
  obtain⟨r7,h7,p7⟩:=ih (r5.2.2-1) (by omega) (by omega) (by omega)
  refine BW h7 ?_
  obtain⟨r8,h8,p8⟩:=aOm x.op r7.1 r5.1
  refine BW h8 ?_
  refine⟨_,rfl,fun h=> ?_⟩
  have:=p7 (p8 h)
  simp only;omega
theorem RL(q:AD)(hq:q.nodes.length<=2048)(f i:Int)(hi: -9223372036854775808<=i/\i<=9223372036854775807): ∃r,Zy q f i=some r/\(r.1≠0->0<=i/\i<q.nodes.length):=by
 unfold Zy Yt;by_cases h:0<=i/\i<q.nodes.length;obtain⟨r,hr,_⟩:=aGk q hq 100000 i (by omega) (by omega) (by omega);refine BW hr ?_;refine BT (fun _=>⟨_,rfl,by simp⟩) (fun _=> ?_);exact DW (fun _=>⟨_,rfl,by simp⟩) (fun _=>⟨_,rfl,fun _=>h⟩);have hz:aH5 100000 q i=some (0,0,0):=by show aKs (aH5 99999) q i=_;unfold aKs;rw [Db,Db];split;rfl;rw [if_pos (by omega)]
 refine BW hz ?_;exact⟨(0,0),by simp [AE],by simp⟩
theorem LF(s:X3)(v:Int)(hs:s.args.length<=9223372036854775807): ∃r,Yq s v=some r:=by
 unfold Yq aKq;obtain⟨t,ht,_⟩:=Ak (step:=fun i=>IQ v s i) s.args.length (fun _=>True) (fun _=>True)
  (fun i hi=>by
   obtain⟨x,hx,_⟩:=Aa hi;simp only [IQ,ltD hx,AI,AP hx,An hx hs];simp only [BD];repeat' split
   all_goals first|exact .inl ⟨rfl,trivial⟩|exact .inr ⟨_,rfl,trivial⟩)
  (fun _=>⟨.inl (),by simp only [IQ,ltI,AH],trivial⟩)
 rw [ht,AB];rcases t with _|_<;>exact⟨_,rfl⟩
theorem WP(q:AD)(s:X3)(hs:s.args.length<=9223372036854775807)(hq:q.nodes.length<=2048)(f t:Int)(hf:0<=f)(ht:t<=q.nodes.length): ∃r,Z4 q s f t=some r:=by
 unfold Z4 aK1;obtain⟨u,hu,_⟩:=BG (step:=fun i=>IY t q s i) (fun i=>0<=i) (fun i=>(t-i).toNat) (fun _=>True)
  (by
   intro i hi;by_cases h:i<t
   ·obtain⟨x,hx,_⟩:=Wb (l:=q.nodes) (i:=i) hi (by omega);obtain⟨b,hb⟩:=LF s x.a hs;simp only [IY,h,decide_true,AI,Do hx hi,hb,AB,LP (a:=i) (b:=1) (by omega) (by omega)];simp only [BD];repeat' split
    all_goals first|exact .inl ⟨_,rfl,trivial⟩|exact .inr ⟨_,rfl,by omega,by omega⟩
   exact .inl ⟨.inl (),by simp [IY,h,AE],trivial⟩)
  f hf
 rw [hu,AB];rcases u with _|_<;>exact⟨_,rfl⟩
def aNk(n:Int):Prop:= -9223372036854775808<=n/\n<=9223372036854775807
structure Ji(t:Xc):Prop where
 guard:aNk t.guard
 sets: ∀s∈t.sets,aNk s.expr
theorem aHs(q:AD)(hF:De q)(t:Xc)(hT:Ji t)(hts:t.sets.length<=12)(f:Int)(hf:0<=f)(hfl:f<=q.nodes.length):
 ∃r,Xy q t f=some r/\(r.2=true->0<=t.symbol/\t.symbol<q.symbols.length/\0<=r.1/\r.1<=q.nodes.length/\(t.guard= -1\/0<=t.guard)/\(0<=t.from_/\t.from_<q.states.length)/\0<=t.to/\t.to<q.states.length):=by
 have hn:q.nodes.length<=2048:=Nat.le_trans hF.nodes (by decide)
 have hfr:q.frees.length<=12:=hF.frees
 unfold Xy
 refine BT (fun _=>⟨_,rfl,by simp⟩) (fun ha=> ?_)
 refine BT (fun _=>⟨_,rfl,by simp⟩) (fun hb=> ?_)
 refine BT (fun _=>⟨_,rfl,by simp⟩) (fun hc=> ?_)
 refine BT (fun _=>⟨_,rfl,by simp⟩) (fun hd=> ?_)
 refine BT (fun _=>⟨_,rfl,by simp⟩) (fun hs0=> ?_)
 refine BT (fun _=>⟨_,rfl,by simp⟩) (fun hs1=> ?_)
 obtain⟨o2,h2,p2⟩: ∃o,T4 f f (!decide (t.guard=(-1))) q t=some o/\ ∀x,o= .inl x->0<=x/\x<=q.nodes.length/\(t.guard= -1\/0<=t.guard):=by unfold T4;refine DW (fun _=> ?_) (fun hg=>⟨_,rfl,fun x hx=>by cases hx;exact⟨hf,hfl,.inl hg⟩⟩);obtain⟨r1,h1,p1⟩:=RL q hn f t.guard hT.guard;refine BW h1 ?_;refine DW (fun _=>⟨_,rfl,by simp⟩) (fun h3=> ?_);refine BT (fun _=>⟨_,rfl,by simp⟩) (fun _=> ?_);have:=p1 (by omega);refine⟨_,rfl,fun x hx=> ?_⟩;cases hx;refine⟨?_, ?_,.inr this.1⟩<;>(rw [LP (by omega) (by omega)];omega)
 refine BW h2 ?_
 rcases o2 with o3|_
 have h3:=p2 o3 rfl
 rw [CT]
 unfold aJ9
 obtain⟨u,hu,pu⟩:=BG (step:=fun s:Int×Int=>H7 f q t s.1 s.2) (fun s=> ∃i:Nat,s.2=(i:Int)/\i<=t.sets.length/\0<=s.1/\s.1<=q.nodes.length) (fun s=>(t.sets.length-s.2).toNat)
  (fun o=> ∀x,o= .inl x->0<=x/\x<=q.nodes.length)
  (by
   rintro⟨w,s⟩ ⟨i,rfl,hi,hw0,hw1⟩;simp only at hw0 hw1⊢;by_cases he:i=t.sets.length;subst he;exact .inl ⟨.inl w,by simp only [H7,ltI,AH],fun x hx=>by cases hx;exact⟨hw0,hw1⟩⟩;obtain⟨x,hx,_⟩:=Aa (l:=t.sets) (i:=i) (by omega);obtain⟨r6,h6,p6⟩:=RL q hn w x.expr (hT.sets x (List.mem_of_getElem? hx));have h6':Zy q w x.expr=some r6:=h6;simp only [H7,ltD hx,AI,AP hx,h6',AB,An hx (show t.sets.length<=9223372036854775807 by omega)];by_cases g1:x.free<0;exact .inl ⟨.inr (),by simp [g1,AE],by simp⟩;by_cases g2:(q.frees.length:Int)<=x.free;exact .inl ⟨.inr (),by simp [g1,g2,AE],by simp⟩;by_cases g3:r6.1=0;exact .inl ⟨.inr (),by simp [g1,g2,g3,AE],by simp⟩;by_cases g4:64<r6.2;exact .inl ⟨.inr (),by simp [g1,g2,g3,g4,AE],by simp⟩;obtain⟨y,hy,_⟩:=Wb (l:=q.frees) (i:=x.free) (by omega) (by omega);by_cases g5:r6.1=y.init_.kind;obtain⟨t3,e3,_⟩:=Ak (step:=fun s=>H8 f (i:Int) q t x s) i (fun _=>True) (fun _=>True)
    (fun j hj=>by
     obtain⟨z,hz,_⟩:=Aa (l:=t.sets) (i:=j) (by omega);have hlt:decide ((j:Int)<(i:Int))=true:=by simp;omega
     simp only [H8,hlt,AI,AP hz,An hz (show t.sets.length<=9223372036854775807 by omega)];simp only [BD];split;exact .inr ⟨_,rfl,trivial⟩;exact .inl ⟨rfl,trivial⟩)
    (fun _=>⟨.inl (),by simp only [H8,ltI,AH],trivial⟩)
   have e3':aKa f (i:Int) q t x 0=some t3:=e3;have hp:=p6 g3;rcases t3 with _|_
   refine .inr ⟨(AA .add .i64 x.expr 1,((i+1:Nat):Int)), ?_,⟨i+1,rfl,by omega, ?_, ?_⟩,by simp only;omega⟩;rw [Db,if_neg g1,Db,if_neg g2,Db,if_neg g3,Db,if_neg g4,Do hy (show 0<=x.free by omega)];simp only [g5,decide_true,Bool.not_true,AH,e3',AB,CT];simp only;rw [LP (by omega) (by omega)];omega;simp only;rw [LP (by omega) (by omega)];omega;refine .inl ⟨.inr (), ?_,by simp⟩;rw [Db,if_neg g1,Db,if_neg g2,Db,if_neg g3,Db,if_neg g4,Do hy (show 0<=x.free by omega)];simp only [g5,decide_true,Bool.not_true,AH,e3',AB,EC];refine .inl ⟨.inr (), ?_,by simp⟩;rw [Db,if_neg g1,Db,if_neg g2,Db,if_neg g3,Db,if_neg g4,Do hy (show 0<=x.free by omega)];simp only [g5,decide_false,Bool.not_false,AI])
  (o3,(0:Int)) ⟨0,rfl,by omega,h3.1,h3.2.1⟩
 refine BW hu ?_
 rcases u with o13|_
 rw [CT]
 have h13:=pu o13 rfl
 obtain⟨x,hx,_⟩:=Wb (l:=q.symbols) (i:=t.symbol) (by omega) (by omega)
 rw [Do hx (by omega)]
 obtain⟨r16,h16⟩:=WP q x (Nat.le_trans (hF.args x (List.mem_of_getElem? hx)) (by decide)) hn f o13 hf h13.2
 refine BW h16 ⟨_,rfl,fun _=>⟨by omega,by omega,h13.1,h13.2,h3.2.2,⟨by omega,by omega⟩,by omega,by omega⟩⟩
 exact⟨_,rfl,by simp⟩
 exact⟨_,rfl,by simp⟩
structure RH(q:AD)(a:CE):Prop where
 two:a.kind=2->0<=a.n/\a.n<q.quants.length
 three:a.kind=3->0<=a.n/\a.n<q.frees.length
 one:a.kind=1->vR a.value=true
theorem aQc(q:AD)(a:CE)(k:Int): ∃r,Q8 q a k=some r/\(r=true->RH q a):=by unfold Q8;have hb:=aOh a.value;refine BT (fun h=> ?_) (fun h1=> ?_);have ho:vR a.value=true->RH q a:=fun hv=>⟨fun h2=>by omega,fun h2=>by omega,fun _=>hv⟩;refine BT (fun _=> ?_) (fun _=>⟨_,rfl,by simp⟩);refine BW hb ?_;exact Ot (fun hv=>⟨_,rfl,fun _=>ho hv⟩) (fun _=>⟨_,rfl,by simp⟩);refine Eb (fun _=>⟨_,rfl,by simp⟩) (fun _=> ?_);refine BT (fun h2=> ?_) (fun h2=> ?_);refine BT (fun h3=> ?_) (fun _=>⟨_,rfl,by simp⟩);refine BT (fun h4=> ?_) (fun _=>⟨_,rfl,by simp⟩);obtain⟨y,hy,_⟩:=Wb h3 h4;rw [Do hy h3];exact⟨_,rfl,fun _=>⟨fun _=>⟨h3,h4⟩,fun h=>by omega,fun h=>by omega⟩⟩;refine BT (fun h5=> ?_) (fun h5=> ?_);refine BT (fun h3=> ?_) (fun _=>⟨_,rfl,by simp⟩);refine BT (fun h4=> ?_) (fun _=>⟨_,rfl,by simp⟩);obtain⟨y,hy,_⟩:=Wb h3 h4;rw [Do hy h3];exact⟨_,rfl,fun _=>⟨fun h=>by omega,fun _=>⟨h3,h4⟩,fun h=>by omega⟩⟩;exact BT (fun _=>⟨_,rfl,fun _=>⟨fun h=>by omega,fun h=>by omega,fun h=>by omega⟩⟩) (fun _=>⟨_,rfl,by simp⟩)
structure RV(q:AD)(s:X3):Prop where
 event:0<=s.event
 decl: ∃d,q.decls[s.event.toNat]? =some d/\s.args.length=d.types.length
 args: ∀a∈s.args,RH q a
theorem aS4(q:AD)(s:X3)(hs:s.args.length<=12): ∃r,Z1 q s=some r/\(r=true->RV q s):=by
 unfold Z1;refine BT (fun _=>⟨_,rfl,by simp⟩) (fun h0=> ?_);refine BT (fun _=>⟨_,rfl,by simp⟩) (fun h1=> ?_);obtain⟨d,hd,_⟩:=Wb (l:=q.decls) (i:=s.event) (by omega) (by omega);rw [Do hd (by omega)];refine DW (fun _=>⟨_,rfl,by simp⟩) (fun h2=> ?_);obtain⟨t,ht,hQ⟩:=Ak (step:=fun i=>IX q s i) s.args.length (fun i=> ∀a,s.args[i]? =some a->RH q a) (fun t=>t= .inl ()-> ∀a∈s.args,RH q a)
  (fun i hi=>by
   obtain⟨x,hx,_⟩:=Aa hi;obtain⟨y,hy,_⟩:=Aa (l:=d.types) (i:=i) (by omega);obtain⟨b,hb,hbo⟩:=aQc q x y;simp only [IX,ltD hx,AI,AP hx,Do hd (show 0<=s.event by omega),AP hy,hb,AB,An hx (show s.args.length<=9223372036854775807 by omega)];cases b with
   |false=>exact .inr ⟨_,rfl,by simp⟩
   |true=>exact .inl ⟨rfl,fun a ha=>by rw [hx]at ha;cases ha;exact hbo rfl⟩)
  (fun hP=>⟨.inl (),by simp only [IX,ltI,AH],fun _=>FY hP⟩)
 refine BW ht ?_;rcases t with _|_
 exact⟨_,rfl,fun _=>⟨by omega,⟨d,hd,by omega⟩,hQ rfl⟩⟩;exact⟨_,rfl,by simp⟩
theorem JR(a b:X3)(ha:a.args.length<=9223372036854775807): ∃r,Zc a b=some r:=by
 unfold Zc;refine KE ?_;refine DW (fun _=>⟨_,rfl,trivial⟩) (fun _=> ?_);refine DW (fun _=>⟨_,rfl,trivial⟩) (fun h=> ?_);obtain⟨t,ht,_⟩:=Ak (step:=fun i=>Ig a b i) a.args.length (fun _=>True) (fun _=>True)
  (fun i hi=>by obtain⟨x,hx,_⟩:=Aa hi;obtain⟨y,hy,_⟩:=Aa (l:=b.args) (i:=i) (by omega);simp only [Ig,ltD hx,AI,AP hx,AP hy,An hx ha];simp only [BD];split;exact .inr ⟨_,rfl,trivial⟩;exact .inl ⟨rfl,trivial⟩)
  (fun _=>⟨.inl (),by simp only [Ig,ltI,AH],trivial⟩)
 refine BW ht ?_;rcases t with _|_<;>exact⟨_,rfl,trivial⟩
theorem aQ9(q:AD)(hF:De q)(hT: ∀t∈q.trans,0<=t.symbol/\t.symbol<q.symbols.length): ∃r,X7 q=some r/\(r=true-> ∀s∈q.symbols,RV q s):=by
 have hsy:=hF.symbols;have htr:=hF.trans;have hqu:=hF.quants;unfold X7;rw [A8 ⟨by omega,Bw (by omega) (by decide)⟩];obtain⟨o9,h9,hl9⟩:=BG (step:=fun s:Int×List Bool×List Int=>HX q s.1 s.2.1 s.2.2) (fun s=> ∃i:Nat,s.1=(i:Int)/\i<=q.trans.length/\s.2.1.length=q.symbols.length/\s.2.2.length<=i) (fun s=>(q.trans.length-s.1).toNat) (fun o=>o.length<=12)
  (by
   rintro⟨s,u,w⟩ ⟨i,rfl,hi,hu,hw⟩;simp only at hu hw⊢;by_cases he:i=q.trans.length;subst he;exact .inl ⟨w,by simp only [HX,ltI,AH],by omega⟩;obtain⟨x,hx,_⟩:=Aa (l:=q.trans) (i:=i) (by omega);have hxs:=hT x (List.mem_of_getElem? hx);obtain⟨y,hy,_⟩:=Wb (l:=u) (i:=x.symbol) hxs.1 (by omega);have hb5: ∃w',Ry (i:Int) x.symbol (!y) q u w=some w'/\w'.length<=i+1:=by unfold Ry;refine Eb (fun _=> ?_) (fun _=>⟨_,rfl,by omega⟩);rw [LZ (by simp;omega) (by decide)];exact⟨_,rfl,by simpa using hw⟩
   obtain⟨w',hb,hw'⟩:=hb5;refine .inr ⟨(((i+1:Nat):Int),u.set x.symbol.toNat true,w'), ?_,⟨i+1,rfl,by omega,by simpa using hu,hw'⟩,by simp only;omega⟩;simp only [HX,ltD hx,AI,An hx (show q.trans.length<=9223372036854775807 by omega)];unfold ZT;rw [AP hx,A8 (by omega),Do hy hxs.1,hb,AB,A8 (by omega),A8 (by omega)];rfl)
  ((0:Int),List.replicate (q.symbols.length:Int).toNat false,([]:List Int)) ⟨0,rfl,by omega,by simp,by simp⟩
 refine BW h9 ?_;obtain⟨t1,e1,_⟩:=Ak (step:=fun s=>HY q o9 s) o9.length (fun _=>True) (fun _=>True)
  (fun i hi=>by obtain⟨x,hx,_⟩:=Aa hi;simp only [HY,ltD hx,AI,AP hx,An hx (show o9.length<=9223372036854775807 by omega)];simp only [BD];split;exact .inr ⟨_,rfl,trivial⟩;exact .inl ⟨rfl,trivial⟩)
  (fun _=>⟨.inl (),by simp only [HY,ltI,AH],trivial⟩)
 refine BW e1 ?_;rcases t1 with _|_
 case inr=>exact⟨_,rfl,by simp⟩
 rw [CT];have hsl:q.symbols.length<=9223372036854775807:=by omega
 obtain⟨t2,e2,Q2⟩:=Ak (step:=fun s=>HZ q s) q.symbols.length (fun i=> ∀s,q.symbols[i]? =some s->RV q s) (fun t=>t= .inl ()-> ∀s∈q.symbols,RV q s)
  (fun i hi=>by
   obtain⟨x,hx,_⟩:=Aa hi;have hxa:=hF.args x (List.mem_of_getElem? hx);obtain⟨b,hb,hbo⟩:=aS4 q x hxa;simp only [HZ,ltD hx,AI,AP hx,hb,AB,An hx hsl];cases b with
   |false=>exact .inr ⟨_,rfl,by simp⟩
   |true=>
    simp only [Bool.not_true,AH]
    obtain⟨t3,e3,_⟩:=Ak (step:=fun s=>Ha (i:Int) q s) i (fun _=>True) (fun _=>True)
     (fun j hj=>by
      obtain⟨y,hy,_⟩:=Aa (l:=q.symbols) (i:=j) (by omega);obtain⟨c,hc⟩:=JR x y (by omega);have hlt:decide ((j:Int)<(i:Int))=true:=by simp;omega
      simp only [Ha,hlt,AI,AP hx,AP hy,hc,AB,An hy hsl];simp only [BD];split;exact .inr ⟨_,rfl,trivial⟩;exact .inl ⟨rfl,trivial⟩)
     (fun _=>⟨.inl (),by simp only [Ha,ltI,AH],trivial⟩)
    unfold aJj
    rw [e3,AB]
    rcases t3 with _|_
    exact .inl ⟨rfl,fun s hs=>by rw [hx]at hs;cases hs;exact hbo rfl⟩
    exact .inr ⟨_,rfl,by simp⟩)
  (fun hP=>⟨.inl (),by simp only [HZ,ltI,AH],fun _=>FY hP⟩)
 refine BW e2 ?_;rcases t2 with _|_
 case inr=>exact⟨_,rfl,by simp⟩
 rw [CT];obtain⟨t4,e4,_⟩:=Ak (step:=fun s=>Hb q s) q.quants.length (fun _=>True) (fun _=>True)
  (fun i hi=>by
   have hlt:decide ((i:Int)<(q.quants.length:Int))=true:=by simp;omega
   obtain⟨o,ho,_⟩:=BG (step:=fun s:Bool×Int=>E1 (i:Int) q s.1 s.2) (fun s=> ∃j:Nat,s.2=(j:Int)/\j<=q.symbols.length) (fun s=>(q.symbols.length-s.2).toNat) (fun _=>True)
    (by
     rintro⟨b,s⟩ ⟨j,rfl,hj⟩;simp only;by_cases he:j=q.symbols.length;subst he;exact .inl ⟨b,by simp only [E1,ltI,AH],trivial⟩;obtain⟨x,hx,_⟩:=Aa (l:=q.symbols) (i:=j) (by omega);have hxa:=hF.args x (List.mem_of_getElem? hx);obtain⟨c,hc⟩:=LF x (i:Int) (by omega);have hc':Yq x (i:Int)=some c:=hc;cases b with
     |true=>exact .inr ⟨(true,((j+1:Nat):Int)),by simp only [E1,ltD hx,AI,An hx hsl],⟨j+1,rfl,by omega⟩,by simp only;omega⟩
     |false=>exact .inr ⟨(c,((j+1:Nat):Int)),by simp only [E1,ltD hx,AI,AH,AP hx,hc',AB,An hx hsl],⟨j+1,rfl,by omega⟩,by simp only;omega⟩)
    (false,(0:Int)) ⟨0,rfl,by omega⟩
   have ho':Rz (i:Int) q false 0=some o:=ho;simp only [Hb,hlt,AI,ho',AB,MU (show i<9223372036854775807 by omega)];simp only [BD];split;exact .inr ⟨_,rfl,trivial⟩;exact .inl ⟨rfl,trivial⟩)
  (fun _=>⟨.inl (),by simp only [Hb,ltI,AH],trivial⟩)
 refine BW e4 ?_;rcases t4 with _|_
 exact⟨_,rfl,fun _=>Q2 rfl⟩;exact⟨_,rfl,by simp⟩
theorem MX(l:List (List UInt8))(at':Nat)(h:at'<l.length)(hl:l.length<=9223372036854775807): ∃r,Z0 l (at':Int)=some r:=by
 unfold Z0;refine KE ?_;obtain⟨y,hy,_⟩:=Aa h;obtain⟨t,ht,_⟩:=Ak (step:=fun i=>IW l (at':Int) i) at' (fun _=>True) (fun _=>True)
  (fun i hi=>by
   obtain⟨x,hx,_⟩:=Aa (l:=l) (i:=i) (by omega);have hlt:decide ((i:Int)<(at':Int))=true:=by simp;omega
   simp only [IW,hlt,AI,AP hx,AP hy,An hx hl];simp only [BD];split;exact .inr ⟨_,rfl,trivial⟩;exact .inl ⟨rfl,trivial⟩)
  (fun _=>⟨.inl (),by simp only [IW,ltI,AH],trivial⟩)
 refine BW ht ?_;rcases t with _|_<;>exact⟨_,rfl,trivial⟩
theorem aN1(q:AD)(hF:De q): ∃r,Xh q=some r:=by
 have h1:=hF.quants;have h2:=hF.frees;have h3:=hF.states;unfold Xh;refine KE ?_;obtain⟨o7,e7,p7⟩:=BG (step:=fun s:Int×List (List UInt8)=>Hm q s.1 s.2) (fun s=> ∃i:Nat,s.1=(i:Int)/\i<=q.quants.length/\s.2.length<=i) (fun s=>(q.quants.length-s.1).toNat) (fun o=> ∀w,o= .inl w->w.length<=9)
  (by rintro⟨s,w⟩ ⟨i,rfl,hi,hw⟩;simp only at hw⊢;by_cases he:i=q.quants.length;subst he;exact .inl ⟨.inl w,by simp only [Hm,ltI,AH],fun w' hw'=>by cases hw';omega⟩;obtain⟨x,hx,_⟩:=Aa (l:=q.quants) (i:=i) (by omega);simp only [Hm,ltD hx,AI,AP hx,An hx (show q.quants.length<=9223372036854775807 by omega)];rw [LZ (by simp;omega) (by decide)];simp only [BD];split;exact .inl ⟨_,rfl,by simp⟩;split;exact .inl ⟨_,rfl,by simp⟩;exact .inr ⟨_,rfl,⟨i+1,rfl,by omega,by simpa using hw⟩,by simp only;omega⟩)
  ((0:Int),([]:List (List UInt8))) ⟨0,rfl,by omega,by simp⟩
 refine BW e7 ?_;rcases o7 with o8|_
 case inr=>exact⟨_,rfl,trivial⟩
 rw [CT];have hw8:=p7 o8 rfl;obtain⟨o13,e13,p13⟩:=BG (step:=fun s:Int×List (List UInt8)=>Hn q s.1 s.2) (fun s=> ∃i:Nat,s.1=(i:Int)/\i<=q.frees.length/\s.2.length<=9+i) (fun s=>(q.frees.length-s.1).toNat) (fun o=> ∀w,o= .inl w->w.length<=21)
  (by rintro⟨s,w⟩ ⟨i,rfl,hi,hw⟩;simp only at hw⊢;by_cases he:i=q.frees.length;subst he;exact .inl ⟨.inl w,by simp only [Hn,ltI,AH],fun w' hw'=>by cases hw';omega⟩;obtain⟨x,hx,_⟩:=Aa (l:=q.frees) (i:=i) (by omega);obtain⟨b,hb⟩:=aH6 x.init_;simp only [Hn,ltD hx,AI,AP hx,hb,AB,An hx (show q.frees.length<=9223372036854775807 by omega)];rw [LZ (by simp;omega) (by decide)];simp only [BD];split;exact .inl ⟨_,rfl,by simp⟩;exact .inr ⟨_,rfl,⟨i+1,rfl,by omega,by simp;omega⟩,by simp only;omega⟩)
  ((0:Int),o8) ⟨0,rfl,by omega,by simpa using hw8⟩
 refine BW e13 ?_;rcases o13 with o14|_
 case inr=>exact⟨_,rfl,trivial⟩
 rw [CT];have hw14:=p13 o14 rfl;obtain⟨t,ht,_⟩:=Ak (step:=fun i=>Ho q o14 i) o14.length (fun _=>True) (fun _=>True)
  (fun i hi=>by
   obtain⟨x,hx,_⟩:=Aa hi;obtain⟨b,hb⟩:=OX x;obtain⟨c,hc⟩:=MX o14 i hi (by omega);simp only [Ho,ltD hx,AI,AP hx,hb,hc,AB,An hx (show o14.length<=9223372036854775807 by omega)];simp only [BD];repeat' split
   all_goals first|exact .inl ⟨rfl,trivial⟩|exact .inr ⟨_,rfl,trivial⟩)
  (fun _=>⟨.inl (),by simp only [Ho,ltI,AH],trivial⟩)
 refine BW ht ?_;rcases t with _|_
 case inr=>exact⟨_,rfl,trivial⟩
 rw [CT];obtain⟨o30,e30,_⟩:=BG (step:=fun s:Int×List (List UInt8)=>Hq q s.1 s.2) (fun s=> ∃i:Nat,s.1=(i:Int)/\i<=q.states.length/\s.2.length=i) (fun s=>(q.states.length-s.1).toNat) (fun _=>True)
  (by
   rintro⟨s,w⟩ ⟨i,rfl,hi,hw⟩;simp only at hw⊢;by_cases he:i=q.states.length;subst he;exact .inl ⟨.inl (),by simp only [Hq,ltI,AH],trivial⟩;obtain⟨x,hx,_⟩:=Aa (l:=q.states) (i:=i) (by omega);have hg:(w++[x.name])[i]? =some x.name:=by rw [<-hw];simp
   obtain⟨b,hb⟩:=OX x.name;obtain⟨c,hc⟩:=MX (w++[x.name]) i (by simp;omega) (by simp;omega);simp only [Hq,ltD hx,AI,AP hx,An hx (show q.states.length<=9223372036854775807 by omega)];rw [LZ (by simp;omega) (by decide),AP hg,hb,AB,hc];simp only [AB,BD];split;exact .inl ⟨_,rfl,trivial⟩;split;exact .inl ⟨_,rfl,trivial⟩;exact .inr ⟨_,rfl,⟨i+1,rfl,by omega,by simp;omega⟩,by simp only;omega⟩)
  ((0:Int),([]:List (List UInt8))) ⟨0,rfl,by omega,by simp⟩
 refine BW e30 ?_;rcases o30 with _|_
 obtain⟨b,hb⟩:=OX q.name;rw [CT];exact BW hb ⟨_,rfl,trivial⟩;exact⟨_,rfl,trivial⟩
structure Ah(q:AD):Prop where
 decls:Mg q.decls
 quants:q.quants.length<=8
 symbols: ∀s∈q.symbols,RV q s
 guards: ∀t∈q.trans,t.guard= -1\/0<=t.guard
 ends : ∀ t ∈ q.trans, (0 <= t.symbol /\ t.symbol < q.symbols.length) /\ (0 <= t.from_ /\ t.from_ < q.states.length) /\ 0 <= t.to /\ t.to < q.states.length
 fires: ∀t∈q.trans,∃f r,Xy q t f=some (r,true)
theorem aSp(q:AD)(hF:De q)(hW: ∀t∈q.trans,Ji t): ∃r,Yn q=some r/\(r=true->Ah q):=by
 have h1:=hF.decls;have h2:=hF.trans;unfold Yn;obtain⟨r1,e1,p1⟩:=aR1 q.decls (by omega);refine BW e1 ?_;refine DW (fun _=>⟨_,rfl,by simp⟩) (fun hz=> ?_);refine BT (fun _=>⟨_,rfl,by simp⟩) (fun hq=> ?_);refine BT (fun _=>⟨_,rfl,by simp⟩) (fun _=> ?_);refine BT (fun _=>⟨_,rfl,by simp⟩) (fun _=> ?_);refine BT (fun _=>⟨_,rfl,by simp⟩) (fun _=> ?_);refine BT (fun _=>⟨_,rfl,by simp⟩) (fun _=> ?_);refine BT (fun _=>⟨_,rfl,by simp⟩) (fun _=> ?_);refine BT (fun _=>⟨_,rfl,by simp⟩) (fun _=> ?_);refine BT (fun _=>⟨_,rfl,by simp⟩) (fun _=> ?_);obtain⟨r2,e2⟩:=aN1 q hF;refine BW e2 ?_;refine Eb (fun _=>⟨_,rfl,by simp⟩) (fun _=> ?_);obtain⟨o5,e5,p5⟩:=BG (step:=fun s:Int×Int=>IO q s.1 s.2) (fun s=> ∃i:Nat,s.2=(i:Int)/\i<=q.trans.length/\0<=s.1/\s.1<=q.nodes.length/\ ∀j,j<i-> ∀t,q.trans[j]? =some t->0<=t.symbol/\t.symbol<q.symbols.length/\(t.guard= -1\/0<=t.guard)/\(0<=t.from_/\t.from_<q.states.length)/\0<=t.to/\t.to<q.states.length/\ ∃f r,Xy q t f=some (r,true)) (fun s=>(q.trans.length-s.2).toNat)
  (fun o=> ∀w,o= .inl w-> ∀t∈q.trans,0<=t.symbol/\t.symbol<q.symbols.length/\(t.guard= -1\/0<=t.guard)/\(0<=t.from_/\t.from_<q.states.length)/\0<=t.to/\t.to<q.states.length/\ ∃f r,Xy q t f=some (r,true))
  (by
   rintro⟨w,s⟩ ⟨i,rfl,hi,hw0,hw1,hP⟩;simp only at hw0 hw1 hP⊢;by_cases he:i=q.trans.length;subst he;exact .inl ⟨.inl w,by simp only [IO,ltI,AH],fun _ _=>FY hP⟩;obtain⟨x,hx,_⟩:=Aa (l:=q.trans) (i:=i) (by omega);have hxm:=List.mem_of_getElem? hx;obtain⟨r4,e4,p4⟩:=aHs q hF x (hW x hxm) (hF.sets x hxm) w hw0 hw1;simp only [IO,ltD hx,AI,AP hx,e4,AB,An hx (show q.trans.length<=9223372036854775807 by omega)];cases hb:r4.2 with
   |false=>exact .inl ⟨.inr (),rfl,by simp⟩
   |true=>
    have hp:=p4 hb
    refine .inr ⟨(r4.1,((i+1:Nat):Int)),rfl,⟨i+1,rfl,by omega,hp.2.2.1,hp.2.2.2.1,fun j hj t ht=> ?_⟩,by simp only;omega⟩
    rcases Nat.lt_or_ge j i with h|h
    exact hP j h t ht
    have:j=i:=by omega
    subst this;rw [hx]at ht;cases ht;exact⟨hp.1,hp.2.1,hp.2.2.2.2.1,hp.2.2.2.2.2.1,hp.2.2.2.2.2.2.1,hp.2.2.2.2.2.2.2,w,r4.1,by rw [e4,<-hb]⟩)
  ((0:Int),(0:Int)) ⟨0,rfl,by omega,by simp,by simp,fun j hj=>by omega⟩
 refine BW e5 ?_;rcases o5 with o6|_
 rw [CT];refine BT (fun _=> ?_) (fun _=>⟨_,rfl,by simp⟩);obtain⟨r8,e8,p8⟩:=aQ9 q hF (fun t ht=>⟨(p5 o6 rfl t ht).1,(p5 o6 rfl t ht).2.1⟩);refine BW e8 ⟨_,rfl,fun hr=>⟨p1 hz,by omega,p8 hr,fun t ht=>(p5 o6 rfl t ht).2.2.1,fun t ht=>⟨⟨(p5 o6 rfl t ht).1,(p5 o6 rfl t ht).2.1⟩,(p5 o6 rfl t ht).2.2.2.1,(p5 o6 rfl t ht).2.2.2.2.1,(p5 o6 rfl t ht).2.2.2.2.2.1⟩,fun t ht=>(p5 o6 rfl t ht).2.2.2.2.2.2⟩⟩;exact⟨_,rfl,by simp⟩
theorem aU5{i j:Nat}(h:i+j<4611686018427387904):IntKind.wrap .i64 (AA .shr .u64 (IntKind.wrap .u64 (AA .add .i64 (i:Int) (j:Int))) 1)=(((i+j)/2:Nat):Int):=by
 have e1:AA .add .i64 (i:Int) (j:Int)=((i+j:Nat):Int):=by rw [LP (by omega) (by omega)];omega
 rw [e1,At (by omega)];have e2:AA .shr .u64 (((i+j:Nat)):Int) 1=(((i+j)/2^1:Nat):Int):=aUo (n:=i+j) (k:=1) (by decide);rw [e2,Nat.pow_one,aM2 (by omega) (by omega)]
theorem aLz{step:Int×Int->Option ((Int×Int)⊕Int)}(n:Nat)(lt:Nat->Bool)
 (h1: ∀i j:Nat,i<j->j<=n->step ((i:Int),(j:Int))=some (.inl (if lt ((i+j)/2)=true then((((i+j)/2+1:Nat):Int),(j:Int))else((i:Int),(((i+j)/2:Nat):Int)))))
 (h2: ∀i:Nat,step ((i:Int),(i:Int))=some (.inr (i:Int))) (hm: ∀a b,a<=b->b<n->lt b=true->lt a=true):
 ∃k:Nat,k<=n/\AR step (0,(n:Int))=some (k:Int)/\(∀a,a<k->lt a=true)/\ ∀a,k<=a->a<n->lt a=false:=by
 obtain⟨t,ht,k,hk,rfl,p1,p2⟩:=BG (step:=step) (fun s=> ∃i j:Nat,s=((i:Int),(j:Int))/\i<=j/\j<=n/\(∀a,a<i->lt a=true)/\ ∀a,j<=a->a<n->lt a=false) (fun s=>(s.2-s.1).toNat)
  (fun t=> ∃k:Nat,k<=n/\t=(k:Int)/\(∀a,a<k->lt a=true)/\ ∀a,k<=a->a<n->lt a=false)
  (by
   rintro s ⟨i,j,rfl,hij,hj,q1,q2⟩;rcases Nat.lt_or_ge i j with h|h
   right;cases hl:lt ((i+j)/2)with
   |true=>
    refine⟨((((i+j)/2+1:Nat):Int),(j:Int)),by rw [h1 i j h hj,hl];rfl,⟨(i+j)/2+1,j,rfl,by omega,hj,fun a ha=>hm a ((i+j)/2) (by omega) (by omega) hl,q2⟩,by simp only;omega⟩
   |false=>
    refine⟨((i:Int),(((i+j)/2:Nat):Int)),by rw [h1 i j h hj,hl];rfl,⟨i,(i+j)/2,rfl,by omega,by omega,q1,fun a ha hn=> ?_⟩,by simp only;omega⟩
    rcases Nat.lt_or_ge a j with g|g
    cases hla:lt a with
    |false=>rfl
    |true=>rw [hm ((i+j)/2) a ha hn hla]at hl;cases hl
    exact q2 a g hn
   have:i=j:=by omega
   subst this;exact .inl ⟨(i:Int),h2 i,i,hj,rfl,q1,q2⟩)
  (0,(n:Int)) ⟨0,n,rfl,by omega,Nat.le_refl _,fun a ha=>by omega,fun a ha hn=>by omega⟩
 exact⟨k,hk,ht,p1,p2⟩

def SV(w:List X2):Prop:=w.Pairwise (fun a b=>a.var<b.var)/\ ∀s∈w,0<=s.var/\s.var<=63
theorem Gw: ∀{a b:List X2},a.Pairwise (fun x y=>x.var<y.var)->b.Pairwise (fun x y=>x.var<y.var)->(∀s,s∈a↔s∈b)->a=b
 |[],[],_,_,_=>rfl
 |[],y::b,_,_,h=>by have:=(h y).2 (by simp);simp at this
 |x::a,[],_,_,h=>by have:=(h x).1 (by simp);simp at this
 |x::a,y::b,ha,hb,h=>by
  obtain⟨ha1,ha2⟩:=List.pairwise_cons.1 ha;obtain⟨hb1,hb2⟩:=List.pairwise_cons.1 hb;have hxy:x=y:=by
   rcases mc.1 ((h x).1 (by simp))with e|e
   exact e;rcases mc.1 ((h y).2 (by simp))with e2|e2
   exact e2.symm;have:=hb1 x e;have:=ha1 y e2;omega
  subst hxy;congr 1;refine Gw ha2 hb2 fun s=>⟨fun hs=> ?_,fun hs=> ?_⟩;rcases mc.1 ((h s).1 (List.mem_cons_of_mem _ hs))with e|e
  subst e;have:=ha1 s hs;omega;exact e;rcases mc.1 ((h s).2 (List.mem_cons_of_mem _ hs))with e|e
  subst e;have:=hb1 s hs;omega;exact e
def NS:List X2->X2->List X2
 |[],x=> [x]
 |y::l,x=>if x.var<y.var then x::y::l else y::NS l x
theorem EM: ∀(l:List X2) (x s:X2),s∈NS l x↔s=x\/s∈l
 |[],x,s=>by simp [NS]
 |y::l,x,s=>by
  unfold NS;split;simp;rw [mc,EM l x s,mc];constructor;rintro(h|h|h)<;>simp [h];rintro(h|h|h)<;>simp [h]
theorem Fe: ∀(l:List X2) (x:X2),l.Pairwise (fun a b=>a.var<b.var)->(∀s∈l,s.var≠x.var)->(NS l x).Pairwise (fun a b=>a.var<b.var)
 |[],x,_,_=>by simp [NS]
 |y::l,x,h,hn=>by
  obtain⟨h1,h2⟩:=List.pairwise_cons.1 h;unfold NS;split;rename_i hxy;refine List.pairwise_cons.2 ⟨fun s hs=> ?_,h⟩;rcases mc.1 hs with rfl|hs
  exact hxy;have:=h1 s hs;omega;rename_i hxy;refine List.pairwise_cons.2 ⟨fun s hs=> ?_,Fe l x h2 fun s hs=>hn s (List.mem_cons_of_mem _ hs)⟩;rcases(EM l x s).1 hs with rfl|hs
  have:=hn y (by simp);omega;exact h1 s hs
theorem Oy: ∀(l:List X2) (x:X2),(NS l x).length=l.length+1
 |[],x=>rfl
 |y::l,x=>by unfold NS;split<;>simp [Oy l x]
theorem Iz{l:List X2}{v:Int}(h:(D1 l v).2=false): ∀s∈l,s.var≠v:=by
 intro s hs e;unfold D1 at h;cases hf:l.findSome? (fun s=>if s.var=v then some s.value else none)with
 |some x=>rw [hf]at h;cases h
 |none=>
  rw [List.findSome?_eq_none_iff]at hf
  have:=hf s hs
  simp [e]at this
theorem Fd{l:List X2}(hl:l.Pairwise (fun a b=>a.var<b.var)){s:X2}(h:s∈l):D1 l s.var=(s.value,true):=by
 have key: ∀(l:List X2),l.Pairwise (fun a b=>a.var<b.var)->s∈l->l.findSome? (fun t=>if t.var=s.var then some t.value else none)=some s.value:=by
  intro l;induction l with
  |nil=>intro _ h;simp at h
  |cons t l ih=>
   intro hp hs
   rw [List.findSome?_cons]
   obtain⟨h1,h2⟩:=List.pairwise_cons.1 hp
   rcases mc.1 hs with rfl|hs
   simp
   have:=h1 s hs
   rw [if_neg (by omega)]
   exact ih h2 hs
 unfold D1;rw [key l hl h]
def MG(w:List X2)(x:X2):Option (List X2):=if(D1 w x.var).2=true then(if(D1 w x.var).1=x.value then some w else none)else some (NS w x)
theorem JH{w w':List X2}{x:X2}(hw:SV w)(hx:0<=x.var/\x.var<=63)(h:MG w x=some w'):SV w'/\w'.length<=w.length+1:=by
 unfold MG at h;split at h;split at h;cases h;exact⟨hw,by omega⟩;cases h;rename_i hn;cases h;have hn':(D1 w x.var).2=false:=by simpa using hn
 refine⟨⟨Fe w x hw.1 (Iz hn'),fun s hs=> ?_⟩,by rw [Oy];exact Nat.le_refl _⟩;rcases(EM w x s).1 hs with rfl|hs
 exact hx;exact hw.2 s hs
theorem aL4{w:List X2}{x:X2}(hw:w.Pairwise (fun a b=>a.var<b.var))(hn: ∀s∈w,s.var≠x.var){k:Nat}(hk:k<=w.length)(h1: ∀j s,w[j]? =some s->j<k->s.var<x.var)(h2: ∀j s,w[j]? =some s->k<=j->x.var<s.var):
 w.take k++[x]++w.drop k=NS w x:=by
 refine Gw ?_ (Fe w x hw hn) fun s=> ?_
 rw [List.append_assoc,List.singleton_append]
 have hd: ∀s∈w.drop k,x.var<s.var:=fun s hs=>by obtain⟨j,hj,rfl⟩:=List.mem_iff_getElem.1 hs;rw [List.getElem_drop];exact h2 (k+j) _ (List.getElem?_eq_getElem (by simp at hj;omega)) (by omega)
 have htk: ∀s∈w.take k,s.var<x.var:=fun s hs=>by obtain⟨j,hj,rfl⟩:=List.mem_iff_getElem.1 hs;rw [List.getElem_take];simp at hj;exact h1 j _ (List.getElem?_eq_getElem (by omega)) (by omega)
 refine List.pairwise_append.2 ⟨hw.sublist (List.take_sublist _ _),List.pairwise_cons.2 ⟨hd,hw.sublist (List.drop_sublist _ _)⟩,fun a ha b hb=> ?_⟩
 rcases mc.1 hb with rfl|hb
 exact htk a ha
 have:=htk a ha;have:=hd b hb;omega
 rw [EM]
 have hw2:s∈w↔s∈w.take k\/s∈w.drop k:=by
  conv=>lhs;rw [<-List.take_append_drop k w]
  rw [ma]
 rw [hw2]
 simp only [ma,List.mem_singleton]
 constructor
 rintro((h|h)|h)<;>simp [h]
 rintro(h|h|h)<;>simp [h]
def HA:List CE->List X0->List X2->List X2->Option (List X2×List X2)
 |a::al,x::xs,b,f=>
  if a.kind=1 then(if a.value=x then HA al xs b f else none)
  else if a.kind=2 then(match MG b ⟨a.n,x⟩with|none=>none|some b'=>HA al xs b' f)
  else if a.kind=3 then(match MG f ⟨a.n,x⟩with|none=>none|some f'=>HA al xs b f')
  else HA al xs b f
 |_,_,b,f=>some (b,f)
def aPz(a:CE):Prop:=(a.kind=2->0<=a.n/\a.n<=7)/\(a.kind=3->0<=a.n/\a.n<=63)
def B7(b:List X2):Prop:= ∀s∈b,s.var<=7
theorem aIw{w w':List X2}{x:X2}(hw:B7 w)(hx:x.var<=7)(h:MG w x=some w'):B7 w':=by
 unfold MG at h;split at h;split at h;cases h;exact hw;cases h;cases h;intro s hs;rcases(EM w x s).1 hs with rfl|hs
 exact hx;exact hw s hs
theorem Iw: ∀(al:List CE) (xs:List X0) (b f:List X2) (p:List X2×List X2),(∀a∈al,aPz a)->SV b->SV f->B7 b->HA al xs b f=some p->SV p.1/\SV p.2/\B7 p.1/\p.1.length<=b.length+al.length/\p.2.length<=f.length+al.length
 |[],xs,b,f,p,_,hb,hf,h7,h=>by simp only [HA]at h;cases h;exact⟨hb,hf,h7,by simp,by simp⟩
 |a::al,[],b,f,p,_,hb,hf,h7,h=>by simp only [HA]at h;cases h;exact⟨hb,hf,h7,by simp,by simp⟩
 |a::al,x::xs,b,f,p,hA,hb,hf,h7,h=>by
  have hA': ∀a∈al,aPz a:=fun a h=>hA a (List.mem_cons_of_mem _ h);have hAa:=hA a (by simp);simp only [HA]at h;split at h;split at h;obtain⟨a1,a2,a3,a4,a5⟩:=Iw al xs b f p hA' hb hf h7 h;exact⟨a1,a2,a3,by simp;omega,by simp;omega⟩;cases h;split at h;rename_i h2;split at h;cases h;rename_i b' hp;have hv:=hAa.1 h2;obtain⟨c1,c2⟩:=JH hb (x:=⟨a.n,x⟩) ⟨hv.1,by simp only;omega⟩ hp;obtain⟨a1,a2,a3,a4,a5⟩:=Iw al xs b' f p hA' c1 hf (aIw h7 (by simp only;omega) hp) h;exact⟨a1,a2,a3,by simp;omega,by simp;omega⟩;split at h;rename_i h3;split at h;cases h;rename_i f' hp;have hv:=hAa.2 h3;obtain⟨c1,c2⟩:=JH hf (x:=⟨a.n,x⟩) hv hp;obtain⟨a1,a2,a3,a4,a5⟩:=Iw al xs b f' p hA' hb c1 h7 h;exact⟨a1,a2,a3,by simp;omega,by simp;omega⟩;obtain⟨a1,a2,a3,a4,a5⟩:=Iw al xs b f p hA' hb hf h7 h;exact⟨a1,a2,a3,by simp;omega,by simp;omega⟩
def aGq(a b:List X2):Bool:=a.all fun s=> !(D1 b s.var).2||decide ((D1 b s.var).1=s.value)
theorem aS6(a b:List X2)(ha:a.length<=9223372036854775807)(hb:b.length<=9223372036854775807):Z2 a b=some (aGq a b):=by
 unfold Z2 aKz;rw [L5 a (fun s=> !(D1 b s.var).2||decide ((D1 b s.var).1=s.value)) (.inl ():Unit⊕Unit) (.inr ())
  (fun i x hx=>by simp only [KV,ltD hx,AI,AP hx,An hx ha,aEv b _ hb,AB,X0.eqb_dec];obtain⟨y,o⟩:=D1 b x.var;cases o;simp [AE];by_cases h:y=x.value<;>simp [AE,h])
  (by simp only [KV,ltI,AH]),AB]
 unfold aGq;cases a.all _<;>rfl
theorem HO(x:X2)(v:Int):D1 [x] v=if x.var=v then(x.value,true)else(zV,false):=by unfold D1;by_cases h:x.var=v<;>simp [h]
def Ez(a b:List X2)(v:Nat):Option X2:=
 if(D1 a v).2=true then some ⟨v,(D1 a v).1⟩else if(D1 b v).2=true then some ⟨v,(D1 b v).1⟩else none
def JP(a b:List X2):List X2:=(List.range 8).filterMap (Ez a b)
theorem aR8(a b:List X2)(ha:a.length<=9223372036854775807)(hb:b.length<=9223372036854775807):Y2 a b=some (JP a b):=by
 unfold Y2 aKd;have hg: ∀(l:List X2) (v:Int),l.length<=9223372036854775807->Yh l v=some (D1 l v):=fun l v hl=>aEv l v hl;have h:=DX (step:=fun s:Int×List X2=>ID a b s.1 s.2) (List.range 8) (fun w v=>w++(Ez a b v).toList) (fun w=>w) (fun i w=>w.length<=i)
  (fun i x w hx hI=>by
   have hi:i<8:=by simpa using Ec hx
   have hxi:x=i:=by rw [List.getElem?_range hi]at hx;cases hx;rfl
   subst hxi;have hd:decide ((x:Int)<8)=true:=by simp;omega
   refine⟨?_, ?_⟩;simp only [ID,hd,AI,aDe,hg a _ ha,hg b _ hb,AB,aDg,aDi,MU (show x<9223372036854775807 by omega),Ez];rw [LZ (by simp;omega) (by decide),LZ (by simp;omega) (by decide)];cases(D1 a (x:Int)).2<;>cases(D1 b (x:Int)).2<;>simp [AE,AJ];unfold Ez;split;simpa using hI;split;simpa using hI;simp;omega)
  (fun w _=>by simp [ID,AE]) [] (by simp)
 rw [h,AB];congr 1;unfold JP;have key: ∀(l:List Nat) (w:List X2),l.foldl (fun w v=>w++(Ez a b v).toList) w=w++l.filterMap (Ez a b):=by
  intro l;induction l with
  |nil=>intro w;simp
  |cons v l ih=>intro w;rw [List.foldl_cons,ih,List.filterMap_cons];cases Ez a b v<;>simp
 rw [key];simp
theorem Gz{a b:List X2}{v:Nat}{s:X2}(h:Ez a b v=some s):s.var=(v:Int):=by unfold Ez at h;split at h;cases h;rfl;split at h;cases h;rfl;cases h
theorem K9(a b:List X2):(JP a b).Pairwise (fun x y=>x.var<y.var):=by
 unfold JP;have h8:(List.range 8).Pairwise (· < ·):=List.pairwise_lt_range
 rw [List.pairwise_filterMap];refine h8.imp fun{v w} hvw s hs t ht=> ?_;have:=Gz hs;have:=Gz ht;omega
theorem QX{a b:List X2}{s:X2}:s∈JP a b↔0<=s.var/\s.var<=7/\(D1 a s.var=(s.value,true)\/(D1 a s.var).2=false/\D1 b s.var=(s.value,true)):=by
 unfold JP;rw [List.mem_filterMap];constructor;rintro⟨v,hv,h⟩;have hv8:v<8:=by simpa using hv
 have hsv:=Gz h;refine⟨by omega,by omega, ?_⟩;rw [hsv];unfold Ez at h;split at h;rename_i ha;cases h;left;simp only;rw [<-ha];rename_i ha;split at h;rename_i hb;cases h;right;exact⟨by simpa using ha,by simp only;rw [<-hb]⟩;cases h;rintro⟨h0,h7,h⟩;refine⟨s.var.toNat,by simp;omega, ?_⟩;have e:((s.var.toNat:Nat):Int)=s.var:=by omega
 unfold Ez;rw [e];rcases h with h|⟨h,h'⟩
 rw [h];simp;rw [h,h'];simp
theorem aGr{b:List X2}{x:X2}(hb:SV b):aGq b [x]=(MG b x).isSome:=by
 unfold aGq MG;cases hg:(D1 b x.var).2 with
 |true=>
  have hm:=FC (l:=b) (v:=x.var) (x:=(D1 b x.var).1) (by rw [<-hg])
  by_cases hv:(D1 b x.var).1=x.value
  simp only [if_true,hv,Option.isSome_some]
  rw [List.all_eq_true]
  intro s hs
  rw [HO]
  by_cases h:x.var=s.var
  have:=Fd hb.1 hs
  rw [<-h]at this
  rw [this]at hv
  simp [h,<-hv]
  simp [h]
  simp only [if_true,hv,if_false,Option.isSome_none]
  rw [List.all_eq_false]
  refine⟨_,hm, ?_⟩
  rw [HO]
  simp
  exact fun h=>hv h.symm
 |false=>
  simp only [Bool.false_eq_true,if_false,Option.isSome_some]
  rw [List.all_eq_true]
  intro s hs
  rw [HO]
  have:=Iz hg s hs
  have h': ¬x.var=s.var:=fun h=>this h.symm
  simp [h']
theorem YI{b w:List X2}{x:X2}(hb:SV b)(h7:B7 b)(hx:0<=x.var/\x.var<=7)(h:MG b x=some w):JP b [x]=w:=by
 have hw:=JH hb (x:=x) ⟨hx.1,by omega⟩ h;refine Gw (K9 _ _) hw.1.1 fun s=> ?_;rw [QX,HO];unfold MG at h;split at h;rename_i hg;split at h;rename_i hv;cases h;constructor;rintro⟨_,_,h1|⟨h1,h2⟩⟩;exact FC h1;split at h2;rename_i e;rw [e]at hg;rw [h1]at hg;cases hg;simp at h2;intro hs;exact⟨(hb.2 s hs).1,h7 s hs,.inl (Fd hb.1 hs)⟩;cases h;rename_i hg;have hg':(D1 b x.var).2=false:=by simpa using hg
 cases h;rw [EM];constructor;rintro⟨_,_,h1|⟨h1,h2⟩⟩;exact .inr (FC h1);split at h2;rename_i e;left;obtain⟨a,c⟩:=s;obtain⟨a',c'⟩:=x;simp only at e h2;subst e;simp at h2;rw [h2];simp at h2;rintro(rfl|hs);exact⟨hx.1,hx.2,.inr ⟨hg',by simp⟩⟩;exact⟨(hb.2 s hs).1,h7 s hs,.inl (Fd hb.1 hs)⟩
theorem aSz{w:List X2}{x:X2}(hw:SV w)(hn: ∀s∈w,s.var≠x.var)(hl:w.length<=1000):Yx w x=some (NS w x):=by
 unfold Yx aKw;obtain⟨t,ht,k,hk,rfl,p1,p2⟩:=BG (step:=fun s=>IU w x s) (fun s=> ∃i:Nat,s=(i:Int)/\i<=w.length/\ ∀j s,w[j]? =some s->i<=j->x.var<s.var) (fun s=>s.toNat)
  (fun t=> ∃k:Nat,k<=w.length/\t=(k:Int)/\(∀j s,w[j]? =some s->j<k->s.var<x.var)/\ ∀j s,w[j]? =some s->k<=j->x.var<s.var)
  (by
   rintro s ⟨i,rfl,hi,hj⟩;cases i with
   |zero=>exact .inl ⟨0,by simp [IU,AE],0,by omega,rfl,fun j s _ h=>by omega,hj⟩
   |succ i=>
    obtain⟨y,hy,_⟩:=Aa (l:=w) (i:=i) (by omega)
    have e:AA .sub .i64 ((i+1:Nat):Int) 1=(i:Int):=by rw [XV (by omega) (by omega)];omega
    have hd:decide ((0:Int)<((i+1:Nat):Int))=true:=by simp
    simp only [IU,hd,AI,e,AP hy]
    by_cases h:x.var<y.var
    refine .inr ⟨_,by simp only [h,decide_true,AI],⟨i,rfl,by omega,fun j s hs hij=> ?_⟩,by omega⟩
    rcases Nat.eq_or_lt_of_le hij with g|g
    subst g;rw [hy]at hs;cases hs;exact h
    exact hj j s hs g
    refine .inl ⟨_,by simp only [h,decide_false,AH],i+1,hi,rfl,fun j s hs hij=> ?_,hj⟩
    have hyx:y.var<x.var:=by have:=hn y (List.mem_of_getElem? hy);omega
    rcases Nat.lt_or_ge j i with g|g
    obtain⟨a1,rfl⟩:=List.getElem?_eq_some_iff.1 hs
    obtain⟨a2,rfl⟩:=List.getElem?_eq_some_iff.1 hy
    have:=List.pairwise_iff_getElem.1 hw.1 j i a1 a2 g;omega
    have:j=i:=by omega
    subst this;rw [hy]at hs;cases hs;exact hyx)
  (w.length:Int) ⟨w.length,rfl,Nat.le_refl _,fun j s hs hij=>by have:=Ec hs;omega⟩
 rw [ht,AB];have es:sub w 0 (k:Int)=w.take k:=by rw [show(0:Int)=((0:Nat):Int)from rfl,XY];rfl
 rw [es,XX,A8 (by omega),LZ (by simp;omega) (by decide),LZ (by simp;omega) (by decide),A8 (by omega),LZ (by simp;omega) (by decide)];rw [List.nil_append,aL4 hw.1 hn hk p1 p2]
theorem aGw{al:List CE}{e:X8}{sy:X3}{s1 w6:Int}{w9:Ao}(hsy:sy.args=al)(hlen:al.length=e.args.length)(h12:al.length<=12)(hA: ∀a∈al,aPz a): ∀(n i:Nat) (b f:List X2),al.length-i=n->i<=al.length->SV b->SV f->B7 b->b.length<=i->f.length<=i->
 Pf s1 e w6 sy w9 b f (i:Int)=some (match HA (al.drop i) (e.args.drop i) b f with|none=> .inr ()|some p=> .inl p):=by
 subst hsy
 intro n
 induction n with
 |zero=>
  intro i b f hn hi _ _ _ _ _
  have:i=sy.args.length:=by omega
  subst this
  rw [OL]
  simp only [Hx,ltI,AH,Ad]
  rw [List.drop_length];simp [HA]
 |succ n ih=>
  intro i b f hn hi hb hf h7 hbl hfl
  obtain⟨a,ha,hda⟩:=Aa (l:=sy.args) (i:=i) (by omega)
  obtain⟨x,hx,hdx⟩:=Aa (l:=e.args) (i:=i) (by omega)
  have hAa:=hA a (List.mem_of_getElem? ha)
  rw [OL,hda,hdx]
  simp only [Hx,ltD ha,AI,aBu,AP ha,AP hx,An ha (show sy.args.length<=9223372036854775807 by omega),X0.eqb_dec,TM,TN,TO]
  simp only [HA]
  by_cases h1:a.kind=1
  have h2: ¬a.kind=2:=by omega
  have h3: ¬a.kind=3:=by omega
  by_cases hv:a.value=x
  have ho:=ih (i+1) b f (by omega) (by omega) hb hf h7 (by omega) (by omega)
  simp [h1,hv,AE,CU,AJ,CP];exact_mod_cast ho
  simp [h1,hv,AE,CU,AJ,CP]
  by_cases h2:a.kind=2
  have h3: ¬a.kind=3:=by omega
  have hvr:=hAa.1 h2
  rw [aS6 _ _ (by omega) (by simp),aGr (x:=⟨a.n,x⟩) hb,aR8 _ _ (by omega) (by simp)]
  cases hp:MG b ⟨a.n,x⟩with
  |none=>simp [h1,h2,AE,CU,AJ,CP]
  |some b'=>
   obtain⟨c1,c2⟩:=JH hb (x:=⟨a.n,x⟩) ⟨hvr.1,by simp only;omega⟩ hp
   rw [YI hb h7 (x:=⟨a.n,x⟩) hvr hp]
   have ho:=ih (i+1) b' f (by omega) (by omega) c1 hf (aIw h7 (by simp only;omega) hp) (by omega) (by omega)
   simp [h1,h2,h3,AE,CU,AJ,CP];exact_mod_cast ho
  by_cases h3:a.kind=3
  have hvr:=hAa.2 h3
  rw [aEv f _ (by omega)]
  unfold MG
  simp only
  cases hg:(D1 f a.n).2 with
  |true=>
   by_cases hv:(D1 f a.n).1=x
   have ho:=ih (i+1) b f (by omega) (by omega) hb hf h7 (by omega) (by omega)
   simp [h1,h2,h3,hg,hv,AE,CU,AJ,CP];exact_mod_cast ho
   simp [h1,h2,h3,hg,hv,AE,CU,AJ,CP]
  |false=>
   have hp:MG f ⟨a.n,x⟩=some (NS f ⟨a.n,x⟩):=by unfold MG;simp [hg]
   obtain⟨c1,c2⟩:=JH hf (x:=⟨a.n,x⟩) hvr hp
   have ho:=ih (i+1) b (NS f ⟨a.n,x⟩) (by omega) (by omega) hb c1 h7 (by omega) (by omega)
   have hput:=aSz (w:=f) (x:=⟨a.n,x⟩) hf (Iz hg) (by omega)
   simp [h1,h2,h3,hg,AE,CU,AJ,CP,Wg,hput];exact_mod_cast ho
  have ho:=ih (i+1) b f (by omega) (by omega) hb hf h7 (by omega) (by omega)
  simp [h1,h2,h3,AE,CU,AJ,CP];exact_mod_cast ho
def I2(q:AD)(i:Nat)(e:X8):Option Ao:=match q.symbols[i]? with
 |none=>none
 |some s=>match q.decls[s.event.toNat]? with
  |none=>none
  |some d=>if d.name=e.name/\s.args.length=e.args.length then(HA s.args e.args [] []).map fun p=>⟨i,p.1,p.2⟩else none
theorem aH2:SV []:=⟨List.Pairwise.nil,by simp⟩
theorem aUw{q:AD}(hF:De q)(hR:Ah q){s:X3}(hs:s∈q.symbols): ∀a∈s.args,aPz a:=fun a ha=>by have:=(hR.symbols s hs).args a ha;have h8:=hR.quants;have hf:=hF.frees;exact⟨fun h=>by have:=this.two h;omega,fun h=>by have:=this.three h;omega⟩
def aNc(o:Option Ao):Ao×Bool:=match o with
 |some h=>(h,true)
 |none=>(⟨0,[],[]⟩,false)
theorem aRo{q:AD}(hF:De q)(hR:Ah q){e:X8}{i:Nat}(hi:i<q.symbols.length):Xn q i e=some (aNc (I2 q i e)):=by
 obtain⟨s,hs,_⟩:=Aa hi;have hsm:=List.mem_of_getElem? hs;have hso:=hR.symbols s hsm;obtain⟨d,hd,hdl⟩:=hso.decl;unfold Xn I2;rw [AP hs,Do hd hso.event,hs,aMj];simp only [hd];by_cases hn:d.name=e.name;by_cases hlen:s.args.length=e.args.length;have h12:=hF.args s hsm;have ho:=aGw (sy:=s) (s1:=(i:Int)) (w6:=0) (w9:=⟨0,[],[]⟩) rfl hlen h12 (aUw hF hR hsm) _ 0 [] [] rfl (by omega) aH2 aH2 (fun s hs=>by simp at hs) (by simp) (by simp);rw [show(0:Int)=((0:Nat):Int)from rfl]at ho⊢;simp only [List.drop_zero]at ho;simp only [hn,hlen,and_self,if_true,decide_true,Bool.not_true,AH];rw [show Pf (i:Int) e ((0:Nat):Int) s (Ao.mk ((0:Nat):Int) [] []) [] [] ((0:Nat):Int)=_ from ho,AB];cases HA s.args e.args [] []with
 |none=>simp [CP,aNc]
 |some p=>simp [CP,aNc]
 simp [hn,hlen,AE,aNc];simp [hn,AE,aNc]
theorem JY{α β:Type}(g:α->Option β): ∀(l:List α) (w:List β),l.foldl (fun w v=>w++(g v).toList) w=w++l.filterMap g:=by
 intro l;induction l with
 |nil=>intro w;simp
 |cons v l ih=>intro w;rw [List.foldl_cons,ih,List.filterMap_cons];cases g v<;>simp
theorem XH{n i x:Nat}(h:(List.range n)[i]? =some x):x=i/\i<n:=by
 have hi:i<n:=by simpa using Ec h
 rw [List.getElem?_range hi]at h;cases h;exact⟨rfl,hi⟩
theorem aIe: ∀x:List UInt8,Op.bytesLess x x=false
 |[]=>rfl
 |a::x=>by simp [Op.bytesLess,aIe x]
theorem Oh: ∀{x y z:List UInt8},Op.bytesLess x y=true->Op.bytesLess y z=true->Op.bytesLess x z=true
 |[],[],_,h,_=>by simp [Op.bytesLess]at h
 |_::_,[],_,h,_=>by simp [Op.bytesLess]at h
 |[],_::_,[],_,h=>by simp [Op.bytesLess]at h
 |[],_::_,_::_,_,_=>rfl
 |_::_,_::_,[],_,h=>by simp [Op.bytesLess]at h
 |a::x,b::y,c::z,h1,h2=>by
  simp only [Op.bytesLess,Bool.or_eq_true,ba,decide_eq_true_eq,beq_iff_eq]at h1 h2⊢;rcases h1 with h1|⟨rfl,h1⟩
  rcases h2 with h2|⟨rfl,h2⟩
  exact .inl (UInt8.lt_trans h1 h2);exact .inl h1;rcases h2 with h2|⟨rfl,h2⟩
  exact .inl h2;exact .inr ⟨rfl,Oh h1 h2⟩
theorem aIf: ∀{x y:List UInt8},x≠y->Op.bytesLess x y=true\/Op.bytesLess y x=true
 |[],[],h=>absurd rfl h
 |_::_,[],_=> .inr rfl
 |[],_::_,_=> .inl rfl
 |a::x,b::y,h=>by
  simp only [Op.bytesLess,Bool.or_eq_true,ba,decide_eq_true_eq,beq_iff_eq];by_cases hab:a=b;subst hab;rcases aIf (x:=x) (y:=y) (fun e=>h (by rw [e]))with g|g
  exact .inl (.inr ⟨rfl,g⟩);exact .inr (.inr ⟨rfl,g⟩);have:a<b\/b<a:=by rw [UInt8.lt_iff_toNat_lt,UInt8.lt_iff_toNat_lt];have:a.toNat≠b.toNat:=fun e=>hab (UInt8.toNat_inj.1 e);omega
  rcases this with g|g
  exact .inl (.inl g);exact .inr (.inl g)
theorem WN: ∀(x y:List UInt8),(match ((x.zip y).findSome? fun z=>if z.1=z.2 then none else some (Sum.inr (decide (z.1<z.2)):Unit⊕Bool)).getD (.inl ())with| .inl _=>decide (x.length<y.length)| .inr b=>b)=Op.bytesLess x y
 |[],[]=>rfl
 |_::_,[]=>rfl
 |[],_::_=>by simp [Op.bytesLess]
 |a::x,b::y=>by
  rw [List.zip_cons_cons,List.findSome?_cons];by_cases h:a=b;subst h;simp only [if_true,Op.bytesLess,beq_self_eq_true,Bool.true_and,<-WN x y];have:decide (a<a)=false:=by simp
  rw [this,Bool.false_or];simp only [List.length_cons,Nat.add_lt_add_iff_right];simp [h,Op.bytesLess]
theorem aSn(x y:List UInt8)(hx:x.length<=9223372036854775807)(hy:y.length<=9223372036854775807):Ym x y=some (Op.bytesLess x y):=by
 unfold Ym aE1;have hz:(x.zip y).length=min x.length y.length:=by simp
 rw [D9 (x.zip y) (fun _ z=>if z.1=z.2 then none else some (Sum.inr (decide (z.1<z.2)):Unit⊕Bool)) (.inl ())
  (fun i z h=>by obtain⟨h1,h2⟩:=aM5 h;simp only [Ge,ltD h1,ltD h2,AI,AP h1,AP h2,An h1 hx];by_cases e:z.1=z.2;simp [e,AE];have: ¬(z.1.toNat:Int)=(z.2.toNat:Int):=fun g=>e (UInt8.toNat_inj.1 (by omega));have:(decide ((z.1.toNat:Int)<(z.2.toNat:Int)))=decide (z.1<z.2):=decide_eq_decide.2 (by rw [UInt8.lt_iff_toNat_lt];omega);rw [this,if_neg e];simp [*,AE])
  (by
   rw [hz];rcases Nat.le_total x.length y.length with h|h
   rw [Nat.min_eq_left h];simp only [Ge,ltI,AH];rw [Nat.min_eq_right h];simp only [Ge,ltI,AH];cases decide ((y.length:Int)<(x.length:Int))<;>rfl),AB,DY,<-WN]
 cases((x.zip y).findSome? fun z=>if z.1=z.2 then none else some (Sum.inr (decide (z.1<z.2)):Unit⊕Bool)).getD (.inl ())<;>simp [CP]
def ltV(a b:X0):Bool:=if a.kind=b.kind then(if a.kind=1 then decide (a.int<b.int)else if a.kind=2 then Op.bytesLess a.str b.str else !a.bool&&b.bool)else decide (a.kind<b.kind)
theorem aOo(a b:X0):Zu a b=some (ltV a b):=by unfold Zu ltV;by_cases h:a.kind=b.kind<;>by_cases h1:a.kind=1<;>by_cases h2:a.kind=2<;>cases ha:a.bool<;>simp_all [AE]
theorem aTn(a b:X0)(ha:a.str.length<=9223372036854775807)(hb:b.str.length<=9223372036854775807):Zk a b=some (ltV a b):=by unfold Zk ltV;rw [aSn _ _ ha hb];by_cases h:a.kind=b.kind<;>by_cases h1:a.kind=1<;>by_cases h2:a.kind=2<;>cases ha:a.bool<;>simp_all [AE,AJ]
theorem JA(a:X0):ltV a a=false:=by unfold ltV;rw [if_pos rfl];split;simp;split;exact aIe _;cases a.bool<;>rfl
theorem Fy{a b c:X0}(h1:ltV a b=true)(h2:ltV b c=true):ltV a c=true:=by unfold ltV at*;by_cases e1:a.kind=b.kind;by_cases e2:b.kind=c.kind;rw [if_pos e1]at h1;rw [if_pos e2]at h2;rw [if_pos (e1.trans e2)];rw [e1]at h1⊢;split;rename_i h;rw [if_pos h]at h1 h2;simp at h1 h2⊢;omega;rename_i h;rw [if_neg h]at h1 h2;split;rename_i h;rw [if_pos h]at h1 h2;exact Oh h1 h2;rename_i h;rw [if_neg h]at h1 h2;simp at h1 h2⊢;exact⟨h1.1,h2.2⟩;rw [if_neg e2]at h2;rw [e1,if_neg e2];exact h2;rw [if_neg e1]at h1;by_cases e2:b.kind=c.kind;rw [<-e2,if_neg e1];exact h1;rw [if_neg e2]at h2;simp only [decide_eq_true_eq]at h1 h2;rw [if_neg (by omega)];simp;omega
theorem HP{v:X0}(h:vR v=true):(v.kind=1/\v.str=[]/\v.bool=false)\/(v.kind=2/\v.int=0/\v.bool=false/\v.str.length<=4096)\/(v.kind=3/\v.int=0/\v.str=[]):=by unfold vR at h;split at h;left;simp at h;exact⟨by assumption,h.1,h.2⟩;split at h;right;left;simp at h;exact⟨by assumption,h.1.1,h.1.2,h.2⟩;split at h;right;right;simp at h;exact⟨by assumption,h.1,h.2⟩;cases h
theorem NZ{a b:X0}(ha:vR a=true)(hb:vR b=true)(h:a≠b):ltV a b=true\/ltV b a=true:=by
 unfold ltV;by_cases e:a.kind=b.kind;rw [if_pos e,if_pos e.symm,<-e];obtain⟨k,n,s,t⟩:=a;obtain⟨k',n',s',t'⟩:=b;simp only at e;subst e;rcases HP ha with⟨rfl,h2,h3⟩|⟨rfl,h2,h3,h4⟩|⟨rfl,h2,h3⟩<;>rcases HP hb with⟨g1,g2,g3⟩|⟨g1,g2,g3,g4⟩|⟨g1,g2,g3⟩<;>simp only [Int.reduceEq]at g1 h2 h3 g2 g3<;>subst_vars
 simp at h⊢;omega;simp at h⊢;exact aIf h;simp at h⊢;cases t<;>cases t'<;>simp_all;rw [if_neg e,if_neg (Ne.symm e)];simp;omega
theorem aHi{w w':List X2}{x s:X2}(h:MG w x=some w')(hs:s∈w'):s=x\/s∈w:=by unfold MG at h;split at h;split at h;cases h;exact .inr hs;cases h;cases h;exact(EM w x s).1 hs
theorem Ox: ∀(al:List CE) (xs:List X0) (b f:List X2) (p:List X2×List X2),HA al xs b f=some p-> ∀s∈p.1,s∈b\/s.value∈xs
 |[],xs,b,f,p,h=>by simp only [HA]at h;cases h;exact fun s hs=> .inl hs
 |a::al,[],b,f,p,h=>by simp only [HA]at h;cases h;exact fun s hs=> .inl hs
 |a::al,x::xs,b,f,p,h=>by
  simp only [HA]at h;have go: ∀b f,HA al xs b f=some p-> ∀s∈p.1,s∈b\/s.value∈x::xs:=fun b f h s hs=>(Ox al xs b f p h s hs).imp id (List.mem_cons_of_mem _);split at h;split at h;exact go b f h;cases h;split at h;split at h;cases h;rename_i b' hp;intro s hs;rcases go b' f h s hs with g|g
  rcases aHi hp g with rfl|g
  exact .inr (by simp);exact .inl g;exact .inr g;split at h;split at h;cases h;rename_i f' hp;exact go b f' h;exact go b f h
theorem Lt{q:AD}{e:X8}{i:Nat}{h:Ao}(hi:I2 q i e=some h):h.symbol=i/\ ∀s∈h.bind,s.value∈e.args:=by unfold I2 at hi;split at hi;cases hi;split at hi;cases hi;split at hi;simp only [om]at hi;obtain⟨p,hp,rfl⟩:=hi;exact⟨rfl,fun s hs=>(Ox _ _ _ _ _ hp s hs).resolve_left (by simp)⟩;cases hi
theorem QE{α:Type}{p:α->Bool}{w:List α}{k:Nat}(h1: ∀(j:Nat) y,w[j]? =some y->j<k->p y=true)(h2: ∀(j:Nat) y,w[j]? =some y->k<=j->p y=false):w.take k=w.filter p/\w.drop k=w.filter fun y=> !p y:=by
 have a: ∀y∈w.take k,p y=true:=fun y hy=>by obtain⟨j,hj⟩:=List.mem_iff_getElem?.1 hy;rw [List.getElem?_take]at hj;split at hj;exact h1 j y hj (by assumption);cases hj
 have b: ∀y∈w.drop k,p y=false:=fun y hy=>by obtain⟨j,hj⟩:=List.mem_iff_getElem?.1 hy;rw [List.getElem?_drop]at hj;exact h2 (k+j) y hj (by omega)
 have e: ∀p:α->Bool,w.filter p=(w.take k).filter p++(w.drop k).filter p:=fun p=>by rw [<-List.filter_append,List.take_append_drop]
 constructor;rw [e,List.filter_eq_self.2 a,List.filter_eq_nil_iff.2 (fun y hy=>by simp [b y hy]),List.append_nil];rw [e,List.filter_eq_nil_iff.2 (fun y hy=>by simp [a y hy]),List.filter_eq_self.2 (fun y hy=>by simp [b y hy]),List.nil_append]
def SW(w:List X0):Prop:=w.Pairwise (fun a b=>ltV a b=true)/\ ∀v∈w,vR v=true
def Md(w:List X0)(x:X0):List X0:=if x∈w then w else w.filter (fun y=>ltV y x)++x::w.filter fun y=> !ltV y x
theorem aI1{v:X0}(h:vR v=true):v.str.length<=9223372036854775807:=by
 rcases HP h with⟨_,h2,_⟩|⟨_,_,_,h4⟩|⟨_,_,h3⟩
 rw [h2];decide;omega;rw [h3];decide
theorem aG6{a b:X0}(h1:ltV a b=true):ltV b a=false:=by
 cases h:ltV b a with
 |false=>rfl
 |true=>have:=Fy h1 h;rw [JA]at this;cases this
theorem aJb{w:List X0}(hw:SW w){i j:Nat}{y z:X0}(hi:w[i]? =some y)(hj:w[j]? =some z)(h:i<j):ltV y z=true:=by obtain⟨a1,rfl⟩:=List.getElem?_eq_some_iff.1 hi;obtain⟨a2,rfl⟩:=List.getElem?_eq_some_iff.1 hj;exact List.pairwise_iff_getElem.1 hw.1 i j a1 a2 h
theorem LI{w:List X0}{x:X0}(hw:SW w)(hx:vR x=true):SW (Md w x)/\(Md w x).length=w.length+(if x∈w then 0 else 1):=by
 unfold Md;split;exact⟨hw,by simp [*]⟩;rename_i hn;refine⟨⟨?_,fun b hb=> ?_⟩, ?_⟩;rw [List.pairwise_append,List.pairwise_cons];have hgt: ∀y∈w.filter (fun y=> !ltV y x),ltV x y=true:=fun y hy=>by
  obtain⟨h1,h2⟩:=List.mem_filter.1 hy;rcases NZ (hw.2 y h1) hx (fun e=>hn (e▸h1))with g|g
  rw [g]at h2;cases h2;exact g
 refine⟨hw.1.filter _,⟨hgt,hw.1.filter _⟩,fun y hy z hz=> ?_⟩;have hyx:=(List.mem_filter.1 hy).2;rcases mc.1 hz with rfl|hz
 exact hyx;exact Fy hyx (hgt z hz);rcases ma.1 hb with h|h
 exact hw.2 b (List.mem_filter.1 h).1;rcases mc.1 h with rfl|h
 exact hx;exact hw.2 b (List.mem_filter.1 h).1;have h1: ∀w:List X0,(w.filter fun y=>ltV y x).length+(w.filter fun y=> !ltV y x).length=w.length:=by
  intro w;induction w with
  |nil=>rfl
  |cons y w ih=>rw [List.filter_cons,List.filter_cons];cases ltV y x<;>simp<;>omega
 have h1:=h1 w;rw [List.length_append,List.length_cons];omega
def AtW(w:List X0)(x:X0)(k:Nat):Prop:=k<=w.length/\(∀(j:Nat) y,w[j]? =some y->j<k->ltV y x=true)/\(∀(j:Nat) y,w[j]? =some y->k<=j->ltV y x=false)
theorem aIb{w:List X0}{x:X0}{k:Nat}(h:AtW w x k)(hn:x∉w):w.take k++[x]++w.drop k=Md w x:=by obtain⟨c1,c2⟩:=QE h.2.1 h.2.2;unfold Md;rw [c1,c2,if_neg hn];simp
def aNa(y x:X0):Int:=if ltV y x=true then-1 else if ltV x y=true then 1 else 0
theorem YS{y x:X0}{s:List X0}(hy:vR y=true)(hx:vR x=true):Zz y x s=some (aNa y x):=by unfold Zz aNa;rw [aOo,aOo,AB,AB];cases ltV y x<;>cases ltV x y<;>rfl
theorem aL2{y x:X0}:decide (aNa y x<0)=ltV y x:=by unfold aNa;cases ltV y x<;>cases ltV x y<;>rfl
theorem aL0{w s:List X0}{x:X0}(hw:SW w)(hx:vR x=true)(hl:w.length<=1000):
 ∃k:Nat,AtW w x k/\Y3 w x s=some ((k:Int),decide (x∈w)):=by
 have hsub: ∀y∈w,Zz y x s=some (aNa y x):=fun y hy=>YS (hw.2 y hy) hx
 unfold Y3 aDo
 obtain⟨k,hk,hkr,p1,p2⟩:=aLz (step:=fun s':Int×Int=>Gd w s (w.length:Int) x s'.1 s'.2) w.length (fun a=>match w[a]? with|some y=>ltV y x|none=>false)
  (fun i j hij hj=>by
   obtain⟨y,hy,_⟩:=Aa (l:=w) (i:=(i+j)/2) (by omega);have hd:decide ((i:Int)<(j:Int))=true:=by simp;omega
   simp only [Gd,hd,AI,aDl,aU5 (show i+j<4611686018427387904 by omega),AP hy,hsub y (List.mem_of_getElem? hy),AB,UM,hy,aL2];cases ltV y x with
   |true=>simp only [AI,AB,if_true,MU (show(i+j)/2<9223372036854775807 by omega)]
   |false=>simp [AE,AJ])
  (fun i=>by simp [Gd,AE])
  (fun a b hab hb h=>by
   obtain⟨y,hy,_⟩:=Aa (l:=w) (i:=a) (by omega);obtain⟨z,hz,_⟩:=Aa (l:=w) (i:=b) hb;simp only [hy,hz]at h⊢;rcases Nat.lt_or_ge a b with g|g
   exact Fy (aJb hw hy hz g) h;have:a=b:=by omega
   subst this;rw [hy]at hz;cases hz;exact h)
 have q1: ∀(j:Nat) y,w[j]? =some y->j<k->ltV y x=true:=fun j s hs hj=>by have:=p1 j hj;simp only [hs]at this;exact this
 have q2: ∀(j:Nat) y,w[j]? =some y->k<=j->ltV y x=false:=fun j s hs hj=>by have:=p2 j hj (Ec hs);simp only [hs]at this;exact this
 refine⟨k,⟨hk,q1,q2⟩, ?_⟩
 rw [hkr,AB]
 have hmem: ∀j:Nat,w[j]? =some x->j=k:=fun j hj=>by
  rcases Nat.lt_trichotomy j k with g|g|g
  have:=q1 j x hj g;rw [JA]at this;cases this;exact g;obtain⟨y,hy,_⟩:=Aa (l:=w) (i:=k) (by have:=Ec hj;omega);have h1:=q2 k y hy (Nat.le_refl _);rw [aJb hw hy hj g]at h1;cases h1
 by_cases h:k<w.length
 obtain⟨y,hy,_⟩:=Aa h
 rw [Db,if_pos (by omega),AP hy,hsub y (List.mem_of_getElem? hy),AB]
 have hge:=q2 k y hy (Nat.le_refl _)
 congr 2
 rw [decide_eq_decide]
 unfold aNa
 rw [hge,if_neg (by simp)]
 constructor
 intro hc
 rcases(Classical.em (y=x))with e|e
 exact e▸List.mem_of_getElem? hy
 rcases NZ (hw.2 y (List.mem_of_getElem? hy)) hx e with g|g
 rw [hge]at g;cases g
 rw [if_pos g]at hc;cases hc
 intro hm
 obtain⟨j,hj⟩:=List.mem_iff_getElem?.1 hm
 have:=hmem j hj
 subst this
 rw [hy]at hj;cases hj
 rw [JA];rfl
 rw [Db,if_neg (by omega)]
 congr 2
 symm
 rw [decide_eq_false_iff_not]
 intro hm
 obtain⟨j,hj⟩:=List.mem_iff_getElem?.1 hm
 have:=hmem j hj
 have:=Ec hj
 omega
theorem LG{w:List X0}{x:X0}(hw:SW w)(hx:vR x=true)(hl:w.length<=900):Zl x w=some (!decide (x∈w),Md w x):=by
 unfold Zl aF3;obtain⟨k,hk,hb⟩:=aL0 (s:=w) hw hx (by omega);rw [hb,AB];by_cases hm:x∈w;simp [hm,AE,AJ,Md];have hin:Qu (k:Int) w [x]=some (Md w x):=by unfold Qu aP0;have:=hk.1;rw [if_pos ⟨by omega,by omega,by simp,Bw (by simp;omega) (by decide)⟩,Int.toNat_natCast,aIb hk hm]
 simp only [hm,decide_false,Bool.not_false,AI];rw [hin];rfl
theorem aHp{α:Type}(w:List α)(k:Nat):sub w 0 (k:Int)=w.take k:=by simp [sub]
theorem aHo{α:Type}(w:List α)(k:Nat):sub w (k:Int) (w.length:Int)=w.drop k:=by simp [sub]
theorem aEj{w:List X0}{x:X0}(hw:SW w)(hx:vR x=true)(hl:w.length<=900):Yd w x=some (Md w x):=by
 unfold Yd aKk;obtain⟨t,ht,k,hk,rfl,p1,p2⟩:=BG (step:=fun s=>IK w x s) (fun s=> ∃i:Nat,s=(i:Int)/\i<=w.length/\ ∀(j:Nat) s,w[j]? =some s->i<=j->ltV x s=true) (fun s=>s.toNat)
  (fun t=> ∃k:Nat,k<=w.length/\t=(k:Int)/\(∀(j:Nat) s,w[j]? =some s->k=j+1->ltV x s=false)/\ ∀(j:Nat) s,w[j]? =some s->k<=j->ltV x s=true)
  (by
   rintro s ⟨i,rfl,hi,hj⟩;cases i with
   |zero=>exact .inl ⟨0,by simp [IK,AE],0,by omega,rfl,fun j s _ h=>by omega,hj⟩
   |succ i=>
    obtain⟨y,hy,_⟩:=Aa (l:=w) (i:=i) (by omega)
    have hyR:=hw.2 y (List.mem_of_getElem? hy)
    have e:AA .sub .i64 ((i+1:Nat):Int) 1=(i:Int):=by rw [XV (by omega) (by omega)];omega
    have hd:decide ((0:Int)<((i+1:Nat):Int))=true:=by simp
    simp only [IK,hd,AI,e,AP hy,aTn _ _ (aI1 hx) (aI1 hyR),AB]
    cases h:ltV x y with
    |true=>
     refine .inr ⟨_,by simp only [AI],⟨i,rfl,by omega,fun j s hs hij=> ?_⟩,by omega⟩
     rcases Nat.eq_or_lt_of_le hij with g|g
     subst g;rw [hy]at hs;cases hs;exact h
     exact hj j s hs g
    |false=>
     refine .inl ⟨_,by simp only [AH],i+1,hi,rfl,fun j s hs hij=> ?_,hj⟩
     have:j=i:=by omega
     subst this;rw [hy]at hs;cases hs;exact h)
  (w.length:Int) ⟨w.length,rfl,Nat.le_refl _,fun j s hs hij=>by have:=Ec hs;omega⟩
 rw [ht,AB];have hrest:(∀y,w[k-1]? =some y->0<k->y≠x)->(AY ((0:Int)<=0/\(0:Int)<=(k:Int)/\(k:Int)<=(w.length:Int)) (
  AY (fit ([]:List X0).length (sub w 0 (k:Int)).length 40) (
   AY (fit (([]:List X0)++(sub w 0 (k:Int))).length [x].length 40) (
    AY ((0:Int)<=(k:Int)/\((k:Int):Int)<=(w.length:Int)/\(w.length:Int)<=(w.length:Int)) (
     AY (fit ((([]:List X0)++(sub w 0 (k:Int)))++[x]).length (sub w (k:Int) (w.length:Int)).length 40) (
      some (((([]:List X0)++(sub w 0 (k:Int)))++[x])++(sub w (k:Int) (w.length:Int)))))))):Option (List X0))=some (Md w x):=by
  intro hne
  have hlt: ∀(j:Nat) y,w[j]? =some y->j<k->ltV y x=true:=fun j y hy hj=>by
   obtain⟨z,hz,_⟩:=Aa (l:=w) (i:=k-1) (by omega);have h1:=p1 (k-1) z hz (by omega);have h2:=hne z hz (by omega);have h3:ltV z x=true:=by
    rcases NZ (hw.2 z (List.mem_of_getElem? hz)) hx h2 with g|g
    exact g;rw [h1]at g;cases g
   rcases Nat.lt_or_ge j (k-1)with g|g
   exact Fy (aJb hw hy hz g) h3;have:j=k-1:=by omega
   subst this;rw [hz]at hy;cases hy;exact h3
  have hAt:AtW w x k:=⟨hk,hlt,fun j y hy hj=>aG6 (p2 j y hy hj)⟩
  have hn:x∉w:=fun hm=>by
   obtain⟨j,hj⟩:=List.mem_iff_getElem?.1 hm;rcases Nat.lt_or_ge j k with g|g
   have:=hlt j x hj g;rw [JA]at this;cases this;have:=p2 j x hj g;rw [JA]at this;cases this
  rw [aHp,aHo,A8 (by omega),LZ (by simp;omega) (by decide),LZ (by simp;omega) (by decide),A8 (by omega),LZ (by simp;omega) (by decide),List.nil_append,aIb hAt hn]
 rw [Db];split;rename_i h0;obtain⟨y,hy,_⟩:=Aa (l:=w) (i:=k-1) (by omega);have e:AA .sub .i64 (k:Int) 1=((k-1:Nat):Int):=by rw [XV (by omega) (by omega)];omega
 rw [e,AP hy,X0.eqb_dec];by_cases hyx:y=x;subst hyx;have hm:=List.mem_of_getElem? hy;simp [AE,Md,hm];simp only [hyx,decide_false,AH];exact hrest fun z hz _=>by rw [hy]at hz;cases hz;exact hyx
 exact hrest fun z hz h=>by omega
theorem aSd{q:AD}{e:X8}(hF:De q)(hR:Ah q):Y8 q e=some ((List.range q.symbols.length).filterMap fun i=>I2 q i e):=by
 have hs:=hF.symbols;unfold Y8 aKg;have h:=DX (step:=fun s:Int×List Ao=>IH q e s.1 s.2) (List.range q.symbols.length) (fun w i=>w++(I2 q i e).toList) (fun w=>w) (fun i w=>w.length<=i)
  (fun i x w hx hI=>by
   obtain⟨rfl,hi⟩:=XH hx;have hlt:decide ((x:Int)<(q.symbols.length:Int))=true:=by simp;omega
   refine⟨?_,by cases I2 q x e<;>simp<;>omega⟩;simp only [IH,hlt,AI,aD1,aRo hF hR hi,AB,aD3,MU (show x<9223372036854775807 by omega)];rw [LZ (by simp;omega) (by decide)];cases I2 q x e<;>simp [aNc,AE,AJ])
  (fun w _=>by rw [List.length_range];simp only [IH,ltI,AH]) [] (by simp)
 rw [h,AB,JY];simp
def Dt(a b:List X2):Bool:=a.all fun s=>decide (D1 b s.var=(s.value,true))
theorem aS8(a b:List X2)(ha:a.length<=9223372036854775807)(hb:b.length<=9223372036854775807):Z3 a b=some (Dt a b):=by
 unfold Z3 aK0;rw [L5 a (fun s=>decide (D1 b s.var=(s.value,true))) (.inl ()) (.inr ())
  (fun i x hx=>by simp only [KW,ltD hx,AI,AP hx,An hx ha,aEv b _ hb,AB,X0.eqb_dec];obtain⟨y,o⟩:=D1 b x.var;cases o;simp [AE];by_cases h:y=x.value<;>simp [AE,h])
  (by simp only [KW,ltI,AH]),AB]
 unfold Dt;cases a.all _<;>rfl
theorem aSg{l:List Ao}{b:List X2}(hl:l.length<=1000)(hs: ∀h∈l,h.bind.length<=9223372036854775807)(hb:b.length<=9223372036854775807):Ya l b=some (l.filter fun h=>Dt h.bind b):=by
 unfold Ya aKi;rw [DX l (fun w x=>if(Dt x.bind b)=true then w++[x]else w) (fun w=>w) (fun i w=>w.length<=i)
  (fun i x w hx hI=>by have:=Ec hx;refine⟨?_, ?_⟩;rotate_left;split;simpa using hI;omega;simp only [KP,ltD hx,AI,aD9,AP hx,aS8 _ _ (hs x (List.mem_of_getElem? hx)) hb,AB,aEb,An hx (show l.length<=9223372036854775807 by omega)];rw [LZ (by simp;omega) (by decide)];cases Dt x.bind b<;>simp [AE,AJ])
  (fun w _=>by simp only [KP,ltI,AH]) [] (by simp),G4,AB]
 simp
def BR(b:List X2):Prop:=b.Pairwise (fun x y=>x.var<y.var)/\ ∀s∈b,0<=s.var/\s.var<=7/\vR s.value=true
theorem KD: ∀(b:List X2) (lo:Int),b.Pairwise (fun x y=>x.var<y.var)->(∀s∈b,lo<=s.var/\s.var<=7)->b.length<=(8-lo).toNat
 |[],_,_,_=>by simp
 |x::b,lo,hp,h=>by
  rw [List.pairwise_cons]at hp;have h1:=KD b (x.var+1) hp.2 fun s hs=>⟨by have:=hp.1 s hs;omega,(h s (List.mem_cons_of_mem _ hs)).2⟩;have h2:=h x (by simp);rw [List.length_cons];omega
theorem RI{b:List X2}(h:BR b):b.length<=8:=by have:=KD b 0 h.1 fun s hs=>⟨(h.2 s hs).1,(h.2 s hs).2.1⟩;omega
def okB(l:List X2)(i:Nat):Prop:= ∀j,j<i-> ∃x,l[j]? =some x/\0<=x.var/\x.var<=7/\vR x.value=true/\ ∀y,0<j->l[j-1]? =some y->y.var<x.var
theorem W9{l:List X2}(h:okB l l.length):BR l:=by
 have get: ∀j (hj:j<l.length),0<=l[j].var/\l[j].var<=7/\vR l[j].value=true/\ ∀(_:0<j) (h2:j-1<l.length),l[j-1].var<l[j].var:=by intro j hj;obtain⟨x,hx,h1,h2,h5,h3⟩:=h j hj;obtain⟨_,rfl⟩:=List.getElem?_eq_some_iff.1 hx;exact⟨h1,h2,h5,fun h0 h4=>h3 _ h0 (List.getElem?_eq_getElem h4)⟩
 refine⟨List.pairwise_iff_getElem.2 ?_,fun s hs=> ?_⟩;intro i j hi hj hij;induction j with
 |zero=>omega
 |succ j ih=>
  have h1:=(get (j+1) hj).2.2.2 (by omega) (by simp;omega)
  simp only [Nat.add_sub_cancel]at h1
  rcases Nat.lt_or_ge i j with h2|h2
  have:=ih (by omega) h2;omega
  have:i=j:=by omega
  subst this;exact h1
 obtain⟨j,hj,rfl⟩:=List.mem_iff_getElem.1 hs;exact⟨(get j hj).1,(get j hj).2.1,(get j hj).2.2.1⟩
theorem MJ(l:List X2)(hl:l.length<=9223372036854775807): ∃b,Z6 l=some b/\(b=true->BR l):=by
 unfold Z6 aK3;obtain⟨t,ht,hQ⟩:=BG (step:=fun s=>Ia l s) (fun s=> ∃i:Nat,s=(i:Int)/\i<=l.length/\okB l i) (fun s=>(l.length-s).toNat) (fun t=>t= .inl ()->okB l l.length)
  (by
   rintro s ⟨i,rfl,hi,hok⟩;by_cases he:i=l.length;subst he;exact .inl ⟨.inl (),by simp only [Ia,ltI,AH],fun _=>hok⟩;obtain⟨x,hx,_⟩:=Aa (l:=l) (i:=i) (by omega);simp only [Ia,ltD hx,AI,AP hx,aOh,AB,An hx hl,Db];have hgo:(∀y,0<i->l[i-1]? =some y->y.var<x.var)-> ¬x.var<0-> ¬7<x.var->vR x.value=true->okB l (i+1):=by
    intro h1 h2 h3 h5 j hj;rcases Nat.lt_or_ge j i with h4|h4
    exact hok j h4;have:j=i:=by omega
    subst this;exact⟨x,hx,by omega,by omega,h5,h1⟩
   by_cases h1:x.var<0;exact .inl ⟨.inr (),by simp [h1],by simp⟩;by_cases h2:7<x.var;exact .inl ⟨.inr (),by simp [h1,h2],by simp⟩;cases hb:vR x.value with
   |false=>exact .inl ⟨.inr (),by simp [h1,h2,AE],by simp⟩
   |true=>
    by_cases h3:0<i
    obtain⟨y,hy,_⟩:=Aa (l:=l) (i:=i-1) (by omega)
    have e:AA .sub .i64 (i:Int) 1=((i-1:Nat):Int):=by rw [XV (by omega) (by omega)];omega
    rw [e,AP hy]
    by_cases h4:x.var<=y.var
    exact .inl ⟨.inr (),by simp [h1,h2,h3,h4,AE],by simp⟩
    refine .inr ⟨((i+1:Nat):Int),by simp [h1,h2,h3,h4,AE],⟨i+1,rfl,by omega,hgo (fun z _ hz=> ?_) h1 h2 hb⟩,by omega⟩
    rw [hy]at hz;cases hz;omega
    refine .inr ⟨((i+1:Nat):Int),by simp [h1,h2,h3,AE],⟨i+1,rfl,by omega,hgo (fun z h0=>absurd h0 h3) h1 h2 hb⟩,by omega⟩)
  (0:Int) ⟨0,rfl,by omega,fun j hj=>by omega⟩
 rw [ht,AB];rcases t with _|_
 exact⟨true,rfl,fun _=>W9 (hQ rfl)⟩;exact⟨false,rfl,by simp⟩
theorem HM(n:Nat)(h:n<4294967296):(BitVec.ofInt 32 (n:Int)).toNat=n:=by simp [BitVec.toNat_ofInt];omega
theorem G0{n:Nat}(h:n<4294967296):IntKind.wrap .u32 (n:Int)=n:=by simp [IntKind.wrap,IntKind.signed,IntKind.bits];omega
theorem MD{n m:Nat}(hn:n<4294967296)(hm:m<4294967296):AA .or .u32 (n:Int) (m:Int)=((n|||m:Nat):Int):=by have h:n|||m<2^32:=Nat.or_lt_two_pow (by simpa using hn) (by simpa using hm);show IntKind.wrap .u32 (((BitVec.ofInt 32 (n:Int))|||(BitVec.ofInt 32 (m:Int))).toNat:Int)=_;rw [BitVec.toNat_or,HM n hn,HM m hm];exact G0 (by simpa using h)
theorem aIa{n m:Nat}(hn:n<4294967296)(hm:m<4294967296):AA .and .u32 (n:Int) (m:Int)=((n&&&m:Nat):Int):=by have h:n&&&m<2^32:=Nat.and_lt_two_pow _ (by simpa using hm);show IntKind.wrap .u32 (((BitVec.ofInt 32 (n:Int))&&&(BitVec.ofInt 32 (m:Int))).toNat:Int)=_;rw [BitVec.toNat_and,HM n hn,HM m hm];exact G0 (by simpa using h)
theorem Nr{s:Nat}(h:s<32):AA .shl .u32 1 (s:Int)=((2^s:Nat):Int):=by
 have e:(1:Int)*2^(min (Int.toNat (s:Int)) (IntKind.bits .u32))=((2^s:Nat):Int):=by rw [Int.toNat_natCast,show min s (IntKind.bits .u32)=s from Nat.min_eq_left (Nat.le_of_lt h)];simp
 show IntKind.wrap .u32 (1*2^(min (Int.toNat (s:Int)) (IntKind.bits .u32)))=_;rw [e];exact G0 (Nat.lt_of_lt_of_le (Nat.pow_lt_pow_right (by decide) h) (by decide))
theorem aHm{s:Nat}(h:s<64):AA .shl .u64 1 (s:Int)=((2^s:Nat):Int):=by
 have e:(1:Int)*2^(min (Int.toNat (s:Int)) (IntKind.bits .u64))=((2^s:Nat):Int):=by rw [Int.toNat_natCast,show min s (IntKind.bits .u64)=s from Nat.min_eq_left (Nat.le_of_lt h)];simp
 show IntKind.wrap .u64 (1*2^(min (Int.toNat (s:Int)) (IntKind.bits .u64)))=_;rw [e];exact At (Nat.lt_of_lt_of_le (Nat.pow_lt_pow_right (by decide) h) (by decide))
theorem Ns{k:IntKind}{n s:Nat}(h:s<k.bits):AA .shr k (n:Int) (s:Int)=((n/2^s:Nat):Int):=by show(n:Int).fdiv (2^(min (Int.toNat (s:Int)) k.bits))=_;rw [Int.toNat_natCast,Nat.min_eq_left (Nat.le_of_lt h),Int.fdiv_eq_ediv_of_nonneg _ (Int.le_of_lt (Int.pow_pos (by decide)))];simp
theorem aUn{k:IntKind}(n:Nat):AA .rem k (n:Int) 2=((n % 2:Nat):Int):=by show(n:Int).tmod 2=_;rw [Int.tmod_eq_emod_of_nonneg (by omega)];omega
theorem NG(n s:Nat):n/2^s % 2=if n.testBit s=true then 1 else 0:=by have:=Nat.testBit_eq_decide_div_mod_eq (x:=n) (i:=s);rw [this];by_cases h:n/2^s % 2=1;simp [h];simp only [h,decide_false,Bool.false_eq_true,if_false];have:=Nat.mod_two_eq_zero_or_one (n/2^s);omega
theorem NF(n s:Nat):(n&&&2^s=0)↔n.testBit s=false:=by constructor;intro h;have h2:=congrArg (fun x=>x.testBit s) h;simp only [Nat.testBit_and,Nat.testBit_two_pow_self,Bool.and_true,Nat.zero_testBit]at h2;exact h2;intro h;apply Nat.eq_of_testBit_eq;intro i;rw [Nat.testBit_and,Nat.testBit_two_pow,Nat.zero_testBit];by_cases hi:s=i;subst hi;simp [h];simp [hi]
theorem FH{α β γ τ:Type}{step:γ×Int->Option (γ×Int⊕τ)}(enc:β->γ)(l:List α)(f:β->α->β)(fin:β->τ)(I:Nat->β->Prop)
 (h1: ∀(i:Nat) x w,l[i]? =some x->I i w->step (enc w,(i:Int))=some (.inl (enc (f w x),((i+1:Nat):Int)))/\I (i+1) (f w x))
 (h2: ∀w,I l.length w->step (enc w,(l.length:Int))=some (.inr (fin w))) (w:β) (h0:I 0 w):AR step (enc w,0)=some (fin (l.foldl f w)):=by
 have h:=Et (step:=step) l (fun i w=>(enc w,(i:Int))) (fun _ w x=>(.inl (f w x):β⊕τ)) fin I (fun i x w hx hI=>⟨(h1 i x w hx hI).1,fun w' hw=>by cases hw;exact(h1 i x w hx hI).2⟩) h2 (l.length+1) 0 w (by omega) (by omega) h0
 rw [show(enc w,(0:Int))=(enc w,((0:Nat):Int))from rfl,h,List.drop_zero]
 congr 1
 clear h h1 h2 h0
 generalize 0=i
 revert i w
 induction l with
 |nil=>intro w i;rfl
 |cons x xs ih=>intro w i;rw [No];exact ih _ _
def toF(M s:Nat)(w:Nat)(t:Xc):Nat:=if t.from_=(s:Int)/\M.testBit t.symbol.toNat=true then w|||2^t.to.toNat else w
def toN(q:AD)(M s:Nat):Nat:=q.trans.foldl (toF M s) 0
def aIi(q:AD)(M s:Nat):Nat:=if toN q M s=0/\(q.states[s]?.map (·.next))=some false then 2^s else toN q M s
def Kw(q:AD)(S M:Nat)(w:Nat)(s:Nat):Nat:=if S.testBit s=true then w|||aIi q M s else w
def EH(q:AD)(S M:Nat):Nat:=(List.range q.states.length).foldl (Kw q S M) 0
theorem aPf{a b:Nat}(h1:a<4294967296)(h2:b<4294967296):a|||b<4294967296:=by have:=Nat.or_lt_two_pow (n:=32) (x:=a) (y:=b) (by simpa using h1) (by simpa using h2);simpa using this
theorem JF{s:Nat}(h:s<32):2^s<4294967296:=Nat.lt_of_lt_of_le (Nat.pow_lt_pow_right (by decide) h) (by decide)
theorem YC{q:AD}(h8:q.states.length<=12)(hR:Ah q){M s w:Nat}{t:Xc}(ht:t∈q.trans)(hw:w<4294967296):toF M s w t<4294967296:=by unfold toF;split;have:=(hR.ends t ht).2.2;exact aPf hw (JF (by omega));exact hw
theorem YD{q:AD}(h8:q.states.length<=12)(hR:Ah q)(M s:Nat):toN q M s<4294967296:=by
 unfold toN;suffices∀(l:List Xc) (w:Nat),(∀t∈l,t∈q.trans)->w<4294967296->l.foldl (toF M s) w<4294967296 from this _ _ (fun _ h=>h) (by decide)
 intro l;induction l with
 |nil=>intro w _ h;exact h
 |cons t l ih=>intro w hl hw;exact ih _ (fun t h=>hl t (List.mem_cons_of_mem _ h)) (YC h8 hR (hl t (by simp)) hw)
theorem aL9{q:AD}(h8:q.states.length<=12)(hR:Ah q)(M:Nat){s:Nat}(hs:s<q.states.length):aIi q M s<4294967296:=by unfold aIi;split;exact JF (by omega);exact YD h8 hR M s
theorem PA{q:AD}(h8:q.states.length<=12)(hR:Ah q)(S M:Nat){w s:Nat}(hs:s<q.states.length)(hw:w<4294967296):Kw q S M w s<4294967296:=by unfold Kw;split;exact aPf hw (aL9 h8 hR M hs);exact hw
theorem PG{n i x:Nat}(h:(List.range n)[i]? =some x):x=i/\i<n:=by
 have h1:i<n:=by simpa using (List.getElem?_eq_some_iff.1 h).1
 rw [List.getElem?_range h1,oe]at h;exact⟨h.symm,h1⟩
theorem NU{q:AD}(hF:De q)(hR:Ah q)(S M:Nat)(hM:M<18446744073709551616)(s7:Int)(s:Nat)(s14:List Xb)(s15:Int)(x:Xb):
 aAv (S:Int) (M:Int) s7 (s:Int) s14 s15 (s:Int) q.trans (q.trans.length:Int) q x 0 0=some ((toN q M s:Nat):Int):=by
 have h8:=hF.states
 have ht12:=hF.trans
 have hsy:=hF.symbols
 unfold aAv
 have:=FH (step:=fun z:Int×Int=>Hk (S:Int) (M:Int) s7 (s:Int) s14 s15 (s:Int) q.trans (q.trans.length:Int) q x z.1 z.2) (fun w:Nat=>(w:Int)) q.trans (toF M s) (fun w=>(w:Int)) (fun _ w=>w<4294967296)
  (fun i t w hx hw=>by
   have hm:=List.mem_of_getElem? hx;have he:=hR.ends t hm;refine⟨?_,YC h8 hR hm hw⟩;obtain⟨y,hy⟩: ∃y:Nat,t.symbol=(y:Int):=⟨t.symbol.toNat,by omega⟩;obtain⟨z,hz⟩: ∃z:Nat,t.to=(z:Int):=⟨t.to.toNat,by omega⟩;have hy12:y<12:=by omega
   have hz12:z<12:=by omega
   have hwy:IntKind.wrap .u64 (y:Int)=(y:Int):=At (by omega);have hwz:IntKind.wrap .u64 (z:Int)=(z:Int):=At (by omega);simp only [Hk,ltD hx,AI,aAs,AP hx,An hx (show q.trans.length<=9223372036854775807 by omega),SY,hy,hz,hwy,hwz,toF,Int.toNat_natCast];rw [aHm (by omega),aTt hM (Nat.lt_of_lt_of_le (Nat.pow_lt_pow_right (by decide) (show y<64 by omega)) (by decide)),Nr (by omega),MD hw (JF (by omega))];have hb:decide (((M&&&2^y:Nat):Int)=0)= !M.testBit y:=by
    have:=NF M y;cases hb:M.testBit y with
    |false=>have h0:=this.2 hb;rw [h0];rfl
    |true=>
     have h0: ¬M&&&2^y=0:=fun h=>by have:=this.1 h;rw [hb]at this;cases this
     simp;omega
   rw [hb];by_cases hf:t.from_=(s:Int);rw [Db,if_pos hf,A8 (by omega)];cases hb2:M.testBit y with
   |true=>simp only [Bool.not_true,Bool.not_false,AI,A8 (show(0:Int)<=(z:Int) by omega),AB,hf,true_and,if_true]
   |false=>simp only [Bool.not_false,Bool.not_true,AH,AB,hf,true_and,Bool.false_eq_true,if_false]
   rw [Db,if_neg hf];simp only [AH,AB,hf,false_and,if_false])
  (fun w _=>by simp only [Hk,ltI,AH]) 0 (by decide)
 exact this
theorem aRe{q:AD}(hF:De q)(hR:Ah q){S M:Nat}(hS:S<4294967296)(hM:M<18446744073709551616):Xf q (S:Int) (M:Int)=some ((EH q S M:Nat):Int):=by
 have h8:=hF.states;have hl:(List.range q.states.length).length=q.states.length:=List.length_range;have key:=FH (step:=fun z:Int×Int=>GQ (S:Int) (M:Int) q.states (q.states.length:Int) q z.1 z.2) (fun w:Nat=>(w:Int)) (List.range q.states.length) (Kw q S M) (fun w=>(w:Int)) (fun _ w=>w<4294967296)
  (fun i s w hx hw=>by
   obtain⟨rfl,hs⟩:=PG hx;refine⟨?_,PA h8 hR S M hs hw⟩;obtain⟨x,hxs,_⟩:=Aa hs;have hws:IntKind.wrap .u64 (s:Int)=(s:Int):=At (by omega);simp only [GQ,ltD hxs,AI,aAq,AP hxs,hws,An hxs (show q.states.length<=9223372036854775807 by omega),A8 (show(0:Int)<=(s:Int) by omega)];rw [Nr (by omega),aIa hS (JF (by omega)),NU hF hR S M hM];have hb:decide (((S&&&2^s:Nat):Int)=0)= !S.testBit s:=by
    have:=NF S s;cases hb:S.testBit s with
    |false=>have h0:=this.2 hb;rw [h0];rfl
    |true=>
     have h0: ¬S&&&2^s=0:=fun h=>by have:=this.1 h;rw [hb]at this;cases this
     simp;omega
   rw [hb];unfold Kw aIi;rw [hxs];cases hb2:S.testBit s with
   |false=>simp only [Bool.not_false,AI,AB,Bool.false_eq_true,if_false]
   |true=>
    have hto:=YD h8 hR M s
    simp only [Bool.not_true,AH,AB,if_true,Option.map_some,oe]
    by_cases h0:toN q M s=0
    rw [h0]
    cases hn:x.next with
    |false=>
     simp only [Int.ofNat_zero,Int.natCast_zero,decide_true,AI,Mx,Bool.not_false,hws,A8 (show(0:Int)<=(s:Int) by omega),AB,and_self,if_true]
     rw [Nr (by omega),MD hw (JF (by omega))]
    |true=>
     simp only [Int.natCast_zero,decide_true,AI,Mx,Bool.not_true,AH,AB,Bool.true_eq_false,and_false,if_false]
     rw [show(0:Int)=((0:Nat):Int)from rfl,MD hw (by decide)]
    have hd:decide (((toN q M s:Nat):Int)=0)=false:=by simp;omega
    simp only [hd,AH,Mx,AB,h0,false_and,if_false]
    rw [MD hw hto])
  (fun w _=>by rw [hl];simp only [GQ,ltI,AH]) 0 (by decide)
 unfold Xf aJt;have key':AR (fun z:Int×Int=>GQ (S:Int) (M:Int) q.states (q.states.length:Int) q z.1 z.2) (0,0)=some ((EH q S M:Nat):Int):=key;rw [key',AB]
theorem Nn{q:AD}(hF:De q)(hR:Ah q)(S M:Nat)(hM:M<18446744073709551616)(s7:Int)(s:Nat):
 aA2 (S:Int) (M:Int) s7 (s:Int) q 0 0=some ((toN q M s:Nat):Int):=by
 have h8:=hF.states
 have ht12:=hF.trans
 have hsy:=hF.symbols
 unfold aA2
 have:=FH (step:=fun z:Int×Int=>Hl (S:Int) (M:Int) s7 (s:Int) q z.1 z.2) (fun w:Nat=>(w:Int)) q.trans (toF M s) (fun w=>(w:Int)) (fun _ w=>w<4294967296)
  (fun i t w hx hw=>by
   have hm:=List.mem_of_getElem? hx;have he:=hR.ends t hm;refine⟨?_,YC h8 hR hm hw⟩;obtain⟨y,hy⟩: ∃y:Nat,t.symbol=(y:Int):=⟨t.symbol.toNat,by omega⟩;obtain⟨z,hz⟩: ∃z:Nat,t.to=(z:Int):=⟨t.to.toNat,by omega⟩;have hy12:y<12:=by omega
   have hz12:z<12:=by omega
   have hwy:IntKind.wrap .u64 (y:Int)=(y:Int):=At (by omega);have hwz:IntKind.wrap .u64 (z:Int)=(z:Int):=At (by omega);simp only [Hl,ltD hx,AI,aAz,AP hx,An hx (show q.trans.length<=9223372036854775807 by omega),Sd,hy,hz,hwy,hwz,toF,Int.toNat_natCast];rw [Ns (k:= .u64) (s:=y) (show y<64 by omega),aUn,NG,Nr (by omega),MD hw (JF (by omega))];by_cases hf:t.from_=(s:Int);rw [Db,if_pos hf,A8 (by omega)];cases hb2:M.testBit y with
   |true=>simp only [if_true,Int.natCast_one,decide_true,AI,A8 (show(0:Int)<=(z:Int) by omega),AB,hf,true_and]
   |false=>simp only [Bool.false_eq_true,if_false,Int.natCast_zero,show decide ((0:Int)=1)=false from rfl,AH,AB,and_false]
   rw [Db,if_neg hf];simp only [AH,AB,hf,false_and,if_false])
  (fun w _=>by simp only [Hl,ltI,AH]) 0 (by decide)
 exact this
theorem aRg{q:AD}(hF:De q)(hR:Ah q){S M:Nat}(hS:S<4294967296)(hM:M<18446744073709551616):Xg q (S:Int) (M:Int)=some ((EH q S M:Nat):Int):=by
 have h8:=hF.states;have hl:(List.range q.states.length).length=q.states.length:=List.length_range;have key:=FH (step:=fun z:Int×Int=>GR (S:Int) (M:Int) q z.1 z.2) (fun w:Nat=>(w:Int)) (List.range q.states.length) (Kw q S M) (fun w=>(w:Int)) (fun _ w=>w<4294967296)
  (fun i s w hx hw=>by
   obtain⟨rfl,hs⟩:=PG hx;refine⟨?_,PA h8 hR S M hs hw⟩;obtain⟨x,hxs,_⟩:=Aa hs;have hws:IntKind.wrap .u64 (s:Int)=(s:Int):=At (by omega);simp only [GR,ltD hxs,AI,aAx,AP hxs,hws,An hxs (show q.states.length<=9223372036854775807 by omega),A8 (show(0:Int)<=(s:Int) by omega)];rw [Ns (k:= .u32) (s:=s) (show s<32 by omega),aUn,NG,Nn hF hR S M hM];unfold Kw aIi;rw [hxs];cases hb2:S.testBit s with
   |false=>simp only [Bool.false_eq_true,if_false,Int.natCast_zero,decide_true,AI,AB]
   |true=>
    have hto:=YD h8 hR M s
    simp only [if_true,Int.natCast_one,show decide ((1:Int)=0)=false from rfl,AH,AB,Option.map_some,oe]
    by_cases h0:toN q M s=0
    rw [h0]
    cases hn:x.next with
    |false=>
     simp only [Int.natCast_zero,decide_true,AI,My,Bool.not_false,hws,A8 (show(0:Int)<=(s:Int) by omega),AB,and_self,if_true]
     rw [Nr (by omega),MD hw (JF (by omega))]
    |true=>
     simp only [Int.natCast_zero,decide_true,AI,My,Bool.not_true,AH,AB,Bool.true_eq_false,and_false,if_false]
     rw [show(0:Int)=((0:Nat):Int)from rfl,MD hw (by decide)]
    have hd:decide (((toN q M s:Nat):Int)=0)=false:=by simp;omega
    simp only [hd,AH,My,AB,h0,false_and,if_false]
    rw [MD hw hto])
  (fun w _=>by rw [hl];simp only [GR,ltI,AH]) 0 (by decide)
 unfold Xg aJu;have key':AR (fun z:Int×Int=>GR (S:Int) (M:Int) q z.1 z.2) (0,0)=some ((EH q S M:Nat):Int):=key;rw [key',AB]
structure DI(q:AD):Prop where
 frees:q.frees=[]
 quants:q.quants.length<=1
 states:q.states.length<=8
 symbols:q.symbols.length<=8
 guards: ∀t∈q.trans,t.guard= -1
theorem aSw{q:AD}(hF:De q): ∃r,Yu q=some r/\(r=true->DI q):=by
 have ht:=hF.trans;obtain⟨o,ho,hQ⟩:=Ak (step:=fun s=>IS q s) q.trans.length (fun i=> ∀t,q.trans[i]? =some t->t.guard= -1) (fun o=>o=Sum.inl ()-> ∀t∈q.trans,t.guard= -1)
  (fun i hi=>by obtain⟨x,hx,_⟩:=Aa hi;simp only [IS,ltD hx,AI,AP hx,An hx (show q.trans.length<=9223372036854775807 by omega)];by_cases h:x.guard= -1;exact .inl ⟨by rw [decide_eq_true h];rfl,fun t h2=>by rw [hx,oe]at h2;exact h2▸h⟩;exact .inr ⟨.inr (),by rw [decide_eq_false h];rfl,fun h=>by cases h⟩)
  (fun hall=>⟨.inl (),by simp only [IS,ltI,AH],fun _=>FY hall⟩)
 have ho':aKu q 0=some o:=ho;unfold Yu;refine BT (fun _=>⟨_,rfl,by simp⟩) (fun h1=> ?_);refine BT (fun _=>⟨_,rfl,by simp⟩) (fun h2=> ?_);refine BT (fun _=>⟨_,rfl,by simp⟩) (fun h3=> ?_);refine BT (fun _=>⟨_,rfl,by simp⟩) (fun h4=> ?_);refine BW ho' ?_;rcases o with⟨⟩|⟨⟩
 rw [CT];exact⟨_,rfl,fun _=>⟨List.eq_nil_of_length_eq_zero (by omega),by omega,by omega,by omega,hQ rfl⟩⟩;rw [EC];exact⟨_,rfl,by simp⟩
theorem aQe(q:AD)(b:List X2)(hb:b.length<=9223372036854775807): ∃r,Q9 q b=some r/\(r=true->BR b):=by unfold Q9;refine BT (fun h=>⟨_,rfl,fun _=> ?_⟩) (fun _=> ?_);have:b=[]:=List.eq_nil_of_length_eq_zero (by omega);subst this;exact⟨List.Pairwise.nil,by simp⟩;refine BT (fun h1=> ?_) (fun _=>⟨_,rfl,by simp⟩);refine BT (fun h2=> ?_) (fun _=>⟨_,rfl,by simp⟩);obtain⟨x,hx,_⟩:=Aa (l:=b) (i:=0) (by omega);obtain⟨y,hy,_⟩:=Aa (l:=q.quants) (i:=0) (by omega);rw [show(0:Int)=((0:Nat):Int)from rfl,AP hx];refine BT (fun h3=> ?_) (fun _=>⟨_,rfl,by simp⟩);rw [AP hx,AP hy];refine BT (fun h4=> ?_) (fun _=>⟨_,rfl,by simp⟩);obtain⟨r,hr,hR⟩:=MJ b hb;exact BW hr ⟨_,rfl,hR⟩
theorem aUp{i:Nat}(h:0<i)(hi:i<=1000000):AA .sub .i64 (i:Int) 1=((i-1:Nat):Int):=by have:IntKind.wrap .i64 ((i:Int)-1)=(i:Int)-1:=IntWalk.i64_in _ ⟨by omega,by omega⟩;show IntKind.wrap .i64 ((i:Int)-1)=_;rw [this];omega
theorem J1: ∀(al:List CE) (xs:List X0) (b:List X2) (p:List X2×List X2),(∀a∈al,a.kind≠3)->HA al xs b []=some p->p.2=[]
 |[],xs,b,p,_,h=>by
  cases xs<;>(simp only [HA,oe]at h;subst h;rfl)
 |a::al,[],b,p,_,h=>by simp only [HA,oe]at h;subst h;rfl
 |a::al,x::xs,b,p,hk,h=>by
  have ih:=fun b' h'=>J1 al xs b' p (fun a ha=>hk a (List.mem_cons_of_mem _ ha)) h';rw [HA]at h;split at h;split at h;exact ih _ h;cases h;split at h;split at h;cases h;exact ih _ h;split at h;exact absurd (by assumption) (hk a (by simp));exact ih _ h
theorem Wd{q:AD}(hR:Ah q)(hS:DI q){e:X8}{i:Nat}{h:Ao}(hh:I2 q i e=some h):h.frees=[]:=by unfold I2 at hh;split at hh;cases hh;rename_i s hs;split at hh;cases hh;split at hh;rw [om]at hh;obtain⟨p,hp,rfl⟩:=hh;refine J1 _ _ _ _ (fun a ha h3=> ?_) hp;have:=((hR.symbols s (List.mem_of_getElem? hs)).args a ha).three h3;rw [hS.frees]at this;simp at this;omega;cases hh
structure aP7(l:List Ao):Prop where
 frees: ∀h∈l,h.frees=[]
 rise:l.Pairwise fun a b=>a.symbol<b.symbol
 len:l.length<=1000
def ga(w:List Int)(i:Nat):Int:=w.getD i 0
def swp(w:List Int)(i j:Nat):List Int:=(w.set i (ga w j)).set j (ga w i)
theorem Bv(w:List Int)(i j:Nat):(swp w i j).length=w.length:=by unfold swp;rw [List.length_set,List.length_set]
theorem Ej{w:List Int}{i j:Nat}(hi:i<w.length)(hj:j<w.length)(k:Nat):ga (swp w i j) k=if k=j then ga w i else if k=i then ga w j else ga w k:=by unfold swp ga;simp only [List.getD_eq_getElem?_getD,List.getElem?_set,List.length_set];by_cases h1:k=j;subst h1;simp [hj];rw [if_neg (fun e=>h1 e.symm),if_neg h1];by_cases h2:k=i;subst h2;simp [hi];rw [if_neg (fun e=>h2 e.symm),if_neg h2]
theorem Iy{w:List Int}{i:Nat}(h:i<w.length):w[i]=ga w i:=by unfold ga;simp [h]
theorem aHq{w:List Int}{i j:Nat}(hi:i<w.length)(hj:j<w.length):(swp w i j).Perm w:=by have:=List.set_set_perm hi hj;rw [Iy hi,Iy hj]at this;exact this
structure Pm(a b:Nat)(w w':List Int):Prop where
 perm:w'.Perm w
 out: ∀i,i<a\/b<=i->ga w' i=ga w i
 src: ∀j,a<=j->j<b-> ∃i,a<=i/\i<b/\ga w' j=ga w i
theorem Pm.len{a b:Nat}{w w':List Int}(h:Pm a b w w'):w'.length=w.length:=h.perm.length_eq
theorem Pm.refl(a b:Nat)(w:List Int):Pm a b w w:=⟨List.Perm.refl _,fun _ _=>rfl,fun j h1 h2=>⟨j,h1,h2,rfl⟩⟩
theorem Pm.trans{a b:Nat}{w w1 w2:List Int}(h:Pm a b w w1)(k:Pm a b w1 w2):Pm a b w w2:=
 ⟨k.perm.trans h.perm,fun i hi=>(k.out i hi).trans (h.out i hi),fun j h1 h2=>by obtain⟨i,a1,a2,a3⟩:=k.src j h1 h2;obtain⟨i2,b1,b2,b3⟩:=h.src i a1 a2;exact⟨i2,b1,b2,a3.trans b3⟩⟩
theorem Pm.mono{a b a' b':Nat}{w w1:List Int}(h:Pm a b w w1)(h1:a'<=a)(h2:b<=b'):Pm a' b' w w1:=
 ⟨h.perm,fun i hi=>h.out i (by omega),fun j j1 j2=>by by_cases hj:a<=j/\j<b;obtain⟨i,a1,a2,a3⟩:=h.src j hj.1 hj.2;exact⟨i,by omega,by omega,a3⟩;exact⟨j,j1,j2,h.out j (by omega)⟩⟩
theorem Pm.swp{a b:Nat}{w:List Int}{i j:Nat}(hi:a<=i/\i<b)(hj:a<=j/\j<b)(hb:b<=w.length):Pm a b w (swp w i j):=by
 have h1:i<w.length:=by omega
 have h2:j<w.length:=by omega
 refine⟨aHq h1 h2,fun k hk=> ?_,fun k k1 k2=> ?_⟩;rw [Ej h1 h2,if_neg (by omega),if_neg (by omega)];rw [Ej h1 h2];split;exact⟨i,hi.1,hi.2,rfl⟩;split;exact⟨j,hj.1,hj.2,rfl⟩;exact⟨k,k1,k2,rfl⟩
section
variable {β:Type}
theorem Ek{w:List Int}{n:Nat}(h:n<w.length)(k:Int->Option β):AX w (n:Int) k=k (ga w n):=by refine AP ?_ k;rw [List.getElem?_eq_getElem h,Iy h]
theorem E8{w:List Int}{n:Nat}(h:n<w.length)(k:Option β):AY (0<=(n:Int)/\(n:Int)+1<=(w.length:Int)) k=k:=A8 ⟨by omega,by omega⟩ k
theorem ltT{i j:Nat}(h:i<j)(x y:Option β):AE (decide ((i:Int)<(j:Int))) x y=x:=by rw [decide_eq_true (by omega)];rfl
theorem ltF{i j:Nat}(h: ¬i<j)(x y:Option β):AE (decide ((i:Int)<(j:Int))) x y=y:=by rw [decide_eq_false (by omega)];rfl
theorem leT{i j:Nat}(h:i<=j)(x y:Option β):AE (decide ((i:Int)<=(j:Int))) x y=x:=by rw [decide_eq_true (by omega)];rfl
theorem leF{i j:Nat}(h: ¬i<=j)(x y:Option β):AE (decide ((i:Int)<=(j:Int))) x y=y:=by rw [decide_eq_false (by omega)];rfl
end
theorem F9{n:Nat}(h:n<=4611686018427387904):AA .add .i64 (n:Int) 1=((n+1:Nat):Int):=MU (by omega)
theorem Dj{n:Nat}(h:1<=n/\n<=4611686018427387904):AA .sub .i64 (n:Int) 1=((n-1:Nat):Int):=by rw [XV (by omega) (by omega)];omega
theorem Od{n m:Nat}(h:n+m<=4611686018427387904):AA .add .i64 (n:Int) (m:Int)=((n+m:Nat):Int):=by rw [LP (by omega) (by omega)];omega
theorem XW{n m:Nat}(h:m<=n/\n<=4611686018427387904):AA .sub .i64 (n:Int) (m:Int)=((n-m:Nat):Int):=by rw [XV (by omega) (by omega)];omega
theorem Bu(a b:Int):Y6 a b=some (decide (a<b)):=by unfold Y6 Q4;simp [AJ,AE]
theorem aT0(a i:Nat)(s2 s6:Int): ∀(j:Nat) (w:List Int),w.length<=1000000->i<w.length->a<=j->j<=i->(∀p q,a<=p->p<q->q<=i->q≠j->ga w p<=ga w q)->
 ∃w',Pl (a:Int) s2 s6 (j:Int) w=some w'/\Pm a (i+1) w w'/\ ∀p q,a<=p->p<q->q<=i->ga w' p<=ga w' q:=by
 intro j
 induction j with
 |zero=>
  intro w hl hi ha hj hs
  refine⟨w, ?_,Pm.refl _ _ _,fun p q h1 h2 h3=>hs p q h1 h2 h3 (by omega)⟩
  rw [OP]
  unfold El
  rw [ltF (by omega),Ad]
 |succ j ih=>
  intro w hl hi ha hj hs
  rw [OP]
  by_cases h0:a<j+1
  by_cases h1:ga w (j+1)<ga w j
  have hp:=Pm.swp (a:=a) (b:=i+1) (w:=w) (i:=j+1) (j:=j) ⟨by omega,by omega⟩ ⟨by omega,by omega⟩ (by omega)
  have hg:=Ej (w:=w) (i:=j+1) (j:=j) (by omega) (by omega)
  obtain⟨w',e1,e2,e3⟩:=ih (swp w (j+1) j) (by rw [Bv];omega) (by rw [Bv];omega) (by omega) (by omega) (fun p q p1 p2 p3 p4=>by have b1:=hs p q p1 p2 p3;have b2:=hs p (j+1) p1;have b3:=hs p j p1;have b4:=hs (j+1) q (by omega);have b5:=hs j q (by omega);rw [hg,hg];by_cases c1:p=j;rw [if_pos c1];by_cases c2:q=j+1;rw [if_neg (by omega),if_pos c2];omega;rw [if_neg (by omega),if_neg c2];exact b4 (by omega) p3 c2;rw [if_neg c1];by_cases c2:p=j+1;rw [if_pos c2,if_neg (by omega),if_neg (by omega)];exact b5 (by omega) p3 (by omega);rw [if_neg c2];by_cases c3:q=j+1;rw [if_neg (by omega),if_pos c3];exact b3 (by omega) (by omega) (by omega);rw [if_neg (by omega),if_neg c3];exact b1 c3)
  refine⟨w', ?_,hp.trans e2,e3⟩
  rw [<-e1]
  unfold El
  rw [ltT h0]
  simp (disch:=omega) only [Dj,Nat.add_sub_cancel,E8,Ek,Bu,AB,h1,decide_true,AI,List.length_set,Int.toNat_natCast,BE]
  rfl
  refine⟨w, ?_,Pm.refl _ _ _,fun p q p1 p2 p3=> ?_⟩
  unfold El
  rw [ltT h0]
  simp (disch:=omega) only [Dj,Nat.add_sub_cancel,E8,Ek,Bu,AB,h1,decide_false,AH,Ad]
  by_cases hq:q=j+1
  subst hq
  by_cases hpj:p=j
  subst hpj;omega
  have:=hs p j p1 (by omega) (by omega) (by omega)
  omega
  exact hs p q p1 p2 p3 hq
  refine⟨w, ?_,Pm.refl _ _ _,fun p q p1 p2 p3=>hs p q p1 p2 p3 (by omega)⟩
  unfold El
  rw [ltF h0,Ad]
def So(a b:Nat)(w:List Int):Prop:= ∀p q,a<=p->p<q->q<b->ga w p<=ga w q
theorem aTz(a b:Nat): ∀(m i:Nat) (w:List Int),b<=i+m->w.length<=1000000->b<=w.length->a<i->So a i w->
 ∃w',Pk (a:Int) (b:Int) (i:Int) w=some w'/\Pm a b w w'/\So a b w':=by
 intro m
 induction m with
 |zero=>
  intro i w hm hl hb ha hs
  refine⟨w, ?_,Pm.refl _ _ _,fun p q h1 h2 h3=>hs p q h1 h2 (by omega)⟩
  rw [OO]
  unfold Ga
  rw [ltF (by omega),Ad]
 |succ m ih=>
  intro i w hm hl hb ha hs
  rw [OO]
  unfold Ga
  by_cases h0:i<b
  obtain⟨w1,e1,e2,e3⟩:=aT0 a i (b:Int) (i:Int) i w hl (by omega) (by omega) (by omega) (fun p q h1 h2 h3 h4=>hs p q h1 h2 (by omega))
  obtain⟨w2,f1,f2,f3⟩:=ih (i+1) w1 (by omega) (by rw [e2.len];exact hl) (by rw [e2.len];exact hb) (by omega) (fun p q h1 h2 h3=>e3 p q h1 h2 (by omega))
  refine⟨w2, ?_,(e2.mono (by omega) (by omega)).trans f2,f3⟩
  rw [ltT h0,e1,AB,F9 (by omega),BE]
  exact f1
  refine⟨w,by rw [ltF h0,Ad],Pm.refl _ _ _,fun p q h1 h2 h3=>hs p q h1 h2 (by omega)⟩
theorem aT1(a b:Nat)(w:List Int)(hl:w.length<=1000000)(hb:b<=w.length)(hab:a<=b): ∃w',Xu (a:Int) (b:Int) w=some w'/\Pm a b w w'/\So a b w':=by obtain⟨w',e1,e2,e3⟩:=aTz a b b (a+1) w (by omega) hl hb (by omega) (fun p q h1 h2 h3=>by omega);refine⟨w', ?_,e2,e3⟩;unfold Xu;rw [F9 (by omega),e1,AB]
theorem L9{n:Nat}(h:2*n<=4611686018427387904):AA .mul .i64 2 (n:Int)=((2*n:Nat):Int):=by rw [aPe (by omega) (by omega)];omega
theorem aPm{n k:Nat}(h:n<=4611686018427387904):AA .quo .i64 (n:Int) (k:Int)=((n/k:Nat):Int):=by show IntKind.wrap .i64 ((n:Int).tdiv (k:Int))=_;rw [<-Int.ofNat_tdiv];have:n/k<=n:=Nat.div_le_self _ _;generalize n/k=d at*;exact aM2 (by omega) (by omega)
def Ch(k c:Nat):Prop:=c=2*k+1\/c=2*k+2
def HpX(f lo hi r:Nat)(w:List Int):Prop:= ∀k c,lo<=k->Ch k c->c<hi->k≠r->ga w (f+c)<=ga w (f+k)
def Hp(f lo hi:Nat)(w:List Int):Prop:= ∀k c,lo<=k->Ch k c->c<hi->ga w (f+c)<=ga w (f+k)
theorem aMt(f lo hi:Nat): ∀(m r:Nat) (w:List Int),hi<=r+m->lo<=r->r<=1000000->w.length<=1000000->f+hi<=w.length->HpX f lo hi r w->
 (∀k c,lo<=k->Ch k r->Ch r c->c<hi->ga w (f+c)<=ga w (f+k))->
 ∃w' o,Pe (hi:Int) (f:Int) (r:Int) w=some o/\(o= .inl w'\/o= .inr w')/\Pm (f+lo) (f+hi) w w'/\Hp f lo hi w':=by
 intro m
 induction m with
 |zero=>
  intro r w hm hr hr1 hl hf hH hG
  refine⟨w,_, ?_,.inl rfl,Pm.refl _ _ _,fun k c h1 h2 h3=>hH k c h1 h2 h3 (by unfold Ch at h2;omega)⟩
  rw [OH]
  unfold EP JT
  simp (disch:=omega) only [L9,F9,leT,AB,EC,CT,Ad]
 |succ m ih=>
  intro r w hm hr hr1 hl hf hH hG
  rw [OH]
  by_cases h0:hi<=2*r+1
  refine⟨w,_, ?_,.inl rfl,Pm.refl _ _ _,fun k c h1 h2 h3=>hH k c h1 h2 h3 (by unfold Ch at h2;omega)⟩
  unfold EP JT
  simp (disch:=omega) only [L9,F9,leT,AB,EC,CT,Ad]
  have key: ∃c2,Ch r c2/\c2<hi/\(∀c,Ch r c->c<hi->ga w (f+c)<=ga w (f+c2))/\
   EP (hi:Int) (f:Int) (r:Int) w=(if ga w (f+r)<ga w (f+c2)then some (.inl ((c2:Int),swp w (f+r) (f+c2)))else some (.inr (.inr w))):=by
   by_cases h1:2*r+2<hi
   by_cases h2:ga w (f+(2*r+1))<ga w (f+(2*r+2))
   refine⟨2*r+2,.inr rfl,h1,fun c hc hch=>by rcases hc with rfl|rfl<;>omega, ?_⟩
   unfold EP JT KO
   have h2':ga w (f+(2*r+1))<ga w (f+(2*r+1)+1):=h2
   by_cases h3:ga w (f+r)<ga w (f+(2*r+2))
   have h3':ga w (f+r)<ga w (f+(2*r+1+1)):=h3
   rw [if_pos h3]
   simp (disch:=omega) only [L9,F9,Od,leF,ltT,E8,Ek,Bu,AB,h2',h3',decide_true,Bool.not_true,AI,AH,List.length_set,Int.toNat_natCast,CT]
   rfl
   have h3': ¬ga w (f+r)<ga w (f+(2*r+1+1)):=h3
   rw [if_neg h3]
   simp (disch:=omega) only [L9,F9,Od,leF,ltT,E8,Ek,Bu,AB,h2',h3',decide_true,decide_false,Bool.not_false,AI,AH,List.length_set,Int.toNat_natCast,CT,EC]
   refine⟨2*r+1,.inl rfl,by omega,fun c hc hch=>by rcases hc with rfl|rfl<;>omega, ?_⟩
   unfold EP JT KO
   have h2': ¬ga w (f+(2*r+1))<ga w (f+(2*r+1)+1):=h2
   by_cases h3:ga w (f+r)<ga w (f+(2*r+1))
   rw [if_pos h3]
   simp (disch:=omega) only [L9,F9,Od,leF,ltT,E8,Ek,Bu,AB,h2',h3,decide_true,decide_false,Bool.not_true,AI,AH,List.length_set,Int.toNat_natCast,CT]
   rfl
   rw [if_neg h3]
   simp (disch:=omega) only [L9,F9,Od,leF,ltT,E8,Ek,Bu,AB,h2',h3,decide_true,decide_false,Bool.not_false,AI,AH,List.length_set,Int.toNat_natCast,CT,EC]
   refine⟨2*r+1,.inl rfl,by omega,fun c hc hch=>by rcases hc with rfl|rfl<;>omega, ?_⟩
   unfold EP JT KO
   by_cases h3:ga w (f+r)<ga w (f+(2*r+1))
   rw [if_pos h3]
   simp (disch:=omega) only [L9,F9,Od,leF,ltF,E8,Ek,Bu,AB,h3,decide_true,decide_false,Bool.not_true,AI,AH,List.length_set,Int.toNat_natCast,CT]
   rfl
   rw [if_neg h3]
   simp (disch:=omega) only [L9,F9,Od,leF,ltF,E8,Ek,Bu,AB,h3,decide_true,decide_false,Bool.not_false,AI,AH,List.length_set,Int.toNat_natCast,CT,EC]
  obtain⟨c2,hc2,hc2h,hmax,hstep⟩:=key
  rw [hstep]
  have hrc:r<c2:=by unfold Ch at hc2;omega
  by_cases h3:ga w (f+r)<ga w (f+c2)
  rw [if_pos h3,BE]
  have hg:=Ej (w:=w) (i:=f+r) (j:=f+c2) (by omega) (by omega)
  have er:ga (swp w (f+r) (f+c2)) (f+r)=ga w (f+c2):=by rw [hg,if_neg (by omega),if_pos rfl]
  have ec:ga (swp w (f+r) (f+c2)) (f+c2)=ga w (f+r):=by rw [hg,if_pos rfl]
  have en: ∀x,x≠r->x≠c2->ga (swp w (f+r) (f+c2)) (f+x)=ga w (f+x):=fun x h1 h2=>by rw [hg,if_neg (by omega),if_neg (by omega)]
  obtain⟨w',o,e1,e2,e3,e4⟩:=ih c2 (swp w (f+r) (f+c2)) (by omega) (by omega) (by omega) (by rw [Bv];exact hl) (by rw [Bv];exact hf)
   (fun k c h1 h2 h4 h5=>by by_cases k1:k=r;subst k1;by_cases k2:c=c2;subst k2;rw [ec,er];omega;rw [er,en c (by unfold Ch at h2;omega) k2];exact hmax c h2 h4;rw [en k k1 h5];by_cases k2:c=r;subst k2;rw [er];exact hG k c2 h1 h2 hc2 hc2h;by_cases k3:c=c2;exfalso;unfold Ch at h2 hc2;omega;rw [en c k2 k3];exact hH k c h1 h2 h4 k1)
   (fun k c h1 h2 h4 h5=>by
    have:k=r:=by unfold Ch at h2 hc2;omega
    subst this;rw [er,en c (by unfold Ch at h4;omega) (by unfold Ch at h4;omega)];exact hH c2 c (by omega) h4 h5 (by omega))
  exact⟨w',o,e1,e2,(Pm.swp ⟨by omega,by omega⟩ ⟨by omega,by omega⟩ hf).trans e3,e4⟩
  rw [if_neg h3,Ad]
  refine⟨w,_,rfl,.inr rfl,Pm.refl _ _ _,fun k c h1 h2 h4=> ?_⟩
  by_cases k1:k=r
  subst k1;have:=hmax c h2 h4;omega
  exact hH k c h1 h2 h4 k1
theorem XP{f lo hi:Nat}{w:List Int}(hl:w.length<=1000000)(hf:f+hi<=w.length)(hr:lo<=1000000)(hH:HpX f lo hi lo w):
 ∃w',Xm (lo:Int) (hi:Int) (f:Int) w=some w'/\Pm (f+lo) (f+hi) w w'/\Hp f lo hi w':=by
 obtain⟨w',o,e1,e2,e3,e4⟩:=aMt f lo hi hi lo w (by omega) (Nat.le_refl _) hr hl hf hH (fun k c h1 h2 h3 h4=>by unfold Ch at h2;omega)
 refine⟨w', ?_,e3,e4⟩
 unfold Xm
 rw [e1,AB]
 rcases e2 with rfl|rfl<;>rfl
theorem aMe(f hi:Nat): ∀(m:Nat) (w:List Int),w.length<=1000000->f+hi<=w.length->m<=1000000->Hp f m hi w->
 ∃w',Pn (f:Int) 0 (hi:Int) ((m:Int)-1) w=some w'/\Pm f (f+hi) w w'/\Hp f 0 hi w':=by
 intro m
 induction m with
 |zero=>
  intro w hl hf hm hH
  refine⟨w, ?_,Pm.refl _ _ _,hH⟩
  rw [OQ]
  unfold Gb
  rw [decide_eq_false (by omega),AH,Ad]
 |succ m ih=>
  intro w hl hf hm hH
  obtain⟨w1,e1,e2,e3⟩:=XP (f:=f) (lo:=m) (hi:=hi) hl hf (by omega) (fun k c h1 h2 h3 h4=>hH k c (by omega) h2 h3)
  obtain⟨w2,f1,f2,f3⟩:=ih w1 (by rw [e2.len];exact hl) (by rw [e2.len];exact hf) (by omega) e3
  refine⟨w2, ?_,(e2.mono (by omega) (by omega)).trans f2,f3⟩
  rw [OQ]
  unfold Gb
  rw [show(((m+1:Nat):Int)-1)=(m:Int) by omega,decide_eq_true (by omega),AI,e1,AB,XV (by omega) (by omega),BE]
  exact f1
theorem aGu{f hi:Nat}{w:List Int}(h:Hp f 0 hi w): ∀k,k<hi->ga w (f+k)<=ga w f:=by
 intro k;induction k using Nat.strongRecOn with
 |ind k ih=>
  intro hk
  by_cases h0:k=0
  subst h0;exact Int.le_refl _
  have h1:=h ((k-1)/2) k (by omega) (by unfold Ch;omega) hk
  have h2:=ih ((k-1)/2) (by omega) (by omega)
  omega
theorem aMf(f hi:Nat): ∀(m:Nat) (w:List Int),w.length<=1000000->f+hi<=w.length->m<=hi->Hp f 0 m w->(∀p q,p<q->q<hi->m<=q->ga w (f+p)<=ga w (f+q))->
 ∃w',Po (f:Int) 0 ((m:Int)-1) w=some w'/\Pm f (f+hi) w w'/\ ∀p q,p<q->q<hi->ga w' (f+p)<=ga w' (f+q):=by
 intro m
 induction m with
 |zero=>
  intro w hl hf hm hH hs
  refine⟨w, ?_,Pm.refl _ _ _,fun p q h1 h2=>hs p q h1 h2 (by omega)⟩
  rw [OR]
  unfold Gc
  rw [decide_eq_false (by omega),AH,Ad]
 |succ m ih=>
  intro w hl hf hm hH hs
  have hg:=Ej (w:=w) (i:=f) (j:=f+m) (by omega) (by omega)
  have hmx:=aGu hH
  obtain⟨w1,e1,e2,e3⟩:=XP (f:=f) (lo:=0) (hi:=m) (w:=swp w f (f+m)) (by rw [Bv];exact hl) (by rw [Bv];omega) (by omega) (fun k c h1 h2 h3 h4=>by
   have:0<c:=by unfold Ch at h2;omega
   have:=hH k c h1 h2 (by omega);by_cases km:k=m;unfold Ch at h2;omega;rw [hg,hg,if_neg (by omega),if_neg (by omega),if_neg (by omega),if_neg (by omega)];exact this)
  rw [Nat.add_zero]at e2
  have hsw:Pm f (f+(m+1)) w (swp w f (f+m)):=Pm.swp ⟨by omega,by omega⟩ ⟨by omega,by omega⟩ (by omega)
  have hpm:=hsw.trans (e2.mono (Nat.le_refl _) (by omega))
  obtain⟨w2,f1,f2,f3⟩:=ih w1 (by rw [hpm.len];exact hl) (by rw [hpm.len];exact hf) (by omega) e3 (fun p q h1 h2 h3=>by
   have hp': ∀p,p<m+1-> ∃p',p'<m+1/\ga w1 (f+p)=ga w (f+p'):=fun p hp=>by obtain⟨i,i1,i2,i3⟩:=hpm.src (f+p) (by omega) (by omega);exact⟨i-f,by omega,by rw [i3];congr 1;omega⟩
   by_cases hq:q=m;subst hq;have eq1:ga w1 (f+q)=ga w f:=by rw [e2.out (f+q) (by omega),hg,if_pos rfl]
   obtain⟨p',p1,p2⟩:=hp' p (by omega);rw [eq1,p2];exact hmx p' p1;have eq1:ga w1 (f+q)=ga w (f+q):=hpm.out _ (by omega);rw [eq1];by_cases hpm1:p<m+1;obtain⟨p',p1,p2⟩:=hp' p hpm1;rw [p2];exact hs p' q (by omega) h2 (by omega);rw [hpm.out (f+p) (by omega)];exact hs p q h1 h2 (by omega))
  refine⟨w2, ?_,(hpm.mono (by omega) (by omega)).trans f2,f3⟩
  rw [OR]
  unfold Gc
  rw [show(((m+1:Nat):Int)-1)=(m:Int) by omega,decide_eq_true (by omega),AI]
  simp (disch:=omega) only [Od,E8,Ek,List.length_set,Int.toNat_natCast]
  have e1':Xm 0 (m:Int) (f:Int) ((w.set f (ga w (f+m))).set (f+m) (ga w f))=some w1:=e1
  rw [e1',AB,XV (by omega) (by omega),BE]
  exact f1
theorem aMg(a b:Nat)(w:List Int)(hl:w.length<=1000000)(hb:b<=w.length)(hab:a<b): ∃w',Xv (a:Int) (b:Int) w=some w'/\Pm a b w w'/\So a b w':=by
 obtain⟨w1,e1,e2,e3⟩:=aMe a (b-a) ((b-a-1)/2+1) w hl (by omega) (by omega) (fun k c h1 h2 h3=>by unfold Ch at h2;omega);obtain⟨w2,f1,f2,f3⟩:=aMf a (b-a) (b-a) w1 (by rw [e2.len];exact hl) (by rw [e2.len];omega) (Nat.le_refl _) e3 (fun p q h1 h2 h3=>by omega);have hab':a+(b-a)=b:=by omega
 rw [hab']at e2 f2;refine⟨w2, ?_,e2.trans f2,fun p q h1 h2 h3=> ?_⟩;unfold Xv;rw [XW (by omega),Dj (by omega)];have hq:AA .quo .i64 ((b-a-1:Nat):Int) 2=(((b-a-1)/2:Nat):Int):=aPm (k:=2) (by omega);rw [hq];rw [show((((b-a-1)/2+1:Nat):Int)-1)=(((b-a-1)/2:Nat):Int) by omega]at e1;rw [show(((b-a:Nat):Int)-1)=((b-a-1:Nat):Int) by omega]at f1;rw [e1,AB,f1,AB];have:=f3 (p-a) (q-a) (by omega) (by omega);rw [show a+(p-a)=p by omega,show a+(q-a)=q by omega]at this;exact this
theorem aPn(a b:Nat): ∀(m i j:Nat) (w:List Int),j<=i+m->a<=i->j<=b->w.length<=1000000->b<=w.length->i<=1000000->
 ∃w',Ps (i:Int) ((j:Int)-1) w=some w'/\Pm a b w w':=by
 intro m
 induction m using Nat.strongRecOn with
 |ind m ih=>
  intro i j w hm ha hj hl hb hi
  rw [aEz]
  unfold IN
  by_cases h0:i+1<j
  have hs:Pm a b w (swp w i (j-1)):=Pm.swp ⟨by omega,by omega⟩ ⟨by omega,by omega⟩ hb
  obtain⟨w',e1,e2⟩:=ih (m-2) (by omega) (i+1) (j-1) (swp w i (j-1)) (by omega) (by omega) (by omega) (by rw [Bv];exact hl) (by rw [Bv];exact hb) (by omega)
  refine⟨w', ?_,hs.trans e2⟩
  rw [show((j:Int)-1)=((j-1:Nat):Int) by omega]
  rw [show(((j-1:Nat):Int)-1)=((j-1-1:Nat):Int) by omega]at e1
  rw [<-e1]
  simp (disch:=omega) only [ltT,E8,Ek,F9,Dj,List.length_set,Int.toNat_natCast,BE]
  rfl
  refine⟨w, ?_,Pm.refl _ _ _⟩
  rw [decide_eq_false (by omega),AH,Ad]
theorem aPo(a b:Nat)(w:List Int)(hl:w.length<=1000000)(hb:b<=w.length)(hab:a<=b): ∃w',Yl (a:Int) (b:Int) w=some w'/\Pm a b w w':=by obtain⟨w',e1,e2⟩:=aPn a b b a b w (by omega) (Nat.le_refl _) (Nat.le_refl _) hl hb (by omega);refine⟨w', ?_,e2⟩;unfold Yl;rw [XV (by omega) (by omega),e1,AB]
def l8:List UInt8:=[0,1,2,2,3,3,3,3,4,4,4,4,4,4,4,4,5,5,5,5,5,5,5,5,5,5,5,5,5,5,5,5,6,6,6,6,6,6,6,6,6,6,6,6,6,6,6,6,6,6,6,6,6,6,6,6,6,6,6,6,6,6,6,6]++List.replicate 64 7++List.replicate 128 8
theorem aO9: ∀n,n<256-> ∃c:UInt8,l8[n]? =some c/\c.toNat<=8/\n<2^c.toNat/\(0<n->2^c.toNat<=2*n):=by
 have key:((List.range 256).all fun n=>match l8[n]? with
  |some c=>decide (c.toNat<=8)&&decide (n<2^c.toNat)&&(decide (n=0)||decide (2^c.toNat<=2*n))
  |none=>false)=true:=by kernel_rfl
 intro n hn;have h:=(List.all_eq_true.1 key) n (List.mem_range.2 hn);revert h;cases l8[n]? with
 |none=>intro h;cases h
 |some c=>
  intro h
  simp only [ba,Bool.or_eq_true,decide_eq_true_eq]at h
  exact⟨c,rfl,h.1.1,h.1.2,fun h0=>by rcases h.2 with h2|h2<;>omega⟩
theorem aMk(a0:Int):Yo a0=(AJ (Uy a0 0 (decide (4294967296<=a0))) fun o1=>AJ (Uz o1.1 o1.2 (decide (65536<=o1.1))) fun o2=>AJ (U2 o2.1 o2.2 (decide (256<=o2.1))) fun o3=>
 AX l8 ((u8w o3.1).toNat:Int) fun x4=>some (AA .add .i64 o3.2 (x4.toNat:Int))):=by kernel_rfl
theorem aHz{n:Nat}(hn:n<65536): ∃k:Nat,Q3 ((n:Nat):Int)=some (k:Int)/\k<=16/\n<2^k/\(0<n->2^k<=2*n):=by unfold Q3;rw [aMk];unfold Uy Uz U2;rw [decide_eq_false (by omega),AH,AB,decide_eq_false (by simp only;omega),AH,AB];simp only;by_cases h:256<=n;obtain⟨c,e1,e2,e3,e4⟩:=aO9 (n/256) (by omega);refine⟨8+c.toNat, ?_,by omega, ?_,fun _=> ?_⟩;rw [decide_eq_true (by omega),AI,AB];simp only;have hs:AA .shr .u64 (n:Int) 8=((n/2^8:Nat):Int):=aUo (k:=8) (by decide);rw [hs,show(n/2^8)=n/256 from rfl,YG (by omega)];rw [AP (xs:=l8) e1,AB,LP (a:=0) (b:=8) (by omega) (by omega),LP (by omega) (by omega)];simp;rw [Nat.pow_add];omega;rw [Nat.pow_add];have:=e4 (by omega);omega;obtain⟨c,e1,e2,e3,e4⟩:=aO9 n (by omega);refine⟨c.toNat, ?_,by omega,e3,e4⟩;rw [decide_eq_false (by omega),AH,AB];simp only;rw [YG (by omega)];rw [AP (xs:=l8) e1,AB,LP (by omega) (by omega)];simp
theorem aLp(x k:Nat)(hk:k<=62)(hx:x<18446744073709551616):AA .and .u64 (x:Int) (AA .sub .u64 ((2^k:Nat):Int) 1)=((x % 2^k:Nat):Int):=by
 have hp:2^k<=2^62:=Nat.pow_le_pow_right (by decide) hk;have hp0:0<2^k:=Nat.two_pow_pos k;have hs:AA .sub .u64 ((2^k:Nat):Int) 1=((2^k-1:Nat):Int):=by show IntKind.wrap .u64 (((2^k:Nat):Int)-1)=_;rw [show((2^k:Nat):Int)-1=((2^k-1:Nat):Int) by omega];exact At (by omega)
 rw [hs,aTt hx (by omega),Nat.and_two_pow_sub_one_eq_mod]
theorem QO{n:Nat}(hn:n<65536): ∃k:Nat,Qc (n:Int)=some ((2^k:Nat):Int)/\k<=16/\n<2^k/\(0<n->2^k<=2*n):=by obtain⟨k,e1,e2,e3,e4⟩:=aHz hn;refine⟨k, ?_,e2,e3,e4⟩;unfold Qc;rw [At (by omega),e1,AB,A8 (by omega)];have hs:AA .shl .u64 1 (k:Int)=((1*2^k % 18446744073709551616:Nat):Int):=aU0 (n:=1) (by omega);have hp:2^k<=2^62:=Nat.pow_le_pow_right (by decide) (by omega);rw [hs,Nat.one_mul,Nat.mod_eq_of_lt (by omega)]
theorem aM3{x:Nat}(hx:x<18446744073709551616): ∃y:Nat,Qd (x:Int)=some ((y:Int),(y:Int))/\y<18446744073709551616:=by have h1: ∀(a k:Nat),k<=64-> ∃b:Nat,AA .shl .u64 (a:Int) (k:Int)=(b:Int)/\b<18446744073709551616:=fun a k hk=>⟨_,aU0 hk,Nat.mod_lt _ (by decide)⟩;have h2: ∀(a k:Nat),k<=64->a<18446744073709551616-> ∃b:Nat,AA .shr .u64 (a:Int) (k:Int)=(b:Int)/\b<18446744073709551616:=fun a k hk ha=>⟨_,aUo hk,Nat.lt_of_le_of_lt (Nat.div_le_self _ _) ha⟩;have h3: ∀(a b:Nat),a<18446744073709551616->b<18446744073709551616-> ∃c:Nat,AA .xor .u64 (a:Int) (b:Int)=(c:Int)/\c<18446744073709551616:=fun a b ha hb=>⟨_,aU7 ha hb,Nat.xor_lt_two_pow (n:=64) ha hb⟩;obtain⟨a1,e1,f1⟩:=h1 x 13 (by decide);obtain⟨a2,e2,f2⟩:=h3 x a1 hx f1;obtain⟨a3,e3,f3⟩:=h2 a2 7 (by decide) f2;obtain⟨a4,e4,f4⟩:=h3 a2 a3 f2 f3;obtain⟨a5,e5,f5⟩:=h1 a4 17 (by decide);obtain⟨a6,e6,f6⟩:=h3 a4 a5 f4 f5;refine⟨a6, ?_,f6⟩;have e1':AA .shl .u64 (x:Int) 13=(a1:Int):=e1;have e3':AA .shr .u64 (a2:Int) 7=(a3:Int):=e3;have e5':AA .shl .u64 (a4:Int) 17=(a5:Int):=e5;unfold Qd;rw [e1',e2,e3',e4,e5',e6]
theorem aOw(a n k q:Nat): ∀(m i:Nat) (w:List Int) (x:Nat),q<=i+m->x<18446744073709551616->w.length<=60000->a+n<=w.length->a<=i->q<=a+n->0<n->n<2^k->2^k<=2*n->k<=16->q=a+n/4*2+2->
 ∃w',Pj (a:Int) (n:Int) ((2^k:Nat):Int) (i:Int) w (x:Int)=some w'/\Pm a (a+n) w w':=by
 intro m
 induction m with
 |zero=>
  intro i w x hm hx hl hb ha hq h0 hk1 hk2 hk3 hqe
  refine⟨w, ?_,Pm.refl _ _ _⟩
  rw [OM]
  unfold GY
  have hd:AA .quo .i64 (n:Int) 4=((n/4:Nat):Int):=aPm (k:=4) (by omega)
  have hmu:AA .mul .i64 ((n/4:Nat):Int) 2=((n/4*2:Nat):Int):=by rw [aPe (by omega) (by omega)];omega
  rw [hd,hmu,Od (by omega),F9 (by omega),leF (by omega),Ad]
 |succ m ih=>
  intro i w x hm hx hl hb ha hq h0 hk1 hk2 hk3 hqe
  rw [OM]
  unfold GY
  have hd:AA .quo .i64 (n:Int) 4=((n/4:Nat):Int):=aPm (k:=4) (by omega)
  have hmu:AA .mul .i64 ((n/4:Nat):Int) 2=((n/4*2:Nat):Int):=by rw [aPe (by omega) (by omega)];omega
  rw [hd,hmu,Od (by omega),F9 (by omega)]
  by_cases h1:i<=a+n/4*2+1
  obtain⟨y,ey,fy⟩:=aM3 hx
  have hmod:y % 2^k<2^k:=Nat.mod_lt _ (Nat.two_pow_pos k)
  have hp:2^k<=2^16:=Nat.pow_le_pow_right (by decide) hk3
  obtain⟨o,ho,hon⟩: ∃o:Nat,Mz (a:Int) (n:Int) ((2^k:Nat):Int) (i:Int) (((y % 2^k:Nat)):Int) (decide ((n:Int)<=((y % 2^k:Nat):Int))) w (y:Int)=some (o:Int)/\o<n:=by unfold Mz;by_cases h2:n<=y % 2^k;exact⟨y % 2^k-n,by rw [decide_eq_true (by omega),AI,XW (by omega)],by omega⟩;exact⟨y % 2^k,by rw [decide_eq_false (by omega),AH],by omega⟩
  have hs:Pm a (a+n) w (swp w i (a+o)):=Pm.swp ⟨ha,by omega⟩ ⟨by omega,by omega⟩ hb
  obtain⟨w',e1,e2⟩:=ih (i+1) (swp w i (a+o)) y (by omega) fy (by rw [Bv];exact hl) (by rw [Bv];exact hb) (by omega) hq h0 hk1 hk2 hk3 hqe
  refine⟨w', ?_,hs.trans e2⟩
  rw [<-e1,leT h1]
  unfold Pi
  rw [ey,AB]
  simp only
  have hw:IntKind.wrap .i64 ((y % 2^k:Nat):Int)=((y % 2^k:Nat):Int):=aM2 (by omega) (by omega)
  rw [aLp y k (by omega) fy,hw,ho,AB]
  simp (disch:=omega) only [Od,E8,Ek,List.length_set,Int.toNat_natCast,AB,F9,BE]
  rfl
  refine⟨w,by rw [leF h1,Ad],Pm.refl _ _ _⟩
theorem aOx(a b:Nat)(w:List Int)(hl:w.length<=60000)(hb:b<=w.length)(hab:a+8<=b): ∃w',Xq (a:Int) (b:Int) w=some w'/\Pm a b w w':=by
 obtain⟨k,e1,e2,e3,e4⟩:=QO (n:=b-a) (by omega);have hd:AA .quo .i64 ((b-a:Nat):Int) 4=(((b-a)/4:Nat):Int):=aPm (k:=4) (by omega);have hmu:AA .mul .i64 (((b-a)/4:Nat):Int) 2=(((b-a)/4*2:Nat):Int):=by rw [aPe (by omega) (by omega)];omega
 obtain⟨w',f1,f2⟩:=aOw a (b-a) k (a+(b-a)/4*2+2) 3 (a+(b-a)/4*2-1) w (b-a) (by omega) (by omega) hl (by omega) (by omega) (by omega) (by omega) e3 (e4 (by omega)) e2 rfl;rw [show a+(b-a)=b by omega]at f2;refine⟨w', ?_,f2⟩;unfold Xq Ph;rw [XW (by omega),decide_eq_true (by omega),AI,e1,AB,hd,hmu,Od (by omega),Dj (by omega),At (by omega),f1,AB,AB]
def Vx(lo hi:Nat)(x:Int):Prop:= ∃n:Nat,x=(n:Int)/\lo<=n/\n<hi
theorem Ni{lo hi:Nat}{w:List Int}(hh:hi<=w.length){x y:Int}(s:Int)(hx:Vx lo hi x)(hy:Vx lo hi y): ∃u v s',Zq w x y s=some (u,v,s')/\Vx lo hi u/\Vx lo hi v:=by obtain⟨i,rfl,i1,i2⟩:=hx;obtain⟨j,rfl,j1,j2⟩:=hy;unfold Zq;simp (disch:=omega) only [Ek,Bu,AB];by_cases h:ga w j<ga w i;exact⟨_,_,_,by rw [decide_eq_true h];rfl,⟨j,rfl,j1,j2⟩,⟨i,rfl,i1,i2⟩⟩;exact⟨_,_,_,by rw [decide_eq_false h];rfl,⟨i,rfl,i1,i2⟩,⟨j,rfl,j1,j2⟩⟩
theorem aIp{lo hi:Nat}{w:List Int}(hh:hi<=w.length){x y z:Int}(s:Int)(hx:Vx lo hi x)(hy:Vx lo hi y)(hz:Vx lo hi z): ∃u s',Zx w x y z s=some (u,s')/\Vx lo hi u:=by obtain⟨a1,b1,s1,e1,f1,g1⟩:=Ni hh s hx hy;obtain⟨b2,c2,s2,e2,f2,g2⟩:=Ni hh s1 g1 hz;obtain⟨a3,b3,s3,e3,f3,g3⟩:=Ni hh s2 f1 f2;refine⟨b3,s3, ?_,g3⟩;unfold Zx;simp only [e1,AB,e2,e3]
theorem V9{lo hi n:Nat}{w:List Int}(hh:hi<=w.length)(hl:w.length<=1000000)(s:Int)(h1:lo+1<=n)(h2:n+1<hi): ∃u s',Zr w (n:Int) s=some (u,s')/\Vx lo hi u:=by obtain⟨u,s',e,h⟩:=aIp (lo:=lo) (hi:=hi) hh (x:=((n-1:Nat):Int)) (y:=(n:Int)) (z:=((n+1:Nat):Int)) s ⟨n-1,rfl,by omega,by omega⟩ ⟨n,rfl,by omega,by omega⟩ ⟨n+1,rfl,by omega,by omega⟩;refine⟨u,s', ?_,h⟩;unfold Zr;rw [Dj (by omega),F9 (by omega),e,AB]
theorem aT8{n k:Nat}(h:n*k<=4611686018427387904):AA .mul .i64 (n:Int) (k:Int)=((n*k:Nat):Int):=by
 have e:(n:Int)*(k:Int)=((n*k:Nat):Int):=by simp
 generalize n*k=d at*;rw [aPe (by omega) (by omega)];exact e
theorem aPi(a b:Nat)(w:List Int)(hl:w.length<=1000000)(hb:b<=w.length)(hab:a+12<b): ∃p h,Yr w (a:Int) (b:Int)=some (p,h)/\Vx a b p:=by
 have hd:AA .quo .i64 ((b-a:Nat):Int) 4=(((b-a)/4:Nat):Int):=aPm (k:=4) (by omega);have m1:AA .mul .i64 (((b-a)/4:Nat):Int) 1=(((b-a)/4*1:Nat):Int):=aT8 (k:=1) (by omega);have m2:AA .mul .i64 (((b-a)/4:Nat):Int) 2=(((b-a)/4*2:Nat):Int):=aT8 (k:=2) (by omega);have m3:AA .mul .i64 (((b-a)/4:Nat):Int) 3=(((b-a)/4*3:Nat):Int):=aT8 (k:=3) (by omega);have fin: ∀(x s:Int),Vx a b x-> ∃p h,(AE (decide (s=0)) (some (x,(1:Int))) (AE (decide (s=12)) (some (x,2)) (some (x,0))))=some (p,h)/\Vx a b p:=fun x s hx=>by by_cases h1:s=0;exact⟨x,1,by rw [decide_eq_true h1];rfl,hx⟩;by_cases h2:s=12;exact⟨x,2,by rw [decide_eq_false h1,decide_eq_true h2];rfl,hx⟩;exact⟨x,0,by rw [decide_eq_false h1,decide_eq_false h2];rfl,hx⟩
 unfold Yr Pt;rw [XW (by omega),hd,m1,m2,m3,Od (by omega),Od (by omega),Od (by omega),decide_eq_true (by omega),AI];have hb2: ∃x y z s,M1 w ((a+(b-a)/4*1:Nat):Int) ((a+(b-a)/4*2:Nat):Int) ((a+(b-a)/4*3:Nat):Int) (decide (50<=((b-a:Nat):Int))) 0=some (x,y,z,s)/\Vx a b x/\Vx a b y/\Vx a b z:=by unfold M1;by_cases h:50<=b-a;obtain⟨x,s1,e1,h1⟩:=V9 (lo:=a) (hi:=b) (n:=a+(b-a)/4*1) hb hl 0 (by omega) (by omega);obtain⟨y,s2,e2,h2⟩:=V9 (lo:=a) (hi:=b) (n:=a+(b-a)/4*2) hb hl s1 (by omega) (by omega);obtain⟨z,s3,e3,h3⟩:=V9 (lo:=a) (hi:=b) (n:=a+(b-a)/4*3) hb hl s2 (by omega) (by omega);refine⟨x,y,z,s3, ?_,h1,h2,h3⟩;rw [decide_eq_true (by omega),AI,e1,AB,e2,AB,e3,AB];refine⟨_,_,_,_,by rw [decide_eq_false (by omega),AH],⟨_,rfl,by omega,by omega⟩,⟨_,rfl,by omega,by omega⟩,⟨_,rfl,by omega,by omega⟩⟩
 obtain⟨x,y,z,s,e,hx,hy,hz⟩:=hb2;obtain⟨u,s',e',hu⟩:=aIp hb s hx hy hz;rw [e,AB];simp only;rw [e',AB,AB];exact fin u s' hu
theorem aPj(a j:Nat)(w:List Int)(hl:w.length<=1000000)(hj:j<w.length)(ha:a<w.length): ∀(m i:Nat),j+1<=i+m->i<=j+1->
 ∃o:Nat,Mq (a:Int) (j:Int) w (i:Int)=some (o:Int)/\i<=o/\o<=j+1/\(∀k,i<=k->k<o->ga w k<ga w a)/\(o<=j-> ¬ga w o<ga w a):=by
 intro m
 induction m with
 |zero=>
  intro i hm hi
  refine⟨i, ?_,Nat.le_refl _,hi,fun k h1 h2=>by omega,fun h=>by omega⟩
  rw [N4]
  unfold GM
  rw [leF (by omega),Ad]
 |succ m ih=>
  intro i hm hi
  rw [N4]
  unfold GM
  by_cases h0:i<=j
  by_cases h1:ga w i<ga w a
  obtain⟨o,e1,e2,e3,e4,e5⟩:=ih (i+1) (by omega) (by omega)
  refine⟨o, ?_,by omega,e3,fun k k1 k2=> ?_,e5⟩
  simp (disch:=omega) only [leT,E8,Ek,Bu,AB,h1,decide_true,AI,F9,BE]
  exact e1
  by_cases hk:k=i
  subst hk;exact h1
  exact e4 k (by omega) k2
  refine⟨i, ?_,Nat.le_refl _,hi,fun k k1 k2=>by omega,fun _=>h1⟩
  simp (disch:=omega) only [leT,E8,Ek,Bu,AB,h1,decide_false,AH,Ad]
  refine⟨i,by rw [leF h0,Ad],Nat.le_refl _,hi,fun k k1 k2=>by omega,fun h=>absurd h h0⟩
theorem aPk(a i:Nat)(w:List Int)(hl:w.length<=1000000)(ha:a<w.length)(hi:1<=i): ∀(j:Nat),j<w.length->i<=j+1->
 ∃o:Nat,Mr (a:Int) (i:Int) w (j:Int)=some (o:Int)/\i<=o+1/\o<=j/\(∀k,o<k->k<=j-> ¬ga w k<ga w a)/\(i<=o->ga w o<ga w a):=by
 intro j
 induction j with
 |zero=>
  intro hj hij
  refine⟨0, ?_,hij,Nat.le_refl _,fun k h1 h2=>by omega,fun h=>by omega⟩
  rw [N5]
  unfold GN
  rw [leF (by omega),Ad]
 |succ j ih=>
  intro hj hij
  rw [N5]
  unfold GN
  by_cases h0:i<=j+1
  by_cases h1:ga w (j+1)<ga w a
  refine⟨j+1, ?_,by omega,Nat.le_refl _,fun k k1 k2=>by omega,fun _=>h1⟩
  simp (disch:=omega) only [leT,E8,Ek,Bu,AB,h1,decide_true,Bool.not_true,AH,Ad]
  obtain⟨o,e1,e2,e3,e4,e5⟩:=ih (by omega) (by omega)
  refine⟨o, ?_,e2,by omega,fun k k1 k2=> ?_,e5⟩
  simp (disch:=omega) only [leT,E8,Ek,Bu,AB,h1,decide_false,Bool.not_false,AI,Dj,BE,Nat.add_sub_cancel]
  exact e1
  by_cases hk:k=j+1
  subst hk;exact h1
  exact e4 k k1 (by omega)
  refine⟨j+1,by rw [leF h0,Ad],by omega,Nat.le_refl _,fun k k1 k2=>by omega,fun h=>absurd h h0⟩
theorem aUk:ZP=Mq:=rfl
theorem aUl:ZR=Mr:=rfl
theorem aUj(a b:Nat): ∀(m i j:Nat) (w:List Int),j+1<=i+m->w.length<=1000000->b<=w.length->a+1<=i->i<=j+1->j<b->(∀k,a<k->k<i->ga w k<ga w a)->(∀k,j<k->k<b-> ¬ga w k<ga w a)->
 ∃(o:Nat) (w':List Int),PY (a:Int) (i:Int) (j:Int) w=some ((o:Int),w')/\a<=o/\o<b/\Pm (a+1) b w w'/\(∀k,a<k->k<=o->ga w' k<ga w a)/\(∀k,o<k->k<b-> ¬ga w' k<ga w a):=by
 intro m
 induction m using Nat.strongRecOn with
 |ind m ih=>
  intro i j w hm hl hb hi hij hj hA hB
  obtain⟨x,e1,e2,e3,e4,e5⟩:=aPj a j w hl (by omega) (by omega) m i hm hij
  obtain⟨y,f1,f2,f3,f4,f5⟩:=aPk a x w hl (by omega) (by omega) j (by omega) e3
  rw [ZN]
  unfold HW
  rw [aUk,aUl,e1,AB,f1,AB]
  have hA': ∀k,a<k->k<x->ga w k<ga w a:=fun k k1 k2=>by by_cases h:k<i;exact hA k k1 h;exact e4 k (by omega) k2
  have hB': ∀k,y<k->k<b-> ¬ga w k<ga w a:=fun k k1 k2=>by by_cases h:j<k;exact hB k h k2;exact f4 k k1 (by omega)
  by_cases h0:y<x
  refine⟨y,w,by rw [ltT h0,Ad],by omega,by omega,Pm.refl _ _ _,fun k k1 k2=>hA' k k1 (by omega),hB'⟩
  have hx:=e5 (by omega)
  have hy:=f5 (by omega)
  have hxy:x≠y:=fun h=>by subst h;exact hx hy
  have hg:=Ej (w:=w) (i:=x) (j:=y) (by omega) (by omega)
  have ha:ga (swp w x y) a=ga w a:=by rw [hg,if_neg (by omega),if_neg (by omega)]
  obtain⟨o,w',g1,g2,g3,g4,g5,g6⟩:=ih (m-2) (by omega) (x+1) (y-1) (swp w x y) (by omega) (by rw [Bv];exact hl) (by rw [Bv];exact hb) (by omega) (by omega) (by omega)
   (fun k k1 k2=>by rw [ha,hg];by_cases c1:k=x;rw [if_neg (by omega),if_pos c1];exact hy;rw [if_neg (by omega),if_neg c1];exact hA' k k1 (by omega))
   (fun k k1 k2=>by rw [ha,hg];by_cases c1:k=y;rw [if_pos c1];exact hx;rw [if_neg c1,if_neg (by omega)];exact hB' k (by omega) k2)
  rw [ha]at g5 g6
  refine⟨o,w', ?_,g2,g3,(Pm.swp ⟨by omega,by omega⟩ ⟨by omega,by omega⟩ hb).trans g4,g5,g6⟩
  rw [<-g1]
  simp (disch:=omega) only [ltF,E8,Ek,List.length_set,Int.toNat_natCast,F9,Dj,BE]
  rfl
theorem aUm(a b p:Nat)(w:List Int)(hl:w.length<=1000000)(hb:b<=w.length)(hp:a<=p/\p<b)(hab:a+2<=b):
 ∃(o:Nat) (f:Bool) (w':List Int),X6 (a:Int) (b:Int) (p:Int) w=some ((o:Int),f,w')/\a<=o/\o<b/\Pm a b w w'/\(∀k,a<=k->k<o->ga w' k<=ga w' o)/\(∀k,o<k->k<b->ga w' o<=ga w' k):=by
 have hs:Pm a b w (swp w a p):=Pm.swp ⟨by omega,by omega⟩ hp hb
 have hl1:(swp w a p).length=w.length:=Bv w a p
 --the end,from a row that is parted behind its first one
 have fin: ∀(o:Nat) (w2:List Int),a<=o->o<b->Pm a b w w2->(∀k,a<k->k<=o->ga w2 k<ga w2 a)->(∀k,o<k->k<b-> ¬ga w2 k<ga w2 a)->
  Pm a b w (swp w2 o a)/\(∀k,a<=k->k<o->ga (swp w2 o a) k<=ga (swp w2 o a) o)/\(∀k,o<k->k<b->ga (swp w2 o a) o<=ga (swp w2 o a) k):=fun o w2 h1 h2 h3 h4 h5=>by
  have hl2:=h3.len
  have hg:=Ej (w:=w2) (i:=o) (j:=a) (by omega) (by omega)
  have ho:ga (swp w2 o a) o=ga w2 a:=by rw [hg];by_cases c:o=a;rw [if_pos c,c];rw [if_neg c,if_pos rfl]
  refine⟨h3.trans (Pm.swp ⟨h1,h2⟩ ⟨by omega,by omega⟩ (by omega)),fun k k1 k2=> ?_,fun k k1 k2=> ?_⟩
  rw [ho,hg]
  by_cases c:k=a
  rw [if_pos c];have:=h4 o (by omega) (Nat.le_refl _);omega
  rw [if_neg c,if_neg (by omega)];have:=h4 k (by omega) (by omega);omega
  rw [ho,hg,if_neg (by omega),if_neg (by omega)]
  have:=h5 k k1 k2;omega
 obtain⟨x,e1,e2,e3,e4,e5⟩:=aPj a (b-1) (swp w a p) (by omega) (by omega) (by omega) b (a+1) (by omega) (by omega)
 obtain⟨y,f1,f2,f3,f4,f5⟩:=aPk a x (swp w a p) (by omega) (by omega) (by omega) (b-1) (by omega) e3
 have hA: ∀k,a<k->k<x->ga (swp w a p) k<ga (swp w a p) a:=fun k k1 k2=>e4 k (by omega) k2
 have hB: ∀k,y<k->k<b-> ¬ga (swp w a p) k<ga (swp w a p) a:=fun k k1 k2=>f4 k k1 (by omega)
 have hdef:((w.set a (ga w p)).set p (ga w a))=swp w a p:=rfl
 unfold X6
 simp (disch:=omega) only [E8,Ek,List.length_set,Int.toNat_natCast,F9,Dj,hdef,e1,f1,AB]
 by_cases h0:y<x
 obtain⟨g1,g2,g3⟩:=fin y (swp w a p) (by omega) (by omega) hs (fun k k1 k2=>hA k k1 (by omega)) hB
 refine⟨y,true,swp (swp w a p) y a, ?_,by omega,by omega,g1,g2,g3⟩
 simp (disch:=omega) only [ltT,E8,Ek,List.length_set,Int.toNat_natCast]
 rfl
 have hx:=e5 (by omega)
 have hy:=f5 (by omega)
 have hxy:x≠y:=fun h=>by subst h;exact hx hy
 have hg:=Ej (w:=swp w a p) (i:=x) (j:=y) (by omega) (by omega)
 have ha:ga (swp (swp w a p) x y) a=ga (swp w a p) a:=by rw [hg,if_neg (by omega),if_neg (by omega)]
 have hl2:(swp (swp w a p) x y).length=w.length:=by rw [Bv,hl1]
 obtain⟨o,w',g1,g2,g3,g4,g5,g6⟩:=aUj a b b (x+1) (y-1) (swp (swp w a p) x y) (by omega) (by omega) (by omega) (by omega) (by omega) (by omega)
  (fun k k1 k2=>by rw [ha,hg];by_cases c1:k=x;rw [if_neg (by omega),if_pos c1];exact hy;rw [if_neg (by omega),if_neg c1];exact hA k k1 (by omega))
  (fun k k1 k2=>by rw [ha,hg];by_cases c1:k=y;rw [if_pos c1];exact hx;rw [if_neg c1,if_neg (by omega)];exact hB k (by omega) k2)
 have hwa:ga w' a=ga (swp (swp w a p) x y) a:=g4.out a (by omega)
 rw [<-hwa]at g5 g6
 have hpm:=(hs.trans (Pm.swp (w:=swp w a p) (i:=x) (j:=y) ⟨by omega,by omega⟩ ⟨by omega,by omega⟩ (by omega))).trans (g4.mono (by omega) (Nat.le_refl _))
 have hl3:=hpm.len
 obtain⟨q1,q2,q3⟩:=fin o w' g2 g3 hpm g5 g6
 refine⟨o,false,swp w' o a, ?_,g2,g3,q1,q2,q3⟩
 have hdef2:(((swp w a p).set x (ga (swp w a p) y)).set y (ga (swp w a p) x))=swp (swp w a p) x y:=rfl
 simp (disch:=omega) only [ltF,E8,Ek,List.length_set,Int.toNat_natCast,F9,Dj,hdef2,g1,AB]
 rfl
theorem aUb(a j:Nat)(w:List Int)(hl:w.length<=1000000)(hj:j<w.length)(ha:a<w.length): ∀(m i:Nat),j+1<=i+m->i<=j+1->
 ∃o:Nat,Pc (a:Int) (j:Int) w (i:Int)=some (o:Int)/\i<=o/\o<=j+1/\(∀k,i<=k->k<o-> ¬ga w a<ga w k)/\(o<=j->ga w a<ga w o):=by
 intro m
 induction m with
 |zero=>
  intro i hm hi
  refine⟨i, ?_,Nat.le_refl _,hi,fun k h1 h2=>by omega,fun h=>by omega⟩
  rw [N8]
  unfold GO
  rw [leF (by omega),Ad]
 |succ m ih=>
  intro i hm hi
  rw [N8]
  unfold GO
  by_cases h0:i<=j
  by_cases h1:ga w a<ga w i
  refine⟨i, ?_,Nat.le_refl _,hi,fun k k1 k2=>by omega,fun _=>h1⟩
  simp (disch:=omega) only [leT,E8,Ek,Bu,AB,h1,decide_true,Bool.not_true,AH,Ad]
  obtain⟨o,e1,e2,e3,e4,e5⟩:=ih (i+1) (by omega) (by omega)
  refine⟨o, ?_,by omega,e3,fun k k1 k2=> ?_,e5⟩
  simp (disch:=omega) only [leT,E8,Ek,Bu,AB,h1,decide_false,Bool.not_false,AI,F9,BE]
  exact e1
  by_cases hk:k=i
  subst hk;exact h1
  exact e4 k (by omega) k2
  refine⟨i,by rw [leF h0,Ad],Nat.le_refl _,hi,fun k k1 k2=>by omega,fun h=>absurd h h0⟩
theorem aUc(a i:Nat)(w:List Int)(hl:w.length<=1000000)(ha:a<w.length)(hi:1<=i): ∀(j:Nat),j<w.length->i<=j+1->
 ∃o:Nat,Pd (a:Int) (i:Int) w (j:Int)=some (o:Int)/\i<=o+1/\o<=j/\(∀k,o<k->k<=j->ga w a<ga w k)/\(i<=o-> ¬ga w a<ga w o):=by
 intro j
 induction j with
 |zero=>
  intro hj hij
  refine⟨0, ?_,hij,Nat.le_refl _,fun k h1 h2=>by omega,fun h=>by omega⟩
  rw [N9]
  unfold GP
  rw [leF (by omega),Ad]
 |succ j ih=>
  intro hj hij
  rw [N9]
  unfold GP
  by_cases h0:i<=j+1
  by_cases h1:ga w a<ga w (j+1)
  obtain⟨o,e1,e2,e3,e4,e5⟩:=ih (by omega) (by omega)
  refine⟨o, ?_,e2,by omega,fun k k1 k2=> ?_,e5⟩
  simp (disch:=omega) only [leT,E8,Ek,Bu,AB,h1,decide_true,AI,Dj,BE,Nat.add_sub_cancel]
  exact e1
  by_cases hk:k=j+1
  subst hk;exact h1
  exact e4 k k1 (by omega)
  refine⟨j+1, ?_,by omega,Nat.le_refl _,fun k k1 k2=>by omega,fun _=>h1⟩
  simp (disch:=omega) only [leT,E8,Ek,Bu,AB,h1,decide_false,AH,Ad]
  refine⟨j+1,by rw [leF h0,Ad],by omega,Nat.le_refl _,fun k k1 k2=>by omega,fun h=>absurd h h0⟩
theorem aUa(a b:Nat): ∀(m i j:Nat) (w:List Int),j+1<=i+m->w.length<=1000000->b<=w.length->a+1<=i->i<=j+1->j<b->(∀k,a<k->k<i-> ¬ga w a<ga w k)->(∀k,j<k->k<b->ga w a<ga w k)->
 ∃(o:Nat) (w':List Int),Pb (a:Int) (i:Int) (j:Int) w=some ((o:Int),w')/\a<o/\o<=b/\Pm (a+1) b w w'/\(∀k,a<k->k<o-> ¬ga w a<ga w' k)/\(∀k,o<=k->k<b->ga w a<ga w' k):=by
 intro m
 induction m using Nat.strongRecOn with
 |ind m ih=>
  intro i j w hm hl hb hi hij hj hA hB
  obtain⟨x,e1,e2,e3,e4,e5⟩:=aUb a j w hl (by omega) (by omega) m i hm hij
  obtain⟨y,f1,f2,f3,f4,f5⟩:=aUc a x w hl (by omega) (by omega) j (by omega) e3
  rw [aAm]
  unfold Hj
  rw [e1,AB,f1,AB]
  have hA': ∀k,a<k->k<x-> ¬ga w a<ga w k:=fun k k1 k2=>by by_cases h:k<i;exact hA k k1 h;exact e4 k (by omega) k2
  have hB': ∀k,y<k->k<b->ga w a<ga w k:=fun k k1 k2=>by by_cases h:j<k;exact hB k h k2;exact f4 k k1 (by omega)
  by_cases h0:y<x
  refine⟨x,w,by rw [ltT h0,Ad],by omega,by omega,Pm.refl _ _ _,hA',fun k k1 k2=>hB' k (by omega) k2⟩
  have hx:=e5 (by omega)
  have hy:=f5 (by omega)
  have hxy:x≠y:=fun h=>by subst h;exact hy hx
  have hg:=Ej (w:=w) (i:=x) (j:=y) (by omega) (by omega)
  have ha:ga (swp w x y) a=ga w a:=by rw [hg,if_neg (by omega),if_neg (by omega)]
  obtain⟨o,w',g1,g2,g3,g4,g5,g6⟩:=ih (m-2) (by omega) (x+1) (y-1) (swp w x y) (by omega) (by rw [Bv];exact hl) (by rw [Bv];exact hb) (by omega) (by omega) (by omega)
   (fun k k1 k2=>by rw [ha,hg];by_cases c1:k=x;rw [if_neg (by omega),if_pos c1];exact hy;rw [if_neg (by omega),if_neg c1];exact hA' k k1 (by omega))
   (fun k k1 k2=>by rw [ha,hg];by_cases c1:k=y;rw [if_pos c1];exact hx;rw [if_neg c1,if_neg (by omega)];exact hB' k (by omega) k2)
  rw [ha]at g5 g6
  refine⟨o,w', ?_,g2,g3,(Pm.swp ⟨by omega,by omega⟩ ⟨by omega,by omega⟩ hb).trans g4,g5,g6⟩
  rw [<-g1]
  simp (disch:=omega) only [ltF,E8,Ek,List.length_set,Int.toNat_natCast,F9,Dj,BE]
  rfl
theorem aUd(a b p:Nat)(w:List Int)(hl:w.length<=1000000)(hb:b<=w.length)(hp:a<=p/\p<b)(hab:a+2<=b):
 ∃(o:Nat) (w':List Int),Xe (a:Int) (b:Int) (p:Int) w=some ((o:Int),w')/\a<o/\o<=b/\Pm a b w w'/\(∀k,a<=k->k<o->ga w' k<=ga w p):=by
 have hs:Pm a b w (swp w a p):=Pm.swp ⟨by omega,by omega⟩ hp hb
 have hl1:(swp w a p).length=w.length:=Bv w a p
 obtain⟨o,w',e1,e2,e3,e4,e5,e6⟩:=aUa a b b (a+1) (b-1) (swp w a p) (by omega) (by omega) (by omega) (by omega) (by omega) (by omega) (fun k k1 k2=>by omega) (fun k k1 k2=>by omega)
 have ha:ga (swp w a p) a=ga w p:=by rw [Ej (by omega) (by omega)];by_cases c:a=p;rw [if_pos c,c];rw [if_neg c,if_pos rfl]
 rw [ha]at e5
 refine⟨o,w', ?_,e2,e3,hs.trans (e4.mono (by omega) (Nat.le_refl _)),fun k k1 k2=> ?_⟩
 have hdef:((w.set a (ga w p)).set p (ga w a))=swp w a p:=rfl
 unfold Xe
 simp (disch:=omega) only [E8,Ek,List.length_set,Int.toNat_natCast,F9,Dj,hdef,e1,AB]
 by_cases c:k=a
 subst c;rw [e4.out k (by omega),ha];exact Int.le_refl _
 have:=e5 k (by omega) k2;omega
def Lo(a b:Nat)(w:List Int):Prop:=0<a-> ∀k,a<=k->k<b->ga w (a-1)<=ga w k
theorem Lo.pm{a b:Nat}{w w':List Int}(h:Lo a b w)(p:Pm a b w w'):Lo a b w':=fun h0 k k1 k2=>by obtain⟨i,i1,i2,i3⟩:=p.src k k1 k2;rw [i3,p.out (a-1) (by omega)];exact h h0 i i1 i2
theorem aUf(a b:Nat)(s8:Int)(w:List Int)(hl:w.length<=1000000)(hb:b<=w.length): ∀(m i:Nat),b<=i+m->a<i->i<=b->So a i w->
 ∃o:Nat,PV (a:Int) (b:Int) s8 w (i:Int)=some (o:Int)/\i<=o/\o<=b/\So a o w:=by
 intro m
 induction m with
 |zero=>
  intro i hm ha hi hs
  refine⟨i, ?_,Nat.le_refl _,hi,hs⟩
  rw [N0]
  unfold GJ
  rw [ltF (by omega),Ad]
 |succ m ih=>
  intro i hm ha hi hs
  rw [N0]
  unfold GJ
  by_cases h0:i<b
  by_cases h1:ga w i<ga w (i-1)
  refine⟨i, ?_,Nat.le_refl _,hi,hs⟩
  simp (disch:=omega) only [ltT,E8,Ek,Dj,Bu,AB,h1,decide_true,Bool.not_true,AH,Ad]
  obtain⟨o,e1,e2,e3,e4⟩:=ih (i+1) (by omega) (by omega) (by omega) (fun p q p1 p2 p3=>by by_cases hq:q=i;subst hq;by_cases hp:p=q-1;subst hp;omega;have:=hs p (q-1) p1 (by omega) (by omega);omega;exact hs p q p1 p2 (by omega))
  refine⟨o, ?_,by omega,e3,e4⟩
  simp (disch:=omega) only [ltT,E8,Ek,Dj,Bu,AB,h1,decide_false,Bool.not_false,AI,F9,BE]
  exact e1
  refine⟨i,by rw [ltF h0,Ad],Nat.le_refl _,hi,hs⟩
theorem aUg(a b i:Nat)(s2 s7 s8:Int)(hib:i<b): ∀(j:Nat) (w:List Int),w.length<=1000000->b<=w.length->a<=j->j<=i->Lo a b w->(∀p q,a<=p->p<q->q<=i->q≠j->ga w p<=ga w q)->
 ∃w',PW (a:Int) s2 s7 s8 (j:Int) w=some w'/\Pm a (i+1) w w'/\So a (i+1) w':=by
 intro j
 induction j with
 |zero=>
  intro w hl hb ha hj hL hs
  refine⟨w, ?_,Pm.refl _ _ _,fun p q h1 h2 h3=>hs p q h1 h2 (by omega) (by omega)⟩
  rw [N1]
  unfold GK
  rw [decide_eq_false (by omega),AH,Ad]
 |succ j ih=>
  intro w hl hb ha hj hL hs
  rw [N1]
  unfold GK
  rw [decide_eq_true (by omega),AI]
  by_cases h1:ga w (j+1)<ga w j
  by_cases h0:a<j+1
  have hp:=Pm.swp (a:=a) (b:=i+1) (w:=w) (i:=j+1) (j:=j) ⟨by omega,by omega⟩ ⟨by omega,by omega⟩ (by omega)
  have hg:=Ej (w:=w) (i:=j+1) (j:=j) (by omega) (by omega)
  obtain⟨w',e1,e2,e3⟩:=ih (swp w (j+1) j) (by rw [Bv];omega) (by rw [Bv];omega) (by omega) (by omega) (hL.pm (hp.mono (Nat.le_refl _) (by omega))) (fun p q p1 p2 p3 p4=>by have b1:=hs p q p1 p2 p3;have b2:=hs p (j+1) p1;have b3:=hs p j p1;have b4:=hs (j+1) q (by omega);have b5:=hs j q (by omega);rw [hg,hg];by_cases c1:p=j;rw [if_pos c1];by_cases c2:q=j+1;rw [if_neg (by omega),if_pos c2];omega;rw [if_neg (by omega),if_neg c2];exact b4 (by omega) p3 c2;rw [if_neg c1];by_cases c2:p=j+1;rw [if_pos c2,if_neg (by omega),if_neg (by omega)];exact b5 (by omega) p3 (by omega);rw [if_neg c2];by_cases c3:q=j+1;rw [if_neg (by omega),if_pos c3];exact b3 (by omega) (by omega) (by omega);rw [if_neg (by omega),if_neg c3];exact b1 c3)
  refine⟨w', ?_,hp.trans e2,e3⟩
  rw [<-e1]
  simp (disch:=omega) only [Dj,Nat.add_sub_cancel,E8,Ek,Bu,AB,h1,decide_true,Bool.not_true,AH,List.length_set,Int.toNat_natCast,BE]
  rfl
  exfalso
  have:=hL (by omega) (j+1) (by omega) (by omega)
  rw [show a-1=j by omega]at this
  omega
  refine⟨w, ?_,Pm.refl _ _ _,fun p q p1 p2 p3=> ?_⟩
  simp (disch:=omega) only [Dj,Nat.add_sub_cancel,E8,Ek,Bu,AB,h1,decide_false,Bool.not_false,AI,Ad]
  by_cases hq:q=j+1
  subst hq
  by_cases hpj:p=j
  subst hpj;omega
  have:=hs p j p1 (by omega) (by omega) (by omega)
  omega
  exact hs p q p1 p2 (by omega) hq
end
end Go.Ac
