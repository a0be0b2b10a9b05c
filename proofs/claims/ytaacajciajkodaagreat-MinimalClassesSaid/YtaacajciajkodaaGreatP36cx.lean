/- Own work: the plain law. -/
import Derived.Test.YtaacajciajkodaaGreatSh36c
import Derived.Test.YtaacajciajkodaaGreatAcC
set_option linter.unusedVariables false
set_option linter.unusedSimpArgs false
namespace Go.Ac
noncomputable section
def vR(v:X0):Bool:=
 if v.kind=1 then decide (v.str=[])&& !v.bool
 else if v.kind=2 then decide (v.int=0)&& !v.bool&&decide (v.str.length<=4096)
 else if v.kind=3 then decide (v.int=0)&&decide (v.str=[])else false
theorem aV0(v:X0):Zp v=some (vR v):=by
 unfold Zp vR;have hc:decide ((v.str.length:Int)<=4096)=decide (v.str.length<=4096):=by
  by_cases h:v.str.length<=4096;have:(v.str.length:Int)<=4096:=by omega
  simp[h,this];have:¬(v.str.length:Int)<=4096:=by omega
  simp[h,this]
 rw[hc];by_cases h1:v.kind=1;by_cases hs:v.str=[]<;>simp[h1,hs,AE];by_cases h2:v.kind=2;by_cases hn:v.int=0<;>cases hb:v.bool<;>simp[h2,hn,AE];by_cases h3:v.kind=3;by_cases hn:v.int=0<;>simp[h3,hn,AE];simp[h1,h2,h3,AE]
theorem X0.eqb_dec(a b:X0):X0.eqb a b=decide (a=b):=by rw[Bool.eq_iff_iff,X0.eqb_iff];simp
def zV:X0:=⟨0,0,[],false⟩
def EG(l:List X2)(v:Int):X0×Bool:=match l.findSome? (fun s=>if s.var=v then some s.value else none)with
 |some x=>(x,true)
 |none=>(zV,false)
theorem aTd(l:List X2)(v:Int)(o:Unit⊕X0)(h:o=(l.findSome? (fun s=>if s.var=v then some (Sum.inr s.value:Unit⊕X0)else none)).getD (.inl ())):
 CX o (fun _=>some (X0.mk 0 0 ([]:List UInt8) false,false)) (fun o4=>some (o4,true))=some (EG l v):=by
 subst h
 have e:l.findSome? (fun s=>if s.var=v then some (Sum.inr s.value:Unit⊕X0)else none)=(l.findSome? (fun s=>if s.var=v then some s.value else none)).map Sum.inr:=by
  induction l with
  |nil=>rfl
  |cons s l ih=>rw[List.findSome?_cons,List.findSome?_cons];by_cases h:s.var=v<;>simp[h,ih]
 rw[e]
 unfold EG
 cases l.findSome? (fun s=>if s.var=v then some s.value else none)<;>rfl
theorem aMb(l:List X2)(v:Int)(hl:l.length<=9223372036854775807):Yt l v=some (EG l v):=by
 unfold Yt aRz;rw[EO l (fun _ s=>if s.var=v then some (Sum.inr s.value:Unit⊕X0)else none) (.inl ())
  (fun i x hx=>by simp only[LM,ltD hx,AI,AN hx,Aq hx hl,Dp];by_cases h:x.var=v<;>simp[h])
  (by simp only[LM,ltI,AJ]),Dm,AB]
 exact aTd l v _ rfl
theorem aPl(v:X0):∃b,Zp v=some b:=by
 unfold Zp;simp only[CS];repeat' split
 all_goals exact⟨_,rfl⟩
theorem FW{l:List X2}{v:Int}{x:X0}(h:EG l v=(x,true)):X2.mk v x∈l:=by unfold EG at h;split at h;rename_i y hy;cases h;obtain⟨s,hs,hv⟩:=List.exists_of_findSome?_eq_some hy;split at hv;rename_i e;cases hv;rw[<-e];exact hs;cases hv;cases h
theorem KG{β:Type}{a b n:Nat}(h:a+b<=1073741824)(hn:n<=131072)(k:Option β):AU (fit a b n) k=k:=Ai (BI h hn) k
structure Dt(q:AD):Prop where
 decls:q.decls.length<=12
 quants:q.quants.length<=9
 frees:q.frees.length<=12
 states:q.states.length<=12
 symbols:q.symbols.length<=12
 trans:q.trans.length<=12
 nodes:q.nodes.length<=40
 args:∀s∈q.symbols,s.args.length<=12
 sets:∀t∈q.trans,t.sets.length<=12
theorem GC{α:Type}{l:List α}{R:α->Prop}(h:∀j,j<l.length->∀x,l[j]? =some x->R x):∀x∈l,R x:=by intro x hx;obtain⟨j,hj,rfl⟩:=List.mem_iff_getElem.1 hx;exact h j hj _ (List.getElem?_eq_getElem hj)
theorem aYy(q:AD):∃n,Xh q=some n/\(n≠0->Dt q):=by
 unfold Xh;simp only[Dp];iterate 8 (split; · exact⟨0,rfl,by simp⟩)
 rename_i h1 h2 h3 h4 h5 h6 h7 h8;have hd:q.decls.length<=9223372036854775807:=by omega
 have hs:q.symbols.length<=9223372036854775807:=by omega
 have hf:q.frees.length<=9223372036854775807:=by omega
 have hn:q.nodes.length<=9223372036854775807:=by omega
 have ht:q.trans.length<=9223372036854775807:=by omega
 obtain⟨t1,e1,_⟩:=Al (step:=fun s=>IU q s) q.decls.length (fun _=>True) (fun _=>True)
  (fun i hi=>by
   obtain⟨x,hx,_⟩:=Aa hi;simp only[IU,ltD hx,AI,AN hx,Aq hx hd];simp only[CS];repeat' split
   all_goals first|exact .inl ⟨rfl,trivial⟩|exact .inr ⟨_,rfl,trivial⟩)
  (fun _=>⟨.inl (),by simp only[IU,ltI,AJ],trivial⟩)
 obtain⟨t2,e2,Q2⟩:=Al (step:=fun s=>IV q s) q.symbols.length (fun i=>∀x,q.symbols[i]? =some x->x.args.length<=12) (fun t=>t=.inl ()->∀s∈q.symbols,s.args.length<=12)
  (fun i hi=>by
   obtain⟨x,hx,_⟩:=Aa hi;simp only[IV,ltD hx,AI,AN hx,Aq hx hs,Dp];split;exact .inr ⟨_,rfl,by simp⟩;rename_i h12;obtain⟨t3,e3,_⟩:=Al (step:=fun s=>IW (i:Int) q s) x.args.length (fun _=>True) (fun _=>True)
    (fun j hj=>by obtain⟨y,hy,_⟩:=Aa hj;simp only[IW,AN hx,ltD hy,AI,AN hy,Aq hy (show x.args.length<=9223372036854775807 by omega)];simp only[CS];split;exact .inr ⟨_,rfl,trivial⟩;exact .inl ⟨rfl,trivial⟩)
    (fun _=>⟨.inl (),by simp only[IW,AN hx,ltI,AJ],trivial⟩)
   unfold aQ4;rw[e3,AB];rcases t3 with _|_
   exact .inl ⟨rfl,fun y hy=>by rw[hx]at hy;cases hy;omega⟩;exact .inr ⟨_,rfl,by simp⟩)
  (fun hP=>⟨.inl (),by simp only[IV,ltI,AJ],fun _=>GC hP⟩)
 obtain⟨t4,e4,_⟩:=Al (step:=fun s=>IX q s) q.frees.length (fun _=>True) (fun _=>True)
  (fun i hi=>by obtain⟨x,hx,_⟩:=Aa hi;simp only[IX,ltD hx,AI,AN hx,Aq hx hf];simp only[CS];split;exact .inr ⟨_,rfl,trivial⟩;exact .inl ⟨rfl,trivial⟩)
  (fun _=>⟨.inl (),by simp only[IX,ltI,AJ],trivial⟩)
 obtain⟨t5,e5,_⟩:=Al (step:=fun s=>IY q s) q.nodes.length (fun _=>True) (fun _=>True)
  (fun i hi=>by obtain⟨x,hx,_⟩:=Aa hi;simp only[IY,ltD hx,AI,AN hx,Aq hx hn];simp only[CS];split;exact .inr ⟨_,rfl,trivial⟩;exact .inl ⟨rfl,trivial⟩)
  (fun _=>⟨.inl (),by simp only[IY,ltI,AJ],trivial⟩)
 obtain⟨t6,e6,Q6⟩:=Al (step:=fun s=>IZ q s) q.trans.length (fun i=>∀x,q.trans[i]? =some x->x.sets.length<=12) (fun t=>t=.inl ()->∀s∈q.trans,s.sets.length<=12)
  (fun i hi=>by obtain⟨x,hx,_⟩:=Aa hi;simp only[IZ,ltD hx,AI,AN hx,Aq hx ht,Dp];split;exact .inr ⟨_,rfl,by simp⟩;exact .inl ⟨rfl,fun y hy=>by rw[hx]at hy;cases hy;omega⟩)
  (fun hP=>⟨.inl (),by simp only[IZ,ltI,AJ],fun _=>GC hP⟩)
 unfold aQ2 aQ3 aQ5 aQ6 aQ7;rw[e1,AB,e2,e4,e5,e6];simp only[AB];rcases t1 with _|_<;>rcases t2 with _|_<;>rcases t4 with _|_<;>rcases t5 with _|_<;>rcases t6 with _|_<;>simp only[CK,D6]<;>
  first
  |exact⟨0,rfl,by simp⟩
  |exact⟨1,rfl,fun _=>⟨by omega,by omega,by omega,by omega,by omega,by omega,by omega,Q2 rfl,Q6 rfl⟩⟩
theorem aVt(s:List UInt8):∃b,Z5 s=some b:=by
 unfold Z5;simp only[Dp];split;exact⟨_,rfl⟩;split;exact⟨_,rfl⟩;obtain⟨t1,e1,_⟩:=Al (step:=fun i=>JD s i) s.length (fun _=>True) (fun _=>True)
  (fun i hi=>by
   obtain⟨x,hx,_⟩:=Aa hi;simp only[JD,ltD hx,AI,AN hx,Aq hx (show s.length<=9223372036854775807 by omega)];simp only[CS];repeat' split
   all_goals first|exact .inl ⟨rfl,trivial⟩|exact .inr ⟨_,rfl,trivial⟩)
  (fun _=>⟨.inl (),by simp only[JD,ltI,AJ],trivial⟩)
 unfold aR3;rw[e1,AB];rcases t1 with _|_<;>exact⟨_,rfl⟩
theorem RH(s:List UInt8):∃b,Yu s=some b:=by
 unfold Yu Qs;rw[AB];generalize hw:([([97,99,99,101,112,116]:List UInt8),([97,108,115,111]:List UInt8),([97,110,100]:List UInt8),([98,111,111,108]:List UInt8),([100,111]:List UInt8),([101,118,101,110,116]:List UInt8),([101,120,105,115,116,115]:List UInt8),([102,97,108,115,101]:List UInt8),([102,111,114,97,108,108]:List UInt8),([102,114,101,101]:List UInt8),([105,102]:List UInt8),([105,110,116]:List UInt8),([110,101,120,116]:List UInt8),([110,111,116]:List UInt8),([111,110]:List UInt8),([111,114]:List UInt8),([113,101,97]:List UInt8),([115,107,105,112]:List UInt8),([115,116,97,114,116]:List UInt8),([115,116,114,105,110,103]:List UInt8),([116,111]:List UInt8),([116,114,117,101]:List UInt8)]:List (List UInt8))=ws;have hl:ws.length<=9223372036854775807:=by rw[<-hw];simp
 obtain⟨t1,e1,_⟩:=Al (step:=fun i=>I7 s ws i) ws.length (fun _=>True) (fun _=>True)
  (fun i hi=>by obtain⟨x,hx,_⟩:=Aa hi;simp only[I7,ltD hx,AI,AN hx,Aq hx hl];simp only[CS];split;exact .inr ⟨_,rfl,trivial⟩;exact .inl ⟨rfl,trivial⟩)
  (fun _=>⟨.inl (),by simp only[I7,ltI,AJ],trivial⟩)
 unfold aR0;rw[e1,AB];rcases t1 with _|_
 obtain⟨b,hb⟩:=aVt s;rw[CK,hb,AB];cases b<;>exact⟨_,rfl⟩;exact⟨_,rfl⟩
def Th(l:List Xm)(n:List UInt8):Option Nat:=if l.any (fun d=>decide (d.name=n))=true then some (l.findIdx fun d=>decide (d.name=n))else none
theorem bBe(l:List Xm)(n:List UInt8)(hl:l.length<=9223372036854775807):Zc l n=some (match Th l n with|some i=>(i:Int)|none=> -1):=by
 unfold Zc aR9;rw[Kv l (fun d=>decide (d.name=n))
  (fun i x hx=>by simp only[LO,ltD hx,AI,AN hx,Aq hx hl];simp only[CS];cases decide (x.name=n)<;>rfl)
  (by simp only[LO,ltI,AJ]),AB]
 unfold Th;cases l.any _<;>rfl
theorem aNz{l:List Xm}{n:List UInt8}{j:Nat}{d:Xm}(hj:l[j]? =some d)(hn:d.name=n):∃i,Th l n=some i/\i<=j:=by have ha:l.any (fun d=>decide (d.name=n))=true:=List.any_eq_true.2 ⟨d,List.mem_of_getElem? hj,by simpa using hn⟩;refine⟨l.findIdx fun d=>decide (d.name=n),by unfold Th;rw[if_pos ha],?_⟩;refine Nat.le_of_not_lt fun hlt=>?_;have:=List.not_of_lt_findIdx hlt;obtain⟨h1,rfl⟩:=List.getElem?_eq_some_iff.1 hj;simp[hn]at this
def Ni(l:List Xm):Prop:=∀j d,l[j]? =some d->Th l d.name=some j
theorem aZ1(l:List Xm)(hl:l.length<=9223372036854775807):∃r,Y8 l=some r/\(r.1=0->Ni l):=by
 unfold Y8;rw[Dp];split;exact⟨_,rfl,by simp⟩;obtain⟨t1,e1,Q1⟩:=Al (step:=fun i=>E2 l i) l.length (fun i=>∀d,l[i]? =some d->Th l d.name=some i) (fun t=>match t with| .inl _=>Ni l| .inr r=>r.1≠0)
  (fun i hi=>by
   obtain⟨x,hx,_⟩:=Aa hi;obtain⟨b,hb⟩:=RH x.name;simp only[E2,ltD hx,AI,AN hx,Aq hx hl,hb,AB,bBe l _ hl];cases b with
   |false=>exact .inr ⟨_,rfl,by simp⟩
   |true=>
    simp only[Bool.not_true,AJ]
    obtain⟨k,hk,hki⟩:=aNz hx rfl
    rw[hk]
    dsimp only
    rw[Dp]
    split
    exact .inr ⟨_,rfl,by simp⟩
    ·rename_i hge
     rw[Dp]
     split
     exact .inr ⟨_,rfl,by simp⟩
     ·obtain⟨t2,e2,_⟩:=Al (step:=fun s=>E3 l (i:Int) s) x.types.length (fun _=>True) (fun _=>True)
       (fun j hj=>by
        obtain⟨y,hy,_⟩:=Aa hj;simp only[E3,AN hx,ltD hy,AI,AN hy,Aq hy (show x.types.length<=9223372036854775807 by omega)];simp only[CS];repeat' split
        all_goals first|exact .inl ⟨rfl,trivial⟩|exact .inr ⟨_,rfl,trivial⟩)
       (fun _=>⟨.inl (),by simp only[E3,AN hx,ltI,AJ],trivial⟩)
      unfold aKp
      rw[e2,AB]
      rcases t2 with _|_
      refine .inl ⟨rfl,fun d hd=>?_⟩
      rw[hx]at hd;cases hd
      have:k=i:=by omega
      rw[hk,this]
      exact .inr ⟨_,rfl,by simp⟩)
  (fun hP=>⟨.inl (),by simp only[E2,ltI,AJ],fun j d hd=>hP j (Dj hd) d hd⟩)
 unfold aKn;rw[e1,AB];rcases t1 with _|r
 exact⟨_,rfl,fun _=>Q1⟩;exact⟨_,rfl,fun h=>absurd h Q1⟩
theorem aPm(op:Int):∃r,Zy op 0 0=some r:=by unfold Zy;rw[show Ql 0 0=some (AA .add .i64 0 0,true) by simp[Ql,AE],show Zx 0 0=some (AA .sub .i64 0 0,true) by simp[Zx,AE],show Qm 0 0=some (0,true) by simp[Qm,AE],show Qn 0 0=some (0,0,7) by simp[Qn,AE]];simp only[AB,Q3,Bool.not_true,AJ];refine K3 ?_;repeat' first|exact⟨_,rfl,trivial⟩|refine BY (fun _=>?_) (fun _=>?_)|refine Ra (fun _=>?_) (fun _=>?_)
theorem bDm(a b:Int):∃r,Zs ⟨a,0,[],false⟩ ⟨b,0,[],false⟩=some r:=by
 unfold Zs;have hb:Yz [] []=some false:=by unfold Yz aMl;rw[Aj];simp[HL,AE,CW,AG,CX]
 simp only[hb,AB];refine K3 ?_;repeat' first|exact⟨_,rfl,trivial⟩|refine BY (fun _=>?_) (fun _=>?_)|refine Di (fun _=>?_) (fun _=>?_)|refine Ra (fun _=>?_) (fun _=>?_)
theorem bDt(op a b:Int):∃r,Qe op ⟨a,0,[],false⟩ ⟨b,0,[],false⟩=some r:=by unfold Qe;obtain⟨r1,h1⟩:=bDm a b;obtain⟨r2,h2⟩:=bDm b a;obtain⟨r3,h3⟩:=aPm 9;obtain⟨r4,h4⟩:=aPm op;have h4':Zy op 0 0=some r4:=h4;have hc:∀{β:Type} (k:Option β),AU (([]:List UInt8).length+([]:List UInt8).length<=9223372036854775807) k=k:=fun k=>Ai (by simp) k;simp only[Zo,AB,h1,h2,h3,h4',hc,AJ];refine K3 ?_;repeat' first|exact⟨_,rfl,trivial⟩|refine BY (fun _=>?_) (fun _=>?_)|refine Di (fun _=>?_) (fun _=>?_)|refine Ra (fun _=>?_) (fun _=>?_)
theorem aUr(op a b:Int):∃r,Q4 op a b=some r/\(r≠0->a≠0):=by unfold Q4;obtain⟨r,hr⟩:=bDt op a b;rw[hr];simp only[AB];refine BY (fun _=>⟨_,rfl,by simp⟩) (fun h=>?_);repeat' first|exact⟨_,rfl,fun _=>by omega⟩|refine BY (fun _=>?_) (fun _=>?_)|refine Di (fun _=>?_) (fun _=>?_)
theorem aE0{α:Type}{l:List α}{i:Int}(h0:0<=i)(h1:i<l.length):∃x,l[i.toNat]? =some x/\i=(i.toNat:Int):=by obtain⟨x,hx,_⟩:=Aa (l:=l) (i:=i.toNat) (by omega);exact⟨x,hx,by omega⟩
theorem EY{α β:Type}{l:List α}{i:Int}{x:α}(h:l[i.toNat]? =some x)(h0:0<=i)(k:α->Option β):AT l i k=k x:=by have e:AT l ((i.toNat:Nat):Int) k=k x:=AN h k;rwa [show((i.toNat:Nat):Int)=i by omega]at e
theorem aNu(q:AD)(hq:q.nodes.length<=2048):∀(n:Nat) (i:Int),-9223372036854775000<=i->0<n->i+1<n->∃r,aPk n q i=some r/\(r.1≠0->0<=r.2.2/\r.2.2<=i/\i<q.nodes.length):=by
 intro n;induction n with
 |zero=>intro i h0 h;omega
 |succ n ih=>
  intro i h0 _ h
  show∃r,aR4 (aPk n) q i=some r/\_
  unfold aR4
  refine BY (fun _=>⟨_,rfl,by simp⟩) (fun hi0=>?_)
  refine BY (fun _=>⟨_,rfl,by simp⟩) (fun hi1=>?_)
  obtain⟨x,hx,_⟩:=aE0 (l:=q.nodes) (i:=i) (by omega) (by omega)
  rw[EY hx (by omega)]
  obtain⟨b,hb⟩:=aPl x.value
  have e1:AA .sub .i64 i 1=i-1:=aEj (by omega) (by omega)
  rw[e1]
  refine BY (fun _=>?_) (fun _=>?_)
  refine Di (fun _=>⟨_,rfl,by simp⟩) (fun _=>?_)
  refine Di (fun _=>⟨_,rfl,by simp⟩) (fun _=>?_)
  refine Bb hb ?_
  exact E9 (fun _=>⟨_,rfl,by simp⟩) (fun _=>⟨_,rfl,fun _=>⟨by simp only;omega,Int.le_refl _,by omega⟩⟩)
  refine E9 (fun _=>⟨_,rfl,by simp⟩) (fun _=>?_)
  refine BY (fun _=>?_) (fun _=>?_)
  refine BY (fun _=>⟨_,rfl,by simp⟩) (fun _=>?_)
  refine BY (fun _=>⟨_,rfl,by simp⟩) (fun _=>?_)
  refine Di (fun _=>⟨_,rfl,by simp⟩) (fun _=>?_)
  obtain⟨y,hy,_⟩:=aE0 (l:=q.quants) (i:=x.a) (by omega) (by omega)
  rw[EY hy (by omega)]
  exact⟨_,rfl,fun _=>⟨by simp only;omega,Int.le_refl _,by omega⟩⟩
  refine BY (fun _=>?_) (fun _=>?_)
  refine BY (fun _=>⟨_,rfl,by simp⟩) (fun _=>?_)
  refine BY (fun _=>⟨_,rfl,by simp⟩) (fun _=>?_)
  refine Di (fun _=>⟨_,rfl,by simp⟩) (fun _=>?_)
  obtain⟨y,hy,_⟩:=aE0 (l:=q.frees) (i:=x.a) (by omega) (by omega)
  rw[EY hy (by omega)]
  exact⟨_,rfl,fun _=>⟨by simp only;omega,Int.le_refl _,by omega⟩⟩
  refine BY (fun _=>⟨_,rfl,by simp⟩) (fun _=>?_)
  refine BY (fun _=>⟨_,rfl,by simp⟩) (fun _=>?_)
  obtain⟨r5,h5,p5⟩:=ih (i-1) (by omega) (by omega) (by omega)
  refine Bb h5 ?_
  refine BY (fun _=>?_) (fun _=>?_)
  refine BY (fun _=>⟨_,rfl,by simp⟩) (fun hk=>?_)
  refine Di (fun _=>⟨_,rfl,by simp⟩) (fun _=>?_)
  refine Di (fun _=>⟨_,rfl,by simp⟩) (fun _=>?_)
  obtain⟨r6,h6,_⟩:=aUr x.op r5.1 r5.1
  refine Bb h6 ?_
  have:=p5 hk
  exact⟨_,rfl,fun _=>by simp only;omega⟩
  refine BY (fun _=>⟨_,rfl,by simp⟩) (fun hk=>?_)
  have hp:=p5 hk
  have e2:AA .sub .i64 r5.2.2 1=r5.2.2-1:=aEj (by omega) (by omega)
  rw[e2]
  refine Di (fun _=>⟨_,rfl,by simp⟩) (fun _=>?_)
  refine Di (fun _=>⟨_,rfl,by simp⟩) (fun _=>?_)
  obtain⟨r7,h7,p7⟩:=ih (r5.2.2-1) (by omega) (by omega) (by omega)
  refine Bb h7 ?_
  obtain⟨r8,h8,p8⟩:=aUr x.op r7.1 r5.1
  refine Bb h8 ?_
  refine⟨_,rfl,fun h=>?_⟩
  have:=p7 (p8 h)
  simp only;omega
theorem UC(q:AD)(hq:q.nodes.length<=2048)(f i:Int)(hi: -9223372036854775808<=i/\i<=9223372036854775807):∃r,Qa q f i=some r/\(r.1≠0->0<=i/\i<q.nodes.length):=by
 unfold Qa Z6;by_cases h:0<=i/\i<q.nodes.length;obtain⟨r,hr,_⟩:=aNu q hq 100000 i (by omega) (by omega) (by omega);refine Bb hr ?_;refine BY (fun _=>⟨_,rfl,by simp⟩) (fun _=>?_);exact Di (fun _=>⟨_,rfl,by simp⟩) (fun _=>⟨_,rfl,fun _=>h⟩);have hz:aPk 100000 q i=some (0,0,0):=by show aR4 (aPk 99999) q i=_;unfold aR4;rw[Dp,Dp];split;rfl;rw[if_pos (by omega)]
 refine Bb hz ?_;exact⟨(0,0),by simp[AE],by simp⟩
theorem MK(s:X5)(v:Int)(hs:s.args.length<=9223372036854775807):∃r,Z2 s v=some r:=by
 unfold Z2 aR1;obtain⟨t,ht,_⟩:=Al (step:=fun i=>JB v s i) s.args.length (fun _=>True) (fun _=>True)
  (fun i hi=>by
   obtain⟨x,hx,_⟩:=Aa hi;simp only[JB,ltD hx,AI,AN hx,Aq hx hs];simp only[CS];repeat' split
   all_goals first|exact .inl ⟨rfl,trivial⟩|exact .inr ⟨_,rfl,trivial⟩)
  (fun _=>⟨.inl (),by simp only[JB,ltI,AJ],trivial⟩)
 rw[ht,AB];rcases t with _|_<;>exact⟨_,rfl⟩
theorem aCk(q:AD)(s:X5)(hs:s.args.length<=9223372036854775807)(hq:q.nodes.length<=2048)(f t:Int)(hf:0<=f)(ht:t<=q.nodes.length):∃r,Zh q s f t=some r:=by
 unfold Zh aSc;obtain⟨u,hu,_⟩:=BB (step:=fun i=>JJ t q s i) (fun i=>0<=i) (fun i=>(t-i).toNat) (fun _=>True)
  (by
   intro i hi;by_cases h:i<t
   ·obtain⟨x,hx,_⟩:=aE0 (l:=q.nodes) (i:=i) hi (by omega);obtain⟨b,hb⟩:=MK s x.a hs;simp only[JJ,h,decide_true,AI,EY hx hi,hb,AB,LV (a:=i) (b:=1) (by omega) (by omega)];simp only[CS];repeat' split
    all_goals first|exact .inl ⟨_,rfl,trivial⟩|exact .inr ⟨_,rfl,by omega,by omega⟩
   exact .inl ⟨.inl (),by simp[JJ,h,AE],trivial⟩)
  f hf
 rw[hu,AB];rcases u with _|_<;>exact⟨_,rfl⟩
def aUn(n:Int):Prop:= -9223372036854775808<=n/\n<=9223372036854775807
structure MO(t:Xr):Prop where
 guard:aUn t.guard
 sets:∀s∈t.sets,aUn s.expr
theorem aO6(q:AD)(hF:Dt q)(t:Xr)(hT:MO t)(hts:t.sets.length<=12)(f:Int)(hf:0<=f)(hfl:f<=q.nodes.length):
 ∃r,Y9 q t f=some r/\(r.2=true->0<=t.symbol/\t.symbol<q.symbols.length/\0<=r.1/\r.1<=q.nodes.length/\(t.guard= -1\/0<=t.guard)/\(0<=t.from_/\t.from_<q.states.length)/\0<=t.to/\t.to<q.states.length):=by
 have hn:q.nodes.length<=2048:=Nat.le_trans hF.nodes (by decide)
 have hfr:q.frees.length<=12:=hF.frees
 unfold Y9
 refine BY (fun _=>⟨_,rfl,by simp⟩) (fun ha=>?_)
 refine BY (fun _=>⟨_,rfl,by simp⟩) (fun hb=>?_)
 refine BY (fun _=>⟨_,rfl,by simp⟩) (fun hc=>?_)
 refine BY (fun _=>⟨_,rfl,by simp⟩) (fun hd=>?_)
 refine BY (fun _=>⟨_,rfl,by simp⟩) (fun hs0=>?_)
 refine BY (fun _=>⟨_,rfl,by simp⟩) (fun hs1=>?_)
 obtain⟨o2,h2,p2⟩:∃o,XY f f (!decide (t.guard=(-1))) q t=some o/\∀x,o=.inl x->0<=x/\x<=q.nodes.length/\(t.guard= -1\/0<=t.guard):=by unfold XY;refine Di (fun _=>?_) (fun hg=>⟨_,rfl,fun x hx=>by cases hx;exact⟨hf,hfl,.inl hg⟩⟩);obtain⟨r1,h1,p1⟩:=UC q hn f t.guard hT.guard;refine Bb h1 ?_;refine Di (fun _=>⟨_,rfl,by simp⟩) (fun h3=>?_);refine BY (fun _=>⟨_,rfl,by simp⟩) (fun _=>?_);have:=p1 (by omega);refine⟨_,rfl,fun x hx=>?_⟩;cases hx;refine⟨?_,?_,.inr this.1⟩<;>(rw[LV (by omega) (by omega)];omega)
 refine Bb h2 ?_
 rcases o2 with o3|_
 have h3:=p2 o3 rfl
 rw[CK]
 unfold aRk
 obtain⟨u,hu,pu⟩:=BB (step:=fun s:Int×Int=>Iv f q t s.1 s.2) (fun s=>∃i:Nat,s.2=(i:Int)/\i<=t.sets.length/\0<=s.1/\s.1<=q.nodes.length) (fun s=>(t.sets.length-s.2).toNat)
  (fun o=>∀x,o=.inl x->0<=x/\x<=q.nodes.length)
  (by
   rintro⟨w,s⟩ ⟨i,rfl,hi,hw0,hw1⟩;simp only at hw0 hw1⊢;by_cases he:i=t.sets.length;subst he;exact .inl ⟨.inl w,by simp only[Iv,ltI,AJ],fun x hx=>by cases hx;exact⟨hw0,hw1⟩⟩;obtain⟨x,hx,_⟩:=Aa (l:=t.sets) (i:=i) (by omega);obtain⟨r6,h6,p6⟩:=UC q hn w x.expr (hT.sets x (List.mem_of_getElem? hx));have h6':Qa q w x.expr=some r6:=h6;simp only[Iv,ltD hx,AI,AN hx,h6',AB,Aq hx (show t.sets.length<=9223372036854775807 by omega)];by_cases g1:x.free<0;exact .inl ⟨.inr (),by simp[g1,AE],by simp⟩;by_cases g2:(q.frees.length:Int)<=x.free;exact .inl ⟨.inr (),by simp[g1,g2,AE],by simp⟩;by_cases g3:r6.1=0;exact .inl ⟨.inr (),by simp[g1,g2,g3,AE],by simp⟩;by_cases g4:64<r6.2;exact .inl ⟨.inr (),by simp[g1,g2,g3,g4,AE],by simp⟩;obtain⟨y,hy,_⟩:=aE0 (l:=q.frees) (i:=x.free) (by omega) (by omega);by_cases g5:r6.1=y.init_.kind;obtain⟨t3,e3,_⟩:=Al (step:=fun s=>Iw f (i:Int) q t x s) i (fun _=>True) (fun _=>True)
    (fun j hj=>by
     obtain⟨z,hz,_⟩:=Aa (l:=t.sets) (i:=j) (by omega);have hlt:decide ((j:Int)<(i:Int))=true:=by simp;omega
     simp only[Iw,hlt,AI,AN hz,Aq hz (show t.sets.length<=9223372036854775807 by omega)];simp only[CS];split;exact .inr ⟨_,rfl,trivial⟩;exact .inl ⟨rfl,trivial⟩)
    (fun _=>⟨.inl (),by simp only[Iw,ltI,AJ],trivial⟩)
   have e3':aRl f (i:Int) q t x 0=some t3:=e3;have hp:=p6 g3;rcases t3 with _|_
   refine .inr ⟨(AA .add .i64 x.expr 1,((i+1:Nat):Int)),?_,⟨i+1,rfl,by omega,?_,?_⟩,by simp only;omega⟩;rw[Dp,if_neg g1,Dp,if_neg g2,Dp,if_neg g3,Dp,if_neg g4,EY hy (show 0<=x.free by omega)];simp only[g5,decide_true,Bool.not_true,AJ,e3',AB,CK];simp only;rw[LV (by omega) (by omega)];omega;simp only;rw[LV (by omega) (by omega)];omega;refine .inl ⟨.inr (),?_,by simp⟩;rw[Dp,if_neg g1,Dp,if_neg g2,Dp,if_neg g3,Dp,if_neg g4,EY hy (show 0<=x.free by omega)];simp only[g5,decide_true,Bool.not_true,AJ,e3',AB,D6];refine .inl ⟨.inr (),?_,by simp⟩;rw[Dp,if_neg g1,Dp,if_neg g2,Dp,if_neg g3,Dp,if_neg g4,EY hy (show 0<=x.free by omega)];simp only[g5,decide_false,Bool.not_false,AI])
  (o3,(0:Int)) ⟨0,rfl,by omega,h3.1,h3.2.1⟩
 refine Bb hu ?_
 rcases u with o13|_
 rw[CK]
 have h13:=pu o13 rfl
 obtain⟨x,hx,_⟩:=aE0 (l:=q.symbols) (i:=t.symbol) (by omega) (by omega)
 rw[EY hx (by omega)]
 obtain⟨r16,h16⟩:=aCk q x (Nat.le_trans (hF.args x (List.mem_of_getElem? hx)) (by decide)) hn f o13 hf h13.2
 refine Bb h16 ⟨_,rfl,fun _=>⟨by omega,by omega,h13.1,h13.2,h3.2.2,⟨by omega,by omega⟩,by omega,by omega⟩⟩
 exact⟨_,rfl,by simp⟩
 exact⟨_,rfl,by simp⟩
structure T8(q:AD)(a:B0):Prop where
 two:a.kind=2->0<=a.n/\a.n<q.quants.length
 three:a.kind=3->0<=a.n/\a.n<q.frees.length
 one:a.kind=1->vR a.value=true
theorem aX1(q:AD)(a:B0)(k:Int):∃r,Qf q a k=some r/\(r=true->T8 q a):=by unfold Qf;have hb:=aV0 a.value;refine BY (fun h=>?_) (fun h1=>?_);have ho:vR a.value=true->T8 q a:=fun hv=>⟨fun h2=>by omega,fun h2=>by omega,fun _=>hv⟩;refine BY (fun _=>?_) (fun _=>⟨_,rfl,by simp⟩);refine Bb hb ?_;exact Ra (fun hv=>⟨_,rfl,fun _=>ho hv⟩) (fun _=>⟨_,rfl,by simp⟩);refine E9 (fun _=>⟨_,rfl,by simp⟩) (fun _=>?_);refine BY (fun h2=>?_) (fun h2=>?_);refine BY (fun h3=>?_) (fun _=>⟨_,rfl,by simp⟩);refine BY (fun h4=>?_) (fun _=>⟨_,rfl,by simp⟩);obtain⟨y,hy,_⟩:=aE0 h3 h4;rw[EY hy h3];exact⟨_,rfl,fun _=>⟨fun _=>⟨h3,h4⟩,fun h=>by omega,fun h=>by omega⟩⟩;refine BY (fun h5=>?_) (fun h5=>?_);refine BY (fun h3=>?_) (fun _=>⟨_,rfl,by simp⟩);refine BY (fun h4=>?_) (fun _=>⟨_,rfl,by simp⟩);obtain⟨y,hy,_⟩:=aE0 h3 h4;rw[EY hy h3];exact⟨_,rfl,fun _=>⟨fun h=>by omega,fun _=>⟨h3,h4⟩,fun h=>by omega⟩⟩;exact BY (fun _=>⟨_,rfl,fun _=>⟨fun h=>by omega,fun h=>by omega,fun h=>by omega⟩⟩) (fun _=>⟨_,rfl,by simp⟩)
structure UL(q:AD)(s:X5):Prop where
 event:0<=s.event
 decl:∃d,q.decls[s.event.toNat]? =some d/\s.args.length=d.types.length
 args:∀a∈s.args,T8 q a
theorem bBg(q:AD)(s:X5)(hs:s.args.length<=12):∃r,Ze q s=some r/\(r=true->UL q s):=by
 unfold Ze;refine BY (fun _=>⟨_,rfl,by simp⟩) (fun h0=>?_);refine BY (fun _=>⟨_,rfl,by simp⟩) (fun h1=>?_);obtain⟨d,hd,_⟩:=aE0 (l:=q.decls) (i:=s.event) (by omega) (by omega);rw[EY hd (by omega)];refine Di (fun _=>⟨_,rfl,by simp⟩) (fun h2=>?_);obtain⟨t,ht,hQ⟩:=Al (step:=fun i=>JI q s i) s.args.length (fun i=>∀a,s.args[i]? =some a->T8 q a) (fun t=>t=.inl ()->∀a∈s.args,T8 q a)
  (fun i hi=>by
   obtain⟨x,hx,_⟩:=Aa hi;obtain⟨y,hy,_⟩:=Aa (l:=d.types) (i:=i) (by omega);obtain⟨b,hb,hbo⟩:=aX1 q x y;simp only[JI,ltD hx,AI,AN hx,EY hd (show 0<=s.event by omega),AN hy,hb,AB,Aq hx (show s.args.length<=9223372036854775807 by omega)];cases b with
   |false=>exact .inr ⟨_,rfl,by simp⟩
   |true=>exact .inl ⟨rfl,fun a ha=>by rw[hx]at ha;cases ha;exact hbo rfl⟩)
  (fun hP=>⟨.inl (),by simp only[JI,ltI,AJ],fun _=>GC hP⟩)
 refine Bb ht ?_;rcases t with _|_
 exact⟨_,rfl,fun _=>⟨by omega,⟨d,hd,by omega⟩,hQ rfl⟩⟩;exact⟨_,rfl,by simp⟩
theorem KI(a b:X5)(ha:a.args.length<=9223372036854775807):∃r,Zm a b=some r:=by
 unfold Zm;refine K3 ?_;refine Di (fun _=>⟨_,rfl,trivial⟩) (fun _=>?_);refine Di (fun _=>⟨_,rfl,trivial⟩) (fun h=>?_);obtain⟨t,ht,_⟩:=Al (step:=fun i=>JO a b i) a.args.length (fun _=>True) (fun _=>True)
  (fun i hi=>by obtain⟨x,hx,_⟩:=Aa hi;obtain⟨y,hy,_⟩:=Aa (l:=b.args) (i:=i) (by omega);simp only[JO,ltD hx,AI,AN hx,AN hy,Aq hx ha];simp only[CS];split;exact .inr ⟨_,rfl,trivial⟩;exact .inl ⟨rfl,trivial⟩)
  (fun _=>⟨.inl (),by simp only[JO,ltI,AJ],trivial⟩)
 refine Bb ht ?_;rcases t with _|_<;>exact⟨_,rfl,trivial⟩
theorem aYs(q:AD)(hF:Dt q)(hT:∀t∈q.trans,0<=t.symbol/\t.symbol<q.symbols.length):∃r,Xb q=some r/\(r=true->∀s∈q.symbols,UL q s):=by
 have hsy:=hF.symbols;have htr:=hF.trans;have hqu:=hF.quants;unfold Xb;rw[Ai ⟨by omega,BI (by omega) (by decide)⟩];obtain⟨o9,h9,hl9⟩:=BB (step:=fun s:Int×List Bool×List Int=>IM q s.1 s.2.1 s.2.2) (fun s=>∃i:Nat,s.1=(i:Int)/\i<=q.trans.length/\s.2.1.length=q.symbols.length/\s.2.2.length<=i) (fun s=>(q.trans.length-s.1).toNat) (fun o=>o.length<=12)
  (by
   rintro⟨s,u,w⟩ ⟨i,rfl,hi,hu,hw⟩;simp only at hu hw⊢;by_cases he:i=q.trans.length;subst he;exact .inl ⟨w,by simp only[IM,ltI,AJ],by omega⟩;obtain⟨x,hx,_⟩:=Aa (l:=q.trans) (i:=i) (by omega);have hxs:=hT x (List.mem_of_getElem? hx);obtain⟨y,hy,_⟩:=aE0 (l:=u) (i:=x.symbol) hxs.1 (by omega);have hb5:∃w',VD (i:Int) x.symbol (!y) q u w=some w'/\w'.length<=i+1:=by unfold VD;refine E9 (fun _=>?_) (fun _=>⟨_,rfl,by omega⟩);rw[KG (by simp;omega) (by decide)];exact⟨_,rfl,by simpa using hw⟩
   obtain⟨w',hb,hw'⟩:=hb5;refine .inr ⟨(((i+1:Nat):Int),u.set x.symbol.toNat true,w'),?_,⟨i+1,rfl,by omega,by simpa using hu,hw'⟩,by simp only;omega⟩;simp only[IM,ltD hx,AI,Aq hx (show q.trans.length<=9223372036854775807 by omega)];unfold aG1;rw[AN hx,Ai (by omega),EY hy hxs.1,hb,AB,Ai (by omega),Ai (by omega)];rfl)
  ((0:Int),List.replicate (q.symbols.length:Int).toNat false,([]:List Int)) ⟨0,rfl,by omega,by simp,by simp⟩
 refine Bb h9 ?_;obtain⟨t1,e1,_⟩:=Al (step:=fun s=>IN q o9 s) o9.length (fun _=>True) (fun _=>True)
  (fun i hi=>by obtain⟨x,hx,_⟩:=Aa hi;simp only[IN,ltD hx,AI,AN hx,Aq hx (show o9.length<=9223372036854775807 by omega)];simp only[CS];split;exact .inr ⟨_,rfl,trivial⟩;exact .inl ⟨rfl,trivial⟩)
  (fun _=>⟨.inl (),by simp only[IN,ltI,AJ],trivial⟩)
 refine Bb e1 ?_;rcases t1 with _|_
 case inr=>exact⟨_,rfl,by simp⟩
 rw[CK];have hsl:q.symbols.length<=9223372036854775807:=by omega
 obtain⟨t2,e2,Q2⟩:=Al (step:=fun s=>IO q s) q.symbols.length (fun i=>∀s,q.symbols[i]? =some s->UL q s) (fun t=>t=.inl ()->∀s∈q.symbols,UL q s)
  (fun i hi=>by
   obtain⟨x,hx,_⟩:=Aa hi;have hxa:=hF.args x (List.mem_of_getElem? hx);obtain⟨b,hb,hbo⟩:=bBg q x hxa;simp only[IO,ltD hx,AI,AN hx,hb,AB,Aq hx hsl];cases b with
   |false=>exact .inr ⟨_,rfl,by simp⟩
   |true=>
    simp only[Bool.not_true,AJ]
    obtain⟨t3,e3,_⟩:=Al (step:=fun s=>IP (i:Int) q s) i (fun _=>True) (fun _=>True)
     (fun j hj=>by
      obtain⟨y,hy,_⟩:=Aa (l:=q.symbols) (i:=j) (by omega);obtain⟨c,hc⟩:=KI x y (by omega);have hlt:decide ((j:Int)<(i:Int))=true:=by simp;omega
      simp only[IP,hlt,AI,AN hx,AN hy,hc,AB,Aq hy hsl];simp only[CS];split;exact .inr ⟨_,rfl,trivial⟩;exact .inl ⟨rfl,trivial⟩)
     (fun _=>⟨.inl (),by simp only[IP,ltI,AJ],trivial⟩)
    unfold aQz
    rw[e3,AB]
    rcases t3 with _|_
    exact .inl ⟨rfl,fun s hs=>by rw[hx]at hs;cases hs;exact hbo rfl⟩
    exact .inr ⟨_,rfl,by simp⟩)
  (fun hP=>⟨.inl (),by simp only[IO,ltI,AJ],fun _=>GC hP⟩)
 refine Bb e2 ?_;rcases t2 with _|_
 case inr=>exact⟨_,rfl,by simp⟩
 rw[CK];obtain⟨t4,e4,_⟩:=Al (step:=fun s=>IQ q s) q.quants.length (fun _=>True) (fun _=>True)
  (fun i hi=>by
   have hlt:decide ((i:Int)<(q.quants.length:Int))=true:=by simp;omega
   obtain⟨o,ho,_⟩:=BB (step:=fun s:Bool×Int=>FJ (i:Int) q s.1 s.2) (fun s=>∃j:Nat,s.2=(j:Int)/\j<=q.symbols.length) (fun s=>(q.symbols.length-s.2).toNat) (fun _=>True)
    (by
     rintro⟨b,s⟩ ⟨j,rfl,hj⟩;simp only;by_cases he:j=q.symbols.length;subst he;exact .inl ⟨b,by simp only[FJ,ltI,AJ],trivial⟩;obtain⟨x,hx,_⟩:=Aa (l:=q.symbols) (i:=j) (by omega);have hxa:=hF.args x (List.mem_of_getElem? hx);obtain⟨c,hc⟩:=MK x (i:Int) (by omega);have hc':Z2 x (i:Int)=some c:=hc;cases b with
     |true=>exact .inr ⟨(true,((j+1:Nat):Int)),by simp only[FJ,ltD hx,AI,Aq hx hsl],⟨j+1,rfl,by omega⟩,by simp only;omega⟩
     |false=>exact .inr ⟨(c,((j+1:Nat):Int)),by simp only[FJ,ltD hx,AI,AJ,AN hx,hc',AB,Aq hx hsl],⟨j+1,rfl,by omega⟩,by simp only;omega⟩)
    (false,(0:Int)) ⟨0,rfl,by omega⟩
   have ho':VE (i:Int) q false 0=some o:=ho;simp only[IQ,hlt,AI,ho',AB,P3 (show i<9223372036854775807 by omega)];simp only[CS];split;exact .inr ⟨_,rfl,trivial⟩;exact .inl ⟨rfl,trivial⟩)
  (fun _=>⟨.inl (),by simp only[IQ,ltI,AJ],trivial⟩)
 refine Bb e4 ?_;rcases t4 with _|_
 exact⟨_,rfl,fun _=>Q2 rfl⟩;exact⟨_,rfl,by simp⟩
theorem NV(l:List (List UInt8))(at':Nat)(h:at'<l.length)(hl:l.length<=9223372036854775807):∃r,Zd l (at':Int)=some r:=by
 unfold Zd;refine K3 ?_;obtain⟨y,hy,_⟩:=Aa h;obtain⟨t,ht,_⟩:=Al (step:=fun i=>JH l (at':Int) i) at' (fun _=>True) (fun _=>True)
  (fun i hi=>by
   obtain⟨x,hx,_⟩:=Aa (l:=l) (i:=i) (by omega);have hlt:decide ((i:Int)<(at':Int))=true:=by simp;omega
   simp only[JH,hlt,AI,AN hx,AN hy,Aq hx hl];simp only[CS];split;exact .inr ⟨_,rfl,trivial⟩;exact .inl ⟨rfl,trivial⟩)
  (fun _=>⟨.inl (),by simp only[JH,ltI,AJ],trivial⟩)
 refine Bb ht ?_;rcases t with _|_<;>exact⟨_,rfl,trivial⟩
theorem aVe(q:AD)(hF:Dt q):∃r,Xs q=some r:=by
 have h1:=hF.quants;have h2:=hF.frees;have h3:=hF.states;unfold Xs;refine K3 ?_;obtain⟨o7,e7,p7⟩:=BB (step:=fun s:Int×List (List UInt8)=>Ih q s.1 s.2) (fun s=>∃i:Nat,s.1=(i:Int)/\i<=q.quants.length/\s.2.length<=i) (fun s=>(q.quants.length-s.1).toNat) (fun o=>∀w,o=.inl w->w.length<=9)
  (by rintro⟨s,w⟩ ⟨i,rfl,hi,hw⟩;simp only at hw⊢;by_cases he:i=q.quants.length;subst he;exact .inl ⟨.inl w,by simp only[Ih,ltI,AJ],fun w' hw'=>by cases hw';omega⟩;obtain⟨x,hx,_⟩:=Aa (l:=q.quants) (i:=i) (by omega);simp only[Ih,ltD hx,AI,AN hx,Aq hx (show q.quants.length<=9223372036854775807 by omega)];rw[KG (by simp;omega) (by decide)];simp only[CS];split;exact .inl ⟨_,rfl,by simp⟩;split;exact .inl ⟨_,rfl,by simp⟩;exact .inr ⟨_,rfl,⟨i+1,rfl,by omega,by simpa using hw⟩,by simp only;omega⟩)
  ((0:Int),([]:List (List UInt8))) ⟨0,rfl,by omega,by simp⟩
 refine Bb e7 ?_;rcases o7 with o8|_
 case inr=>exact⟨_,rfl,trivial⟩
 rw[CK];have hw8:=p7 o8 rfl;obtain⟨o13,e13,p13⟩:=BB (step:=fun s:Int×List (List UInt8)=>Ii q s.1 s.2) (fun s=>∃i:Nat,s.1=(i:Int)/\i<=q.frees.length/\s.2.length<=9+i) (fun s=>(q.frees.length-s.1).toNat) (fun o=>∀w,o=.inl w->w.length<=21)
  (by rintro⟨s,w⟩ ⟨i,rfl,hi,hw⟩;simp only at hw⊢;by_cases he:i=q.frees.length;subst he;exact .inl ⟨.inl w,by simp only[Ii,ltI,AJ],fun w' hw'=>by cases hw';omega⟩;obtain⟨x,hx,_⟩:=Aa (l:=q.frees) (i:=i) (by omega);obtain⟨b,hb⟩:=aPl x.init_;simp only[Ii,ltD hx,AI,AN hx,hb,AB,Aq hx (show q.frees.length<=9223372036854775807 by omega)];rw[KG (by simp;omega) (by decide)];simp only[CS];split;exact .inl ⟨_,rfl,by simp⟩;exact .inr ⟨_,rfl,⟨i+1,rfl,by omega,by simp;omega⟩,by simp only;omega⟩)
  ((0:Int),o8) ⟨0,rfl,by omega,by simpa using hw8⟩
 refine Bb e13 ?_;rcases o13 with o14|_
 case inr=>exact⟨_,rfl,trivial⟩
 rw[CK];have hw14:=p13 o14 rfl;obtain⟨t,ht,_⟩:=Al (step:=fun i=>Ij q o14 i) o14.length (fun _=>True) (fun _=>True)
  (fun i hi=>by
   obtain⟨x,hx,_⟩:=Aa hi;obtain⟨b,hb⟩:=RH x;obtain⟨c,hc⟩:=NV o14 i hi (by omega);simp only[Ij,ltD hx,AI,AN hx,hb,hc,AB,Aq hx (show o14.length<=9223372036854775807 by omega)];simp only[CS];repeat' split
   all_goals first|exact .inl ⟨rfl,trivial⟩|exact .inr ⟨_,rfl,trivial⟩)
  (fun _=>⟨.inl (),by simp only[Ij,ltI,AJ],trivial⟩)
 refine Bb ht ?_;rcases t with _|_
 case inr=>exact⟨_,rfl,trivial⟩
 rw[CK];obtain⟨o30,e30,_⟩:=BB (step:=fun s:Int×List (List UInt8)=>Ik q s.1 s.2) (fun s=>∃i:Nat,s.1=(i:Int)/\i<=q.states.length/\s.2.length=i) (fun s=>(q.states.length-s.1).toNat) (fun _=>True)
  (by
   rintro⟨s,w⟩ ⟨i,rfl,hi,hw⟩;simp only at hw⊢;by_cases he:i=q.states.length;subst he;exact .inl ⟨.inl (),by simp only[Ik,ltI,AJ],trivial⟩;obtain⟨x,hx,_⟩:=Aa (l:=q.states) (i:=i) (by omega);have hg:(w++[x.name])[i]? =some x.name:=by rw[<-hw];simp
   obtain⟨b,hb⟩:=RH x.name;obtain⟨c,hc⟩:=NV (w++[x.name]) i (by simp;omega) (by simp;omega);simp only[Ik,ltD hx,AI,AN hx,Aq hx (show q.states.length<=9223372036854775807 by omega)];rw[KG (by simp;omega) (by decide),AN hg,hb,AB,hc];simp only[AB,CS];split;exact .inl ⟨_,rfl,trivial⟩;split;exact .inl ⟨_,rfl,trivial⟩;exact .inr ⟨_,rfl,⟨i+1,rfl,by omega,by simp;omega⟩,by simp only;omega⟩)
  ((0:Int),([]:List (List UInt8))) ⟨0,rfl,by omega,by simp⟩
 refine Bb e30 ?_;rcases o30 with _|_
 obtain⟨b,hb⟩:=RH q.name;rw[CK];exact Bb hb ⟨_,rfl,trivial⟩;exact⟨_,rfl,trivial⟩
structure Ag(q:AD):Prop where
 decls:Ni q.decls
 quants:q.quants.length<=8
 symbols:∀s∈q.symbols,UL q s
 guards:∀t∈q.trans,t.guard= -1\/0<=t.guard
 ends : ∀ t ∈ q.trans, (0 <= t.symbol /\ t.symbol < q.symbols.length) /\ (0 <= t.from_ /\ t.from_ < q.states.length) /\ 0 <= t.to /\ t.to < q.states.length
 fires:∀t∈q.trans,∃f r,Y9 q t f=some (r,true)
theorem bAy(q:AD)(hF:Dt q)(hW:∀t∈q.trans,MO t):∃r,Yx q=some r/\(r=true->Ag q):=by
 have h1:=hF.decls;have h2:=hF.trans;unfold Yx;obtain⟨r1,e1,p1⟩:=aZ1 q.decls (by omega);refine Bb e1 ?_;refine Di (fun _=>⟨_,rfl,by simp⟩) (fun hz=>?_);refine BY (fun _=>⟨_,rfl,by simp⟩) (fun hq=>?_);refine BY (fun _=>⟨_,rfl,by simp⟩) (fun _=>?_);refine BY (fun _=>⟨_,rfl,by simp⟩) (fun _=>?_);refine BY (fun _=>⟨_,rfl,by simp⟩) (fun _=>?_);refine BY (fun _=>⟨_,rfl,by simp⟩) (fun _=>?_);refine BY (fun _=>⟨_,rfl,by simp⟩) (fun _=>?_);refine BY (fun _=>⟨_,rfl,by simp⟩) (fun _=>?_);refine BY (fun _=>⟨_,rfl,by simp⟩) (fun _=>?_);obtain⟨r2,e2⟩:=aVe q hF;refine Bb e2 ?_;refine E9 (fun _=>⟨_,rfl,by simp⟩) (fun _=>?_);obtain⟨o5,e5,p5⟩:=BB (step:=fun s:Int×Int=>I8 q s.1 s.2) (fun s=>∃i:Nat,s.2=(i:Int)/\i<=q.trans.length/\0<=s.1/\s.1<=q.nodes.length/\∀j,j<i->∀t,q.trans[j]? =some t->0<=t.symbol/\t.symbol<q.symbols.length/\(t.guard= -1\/0<=t.guard)/\(0<=t.from_/\t.from_<q.states.length)/\0<=t.to/\t.to<q.states.length/\∃f r,Y9 q t f=some (r,true)) (fun s=>(q.trans.length-s.2).toNat)
  (fun o=>∀w,o=.inl w->∀t∈q.trans,0<=t.symbol/\t.symbol<q.symbols.length/\(t.guard= -1\/0<=t.guard)/\(0<=t.from_/\t.from_<q.states.length)/\0<=t.to/\t.to<q.states.length/\∃f r,Y9 q t f=some (r,true))
  (by
   rintro⟨w,s⟩ ⟨i,rfl,hi,hw0,hw1,hP⟩;simp only at hw0 hw1 hP⊢;by_cases he:i=q.trans.length;subst he;exact .inl ⟨.inl w,by simp only[I8,ltI,AJ],fun _ _=>GC hP⟩;obtain⟨x,hx,_⟩:=Aa (l:=q.trans) (i:=i) (by omega);have hxm:=List.mem_of_getElem? hx;obtain⟨r4,e4,p4⟩:=aO6 q hF x (hW x hxm) (hF.sets x hxm) w hw0 hw1;simp only[I8,ltD hx,AI,AN hx,e4,AB,Aq hx (show q.trans.length<=9223372036854775807 by omega)];cases hb:r4.2 with
   |false=>exact .inl ⟨.inr (),rfl,by simp⟩
   |true=>
    have hp:=p4 hb
    refine .inr ⟨(r4.1,((i+1:Nat):Int)),rfl,⟨i+1,rfl,by omega,hp.2.2.1,hp.2.2.2.1,fun j hj t ht=>?_⟩,by simp only;omega⟩
    rcases Nat.lt_or_ge j i with h|h
    exact hP j h t ht
    have:j=i:=by omega
    subst this;rw[hx]at ht;cases ht;exact⟨hp.1,hp.2.1,hp.2.2.2.2.1,hp.2.2.2.2.2.1,hp.2.2.2.2.2.2.1,hp.2.2.2.2.2.2.2,w,r4.1,by rw[e4,<-hb]⟩)
  ((0:Int),(0:Int)) ⟨0,rfl,by omega,by simp,by simp,fun j hj=>by omega⟩
 refine Bb e5 ?_;rcases o5 with o6|_
 rw[CK];refine BY (fun _=>?_) (fun _=>⟨_,rfl,by simp⟩);obtain⟨r8,e8,p8⟩:=aYs q hF (fun t ht=>⟨(p5 o6 rfl t ht).1,(p5 o6 rfl t ht).2.1⟩);refine Bb e8 ⟨_,rfl,fun hr=>⟨p1 hz,by omega,p8 hr,fun t ht=>(p5 o6 rfl t ht).2.2.1,fun t ht=>⟨⟨(p5 o6 rfl t ht).1,(p5 o6 rfl t ht).2.1⟩,(p5 o6 rfl t ht).2.2.2.1,(p5 o6 rfl t ht).2.2.2.2.1,(p5 o6 rfl t ht).2.2.2.2.2.1⟩,fun t ht=>(p5 o6 rfl t ht).2.2.2.2.2.2⟩⟩;exact⟨_,rfl,by simp⟩
theorem bDw{i j:Nat}(h:i+j<4611686018427387904):IntKind.wrap .i64 (AA .shr .u64 (IntKind.wrap .u64 (AA .add .i64 (i:Int) (j:Int))) 1)=(((i+j)/2:Nat):Int):=by
 have e1:AA .add .i64 (i:Int) (j:Int)=((i+j:Nat):Int):=by rw[LV (by omega) (by omega)];omega
 rw[e1,At (by omega)];have e2:AA .shr .u64 (((i+j:Nat)):Int) 1=(((i+j)/2^1:Nat):Int):=bDd (n:=i+j) (k:=1) (by decide);rw[e2,Nat.pow_one,aT6 (by omega) (by omega)]
theorem aS0{step:Int×Int->Option ((Int×Int)⊕Int)}(n:Nat)(lt:Nat->Bool)
 (h1:∀i j:Nat,i<j->j<=n->step ((i:Int),(j:Int))=some (.inl (if lt ((i+j)/2)=true then((((i+j)/2+1:Nat):Int),(j:Int))else((i:Int),(((i+j)/2:Nat):Int)))))
 (h2:∀i:Nat,step ((i:Int),(i:Int))=some (.inr (i:Int))) (hm:∀a b,a<=b->b<n->lt b=true->lt a=true):
 ∃k:Nat,k<=n/\AQ step (0,(n:Int))=some (k:Int)/\(∀a,a<k->lt a=true)/\∀a,k<=a->a<n->lt a=false:=by
 obtain⟨t,ht,k,hk,rfl,p1,p2⟩:=BB (step:=step) (fun s=>∃i j:Nat,s=((i:Int),(j:Int))/\i<=j/\j<=n/\(∀a,a<i->lt a=true)/\∀a,j<=a->a<n->lt a=false) (fun s=>(s.2-s.1).toNat)
  (fun t=>∃k:Nat,k<=n/\t=(k:Int)/\(∀a,a<k->lt a=true)/\∀a,k<=a->a<n->lt a=false)
  (by
   rintro s ⟨i,j,rfl,hij,hj,q1,q2⟩;rcases Nat.lt_or_ge i j with h|h
   right;cases hl:lt ((i+j)/2)with
   |true=>
    refine⟨((((i+j)/2+1:Nat):Int),(j:Int)),by rw[h1 i j h hj,hl];rfl,⟨(i+j)/2+1,j,rfl,by omega,hj,fun a ha=>hm a ((i+j)/2) (by omega) (by omega) hl,q2⟩,by simp only;omega⟩
   |false=>
    refine⟨((i:Int),(((i+j)/2:Nat):Int)),by rw[h1 i j h hj,hl];rfl,⟨i,(i+j)/2,rfl,by omega,by omega,q1,fun a ha hn=>?_⟩,by simp only;omega⟩
    rcases Nat.lt_or_ge a j with g|g
    cases hla:lt a with
    |false=>rfl
    |true=>rw[hm ((i+j)/2) a ha hn hla]at hl;cases hl
    exact q2 a g hn
   have:i=j:=by omega
   subst this;exact .inl ⟨(i:Int),h2 i,i,hj,rfl,q1,q2⟩)
  (0,(n:Int)) ⟨0,n,rfl,by omega,Nat.le_refl _,fun a ha=>by omega,fun a ha hn=>by omega⟩
 exact⟨k,hk,ht,p1,p2⟩

def SV(w:List X2):Prop:=w.Pairwise (fun a b=>a.var<b.var)/\∀s∈w,0<=s.var/\s.var<=63
theorem Hb:∀{a b:List X2},a.Pairwise (fun x y=>x.var<y.var)->b.Pairwise (fun x y=>x.var<y.var)->(∀s,s∈a↔s∈b)->a=b
 |[],[],_,_,_=>rfl
 |[],y::b,_,_,h=>by have:=(h y).2 (by simp);simp at this
 |x::a,[],_,_,h=>by have:=(h x).1 (by simp);simp at this
 |x::a,y::b,ha,hb,h=>by
  obtain⟨ha1,ha2⟩:=List.pairwise_cons.1 ha;obtain⟨hb1,hb2⟩:=List.pairwise_cons.1 hb;have hxy:x=y:=by
   rcases mc.1 ((h x).1 (by simp))with e|e
   exact e;rcases mc.1 ((h y).2 (by simp))with e2|e2
   exact e2.symm;have:=hb1 x e;have:=ha1 y e2;omega
  subst hxy;congr 1;refine Hb ha2 hb2 fun s=>⟨fun hs=>?_,fun hs=>?_⟩;rcases mc.1 ((h s).1 (List.mem_cons_of_mem _ hs))with e|e
  subst e;have:=ha1 s hs;omega;exact e;rcases mc.1 ((h s).2 (List.mem_cons_of_mem _ hs))with e|e
  subst e;have:=hb1 s hs;omega;exact e
def PV:List X2->X2->List X2
 |[],x=> [x]
 |y::l,x=>if x.var<y.var then x::y::l else y::PV l x
theorem EZ:∀(l:List X2) (x s:X2),s∈PV l x↔s=x\/s∈l
 |[],x,s=>by simp[PV]
 |y::l,x,s=>by
  unfold PV;split;simp;rw[mc,EZ l x s,mc];constructor;rintro(h|h|h)<;>simp[h];rintro(h|h|h)<;>simp[h]
theorem GI:∀(l:List X2) (x:X2),l.Pairwise (fun a b=>a.var<b.var)->(∀s∈l,s.var≠x.var)->(PV l x).Pairwise (fun a b=>a.var<b.var)
 |[],x,_,_=>by simp[PV]
 |y::l,x,h,hn=>by
  obtain⟨h1,h2⟩:=List.pairwise_cons.1 h;unfold PV;split;rename_i hxy;refine List.pairwise_cons.2 ⟨fun s hs=>?_,h⟩;rcases mc.1 hs with rfl|hs
  exact hxy;have:=h1 s hs;omega;rename_i hxy;refine List.pairwise_cons.2 ⟨fun s hs=>?_,GI l x h2 fun s hs=>hn s (List.mem_cons_of_mem _ hs)⟩;rcases(EZ l x s).1 hs with rfl|hs
  have:=hn y (by simp);omega;exact h1 s hs
theorem Rk:∀(l:List X2) (x:X2),(PV l x).length=l.length+1
 |[],x=>rfl
 |y::l,x=>by unfold PV;split<;>simp[Rk l x]
theorem Jj{l:List X2}{v:Int}(h:(EG l v).2=false):∀s∈l,s.var≠v:=by
 intro s hs e;unfold EG at h;cases hf:l.findSome? (fun s=>if s.var=v then some s.value else none)with
 |some x=>rw[hf]at h;cases h
 |none=>
  rw[List.findSome?_eq_none_iff]at hf
  have:=hf s hs
  simp[e]at this
theorem GH{l:List X2}(hl:l.Pairwise (fun a b=>a.var<b.var)){s:X2}(h:s∈l):EG l s.var=(s.value,true):=by
 have key:∀(l:List X2),l.Pairwise (fun a b=>a.var<b.var)->s∈l->l.findSome? (fun t=>if t.var=s.var then some t.value else none)=some s.value:=by
  intro l;induction l with
  |nil=>intro _ h;simp at h
  |cons t l ih=>
   intro hp hs
   rw[List.findSome?_cons]
   obtain⟨h1,h2⟩:=List.pairwise_cons.1 hp
   rcases mc.1 hs with rfl|hs
   simp
   have:=h1 s hs
   rw[if_neg (by omega)]
   exact ih h2 hs
 unfold EG;rw[key l hl h]
def NH(w:List X2)(x:X2):Option (List X2):=if(EG w x.var).2=true then(if(EG w x.var).1=x.value then some w else none)else some (PV w x)
theorem J5{w w':List X2}{x:X2}(hw:SV w)(hx:0<=x.var/\x.var<=63)(h:NH w x=some w'):SV w'/\w'.length<=w.length+1:=by
 unfold NH at h;split at h;split at h;cases h;exact⟨hw,by omega⟩;cases h;rename_i hn;cases h;have hn':(EG w x.var).2=false:=by simpa using hn
 refine⟨⟨GI w x hw.1 (Jj hn'),fun s hs=>?_⟩,by rw[Rk];exact Nat.le_refl _⟩;rcases(EZ w x s).1 hs with rfl|hs
 exact hx;exact hw.2 s hs
theorem aS5{w:List X2}{x:X2}(hw:w.Pairwise (fun a b=>a.var<b.var))(hn:∀s∈w,s.var≠x.var){k:Nat}(hk:k<=w.length)(h1:∀j s,w[j]? =some s->j<k->s.var<x.var)(h2:∀j s,w[j]? =some s->k<=j->x.var<s.var):
 w.take k++[x]++w.drop k=PV w x:=by
 refine Hb ?_ (GI w x hw hn) fun s=>?_
 rw[List.append_assoc,List.singleton_append]
 have hd:∀s∈w.drop k,x.var<s.var:=fun s hs=>by obtain⟨j,hj,rfl⟩:=List.mem_iff_getElem.1 hs;rw[List.getElem_drop];exact h2 (k+j) _ (List.getElem?_eq_getElem (by simp at hj;omega)) (by omega)
 have htk:∀s∈w.take k,s.var<x.var:=fun s hs=>by obtain⟨j,hj,rfl⟩:=List.mem_iff_getElem.1 hs;rw[List.getElem_take];simp at hj;exact h1 j _ (List.getElem?_eq_getElem (by omega)) (by omega)
 refine List.pairwise_append.2 ⟨hw.sublist (List.take_sublist _ _),List.pairwise_cons.2 ⟨hd,hw.sublist (List.drop_sublist _ _)⟩,fun a ha b hb=>?_⟩
 rcases mc.1 hb with rfl|hb
 exact htk a ha
 have:=htk a ha;have:=hd b hb;omega
 rw[EZ]
 have hw2:s∈w↔s∈w.take k\/s∈w.drop k:=by
  conv=>lhs;rw[<-List.take_append_drop k w]
  rw[ma]
 rw[hw2]
 simp only[ma,List.mem_singleton]
 constructor
 rintro((h|h)|h)<;>simp[h]
 rintro(h|h|h)<;>simp[h]
def Ho:List B0->List X0->List X2->List X2->Option (List X2×List X2)
 |a::al,x::xs,b,f=>
  if a.kind=1 then(if a.value=x then Ho al xs b f else none)
  else if a.kind=2 then(match NH b ⟨a.n,x⟩with|none=>none|some b'=>Ho al xs b' f)
  else if a.kind=3 then(match NH f ⟨a.n,x⟩with|none=>none|some f'=>Ho al xs b f')
  else Ho al xs b f
 |_,_,b,f=>some (b,f)
def aXk(a:B0):Prop:=(a.kind=2->0<=a.n/\a.n<=7)/\(a.kind=3->0<=a.n/\a.n<=63)
def B7(b:List X2):Prop:=∀s∈b,s.var<=7
theorem aQa{w w':List X2}{x:X2}(hw:B7 w)(hx:x.var<=7)(h:NH w x=some w'):B7 w':=by
 unfold NH at h;split at h;split at h;cases h;exact hw;cases h;cases h;intro s hs;rcases(EZ w x s).1 hs with rfl|hs
 exact hx;exact hw s hs
theorem Jg:∀(al:List B0) (xs:List X0) (b f:List X2) (p:List X2×List X2),(∀a∈al,aXk a)->SV b->SV f->B7 b->Ho al xs b f=some p->SV p.1/\SV p.2/\B7 p.1/\p.1.length<=b.length+al.length/\p.2.length<=f.length+al.length
 |[],xs,b,f,p,_,hb,hf,h7,h=>by simp only[Ho]at h;cases h;exact⟨hb,hf,h7,by simp,by simp⟩
 |a::al,[],b,f,p,_,hb,hf,h7,h=>by simp only[Ho]at h;cases h;exact⟨hb,hf,h7,by simp,by simp⟩
 |a::al,x::xs,b,f,p,hA,hb,hf,h7,h=>by
  have hA':∀a∈al,aXk a:=fun a h=>hA a (List.mem_cons_of_mem _ h);have hAa:=hA a (by simp);simp only[Ho]at h;split at h;split at h;obtain⟨a1,a2,a3,a4,a5⟩:=Jg al xs b f p hA' hb hf h7 h;exact⟨a1,a2,a3,by simp;omega,by simp;omega⟩;cases h;split at h;rename_i h2;split at h;cases h;rename_i b' hp;have hv:=hAa.1 h2;obtain⟨c1,c2⟩:=J5 hb (x:=⟨a.n,x⟩) ⟨hv.1,by simp only;omega⟩ hp;obtain⟨a1,a2,a3,a4,a5⟩:=Jg al xs b' f p hA' c1 hf (aQa h7 (by simp only;omega) hp) h;exact⟨a1,a2,a3,by simp;omega,by simp;omega⟩;split at h;rename_i h3;split at h;cases h;rename_i f' hp;have hv:=hAa.2 h3;obtain⟨c1,c2⟩:=J5 hf (x:=⟨a.n,x⟩) hv hp;obtain⟨a1,a2,a3,a4,a5⟩:=Jg al xs b f' p hA' hb c1 h7 h;exact⟨a1,a2,a3,by simp;omega,by simp;omega⟩;obtain⟨a1,a2,a3,a4,a5⟩:=Jg al xs b f p hA' hb hf h7 h;exact⟨a1,a2,a3,by simp;omega,by simp;omega⟩
def aN0(a b:List X2):Bool:=a.all fun s=> !(EG b s.var).2||decide ((EG b s.var).1=s.value)
theorem bBi(a b:List X2)(ha:a.length<=9223372036854775807)(hb:b.length<=9223372036854775807):Zf a b=some (aN0 a b):=by
 unfold Zf aSa;rw[Ju a (fun s=> !(EG b s.var).2||decide ((EG b s.var).1=s.value)) (.inl ():Unit⊕Unit) (.inr ())
  (fun i x hx=>by simp only[LP,ltD hx,AI,AN hx,Aq hx ha,aMb b _ hb,AB,X0.eqb_dec];obtain⟨y,o⟩:=EG b x.var;cases o;simp[AE];by_cases h:y=x.value<;>simp[AE,h])
  (by simp only[LP,ltI,AJ]),AB]
 unfold aN0;cases a.all _<;>rfl
theorem H5(x:X2)(v:Int):EG [x] v=if x.var=v then(x.value,true)else(zV,false):=by unfold EG;by_cases h:x.var=v<;>simp[h]
def FH(a b:List X2)(v:Nat):Option X2:=
 if(EG a v).2=true then some ⟨v,(EG a v).1⟩else if(EG b v).2=true then some ⟨v,(EG b v).1⟩else none
def KE(a b:List X2):List X2:=(List.range 8).filterMap (FH a b)
theorem bAc(a b:List X2)(ha:a.length<=9223372036854775807)(hb:b.length<=9223372036854775807):Ye a b=some (KE a b):=by
 unfold Ye aRp;have hg:∀(l:List X2) (v:Int),l.length<=9223372036854775807->Yt l v=some (EG l v):=fun l v hl=>aMb l v hl;have h:=D4 (step:=fun s:Int×List X2=>I0 a b s.1 s.2) (List.range 8) (fun w v=>w++(FH a b v).toList) (fun w=>w) (fun i w=>w.length<=i)
  (fun i x w hx hI=>by
   have hi:i<8:=by simpa using Dj hx
   have hxi:x=i:=by rw[List.getElem?_range hi]at hx;cases hx;rfl
   subst hxi;have hd:decide ((x:Int)<8)=true:=by simp;omega
   refine⟨?_,?_⟩;simp only[I0,hd,AI,aK4,hg a _ ha,hg b _ hb,AB,aK6,aK8,P3 (show x<9223372036854775807 by omega),FH];rw[KG (by simp;omega) (by decide),KG (by simp;omega) (by decide)];cases(EG a (x:Int)).2<;>cases(EG b (x:Int)).2<;>simp[AE,AG];unfold FH;split;simpa using hI;split;simpa using hI;simp;omega)
  (fun w _=>by simp[I0,AE]) [] (by simp)
 rw[h,AB];congr 1;unfold KE;have key:∀(l:List Nat) (w:List X2),l.foldl (fun w v=>w++(FH a b v).toList) w=w++l.filterMap (FH a b):=by
  intro l;induction l with
  |nil=>intro w;simp
  |cons v l ih=>intro w;rw[List.foldl_cons,ih,List.filterMap_cons];cases FH a b v<;>simp
 rw[key];simp
theorem Hc{a b:List X2}{v:Nat}{s:X2}(h:FH a b v=some s):s.var=(v:Int):=by unfold FH at h;split at h;cases h;rfl;split at h;cases h;rfl;cases h
theorem ME(a b:List X2):(KE a b).Pairwise (fun x y=>x.var<y.var):=by
 unfold KE;have h8:(List.range 8).Pairwise (· < ·):=List.pairwise_lt_range
 rw[List.pairwise_filterMap];refine h8.imp fun{v w} hvw s hs t ht=>?_;have:=Hc hs;have:=Hc ht;omega
theorem T3{a b:List X2}{s:X2}:s∈KE a b↔0<=s.var/\s.var<=7/\(EG a s.var=(s.value,true)\/(EG a s.var).2=false/\EG b s.var=(s.value,true)):=by
 unfold KE;rw[List.mem_filterMap];constructor;rintro⟨v,hv,h⟩;have hv8:v<8:=by simpa using hv
 have hsv:=Hc h;refine⟨by omega,by omega,?_⟩;rw[hsv];unfold FH at h;split at h;rename_i ha;cases h;left;simp only;rw[<-ha];rename_i ha;split at h;rename_i hb;cases h;right;exact⟨by simpa using ha,by simp only;rw[<-hb]⟩;cases h;rintro⟨h0,h7,h⟩;refine⟨s.var.toNat,by simp;omega,?_⟩;have e:((s.var.toNat:Nat):Int)=s.var:=by omega
 unfold FH;rw[e];rcases h with h|⟨h,h'⟩
 rw[h];simp;rw[h,h'];simp
theorem aN1{b:List X2}{x:X2}(hb:SV b):aN0 b [x]=(NH b x).isSome:=by
 unfold aN0 NH;cases hg:(EG b x.var).2 with
 |true=>
  have hm:=FW (l:=b) (v:=x.var) (x:=(EG b x.var).1) (by rw[<-hg])
  by_cases hv:(EG b x.var).1=x.value
  simp only[if_true,hv,Option.isSome_some]
  rw[List.all_eq_true]
  intro s hs
  rw[H5]
  by_cases h:x.var=s.var
  have:=GH hb.1 hs
  rw[<-h]at this
  rw[this]at hv
  simp[h,<-hv]
  simp[h]
  simp only[if_true,hv,if_false,Option.isSome_none]
  rw[List.all_eq_false]
  refine⟨_,hm,?_⟩
  rw[H5]
  simp
  exact fun h=>hv h.symm
 |false=>
  simp only[Bool.false_eq_true,if_false,Option.isSome_some]
  rw[List.all_eq_true]
  intro s hs
  rw[H5]
  have:=Jj hg s hs
  have h':¬x.var=s.var:=fun h=>this h.symm
  simp[h']
theorem aEt{b w:List X2}{x:X2}(hb:SV b)(h7:B7 b)(hx:0<=x.var/\x.var<=7)(h:NH b x=some w):KE b [x]=w:=by
 have hw:=J5 hb (x:=x) ⟨hx.1,by omega⟩ h;refine Hb (ME _ _) hw.1.1 fun s=>?_;rw[T3,H5];unfold NH at h;split at h;rename_i hg;split at h;rename_i hv;cases h;constructor;rintro⟨_,_,h1|⟨h1,h2⟩⟩;exact FW h1;split at h2;rename_i e;rw[e]at hg;rw[h1]at hg;cases hg;simp at h2;intro hs;exact⟨(hb.2 s hs).1,h7 s hs,.inl (GH hb.1 hs)⟩;cases h;rename_i hg;have hg':(EG b x.var).2=false:=by simpa using hg
 cases h;rw[EZ];constructor;rintro⟨_,_,h1|⟨h1,h2⟩⟩;exact .inr (FW h1);split at h2;rename_i e;left;obtain⟨a,c⟩:=s;obtain⟨a',c'⟩:=x;simp only at e h2;subst e;simp at h2;rw[h2];simp at h2;rintro(rfl|hs);exact⟨hx.1,hx.2,.inr ⟨hg',by simp⟩⟩;exact⟨(hb.2 s hs).1,h7 s hs,.inl (GH hb.1 hs)⟩
theorem bBb{w:List X2}{x:X2}(hw:SV w)(hn:∀s∈w,s.var≠x.var)(hl:w.length<=1000):Za w x=some (PV w x):=by
 unfold Za aR7;obtain⟨t,ht,k,hk,rfl,p1,p2⟩:=BB (step:=fun s=>JF w x s) (fun s=>∃i:Nat,s=(i:Int)/\i<=w.length/\∀j s,w[j]? =some s->i<=j->x.var<s.var) (fun s=>s.toNat)
  (fun t=>∃k:Nat,k<=w.length/\t=(k:Int)/\(∀j s,w[j]? =some s->j<k->s.var<x.var)/\∀j s,w[j]? =some s->k<=j->x.var<s.var)
  (by
   rintro s ⟨i,rfl,hi,hj⟩;cases i with
   |zero=>exact .inl ⟨0,by simp[JF,AE],0,by omega,rfl,fun j s _ h=>by omega,hj⟩
   |succ i=>
    obtain⟨y,hy,_⟩:=Aa (l:=w) (i:=i) (by omega)
    have e:AA .sub .i64 ((i+1:Nat):Int) 1=(i:Int):=by rw[aEj (by omega) (by omega)];omega
    have hd:decide ((0:Int)<((i+1:Nat):Int))=true:=by simp
    simp only[JF,hd,AI,e,AN hy]
    by_cases h:x.var<y.var
    refine .inr ⟨_,by simp only[h,decide_true,AI],⟨i,rfl,by omega,fun j s hs hij=>?_⟩,by omega⟩
    rcases Nat.eq_or_lt_of_le hij with g|g
    subst g;rw[hy]at hs;cases hs;exact h
    exact hj j s hs g
    refine .inl ⟨_,by simp only[h,decide_false,AJ],i+1,hi,rfl,fun j s hs hij=>?_,hj⟩
    have hyx:y.var<x.var:=by have:=hn y (List.mem_of_getElem? hy);omega
    rcases Nat.lt_or_ge j i with g|g
    obtain⟨a1,rfl⟩:=List.getElem?_eq_some_iff.1 hs
    obtain⟨a2,rfl⟩:=List.getElem?_eq_some_iff.1 hy
    have:=List.pairwise_iff_getElem.1 hw.1 j i a1 a2 g;omega
    have:j=i:=by omega
    subst this;rw[hy]at hs;cases hs;exact hyx)
  (w.length:Int) ⟨w.length,rfl,Nat.le_refl _,fun j s hs hij=>by have:=Dj hs;omega⟩
 rw[ht,AB];have es:sub w 0 (k:Int)=w.take k:=by rw[show(0:Int)=((0:Nat):Int)from rfl,P2];rfl
 rw[es,P1,Ai (by omega),KG (by simp;omega) (by decide),KG (by simp;omega) (by decide),Ai (by omega),KG (by simp;omega) (by decide)];rw[List.nil_append,aS5 hw.1 hn hk p1 p2]
theorem aN8{al:List B0}{e:Xc}{sy:X5}{s1 w6:Int}{w9:Au}(hsy:sy.args=al)(hlen:al.length=e.args.length)(h12:al.length<=12)(hA:∀a∈al,aXk a):∀(n i:Nat) (b f:List X2),al.length-i=n->i<=al.length->SV b->SV f->B7 b->b.length<=i->f.length<=i->
 S4 s1 e w6 sy w9 b f (i:Int)=some (match Ho (al.drop i) (e.args.drop i) b f with|none=>.inr ()|some p=>.inl p):=by
 subst hsy
 intro n
 induction n with
 |zero=>
  intro i b f hn hi _ _ _ _ _
  have:i=sy.args.length:=by omega
  subst this
  rw[Qw]
  simp only[Ir,ltI,AJ,Ad]
  rw[List.drop_length];simp[Ho]
 |succ n ih=>
  intro i b f hn hi hb hf h7 hbl hfl
  obtain⟨a,ha,hda⟩:=Aa (l:=sy.args) (i:=i) (by omega)
  obtain⟨x,hx,hdx⟩:=Aa (l:=e.args) (i:=i) (by omega)
  have hAa:=hA a (List.mem_of_getElem? ha)
  rw[Qw,hda,hdx]
  simp only[Ir,ltD ha,AI,aJn,AN ha,AN hx,Aq ha (show sy.args.length<=9223372036854775807 by omega),X0.eqb_dec,Wt,Wu,Wv]
  simp only[Ho]
  by_cases h1:a.kind=1
  have h2:¬a.kind=2:=by omega
  have h3:¬a.kind=3:=by omega
  by_cases hv:a.value=x
  have ho:=ih (i+1) b f (by omega) (by omega) hb hf h7 (by omega) (by omega)
  simp[h1,hv,AE,CW,AG,CX];exact_mod_cast ho
  simp[h1,hv,AE,CW,AG,CX]
  by_cases h2:a.kind=2
  have h3:¬a.kind=3:=by omega
  have hvr:=hAa.1 h2
  rw[bBi _ _ (by omega) (by simp),aN1 (x:=⟨a.n,x⟩) hb,bAc _ _ (by omega) (by simp)]
  cases hp:NH b ⟨a.n,x⟩with
  |none=>simp[h1,h2,AE,CW,AG,CX]
  |some b'=>
   obtain⟨c1,c2⟩:=J5 hb (x:=⟨a.n,x⟩) ⟨hvr.1,by simp only;omega⟩ hp
   rw[aEt hb h7 (x:=⟨a.n,x⟩) hvr hp]
   have ho:=ih (i+1) b' f (by omega) (by omega) c1 hf (aQa h7 (by simp only;omega) hp) (by omega) (by omega)
   simp[h1,h2,h3,AE,CW,AG,CX];exact_mod_cast ho
  by_cases h3:a.kind=3
  have hvr:=hAa.2 h3
  rw[aMb f _ (by omega)]
  unfold NH
  simp only
  cases hg:(EG f a.n).2 with
  |true=>
   by_cases hv:(EG f a.n).1=x
   have ho:=ih (i+1) b f (by omega) (by omega) hb hf h7 (by omega) (by omega)
   simp[h1,h2,h3,hg,hv,AE,CW,AG,CX];exact_mod_cast ho
   simp[h1,h2,h3,hg,hv,AE,CW,AG,CX]
  |false=>
   have hp:NH f ⟨a.n,x⟩=some (PV f ⟨a.n,x⟩):=by unfold NH;simp[hg]
   obtain⟨c1,c2⟩:=J5 hf (x:=⟨a.n,x⟩) hvr hp
   have ho:=ih (i+1) b (PV f ⟨a.n,x⟩) (by omega) (by omega) hb c1 h7 (by omega) (by omega)
   have hput:=bBb (w:=f) (x:=⟨a.n,x⟩) hf (Jj hg) (by omega)
   simp[h1,h2,h3,hg,AE,CW,AG,CX,Rj,hput];exact_mod_cast ho
  have ho:=ih (i+1) b f (by omega) (by omega) hb hf h7 (by omega) (by omega)
  simp[h1,h2,h3,AE,CW,AG,CX];exact_mod_cast ho
def Jm(q:AD)(i:Nat)(e:Xc):Option Au:=match q.symbols[i]? with
 |none=>none
 |some s=>match q.decls[s.event.toNat]? with
  |none=>none
  |some d=>if d.name=e.name/\s.args.length=e.args.length then(Ho s.args e.args [] []).map fun p=>⟨i,p.1,p.2⟩else none
theorem aPh:SV []:=⟨List.Pairwise.nil,by simp⟩
theorem bDn{q:AD}(hF:Dt q)(hR:Ag q){s:X5}(hs:s∈q.symbols):∀a∈s.args,aXk a:=fun a ha=>by have:=(hR.symbols s hs).args a ha;have h8:=hR.quants;have hf:=hF.frees;exact⟨fun h=>by have:=this.two h;omega,fun h=>by have:=this.three h;omega⟩
def aUf(o:Option Au):Au×Bool:=match o with
 |some h=>(h,true)
 |none=>(⟨0,[],[]⟩,false)
theorem aZn{q:AD}(hF:Dt q)(hR:Ag q){e:Xc}{i:Nat}(hi:i<q.symbols.length):Xz q i e=some (aUf (Jm q i e)):=by
 obtain⟨s,hs,_⟩:=Aa hi;have hsm:=List.mem_of_getElem? hs;have hso:=hR.symbols s hsm;obtain⟨d,hd,hdl⟩:=hso.decl;unfold Xz Jm;rw[AN hs,EY hd hso.event,hs,aTk];simp only[hd];by_cases hn:d.name=e.name;by_cases hlen:s.args.length=e.args.length;have h12:=hF.args s hsm;have ho:=aN8 (sy:=s) (s1:=(i:Int)) (w6:=0) (w9:=⟨0,[],[]⟩) rfl hlen h12 (bDn hF hR hsm) _ 0 [] [] rfl (by omega) aPh aPh (fun s hs=>by simp at hs) (by simp) (by simp);rw[show(0:Int)=((0:Nat):Int)from rfl]at ho⊢;simp only[List.drop_zero]at ho;simp only[hn,hlen,and_self,if_true,decide_true,Bool.not_true,AJ];rw[show S4 (i:Int) e ((0:Nat):Int) s (Au.mk ((0:Nat):Int) [] []) [] [] ((0:Nat):Int)=_ from ho,AB];cases Ho s.args e.args [] []with
 |none=>simp[CX,aUf]
 |some p=>simp[CX,aUf]
 simp[hn,hlen,AE,aUf];simp[hn,AE,aUf]
theorem KP{α β:Type}(g:α->Option β):∀(l:List α) (w:List β),l.foldl (fun w v=>w++(g v).toList) w=w++l.filterMap g:=by
 intro l;induction l with
 |nil=>intro w;simp
 |cons v l ih=>intro w;rw[List.foldl_cons,ih,List.filterMap_cons];cases g v<;>simp
theorem aD2{n i x:Nat}(h:(List.range n)[i]? =some x):x=i/\i<n:=by
 have hi:i<n:=by simpa using Dj h
 rw[List.getElem?_range hi]at h;cases h;exact⟨rfl,hi⟩
theorem aPs:∀x:List UInt8,Op.bytesLess x x=false
 |[]=>rfl
 |a::x=>by simp[Op.bytesLess,aPs x]
theorem RR:∀{x y z:List UInt8},Op.bytesLess x y=true->Op.bytesLess y z=true->Op.bytesLess x z=true
 |[],[],_,h,_=>by simp[Op.bytesLess]at h
 |_::_,[],_,h,_=>by simp[Op.bytesLess]at h
 |[],_::_,[],_,h=>by simp[Op.bytesLess]at h
 |[],_::_,_::_,_,_=>rfl
 |_::_,_::_,[],_,h=>by simp[Op.bytesLess]at h
 |a::x,b::y,c::z,h1,h2=>by
  simp only[Op.bytesLess,Bool.or_eq_true,ba,decide_eq_true_eq,beq_iff_eq]at h1 h2⊢;rcases h1 with h1|⟨rfl,h1⟩
  rcases h2 with h2|⟨rfl,h2⟩
  exact .inl (UInt8.lt_trans h1 h2);exact .inl h1;rcases h2 with h2|⟨rfl,h2⟩
  exact .inl h2;exact .inr ⟨rfl,RR h1 h2⟩
theorem aPt:∀{x y:List UInt8},x≠y->Op.bytesLess x y=true\/Op.bytesLess y x=true
 |[],[],h=>absurd rfl h
 |_::_,[],_=>.inr rfl
 |[],_::_,_=>.inl rfl
 |a::x,b::y,h=>by
  simp only[Op.bytesLess,Bool.or_eq_true,ba,decide_eq_true_eq,beq_iff_eq];by_cases hab:a=b;subst hab;rcases aPt (x:=x) (y:=y) (fun e=>h (by rw[e]))with g|g
  exact .inl (.inr ⟨rfl,g⟩);exact .inr (.inr ⟨rfl,g⟩);have:a<b\/b<a:=by rw[UInt8.lt_iff_toNat_lt,UInt8.lt_iff_toNat_lt];have:a.toNat≠b.toNat:=fun e=>hab (UInt8.toNat_inj.1 e);omega
  rcases this with g|g
  exact .inl (.inl g);exact .inr (.inl g)
theorem aCi:∀(x y:List UInt8),(match ((x.zip y).findSome? fun z=>if z.1=z.2 then none else some (Sum.inr (decide (z.1<z.2)):Unit⊕Bool)).getD (.inl ())with| .inl _=>decide (x.length<y.length)| .inr b=>b)=Op.bytesLess x y
 |[],[]=>rfl
 |_::_,[]=>rfl
 |[],_::_=>by simp[Op.bytesLess]
 |a::x,b::y=>by
  rw[List.zip_cons_cons,List.findSome?_cons];by_cases h:a=b;subst h;simp only[if_true,Op.bytesLess,beq_self_eq_true,Bool.true_and,<-aCi x y];have:decide (a<a)=false:=by simp
  rw[this,Bool.false_or];simp only[List.length_cons,Nat.add_lt_add_iff_right];simp[h,Op.bytesLess]
theorem bA1(x y:List UInt8)(hx:x.length<=9223372036854775807)(hy:y.length<=9223372036854775807):Yz x y=some (Op.bytesLess x y):=by
 unfold Yz aMl;have hz:(x.zip y).length=min x.length y.length:=by simp
 rw[EO (x.zip y) (fun _ z=>if z.1=z.2 then none else some (Sum.inr (decide (z.1<z.2)):Unit⊕Bool)) (.inl ())
  (fun i z h=>by obtain⟨h1,h2⟩:=aT9 h;simp only[HL,ltD h1,ltD h2,AI,AN h1,AN h2,Aq h1 hx];by_cases e:z.1=z.2;simp[e,AE];have:¬(z.1.toNat:Int)=(z.2.toNat:Int):=fun g=>e (UInt8.toNat_inj.1 (by omega));have:(decide ((z.1.toNat:Int)<(z.2.toNat:Int)))=decide (z.1<z.2):=decide_eq_decide.2 (by rw[UInt8.lt_iff_toNat_lt];omega);rw[this,if_neg e];simp[*,AE])
  (by
   rw[hz];rcases Nat.le_total x.length y.length with h|h
   rw[Nat.min_eq_left h];simp only[HL,ltI,AJ];rw[Nat.min_eq_right h];simp only[HL,ltI,AJ];cases decide ((y.length:Int)<(x.length:Int))<;>rfl),AB,Dm,<-aCi]
 cases((x.zip y).findSome? fun z=>if z.1=z.2 then none else some (Sum.inr (decide (z.1<z.2)):Unit⊕Bool)).getD (.inl ())<;>simp[CX]
def ltV(a b:X0):Bool:=if a.kind=b.kind then(if a.kind=1 then decide (a.int<b.int)else if a.kind=2 then Op.bytesLess a.str b.str else !a.bool&&b.bool)else decide (a.kind<b.kind)
theorem aUt(a b:X0):Q5 a b=some (ltV a b):=by unfold Q5 ltV;by_cases h:a.kind=b.kind<;>by_cases h1:a.kind=1<;>by_cases h2:a.kind=2<;>cases ha:a.bool<;>simp_all [AE]
theorem bBx(a b:X0)(ha:a.str.length<=9223372036854775807)(hb:b.str.length<=9223372036854775807):Zs a b=some (ltV a b):=by unfold Zs ltV;rw[bA1 _ _ ha hb];by_cases h:a.kind=b.kind<;>by_cases h1:a.kind=1<;>by_cases h2:a.kind=2<;>cases ha:a.bool<;>simp_all [AE,AG]
theorem Jv(a:X0):ltV a a=false:=by unfold ltV;rw[if_pos rfl];split;simp;split;exact aPs _;cases a.bool<;>rfl
theorem Ga{a b c:X0}(h1:ltV a b=true)(h2:ltV b c=true):ltV a c=true:=by unfold ltV at*;by_cases e1:a.kind=b.kind;by_cases e2:b.kind=c.kind;rw[if_pos e1]at h1;rw[if_pos e2]at h2;rw[if_pos (e1.trans e2)];rw[e1]at h1⊢;split;rename_i h;rw[if_pos h]at h1 h2;simp at h1 h2⊢;omega;rename_i h;rw[if_neg h]at h1 h2;split;rename_i h;rw[if_pos h]at h1 h2;exact RR h1 h2;rename_i h;rw[if_neg h]at h1 h2;simp at h1 h2⊢;exact⟨h1.1,h2.2⟩;rw[if_neg e2]at h2;rw[e1,if_neg e2];exact h2;rw[if_neg e1]at h1;by_cases e2:b.kind=c.kind;rw[<-e2,if_neg e1];exact h1;rw[if_neg e2]at h2;simp only[decide_eq_true_eq]at h1 h2;rw[if_neg (by omega)];simp;omega
theorem H7{v:X0}(h:vR v=true):(v.kind=1/\v.str=[]/\v.bool=false)\/(v.kind=2/\v.int=0/\v.bool=false/\v.str.length<=4096)\/(v.kind=3/\v.int=0/\v.str=[]):=by unfold vR at h;split at h;left;simp at h;exact⟨by assumption,h.1,h.2⟩;split at h;right;left;simp at h;exact⟨by assumption,h.1.1,h.1.2,h.2⟩;split at h;right;right;simp at h;exact⟨by assumption,h.1,h.2⟩;cases h
theorem Pc{a b:X0}(ha:vR a=true)(hb:vR b=true)(h:a≠b):ltV a b=true\/ltV b a=true:=by
 unfold ltV;by_cases e:a.kind=b.kind;rw[if_pos e,if_pos e.symm,<-e];obtain⟨k,n,s,t⟩:=a;obtain⟨k',n',s',t'⟩:=b;simp only at e;subst e;rcases H7 ha with⟨rfl,h2,h3⟩|⟨rfl,h2,h3,h4⟩|⟨rfl,h2,h3⟩<;>rcases H7 hb with⟨g1,g2,g3⟩|⟨g1,g2,g3,g4⟩|⟨g1,g2,g3⟩<;>simp only[Int.reduceEq]at g1 h2 h3 g2 g3<;>subst_vars
 simp at h⊢;omega;simp at h⊢;exact aPt h;simp at h⊢;cases t<;>cases t'<;>simp_all;rw[if_neg e,if_neg (Ne.symm e)];simp;omega
theorem aOu{w w':List X2}{x s:X2}(h:NH w x=some w')(hs:s∈w'):s=x\/s∈w:=by unfold NH at h;split at h;split at h;cases h;exact .inr hs;cases h;cases h;exact(EZ w x s).1 hs
theorem Rg:∀(al:List B0) (xs:List X0) (b f:List X2) (p:List X2×List X2),Ho al xs b f=some p->∀s∈p.1,s∈b\/s.value∈xs
 |[],xs,b,f,p,h=>by simp only[Ho]at h;cases h;exact fun s hs=>.inl hs
 |a::al,[],b,f,p,h=>by simp only[Ho]at h;cases h;exact fun s hs=>.inl hs
 |a::al,x::xs,b,f,p,h=>by
  simp only[Ho]at h;have go:∀b f,Ho al xs b f=some p->∀s∈p.1,s∈b\/s.value∈x::xs:=fun b f h s hs=>(Rg al xs b f p h s hs).imp id (List.mem_cons_of_mem _);split at h;split at h;exact go b f h;cases h;split at h;split at h;cases h;rename_i b' hp;intro s hs;rcases go b' f h s hs with g|g
  rcases aOu hp g with rfl|g
  exact .inr (by simp);exact .inl g;exact .inr g;split at h;split at h;cases h;rename_i f' hp;exact go b f' h;exact go b f h
theorem Mx{q:AD}{e:Xc}{i:Nat}{h:Au}(hi:Jm q i e=some h):h.symbol=i/\∀s∈h.bind,s.value∈e.args:=by unfold Jm at hi;split at hi;cases hi;split at hi;cases hi;split at hi;simp only[om]at hi;obtain⟨p,hp,rfl⟩:=hi;exact⟨rfl,fun s hs=>(Rg _ _ _ _ _ hp s hs).resolve_left (by simp)⟩;cases hi
theorem Te{α:Type}{p:α->Bool}{w:List α}{k:Nat}(h1:∀(j:Nat) y,w[j]? =some y->j<k->p y=true)(h2:∀(j:Nat) y,w[j]? =some y->k<=j->p y=false):w.take k=w.filter p/\w.drop k=w.filter fun y=> !p y:=by
 have a:∀y∈w.take k,p y=true:=fun y hy=>by obtain⟨j,hj⟩:=List.mem_iff_getElem?.1 hy;rw[List.getElem?_take]at hj;split at hj;exact h1 j y hj (by assumption);cases hj
 have b:∀y∈w.drop k,p y=false:=fun y hy=>by obtain⟨j,hj⟩:=List.mem_iff_getElem?.1 hy;rw[List.getElem?_drop]at hj;exact h2 (k+j) y hj (by omega)
 have e:∀p:α->Bool,w.filter p=(w.take k).filter p++(w.drop k).filter p:=fun p=>by rw[<-List.filter_append,List.take_append_drop]
 constructor;rw[e,List.filter_eq_self.2 a,List.filter_eq_nil_iff.2 (fun y hy=>by simp[b y hy]),List.append_nil];rw[e,List.filter_eq_nil_iff.2 (fun y hy=>by simp[a y hy]),List.filter_eq_self.2 (fun y hy=>by simp[b y hy]),List.nil_append]
def SW(w:List X0):Prop:=w.Pairwise (fun a b=>ltV a b=true)/\∀v∈w,vR v=true
def Nd(w:List X0)(x:X0):List X0:=if x∈w then w else w.filter (fun y=>ltV y x)++x::w.filter fun y=> !ltV y x
theorem aQg{v:X0}(h:vR v=true):v.str.length<=9223372036854775807:=by
 rcases H7 h with⟨_,h2,_⟩|⟨_,_,_,h4⟩|⟨_,_,h3⟩
 rw[h2];decide;omega;rw[h3];decide
theorem aOi{a b:X0}(h1:ltV a b=true):ltV b a=false:=by
 cases h:ltV b a with
 |false=>rfl
 |true=>have:=Ga h1 h;rw[Jv]at this;cases this
theorem aQs{w:List X0}(hw:SW w){i j:Nat}{y z:X0}(hi:w[i]? =some y)(hj:w[j]? =some z)(h:i<j):ltV y z=true:=by obtain⟨a1,rfl⟩:=List.getElem?_eq_some_iff.1 hi;obtain⟨a2,rfl⟩:=List.getElem?_eq_some_iff.1 hj;exact List.pairwise_iff_getElem.1 hw.1 i j a1 a2 h
theorem MN{w:List X0}{x:X0}(hw:SW w)(hx:vR x=true):SW (Nd w x)/\(Nd w x).length=w.length+(if x∈w then 0 else 1):=by
 unfold Nd;split;exact⟨hw,by simp[*]⟩;rename_i hn;refine⟨⟨?_,fun b hb=>?_⟩,?_⟩;rw[List.pairwise_append,List.pairwise_cons];have hgt:∀y∈w.filter (fun y=> !ltV y x),ltV x y=true:=fun y hy=>by
  obtain⟨h1,h2⟩:=List.mem_filter.1 hy;rcases Pc (hw.2 y h1) hx (fun e=>hn (e▸h1))with g|g
  rw[g]at h2;cases h2;exact g
 refine⟨hw.1.filter _,⟨hgt,hw.1.filter _⟩,fun y hy z hz=>?_⟩;have hyx:=(List.mem_filter.1 hy).2;rcases mc.1 hz with rfl|hz
 exact hyx;exact Ga hyx (hgt z hz);rcases ma.1 hb with h|h
 exact hw.2 b (List.mem_filter.1 h).1;rcases mc.1 h with rfl|h
 exact hx;exact hw.2 b (List.mem_filter.1 h).1;have h1:∀w:List X0,(w.filter fun y=>ltV y x).length+(w.filter fun y=> !ltV y x).length=w.length:=by
  intro w;induction w with
  |nil=>rfl
  |cons y w ih=>rw[List.filter_cons,List.filter_cons];cases ltV y x<;>simp<;>omega
 have h1:=h1 w;rw[List.length_append,List.length_cons];omega
def AtW(w:List X0)(x:X0)(k:Nat):Prop:=k<=w.length/\(∀(j:Nat) y,w[j]? =some y->j<k->ltV y x=true)/\(∀(j:Nat) y,w[j]? =some y->k<=j->ltV y x=false)
theorem aPq{w:List X0}{x:X0}{k:Nat}(h:AtW w x k)(hn:x∉w):w.take k++[x]++w.drop k=Nd w x:=by obtain⟨c1,c2⟩:=Te h.2.1 h.2.2;unfold Nd;rw[c1,c2,if_neg hn];simp
def aUd(y x:X0):Int:=if ltV y x=true then-1 else if ltV x y=true then 1 else 0
theorem aFb{y x:X0}{s:List X0}(hy:vR y=true)(hx:vR x=true):Q8 y x s=some (aUd y x):=by unfold Q8 aUd;rw[aUt,aUt,AB,AB];cases ltV y x<;>cases ltV x y<;>rfl
theorem aS3{y x:X0}:decide (aUd y x<0)=ltV y x:=by unfold aUd;cases ltV y x<;>cases ltV x y<;>rfl
theorem aS1{w s:List X0}{x:X0}(hw:SW w)(hx:vR x=true)(hl:w.length<=1000):
 ∃k:Nat,AtW w x k/\Y0 w x s=some ((k:Int),decide (x∈w)):=by
 have hsub:∀y∈w,Q8 y x s=some (aUd y x):=fun y hy=>aFb (hw.2 y hy) hx
 unfold Y0 S5
 obtain⟨k,hk,hkr,p1,p2⟩:=aS0 (step:=fun s':Int×Int=>F9 w s (w.length:Int) x s'.1 s'.2) w.length (fun a=>match w[a]? with|some y=>ltV y x|none=>false)
  (fun i j hij hj=>by
   obtain⟨y,hy,_⟩:=Aa (l:=w) (i:=(i+j)/2) (by omega);have hd:decide ((i:Int)<(j:Int))=true:=by simp;omega
   simp only[F9,hd,AI,aJq,bDw (show i+j<4611686018427387904 by omega),AN hy,hsub y (List.mem_of_getElem? hy),AB,Wy,hy,aS3];cases ltV y x with
   |true=>simp only[AI,AB,if_true,P3 (show(i+j)/2<9223372036854775807 by omega)]
   |false=>simp[AE,AG])
  (fun i=>by simp[F9,AE])
  (fun a b hab hb h=>by
   obtain⟨y,hy,_⟩:=Aa (l:=w) (i:=a) (by omega);obtain⟨z,hz,_⟩:=Aa (l:=w) (i:=b) hb;simp only[hy,hz]at h⊢;rcases Nat.lt_or_ge a b with g|g
   exact Ga (aQs hw hy hz g) h;have:a=b:=by omega
   subst this;rw[hy]at hz;cases hz;exact h)
 have q1:∀(j:Nat) y,w[j]? =some y->j<k->ltV y x=true:=fun j s hs hj=>by have:=p1 j hj;simp only[hs]at this;exact this
 have q2:∀(j:Nat) y,w[j]? =some y->k<=j->ltV y x=false:=fun j s hs hj=>by have:=p2 j hj (Dj hs);simp only[hs]at this;exact this
 refine⟨k,⟨hk,q1,q2⟩,?_⟩
 rw[hkr,AB]
 have hmem:∀j:Nat,w[j]? =some x->j=k:=fun j hj=>by
  rcases Nat.lt_trichotomy j k with g|g|g
  have:=q1 j x hj g;rw[Jv]at this;cases this;exact g;obtain⟨y,hy,_⟩:=Aa (l:=w) (i:=k) (by have:=Dj hj;omega);have h1:=q2 k y hy (Nat.le_refl _);rw[aQs hw hy hj g]at h1;cases h1
 by_cases h:k<w.length
 obtain⟨y,hy,_⟩:=Aa h
 rw[Dp,if_pos (by omega),AN hy,hsub y (List.mem_of_getElem? hy),AB]
 have hge:=q2 k y hy (Nat.le_refl _)
 congr 2
 rw[decide_eq_decide]
 unfold aUd
 rw[hge,if_neg (by simp)]
 constructor
 intro hc
 rcases(Classical.em (y=x))with e|e
 exact e▸List.mem_of_getElem? hy
 rcases Pc (hw.2 y (List.mem_of_getElem? hy)) hx e with g|g
 rw[hge]at g;cases g
 rw[if_pos g]at hc;cases hc
 intro hm
 obtain⟨j,hj⟩:=List.mem_iff_getElem?.1 hm
 have:=hmem j hj
 subst this
 rw[hy]at hj;cases hj
 rw[Jv];rfl
 rw[Dp,if_neg (by omega)]
 congr 2
 symm
 rw[decide_eq_false_iff_not]
 intro hm
 obtain⟨j,hj⟩:=List.mem_iff_getElem?.1 hm
 have:=hmem j hj
 have:=Dj hj
 omega
theorem ML{w:List X0}{x:X0}(hw:SW w)(hx:vR x=true)(hl:w.length<=900):Z8 x w=some (!decide (x∈w),Nd w x):=by
 unfold Z8 aAz;obtain⟨k,hk,hb⟩:=aS1 (s:=w) hw hx (by omega);rw[hb,AB];by_cases hm:x∈w;simp[hm,AE,AG,Nd];have hin:Qt (k:Int) w [x]=some (Nd w x):=by unfold Qt aXq;have:=hk.1;rw[if_pos ⟨by omega,by omega,by simp,BI (by simp;omega) (by decide)⟩,Int.toNat_natCast,aPq hk hm]
 simp only[hm,decide_false,Bool.not_false,AI];rw[hin];rfl
theorem aO2{α:Type}(w:List α)(k:Nat):sub w 0 (k:Int)=w.take k:=by simp[sub]
theorem aO1{α:Type}(w:List α)(k:Nat):sub w (k:Int) (w.length:Int)=w.drop k:=by simp[sub]
theorem aL4{w:List X0}{x:X0}(hw:SW w)(hx:vR x=true)(hl:w.length<=900):Yr w x=some (Nd w x):=by
 unfold Yr aRw;obtain⟨t,ht,k,hk,rfl,p1,p2⟩:=BB (step:=fun s=>I6 w x s) (fun s=>∃i:Nat,s=(i:Int)/\i<=w.length/\∀(j:Nat) s,w[j]? =some s->i<=j->ltV x s=true) (fun s=>s.toNat)
  (fun t=>∃k:Nat,k<=w.length/\t=(k:Int)/\(∀(j:Nat) s,w[j]? =some s->k=j+1->ltV x s=false)/\∀(j:Nat) s,w[j]? =some s->k<=j->ltV x s=true)
  (by
   rintro s ⟨i,rfl,hi,hj⟩;cases i with
   |zero=>exact .inl ⟨0,by simp[I6,AE],0,by omega,rfl,fun j s _ h=>by omega,hj⟩
   |succ i=>
    obtain⟨y,hy,_⟩:=Aa (l:=w) (i:=i) (by omega)
    have hyR:=hw.2 y (List.mem_of_getElem? hy)
    have e:AA .sub .i64 ((i+1:Nat):Int) 1=(i:Int):=by rw[aEj (by omega) (by omega)];omega
    have hd:decide ((0:Int)<((i+1:Nat):Int))=true:=by simp
    simp only[I6,hd,AI,e,AN hy,bBx _ _ (aQg hx) (aQg hyR),AB]
    cases h:ltV x y with
    |true=>
     refine .inr ⟨_,by simp only[AI],⟨i,rfl,by omega,fun j s hs hij=>?_⟩,by omega⟩
     rcases Nat.eq_or_lt_of_le hij with g|g
     subst g;rw[hy]at hs;cases hs;exact h
     exact hj j s hs g
    |false=>
     refine .inl ⟨_,by simp only[AJ],i+1,hi,rfl,fun j s hs hij=>?_,hj⟩
     have:j=i:=by omega
     subst this;rw[hy]at hs;cases hs;exact h)
  (w.length:Int) ⟨w.length,rfl,Nat.le_refl _,fun j s hs hij=>by have:=Dj hs;omega⟩
 rw[ht,AB];have hrest:(∀y,w[k-1]? =some y->0<k->y≠x)->(AU ((0:Int)<=0/\(0:Int)<=(k:Int)/\(k:Int)<=(w.length:Int)) (
  AU (fit ([]:List X0).length (sub w 0 (k:Int)).length 40) (
   AU (fit (([]:List X0)++(sub w 0 (k:Int))).length [x].length 40) (
    AU ((0:Int)<=(k:Int)/\((k:Int):Int)<=(w.length:Int)/\(w.length:Int)<=(w.length:Int)) (
     AU (fit ((([]:List X0)++(sub w 0 (k:Int)))++[x]).length (sub w (k:Int) (w.length:Int)).length 40) (
      some (((([]:List X0)++(sub w 0 (k:Int)))++[x])++(sub w (k:Int) (w.length:Int)))))))):Option (List X0))=some (Nd w x):=by
  intro hne
  have hlt:∀(j:Nat) y,w[j]? =some y->j<k->ltV y x=true:=fun j y hy hj=>by
   obtain⟨z,hz,_⟩:=Aa (l:=w) (i:=k-1) (by omega);have h1:=p1 (k-1) z hz (by omega);have h2:=hne z hz (by omega);have h3:ltV z x=true:=by
    rcases Pc (hw.2 z (List.mem_of_getElem? hz)) hx h2 with g|g
    exact g;rw[h1]at g;cases g
   rcases Nat.lt_or_ge j (k-1)with g|g
   exact Ga (aQs hw hy hz g) h3;have:j=k-1:=by omega
   subst this;rw[hz]at hy;cases hy;exact h3
  have hAt:AtW w x k:=⟨hk,hlt,fun j y hy hj=>aOi (p2 j y hy hj)⟩
  have hn:x∉w:=fun hm=>by
   obtain⟨j,hj⟩:=List.mem_iff_getElem?.1 hm;rcases Nat.lt_or_ge j k with g|g
   have:=hlt j x hj g;rw[Jv]at this;cases this;have:=p2 j x hj g;rw[Jv]at this;cases this
  rw[aO2,aO1,Ai (by omega),KG (by simp;omega) (by decide),KG (by simp;omega) (by decide),Ai (by omega),KG (by simp;omega) (by decide),List.nil_append,aPq hAt hn]
 rw[Dp];split;rename_i h0;obtain⟨y,hy,_⟩:=Aa (l:=w) (i:=k-1) (by omega);have e:AA .sub .i64 (k:Int) 1=((k-1:Nat):Int):=by rw[aEj (by omega) (by omega)];omega
 rw[e,AN hy,X0.eqb_dec];by_cases hyx:y=x;subst hyx;have hm:=List.mem_of_getElem? hy;simp[AE,Nd,hm];simp only[hyx,decide_false,AJ];exact hrest fun z hz _=>by rw[hy]at hz;cases hz;exact hyx
 exact hrest fun z hz h=>by omega
theorem bAq{q:AD}{e:Xc}(hF:Dt q)(hR:Ag q):Yn q e=some ((List.range q.symbols.length).filterMap fun i=>Jm q i e):=by
 have hs:=hF.symbols;unfold Yn aRu;have h:=D4 (step:=fun s:Int×List Au=>I5 q e s.1 s.2) (List.range q.symbols.length) (fun w i=>w++(Jm q i e).toList) (fun w=>w) (fun i w=>w.length<=i)
  (fun i x w hx hI=>by
   obtain⟨rfl,hi⟩:=aD2 hx;have hlt:decide ((x:Int)<(q.symbols.length:Int))=true:=by simp;omega
   refine⟨?_,by cases Jm q x e<;>simp<;>omega⟩;simp only[I5,hlt,AI,aLu,aZn hF hR hi,AB,aLw,P3 (show x<9223372036854775807 by omega)];rw[KG (by simp;omega) (by decide)];cases Jm q x e<;>simp[aUf,AE,AG])
  (fun w _=>by rw[List.length_range];simp only[I5,ltI,AJ]) [] (by simp)
 rw[h,AB,KP];simp
def D7(a b:List X2):Bool:=a.all fun s=>decide (EG b s.var=(s.value,true))
theorem bBk(a b:List X2)(ha:a.length<=9223372036854775807)(hb:b.length<=9223372036854775807):Zg a b=some (D7 a b):=by
 unfold Zg aSb;rw[Ju a (fun s=>decide (EG b s.var=(s.value,true))) (.inl ()) (.inr ())
  (fun i x hx=>by simp only[LQ,ltD hx,AI,AN hx,Aq hx ha,aMb b _ hb,AB,X0.eqb_dec];obtain⟨y,o⟩:=EG b x.var;cases o;simp[AE];by_cases h:y=x.value<;>simp[AE,h])
  (by simp only[LQ,ltI,AJ]),AB]
 unfold D7;cases a.all _<;>rfl
theorem bAs{l:List Au}{b:List X2}(hl:l.length<=1000)(hs:∀h∈l,h.bind.length<=9223372036854775807)(hb:b.length<=9223372036854775807):Yp l b=some (l.filter fun h=>D7 h.bind b):=by
 unfold Yp aRv;rw[D4 l (fun w x=>if(D7 x.bind b)=true then w++[x]else w) (fun w=>w) (fun i w=>w.length<=i)
  (fun i x w hx hI=>by have:=Dj hx;refine⟨?_,?_⟩;rotate_left;split;simpa using hI;omega;simp only[LK,ltD hx,AI,aLz,AN hx,bBk _ _ (hs x (List.mem_of_getElem? hx)) hb,AB,aL1,Aq hx (show l.length<=9223372036854775807 by omega)];rw[KG (by simp;omega) (by decide)];cases D7 x.bind b<;>simp[AE,AG])
  (fun w _=>by simp only[LK,ltI,AJ]) [] (by simp),Hi,AB]
 simp
def BR(b:List X2):Prop:=b.Pairwise (fun x y=>x.var<y.var)/\∀s∈b,0<=s.var/\s.var<=7/\vR s.value=true
theorem K2:∀(b:List X2) (lo:Int),b.Pairwise (fun x y=>x.var<y.var)->(∀s∈b,lo<=s.var/\s.var<=7)->b.length<=(8-lo).toNat
 |[],_,_,_=>by simp
 |x::b,lo,hp,h=>by
  rw[List.pairwise_cons]at hp;have h1:=K2 b (x.var+1) hp.2 fun s hs=>⟨by have:=hp.1 s hs;omega,(h s (List.mem_cons_of_mem _ hs)).2⟩;have h2:=h x (by simp);rw[List.length_cons];omega
theorem T9{b:List X2}(h:BR b):b.length<=8:=by have:=K2 b 0 h.1 fun s hs=>⟨(h.2 s hs).1,(h.2 s hs).2.1⟩;omega
def okB(l:List X2)(i:Nat):Prop:=∀j,j<i->∃x,l[j]? =some x/\0<=x.var/\x.var<=7/\vR x.value=true/\∀y,0<j->l[j-1]? =some y->y.var<x.var
theorem aDu{l:List X2}(h:okB l l.length):BR l:=by
 have get:∀j (hj:j<l.length),0<=l[j].var/\l[j].var<=7/\vR l[j].value=true/\∀(_:0<j) (h2:j-1<l.length),l[j-1].var<l[j].var:=by intro j hj;obtain⟨x,hx,h1,h2,h5,h3⟩:=h j hj;obtain⟨_,rfl⟩:=List.getElem?_eq_some_iff.1 hx;exact⟨h1,h2,h5,fun h0 h4=>h3 _ h0 (List.getElem?_eq_getElem h4)⟩
 refine⟨List.pairwise_iff_getElem.2 ?_,fun s hs=>?_⟩;intro i j hi hj hij;induction j with
 |zero=>omega
 |succ j ih=>
  have h1:=(get (j+1) hj).2.2.2 (by omega) (by simp;omega)
  simp only[Nat.add_sub_cancel]at h1
  rcases Nat.lt_or_ge i j with h2|h2
  have:=ih (by omega) h2;omega
  have:i=j:=by omega
  subst this;exact h1
 obtain⟨j,hj,rfl⟩:=List.mem_iff_getElem.1 hs;exact⟨(get j hj).1,(get j hj).2.1,(get j hj).2.2.1⟩
theorem NL(l:List X2)(hl:l.length<=9223372036854775807):∃b,Zi l=some b/\(b=true->BR l):=by
 unfold Zi aSd;obtain⟨t,ht,hQ⟩:=BB (step:=fun s=>JK l s) (fun s=>∃i:Nat,s=(i:Int)/\i<=l.length/\okB l i) (fun s=>(l.length-s).toNat) (fun t=>t=.inl ()->okB l l.length)
  (by
   rintro s ⟨i,rfl,hi,hok⟩;by_cases he:i=l.length;subst he;exact .inl ⟨.inl (),by simp only[JK,ltI,AJ],fun _=>hok⟩;obtain⟨x,hx,_⟩:=Aa (l:=l) (i:=i) (by omega);simp only[JK,ltD hx,AI,AN hx,aV0,AB,Aq hx hl,Dp];have hgo:(∀y,0<i->l[i-1]? =some y->y.var<x.var)->¬x.var<0->¬7<x.var->vR x.value=true->okB l (i+1):=by
    intro h1 h2 h3 h5 j hj;rcases Nat.lt_or_ge j i with h4|h4
    exact hok j h4;have:j=i:=by omega
    subst this;exact⟨x,hx,by omega,by omega,h5,h1⟩
   by_cases h1:x.var<0;exact .inl ⟨.inr (),by simp[h1],by simp⟩;by_cases h2:7<x.var;exact .inl ⟨.inr (),by simp[h1,h2],by simp⟩;cases hb:vR x.value with
   |false=>exact .inl ⟨.inr (),by simp[h1,h2,AE],by simp⟩
   |true=>
    by_cases h3:0<i
    obtain⟨y,hy,_⟩:=Aa (l:=l) (i:=i-1) (by omega)
    have e:AA .sub .i64 (i:Int) 1=((i-1:Nat):Int):=by rw[aEj (by omega) (by omega)];omega
    rw[e,AN hy]
    by_cases h4:x.var<=y.var
    exact .inl ⟨.inr (),by simp[h1,h2,h3,h4,AE],by simp⟩
    refine .inr ⟨((i+1:Nat):Int),by simp[h1,h2,h3,h4,AE],⟨i+1,rfl,by omega,hgo (fun z _ hz=>?_) h1 h2 hb⟩,by omega⟩
    rw[hy]at hz;cases hz;omega
    refine .inr ⟨((i+1:Nat):Int),by simp[h1,h2,h3,AE],⟨i+1,rfl,by omega,hgo (fun z h0=>absurd h0 h3) h1 h2 hb⟩,by omega⟩)
  (0:Int) ⟨0,rfl,by omega,fun j hj=>by omega⟩
 rw[ht,AB];rcases t with _|_
 exact⟨true,rfl,fun _=>aDu (hQ rfl)⟩;exact⟨false,rfl,by simp⟩
theorem H4(n:Nat)(h:n<4294967296):(BitVec.ofInt 32 (n:Int)).toNat=n:=by simp[BitVec.toNat_ofInt];omega
theorem Hd{n:Nat}(h:n<4294967296):IntKind.wrap .u32 (n:Int)=n:=by simp[IntKind.wrap,IntKind.signed,IntKind.bits];omega
theorem NE{n m:Nat}(hn:n<4294967296)(hm:m<4294967296):AA .or .u32 (n:Int) (m:Int)=((n|||m:Nat):Int):=by have h:n|||m<2^32:=Nat.or_lt_two_pow (by simpa using hn) (by simpa using hm);show IntKind.wrap .u32 (((BitVec.ofInt 32 (n:Int))|||(BitVec.ofInt 32 (m:Int))).toNat:Int)=_;rw[BitVec.toNat_or,H4 n hn,H4 m hm];exact Hd (by simpa using h)
theorem aPp{n m:Nat}(hn:n<4294967296)(hm:m<4294967296):AA .and .u32 (n:Int) (m:Int)=((n&&&m:Nat):Int):=by have h:n&&&m<2^32:=Nat.and_lt_two_pow _ (by simpa using hm);show IntKind.wrap .u32 (((BitVec.ofInt 32 (n:Int))&&&(BitVec.ofInt 32 (m:Int))).toNat:Int)=_;rw[BitVec.toNat_and,H4 n hn,H4 m hm];exact Hd (by simpa using h)
theorem Pz{s:Nat}(h:s<32):AA .shl .u32 1 (s:Int)=((2^s:Nat):Int):=by
 have e:(1:Int)*2^(min (Int.toNat (s:Int)) (IntKind.bits .u32))=((2^s:Nat):Int):=by rw[Int.toNat_natCast,show min s (IntKind.bits .u32)=s from Nat.min_eq_left (Nat.le_of_lt h)];simp
 show IntKind.wrap .u32 (1*2^(min (Int.toNat (s:Int)) (IntKind.bits .u32)))=_;rw[e];exact Hd (Nat.lt_of_lt_of_le (Nat.pow_lt_pow_right (by decide) h) (by decide))
theorem aOy{s:Nat}(h:s<64):AA .shl .u64 1 (s:Int)=((2^s:Nat):Int):=by
 have e:(1:Int)*2^(min (Int.toNat (s:Int)) (IntKind.bits .u64))=((2^s:Nat):Int):=by rw[Int.toNat_natCast,show min s (IntKind.bits .u64)=s from Nat.min_eq_left (Nat.le_of_lt h)];simp
 show IntKind.wrap .u64 (1*2^(min (Int.toNat (s:Int)) (IntKind.bits .u64)))=_;rw[e];exact At (Nat.lt_of_lt_of_le (Nat.pow_lt_pow_right (by decide) h) (by decide))
theorem P0{k:IntKind}{n s:Nat}(h:s<k.bits):AA .shr k (n:Int) (s:Int)=((n/2^s:Nat):Int):=by show(n:Int).fdiv (2^(min (Int.toNat (s:Int)) k.bits))=_;rw[Int.toNat_natCast,Nat.min_eq_left (Nat.le_of_lt h),Int.fdiv_eq_ediv_of_nonneg _ (Int.le_of_lt (Int.pow_pos (by decide)))];simp
theorem bDb{k:IntKind}(n:Nat):AA .rem k (n:Int) 2=((n % 2:Nat):Int):=by show(n:Int).tmod 2=_;rw[Int.tmod_eq_emod_of_nonneg (by omega)];omega
theorem PG(n s:Nat):n/2^s % 2=if n.testBit s=true then 1 else 0:=by have:=Nat.testBit_eq_decide_div_mod_eq (x:=n) (i:=s);rw[this];by_cases h:n/2^s % 2=1;simp[h];simp only[h,decide_false,Bool.false_eq_true,if_false];have:=Nat.mod_two_eq_zero_or_one (n/2^s);omega
theorem PF(n s:Nat):(n&&&2^s=0)↔n.testBit s=false:=by constructor;intro h;have h2:=congrArg (fun x=>x.testBit s) h;simp only[Nat.testBit_and,Nat.testBit_two_pow_self,Bool.and_true,Nat.zero_testBit]at h2;exact h2;intro h;apply Nat.eq_of_testBit_eq;intro i;rw[Nat.testBit_and,Nat.testBit_two_pow,Nat.zero_testBit];by_cases hi:s=i;subst hi;simp[h];simp[hi]
theorem Fa{α β γ τ:Type}{step:γ×Int->Option (γ×Int⊕τ)}(enc:β->γ)(l:List α)(f:β->α->β)(fin:β->τ)(I:Nat->β->Prop)
 (h1:∀(i:Nat) x w,l[i]? =some x->I i w->step (enc w,(i:Int))=some (.inl (enc (f w x),((i+1:Nat):Int)))/\I (i+1) (f w x))
 (h2:∀w,I l.length w->step (enc w,(l.length:Int))=some (.inr (fin w))) (w:β) (h0:I 0 w):AQ step (enc w,0)=some (fin (l.foldl f w)):=by
 have h:=Em (step:=step) l (fun i w=>(enc w,(i:Int))) (fun _ w x=>(.inl (f w x):β⊕τ)) fin I (fun i x w hx hI=>⟨(h1 i x w hx hI).1,fun w' hw=>by cases hw;exact(h1 i x w hx hI).2⟩) h2 (l.length+1) 0 w (by omega) (by omega) h0
 rw[show(enc w,(0:Int))=(enc w,((0:Nat):Int))from rfl,h,List.drop_zero]
 congr 1
 clear h h1 h2 h0
 generalize 0=i
 revert i w
 induction l with
 |nil=>intro w i;rfl
 |cons x xs ih=>intro w i;rw[Ng];exact ih _ _
def toF(M s:Nat)(w:Nat)(t:Xr):Nat:=if t.from_=(s:Int)/\M.testBit t.symbol.toNat=true then w|||2^t.to.toNat else w
def toN(q:AD)(M s:Nat):Nat:=q.trans.foldl (toF M s) 0
def aPx(q:AD)(M s:Nat):Nat:=if toN q M s=0/\(q.states[s]?.map (·.next))=some false then 2^s else toN q M s
def Lx(q:AD)(S M:Nat)(w:Nat)(s:Nat):Nat:=if S.testBit s=true then w|||aPx q M s else w
def Da(q:AD)(S M:Nat):Nat:=(List.range q.states.length).foldl (Lx q S M) 0
theorem aWx{a b:Nat}(h1:a<4294967296)(h2:b<4294967296):a|||b<4294967296:=by have:=Nat.or_lt_two_pow (n:=32) (x:=a) (y:=b) (by simpa using h1) (by simpa using h2);simpa using this
theorem J3{s:Nat}(h:s<32):2^s<4294967296:=Nat.lt_of_lt_of_le (Nat.pow_lt_pow_right (by decide) h) (by decide)
theorem aEo{q:AD}(h8:q.states.length<=12)(hR:Ag q){M s w:Nat}{t:Xr}(ht:t∈q.trans)(hw:w<4294967296):toF M s w t<4294967296:=by unfold toF;split;have:=(hR.ends t ht).2.2;exact aWx hw (J3 (by omega));exact hw
theorem aEp{q:AD}(h8:q.states.length<=12)(hR:Ag q)(M s:Nat):toN q M s<4294967296:=by
 unfold toN;suffices∀(l:List Xr) (w:Nat),(∀t∈l,t∈q.trans)->w<4294967296->l.foldl (toF M s) w<4294967296 from this _ _ (fun _ h=>h) (by decide)
 intro l;induction l with
 |nil=>intro w _ h;exact h
 |cons t l ih=>intro w hl hw;exact ih _ (fun t h=>hl t (List.mem_cons_of_mem _ h)) (aEo h8 hR (hl t (by simp)) hw)
theorem aTa{q:AD}(h8:q.states.length<=12)(hR:Ag q)(M:Nat){s:Nat}(hs:s<q.states.length):aPx q M s<4294967296:=by unfold aPx;split;exact J3 (by omega);exact aEp h8 hR M s
theorem Rx{q:AD}(h8:q.states.length<=12)(hR:Ag q)(S M:Nat){w s:Nat}(hs:s<q.states.length)(hw:w<4294967296):Lx q S M w s<4294967296:=by unfold Lx;split;exact aWx hw (aTa h8 hR M hs);exact hw
theorem R5{n i x:Nat}(h:(List.range n)[i]? =some x):x=i/\i<n:=by
 have h1:i<n:=by simpa using (List.getElem?_eq_some_iff.1 h).1
 rw[List.getElem?_range h1,oe]at h;exact⟨h.symm,h1⟩
theorem PX{q:AD}(hF:Dt q)(hR:Ag q)(S M:Nat)(hM:M<18446744073709551616)(s7:Int)(s:Nat)(s14:List Xg)(s15:Int)(x:Xg):
 SU (S:Int) (M:Int) s7 (s:Int) s14 s15 (s:Int) q.trans (q.trans.length:Int) q x 0 0=some ((toN q M s:Nat):Int):=by
 have h8:=hF.states
 have ht12:=hF.trans
 have hsy:=hF.symbols
 unfold SU
 have:=Fa (step:=fun z:Int×Int=>G0 (S:Int) (M:Int) s7 (s:Int) s14 s15 (s:Int) q.trans (q.trans.length:Int) q x z.1 z.2) (fun w:Nat=>(w:Int)) q.trans (toF M s) (fun w=>(w:Int)) (fun _ w=>w<4294967296)
  (fun i t w hx hw=>by
   have hm:=List.mem_of_getElem? hx;have he:=hR.ends t hm;refine⟨?_,aEo h8 hR hm hw⟩;obtain⟨y,hy⟩:∃y:Nat,t.symbol=(y:Int):=⟨t.symbol.toNat,by omega⟩;obtain⟨z,hz⟩:∃z:Nat,t.to=(z:Int):=⟨t.to.toNat,by omega⟩;have hy12:y<12:=by omega
   have hz12:z<12:=by omega
   have hwy:IntKind.wrap .u64 (y:Int)=(y:Int):=At (by omega);have hwz:IntKind.wrap .u64 (z:Int)=(z:Int):=At (by omega);simp only[G0,ltD hx,AI,aGd,AN hx,Aq hx (show q.trans.length<=9223372036854775807 by omega),Us,hy,hz,hwy,hwz,toF,Int.toNat_natCast];rw[aOy (by omega),bCb hM (Nat.lt_of_lt_of_le (Nat.pow_lt_pow_right (by decide) (show y<64 by omega)) (by decide)),Pz (by omega),NE hw (J3 (by omega))];have hb:decide (((M&&&2^y:Nat):Int)=0)= !M.testBit y:=by
    have:=PF M y;cases hb:M.testBit y with
    |false=>have h0:=this.2 hb;rw[h0];rfl
    |true=>
     have h0:¬M&&&2^y=0:=fun h=>by have:=this.1 h;rw[hb]at this;cases this
     simp;omega
   rw[hb];by_cases hf:t.from_=(s:Int);rw[Dp,if_pos hf,Ai (by omega)];cases hb2:M.testBit y with
   |true=>simp only[Bool.not_true,Bool.not_false,AI,Ai (show(0:Int)<=(z:Int) by omega),AB,hf,true_and,if_true]
   |false=>simp only[Bool.not_false,Bool.not_true,AJ,AB,hf,true_and,Bool.false_eq_true,if_false]
   rw[Dp,if_neg hf];simp only[AJ,AB,hf,false_and,if_false])
  (fun w _=>by simp only[G0,ltI,AJ]) 0 (by decide)
 exact this
theorem aYn{q:AD}(hF:Dt q)(hR:Ag q){S M:Nat}(hS:S<4294967296)(hM:M<18446744073709551616):X8 q (S:Int) (M:Int)=some ((Da q S M:Nat):Int):=by
 have h8:=hF.states;have hl:(List.range q.states.length).length=q.states.length:=List.length_range;have key:=Fa (step:=fun z:Int×Int=>E0 (S:Int) (M:Int) q.states (q.states.length:Int) q z.1 z.2) (fun w:Nat=>(w:Int)) (List.range q.states.length) (Lx q S M) (fun w=>(w:Int)) (fun _ w=>w<4294967296)
  (fun i s w hx hw=>by
   obtain⟨rfl,hs⟩:=R5 hx;refine⟨?_,Rx h8 hR S M hs hw⟩;obtain⟨x,hxs,_⟩:=Aa hs;have hws:IntKind.wrap .u64 (s:Int)=(s:Int):=At (by omega);simp only[E0,ltD hxs,AI,SS,AN hxs,hws,Aq hxs (show q.states.length<=9223372036854775807 by omega),Ai (show(0:Int)<=(s:Int) by omega)];rw[Pz (by omega),aPp hS (J3 (by omega)),PX hF hR S M hM];have hb:decide (((S&&&2^s:Nat):Int)=0)= !S.testBit s:=by
    have:=PF S s;cases hb:S.testBit s with
    |false=>have h0:=this.2 hb;rw[h0];rfl
    |true=>
     have h0:¬S&&&2^s=0:=fun h=>by have:=this.1 h;rw[hb]at this;cases this
     simp;omega
   rw[hb];unfold Lx aPx;rw[hxs];cases hb2:S.testBit s with
   |false=>simp only[Bool.not_false,AI,AB,Bool.false_eq_true,if_false]
   |true=>
    have hto:=aEp h8 hR M s
    simp only[Bool.not_true,AJ,AB,if_true,Option.map_some,oe]
    by_cases h0:toN q M s=0
    rw[h0]
    cases hn:x.next with
    |false=>
     simp only[Int.ofNat_zero,Int.natCast_zero,decide_true,AI,LA,Bool.not_false,hws,Ai (show(0:Int)<=(s:Int) by omega),AB,and_self,if_true]
     rw[Pz (by omega),NE hw (J3 (by omega))]
    |true=>
     simp only[Int.natCast_zero,decide_true,AI,LA,Bool.not_true,AJ,AB,Bool.true_eq_false,and_false,if_false]
     rw[show(0:Int)=((0:Nat):Int)from rfl,NE hw (by decide)]
    have hd:decide (((toN q M s:Nat):Int)=0)=false:=by simp;omega
    simp only[hd,AJ,LA,AB,h0,false_and,if_false]
    rw[NE hw hto])
  (fun w _=>by rw[hl];simp only[E0,ltI,AJ]) 0 (by decide)
 unfold X8 Ut;have key':AQ (fun z:Int×Int=>E0 (S:Int) (M:Int) q.states (q.states.length:Int) q z.1 z.2) (0,0)=some ((Da q S M:Nat):Int):=key;rw[key',AB]
theorem Pw{q:AD}(hF:Dt q)(hR:Ag q)(S M:Nat)(hM:M<18446744073709551616)(s7:Int)(s:Nat):
 aIs (S:Int) (M:Int) s7 (s:Int) q 0 0=some ((toN q M s:Nat):Int):=by
 have h8:=hF.states
 have ht12:=hF.trans
 have hsy:=hF.symbols
 unfold aIs
 have:=Fa (step:=fun z:Int×Int=>Ig (S:Int) (M:Int) s7 (s:Int) q z.1 z.2) (fun w:Nat=>(w:Int)) q.trans (toF M s) (fun w=>(w:Int)) (fun _ w=>w<4294967296)
  (fun i t w hx hw=>by
   have hm:=List.mem_of_getElem? hx;have he:=hR.ends t hm;refine⟨?_,aEo h8 hR hm hw⟩;obtain⟨y,hy⟩:∃y:Nat,t.symbol=(y:Int):=⟨t.symbol.toNat,by omega⟩;obtain⟨z,hz⟩:∃z:Nat,t.to=(z:Int):=⟨t.to.toNat,by omega⟩;have hy12:y<12:=by omega
   have hz12:z<12:=by omega
   have hwy:IntKind.wrap .u64 (y:Int)=(y:Int):=At (by omega);have hwz:IntKind.wrap .u64 (z:Int)=(z:Int):=At (by omega);simp only[Ig,ltD hx,AI,aIp,AN hx,Aq hx (show q.trans.length<=9223372036854775807 by omega),WF,hy,hz,hwy,hwz,toF,Int.toNat_natCast];rw[P0 (k:=.u64) (s:=y) (show y<64 by omega),bDb,PG,Pz (by omega),NE hw (J3 (by omega))];by_cases hf:t.from_=(s:Int);rw[Dp,if_pos hf,Ai (by omega)];cases hb2:M.testBit y with
   |true=>simp only[if_true,Int.natCast_one,decide_true,AI,Ai (show(0:Int)<=(z:Int) by omega),AB,hf,true_and]
   |false=>simp only[Bool.false_eq_true,if_false,Int.natCast_zero,show decide ((0:Int)=1)=false from rfl,AJ,AB,and_false]
   rw[Dp,if_neg hf];simp only[AJ,AB,hf,false_and,if_false])
  (fun w _=>by simp only[Ig,ltI,AJ]) 0 (by decide)
 exact this
theorem aZd{q:AD}(hF:Dt q)(hR:Ag q){S M:Nat}(hS:S<4294967296)(hM:M<18446744073709551616):Xp q (S:Int) (M:Int)=some ((Da q S M:Nat):Int):=by
 have h8:=hF.states;have hl:(List.range q.states.length).length=q.states.length:=List.length_range;have key:=Fa (step:=fun z:Int×Int=>G7 (S:Int) (M:Int) q z.1 z.2) (fun w:Nat=>(w:Int)) (List.range q.states.length) (Lx q S M) (fun w=>(w:Int)) (fun _ w=>w<4294967296)
  (fun i s w hx hw=>by
   obtain⟨rfl,hs⟩:=R5 hx;refine⟨?_,Rx h8 hR S M hs hw⟩;obtain⟨x,hxs,_⟩:=Aa hs;have hws:IntKind.wrap .u64 (s:Int)=(s:Int):=At (by omega);simp only[G7,ltD hxs,AI,aIn,AN hxs,hws,Aq hxs (show q.states.length<=9223372036854775807 by omega),Ai (show(0:Int)<=(s:Int) by omega)];rw[P0 (k:=.u32) (s:=s) (show s<32 by omega),bDb,PG,Pw hF hR S M hM];unfold Lx aPx;rw[hxs];cases hb2:S.testBit s with
   |false=>simp only[Bool.false_eq_true,if_false,Int.natCast_zero,decide_true,AI,AB]
   |true=>
    have hto:=aEp h8 hR M s
    simp only[if_true,Int.natCast_one,show decide ((1:Int)=0)=false from rfl,AJ,AB,Option.map_some,oe]
    by_cases h0:toN q M s=0
    rw[h0]
    cases hn:x.next with
    |false=>
     simp only[Int.natCast_zero,decide_true,AI,Oh,Bool.not_false,hws,Ai (show(0:Int)<=(s:Int) by omega),AB,and_self,if_true]
     rw[Pz (by omega),NE hw (J3 (by omega))]
    |true=>
     simp only[Int.natCast_zero,decide_true,AI,Oh,Bool.not_true,AJ,AB,Bool.true_eq_false,and_false,if_false]
     rw[show(0:Int)=((0:Nat):Int)from rfl,NE hw (by decide)]
    have hd:decide (((toN q M s:Nat):Int)=0)=false:=by simp;omega
    simp only[hd,AJ,Oh,AB,h0,false_and,if_false]
    rw[NE hw hto])
  (fun w _=>by rw[hl];simp only[G7,ltI,AJ]) 0 (by decide)
 unfold Xp aRa;have key':AQ (fun z:Int×Int=>G7 (S:Int) (M:Int) q z.1 z.2) (0,0)=some ((Da q S M:Nat):Int):=key;rw[key',AB]
structure Cf(q:AD):Prop where
 frees:q.frees=[]
 quants:q.quants.length<=1
 states:q.states.length<=8
 symbols:q.symbols.length<=8
 guards:∀t∈q.trans,t.guard= -1
theorem bA8{q:AD}(hF:Dt q):∃r,Z7 q=some r/\(r=true->Cf q):=by
 have ht:=hF.trans;obtain⟨o,ho,hQ⟩:=Al (step:=fun s=>JE q s) q.trans.length (fun i=>∀t,q.trans[i]? =some t->t.guard= -1) (fun o=>o=Sum.inl ()->∀t∈q.trans,t.guard= -1)
  (fun i hi=>by obtain⟨x,hx,_⟩:=Aa hi;simp only[JE,ltD hx,AI,AN hx,Aq hx (show q.trans.length<=9223372036854775807 by omega)];by_cases h:x.guard= -1;exact .inl ⟨by rw[decide_eq_true h];rfl,fun t h2=>by rw[hx,oe]at h2;exact h2▸h⟩;exact .inr ⟨.inr (),by rw[decide_eq_false h];rfl,fun h=>by cases h⟩)
  (fun hall=>⟨.inl (),by simp only[JE,ltI,AJ],fun _=>GC hall⟩)
 have ho':aR6 q 0=some o:=ho;unfold Z7;refine BY (fun _=>⟨_,rfl,by simp⟩) (fun h1=>?_);refine BY (fun _=>⟨_,rfl,by simp⟩) (fun h2=>?_);refine BY (fun _=>⟨_,rfl,by simp⟩) (fun h3=>?_);refine BY (fun _=>⟨_,rfl,by simp⟩) (fun h4=>?_);refine Bb ho' ?_;rcases o with⟨⟩|⟨⟩
 rw[CK];exact⟨_,rfl,fun _=>⟨List.eq_nil_of_length_eq_zero (by omega),by omega,by omega,by omega,hQ rfl⟩⟩;rw[D6];exact⟨_,rfl,by simp⟩
theorem aX3(q:AD)(b:List X2)(hb:b.length<=9223372036854775807):∃r,Qg q b=some r/\(r=true->BR b):=by unfold Qg;refine BY (fun h=>⟨_,rfl,fun _=>?_⟩) (fun _=>?_);have:b=[]:=List.eq_nil_of_length_eq_zero (by omega);subst this;exact⟨List.Pairwise.nil,by simp⟩;refine BY (fun h1=>?_) (fun _=>⟨_,rfl,by simp⟩);refine BY (fun h2=>?_) (fun _=>⟨_,rfl,by simp⟩);obtain⟨x,hx,_⟩:=Aa (l:=b) (i:=0) (by omega);obtain⟨y,hy,_⟩:=Aa (l:=q.quants) (i:=0) (by omega);rw[show(0:Int)=((0:Nat):Int)from rfl,AN hx];refine BY (fun h3=>?_) (fun _=>⟨_,rfl,by simp⟩);rw[AN hx,AN hy];refine BY (fun h4=>?_) (fun _=>⟨_,rfl,by simp⟩);obtain⟨r,hr,hR⟩:=NL b hb;exact Bb hr ⟨_,rfl,hR⟩
theorem bDe{i:Nat}(h:0<i)(hi:i<=1000000):AA .sub .i64 (i:Int) 1=((i-1:Nat):Int):=by have:IntKind.wrap .i64 ((i:Int)-1)=(i:Int)-1:=IntWalk.i64_in _ ⟨by omega,by omega⟩;show IntKind.wrap .i64 ((i:Int)-1)=_;rw[this];omega
theorem Kp:∀(al:List B0) (xs:List X0) (b:List X2) (p:List X2×List X2),(∀a∈al,a.kind≠3)->Ho al xs b []=some p->p.2=[]
 |[],xs,b,p,_,h=>by
  cases xs<;>(simp only[Ho,oe]at h;subst h;rfl)
 |a::al,[],b,p,_,h=>by simp only[Ho,oe]at h;subst h;rfl
 |a::al,x::xs,b,p,hk,h=>by
  have ih:=fun b' h'=>Kp al xs b' p (fun a ha=>hk a (List.mem_cons_of_mem _ ha)) h';rw[Ho]at h;split at h;split at h;exact ih _ h;cases h;split at h;split at h;cases h;exact ih _ h;split at h;exact absurd (by assumption) (hk a (by simp));exact ih _ h
theorem aC0{q:AD}(hR:Ag q)(hS:Cf q){e:Xc}{i:Nat}{h:Au}(hh:Jm q i e=some h):h.frees=[]:=by unfold Jm at hh;split at hh;cases hh;rename_i s hs;split at hh;cases hh;split at hh;rw[om]at hh;obtain⟨p,hp,rfl⟩:=hh;refine Kp _ _ _ _ (fun a ha h3=>?_) hp;have:=((hR.symbols s (List.mem_of_getElem? hs)).args a ha).three h3;rw[hS.frees]at this;simp at this;omega;cases hh
structure aXw(l:List Au):Prop where
 frees:∀h∈l,h.frees=[]
 rise:l.Pairwise fun a b=>a.symbol<b.symbol
 len:l.length<=1000
def ga(w:List Int)(i:Nat):Int:=w.getD i 0
def swp(w:List Int)(i j:Nat):List Int:=(w.set i (ga w j)).set j (ga w i)
theorem B2(w:List Int)(i j:Nat):(swp w i j).length=w.length:=by unfold swp;rw[List.length_set,List.length_set]
theorem Ew{w:List Int}{i j:Nat}(hi:i<w.length)(hj:j<w.length)(k:Nat):ga (swp w i j) k=if k=j then ga w i else if k=i then ga w j else ga w k:=by unfold swp ga;simp only[List.getD_eq_getElem?_getD,List.getElem?_set,List.length_set];by_cases h1:k=j;subst h1;simp[hj];rw[if_neg (fun e=>h1 e.symm),if_neg h1];by_cases h2:k=i;subst h2;simp[hi];rw[if_neg (fun e=>h2 e.symm),if_neg h2]
theorem Ji{w:List Int}{i:Nat}(h:i<w.length):w[i]=ga w i:=by unfold ga;simp[h]
theorem aO3{w:List Int}{i j:Nat}(hi:i<w.length)(hj:j<w.length):(swp w i j).Perm w:=by have:=List.set_set_perm hi hj;rw[Ji hi,Ji hj]at this;exact this
structure Pm(a b:Nat)(w w':List Int):Prop where
 perm:w'.Perm w
 out:∀i,i<a\/b<=i->ga w' i=ga w i
 src:∀j,a<=j->j<b->∃i,a<=i/\i<b/\ga w' j=ga w i
theorem Pm.len{a b:Nat}{w w':List Int}(h:Pm a b w w'):w'.length=w.length:=h.perm.length_eq
theorem Pm.refl(a b:Nat)(w:List Int):Pm a b w w:=⟨List.Perm.refl _,fun _ _=>rfl,fun j h1 h2=>⟨j,h1,h2,rfl⟩⟩
theorem Pm.trans{a b:Nat}{w w1 w2:List Int}(h:Pm a b w w1)(k:Pm a b w1 w2):Pm a b w w2:=
 ⟨k.perm.trans h.perm,fun i hi=>(k.out i hi).trans (h.out i hi),fun j h1 h2=>by obtain⟨i,a1,a2,a3⟩:=k.src j h1 h2;obtain⟨i2,b1,b2,b3⟩:=h.src i a1 a2;exact⟨i2,b1,b2,a3.trans b3⟩⟩
theorem Pm.mono{a b a' b':Nat}{w w1:List Int}(h:Pm a b w w1)(h1:a'<=a)(h2:b<=b'):Pm a' b' w w1:=
 ⟨h.perm,fun i hi=>h.out i (by omega),fun j j1 j2=>by by_cases hj:a<=j/\j<b;obtain⟨i,a1,a2,a3⟩:=h.src j hj.1 hj.2;exact⟨i,by omega,by omega,a3⟩;exact⟨j,j1,j2,h.out j (by omega)⟩⟩
theorem Pm.swp{a b:Nat}{w:List Int}{i j:Nat}(hi:a<=i/\i<b)(hj:a<=j/\j<b)(hb:b<=w.length):Pm a b w (swp w i j):=by
 have h1:i<w.length:=by omega
 have h2:j<w.length:=by omega
 refine⟨aO3 h1 h2,fun k hk=>?_,fun k k1 k2=>?_⟩;rw[Ew h1 h2,if_neg (by omega),if_neg (by omega)];rw[Ew h1 h2];split;exact⟨i,hi.1,hi.2,rfl⟩;split;exact⟨j,hj.1,hj.2,rfl⟩;exact⟨k,k1,k2,rfl⟩
section
variable {β:Type}
theorem Ey{w:List Int}{n:Nat}(h:n<w.length)(k:Int->Option β):AT w (n:Int) k=k (ga w n):=by refine AN ?_ k;rw[List.getElem?_eq_getElem h,Ji h]
theorem FR{w:List Int}{n:Nat}(h:n<w.length)(k:Option β):AU (0<=(n:Int)/\(n:Int)+1<=(w.length:Int)) k=k:=Ai ⟨by omega,by omega⟩ k
theorem ltT{i j:Nat}(h:i<j)(x y:Option β):AE (decide ((i:Int)<(j:Int))) x y=x:=by rw[decide_eq_true (by omega)];rfl
theorem ltF{i j:Nat}(h:¬i<j)(x y:Option β):AE (decide ((i:Int)<(j:Int))) x y=y:=by rw[decide_eq_false (by omega)];rfl
theorem leT{i j:Nat}(h:i<=j)(x y:Option β):AE (decide ((i:Int)<=(j:Int))) x y=x:=by rw[decide_eq_true (by omega)];rfl
theorem leF{i j:Nat}(h:¬i<=j)(x y:Option β):AE (decide ((i:Int)<=(j:Int))) x y=y:=by rw[decide_eq_false (by omega)];rfl
end
theorem Gj{n:Nat}(h:n<=4611686018427387904):AA .add .i64 (n:Int) 1=((n+1:Nat):Int):=P3 (by omega)
theorem Dw{n:Nat}(h:1<=n/\n<=4611686018427387904):AA .sub .i64 (n:Int) 1=((n-1:Nat):Int):=by rw[aEj (by omega) (by omega)];omega
theorem RN{n m:Nat}(h:n+m<=4611686018427387904):AA .add .i64 (n:Int) (m:Int)=((n+m:Nat):Int):=by rw[LV (by omega) (by omega)];omega
theorem aEk{n m:Nat}(h:m<=n/\n<=4611686018427387904):AA .sub .i64 (n:Int) (m:Int)=((n-m:Nat):Int):=by rw[aEj (by omega) (by omega)];omega
theorem Bz(a b:Int):Yk a b=some (decide (a<b)):=by unfold Yk Qd;simp[AG,AE]
theorem bCj(a i:Nat)(s2 s6:Int):∀(j:Nat) (w:List Int),w.length<=1000000->i<w.length->a<=j->j<=i->(∀p q,a<=p->p<q->q<=i->q≠j->ga w p<=ga w q)->
 ∃w',TA (a:Int) s2 s6 (j:Int) w=some w'/\Pm a (i+1) w w'/\∀p q,a<=p->p<q->q<=i->ga w' p<=ga w' q:=by
 intro j
 induction j with
 |zero=>
  intro w hl hi ha hj hs
  refine⟨w,?_,Pm.refl _ _ _,fun p q h1 h2 h3=>hs p q h1 h2 h3 (by omega)⟩
  rw[RC]
  unfold E1
  rw[ltF (by omega),Ad]
 |succ j ih=>
  intro w hl hi ha hj hs
  rw[RC]
  by_cases h0:a<j+1
  by_cases h1:ga w (j+1)<ga w j
  have hp:=Pm.swp (a:=a) (b:=i+1) (w:=w) (i:=j+1) (j:=j) ⟨by omega,by omega⟩ ⟨by omega,by omega⟩ (by omega)
  have hg:=Ew (w:=w) (i:=j+1) (j:=j) (by omega) (by omega)
  obtain⟨w',e1,e2,e3⟩:=ih (swp w (j+1) j) (by rw[B2];omega) (by rw[B2];omega) (by omega) (by omega) (fun p q p1 p2 p3 p4=>by have b1:=hs p q p1 p2 p3;have b2:=hs p (j+1) p1;have b3:=hs p j p1;have b4:=hs (j+1) q (by omega);have b5:=hs j q (by omega);rw[hg,hg];by_cases c1:p=j;rw[if_pos c1];by_cases c2:q=j+1;rw[if_neg (by omega),if_pos c2];omega;rw[if_neg (by omega),if_neg c2];exact b4 (by omega) p3 c2;rw[if_neg c1];by_cases c2:p=j+1;rw[if_pos c2,if_neg (by omega),if_neg (by omega)];exact b5 (by omega) p3 (by omega);rw[if_neg c2];by_cases c3:q=j+1;rw[if_neg (by omega),if_pos c3];exact b3 (by omega) (by omega) (by omega);rw[if_neg (by omega),if_neg c3];exact b1 c3)
  refine⟨w',?_,hp.trans e2,e3⟩
  rw[<-e1]
  unfold E1
  rw[ltT h0]
  simp (disch:=omega) only[Dw,Nat.add_sub_cancel,FR,Ey,Bz,AB,h1,decide_true,AI,List.length_set,Int.toNat_natCast,BC]
  rfl
  refine⟨w,?_,Pm.refl _ _ _,fun p q p1 p2 p3=>?_⟩
  unfold E1
  rw[ltT h0]
  simp (disch:=omega) only[Dw,Nat.add_sub_cancel,FR,Ey,Bz,AB,h1,decide_false,AJ,Ad]
  by_cases hq:q=j+1
  subst hq
  by_cases hpj:p=j
  subst hpj;omega
  have:=hs p j p1 (by omega) (by omega) (by omega)
  omega
  exact hs p q p1 p2 p3 hq
  refine⟨w,?_,Pm.refl _ _ _,fun p q p1 p2 p3=>hs p q p1 p2 p3 (by omega)⟩
  unfold E1
  rw[ltF h0,Ad]
def So(a b:Nat)(w:List Int):Prop:=∀p q,a<=p->p<q->q<b->ga w p<=ga w q
theorem bCi(a b:Nat):∀(m i:Nat) (w:List Int),b<=i+m->w.length<=1000000->b<=w.length->a<i->So a i w->
 ∃w',S9 (a:Int) (b:Int) (i:Int) w=some w'/\Pm a b w w'/\So a b w':=by
 intro m
 induction m with
 |zero=>
  intro i w hm hl hb ha hs
  refine⟨w,?_,Pm.refl _ _ _,fun p q h1 h2 h3=>hs p q h1 h2 (by omega)⟩
  rw[Qz]
  unfold HC
  rw[ltF (by omega),Ad]
 |succ m ih=>
  intro i w hm hl hb ha hs
  rw[Qz]
  unfold HC
  by_cases h0:i<b
  obtain⟨w1,e1,e2,e3⟩:=bCj a i (b:Int) (i:Int) i w hl (by omega) (by omega) (by omega) (fun p q h1 h2 h3 h4=>hs p q h1 h2 (by omega))
  obtain⟨w2,f1,f2,f3⟩:=ih (i+1) w1 (by omega) (by rw[e2.len];exact hl) (by rw[e2.len];exact hb) (by omega) (fun p q h1 h2 h3=>e3 p q h1 h2 (by omega))
  refine⟨w2,?_,(e2.mono (by omega) (by omega)).trans f2,f3⟩
  rw[ltT h0,e1,AB,Gj (by omega),BC]
  exact f1
  refine⟨w,by rw[ltF h0,Ad],Pm.refl _ _ _,fun p q h1 h2 h3=>hs p q h1 h2 (by omega)⟩
theorem bCk(a b:Nat)(w:List Int)(hl:w.length<=1000000)(hb:b<=w.length)(hab:a<=b):∃w',Y3 (a:Int) (b:Int) w=some w'/\Pm a b w w'/\So a b w':=by obtain⟨w',e1,e2,e3⟩:=bCi a b b (a+1) w (by omega) hl hb (by omega) (fun p q h1 h2 h3=>by omega);refine⟨w',?_,e2,e3⟩;unfold Y3;rw[Gj (by omega),e1,AB]
theorem M9{n:Nat}(h:2*n<=4611686018427387904):AA .mul .i64 2 (n:Int)=((2*n:Nat):Int):=by rw[aWu (by omega) (by omega)];omega
theorem aW4{n k:Nat}(h:n<=4611686018427387904):AA .quo .i64 (n:Int) (k:Int)=((n/k:Nat):Int):=by show IntKind.wrap .i64 ((n:Int).tdiv (k:Int))=_;rw[<-Int.ofNat_tdiv];have:n/k<=n:=Nat.div_le_self _ _;generalize n/k=d at*;exact aT6 (by omega) (by omega)
def Ch(k c:Nat):Prop:=c=2*k+1\/c=2*k+2
def HpX(f lo hi r:Nat)(w:List Int):Prop:=∀k c,lo<=k->Ch k c->c<hi->k≠r->ga w (f+c)<=ga w (f+k)
def Hp(f lo hi:Nat)(w:List Int):Prop:=∀k c,lo<=k->Ch k c->c<hi->ga w (f+c)<=ga w (f+k)
theorem aTy(f lo hi:Nat):∀(m r:Nat) (w:List Int),hi<=r+m->lo<=r->r<=1000000->w.length<=1000000->f+hi<=w.length->HpX f lo hi r w->
 (∀k c,lo<=k->Ch k r->Ch r c->c<hi->ga w (f+c)<=ga w (f+k))->
 ∃w' o,S1 (hi:Int) (f:Int) (r:Int) w=some o/\(o=.inl w'\/o=.inr w')/\Pm (f+lo) (f+hi) w w'/\Hp f lo hi w':=by
 intro m
 induction m with
 |zero=>
  intro r w hm hr hr1 hl hf hH hG
  refine⟨w,_,?_,.inl rfl,Pm.refl _ _ _,fun k c h1 h2 h3=>hH k c h1 h2 h3 (by unfold Ch at h2;omega)⟩
  rw[QW]
  unfold Ec KK
  simp (disch:=omega) only[M9,Gj,leT,AB,D6,CK,Ad]
 |succ m ih=>
  intro r w hm hr hr1 hl hf hH hG
  rw[QW]
  by_cases h0:hi<=2*r+1
  refine⟨w,_,?_,.inl rfl,Pm.refl _ _ _,fun k c h1 h2 h3=>hH k c h1 h2 h3 (by unfold Ch at h2;omega)⟩
  unfold Ec KK
  simp (disch:=omega) only[M9,Gj,leT,AB,D6,CK,Ad]
  have key:∃c2,Ch r c2/\c2<hi/\(∀c,Ch r c->c<hi->ga w (f+c)<=ga w (f+c2))/\
   Ec (hi:Int) (f:Int) (r:Int) w=(if ga w (f+r)<ga w (f+c2)then some (.inl ((c2:Int),swp w (f+r) (f+c2)))else some (.inr (.inr w))):=by
   by_cases h1:2*r+2<hi
   by_cases h2:ga w (f+(2*r+1))<ga w (f+(2*r+2))
   refine⟨2*r+2,.inr rfl,h1,fun c hc hch=>by rcases hc with rfl|rfl<;>omega,?_⟩
   unfold Ec KK LI
   have h2':ga w (f+(2*r+1))<ga w (f+(2*r+1)+1):=h2
   by_cases h3:ga w (f+r)<ga w (f+(2*r+2))
   have h3':ga w (f+r)<ga w (f+(2*r+1+1)):=h3
   rw[if_pos h3]
   simp (disch:=omega) only[M9,Gj,RN,leF,ltT,FR,Ey,Bz,AB,h2',h3',decide_true,Bool.not_true,AI,AJ,List.length_set,Int.toNat_natCast,CK]
   rfl
   have h3':¬ga w (f+r)<ga w (f+(2*r+1+1)):=h3
   rw[if_neg h3]
   simp (disch:=omega) only[M9,Gj,RN,leF,ltT,FR,Ey,Bz,AB,h2',h3',decide_true,decide_false,Bool.not_false,AI,AJ,List.length_set,Int.toNat_natCast,CK,D6]
   refine⟨2*r+1,.inl rfl,by omega,fun c hc hch=>by rcases hc with rfl|rfl<;>omega,?_⟩
   unfold Ec KK LI
   have h2':¬ga w (f+(2*r+1))<ga w (f+(2*r+1)+1):=h2
   by_cases h3:ga w (f+r)<ga w (f+(2*r+1))
   rw[if_pos h3]
   simp (disch:=omega) only[M9,Gj,RN,leF,ltT,FR,Ey,Bz,AB,h2',h3,decide_true,decide_false,Bool.not_true,AI,AJ,List.length_set,Int.toNat_natCast,CK]
   rfl
   rw[if_neg h3]
   simp (disch:=omega) only[M9,Gj,RN,leF,ltT,FR,Ey,Bz,AB,h2',h3,decide_true,decide_false,Bool.not_false,AI,AJ,List.length_set,Int.toNat_natCast,CK,D6]
   refine⟨2*r+1,.inl rfl,by omega,fun c hc hch=>by rcases hc with rfl|rfl<;>omega,?_⟩
   unfold Ec KK LI
   by_cases h3:ga w (f+r)<ga w (f+(2*r+1))
   rw[if_pos h3]
   simp (disch:=omega) only[M9,Gj,RN,leF,ltF,FR,Ey,Bz,AB,h3,decide_true,decide_false,Bool.not_true,AI,AJ,List.length_set,Int.toNat_natCast,CK]
   rfl
   rw[if_neg h3]
   simp (disch:=omega) only[M9,Gj,RN,leF,ltF,FR,Ey,Bz,AB,h3,decide_true,decide_false,Bool.not_false,AI,AJ,List.length_set,Int.toNat_natCast,CK,D6]
  obtain⟨c2,hc2,hc2h,hmax,hstep⟩:=key
  rw[hstep]
  have hrc:r<c2:=by unfold Ch at hc2;omega
  by_cases h3:ga w (f+r)<ga w (f+c2)
  rw[if_pos h3,BC]
  have hg:=Ew (w:=w) (i:=f+r) (j:=f+c2) (by omega) (by omega)
  have er:ga (swp w (f+r) (f+c2)) (f+r)=ga w (f+c2):=by rw[hg,if_neg (by omega),if_pos rfl]
  have ec:ga (swp w (f+r) (f+c2)) (f+c2)=ga w (f+r):=by rw[hg,if_pos rfl]
  have en:∀x,x≠r->x≠c2->ga (swp w (f+r) (f+c2)) (f+x)=ga w (f+x):=fun x h1 h2=>by rw[hg,if_neg (by omega),if_neg (by omega)]
  obtain⟨w',o,e1,e2,e3,e4⟩:=ih c2 (swp w (f+r) (f+c2)) (by omega) (by omega) (by omega) (by rw[B2];exact hl) (by rw[B2];exact hf)
   (fun k c h1 h2 h4 h5=>by by_cases k1:k=r;subst k1;by_cases k2:c=c2;subst k2;rw[ec,er];omega;rw[er,en c (by unfold Ch at h2;omega) k2];exact hmax c h2 h4;rw[en k k1 h5];by_cases k2:c=r;subst k2;rw[er];exact hG k c2 h1 h2 hc2 hc2h;by_cases k3:c=c2;exfalso;unfold Ch at h2 hc2;omega;rw[en c k2 k3];exact hH k c h1 h2 h4 k1)
   (fun k c h1 h2 h4 h5=>by
    have:k=r:=by unfold Ch at h2 hc2;omega
    subst this;rw[er,en c (by unfold Ch at h4;omega) (by unfold Ch at h4;omega)];exact hH c2 c (by omega) h4 h5 (by omega))
  exact⟨w',o,e1,e2,(Pm.swp ⟨by omega,by omega⟩ ⟨by omega,by omega⟩ hf).trans e3,e4⟩
  rw[if_neg h3,Ad]
  refine⟨w,_,rfl,.inr rfl,Pm.refl _ _ _,fun k c h1 h2 h4=>?_⟩
  by_cases k1:k=r
  subst k1;have:=hmax c h2 h4;omega
  exact hH k c h1 h2 h4 k1
theorem aEc{f lo hi:Nat}{w:List Int}(hl:w.length<=1000000)(hf:f+hi<=w.length)(hr:lo<=1000000)(hH:HpX f lo hi lo w):
 ∃w',Xy (lo:Int) (hi:Int) (f:Int) w=some w'/\Pm (f+lo) (f+hi) w w'/\Hp f lo hi w':=by
 obtain⟨w',o,e1,e2,e3,e4⟩:=aTy f lo hi hi lo w (by omega) (Nat.le_refl _) hr hl hf hH (fun k c h1 h2 h3 h4=>by unfold Ch at h2;omega)
 refine⟨w',?_,e3,e4⟩
 unfold Xy
 rw[e1,AB]
 rcases e2 with rfl|rfl<;>rfl
theorem aTe(f hi:Nat):∀(m:Nat) (w:List Int),w.length<=1000000->f+hi<=w.length->m<=1000000->Hp f m hi w->
 ∃w',TB (f:Int) 0 (hi:Int) ((m:Int)-1) w=some w'/\Pm f (f+hi) w w'/\Hp f 0 hi w':=by
 intro m
 induction m with
 |zero=>
  intro w hl hf hm hH
  refine⟨w,?_,Pm.refl _ _ _,hH⟩
  rw[RE]
  unfold HD
  rw[decide_eq_false (by omega),AJ,Ad]
 |succ m ih=>
  intro w hl hf hm hH
  obtain⟨w1,e1,e2,e3⟩:=aEc (f:=f) (lo:=m) (hi:=hi) hl hf (by omega) (fun k c h1 h2 h3 h4=>hH k c (by omega) h2 h3)
  obtain⟨w2,f1,f2,f3⟩:=ih w1 (by rw[e2.len];exact hl) (by rw[e2.len];exact hf) (by omega) e3
  refine⟨w2,?_,(e2.mono (by omega) (by omega)).trans f2,f3⟩
  rw[RE]
  unfold HD
  rw[show(((m+1:Nat):Int)-1)=(m:Int) by omega,decide_eq_true (by omega),AI,e1,AB,aEj (by omega) (by omega),BC]
  exact f1
theorem aN6{f hi:Nat}{w:List Int}(h:Hp f 0 hi w):∀k,k<hi->ga w (f+k)<=ga w f:=by
 intro k;induction k using Nat.strongRecOn with
 |ind k ih=>
  intro hk
  by_cases h0:k=0
  subst h0;exact Int.le_refl _
  have h1:=h ((k-1)/2) k (by omega) (by unfold Ch;omega) hk
  have h2:=ih ((k-1)/2) (by omega) (by omega)
  omega
theorem aTf(f hi:Nat):∀(m:Nat) (w:List Int),w.length<=1000000->f+hi<=w.length->m<=hi->Hp f 0 m w->(∀p q,p<q->q<hi->m<=q->ga w (f+p)<=ga w (f+q))->
 ∃w',TC (f:Int) 0 ((m:Int)-1) w=some w'/\Pm f (f+hi) w w'/\∀p q,p<q->q<hi->ga w' (f+p)<=ga w' (f+q):=by
 intro m
 induction m with
 |zero=>
  intro w hl hf hm hH hs
  refine⟨w,?_,Pm.refl _ _ _,fun p q h1 h2=>hs p q h1 h2 (by omega)⟩
  rw[RF]
  unfold HE
  rw[decide_eq_false (by omega),AJ,Ad]
 |succ m ih=>
  intro w hl hf hm hH hs
  have hg:=Ew (w:=w) (i:=f) (j:=f+m) (by omega) (by omega)
  have hmx:=aN6 hH
  obtain⟨w1,e1,e2,e3⟩:=aEc (f:=f) (lo:=0) (hi:=m) (w:=swp w f (f+m)) (by rw[B2];exact hl) (by rw[B2];omega) (by omega) (fun k c h1 h2 h3 h4=>by
   have:0<c:=by unfold Ch at h2;omega
   have:=hH k c h1 h2 (by omega);by_cases km:k=m;unfold Ch at h2;omega;rw[hg,hg,if_neg (by omega),if_neg (by omega),if_neg (by omega),if_neg (by omega)];exact this)
  rw[Nat.add_zero]at e2
  have hsw:Pm f (f+(m+1)) w (swp w f (f+m)):=Pm.swp ⟨by omega,by omega⟩ ⟨by omega,by omega⟩ (by omega)
  have hpm:=hsw.trans (e2.mono (Nat.le_refl _) (by omega))
  obtain⟨w2,f1,f2,f3⟩:=ih w1 (by rw[hpm.len];exact hl) (by rw[hpm.len];exact hf) (by omega) e3 (fun p q h1 h2 h3=>by
   have hp':∀p,p<m+1->∃p',p'<m+1/\ga w1 (f+p)=ga w (f+p'):=fun p hp=>by obtain⟨i,i1,i2,i3⟩:=hpm.src (f+p) (by omega) (by omega);exact⟨i-f,by omega,by rw[i3];congr 1;omega⟩
   by_cases hq:q=m;subst hq;have eq1:ga w1 (f+q)=ga w f:=by rw[e2.out (f+q) (by omega),hg,if_pos rfl]
   obtain⟨p',p1,p2⟩:=hp' p (by omega);rw[eq1,p2];exact hmx p' p1;have eq1:ga w1 (f+q)=ga w (f+q):=hpm.out _ (by omega);rw[eq1];by_cases hpm1:p<m+1;obtain⟨p',p1,p2⟩:=hp' p hpm1;rw[p2];exact hs p' q (by omega) h2 (by omega);rw[hpm.out (f+p) (by omega)];exact hs p q h1 h2 (by omega))
  refine⟨w2,?_,(hpm.mono (by omega) (by omega)).trans f2,f3⟩
  rw[RF]
  unfold HE
  rw[show(((m+1:Nat):Int)-1)=(m:Int) by omega,decide_eq_true (by omega),AI]
  simp (disch:=omega) only[RN,FR,Ey,List.length_set,Int.toNat_natCast]
  have e1':Xy 0 (m:Int) (f:Int) ((w.set f (ga w (f+m))).set (f+m) (ga w f))=some w1:=e1
  rw[e1',AB,aEj (by omega) (by omega),BC]
  exact f1
theorem aTg(a b:Nat)(w:List Int)(hl:w.length<=1000000)(hb:b<=w.length)(hab:a<b):∃w',Y6 (a:Int) (b:Int) w=some w'/\Pm a b w w'/\So a b w':=by
 obtain⟨w1,e1,e2,e3⟩:=aTe a (b-a) ((b-a-1)/2+1) w hl (by omega) (by omega) (fun k c h1 h2 h3=>by unfold Ch at h2;omega);obtain⟨w2,f1,f2,f3⟩:=aTf a (b-a) (b-a) w1 (by rw[e2.len];exact hl) (by rw[e2.len];omega) (Nat.le_refl _) e3 (fun p q h1 h2 h3=>by omega);have hab':a+(b-a)=b:=by omega
 rw[hab']at e2 f2;refine⟨w2,?_,e2.trans f2,fun p q h1 h2 h3=>?_⟩;unfold Y6;rw[aEk (by omega),Dw (by omega)];have hq:AA .quo .i64 ((b-a-1:Nat):Int) 2=(((b-a-1)/2:Nat):Int):=aW4 (k:=2) (by omega);rw[hq];rw[show((((b-a-1)/2+1:Nat):Int)-1)=(((b-a-1)/2:Nat):Int) by omega]at e1;rw[show(((b-a:Nat):Int)-1)=((b-a-1:Nat):Int) by omega]at f1;rw[e1,AB,f1,AB];have:=f3 (p-a) (q-a) (by omega) (by omega);rw[show a+(p-a)=p by omega,show a+(q-a)=q by omega]at this;exact this
theorem aW5(a b:Nat):∀(m i j:Nat) (w:List Int),j<=i+m->a<=i->j<=b->w.length<=1000000->b<=w.length->i<=1000000->
 ∃w',TG (i:Int) ((j:Int)-1) w=some w'/\Pm a b w w':=by
 intro m
 induction m using Nat.strongRecOn with
 |ind m ih=>
  intro i j w hm ha hj hl hb hi
  rw[aMj]
  unfold I9
  by_cases h0:i+1<j
  have hs:Pm a b w (swp w i (j-1)):=Pm.swp ⟨by omega,by omega⟩ ⟨by omega,by omega⟩ hb
  obtain⟨w',e1,e2⟩:=ih (m-2) (by omega) (i+1) (j-1) (swp w i (j-1)) (by omega) (by omega) (by omega) (by rw[B2];exact hl) (by rw[B2];exact hb) (by omega)
  refine⟨w',?_,hs.trans e2⟩
  rw[show((j:Int)-1)=((j-1:Nat):Int) by omega]
  rw[show(((j-1:Nat):Int)-1)=((j-1-1:Nat):Int) by omega]at e1
  rw[<-e1]
  simp (disch:=omega) only[ltT,FR,Ey,Gj,Dw,List.length_set,Int.toNat_natCast,BC]
  rfl
  refine⟨w,?_,Pm.refl _ _ _⟩
  rw[decide_eq_false (by omega),AJ,Ad]
theorem aW6(a b:Nat)(w:List Int)(hl:w.length<=1000000)(hb:b<=w.length)(hab:a<=b):∃w',Yy (a:Int) (b:Int) w=some w'/\Pm a b w w':=by obtain⟨w',e1,e2⟩:=aW5 a b b a b w (by omega) (Nat.le_refl _) (Nat.le_refl _) hl hb (by omega);refine⟨w',?_,e2⟩;unfold Yy;rw[aEj (by omega) (by omega),e1,AB]
def l8:List UInt8:=[0,1,2,2,3,3,3,3,4,4,4,4,4,4,4,4,5,5,5,5,5,5,5,5,5,5,5,5,5,5,5,5,6,6,6,6,6,6,6,6,6,6,6,6,6,6,6,6,6,6,6,6,6,6,6,6,6,6,6,6,6,6,6,6]++List.replicate 64 7++List.replicate 128 8
theorem aWq:∀n,n<256->∃c:UInt8,l8[n]? =some c/\c.toNat<=8/\n<2^c.toNat/\(0<n->2^c.toNat<=2*n):=by
 have key:((List.range 256).all fun n=>match l8[n]? with
  |some c=>decide (c.toNat<=8)&&decide (n<2^c.toNat)&&(decide (n=0)||decide (2^c.toNat<=2*n))
  |none=>false)=true:=by kernel_rfl
 intro n hn;have h:=(List.all_eq_true.1 key) n (List.mem_range.2 hn);revert h;cases l8[n]? with
 |none=>intro h;cases h
 |some c=>
  intro h
  simp only[ba,Bool.or_eq_true,decide_eq_true_eq]at h
  exact⟨c,rfl,h.1.1,h.1.2,fun h0=>by rcases h.2 with h2|h2<;>omega⟩
theorem aTl(a0:Int):Z0 a0=(AG (aAk a0 0 (decide (4294967296<=a0))) fun o1=>AG (aAl o1.1 o1.2 (decide (65536<=o1.1))) fun o2=>AG (aAm o2.1 o2.2 (decide (256<=o2.1))) fun o3=>
 AT l8 ((u8w o3.1).toNat:Int) fun x4=>some (AA .add .i64 o3.2 (x4.toNat:Int))):=by kernel_rfl
theorem aPe{n:Nat}(hn:n<65536):∃k:Nat,Qc ((n:Nat):Int)=some (k:Int)/\k<=16/\n<2^k/\(0<n->2^k<=2*n):=by unfold Qc;rw[aTl];unfold aAk aAl aAm;rw[decide_eq_false (by omega),AJ,AB,decide_eq_false (by simp only;omega),AJ,AB];simp only;by_cases h:256<=n;obtain⟨c,e1,e2,e3,e4⟩:=aWq (n/256) (by omega);refine⟨8+c.toNat,?_,by omega,?_,fun _=>?_⟩;rw[decide_eq_true (by omega),AI,AB];simp only;have hs:AA .shr .u64 (n:Int) 8=((n/2^8:Nat):Int):=bDd (k:=8) (by decide);rw[hs,show(n/2^8)=n/256 from rfl,MD (by omega)];rw[AN (xs:=l8) e1,AB,LV (a:=0) (b:=8) (by omega) (by omega),LV (by omega) (by omega)];simp;rw[Nat.pow_add];omega;rw[Nat.pow_add];have:=e4 (by omega);omega;obtain⟨c,e1,e2,e3,e4⟩:=aWq n (by omega);refine⟨c.toNat,?_,by omega,e3,e4⟩;rw[decide_eq_false (by omega),AJ,AB];simp only;rw[MD (by omega)];rw[AN (xs:=l8) e1,AB,LV (by omega) (by omega)];simp
theorem aSq(x k:Nat)(hk:k<=62)(hx:x<18446744073709551616):AA .and .u64 (x:Int) (AA .sub .u64 ((2^k:Nat):Int) 1)=((x % 2^k:Nat):Int):=by
 have hp:2^k<=2^62:=Nat.pow_le_pow_right (by decide) hk;have hp0:0<2^k:=Nat.two_pow_pos k;have hs:AA .sub .u64 ((2^k:Nat):Int) 1=((2^k-1:Nat):Int):=by show IntKind.wrap .u64 (((2^k:Nat):Int)-1)=_;rw[show((2^k:Nat):Int)-1=((2^k-1:Nat):Int) by omega];exact At (by omega)
 rw[hs,bCb hx (by omega),Nat.and_two_pow_sub_one_eq_mod]
theorem To{n:Nat}(hn:n<65536):∃k:Nat,Qi (n:Int)=some ((2^k:Nat):Int)/\k<=16/\n<2^k/\(0<n->2^k<=2*n):=by obtain⟨k,e1,e2,e3,e4⟩:=aPe hn;refine⟨k,?_,e2,e3,e4⟩;unfold Qi;rw[At (by omega),e1,AB,Ai (by omega)];have hs:AA .shl .u64 1 (k:Int)=((1*2^k % 18446744073709551616:Nat):Int):=bDr (n:=1) (by omega);have hp:2^k<=2^62:=Nat.pow_le_pow_right (by decide) (by omega);rw[hs,Nat.one_mul,Nat.mod_eq_of_lt (by omega)]
theorem aT7{x:Nat}(hx:x<18446744073709551616):∃y:Nat,Qj (x:Int)=some ((y:Int),(y:Int))/\y<18446744073709551616:=by have h1:∀(a k:Nat),k<=64->∃b:Nat,AA .shl .u64 (a:Int) (k:Int)=(b:Int)/\b<18446744073709551616:=fun a k hk=>⟨_,bDr hk,Nat.mod_lt _ (by decide)⟩;have h2:∀(a k:Nat),k<=64->a<18446744073709551616->∃b:Nat,AA .shr .u64 (a:Int) (k:Int)=(b:Int)/\b<18446744073709551616:=fun a k hk ha=>⟨_,bDd hk,Nat.lt_of_le_of_lt (Nat.div_le_self _ _) ha⟩;have h3:∀(a b:Nat),a<18446744073709551616->b<18446744073709551616->∃c:Nat,AA .xor .u64 (a:Int) (b:Int)=(c:Int)/\c<18446744073709551616:=fun a b ha hb=>⟨_,bDx ha hb,Nat.xor_lt_two_pow (n:=64) ha hb⟩;obtain⟨a1,e1,f1⟩:=h1 x 13 (by decide);obtain⟨a2,e2,f2⟩:=h3 x a1 hx f1;obtain⟨a3,e3,f3⟩:=h2 a2 7 (by decide) f2;obtain⟨a4,e4,f4⟩:=h3 a2 a3 f2 f3;obtain⟨a5,e5,f5⟩:=h1 a4 17 (by decide);obtain⟨a6,e6,f6⟩:=h3 a4 a5 f4 f5;refine⟨a6,?_,f6⟩;have e1':AA .shl .u64 (x:Int) 13=(a1:Int):=e1;have e3':AA .shr .u64 (a2:Int) 7=(a3:Int):=e3;have e5':AA .shl .u64 (a4:Int) 17=(a5:Int):=e5;unfold Qj;rw[e1',e2,e3',e4,e5',e6]
theorem aV9(a n k q:Nat):∀(m i:Nat) (w:List Int) (x:Nat),q<=i+m->x<18446744073709551616->w.length<=60000->a+n<=w.length->a<=i->q<=a+n->0<n->n<2^k->2^k<=2*n->k<=16->q=a+n/4*2+2->
 ∃w',S8 (a:Int) (n:Int) ((2^k:Nat):Int) (i:Int) w (x:Int)=some w'/\Pm a (a+n) w w':=by
 intro m
 induction m with
 |zero=>
  intro i w x hm hx hl hb ha hq h0 hk1 hk2 hk3 hqe
  refine⟨w,?_,Pm.refl _ _ _⟩
  rw[Qy]
  unfold HB
  have hd:AA .quo .i64 (n:Int) 4=((n/4:Nat):Int):=aW4 (k:=4) (by omega)
  have hmu:AA .mul .i64 ((n/4:Nat):Int) 2=((n/4*2:Nat):Int):=by rw[aWu (by omega) (by omega)];omega
  rw[hd,hmu,RN (by omega),Gj (by omega),leF (by omega),Ad]
 |succ m ih=>
  intro i w x hm hx hl hb ha hq h0 hk1 hk2 hk3 hqe
  rw[Qy]
  unfold HB
  have hd:AA .quo .i64 (n:Int) 4=((n/4:Nat):Int):=aW4 (k:=4) (by omega)
  have hmu:AA .mul .i64 ((n/4:Nat):Int) 2=((n/4*2:Nat):Int):=by rw[aWu (by omega) (by omega)];omega
  rw[hd,hmu,RN (by omega),Gj (by omega)]
  by_cases h1:i<=a+n/4*2+1
  obtain⟨y,ey,fy⟩:=aT7 hx
  have hmod:y % 2^k<2^k:=Nat.mod_lt _ (Nat.two_pow_pos k)
  have hp:2^k<=2^16:=Nat.pow_le_pow_right (by decide) hk3
  obtain⟨o,ho,hon⟩:∃o:Nat,Om (a:Int) (n:Int) ((2^k:Nat):Int) (i:Int) (((y % 2^k:Nat)):Int) (decide ((n:Int)<=((y % 2^k:Nat):Int))) w (y:Int)=some (o:Int)/\o<n:=by unfold Om;by_cases h2:n<=y % 2^k;exact⟨y % 2^k-n,by rw[decide_eq_true (by omega),AI,aEk (by omega)],by omega⟩;exact⟨y % 2^k,by rw[decide_eq_false (by omega),AJ],by omega⟩
  have hs:Pm a (a+n) w (swp w i (a+o)):=Pm.swp ⟨ha,by omega⟩ ⟨by omega,by omega⟩ hb
  obtain⟨w',e1,e2⟩:=ih (i+1) (swp w i (a+o)) y (by omega) fy (by rw[B2];exact hl) (by rw[B2];exact hb) (by omega) hq h0 hk1 hk2 hk3 hqe
  refine⟨w',?_,hs.trans e2⟩
  rw[<-e1,leT h1]
  unfold S7
  rw[ey,AB]
  simp only
  have hw:IntKind.wrap .i64 ((y % 2^k:Nat):Int)=((y % 2^k:Nat):Int):=aT6 (by omega) (by omega)
  rw[aSq y k (by omega) fy,hw,ho,AB]
  simp (disch:=omega) only[RN,FR,Ey,List.length_set,Int.toNat_natCast,AB,Gj,BC]
  rfl
  refine⟨w,by rw[leF h1,Ad],Pm.refl _ _ _⟩
theorem aWa(a b:Nat)(w:List Int)(hl:w.length<=60000)(hb:b<=w.length)(hab:a+8<=b):∃w',Y2 (a:Int) (b:Int) w=some w'/\Pm a b w w':=by
 obtain⟨k,e1,e2,e3,e4⟩:=To (n:=b-a) (by omega);have hd:AA .quo .i64 ((b-a:Nat):Int) 4=(((b-a)/4:Nat):Int):=aW4 (k:=4) (by omega);have hmu:AA .mul .i64 (((b-a)/4:Nat):Int) 2=(((b-a)/4*2:Nat):Int):=by rw[aWu (by omega) (by omega)];omega
 obtain⟨w',f1,f2⟩:=aV9 a (b-a) k (a+(b-a)/4*2+2) 3 (a+(b-a)/4*2-1) w (b-a) (by omega) (by omega) hl (by omega) (by omega) (by omega) (by omega) e3 (e4 (by omega)) e2 rfl;rw[show a+(b-a)=b by omega]at f2;refine⟨w',?_,f2⟩;unfold Y2 S6;rw[aEk (by omega),decide_eq_true (by omega),AI,e1,AB,hd,hmu,RN (by omega),Dw (by omega),At (by omega),f1,AB,AB]
def Vx(lo hi:Nat)(x:Int):Prop:=∃n:Nat,x=(n:Int)/\lo<=n/\n<hi
theorem Po{lo hi:Nat}{w:List Int}(hh:hi<=w.length){x y:Int}(s:Int)(hx:Vx lo hi x)(hy:Vx lo hi y):∃u v s',Zz w x y s=some (u,v,s')/\Vx lo hi u/\Vx lo hi v:=by obtain⟨i,rfl,i1,i2⟩:=hx;obtain⟨j,rfl,j1,j2⟩:=hy;unfold Zz;simp (disch:=omega) only[Ey,Bz,AB];by_cases h:ga w j<ga w i;exact⟨_,_,_,by rw[decide_eq_true h];rfl,⟨j,rfl,j1,j2⟩,⟨i,rfl,i1,i2⟩⟩;exact⟨_,_,_,by rw[decide_eq_false h];rfl,⟨i,rfl,i1,i2⟩,⟨j,rfl,j1,j2⟩⟩
theorem aP3{lo hi:Nat}{w:List Int}(hh:hi<=w.length){x y z:Int}(s:Int)(hx:Vx lo hi x)(hy:Vx lo hi y)(hz:Vx lo hi z):∃u s',Q9 w x y z s=some (u,s')/\Vx lo hi u:=by obtain⟨a1,b1,s1,e1,f1,g1⟩:=Po hh s hx hy;obtain⟨b2,c2,s2,e2,f2,g2⟩:=Po hh s1 g1 hz;obtain⟨a3,b3,s3,e3,f3,g3⟩:=Po hh s2 f1 f2;refine⟨b3,s3,?_,g3⟩;unfold Q9;simp only[e1,AB,e2,e3]
theorem aB5{lo hi n:Nat}{w:List Int}(hh:hi<=w.length)(hl:w.length<=1000000)(s:Int)(h1:lo+1<=n)(h2:n+1<hi):∃u s',Q0 w (n:Int) s=some (u,s')/\Vx lo hi u:=by obtain⟨u,s',e,h⟩:=aP3 (lo:=lo) (hi:=hi) hh (x:=((n-1:Nat):Int)) (y:=(n:Int)) (z:=((n+1:Nat):Int)) s ⟨n-1,rfl,by omega,by omega⟩ ⟨n,rfl,by omega,by omega⟩ ⟨n+1,rfl,by omega,by omega⟩;refine⟨u,s',?_,h⟩;unfold Q0;rw[Dw (by omega),Gj (by omega),e,AB]
theorem bCw{n k:Nat}(h:n*k<=4611686018427387904):AA .mul .i64 (n:Int) (k:Int)=((n*k:Nat):Int):=by
 have e:(n:Int)*(k:Int)=((n*k:Nat):Int):=by simp
 generalize n*k=d at*;rw[aWu (by omega) (by omega)];exact e
theorem aW0(a b:Nat)(w:List Int)(hl:w.length<=1000000)(hb:b<=w.length)(hab:a+12<b):∃p h,Z3 w (a:Int) (b:Int)=some (p,h)/\Vx a b p:=by
 have hd:AA .quo .i64 ((b-a:Nat):Int) 4=(((b-a)/4:Nat):Int):=aW4 (k:=4) (by omega);have m1:AA .mul .i64 (((b-a)/4:Nat):Int) 1=(((b-a)/4*1:Nat):Int):=bCw (k:=1) (by omega);have m2:AA .mul .i64 (((b-a)/4:Nat):Int) 2=(((b-a)/4*2:Nat):Int):=bCw (k:=2) (by omega);have m3:AA .mul .i64 (((b-a)/4:Nat):Int) 3=(((b-a)/4*3:Nat):Int):=bCw (k:=3) (by omega);have fin:∀(x s:Int),Vx a b x->∃p h,(AE (decide (s=0)) (some (x,(1:Int))) (AE (decide (s=12)) (some (x,2)) (some (x,0))))=some (p,h)/\Vx a b p:=fun x s hx=>by by_cases h1:s=0;exact⟨x,1,by rw[decide_eq_true h1];rfl,hx⟩;by_cases h2:s=12;exact⟨x,2,by rw[decide_eq_false h1,decide_eq_true h2];rfl,hx⟩;exact⟨x,0,by rw[decide_eq_false h1,decide_eq_false h2];rfl,hx⟩
 unfold Z3 TH;rw[aEk (by omega),hd,m1,m2,m3,RN (by omega),RN (by omega),RN (by omega),decide_eq_true (by omega),AI];have hb2:∃x y z s,O1 w ((a+(b-a)/4*1:Nat):Int) ((a+(b-a)/4*2:Nat):Int) ((a+(b-a)/4*3:Nat):Int) (decide (50<=((b-a:Nat):Int))) 0=some (x,y,z,s)/\Vx a b x/\Vx a b y/\Vx a b z:=by unfold O1;by_cases h:50<=b-a;obtain⟨x,s1,e1,h1⟩:=aB5 (lo:=a) (hi:=b) (n:=a+(b-a)/4*1) hb hl 0 (by omega) (by omega);obtain⟨y,s2,e2,h2⟩:=aB5 (lo:=a) (hi:=b) (n:=a+(b-a)/4*2) hb hl s1 (by omega) (by omega);obtain⟨z,s3,e3,h3⟩:=aB5 (lo:=a) (hi:=b) (n:=a+(b-a)/4*3) hb hl s2 (by omega) (by omega);refine⟨x,y,z,s3,?_,h1,h2,h3⟩;rw[decide_eq_true (by omega),AI,e1,AB,e2,AB,e3,AB];refine⟨_,_,_,_,by rw[decide_eq_false (by omega),AJ],⟨_,rfl,by omega,by omega⟩,⟨_,rfl,by omega,by omega⟩,⟨_,rfl,by omega,by omega⟩⟩
 obtain⟨x,y,z,s,e,hx,hy,hz⟩:=hb2;obtain⟨u,s',e',hu⟩:=aP3 hb s hx hy hz;rw[e,AB];simp only;rw[e',AB,AB];exact fin u s' hu
theorem aW1(a j:Nat)(w:List Int)(hl:w.length<=1000000)(hj:j<w.length)(ha:a<w.length):∀(m i:Nat),j+1<=i+m->i<=j+1->
 ∃o:Nat,OG (a:Int) (j:Int) w (i:Int)=some (o:Int)/\i<=o/\o<=j+1/\(∀k,i<=k->k<o->ga w k<ga w a)/\(o<=j->¬ga w o<ga w a):=by
 intro m
 induction m with
 |zero=>
  intro i hm hi
  refine⟨i,?_,Nat.le_refl _,hi,fun k h1 h2=>by omega,fun h=>by omega⟩
  rw[QG]
  unfold G1
  rw[leF (by omega),Ad]
 |succ m ih=>
  intro i hm hi
  rw[QG]
  unfold G1
  by_cases h0:i<=j
  by_cases h1:ga w i<ga w a
  obtain⟨o,e1,e2,e3,e4,e5⟩:=ih (i+1) (by omega) (by omega)
  refine⟨o,?_,by omega,e3,fun k k1 k2=>?_,e5⟩
  simp (disch:=omega) only[leT,FR,Ey,Bz,AB,h1,decide_true,AI,Gj,BC]
  exact e1
  by_cases hk:k=i
  subst hk;exact h1
  exact e4 k (by omega) k2
  refine⟨i,?_,Nat.le_refl _,hi,fun k k1 k2=>by omega,fun _=>h1⟩
  simp (disch:=omega) only[leT,FR,Ey,Bz,AB,h1,decide_false,AJ,Ad]
  refine⟨i,by rw[leF h0,Ad],Nat.le_refl _,hi,fun k k1 k2=>by omega,fun h=>absurd h h0⟩
theorem aW2(a i:Nat)(w:List Int)(hl:w.length<=1000000)(ha:a<w.length)(hi:1<=i):∀(j:Nat),j<w.length->i<=j+1->
 ∃o:Nat,OH (a:Int) (i:Int) w (j:Int)=some (o:Int)/\i<=o+1/\o<=j/\(∀k,o<k->k<=j->¬ga w k<ga w a)/\(i<=o->ga w o<ga w a):=by
 intro j
 induction j with
 |zero=>
  intro hj hij
  refine⟨0,?_,hij,Nat.le_refl _,fun k h1 h2=>by omega,fun h=>by omega⟩
  rw[QH]
  unfold G2
  rw[leF (by omega),Ad]
 |succ j ih=>
  intro hj hij
  rw[QH]
  unfold G2
  by_cases h0:i<=j+1
  by_cases h1:ga w (j+1)<ga w a
  refine⟨j+1,?_,by omega,Nat.le_refl _,fun k k1 k2=>by omega,fun _=>h1⟩
  simp (disch:=omega) only[leT,FR,Ey,Bz,AB,h1,decide_true,Bool.not_true,AJ,Ad]
  obtain⟨o,e1,e2,e3,e4,e5⟩:=ih (by omega) (by omega)
  refine⟨o,?_,e2,by omega,fun k k1 k2=>?_,e5⟩
  simp (disch:=omega) only[leT,FR,Ey,Bz,AB,h1,decide_false,Bool.not_false,AI,Dw,BC,Nat.add_sub_cancel]
  exact e1
  by_cases hk:k=j+1
  subst hk;exact h1
  exact e4 k k1 (by omega)
  refine⟨j+1,by rw[leF h0,Ad],by omega,Nat.le_refl _,fun k k1 k2=>by omega,fun h=>absurd h h0⟩
theorem bC8:aGx=OG:=rfl
theorem bC9:aGz=OH:=rfl
theorem bC7(a b:Nat):∀(m i j:Nat) (w:List Int),j+1<=i+m->w.length<=1000000->b<=w.length->a+1<=i->i<=j+1->j<b->(∀k,a<k->k<i->ga w k<ga w a)->(∀k,j<k->k<b->¬ga w k<ga w a)->
 ∃(o:Nat) (w':List Int),Sb (a:Int) (i:Int) (j:Int) w=some ((o:Int),w')/\a<=o/\o<b/\Pm (a+1) b w w'/\(∀k,a<k->k<=o->ga w' k<ga w a)/\(∀k,o<k->k<b->¬ga w' k<ga w a):=by
 intro m
 induction m using Nat.strongRecOn with
 |ind m ih=>
  intro i j w hm hl hb hi hij hj hA hB
  obtain⟨x,e1,e2,e3,e4,e5⟩:=aW1 a j w hl (by omega) (by omega) m i hm hij
  obtain⟨y,f1,f2,f3,f4,f5⟩:=aW2 a x w hl (by omega) (by omega) j (by omega) e3
  rw[aGv]
  unfold IL
  rw[bC8,bC9,e1,AB,f1,AB]
  have hA':∀k,a<k->k<x->ga w k<ga w a:=fun k k1 k2=>by by_cases h:k<i;exact hA k k1 h;exact e4 k (by omega) k2
  have hB':∀k,y<k->k<b->¬ga w k<ga w a:=fun k k1 k2=>by by_cases h:j<k;exact hB k h k2;exact f4 k k1 (by omega)
  by_cases h0:y<x
  refine⟨y,w,by rw[ltT h0,Ad],by omega,by omega,Pm.refl _ _ _,fun k k1 k2=>hA' k k1 (by omega),hB'⟩
  have hx:=e5 (by omega)
  have hy:=f5 (by omega)
  have hxy:x≠y:=fun h=>by subst h;exact hx hy
  have hg:=Ew (w:=w) (i:=x) (j:=y) (by omega) (by omega)
  have ha:ga (swp w x y) a=ga w a:=by rw[hg,if_neg (by omega),if_neg (by omega)]
  obtain⟨o,w',g1,g2,g3,g4,g5,g6⟩:=ih (m-2) (by omega) (x+1) (y-1) (swp w x y) (by omega) (by rw[B2];exact hl) (by rw[B2];exact hb) (by omega) (by omega) (by omega)
   (fun k k1 k2=>by rw[ha,hg];by_cases c1:k=x;rw[if_neg (by omega),if_pos c1];exact hy;rw[if_neg (by omega),if_neg c1];exact hA' k k1 (by omega))
   (fun k k1 k2=>by rw[ha,hg];by_cases c1:k=y;rw[if_pos c1];exact hx;rw[if_neg c1,if_neg (by omega)];exact hB' k (by omega) k2)
  rw[ha]at g5 g6
  refine⟨o,w',?_,g2,g3,(Pm.swp ⟨by omega,by omega⟩ ⟨by omega,by omega⟩ hb).trans g4,g5,g6⟩
  rw[<-g1]
  simp (disch:=omega) only[ltF,FR,Ey,List.length_set,Int.toNat_natCast,Gj,Dw,BC]
  rfl
theorem bDa(a b p:Nat)(w:List Int)(hl:w.length<=1000000)(hb:b<=w.length)(hp:a<=p/\p<b)(hab:a+2<=b):
 ∃(o:Nat) (f:Bool) (w':List Int),Xa (a:Int) (b:Int) (p:Int) w=some ((o:Int),f,w')/\a<=o/\o<b/\Pm a b w w'/\(∀k,a<=k->k<o->ga w' k<=ga w' o)/\(∀k,o<k->k<b->ga w' o<=ga w' k):=by
 have hs:Pm a b w (swp w a p):=Pm.swp ⟨by omega,by omega⟩ hp hb
 have hl1:(swp w a p).length=w.length:=B2 w a p
 --the end,from a row that is parted behind its first one
 have fin:∀(o:Nat) (w2:List Int),a<=o->o<b->Pm a b w w2->(∀k,a<k->k<=o->ga w2 k<ga w2 a)->(∀k,o<k->k<b->¬ga w2 k<ga w2 a)->
  Pm a b w (swp w2 o a)/\(∀k,a<=k->k<o->ga (swp w2 o a) k<=ga (swp w2 o a) o)/\(∀k,o<k->k<b->ga (swp w2 o a) o<=ga (swp w2 o a) k):=fun o w2 h1 h2 h3 h4 h5=>by
  have hl2:=h3.len
  have hg:=Ew (w:=w2) (i:=o) (j:=a) (by omega) (by omega)
  have ho:ga (swp w2 o a) o=ga w2 a:=by rw[hg];by_cases c:o=a;rw[if_pos c,c];rw[if_neg c,if_pos rfl]
  refine⟨h3.trans (Pm.swp ⟨h1,h2⟩ ⟨by omega,by omega⟩ (by omega)),fun k k1 k2=>?_,fun k k1 k2=>?_⟩
  rw[ho,hg]
  by_cases c:k=a
  rw[if_pos c];have:=h4 o (by omega) (Nat.le_refl _);omega
  rw[if_neg c,if_neg (by omega)];have:=h4 k (by omega) (by omega);omega
  rw[ho,hg,if_neg (by omega),if_neg (by omega)]
  have:=h5 k k1 k2;omega
 obtain⟨x,e1,e2,e3,e4,e5⟩:=aW1 a (b-1) (swp w a p) (by omega) (by omega) (by omega) b (a+1) (by omega) (by omega)
 obtain⟨y,f1,f2,f3,f4,f5⟩:=aW2 a x (swp w a p) (by omega) (by omega) (by omega) (b-1) (by omega) e3
 have hA:∀k,a<k->k<x->ga (swp w a p) k<ga (swp w a p) a:=fun k k1 k2=>e4 k (by omega) k2
 have hB:∀k,y<k->k<b->¬ga (swp w a p) k<ga (swp w a p) a:=fun k k1 k2=>f4 k k1 (by omega)
 have hdef:((w.set a (ga w p)).set p (ga w a))=swp w a p:=rfl
 unfold Xa
 simp (disch:=omega) only[FR,Ey,List.length_set,Int.toNat_natCast,Gj,Dw,hdef,e1,f1,AB]
 by_cases h0:y<x
 obtain⟨g1,g2,g3⟩:=fin y (swp w a p) (by omega) (by omega) hs (fun k k1 k2=>hA k k1 (by omega)) hB
 refine⟨y,true,swp (swp w a p) y a,?_,by omega,by omega,g1,g2,g3⟩
 simp (disch:=omega) only[ltT,FR,Ey,List.length_set,Int.toNat_natCast]
 rfl
 have hx:=e5 (by omega)
 have hy:=f5 (by omega)
 have hxy:x≠y:=fun h=>by subst h;exact hx hy
 have hg:=Ew (w:=swp w a p) (i:=x) (j:=y) (by omega) (by omega)
 have ha:ga (swp (swp w a p) x y) a=ga (swp w a p) a:=by rw[hg,if_neg (by omega),if_neg (by omega)]
 have hl2:(swp (swp w a p) x y).length=w.length:=by rw[B2,hl1]
 obtain⟨o,w',g1,g2,g3,g4,g5,g6⟩:=bC7 a b b (x+1) (y-1) (swp (swp w a p) x y) (by omega) (by omega) (by omega) (by omega) (by omega) (by omega)
  (fun k k1 k2=>by rw[ha,hg];by_cases c1:k=x;rw[if_neg (by omega),if_pos c1];exact hy;rw[if_neg (by omega),if_neg c1];exact hA k k1 (by omega))
  (fun k k1 k2=>by rw[ha,hg];by_cases c1:k=y;rw[if_pos c1];exact hx;rw[if_neg c1,if_neg (by omega)];exact hB k (by omega) k2)
 have hwa:ga w' a=ga (swp (swp w a p) x y) a:=g4.out a (by omega)
 rw[<-hwa]at g5 g6
 have hpm:=(hs.trans (Pm.swp (w:=swp w a p) (i:=x) (j:=y) ⟨by omega,by omega⟩ ⟨by omega,by omega⟩ (by omega))).trans (g4.mono (by omega) (Nat.le_refl _))
 have hl3:=hpm.len
 obtain⟨q1,q2,q3⟩:=fin o w' g2 g3 hpm g5 g6
 refine⟨o,false,swp w' o a,?_,g2,g3,q1,q2,q3⟩
 have hdef2:(((swp w a p).set x (ga (swp w a p) y)).set y (ga (swp w a p) x))=swp (swp w a p) x y:=rfl
 simp (disch:=omega) only[ltF,FR,Ey,List.length_set,Int.toNat_natCast,Gj,Dw,hdef2,g1,AB]
 rfl
theorem bCz(a j:Nat)(w:List Int)(hl:w.length<=1000000)(hj:j<w.length)(ha:a<w.length):∀(m i:Nat),j+1<=i+m->i<=j+1->
 ∃o:Nat,Sr (a:Int) (j:Int) w (i:Int)=some (o:Int)/\i<=o/\o<=j+1/\(∀k,i<=k->k<o->¬ga w a<ga w k)/\(o<=j->ga w a<ga w o):=by
 intro m
 induction m with
 |zero=>
  intro i hm hi
  refine⟨i,?_,Nat.le_refl _,hi,fun k h1 h2=>by omega,fun h=>by omega⟩
  rw[QM]
  unfold G5
  rw[leF (by omega),Ad]
 |succ m ih=>
  intro i hm hi
  rw[QM]
  unfold G5
  by_cases h0:i<=j
  by_cases h1:ga w a<ga w i
  refine⟨i,?_,Nat.le_refl _,hi,fun k k1 k2=>by omega,fun _=>h1⟩
  simp (disch:=omega) only[leT,FR,Ey,Bz,AB,h1,decide_true,Bool.not_true,AJ,Ad]
  obtain⟨o,e1,e2,e3,e4,e5⟩:=ih (i+1) (by omega) (by omega)
  refine⟨o,?_,by omega,e3,fun k k1 k2=>?_,e5⟩
  simp (disch:=omega) only[leT,FR,Ey,Bz,AB,h1,decide_false,Bool.not_false,AI,Gj,BC]
  exact e1
  by_cases hk:k=i
  subst hk;exact h1
  exact e4 k (by omega) k2
  refine⟨i,by rw[leF h0,Ad],Nat.le_refl _,hi,fun k k1 k2=>by omega,fun h=>absurd h h0⟩
theorem bC0(a i:Nat)(w:List Int)(hl:w.length<=1000000)(ha:a<w.length)(hi:1<=i):∀(j:Nat),j<w.length->i<=j+1->
 ∃o:Nat,Ss (a:Int) (i:Int) w (j:Int)=some (o:Int)/\i<=o+1/\o<=j/\(∀k,o<k->k<=j->ga w a<ga w k)/\(i<=o->¬ga w a<ga w o):=by
 intro j
 induction j with
 |zero=>
  intro hj hij
  refine⟨0,?_,hij,Nat.le_refl _,fun k h1 h2=>by omega,fun h=>by omega⟩
  rw[QN]
  unfold G6
  rw[leF (by omega),Ad]
 |succ j ih=>
  intro hj hij
  rw[QN]
  unfold G6
  by_cases h0:i<=j+1
  by_cases h1:ga w a<ga w (j+1)
  obtain⟨o,e1,e2,e3,e4,e5⟩:=ih (by omega) (by omega)
  refine⟨o,?_,e2,by omega,fun k k1 k2=>?_,e5⟩
  simp (disch:=omega) only[leT,FR,Ey,Bz,AB,h1,decide_true,AI,Dw,BC,Nat.add_sub_cancel]
  exact e1
  by_cases hk:k=j+1
  subst hk;exact h1
  exact e4 k k1 (by omega)
  refine⟨j+1,?_,by omega,Nat.le_refl _,fun k k1 k2=>by omega,fun _=>h1⟩
  simp (disch:=omega) only[leT,FR,Ey,Bz,AB,h1,decide_false,AJ,Ad]
  refine⟨j+1,by rw[leF h0,Ad],by omega,Nat.le_refl _,fun k k1 k2=>by omega,fun h=>absurd h h0⟩
theorem bCy(a b:Nat):∀(m i j:Nat) (w:List Int),j+1<=i+m->w.length<=1000000->b<=w.length->a+1<=i->i<=j+1->j<b->(∀k,a<k->k<i->¬ga w a<ga w k)->(∀k,j<k->k<b->ga w a<ga w k)->
 ∃(o:Nat) (w':List Int),Sq (a:Int) (i:Int) (j:Int) w=some ((o:Int),w')/\a<o/\o<=b/\Pm (a+1) b w w'/\(∀k,a<k->k<o->¬ga w a<ga w' k)/\(∀k,o<=k->k<b->ga w a<ga w' k):=by
 intro m
 induction m using Nat.strongRecOn with
 |ind m ih=>
  intro i j w hm hl hb hi hij hj hA hB
  obtain⟨x,e1,e2,e3,e4,e5⟩:=bCz a j w hl (by omega) (by omega) m i hm hij
  obtain⟨y,f1,f2,f3,f4,f5⟩:=bC0 a x w hl (by omega) (by omega) j (by omega) e3
  rw[aIj]
  unfold If
  rw[e1,AB,f1,AB]
  have hA':∀k,a<k->k<x->¬ga w a<ga w k:=fun k k1 k2=>by by_cases h:k<i;exact hA k k1 h;exact e4 k (by omega) k2
  have hB':∀k,y<k->k<b->ga w a<ga w k:=fun k k1 k2=>by by_cases h:j<k;exact hB k h k2;exact f4 k k1 (by omega)
  by_cases h0:y<x
  refine⟨x,w,by rw[ltT h0,Ad],by omega,by omega,Pm.refl _ _ _,hA',fun k k1 k2=>hB' k (by omega) k2⟩
  have hx:=e5 (by omega)
  have hy:=f5 (by omega)
  have hxy:x≠y:=fun h=>by subst h;exact hy hx
  have hg:=Ew (w:=w) (i:=x) (j:=y) (by omega) (by omega)
  have ha:ga (swp w x y) a=ga w a:=by rw[hg,if_neg (by omega),if_neg (by omega)]
  obtain⟨o,w',g1,g2,g3,g4,g5,g6⟩:=ih (m-2) (by omega) (x+1) (y-1) (swp w x y) (by omega) (by rw[B2];exact hl) (by rw[B2];exact hb) (by omega) (by omega) (by omega)
   (fun k k1 k2=>by rw[ha,hg];by_cases c1:k=x;rw[if_neg (by omega),if_pos c1];exact hy;rw[if_neg (by omega),if_neg c1];exact hA' k k1 (by omega))
   (fun k k1 k2=>by rw[ha,hg];by_cases c1:k=y;rw[if_pos c1];exact hx;rw[if_neg c1,if_neg (by omega)];exact hB' k (by omega) k2)
  rw[ha]at g5 g6
  refine⟨o,w',?_,g2,g3,(Pm.swp ⟨by omega,by omega⟩ ⟨by omega,by omega⟩ hb).trans g4,g5,g6⟩
  rw[<-g1]
  simp (disch:=omega) only[ltF,FR,Ey,List.length_set,Int.toNat_natCast,Gj,Dw,BC]
  rfl
theorem bC1(a b p:Nat)(w:List Int)(hl:w.length<=1000000)(hb:b<=w.length)(hp:a<=p/\p<b)(hab:a+2<=b):
 ∃(o:Nat) (w':List Int),Xo (a:Int) (b:Int) (p:Int) w=some ((o:Int),w')/\a<o/\o<=b/\Pm a b w w'/\(∀k,a<=k->k<o->ga w' k<=ga w p):=by
 have hs:Pm a b w (swp w a p):=Pm.swp ⟨by omega,by omega⟩ hp hb
 have hl1:(swp w a p).length=w.length:=B2 w a p
 obtain⟨o,w',e1,e2,e3,e4,e5,e6⟩:=bCy a b b (a+1) (b-1) (swp w a p) (by omega) (by omega) (by omega) (by omega) (by omega) (by omega) (fun k k1 k2=>by omega) (fun k k1 k2=>by omega)
 have ha:ga (swp w a p) a=ga w p:=by rw[Ew (by omega) (by omega)];by_cases c:a=p;rw[if_pos c,c];rw[if_neg c,if_pos rfl]
 rw[ha]at e5
 refine⟨o,w',?_,e2,e3,hs.trans (e4.mono (by omega) (Nat.le_refl _)),fun k k1 k2=>?_⟩
 have hdef:((w.set a (ga w p)).set p (ga w a))=swp w a p:=rfl
 unfold Xo
 simp (disch:=omega) only[FR,Ey,List.length_set,Int.toNat_natCast,Gj,Dw,hdef,e1,AB]
 by_cases c:k=a
 subst c;rw[e4.out k (by omega),ha];exact Int.le_refl _
 have:=e5 k (by omega) k2;omega
def Lo(a b:Nat)(w:List Int):Prop:=0<a->∀k,a<=k->k<b->ga w (a-1)<=ga w k
theorem Lo.pm{a b:Nat}{w w':List Int}(h:Lo a b w)(p:Pm a b w w'):Lo a b w':=fun h0 k k1 k2=>by obtain⟨i,i1,i2,i3⟩:=p.src k k1 k2;rw[i3,p.out (a-1) (by omega)];exact h h0 i i1 i2
theorem bC3(a b:Nat)(s8:Int)(w:List Int)(hl:w.length<=1000000)(hb:b<=w.length):∀(m i:Nat),b<=i+m->a<i->i<=b->So a i w->
 ∃o:Nat,SP (a:Int) (b:Int) s8 w (i:Int)=some (o:Int)/\i<=o/\o<=b/\So a o w:=by
 intro m
 induction m with
 |zero=>
  intro i hm ha hi hs
  refine⟨i,?_,Nat.le_refl _,hi,hs⟩
  rw[QA]
  unfold Gx
  rw[ltF (by omega),Ad]
 |succ m ih=>
  intro i hm ha hi hs
  rw[QA]
  unfold Gx
  by_cases h0:i<b
  by_cases h1:ga w i<ga w (i-1)
  refine⟨i,?_,Nat.le_refl _,hi,hs⟩
  simp (disch:=omega) only[ltT,FR,Ey,Dw,Bz,AB,h1,decide_true,Bool.not_true,AJ,Ad]
  obtain⟨o,e1,e2,e3,e4⟩:=ih (i+1) (by omega) (by omega) (by omega) (fun p q p1 p2 p3=>by by_cases hq:q=i;subst hq;by_cases hp:p=q-1;subst hp;omega;have:=hs p (q-1) p1 (by omega) (by omega);omega;exact hs p q p1 p2 (by omega))
  refine⟨o,?_,by omega,e3,e4⟩
  simp (disch:=omega) only[ltT,FR,Ey,Dw,Bz,AB,h1,decide_false,Bool.not_false,AI,Gj,BC]
  exact e1
  refine⟨i,by rw[ltF h0,Ad],Nat.le_refl _,hi,hs⟩
theorem bC4(a b i:Nat)(s2 s7 s8:Int)(hib:i<b):∀(j:Nat) (w:List Int),w.length<=1000000->b<=w.length->a<=j->j<=i->Lo a b w->(∀p q,a<=p->p<q->q<=i->q≠j->ga w p<=ga w q)->
 ∃w',SQ (a:Int) s2 s7 s8 (j:Int) w=some w'/\Pm a (i+1) w w'/\So a (i+1) w':=by
 intro j
 induction j with
 |zero=>
  intro w hl hb ha hj hL hs
  refine⟨w,?_,Pm.refl _ _ _,fun p q h1 h2 h3=>hs p q h1 h2 (by omega) (by omega)⟩
  rw[QB]
  unfold Gy
  rw[decide_eq_false (by omega),AJ,Ad]
 |succ j ih=>
  intro w hl hb ha hj hL hs
  rw[QB]
  unfold Gy
  rw[decide_eq_true (by omega),AI]
  by_cases h1:ga w (j+1)<ga w j
  by_cases h0:a<j+1
  have hp:=Pm.swp (a:=a) (b:=i+1) (w:=w) (i:=j+1) (j:=j) ⟨by omega,by omega⟩ ⟨by omega,by omega⟩ (by omega)
  have hg:=Ew (w:=w) (i:=j+1) (j:=j) (by omega) (by omega)
  obtain⟨w',e1,e2,e3⟩:=ih (swp w (j+1) j) (by rw[B2];omega) (by rw[B2];omega) (by omega) (by omega) (hL.pm (hp.mono (Nat.le_refl _) (by omega))) (fun p q p1 p2 p3 p4=>by have b1:=hs p q p1 p2 p3;have b2:=hs p (j+1) p1;have b3:=hs p j p1;have b4:=hs (j+1) q (by omega);have b5:=hs j q (by omega);rw[hg,hg];by_cases c1:p=j;rw[if_pos c1];by_cases c2:q=j+1;rw[if_neg (by omega),if_pos c2];omega;rw[if_neg (by omega),if_neg c2];exact b4 (by omega) p3 c2;rw[if_neg c1];by_cases c2:p=j+1;rw[if_pos c2,if_neg (by omega),if_neg (by omega)];exact b5 (by omega) p3 (by omega);rw[if_neg c2];by_cases c3:q=j+1;rw[if_neg (by omega),if_pos c3];exact b3 (by omega) (by omega) (by omega);rw[if_neg (by omega),if_neg c3];exact b1 c3)
  refine⟨w',?_,hp.trans e2,e3⟩
  rw[<-e1]
  simp (disch:=omega) only[Dw,Nat.add_sub_cancel,FR,Ey,Bz,AB,h1,decide_true,Bool.not_true,AJ,List.length_set,Int.toNat_natCast,BC]
  rfl
  exfalso
  have:=hL (by omega) (j+1) (by omega) (by omega)
  rw[show a-1=j by omega]at this
  omega
  refine⟨w,?_,Pm.refl _ _ _,fun p q p1 p2 p3=>?_⟩
  simp (disch:=omega) only[Dw,Nat.add_sub_cancel,FR,Ey,Bz,AB,h1,decide_false,Bool.not_false,AI,Ad]
  by_cases hq:q=j+1
  subst hq
  by_cases hpj:p=j
  subst hpj;omega
  have:=hs p j p1 (by omega) (by omega) (by omega)
  omega
  exact hs p q p1 p2 (by omega) hq
theorem bC5(o b:Nat)(s1 s7 s8:Int):∀(m j:Nat) (w:List Int),b<=j+m->w.length<=1000000->b<=w.length->o<j->
 ∃w',SR s1 (b:Int) s7 s8 (j:Int) w=some w'/\Pm o b w w':=by
 intro m
 induction m with
 |zero=>
  intro j w hm hl hb hj
  refine⟨w,?_,Pm.refl _ _ _⟩
  rw[QC]
  unfold Gz
  rw[ltF (by omega),Ad]
 |succ m ih=>
  intro j w hm hl hb hj
  rw[QC]
  unfold Gz
  by_cases h0:j<b
  by_cases h1:ga w j<ga w (j-1)
  have hp:=Pm.swp (a:=o) (b:=b) (w:=w) (i:=j) (j:=j-1) ⟨by omega,by omega⟩ ⟨by omega,by omega⟩ hb
  obtain⟨w',e1,e2⟩:=ih (j+1) (swp w j (j-1)) (by omega) (by rw[B2];exact hl) (by rw[B2];exact hb) (by omega)
  refine⟨w',?_,hp.trans e2⟩
  rw[<-e1]
  simp (disch:=omega) only[ltT,Dw,FR,Ey,Bz,AB,h1,decide_true,Bool.not_true,AJ,List.length_set,Int.toNat_natCast,Gj,BC]
  rfl
  refine⟨w,?_,Pm.refl _ _ _⟩
  simp (disch:=omega) only[ltT,Dw,FR,Ey,Bz,AB,h1,decide_false,Bool.not_false,AI,Ad]
  refine⟨w,by rw[ltF h0,Ad],Pm.refl _ _ _⟩
theorem bC2(a b:Nat):∀(m k i:Nat) (w:List Int),5<=k+m->k<=5->w.length<=1000000->b<=w.length->a<i->i<=b->Lo a b w->So a i w->
 ∃w' o,N6 (a:Int) (b:Int) (i:Int) (k:Int) w=some o/\Pm a b w w'/\(o=.inl w'\/∃f,o=.inr (f,w')/\(f=true->So a b w')):=by
 intro m
 induction m with
 |zero=>
  intro k i w hm hk hl hb ha hi hL hs
  refine⟨w,_,?_,Pm.refl _ _ _,.inl rfl⟩
  rw[P9]
  unfold Gw
  rw[decide_eq_false (by omega),AJ,Ad]
 |succ m ih=>
  intro k i w hm hk hl hb ha hi hL hs
  rw[P9]
  unfold Gw
  by_cases h5:k<5
  rw[decide_eq_true (by omega),AI]
  unfold SO
  obtain⟨o,e1,e2,e3,e4⟩:=bC3 a b (k:Int) w hl hb b i (by omega) ha hi hs
  rw[e1,AB]
  by_cases h0:o=b
  refine⟨w,_,by rw[decide_eq_true (by omega),AI,AB,D6,Ad],Pm.refl _ _ _,.inr ⟨true,rfl,fun _=>h0▸e4⟩⟩
  rw[decide_eq_false (by omega),AJ,aEk (by omega)]
  by_cases h50:b-a<50
  refine⟨w,_,by rw[decide_eq_true (by omega),AI,AB,D6,Ad],Pm.refl _ _ _,.inr ⟨false,rfl,fun h=>by cases h⟩⟩
  rw[decide_eq_false (by omega),AJ]
  have hsw:=Pm.swp (a:=a) (b:=b) (w:=w) (i:=o) (j:=o-1) ⟨by omega,by omega⟩ ⟨by omega,by omega⟩ hb
  have hg:=Ew (w:=w) (i:=o) (j:=o-1) (by omega) (by omega)
  have hdef:((w.set o (ga w (o-1))).set (o-1) (ga w o))=swp w o (o-1):=rfl
  obtain⟨w1,f1,f2,f3⟩:∃w1,N4 (a:Int) (b:Int) (o:Int) (k:Int) (decide (2<=((o-a:Nat):Int))) (swp w o (o-1))=some w1/\Pm a b (swp w o (o-1)) w1/\So a o w1:=by
   unfold N4;by_cases h2:2<=o-a;obtain⟨w1,g1,g2,g3⟩:=bC4 a b (o-1) (b:Int) (o:Int) (k:Int) (by omega) (o-1) (swp w o (o-1)) (by rw[B2];exact hl) (by rw[B2];exact hb) (by omega) (Nat.le_refl _) (hL.pm hsw) (fun p q p1 p2 p3 p4=>by rw[hg,hg,if_neg (by omega),if_neg (by omega),if_neg (by omega),if_neg (by omega)];exact e4 p q p1 p2 (by omega))
   rw[show o-1+1=o by omega]at g2 g3;refine⟨w1,?_,g2.mono (Nat.le_refl _) (by omega),g3⟩;rw[decide_eq_true (by omega),AI,Dw (by omega),g1,AB];exact⟨_,by rw[decide_eq_false (by omega),AJ],Pm.refl _ _ _,fun p q p1 p2 p3=>by omega⟩
  have hl1:w1.length=w.length:=by rw[f2.len,B2]
  obtain⟨w2,g1,g2⟩:∃w2,N5 (a:Int) (b:Int) (o:Int) (k:Int) (decide (2<=((b-o:Nat):Int))) w1=some w2/\Pm o b w1 w2:=by unfold N5;by_cases h2:2<=b-o;obtain⟨w2,g1,g2⟩:=bC5 o b (a:Int) (o:Int) (k:Int) b (o+1) w1 (by omega) (by omega) (by omega) (by omega);exact⟨w2,by rw[decide_eq_true (by omega),AI,Gj (by omega),g1,AB],g2⟩;exact⟨_,by rw[decide_eq_false (by omega),AJ],Pm.refl _ _ _⟩
  have hpm:=(hsw.trans f2).trans (g2.mono (by omega) (Nat.le_refl _))
  have hl2:=hpm.len
  obtain⟨w3,q,r1,r2,r3⟩:=ih (k+1) o w2 (by omega) (by omega) (by omega) (by omega) (by omega) (by omega) (hL.pm hpm) (fun p q p1 p2 p3=>by rw[g2.out p (by omega),g2.out q (by omega)];exact f3 p q p1 p2 p3)
  refine⟨w3,q,?_,hpm.trans r2,r3⟩
  rw[<-r1]
  simp (disch:=omega) only[FR,Ey,Dw,aEk,List.length_set,Int.toNat_natCast,hdef,f1,g1,AB,CK,Gj,BC]
  exact⟨w,_,by rw[decide_eq_false (by omega),AJ,Ad],Pm.refl _ _ _,.inl rfl⟩
theorem bC6(a b:Nat)(w:List Int)(hl:w.length<=1000000)(hb:b<=w.length)(hab:a<b)(hL:Lo a b w):
 ∃(f:Bool) (w':List Int),X7 (a:Int) (b:Int) w=some (f,w')/\Pm a b w w'/\(f=true->So a b w'):=by
 obtain⟨w',o,e1,e2,e3⟩:=bC2 a b 5 0 (a+1) w (by omega) (by omega) hl hb (by omega) (by omega) hL (fun p q p1 p2 p3=>by omega)
 unfold X7
 have e1':N6 (a:Int) (b:Int) ((a+1:Nat):Int) 0 w=some o:=e1
 rw[Gj (by omega),e1',AB]
 rcases e3 with rfl|⟨f,rfl,hf⟩
 exact⟨false,w',rfl,e2,fun h=>by cases h⟩
 exact⟨f,w',rfl,e2,hf⟩
abbrev aXy:=Int×Int×Int×Bool×Bool×List Int
def Rd(a b:Nat)(w:List Int)(x:aXy):Prop:=∃a' b':Nat,x.1=(a':Int)/\x.2.1=(b':Int)/\a<=a'/\a'<=b'/\b'<=b/\b'-a'<b-a/\Pm a b w x.2.2.2.2.2/\Lo a' b' x.2.2.2.2.2/\
 (∀p q,a<=p->p<a'->p<q->q<b->ga x.2.2.2.2.2 p<=ga x.2.2.2.2.2 q)/\∀p q,a<=p->p<q->b'<=q->q<b->ga x.2.2.2.2.2 p<=ga x.2.2.2.2.2 q
def Slf(self:Int->Int->Int->List Int->Option (List Int))(N:Nat):Prop:=∀(a b:Nat) (lim:Int) (w:List Int),b-a<N->a<=b->b<=w.length->w.length<=60000->Lo a b w->∃w',self (a:Int) (b:Int) lim w=some w'/\Pm a b w w'/\So a b w'
theorem Lo.sub{a b b':Nat}{w:List Int}(h:Lo a b w)(hb:b'<=b):Lo a b' w:=fun h0 k k1 k2=>h h0 k k1 (by omega)
theorem bCe{self:Int->Int->Int->List Int->Option (List Int)}{a b o:Nat}(lim:Int)(wp:Bool)(t:Int){w w1:List Int}(hS:Slf self (b-a))(hl:w.length<=60000)(hb:b<=w.length)(ho:a<=o)(hob:o<b)(hp:Pm a b w w1)(hL:Lo a b w1)
 (h1:∀k,a<=k->k<o->ga w1 k<=ga w1 o) (h2:∀k,o<k->k<b->ga w1 o<=ga w1 k) (hab:2<=b-a):
 ∃y:Int×Int×Bool×List Int,Fy self (a:Int) (b:Int) lim wp (o:Int) ((o-a:Nat):Int) ((b-o:Nat):Int) t (decide (((o-a:Nat):Int)<((b-o:Nat):Int))) w1=some y/\∀wb,Rd a b w (y.1,y.2.1,lim,wb,wp,y.2.2.2):=by
 have hl1:=hp.len
 unfold Fy
 by_cases h:o-a<b-o
 obtain⟨w2,e1,e2,e3⟩:=hS a o lim w1 (by omega) ho (by omega) (by omega) (hL.sub (by omega))
 refine⟨(AA .add .i64 (o:Int) 1,(b:Int),decide (t<=((o-a:Nat):Int)),w2),by rw[decide_eq_true (by omega),AI,e1,AB],fun wb=>⟨o+1,b,Gj (by omega),rfl,by omega,by omega,by omega,by omega,hp.trans (e2.mono (Nat.le_refl _) (by omega)),fun h0 k k1 k2=>?_,fun p q p1 p2 p3 p4=>?_,fun p q p1 p2 p3 p4=>by omega⟩⟩
 show ga w2 (o+1-1)<=ga w2 k
 rw[Nat.add_sub_cancel,e2.out o (by omega),e2.out k (by omega)]
 exact h2 k (by omega) k2
 show ga w2 p<=ga w2 q
 by_cases c1:q<o
 exact e3 p q p1 p3 c1
 rw[e2.out q (by omega)]
 have hpo:ga w2 p<=ga w1 o:=by by_cases c2:p=o;rw[c2,e2.out o (by omega)];exact Int.le_refl _;obtain⟨p',q1,q2,q3⟩:=e2.src p p1 (by omega);rw[q3];exact h1 p' q1 q2
 by_cases c3:q=o
 rw[c3];exact hpo
 have:=h2 q (by omega) p4;omega
 obtain⟨w2,e1,e2,e3⟩:=hS (o+1) b lim w1 (by omega) (by omega) (by omega) (by omega) (fun h0 k k1 k2=>by rw[Nat.add_sub_cancel];exact h2 k (by omega) k2)
 have hL2:Lo a b w2:=hL.pm (e2.mono (by omega) (Nat.le_refl _))
 refine⟨((a:Int),(o:Int),decide (t<=((b-o:Nat):Int)),w2),by rw[decide_eq_false (by omega),AJ,Gj (by omega),e1,AB],fun wb=>⟨a,o,rfl,rfl,Nat.le_refl _,ho,by omega,by omega,hp.trans (e2.mono (by omega) (Nat.le_refl _)),hL2.sub (by omega),fun p q p1 p2 p3 p4=>by omega,fun p q p1 p2 p3 p4=>?_⟩⟩
 show ga w2 p<=ga w2 q
 by_cases c1:o<p
 exact e3 p q c1 p2 p4
 rw[e2.out p (by omega)]
 have hpo:ga w1 p<=ga w1 o:=by by_cases c2:p=o;rw[c2];exact Int.le_refl _;exact h1 p p1 (by omega)
 by_cases c3:q=o
 rw[c3,e2.out o (by omega)];exact hpo
 obtain⟨q',q1,q2,q3⟩:=e2.src q (by omega) p4
 have:=h2 q' (by omega) q2
 omega
def aT1(self:Int->Int->Int->List Int->Option (List Int))(s1 s2 d lim:Int)(s8 s9:Bool)(pv:Int)(w:List Int):Option (aXy⊕List Int):=
 AE (decide (0<s1)) (
  AU (0<=(AA .sub .i64 s1 1)/\(AA .sub .i64 s1 1)+1<=(w.length:Int)) (
   AT w (AA .sub .i64 s1 1) fun x12=>
   AU (0<=pv/\pv+1<=(w.length:Int)) (
    AT w pv fun x13=>
    AG (Yk x12 x13) fun r14=>
    AE (!r14) (
     AG (Xo s1 s2 pv w) fun r15=>
     some (.inl (r15.1,s2,lim,s8,s9,r15.2))) (
     AG (Xa s1 s2 pv w) fun r16=>
     AG (Fy self s1 s2 lim r16.2.1 r16.1 (AA .sub .i64 r16.1 s1) (AA .sub .i64 s2 r16.1) (AA .quo .i64 d 8) (decide ((AA .sub .i64 r16.1 s1)<(AA .sub .i64 s2 r16.1))) r16.2.2) fun o19=>
     some (.inl (o19.1,o19.2.1,lim,o19.2.2.1,r16.2.1,o19.2.2.2)))))) (
  AG (Xa s1 s2 pv w) fun r20=>
  AG (Fy self s1 s2 lim r20.2.1 r20.1 (AA .sub .i64 r20.1 s1) (AA .sub .i64 s2 r20.1) (AA .quo .i64 d 8) (decide ((AA .sub .i64 r20.1 s1)<(AA .sub .i64 s2 r20.1))) r20.2.2) fun o21=>
  some (.inl (o21.1,o21.2.1,lim,o21.2.2.1,r20.2.1,o21.2.2.2)))
theorem aT2{self:Int->Int->Int->List Int->Option (List Int)}{a b p:Nat}(d lim:Int)(s8 s9:Bool){w w1:List Int}(hS:Slf self (b-a))(hl:w.length<=60000)(hb:b<=w.length)(hp:a<=p/\p<b)(hab:a+2<=b)(h1:Pm a b w w1)(hL:Lo a b w1):
 ∃x,aT1 self (a:Int) (b:Int) d lim s8 s9 (p:Int) w1=some (.inl x)/\Rd a b w x:=by
 have hl1:=h1.len
 have part:∃x,(AG (Xa (a:Int) (b:Int) (p:Int) w1) fun r20=>
  AG (Fy self (a:Int) (b:Int) lim r20.2.1 r20.1 (AA .sub .i64 r20.1 (a:Int)) (AA .sub .i64 (b:Int) r20.1) (AA .quo .i64 d 8) (decide ((AA .sub .i64 r20.1 (a:Int))<(AA .sub .i64 (b:Int) r20.1))) r20.2.2) fun o21=>
  some (.inl (o21.1,o21.2.1,lim,o21.2.2.1,r20.2.1,o21.2.2.2):aXy⊕List Int))=some (.inl x)/\Rd a b w x:=by
  obtain⟨o,f,w2,e1,e2,e3,e4,e5,e6⟩:=bDa a b p w1 (by omega) (by omega) hp hab
  obtain⟨y,f1,f2⟩:=bCe (o:=o) lim f (AA .quo .i64 d 8) hS hl hb e2 e3 (h1.trans e4) (hL.pm e4) e5 e6 (by omega)
  refine⟨_,?_,f2 y.2.2.1⟩
  rw[e1,AB]
  simp only
  rw[aEk (n:=o) (m:=a) (by omega),aEk (n:=b) (m:=o) (by omega),f1,AB]
 unfold aT1
 by_cases h0:0<a
 rw[decide_eq_true (by omega),AI]
 by_cases hc:ga w1 (a-1)<ga w1 p
 obtain⟨x,x1,x2⟩:=part
 refine⟨x,?_,x2⟩
 rw[<-x1]
 simp (disch:=omega) only[Dw,FR,Ey,Bz,AB,hc,decide_true,Bool.not_true,AJ]
 obtain⟨o,w2,e1,e2,e3,e4,e5⟩:=bC1 a b p w1 (by omega) (by omega) hp hab
 have hL2:=hL.pm e4
 have ha:ga w2 (a-1)=ga w1 (a-1):=e4.out _ (by omega)
 refine⟨((o:Int),(b:Int),lim,s8,s9,w2),?_,⟨o,b,rfl,rfl,by omega,e3,Nat.le_refl _,by omega,h1.trans e4,fun q0 k k1 k2=>?_,fun p' q p1 p2 p3 p4=>?_,fun p' q p1 p2 p3 p4=>by omega⟩⟩
 simp (disch:=omega) only[Dw,FR,Ey,Bz,AB,hc,decide_false,Bool.not_false,AI,e1]
 show ga w2 (o-1)<=ga w2 k
 have:=e5 (o-1) (by omega) (by omega)
 have:=hL2 h0 k (by omega) k2
 omega
 show ga w2 p'<=ga w2 q
 have:=e5 p' p1 p2
 have:=hL2 h0 q (by omega) p4
 omega
 rw[decide_eq_false (by omega),AJ];exact part
theorem bCd{self:Int->Int->Int->List Int->Option (List Int)}{a b:Nat}(lim:Int)(s8 s9 fl:Bool)(t pv:Int){w1:List Int}(hl:w1.length<=60000)(hb:b<=w1.length)(hab:a<b)(hL:Lo a b w1):
 ∃o w2,KJ self (a:Int) (b:Int) lim s8 s9 t pv fl w1=some o/\Pm a b w1 w2/\(o=.inl w2\/o=.inr w2/\So a b w2):=by
 unfold KJ
 cases fl with
 |false=>exact⟨_,w1,rfl,Pm.refl _ _ _,.inl rfl⟩
 |true=>
  obtain⟨f,w2,e1,e2,e3⟩:=bC6 a b w1 (by omega) hb hab hL
  rw[AI,e1,AB]
  cases f with
  |true=>exact⟨_,w2,rfl,e2,.inr ⟨rfl,e3 rfl⟩⟩
  |false=>exact⟨_,w2,rfl,e2,.inl rfl⟩
theorem bCc{self:Int->Int->Int->List Int->Option (List Int)}{a b:Nat}(lim:Int)(s8 s9:Bool){w:List Int}(hS:Slf self (b-a))(hl:w.length<=60000)(hb:b<=w.length)(hab:a<=b)(hL:Lo a b w):
 ∃o,OP self (a:Int) (b:Int) lim s8 s9 w=some o/\((∃w',o=.inr w'/\Pm a b w w'/\So a b w')\/∃x,o=.inl x/\Rd a b w x):=by
 unfold OP
 rw[aEk (n:=b) (m:=a) (by omega)]
 by_cases h12:b-a<=12
 obtain⟨w',e1,e2,e3⟩:=bCk a b w (by omega) hb hab
 exact⟨_,by rw[decide_eq_true (by omega),AI,e1,AB],.inl ⟨w',rfl,e2,e3⟩⟩
 rw[decide_eq_false (by omega),AJ]
 by_cases hlim:lim=0
 obtain⟨w',e1,e2,e3⟩:=aTg a b w (by omega) hb (by omega)
 exact⟨_,by rw[decide_eq_true hlim,AI,e1,AB],.inl ⟨w',rfl,e2,e3⟩⟩
 rw[decide_eq_false hlim,AJ]
 obtain⟨l1,w1,e1,e2⟩:∃l1 w1,OQ self (a:Int) (b:Int) lim s8 s9 ((b-a:Nat):Int) (!s8) w=some (l1,w1)/\Pm a b w w1:=by
  unfold OQ;cases s8 with
  |true=>exact⟨_,_,rfl,Pm.refl _ _ _⟩
  |false=>
   obtain⟨w1,e1,e2⟩:=aWa a b w hl hb (by omega)
   exact⟨_,w1,by rw[Bool.not_false,AI,e1,AB],e2⟩
 have hl1:=e2.len
 obtain⟨pv,hint,f1,p,rfl,p1,p2⟩:=aW0 a b w1 (by omega) (by omega) (by omega)
 obtain⟨p',hint',w2,g1,g2,g3,g4⟩:∃(p':Nat) (hint':Int) (w2:List Int),OR self (a:Int) (b:Int) l1 s8 s9 ((b-a:Nat):Int) (p:Int) hint (decide (hint=2)) w1=some ((p':Int),hint',w2)/\a<=p'/\p'<b/\Pm a b w1 w2:=by unfold OR;by_cases h2:hint=2;obtain⟨w2,g1,g2⟩:=aW6 a b w1 (by omega) (by omega) hab;refine⟨b-1-(p-a),1,w2,?_,by omega,by omega,g2⟩;rw[decide_eq_true h2,AI,g1,AB,Dw (by omega),aEk (n:=p) (m:=a) (by omega),aEk (n:=b-1) (m:=p-a) (by omega)];exact⟨p,hint,w1,by rw[decide_eq_false h2,AJ],p1,p2,Pm.refl _ _ _⟩
 have h02:=e2.trans g4
 have hL2:=hL.pm h02
 have hl2:=h02.len
 have fin:∀fl:Bool,∃o,(AG (KJ self (a:Int) (b:Int) l1 s8 s9 ((b-a:Nat):Int) (p':Int) fl w2) fun o9=>
  CX o9 (fun o10=>aT1 self (a:Int) (b:Int) ((b-a:Nat):Int) l1 s8 s9 (p':Int) o10) (fun o11=>some (.inr o11)))=some o/\((∃w',o=.inr w'/\Pm a b w w'/\So a b w')\/∃x,o=.inl x/\Rd a b w x):=fun fl=>by
  obtain⟨o,w3,h1,h2,h3⟩:=bCd (self:=self) l1 s8 s9 fl ((b-a:Nat):Int) (p':Int) (w1:=w2) (by omega) (by omega) (by omega) hL2
  rw[h1,AB]
  rcases h3 with rfl|⟨rfl,h3⟩
  obtain⟨x,x1,x2⟩:=aT2 ((b-a:Nat):Int) l1 s8 s9 hS hl hb ⟨g2,g3⟩ (by omega) (h02.trans h2) (hL2.pm h2)
  exact⟨_,by rw[CK,x1],.inr ⟨x,rfl,x2⟩⟩
  exact⟨_,D6 _ _ _,.inl ⟨w3,rfl,h02.trans h2,h3⟩⟩
 rw[e1,AB]
 simp only
 rw[f1,AB]
 simp only
 rw[g1,AB]
 simp only
 cases s8 with
 |true=>cases s9 with
  |true=>rw[AI,AI];exact fin (decide (hint'=1))
  |false=>rw[AI,AJ];exact fin false
 |false=>rw[AJ];exact fin false
theorem aWz{self:Int->Int->Int->List Int->Option (List Int)}{N:Nat}(hS:Slf self N):∀(m a b:Nat) (lim:Int) (s8 s9:Bool) (w:List Int),b-a<=m->b-a<=N->w.length<=60000->b<=w.length->a<=b->Lo a b w->
 ∃w',Sg self (a:Int) (b:Int) lim s8 s9 w=some w'/\Pm a b w w'/\So a b w':=by
 intro m
 induction m using Nat.strongRecOn with
 |ind m ih=>
  intro a b lim s8 s9 w hm hN hl hb hab hL
  rw[aHn]
  unfold IT
  obtain⟨o,e1,e2⟩:=bCc lim s8 s9 (fun a' b' l w' h1 h2 h3 h4 h5=>hS a' b' l w' (by omega) h2 h3 h4 h5) hl hb hab hL
  rw[e1,AB]
  rcases e2 with⟨w',rfl,f1,f2⟩|⟨x,rfl,f1⟩
  exact⟨w',by rw[D6,Ad],f1,f2⟩
  obtain⟨a',b',x1,x2,k1,k2,k3,k4,k5,k6,k7,k8⟩:=f1
  have hl5:=k5.len
  obtain⟨w',g1,g2,g3⟩:=ih (b'-a') (by omega) a' b' x.2.2.1 x.2.2.2.1 x.2.2.2.2.1 x.2.2.2.2.2 (Nat.le_refl _) (by omega) (by omega) (by omega) k2 k6
  refine⟨w',?_,k5.trans (g2.mono k1 k3),fun p q p1 p2 p3=>?_⟩
  rw[CK,BC]
  simp only
  rw[x1,x2];exact g1
  by_cases c1:p<a'
  rw[g2.out p (by omega)]
  by_cases c2:a'<=q/\q<b'
  obtain⟨q',q1,q2,q3⟩:=g2.src q c2.1 c2.2
  rw[q3];exact k7 p q' p1 c1 (by omega) (by omega)
  rw[g2.out q (by omega)];exact k7 p q p1 c1 p2 p3
  by_cases c2:b'<=q
  rw[g2.out q (by omega)]
  by_cases c3:p<b'
  obtain⟨p',q1,q2,q3⟩:=g2.src p (by omega) c3
  rw[q3];exact k8 p' q (by omega) (by omega) c2 p3
  rw[g2.out p (by omega)];exact k8 p q p1 p2 c2 p3
  exact g3 p q (by omega) p2 (by omega)
theorem bCx:∀n,Slf (aPi n) n:=by
 intro n;induction n with
 |zero=>intro a b lim w h;omega
 |succ n ih=>
  intro a b lim w h1 h2 h3 h4 h5
  obtain⟨w',e1,e2,e3⟩:=aWz ih (b-a) a b lim true true w (Nat.le_refl _) (by omega) h4 h3 h2 h5
  refine⟨w',?_,e2,e3⟩
  show aQ0 (aPi n) (a:Int) (b:Int) lim w=some w'
  unfold aQ0
  rw[e1,AB]
theorem Np{w:List Int}(hl:w.length<=60000):∃w',Q7 w=some w'/\w'.Perm w/\w'.Pairwise (· <= ·):=by obtain⟨k,e1,_⟩:=aPe (n:=w.length) (by omega);obtain⟨w',f1,f2,f3⟩:=bCx 100000 0 w.length (k:Int) w (by omega) (by omega) (Nat.le_refl _) hl (fun h=>by omega);refine⟨w',?_,f2.perm,?_⟩;unfold Q7;rw[At (by omega),e1,AB];have f1':Xf 0 (w.length:Int) (k:Int) w=some w':=f1;rw[f1',AB];rw[List.pairwise_iff_getElem];intro i j hi hj hij;have:=f3 i j (by omega) hij (by have:=f2.len;omega);rw[Ji hi,Ji hj];exact this
theorem Eu{l m:List Int}(h1:l.Pairwise (· <= ·))(h2:m.Pairwise (· <= ·))(hp:l.Perm m):l=m:=
 List.Perm.eq_of_pairwise (fun a b _ _ h3 h4=>by omega) h1 h2 hp
theorem P8{w l:List Int}(hl:w.length<=60000)(hs:l.Pairwise (· <= ·))(hp:l.Perm w):Qq w=some l:=by unfold Qq;refine aSx fun p hp'=>?_;obtain⟨w',e1,e2,e3⟩:=Np (w:=p) (by rw[hp'.length_eq];exact hl);rw[e1,Eu e3 hs (e2.trans (hp'.trans hp.symm))]
theorem aC4{α:Type}{le:α->α->Bool}{x y:α}{l:List α}:y∈M0 le x l↔y=x\/y∈l:=by rw[(HU le x l).mem_iff,mc]
theorem Hj{α:Type}{le:α->α->Bool}(h1:∀a b,le a b=true\/le b a=true)(h2:∀a b c,le a b=true->le b c=true->le a c=true)(x:α):∀{l:List α},l.Pairwise (fun a b=>le a b=true)->(M0 le x l).Pairwise (fun a b=>le a b=true)
 |[],_=>by simp[M0]
 |y::l,h=>by
  obtain⟨ha,hb⟩:=List.pairwise_cons.1 h;rw[M0];split;rename_i hxy;refine List.pairwise_cons.2 ⟨fun z hz=>?_,h⟩;rcases mc.1 hz with rfl|hz
  exact hxy;exact h2 _ _ _ hxy (ha z hz);rename_i hxy;refine List.pairwise_cons.2 ⟨fun z hz=>?_,Hj h1 h2 x hb⟩;rcases aC4.1 hz with rfl|hz
  rcases h1 y z with h|h
  exact h;rw[hxy]at h;cases h;exact ha z hz
theorem Et{α:Type}{le:α->α->Bool}(h1:∀a b,le a b=true\/le b a=true)(h2:∀a b c,le a b=true->le b c=true->le a c=true):∀(l:List α),(NQ le l).Pairwise (fun a b=>le a b=true)
 |[]=>List.Pairwise.nil
 |x::l=>Hj h1 h2 x (Et h1 h2 l)
theorem Dx(xs:List Int):(aE2 xs).Pairwise (· <= ·):=
 (Et (le:=fun a b:Int=>decide (a<=b)) (fun a b=>by simp only[decide_eq_true_eq];omega) (fun a b c h1 h2=>by simp only[decide_eq_true_eq]at*;omega) xs).imp fun h=>by simpa using h
theorem Jq{V:Type}(S:List (Int×V)):(aOd S).Pairwise (fun a b=>a.1<=b.1):=
 (Et (le:=fun a b:Int×V=>decide (a.1<=b.1)) (fun a b=>by simp only[decide_eq_true_eq];omega) (fun a b c h1 h2=>by simp only[decide_eq_true_eq]at*;omega) S).imp fun h=>by simpa using h
def Tw(xs:List Int):Option (List Int):=AE (Nat.ble xs.length 60000) (some (aE2 xs)) none
theorem aOz(xs:List Int):Le (Tw xs) (Qq xs):=by
 intro r h;unfold Tw at h;rcases iS h with⟨h1,h⟩|⟨h1,h⟩
 cases si h;exact P8 (by simpa using h1) (Dx xs) (Dl xs);cases h
theorem aFf{w l:List Int}(hl:w.length<=60000)(hs:l.Pairwise (· <= ·))(hp:l.Perm w):Q7 w=some l:=by obtain⟨w',e1,e2,e3⟩:=Np hl;rw[e1,Eu e3 hs (e2.trans hp.symm)]
theorem aEf(xs:List Int):Le (Tw xs) (Q7 xs):=by
 intro r h;unfold Tw at h;rcases iS h with⟨h1,h⟩|⟨h1,h⟩
 cases si h;exact aFf (by simpa using h1) (Dx xs) (Dl xs);cases h
structure aUm(n:Nat)(l:List Au):Prop extends aXw l where
 sym:∀h∈l,0<=h.symbol/\h.symbol<n
theorem aSm{a b:Nat}(h:a+b<18446744073709551616):AA .add .u64 (a:Int) (b:Int)=((a+b:Nat):Int):=by show IntKind.wrap .u64 ((a:Int)+(b:Int))=_;rw[<-Int.natCast_add];exact At h
theorem aQp{n:Nat}(hn:n<=12){l:List Au}(hl:aUm n l):∃M:Nat,Zb l=some (M:Int)/\M<18446744073709551616/\∀k:Nat,M.testBit k=true↔ ∃h∈l,h.symbol=(k:Int):=by
 have hln:=hl.len;obtain⟨o,ho,M,rfl,hQ⟩:=BB (step:=fun s:Int×Int=>JG l s.1 s.2)
  (fun s=>∃(j w:Nat),s=((w:Int),(j:Int))/\j<=l.length/\w<2^12/\∀k:Nat,w.testBit k=true↔ ∃i,i<j/\∃h,l[i]? =some h/\h.symbol=(k:Int))
  (fun s=>(l.length-s.2).toNat)
  (fun o=>∃M:Nat,o=(M:Int)/\M<18446744073709551616/\∀k:Nat,M.testBit k=true↔ ∃h∈l,h.symbol=(k:Int))
  (by
   rintro s ⟨j,w,rfl,hj,hw,hm⟩;by_cases he:j=l.length;subst he;refine .inl ⟨(w:Int),by simp only[JG,ltI,AJ],w,rfl,Nat.lt_of_lt_of_le hw (by decide),fun k=>?_⟩;rw[hm k];constructor;rintro⟨i,_,h,hi,hs⟩;exact⟨h,List.mem_of_getElem? hi,hs⟩;rintro⟨h,hh,hs⟩;obtain⟨i,hi⟩:=List.mem_iff_getElem?.1 hh;exact⟨i,(List.getElem?_eq_some_iff.1 hi).1,h,hi,hs⟩;right;obtain⟨y,hy,_⟩:=Aa (l:=l) (i:=j) (by omega);have hsy:=hl.sym y (List.mem_of_getElem? hy);obtain⟨z,hz⟩:∃z:Nat,y.symbol=(z:Int):=⟨y.symbol.toNat,by omega⟩;have hz12:z<12:=by omega
   have hwz:w<2^z:=Nat.lt_pow_two_of_testBit w fun i hi=>by
    cases hb:w.testBit i with
    |false=>rfl
    |true=>
     exfalso
     obtain⟨a,ha,h,hh,hs⟩:=(hm i).1 hb
     obtain⟨p1,e1⟩:=List.getElem?_eq_some_iff.1 hh
     obtain⟨p2,e2⟩:=List.getElem?_eq_some_iff.1 hy
     have:=List.pairwise_iff_getElem.1 hl.rise a j p1 p2 ha
     rw[e1,e2]at this
     omega
   have hor:w+2^z=2^z|||w:=by have:=Nat.two_pow_add_eq_or_of_lt hwz 1;rw[Nat.mul_one]at this;rw[Nat.add_comm];exact this
   have hp12:2^z<2^12:=Nat.pow_lt_pow_right (by decide) hz12;have hlt12:w+2^z<2^12:=by rw[hor];exact Nat.or_lt_two_pow hp12 hw
   have hwz2:IntKind.wrap .u64 (z:Int)=(z:Int):=At (by omega);refine⟨(((w+2^z:Nat):Int),((j+1:Nat):Int)),?_,⟨j+1,w+2^z,rfl,by omega,hlt12,fun k=>?_⟩,by simp only;omega⟩;simp only[JG,ltD hy,AI,AN hy,hz,hwz2,Ai (show(0:Int)<=(z:Int) by omega),Aq hy (show l.length<=9223372036854775807 by omega)];rw[aOy (by omega),aSm (Nat.lt_of_lt_of_le hlt12 (by decide))];rw[hor,Nat.testBit_or,Nat.testBit_two_pow,Bool.or_eq_true,decide_eq_true_eq,hm k];constructor;rintro(h|⟨i,hi,a⟩);exact⟨j,by omega,y,hy,by rw[hz,h]⟩;exact⟨i,by omega,a⟩;rintro⟨i,hi,h,hh,hs⟩;rcases Nat.lt_or_ge i j with g|g
   exact .inr ⟨i,g,h,hh,hs⟩;have:i=j:=by omega
   subst this;rw[hy,oe]at hh;subst hh;exact .inl (by omega))
  ((0:Int),(0:Int)) ⟨0,0,rfl,by omega,by decide,fun k=>by simp⟩
 have ho':aR8 l 0 0=some (M:Int):=ho;exact⟨M,by unfold Zb;rw[ho',AB],hQ⟩
theorem GG{α:Type}(f:Nat->α->Nat)(P:α->Nat->Prop)(hf:∀w x k,(f w x).testBit k=true↔w.testBit k=true\/P x k):∀(l:List α) (w k:Nat),(l.foldl f w).testBit k=true↔w.testBit k=true\/∃x∈l,P x k
 |[],w,k=>by simp
 |x::l,w,k=>by
  rw[List.foldl_cons,GG f P hf l,hf];constructor;rintro((h|h)|⟨y,hy,h⟩);exact .inl h;exact .inr ⟨x,by simp,h⟩;exact .inr ⟨y,List.mem_cons_of_mem _ hy,h⟩;rintro(h|⟨y,hy,h⟩);exact .inl (.inl h);rcases mc.1 hy with rfl|hy
  exact .inl (.inr h);exact .inr ⟨y,hy,h⟩
theorem aT3(q:AD)(M s k:Nat):(toN q M s).testBit k=true↔ ∃t∈q.trans,(t.from_=(s:Int)/\M.testBit t.symbol.toNat=true)/\t.to.toNat=k:=by
 unfold toN;rw[GG (toF M s) (fun t k=>(t.from_=(s:Int)/\M.testBit t.symbol.toNat=true)/\t.to.toNat=k) (fun w t k=>by unfold toF;by_cases h:t.from_=(s:Int)/\M.testBit t.symbol.toNat=true;rw[if_pos h,Nat.testBit_or,Nat.testBit_two_pow,Bool.or_eq_true,decide_eq_true_eq];exact⟨fun a=>a.elim .inl fun b=>.inr ⟨h,b⟩,fun a=>a.elim .inl fun b=>.inr b.2⟩;rw[if_neg h];exact⟨.inl,fun a=>a.elim id fun b=>absurd b.1 h⟩)]
 simp
theorem aDr(q:AD)(S M k:Nat):(Da q S M).testBit k=true↔ ∃s,s<q.states.length/\S.testBit s=true/\(aPx q M s).testBit k=true:=by
 unfold Da;rw[GG (Lx q S M) (fun s k=>S.testBit s=true/\(aPx q M s).testBit k=true) (fun w s k=>by unfold Lx;by_cases h:S.testBit s=true;rw[if_pos h,Nat.testBit_or,Bool.or_eq_true];exact⟨fun a=>a.elim .inl fun b=>.inr ⟨h,b⟩,fun a=>a.elim .inl fun b=>.inr b.2⟩;rw[if_neg h];exact⟨.inl,fun a=>a.elim id fun b=>absurd b.1 h⟩)]
 simp only[List.mem_range,Nat.zero_testBit,Bool.false_eq_true,false_or]
theorem Ti{q:AD}(hF:Dt q)(hR:Ag q)(hS:Cf q)(e:Xc)(b:List X2):aUm q.symbols.length (((List.range q.symbols.length).filterMap fun i=>Jm q i e).filter fun h=>D7 h.bind b):=by
 have hsy:=hF.symbols;have hmem:∀h∈(List.range q.symbols.length).filterMap (fun i=>Jm q i e),∃i,i<q.symbols.length/\Jm q i e=some h:=fun h hh=>by obtain⟨i,hi,hh⟩:=List.mem_filterMap.1 hh;exact⟨i,List.mem_range.1 hi,hh⟩
 refine⟨⟨fun h hh=>?_,?_,?_⟩,fun h hh=>?_⟩;obtain⟨i,_,hi⟩:=hmem h (List.mem_filter.1 hh).1;exact aC0 hR hS hi;refine List.Pairwise.filter _ ?_;rw[List.pairwise_filterMap];refine List.Pairwise.imp ?_ (List.pairwise_lt_range (n:=q.symbols.length));intro i j hij a ha c hc;have h1:=(Mx ha).1;have h2:=(Mx hc).1;omega;have h1:=List.length_filter_le (fun h:Au=>D7 h.bind b) ((List.range q.symbols.length).filterMap fun i=>Jm q i e);have h2:=List.length_filterMap_le (fun i=>Jm q i e) (List.range q.symbols.length);rw[List.length_range]at h2;omega;obtain⟨i,hi,hh⟩:=hmem h (List.mem_filter.1 hh).1;have:=(Mx hh).1;omega

theorem H8(l:List X0)(v:X0)(hl:l.length<=1000000):Zr l v=some (decide (v∈l)):=by
 have hloop:TE l (l.length:Int) v 0=some (if(l.any fun t=>decide (v=t))=true then .inr ((l.findIdx fun t=>decide (v=t):Nat):Int)else .inl ()):=by unfold TE;refine Kv (step:=fun s=>HI l (l.length:Int) v s) l (fun t=>decide (v=t)) (fun i x hx=>?_) ?_;simp only[HI,ltD hx,AI,AN hx,X0.eqb_dec,Aq hx (show l.length<=9223372036854775807 by omega)];by_cases h:v=x<;>simp[h,AE];simp only[HI,ltI,AJ]
 have hany:(l.any fun t=>decide (v=t))=decide (v∈l):=by rw[Bool.eq_iff_iff,List.any_eq_true];simp
 unfold Zr Yi;rw[hloop,AB,hany];by_cases h:v∈l;simp only[h,decide_true,if_true,D6,AB];simp;simp only[h,decide_false,Bool.false_eq_true,if_false,CK,AB];rfl
theorem Fb{w:List X0}{x v:X0}:v∈Nd w x↔v=x\/v∈w:=by unfold Nd;by_cases h:x∈w;rw[if_pos h];exact⟨.inr,fun hh=>hh.elim (fun e=>e▸h) id⟩;rw[if_neg h];simp only[ma,mc,List.mem_filter];cases ltV v x<;>simp<;>constructor<;>(intro hh;rcases hh with a|b<;>simp_all)
theorem UE{x:X0}:Zn x=some (true,[x]):=by
 have hb:Y0 ([]:List X0) x ([]:List X0)=some (0,false):=by unfold Y0 S5;rw[Aj];simp[F9,Wy,AE,AG,CW]
 unfold Zn aBs Qu aXr;rw[hb];simp[AG,AE,fit]
theorem aUi{w:List X0}(h:w.length<=1000):Qh w=some (w,w):=by unfold Qh Qv RZ;rw[if_pos (BI (by omega) (by decide))];rfl



theorem HW{α β τ:Type}{step:β×Int->Option (β×Int⊕τ)}(l:List α)(f:β->α->β)(fin:β->τ)(I:Nat->β->Prop)
 (h1:∀(i:Nat) x w,l[i]? =some x->I i w->step (w,(i:Int))=some (.inl (f w x,((i+1:Nat):Int)))/\I (i+1) (f w x))
 (h2:∀w,I l.length w->step (w,(l.length:Int))=some (.inr (fin w))) (w:β) (h0:I 0 w):AQ step (w,0)=some (fin (l.foldl f w)):=by
 have h:=Em (step:=step) l (fun i w=>(w,(i:Int))) (fun _ w x=>(.inl (f w x):β⊕τ)) fin I (fun i x w hx hI=>⟨(h1 i x w hx hI).1,fun w' hw=>by cases hw;exact(h1 i x w hx hI).2⟩) h2 (l.length+1) 0 w (by omega) (by omega) h0
 rw[show(w,(0:Int))=(w,((0:Nat):Int))from rfl,h,List.drop_zero]
 congr 1
 clear h h1 h2 h0
 generalize 0=i
 revert i w
 induction l with
 |nil=>intro w i;rfl
 |cons x xs ih=>intro w i;rw[Ng];exact ih _ _
def Ke(k:Int)(w:List X0)(a:B0):List X0:=if a.kind=1/\a.value.kind=k then Nd w a.value else w
def Dh(q:AD)(k:Int):List X0:=q.symbols.foldl (fun w s=>s.args.foldl (Ke k) w) (if k=3 then [X0.mk 3 0 [] false,X0.mk 3 0 [] true]else [])
theorem Jh{α β:Type}(I:Nat->β->Prop)(f:β->α->β):∀(l:List α) (i:Nat) (w:β),(∀(j:Nat) x w,x∈l->I j w->I (j+1) (f w x))->I i w->I (i+l.length) (l.foldl f w)
 |[],i,w,_,h0=>h0
 |x::l,i,w,h,h0=>by
  rw[List.foldl_cons,List.length_cons,show i+(l.length+1)=(i+1)+l.length by omega];exact Jh I f l (i+1) _ (fun j y w hy=>h j y w (List.mem_cons_of_mem _ hy)) (h i x w (by simp) h0)
theorem Nn(k:Int):SW (if k=3 then [X0.mk 3 0 [] false,X0.mk 3 0 [] true]else []):=by
 split;refine⟨?_,?_⟩;simp[ltV];intro v hv;simp only[mc,List.not_mem_nil,or_false]at hv;rcases hv with rfl|rfl<;>decide
 exact⟨List.Pairwise.nil,by simp⟩
theorem La{k:Int}{w:List X0}{a:B0}{n:Nat}(ha:a.kind=1->vR a.value=true)(hw:SW w)(hl:w.length<=n):SW (Ke k w a)/\(Ke k w a).length<=n+1:=by unfold Ke;split;rename_i h;have:=MN hw (ha h.1);refine⟨this.1,?_⟩;rw[this.2];split<;>omega;exact⟨hw,by omega⟩
theorem Lb{q:AD}(hF:Dt q)(hR:Ag q){s:X5}(hs:s∈q.symbols){k:Int}{w:List X0}{n:Nat}(hw:SW w)(hl:w.length<=n):SW (s.args.foldl (Ke k) w)/\(s.args.foldl (Ke k) w).length<=n+12:=by have h:=Jh (fun i w=>SW w/\w.length<=n+i) (Ke k) s.args 0 w (fun j a w ha hI=>La ((hR.symbols s hs).args a ha).one hI.1 hI.2) ⟨hw,by omega⟩;have:=hF.args s hs;exact⟨h.1,by omega⟩
theorem cons_inv{q:AD}(hF:Dt q)(hR:Ag q)(k:Int):SW (Dh q k)/\(Dh q k).length<=200:=by
 have h:=Jh (fun i w=>SW w/\w.length<=2+12*i) (fun w s=>s.args.foldl (Ke k) w) q.symbols 0 (if k=3 then [X0.mk 3 0 [] false,X0.mk 3 0 [] true]else [])
  (fun j s w hs hI=>by have:=Lb hF hR hs (k:=k) hI.1 hI.2;exact⟨this.1,by omega⟩) ⟨Nn k,by split<;>simp⟩
 have:=hF.symbols;exact⟨h.1,by unfold Dh;omega⟩
theorem aYo{q:AD}(hF:Dt q)(hR:Ag q)(k:Int):X9 q k=some (Dh q k):=by
 have hsy:=hF.symbols;have hb:OA k (decide (k=3)) q=some (if k=3 then [X0.mk 3 0 [] false,X0.mk 3 0 [] true]else []):=by unfold OA Qb;rw[Dp];split;simp only[AB,UE];rw[ML (w:=[X0.mk 3 0 [] false]) ⟨by simp,by simp;decide⟩ (by decide) (by simp)];rfl;rfl
 have hin:∀(s:X5) (i:Int) (w:List X0),s∈q.symbols->SW w->w.length<=200->SZ k q.symbols (q.symbols.length:Int) i s.args (s.args.length:Int) 0 w=some (s.args.foldl (Ke k) w):=by intro s i w hs hw hl;have ha:=hF.args s hs;unfold SZ;refine D4 (step:=fun z:Int×List X0=>Fx k q.symbols (q.symbols.length:Int) i s.args (s.args.length:Int) z.1 z.2) s.args (Ke k) id (fun j w=>SW w/\w.length<=200+j) (fun j a w hx hI=>?_) (fun w _=>?_) w ⟨hw,by omega⟩;have hv:=((hR.symbols s hs).args a (List.mem_of_getElem? hx)).one;have hlt:=(List.getElem?_eq_some_iff.1 hx).1;refine⟨?_,La hv hI.1 hI.2⟩;simp only[Fx,ltD hx,AI,SX,AN hx,Aq hx (show s.args.length<=9223372036854775807 by omega),OD];unfold Ke;by_cases h1:a.kind=1<;>by_cases h2:a.value.kind=k;rw[Dp,if_pos h1,Dp,if_pos h2,if_pos ⟨h1,h2⟩,ML hI.1 (hv h1) (by have:=hI.2;omega)];rfl;rw[Dp,if_pos h1,Dp,if_neg h2,if_neg (fun h=>h2 h.2)];rfl;rw[Dp,if_neg h1,if_neg (fun h=>h1 h.1)];rfl;rw[Dp,if_neg h1,if_neg (fun h=>h1 h.1)];rfl;simp only[Fx,ltI,AJ,id]
 unfold X9 Qo Uy;rw[AB,hb,AB,D4 (step:=fun z:Int×List X0=>Fw k q.symbols (q.symbols.length:Int) z.1 z.2) q.symbols (fun w s=>s.args.foldl (Ke k) w) id (fun j w=>SW w/\w.length<=2+12*j)
  (fun j s w hx hI=>by have hs:=List.mem_of_getElem? hx;have hlt:=(List.getElem?_eq_some_iff.1 hx).1;have:=Lb hF hR hs (k:=k) hI.1 hI.2;refine⟨?_,this.1,by omega⟩;simp only[Fw,ltD hx,AI,AN hx,Aq hx (show q.symbols.length<=9223372036854775807 by omega)];rw[hin s _ w hs hI.1 (by have:=hI.2;omega)];rfl)
  (fun w _=>by simp only[Fw,ltI,AJ,id]) _ ⟨Nn k,by split<;>simp⟩,AB]
 have hc:=cons_inv hF hR k;show AG (Qh (Dh q k)) _=_;rw[aUi (by omega)];rfl
theorem aVf{q:AD}(hF:Dt q)(hR:Ag q)(k:Int):Xv q k=some (Dh q k):=by
 have hsy:=hF.symbols;have hb:WY k (decide (k=3)) q=some (if k=3 then [X0.mk 3 0 [] false,X0.mk 3 0 [] true]else []):=by unfold WY;rw[Dp];split<;>rfl
 have hin:∀(s:X5) (i:Nat) (w:List X0),q.symbols[i]? =some s->SW w->w.length<=200->aJa k (i:Int) q w 0=some (s.args.foldl (Ke k) w):=by intro s i w hxs hw hl;have hs:=List.mem_of_getElem? hxs;have ha:=hF.args s hs;unfold aJa;refine HW (step:=fun z:List X0×Int=>Io k (i:Int) q z.1 z.2) s.args (Ke k) id (fun j w=>SW w/\w.length<=200+j) (fun j a w hx hI=>?_) (fun w _=>?_) w ⟨hw,by omega⟩;have hv:=((hR.symbols s hs).args a (List.mem_of_getElem? hx)).one;have hlt:=(List.getElem?_eq_some_iff.1 hx).1;refine⟨?_,La hv hI.1 hI.2⟩;simp only[Io,AN hxs,ltD hx,AI,aI7,AN hx,Aq hx (show s.args.length<=9223372036854775807 by omega),WZ];unfold Ke;by_cases h1:a.kind=1<;>by_cases h2:a.value.kind=k;rw[Dp,if_pos h1,Dp,if_pos h2,if_pos ⟨h1,h2⟩,aL4 hI.1 (hv h1) (by have:=hI.2;omega)];rfl;rw[Dp,if_pos h1,Dp,if_neg h2,if_neg (fun h=>h2 h.2)];rfl;rw[Dp,if_neg h1,if_neg (fun h=>h1 h.1)];rfl;rw[Dp,if_neg h1,if_neg (fun h=>h1 h.1)];rfl;simp only[Io,AN hxs,ltI,AJ,id]
 unfold Xv aRc;rw[hb,AB,HW (step:=fun z:List X0×Int=>In k q z.1 z.2) q.symbols (fun w s=>s.args.foldl (Ke k) w) id (fun j w=>SW w/\w.length<=2+12*j)
  (fun j s w hx hI=>by have hs:=List.mem_of_getElem? hx;have hlt:=(List.getElem?_eq_some_iff.1 hx).1;have:=Lb hF hR hs (k:=k) hI.1 hI.2;refine⟨?_,this.1,by omega⟩;simp only[In,ltD hx,AI,Aq hx (show q.symbols.length<=9223372036854775807 by omega)];rw[hin s j w hx hI.1 (by have:=hI.2;omega)];rfl)
  (fun w _=>by simp only[In,ltI,AJ,id]) _ ⟨Nn k,by split<;>simp⟩,AB]
 rfl
def Gn(k:Int)(j:Nat):X0:=if k=1 then⟨k,(j:Int),[],false⟩else⟨k,0,List.replicate j 97,false⟩
theorem aOn{k:Int}{i j:Nat}(h:Gn k i=Gn k j):i=j:=by
 unfold Gn at h;split at h;injection h with _ h2;omega
 injection h with _ _ h3
 have:=congrArg List.length h3;simpa using this
theorem NA(k:Int)(j:Nat):(Gn k j).kind=k:=by unfold Gn;split<;>rfl
theorem aDp{k:Int}{j:Nat}(hk:k=1\/k=2)(hj:j<=1000):vR (Gn k j)=true:=by
 unfold Gn vR;rcases hk with rfl|rfl
 simp;simp;omega
theorem aP8{α:Type} [DecidableEq α](f:Nat->α)(hf:∀i j,f i=f j->i=j):∀(n:Nat) (l:List α),(∀i,i<n->f i∈l)->n<=l.length
 |0,_,_=>Nat.zero_le _
 |n+1,l,h=>by
  have hm:=h n (by omega);have:=aP8 f hf n (l.erase (f n)) (fun i hi=>(List.mem_erase_of_ne (fun e=>by have:=hf _ _ e;omega)).2 (h i (by omega)));rw[List.length_erase_of_mem hm]at this;have:0<l.length:=List.length_pos_of_mem hm;omega
theorem aUl{w:List X0}{v:X0}(hw:SW w)(hv:vR v=true)(hl:w.length<=900):Qk w v=some (decide (v∈w)):=by unfold Qk;rw[aL4 hw hv hl,AB,(MN hw hv).2];by_cases h:v∈w;simp[h];simp only[h,if_false,decide_false,oe,decide_eq_false_iff_not];omega
theorem NB(k:Int)(j:Nat)(hk:k=1\/k=2)(hj:j<=1000)(l:List X0)(z:X0):Su k l z (Gn k j)=some (Gn k (j+1))/\YU k l z (Gn k j)=some (Gn k (j+1)):=by
 unfold Su YU aIz aLc Gn;rcases hk with rfl|rfl
 simp only[if_true,decide_true,AI,AB];rw[LV (by omega) (by omega)];simp;simp only[show¬(2:Int)=1 by decide,if_false,decide_false,AJ,List.length_replicate];rw[Ai (by simp;omega)];simp[AG,List.replicate_succ']
end
end Go.Ac
