/- Own work: the plain law. -/
import Derived.Test.YtnjgfcpccmiglaaGreatDoorP25qB
set_option linter.unusedVariables false
set_option linter.unusedSimpArgs false
namespace Go.Ac
def Cl(q:AA)(j:Nat)(e:X4):Prop:=
 0<=e.kind/\e.kind<=3/\(e.kind≠0->0<=e.from_/\e.from_<=j/\1<=e.depth/\e.depth<=j+1)/\
  ∀n,j+1<n->∃r,IM n q j=some r/\r.1=e.kind/\(e.kind≠0->r.2.1=e.depth/\r.2.2=e.from_)
def zE:X4:=⟨0,0,0⟩
structure ExI(q:AA)(i:Nat)(w:List X4):Prop where
 len:w.length=q.nodes.length
 lo:∀j e,j<i->w[j]? =some e->Cl q j e
 hi:∀j e,i<=j->w[j]? =some e->e=zE
theorem Cl.zero{q:AA}{j:Nat}(h:∀n,j<n->∃r,NM (IM n) q j=some r/\r.1=0):Cl q j zE:=by
 refine⟨Int.le_refl _,by decide,fun h=>absurd rfl h,fun n hn=>?_⟩;cases n with
 |zero=>omega
 |succ n=>
  obtain⟨r,h1,h2⟩:=h n (by omega)
  exact⟨r,h1,h2,fun h=>absurd rfl h⟩
theorem ExI.keep{q:AA}{i:Nat}{w:List X4}(h:ExI q i w)(hc:Cl q i zE):ExI q (i+1) w:=by
 refine⟨h.len,fun j e hj he=>?_,fun j e hj he=>h.hi j e (by omega) he⟩;by_cases hji:j<i;exact h.lo j e hji he;have:j=i:=by omega
 subst this;rw[h.hi j e (Nat.le_refl _) he];exact hc
theorem ExI.put{q:AA}{i:Nat}{w:List X4}(h:ExI q i w){e:X4}(hc:Cl q i e):ExI q (i+1) (w.set i e):=by
 refine⟨by rw[List.length_set];exact h.len,fun j e' hj he=>?_,fun j e' hj he=>?_⟩;by_cases hji:j=i;subst hji;rw[List.getElem?_set_self']at he;cases hw:w[j]? with
 |none=>rw[hw]at he;cases he
 |some y=>rw[hw]at he;simp at he;rw[<-he];exact hc
 rw[List.getElem?_set_ne (by omega)]at he;exact h.lo j e' (by omega) he;rw[List.getElem?_set_ne (by omega)]at he;exact h.hi j e' (by omega) he
theorem Sa{q:AA}(hQ:∀x∈q.quants,1<=x.type/\x.type<=3)(hF:∀x∈q.frees,vR x.init_=true){x:Xb}{k:Int}(h:N9 q x=some k):1<=k/\k<=3:=by
 unfold N9 at h;split at h;split at h;rename_i hh;cases h;exact aCn hh.2.2;cases h;split at h;cases h;split at h;cases hy:q.quants[x.a.toNat]? with
 |none=>rw[hy]at h;cases h
 |some y=>rw[hy]at h;cases h;exact hQ _ (List.mem_of_getElem? hy)
 split at h;cases hy:q.frees[x.a.toNat]? with
 |none=>rw[hy]at h;cases h
 |some y=>rw[hy]at h;cases h;exact aCn (hF _ (List.mem_of_getElem? hy))
 cases h
theorem bAn{i:Nat}(h:i<=2048):AB .sub .i64 (i:Int) 1=(i:Int)-1:=aO9 (by omega) (by omega)
theorem OI(a b:Int):Fv a b=if a<b then b else a:=rfl
theorem SR{q:AA}(hn:q.nodes.length<=2048)(hQ:∀x∈q.quants,1<=x.type/\x.type<=3)(hF:∀x∈q.frees,vR x.init_=true){i:Nat}{x:Xb}(hx:q.nodes[i]? =some x){w:List X4}(hw:ExI q i w)(s16:Int):
 ∃w',UD q.nodes s16 i q w=some w'/\ExI q (i+1) w':=by
 have hi:=BM hx
 have hwl:=hw.len
 have hc:∀{β:Type} (k:Option β),Az (0<=(i:Int)/\(i:Int)+1<=(w.length:Int)) k=k:=fun k=>Ai (by omega) k
 unfold UD
 rw[AN hx,aOc hx,AD]
 cases hl:N9 q x with
 |some k=>
  simp only[AP,hc]
  refine⟨_,rfl,hw.put ?_⟩
  obtain⟨k1,k2⟩:=Sa hQ hF hl
  refine⟨by simp only;omega,k2,fun _=>⟨by simp only;omega,by simp only;omega,Int.le_refl _,by simp only;omega⟩,fun n hn=>?_⟩
  cases n with
  |zero=>omega
  |succ n=>
   refine⟨(k,1,(i:Int)),?_,rfl,fun _=>⟨rfl,rfl⟩⟩
   show NM (IM n) q i=_
   rw[P8 hx,hl]
 |none=>
  simp only[AR]
  have hb:∀n,NM (IM n) q i=if x.op<4\/16<x.op\/x.value≠zV then some (0,0,0)else aO7 (IM n) q i x:=fun n=>by rw[P8 hx,hl]
  have hzero:(x.op<4\/16<x.op\/x.value≠zV)->Cl q i zE:=fun h=>.zero fun n _=>⟨(0,0,0),by rw[hb,if_pos h],rfl⟩
  rw[CX]
  by_cases h4:x.op<4
  rw[if_pos h4];exact⟨_,rfl,hw.keep (hzero (.inl h4))⟩
  rw[if_neg h4,CX]
  by_cases h16:16<x.op
  rw[if_pos h16];exact⟨_,rfl,hw.keep (hzero (.inr (.inl h16)))⟩
  rw[if_neg h16,CX]
  have hin:x.value=zV->∀n,NM (IM n) q i=aO7 (IM n) q i x:=fun hv n=>by rw[hb,if_neg (fun h=>h.elim h4 fun h=>h.elim h16 fun h=>h hv)]
  by_cases h0:(i:Int)=0
  rw[if_pos h0]
  refine⟨_,rfl,hw.keep ?_⟩
  by_cases hv:x.value=zV
  refine .zero fun n hn=>?_
  have hi0:i=0:=by omega
  subst hi0
  rw[hin hv]
  have hm:IM n q (-1)=some (0,0,0):=by
   cases n with
   |zero=>omega
   |succ n=>rfl
  unfold aO7
  rw[bAn (by omega),show((0:Nat):Int)-1= -1 from rfl,hm,AD]
  refine⟨(0,0,0),?_,rfl⟩
  simp
  exact hzero (.inr (.inr hv))
  rw[if_neg h0]
  obtain⟨p,rfl⟩:∃p,i=p+1:=⟨i-1,by omega⟩
  have e1:AB .sub .i64 ((p+1:Nat):Int) 1=(p:Int):=by rw[bAn (by omega)];omega
  have hc1:∀{β:Type} (k:Option β),Az (0<=(p:Int)/\(p:Int)+1<=(w.length:Int)) k=k:=fun k=>Ai (by omega) k
  obtain⟨y,hy,_⟩:=A8 (l:=w) (i:=p) (by omega)
  have hCy:=hw.lo p y (by omega) hy
  obtain⟨y0,y3,yb,ye⟩:=hCy
  simp only[e1,hc1,AN hy,CX,X3.eqb_dec]
  have hin2:x.value=zV->∀n,p+1<n->∃d f,(y.kind≠0->d=y.depth/\f=y.from_)/\NM (IM n) q ((p+1:Nat):Int)=
   if x.op<=5 then if y.kind=0\/x.a≠(p:Int)\/x.b≠0 then some (0,0,0)else AG (Zr x.op y.kind y.kind) fun r6=>some (r6,(AB .add .i64 d 1),f)
   else if y.kind=0\/x.b≠(p:Int)\/x.a≠AB .sub .i64 f 1 then some (0,0,0)else
    AG (IM n q (AB .sub .i64 f 1)) fun r7=>AG (Zr x.op r7.1 y.kind) fun r8=>some (r8,(AB .add .i64 (Fv d r7.2.1) 1),r7.2.2):=fun hv n hn=>by
   obtain⟨r,hr,hk,hdf⟩:=ye n hn
   refine⟨r.2.1,r.2.2,hdf,?_⟩
   rw[hin hv]
   unfold aO7
   rw[e1,hr,AD,hk]
  by_cases hk:y.kind=0
  rw[if_pos hk]
  refine⟨_,rfl,hw.keep ?_⟩
  by_cases hv:x.value=zV
  refine .zero fun n hn=>?_
  obtain⟨d,f,_,hh⟩:=hin2 hv n hn
  rw[hh]
  refine⟨(0,0,0),?_,rfl⟩
  split<;>rw[if_pos (.inl hk)]
  exact hzero (.inr (.inr hv))
  rw[if_neg hk]
  simp only[AL,Bool.not_eq_true',decide_eq_false_iff_not]
  by_cases hnv:¬x.value=zV
  rw[if_pos (show¬x.value=⟨0,0,[],false⟩from hnv)]
  exact⟨_,rfl,hw.keep (hzero (.inr (.inr hnv)))⟩
  have hv:x.value=zV:=Decidable.of_not_not hnv
  rw[if_neg (show¬ ¬x.value=⟨0,0,[],false⟩from fun h=>h hv)]
  have hyb:=yb hk
  by_cases h5:x.op<=5
  rw[if_pos h5]
  by_cases hab:x.a=(p:Int)/\x.b=0
  obtain⟨t,t1,t2,t3,t4⟩:=TC (op:=x.op) (a:=y.kind) (b:=y.kind) (by omega) (by omega) (by omega) (fun _=>rfl)
  rw[if_pos hab.1]
  simp only[hab.2,decide_true,Mq,AP,t1,AD,hc]
  refine⟨_,rfl,hw.put ?_⟩
  rw[aIb (by omega) (by omega)]
  refine⟨t3,t4,fun _=>⟨by simp only;omega,by simp only;omega,by simp only;omega,by simp only;omega⟩,fun n hn=>?_⟩
  cases n with
  |zero=>omega
  |succ n=>
   obtain⟨d,f,hdf,hh⟩:=hin2 hv n (by omega)
   obtain⟨rfl,rfl⟩:=hdf hk
   refine⟨(t,y.depth+1,y.from_),hh.trans ?_,rfl,fun _=>⟨rfl,rfl⟩⟩
   rw[if_pos h5,if_neg (by simp[hk,hab.1,hab.2]),t2,AD,aIb (by omega) (by omega)]
  have hz:Cl q (p+1) zE:=.zero fun n hn=>by obtain⟨d,f,_,hh⟩:=hin2 hv n hn;refine⟨(0,0,0),hh.trans ?_,rfl⟩;rw[if_pos h5,if_pos (by by_cases ha:x.a=(p:Int);exact .inr (.inr fun hb=>hab ⟨ha,hb⟩);exact .inr (.inl ha))]
  by_cases ha:x.a=(p:Int)
  rw[if_pos ha]
  have hbb:¬x.b=0:=fun hb=>hab ⟨ha,hb⟩
  simp only[hbb,decide_false,Mq,AR,AD]
  exact⟨_,rfl,hw.keep hz⟩
  rw[if_neg ha]
  simp only[Mq,AR,AD]
  exact⟨_,rfl,hw.keep hz⟩
  ·rw[if_neg h5]
   have e2:AB .sub .i64 y.from_ 1=y.from_-1:=aO9 (by omega) (by omega)
   rw[e2]
   by_cases hnab:¬(x.b=(p:Int)/\x.a=y.from_-1)
   have hab:=hnab
   have hz:Cl q (p+1) zE:=.zero fun n hn=>by obtain⟨d,f,hdf,hh⟩:=hin2 hv n hn;obtain⟨rfl,rfl⟩:=hdf hk;refine⟨(0,0,0),hh.trans ?_,rfl⟩;rw[e2,if_neg h5,if_pos (by by_cases ha:x.b=(p:Int);exact .inr (.inr fun hb=>hab ⟨ha,hb⟩);exact .inr (.inl ha))]
   by_cases hb:x.b=(p:Int)
   rw[if_pos hb,if_neg fun ha=>hab ⟨hb,ha⟩]
   simp only[GT,AR,AD]
   exact⟨_,rfl,hw.keep hz⟩
   rw[if_neg hb]
   simp only[GT,AR,AD]
   exact⟨_,rfl,hw.keep hz⟩
   have hab:x.b=(p:Int)/\x.a=y.from_-1:=Decidable.of_not_not hnab
   rw[if_pos hab.1,if_pos hab.2]
   have hin3:∀n,p+1<n->NM (IM n) q ((p+1:Nat):Int)=
    AG (IM n q (y.from_-1)) fun r7=>AG (Zr x.op r7.1 y.kind) fun r8=>some (r8,(AB .add .i64 (Fv y.depth r7.2.1) 1),r7.2.2):=fun n hn=>by
    obtain⟨d,f,hdf,hh⟩:=hin2 hv n hn
    obtain⟨rfl,rfl⟩:=hdf hk
    rw[hh,e2,if_neg h5,if_neg (by simp[hk,hab.1,hab.2])]
   have ht0:∀k:Int,Zr x.op 0 k=some 0:=fun k=>by unfold Zr;rw[AL,if_pos (by decide)]
   by_cases hna:¬0<=x.a
   have ha:=hna
   rw[if_neg ha]
   simp only[GT,AR,AD]
   refine⟨_,rfl,hw.keep (.zero fun n hn=>?_)⟩
   have hm:IM n q (y.from_-1)=some (0,0,0):=by
    cases n with
    |zero=>omega
    |succ n=>
     show NM (IM n) q _=_
     unfold NM
     rw[CX,if_pos (by omega)]
   rw[hin3 n hn,hm,AD,ht0,AD]
   exact⟨_,rfl,rfl⟩
   have ha:0<=x.a:=Decidable.of_not_not hna
   rw[if_pos ha,Ai (by omega)]
   obtain⟨z,hz,ea⟩:=K3 (l:=w) (i:=x.a) ha (by omega)
   rw[B0 hz ha]
   have hCz:=hw.lo x.a.toNat z (by omega) hz
   obtain⟨z0,z3,zb,ze⟩:=hCz
   have ze':∀n,p+1<n->∃r,IM n q (y.from_-1)=some r/\r.1=z.kind/\(z.kind≠0->r.2.1=z.depth/\r.2.2=z.from_):=fun n hn=>by have:=ze n (by omega);rwa [<-ea,hab.2]at this
   by_cases hzk:z.kind=0
   simp only[hzk,decide_true,Bool.not_true,GT,AR,AD]
   refine⟨_,rfl,hw.keep (.zero fun n hn=>?_)⟩
   obtain⟨r,hr,hr1,_⟩:=ze' n hn
   rw[hin3 n hn,hr,AD,hr1,hzk,ht0,AD]
   exact⟨_,rfl,rfl⟩
   ·have hzb:=zb hzk
    obtain⟨t,t1,t2,t3,t4⟩:=TC (op:=x.op) (a:=z.kind) (b:=y.kind) (by omega) (by omega) (by omega) (fun h=>absurd h h5)
    simp only[hzk,decide_false,Bool.not_false,GT,AP]
    rw[Ai (by omega),B0 hz ha]
    simp only[t1,AD,hc]
    refine⟨_,rfl,hw.put ?_⟩
    have hmx:Fv z.depth y.depth=Fv y.depth z.depth/\1<=Fv y.depth z.depth/\Fv y.depth z.depth<=p+1:=by
     rw[OI,OI];have:(x.a.toNat:Int)<=p:=by omega
     refine⟨?_,?_,?_⟩<;>repeat' split<;>omega
    rw[hmx.1,aIb (by omega) (by omega)]
    refine⟨t3,t4,fun _=>⟨by simp only;omega,by simp only;omega,by simp only;omega,by simp only;omega⟩,fun n hn=>?_⟩
    cases n with
    |zero=>omega
    |succ n=>
     obtain⟨r,hr,hr1,hr2⟩:=ze' n (by omega)
     obtain⟨hr3,hr4⟩:=hr2 hzk
     refine⟨(t,Fv y.depth z.depth+1,z.from_),(hin3 n (by omega)).trans (by rw[hr,AD,hr1,t2,AD,hr3,hr4,aIb (by omega) (by omega)]),rfl,fun _=>⟨rfl,rfl⟩⟩
theorem aI0{q:AA}(hn:q.nodes.length<=2048)(hQ:∀x∈q.quants,1<=x.type/\x.type<=3)(hF:∀x∈q.frees,vR x.init_=true):
 ∃l,Xk q=some l/\l.length=q.nodes.length/\∀j e,l[j]? =some e->Cl q j e:=by
 have h0:ExI q 0 (List.replicate q.nodes.length zE):=⟨by simp,fun j e hj=>by omega,fun j e _ he=>by have:=List.mem_of_getElem? he;exact List.eq_of_mem_replicate this⟩
 have hl:∃l,Mr q.nodes (q.nodes.length:Int) q 0 (List.replicate q.nodes.length zE)=some l/\ExI q q.nodes.length l:=by unfold Mr;refine Eb (fun s=>∃i:Nat,s.1=(i:Int)/\i<=q.nodes.length/\ExI q i s.2) (fun s=>((q.nodes.length:Int)-s.1).toNat) (fun l=>ExI q q.nodes.length l) ?_ _ ⟨0,rfl,Nat.zero_le _,h0⟩;rintro⟨s,w⟩ ⟨i,rfl,hi,hI⟩;simp only at hI;by_cases he:i=q.nodes.length;subst he;exact .inl ⟨w,by simp only[GU,ltI,AR],hI⟩;obtain⟨x,hx,_⟩:=A8 (l:=q.nodes) (i:=i) (by omega);obtain⟨w',h1,h2⟩:=SR hn hQ hF hx hI (q.nodes.length:Int);refine .inr ⟨(((i+1:Nat):Int),w'),by simp only[GU,ltD hx,AP,h1,AD,Aq hx (show q.nodes.length<=9223372036854775807 by omega)],⟨i+1,rfl,by omega,h2⟩,by simp only;omega⟩
 obtain⟨l,h1,h2⟩:=hl
 unfold Xk
 rw[Ai ⟨by omega,AU (by simp;omega) (by decide)⟩]
 refine⟨l,?_,h2.len,fun j e he=>h2.lo j e (by have:=BM he;rw[h2.len]at this;exact this) he⟩
 have:((q.nodes.length:Int)).toNat=q.nodes.length:=by omega
 rw[this]
 show AG (Mr q.nodes (q.nodes.length:Int) q 0 (List.replicate q.nodes.length zE)) _=_
 rw[h1];rfl
end Go.Ac
