/- Own work: the plain law. -/
import Derived.Test.YtnjgfcpccmiglaaGreatDoorP25qC
set_option linter.unusedVariables false
set_option linter.unusedSimpArgs false
namespace Go.Ac
theorem KC{α:Type}(p:α->Bool):∀l:List α,(l.all fun y=> !p y)= !(l.any p)
 |[]=>rfl
 |x::l=>by rw[List.all_cons,List.any_cons,KC p l];cases p x<;>rfl
structure LOk(q:AA)(l:List X4):Prop where
 len:l.length=q.nodes.length
 small:q.nodes.length<=2048
 cl:∀j e,l[j]? =some e->Cl q j e
def whB(l:List X4)(at' root kind:Int):Bool:=
 decide (0<=root)&&match l[root.toNat]? with
  |some e=>decide (e.kind=kind/\kind≠0/\e.from_=at'/\e.depth<=64)
  |none=>false
theorem DA{q:AA}{l:List X4}(h:LOk q l){a root kind:Int}(hw:whB l a root kind=true):0<=a/\a<=root/\root+1<=q.nodes.length:=by
 unfold whB at hw;simp only[ba,decide_eq_true_eq]at hw;obtain⟨h0,h1⟩:=hw;cases he:l[root.toNat]? with
 |none=>rw[he]at h1;cases h1
 |some e=>
  rw[he]at h1
  simp only[decide_eq_true_eq]at h1
  obtain⟨e1,e2,e3,e4⟩:=h1
  have hb:=(h.cl _ _ he).2.2.1 (by omega)
  have:=BM he
  have:=h.len
  omega
theorem aAd{q:AA}{l:List X4}(h:LOk q l){a root kind:Int}(ha:0<=a):Qs root kind l a=some (if whB l a root kind=true then(true,root+1)else(false,a)):=by
 unfold Qs;simp only[AL];have hl:=h.len;have hs:=h.small;by_cases h1:root<a;rw[if_pos (by simpa using h1),if_neg];intro hw;have:=DA h hw;omega;rw[if_neg (by simpa using h1)];by_cases h2:(l.length:Int)<=root;rw[if_pos (by simpa using h2),if_neg];intro hw;have:=DA h hw;omega;rw[if_neg (by simpa using h2)];obtain⟨e,he,_⟩:=K3 (l:=l) (i:=root) (by omega) (by omega);simp only[B0 he (by omega:0<=root)];have e1:AB .add .i64 root 1=root+1:=aIb (by omega) (by omega);unfold whB;rw[he,e1];have h0:0<=root:=by omega
 by_cases p1:e.kind=kind<;>by_cases p2:kind=0<;>by_cases p3:e.from_=a<;>by_cases p4:e.depth<=64<;>simp[h0,p1,p2,p3,p4]<;>omega
theorem S7{q:AA}{l:List X4}(h:LOk q l)(a root:Int):∃k d,Qv q a root=some (k,d)/\∀kind,(k=kind/\kind≠0/\d<=64)↔whB l a root kind=true:=by
 have hl:=h.len;have hs:=h.small;unfold Qv Yf;by_cases hr:0<=root/\root<q.nodes.length;obtain⟨e,he,er⟩:=K3 (l:=l) (i:=root) hr.1 (by omega);obtain⟨_,_,hb,hc⟩:=h.cl _ _ he;obtain⟨r,h1,h2,h3⟩:=hc 100000 (by omega);rw[<-er]at h1;rw[h1,AD,CX];have hwB:∀kind,whB l a root kind=decide (e.kind=kind/\kind≠0/\e.from_=a/\e.depth<=64):=fun kind=>by unfold whB;rw[he];simp[hr.1]
 by_cases hk:r.1=0;rw[if_pos hk];refine⟨0,0,rfl,fun kind=>?_⟩;rw[hwB,decide_eq_true_eq];omega;obtain⟨h4,h5⟩:=h3 (by omega);rw[if_neg hk,AL];by_cases hf:r.2.2=a;rw[if_neg (by simp[hf])];refine⟨r.1,r.2.1,rfl,fun kind=>?_⟩;rw[hwB,decide_eq_true_eq];omega;rw[if_pos (by simp[hf])];refine⟨0,0,rfl,fun kind=>?_⟩;rw[hwB,decide_eq_true_eq];omega;have hz:IM 100000 q root=some (0,0,0):=by show NM (IM 99999) q root=_;unfold NM;rw[CX,CX];split;rfl;rw[if_pos (by omega)]
 rw[hz,AD];refine⟨0,0,by simp[AE],fun kind=>⟨fun hh=>by omega,fun hw=>?_⟩⟩;have:=DA h hw;omega
def aCv(q:AA)(l:List X4)(pre:List A9)(a:Int)(x:A9):Bool:=
 decide (0<=x.free)&& !(pre.any fun y=>decide (y.free=x.free))&&(match q.frees[x.free.toNat]? with|some f=>whB l a x.expr f.init_.kind|none=>false)
theorem OS{q:AA}{l:List X4}{pre:List A9}{a:Int}{x:A9}(h:aCv q l pre a x=true):∃k,whB l a x.expr k=true:=by
 unfold aCv at h;simp only[ba]at h;have c3:=h.2;cases hf:q.frees[x.free.toNat]? with
 |none=>rw[hf]at c3;cases c3
 |some f=>rw[hf]at c3;exact⟨_,c3⟩
def Sr(q:AA)(l:List X4):List A9->Int->List A9->Option Int
 |_,a,[]=>some a
 |pre,a,x::r=>
  if aCv q l pre a x=true then Sr q l (pre++[x]) (x.expr+1) r else none
theorem GA{q:AA}{l:List X4}(h:LOk q l):∀{r pre:List A9} {a b:Int},0<=a->a<=q.nodes.length->Sr q l pre a r=some b->a<=b/\b<=q.nodes.length
 |[],pre,a,b,h0,h1,hs=>by cases hs;exact⟨Int.le_refl _,h1⟩
 |x::r,pre,a,b,h0,h1,hs=>by
  rw[Sr]at hs;by_cases hc:aCv q l pre a x=true;rw[if_pos hc]at hs;obtain⟨k,hk⟩:=OS hc;have:=DA h hk;have:=GA h (by omega) (by omega) hs;omega;rw[if_neg hc]at hs;cases hs
theorem aLv(l:List A9)(s:A9)(hl:l.length<=9223372036854775807):Zx l s=some (l.any fun y=>decide (y.free=s.free)):=by
 unfold Zx Yq Wl;rw[Bj l (fun y=>decide (y.free=s.free))
  (fun i x hx=>by simp only[HA,ltD hx,AP,AN hx,Aq hx hl,Uj,AD];simp only[AL];cases decide (x.free=s.free)<;>rfl)
  (by simp only[HA,ltI,AR]),AD]
 cases l.any _<;>simp[As,AG]
theorem aJ3{α:Type}(a b:List α):sub (a++b) 0 (a.length:Int)=a:=by simp[sub]
theorem La{q:AA}{l:List X4}(h:LOk q l)(t:X5)(ht:t.sets.length<=12):∀(r pre:List A9) (a:Int),t.sets=pre++r->0<=a->
 ∃o,M7 t q t.sets (t.sets.length:Int) t q (pre.length:Int) l a=some o/\match Sr q l pre a r with|some b=>o=.inl (l,b)|none=>∃z,o=.inr z
 |[],pre,a,hs,ha=>by
  refine⟨.inl (l,a),?_,rfl⟩;rw[PP];have e:t.sets.length=pre.length:=by rw[hs];simp
  unfold DP;rw[AL,if_neg (by simp[e])];rfl
 |x::r,pre,a,hs,ha=>by
  have hx:t.sets[pre.length]? =some x:=by rw[hs];simp
  have hlt:=BM hx;have hsub:sub t.sets 0 (pre.length:Int)=pre:=by rw[hs];exact aJ3 _ _
  have hpl:pre.length<=9223372036854775807:=by omega
  rw[PP];have e:DP t q t.sets (t.sets.length:Int) t q (pre.length:Int) l a=some (if aCv q l pre a x=true
   then .inl (((pre.length+1:Nat):Int),l,x.expr+1)else .inr (.inr (l,a))):=by
   unfold DP Qa
   rw[ltD hx,AP,AN hx,Aq hx (by omega),Ai (by omega),hsub,aLv _ _ hpl,AD]
   simp only[AL]
   unfold aCv
   by_cases h1:0<=x.free
   rw[if_pos (by simpa using h1)]
   by_cases h2:x.free<(q.frees.length:Int)
   obtain⟨f,hf,_⟩:=K3 (l:=q.frees) (i:=x.free) h1 h2
   rw[if_pos (by simpa using h2),B0 hf h1,aAd h ha,hf]
   generalize hwb:whB l a x.expr f.init_.kind=b
   cases pre.any _<;>cases b<;>simp[AG,h1,hwb]
   rw[if_neg (by simpa using h2),List.getElem?_eq_none (by omega)]
   simp[AG]
   rw[if_neg (by simpa using h1)]
   simp[AG,h1]
  rw[e,Sr];by_cases hc:aCv q l pre a x=true;rw[if_pos hc,if_pos hc,A4];obtain⟨k',hw⟩:=OS hc;have hr:=DA h hw;have:=La h t ht r (pre++[x]) (x.expr+1) (by rw[hs];simp) (by omega);rw[List.length_append]at this;exact this;rw[if_neg hc,if_neg hc,DN];exact⟨_,rfl,_,rfl⟩
theorem RO{q:AA}{l:List X4}(h:LOk q l)(t:X5)(ht:t.sets.length<=12)(s2:Int):∀(r pre:List A9) (a:Int),t.sets=pre++r->0<=a->
 Vf s2 q t a (pre.length:Int)=some (match Sr q l pre a r with|some b=>.inl b|none=>.inr ())
 |[],pre,a,hs,ha=>by
  rw[Pa];have e:t.sets.length=pre.length:=by rw[hs];simp
  unfold E4;rw[AL,if_neg (by simp[e])];rfl
 |x::r,pre,a,hs,ha=>by
  have hx:t.sets[pre.length]? =some x:=by rw[hs];simp
  have hlt:=BM hx;rw[Pa];have h3:aF3 s2 (pre.length:Int) q t x 0=some (if(pre.any fun y=>decide (y.free=x.free))=true then .inr ()else .inl ()):=by
   unfold aF3;rw[A0 pre (fun y=> !decide (y.free=x.free)) (.inl ():Unit⊕Unit) (.inr ())
    (fun i y hy=>by
     have hy2:t.sets[i]? =some y:=by rw[hs,List.getElem?_append_left (BM hy)];exact hy
     simp only[Jm,ltD hy,AP,AN hy2,Aq hy2 (show t.sets.length<=9223372036854775807 by omega)];simp only[AL];cases decide (y.free=x.free)<;>rfl)
    (by unfold Jm;rw[ltI,AR])]
   rw[KC (fun y:A9=>decide (y.free=x.free)) pre];cases pre.any _<;>rfl
  obtain⟨k,d,hk,hkw⟩:=S7 h a x.expr;have e:E4 s2 q t a (pre.length:Int)=some (if aCv q l pre a x=true
   then .inl (AB .add .i64 x.expr 1,((pre.length+1:Nat):Int))else .inr (.inr ())):=by
   unfold E4
   rw[ltD hx,AP,AN hx,Aq hx (by omega),hk,AD,h3,AD]
   simp only[AL]
   unfold aCv
   by_cases h1:x.free<0
   have h0:¬0<=x.free:=by omega
   rw[if_pos (by simpa using h1)]
   simp[h0]
   ·rw[if_neg (by simpa using h1)]
    by_cases h2:(q.frees.length:Int)<=x.free
    rw[if_pos (by simpa using h2),List.getElem?_eq_none (by omega)]
    simp
    ·obtain⟨f,hf,_⟩:=K3 (l:=q.frees) (i:=x.free) (by omega) (by omega)
     rw[if_neg (by simpa using h2),B0 hf (by omega),hf]
     have hw:=hkw f.init_.kind
     have h0:0<=x.free:=by omega
     simp only[h0,decide_true,Bool.true_and]
     cases hwb:whB l a x.expr f.init_.kind with
     |true=>
      obtain⟨w1,w2,w3⟩:=hw.2 hwb
      have c1:¬k=0:=by omega
      have c2:¬(64<d):=by omega
      cases pre.any _<;>simp[c1,c2,w1,As]
      all_goals omega
     |false=>
      have:¬(k=f.init_.kind/\f.init_.kind≠0/\d<=64):=fun hh=>by have:=hw.1 hh;rw[hwb]at this;cases this
      by_cases c1:k=0
      simp[c1]
      by_cases c2:64<d
      simp[c1,c2]
      have c3:¬k=f.init_.kind:=by omega
      simp[c1,c2,c3]
  rw[e,Sr];by_cases hc:aCv q l pre a x=true;rw[if_pos hc,if_pos hc,A4];obtain⟨k',hw⟩:=OS hc;have hr:=DA h hw;have hs2:=h.small;have:=RO h t ht s2 r (pre++[x]) (x.expr+1) (by rw[hs];simp) (by omega);rw[List.length_append]at this;rw[aIb (by omega) (by omega)];exact this;rw[if_neg hc,if_neg hc,DN]
end Go.Ac
