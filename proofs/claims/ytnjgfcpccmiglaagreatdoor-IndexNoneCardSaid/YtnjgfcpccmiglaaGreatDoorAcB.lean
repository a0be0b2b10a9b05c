/- Own work: how calls of the model run over plain data. -/
import Derived.Test.YtnjgfcpccmiglaaGreatDoorAcA
import Derived.MapKept
import Derived.ChangeKeysEq
import Derived.WideKeyRuns
import Derived.Maps.RangeRun
import Derived.RangeFuncLeaves
import Derived.RangeFuncCalls
import Derived.OrdersIn
import Derived.Deep.LoopGhost
import Derived.ControlIn
set_option linter.unusedVariables false
set_option linter.unusedSimpArgs false
namespace Go.Ac

mutual
def A.mapN(ρ:Nat->Nat):A->A
 | .box n off=>.box (ρ n) off
 | .bsl n off l=>.bsl (ρ n) off l
 | .ep n k i off=>.ep (ρ n) k i off
 | .row n=>.row (ρ n)
 | .clo f fs cs=>.clo f (CK ρ fs) (CK ρ cs)
 | .agg cs=>.agg (CK ρ cs)
 | .tup vs=>.tup (CK ρ vs)
 |a=>a
def CK(ρ:Nat->Nat):List A->List A
 |[]=> []
 |a::as'=>a.mapN ρ::CK ρ as'
end
def Bk.mapN(ρ:Nat->Nat):Bk->Bk
 | .cells cs=>.cells (CK ρ cs)
 | .vals as' us=>.vals (CK ρ as') us
 | .mit m clk seen=>.mit (ρ m) clk seen
 | .mapR g clk ks outs=>.mapR (ρ g) clk ks (outs.map fun x=>(x.1,ρ x.2))
 |b=>b
mutual
def A.nms:A->Option (List Nat)
 | .box n _=>some [n]
 | .bsl n _ _=>some [n]
 | .ep n _ _ _=>some [n]
 | .row n=>some [n]
 | .clo _ fs cs=>match ND fs,ND cs with
  |some x,some y=>some (x++y)
  |_,_=>none
 | .agg cs=>ND cs
 | .tup vs=>ND vs
 | .opq _=>none
 |_=>some []
def ND:List A->Option (List Nat)
 |[]=>some []
 |a::as'=>match a.nms,ND as' with
  |some x,some y=>some (x++y)
  |_,_=>none
end
def Bk.nms:Bk->Option (List Nat)
 | .cells cs=>ND cs
 | .vals as' _=>ND as'
 | .mit m _ _=>some [m]
 | .mapR g _ _ outs=>some (g::outs.map (·.2))
 |_=>some []
mutual
theorem A.has_nms:∀(a:A) {l:List Nat},a.nms=some l->∀n,a.has n=true->n∈l
 | .d _,l,h,n,hn=>by simp[A.has]at hn
 | .eptr _,l,h,n,hn=>by simp[A.has]at hn
 | .nil,l,h,n,hn=>by simp[A.has]at hn
 | .ub,l,h,n,hn=>by simp[A.has]at hn
 | .any,l,h,n,hn=>by simp[A.has]at hn
 | .box m off,l,h,n,hn=>by simp[A.nms]at h;simp[A.has]at hn;subst h;simp[hn]
 | .bsl m off k,l,h,n,hn=>by simp[A.nms]at h;simp[A.has]at hn;subst h;simp[hn]
 | .ep m k i off,l,h,n,hn=>by simp[A.nms]at h;simp[A.has]at hn;subst h;simp[hn]
 | .row m,l,h,n,hn=>by simp[A.nms]at h;simp[A.has]at hn;subst h;simp[hn]
 | .opq a,l,h,n,hn=>by simp[A.nms]at h
 | .clo f fs cs,l,h,n,hn=>by
  simp only[A.nms]at h;split at h;rename_i x y hx hy;simp only[oe]at h;subst h;simp only[A.has,Bool.or_eq_true]at hn;rcases hn with hn|hn
  exact ml _ (B5 fs hx n hn);exact mr _ (B5 cs hy n hn);cases h
 | .agg cs,l,h,n,hn=>B5 cs (by simpa only[A.nms]using h) n (by simpa only[A.has]using hn)
 | .tup cs,l,h,n,hn=>B5 cs (by simpa only[A.nms]using h) n (by simpa only[A.has]using hn)
theorem B5:∀(as':List A) {l:List Nat},ND as'=some l->∀n,AQ n as'=true->n∈l
 |[],l,h,n,hn=>by simp[AQ]at hn
 |a::as',l,h,n,hn=>by
  simp only[ND]at h;split at h;rename_i x y hx hy;simp only[oe]at h;subst h;simp only[AQ,Bool.or_eq_true]at hn;rcases hn with hn|hn
  exact ml _ (A.has_nms a hx n hn);exact mr _ (B5 as' hy n hn);cases h
end
theorem Bk.has_nms{b:Bk}{l:List Nat}(h:b.nms=some l)(n:Nat)(hn:b.has n=true):n∈l:=by
 cases b with
 |cells cs=>exact B5 cs h n hn
 |vals as' us=>exact B5 as' h n hn
 |mit m clk seen=>simp only[Bk.nms,oe]at h;simp only[Bk.has,beq_iff_eq]at hn;subst h;simp[hn]
 |mapR g clk ks outs=>
  simp only[Bk.nms,oe]at h
  simp only[Bk.has,Bool.or_eq_true,beq_iff_eq,List.any_eq_true]at hn
  subst h
  rcases hn with rfl|⟨x,hx,rfl⟩
  exact List.mem_cons_self
  exact List.mem_cons_of_mem _ (mm.2 ⟨x,hx,rfl⟩)
 |_=>simp[Bk.has]at hn
mutual
theorem A.mapN_id:∀(a:A) {l:List Nat} {ρ:Nat->Nat},a.nms=some l->(∀n∈l,ρ n=n)->a.mapN ρ=a
 | .d _,l,ρ,h,hn=>rfl
 | .eptr _,l,ρ,h,hn=>rfl
 | .nil,l,ρ,h,hn=>rfl
 | .ub,l,ρ,h,hn=>rfl
 | .any,l,ρ,h,hn=>rfl
 | .opq a,l,ρ,h,hn=>rfl
 | .box m off,l,ρ,h,hn=>by simp[A.nms]at h;subst h;simp[A.mapN,hn m (by simp)]
 | .bsl m off k,l,ρ,h,hn=>by simp[A.nms]at h;subst h;simp[A.mapN,hn m (by simp)]
 | .ep m k i off,l,ρ,h,hn=>by simp[A.nms]at h;subst h;simp[A.mapN,hn m (by simp)]
 | .row m,l,ρ,h,hn=>by simp[A.nms]at h;subst h;simp[A.mapN,hn m (by simp)]
 | .clo f fs cs,l,ρ,h,hn=>by
  simp only[A.nms]at h;split at h;rename_i x y hx hy;simp only[oe]at h;subst h;simp only[A.mapN,CO fs hx fun n h=>hn n (ml _ h),CO cs hy fun n h=>hn n (mr _ h)];cases h
 | .agg cs,l,ρ,h,hn=>by simp only[A.nms]at h;simp only[A.mapN,CO cs h hn]
 | .tup cs,l,ρ,h,hn=>by simp only[A.nms]at h;simp only[A.mapN,CO cs h hn]
theorem CO:∀(as':List A) {l:List Nat} {ρ:Nat->Nat},ND as'=some l->(∀n∈l,ρ n=n)->CK ρ as'=as'
 |[],l,ρ,h,hn=>rfl
 |a::as',l,ρ,h,hn=>by
  simp only[ND]at h;split at h;rename_i x y hx hy;simp only[oe]at h;subst h;simp only[CK,A.mapN_id a hx fun n h=>hn n (ml _ h),CO as' hy fun n h=>hn n (mr _ h)];cases h
end
mutual
theorem A.mapN_mapN(f g:Nat->Nat):∀a:A,(a.mapN g).mapN f=a.mapN (fun n=>f (g n))
 | .d _| .eptr _| .nil| .ub| .any| .opq _| .box _ _| .bsl _ _ _| .ep _ _ _ _| .row _=>by simp only[A.mapN]
 | .clo h fs cs=>by simp only[A.mapN,Bf f g fs,Bf f g cs]
 | .agg cs=>by simp only[A.mapN,Bf f g cs]
 | .tup cs=>by simp only[A.mapN,Bf f g cs]
theorem Bf(f g:Nat->Nat):∀l:List A,CK f (CK g l)=CK (fun n=>f (g n)) l
 |[]=>rfl
 |a::as'=>by simp only[CK,A.mapN_mapN f g a,Bf f g as']
end
mutual
theorem NU{h w}{val:Val}{ρ:Nat->Nat}(hup:∀n,up<=n->ρ n=n):∀(a:A) (u:Value),RA h w val (a.mapN ρ) u↔RA h w (fun n=>val (ρ n)) a u
 | .d _,u=>by simp only[A.mapN,RA]
 | .eptr _,u=>by simp only[A.mapN,RA]
 | .nil,u=>by simp only[A.mapN,RA]
 | .ub,u=>by simp only[A.mapN,RA]
 | .any,u=>by simp only[A.mapN,RA]
 | .box _ _,u=>by simp only[A.mapN,RA]
 | .bsl _ _ _,u=>by simp only[A.mapN,RA]
 | .ep _ _ _ _,u=>by simp only[A.mapN,RA]
 | .row _,u=>by simp only[A.mapN,RA]
 | .opq a,u=>by
  simp only[A.mapN,RA];have:(fun n=>val (ρ (n+up)))=fun n=>val (n+up):=by funext n;rw[hup (n+up) (Nat.le_add_left _ _)]
  rw[this]
 | .clo f fs cs,u=>by simp only[A.mapN,RA,CL hup fs,CL hup cs]
 | .agg cs,u=>by simp only[A.mapN,RA,CL hup cs]
 | .tup cs,u=>by simp only[A.mapN,RA,CL hup cs]
theorem CL{h w}{val:Val}{ρ:Nat->Nat}(hup:∀n,up<=n->ρ n=n):∀(as':List A) (us:List Value),RAs h w val (CK ρ as') us↔RAs h w (fun n=>val (ρ n)) as' us
 |[],us=>by simp only[CK,RAs]
 |a::as',us=>by simp only[CK,RAs,NU hup a,CL hup as']
end
theorem HD{h w}{val:Val}{ρ:Nat->Nat}{outs:List (D×Nat)}:∀(ks:List (Nat×D)) (us:List Value) (l:List MapEntry),RKs h w val (outs.map fun x=>(x.1,ρ x.2)) ks us l↔RKs h w (fun n=>val (ρ n)) outs ks us l
 |[],us,l=>Iff.rfl
 |x::ks,us,l=>by
  have hm:∀m,(x.2,m)∈outs.map (fun x=>(x.1,ρ x.2))↔ ∃m0,(x.2,m0)∈outs/\ρ m0=m:=fun m=>by simp only[mm,pe];constructor;rintro⟨y,hy,e1,e2⟩;exact⟨y.2,by rw[<-e1];exact hy,e2⟩;rintro⟨m0,h0,e⟩;exact⟨_,h0,rfl,e⟩
  constructor;rintro⟨u,us',en,l',a,b,c,d,e1,e2,r⟩;exact⟨u,us',en,l',a,b,c,d,fun m h0=>e1 _ ((hm _).2 ⟨m,h0,rfl⟩),fun hn=>e2 fun m h0=>by obtain⟨m0,h1,_⟩:=(hm _).1 h0;exact hn _ h1,(HD ks us' l').1 r⟩;rintro⟨u,us',en,l',a,b,c,d,e1,e2,r⟩;exact⟨u,us',en,l',a,b,c,d,fun m h0=>by obtain⟨m0,h1,rfl⟩:=(hm _).1 h0;exact e1 _ h1,fun hn=>e2 fun m h0=>hn _ ((hm _).2 ⟨m,h0,rfl⟩),(HD ks us' l').2 r⟩
theorem NV{h w}{val:Val}{ρ:Nat->Nat}(hup:∀n,up<=n->ρ n=n)(n:Nat)(b:Bk):RB h w val (ρ n) (b.mapN ρ)↔RB h w (fun n=>val (ρ n)) n b:=by
 cases b with
 |cells cs=>simp only[Bk.mapN,RB,CL hup cs]
 |vals as' us=>simp only[Bk.mapN,RB,CL hup as']
 |mapR g clk ks outs=>simp only[Bk.mapN,RB,HD]
 |_=>simp only[Bk.mapN,RB]
theorem RB.congr{h w}{val val':Val}{n:Nat}{b:Bk}(h1:val' n=val n)(h2:∀m,b.has m=true->val' m=val m)(hr:RB h w val n b):RB h w val' n b:=by
 cases b with
 |cells cs=>
  obtain⟨g,us,t,e,hg,hr,ho,h0⟩:=hr
  exact⟨g,us,t,h1.trans e,hg,RAs.congr cs us h2 hr,ho,h0⟩
 |rows e xss=>obtain⟨us,a,b⟩:=hr;exact⟨us,h1.trans a,b⟩
 |mapR g clk ks outs=>
  obtain⟨b,l,us,e1,hg,hu,hk,rest⟩:=hr
  exact⟨b,l,us,h1.trans e1,hg,(h2 g (by simp[Bk.has])).trans hu,RKs.congr (fun x hx=>h2 _ (by simp only[Bk.has,Bool.or_eq_true,List.any_eq_true,beq_iff_eq];exact .inr ⟨x,hx,rfl⟩)) _ _ _ hk,rest⟩
 |row e k xs=>obtain⟨us,a,b,c⟩:=hr;rw[<-h1]at a c;exact⟨us,a,b,c⟩
 |rw e k xs=>obtain⟨us,a,b,c⟩:=hr;rw[<-h1]at a c;exact⟨us,a,b,c⟩
 |old xs=>simp only[RB]at hr⊢;rw[h1];exact hr
 |vals as' us=>exact RAs.congr as' us h2 hr
 |dead=>trivial
 |buf sl e k xs=>obtain⟨g,us,a,r⟩:=hr;exact⟨g,us,h1.trans a,r⟩
 |fz cs=>obtain⟨g,us,a,r⟩:=hr;exact⟨g,us,h1.trans a,r⟩
 |obj g o=>obtain⟨a,r⟩:=hr;exact⟨h1.trans a,r⟩
 |map clk es=>obtain⟨g,l,a,r⟩:=hr;exact⟨g,l,h1.trans a,r⟩
 |mapS es=>obtain⟨clk,es',⟨g,l,a,r⟩,hp⟩:=hr;exact⟨clk,es',⟨g,l,h1.trans a,r⟩,hp⟩
 |bag e k xs=>obtain⟨xs',us,hp,a,b,c⟩:=hr;rw[<-h1]at a c;exact⟨xs',us,hp,a,b,c⟩
 |mit m clk seen=>obtain⟨r,b,a,c,d⟩:=hr;exact⟨r,b,h1.trans a,(h2 m (by simp[Bk.has])).trans c,d⟩
def Cf(ρ:Nat->Nat)(p:Nat×Bk):Nat×Bk:=(ρ p.1,p.2.mapN ρ)
theorem DV(ρ:Nat->Nat)(val:Val)(X:Bx):AZ val (X.map (Cf ρ))=AZ (fun n=>val (ρ n)) X:=by
 induction X with
 |nil=>rfl
 |cons p X ih=>
  rw[List.map_cons,Am,Am,ih]
  congr 1
  obtain⟨n,b⟩:=p
  unfold CZ Az
  cases b<;>rfl
theorem Bs(ρ:Nat->Nat)(X:Bx):AK (X.map (Cf ρ))=(AK X).map ρ:=by simp only[AK,List.map_map];rfl

theorem Bg{α β}(f:α->β):∀{l:List α},(l.map f).Nodup->l.Nodup
 |[],_=>List.Pairwise.nil
 |a::l,h=>by
  rw[List.map_cons,List.nodup_cons]at h;exact List.nodup_cons.2 ⟨fun ha=>h.1 (mm.2 ⟨a,ha,rfl⟩),Bg f h.2⟩
theorem Cu{α β}{f:α->β}:∀{l:List α},(∀x∈l,∀y∈l,f x=f y->x=y)->l.Nodup->(l.map f).Nodup
 |[],_,_=>List.Pairwise.nil
 |a::l,hi,h=>by
  rw[List.nodup_cons]at h;rw[List.map_cons,List.nodup_cons];refine⟨fun ha=>?_,Cu (fun x hx y hy=>hi x (.tail _ hx) y (.tail _ hy)) h.2⟩;obtain⟨b,hb,e⟩:=mm.1 ha;have:=hi b (.tail _ hb) a (.head _) e;exact h.1 (this▸hb)

theorem AL.frame{P:Program}{f:FuncId}{args:List A}{X X':Bx}{r:A}(hc:AL P f args X r X')(ρ:Nat->Nat)(hup:∀n,up<=n->ρ n=n)(Y:Bx)
 (hinj:∀n∈AK X',∀m∈AK X',ρ n=ρ m->n=m) (hnX:∀n∈AK X',n∉AK X->∀m∈AK X,ρ n≠ρ m) (hnY:∀n∈AK X',ρ n∉AK Y)
 (hnew:∀n∈AK X',n∉AK X->∀p∈Y,p.2.has (ρ n)=false) (hr:∀n,r.has n=true->n∈AK X') (hX':∀p∈X',∀n,p.2.has n=true->n∈AK X'):
 AL P f (CK ρ args) (X.map (Cf ρ)++Y) (r.mapN ρ) (X'.map (Cf ρ)++Y):=by
 intro h w val vs hI hargs
 have hargs':=(CL hup args vs).1 hargs
 have hbks:=hI.bks
 rw[AM,DV]at hbks
 have hnms:=hI.nms
 rw[AI,Bs]at hnms
 obtain⟨b1,b2,b3⟩:=List.nodup_append.1 hbks
 obtain⟨m1,m2,m3⟩:=List.nodup_append.1 hnms
 have hIX:Inv h w (fun n=>val (ρ n)) X:=⟨fun p hp=>(NV hup p.1 p.2).1 (hI.rep (Cf ρ p) (ml _ (mm.2 ⟨p,hp,rfl⟩))),Bg _ m1,b1,(by first|exact H.inv.glob.stays hk.stays|exact H.inv.glob|exact I.glob|exact I.glob.stays k.stays|exact H.inv.glob.stays k.stays|exact hI.glob|exact hInv.glob|exact hI0.glob|exact hIX.glob|exact H'.inv.glob|exact hI.glob.stays hk.stays|exact H1.inv.glob|exact hIR.glob|exact H.glob|exact hI.glob.stays k.stays|exact H.inv.glob.stays n.keep.stays|exact hI.glob.stays n.keep.stays|exact h.inv.glob|exact H2.inv.glob|exact hI'.glob)⟩
 refine(hc h w _ vs hIX hargs').mono fun e w' hh=>?_
 obtain⟨h',val1,u,rfl,hI',hru,hk,hv,hb⟩:=hh
 --the values behind the call
 let val':Val:=fun m=>match (AK X').find? fun n=>ρ n==m with
  |some n=>val1 n
  |none=>val m
 have v1:∀n∈AK X',val' (ρ n)=val1 n:=by
  intro n hn;show(match (AK X').find? fun k=>ρ k==ρ n with|some k=>val1 k|none=>val (ρ n))=val1 n
  cases hf:(AK X').find? (fun k=>ρ k==ρ n)with
  |none=>
   have:=List.find?_eq_none.1 hf n hn
   simp at this
  |some k=>
   have h1:=List.find?_some hf
   have h2:=List.mem_of_find?_eq_some hf
   simp only[beq_iff_eq]at h1
   simp only
   rw[hinj k h2 n hn h1]
 have v2:∀m,(∀n∈AK X',n∉AK X->ρ n≠m)->val' m=val m:=by
  intro m hm;show(match (AK X').find? fun k=>ρ k==m with|some k=>val1 k|none=>val m)=val m
  cases hf:(AK X').find? (fun k=>ρ k==m)with
  |none=>rfl
  |some k=>
   have h1:=List.find?_some hf
   have h2:=List.mem_of_find?_eq_some hf
   simp only[beq_iff_eq]at h1
   simp only
   have hkX:k∈AK X:=Classical.byContradiction fun hk=>hm k h2 hk h1
   rw[hv k fun _=>hkX,h1]
 have hkM:BI (AZ val (X.map (Cf ρ)++Y)) h w h' w':=hk.mono' fun x hx=>.inl (by rw[AM,DV];exact ml _ hx)
 have hY:∀p∈Y,RB h' w' val' p.1 p.2:=by intro p hp;refine RB.congr (val:=val) (v2 _ fun n hn _ e=>hnY n hn (by rw[e];exact mm.2 ⟨p,hp,rfl⟩)) (fun m hm=>v2 _ fun n hn hnn e=>?_) (RB.stays hk.stays (fun g hg=>?_) (hI.rep p (mr _ hp)));have:=hnew n hn hnn p hp;rw[e,hm]at this;cases this;have hgY:g∈AZ val Y:=Inv.blk_mem hp hg;refine hk.far g (hI.blk_lt g (by rw[AM];exact mr _ hgY)) fun hgX=>?_;exact b3 g hgX g hgY rfl
 have hblkX:AZ val' (X'.map (Cf ρ))=AZ val1 X':=by rw[DV];exact BJ fun n hn=>v1 n hn
 have hblkY:AZ val' Y=AZ val Y:=BJ fun m hm=>v2 m fun n hn _ e=>hnY n hn (e▸hm)
 refine⟨h',val',u,rfl,⟨?_,?_,?_,(by first|exact H.inv.glob.stays hk.stays|exact H.inv.glob|exact I.glob|exact I.glob.stays k.stays|exact H.inv.glob.stays k.stays|exact hI.glob|exact hInv.glob|exact hI0.glob|exact hIX.glob|exact H'.inv.glob|exact hI.glob.stays hk.stays|exact H1.inv.glob|exact hIR.glob|exact H.glob|exact hI.glob.stays k.stays|exact H.inv.glob.stays n.keep.stays|exact hI.glob.stays n.keep.stays|exact h.inv.glob|exact H2.inv.glob|exact hI'.glob)⟩,?_,hkM,?_,?_⟩
 intro p hp
 rcases ma.1 hp with hp|hp
 obtain⟨q,hq,rfl⟩:=mm.1 hp
 have hqn:q.1∈AK X':=mm.2 ⟨q,hq,rfl⟩
 exact(NV hup q.1 q.2).2 (RB.congr (v1 _ hqn) (fun m hm=>v1 m (hX' q hq m hm)) (hI'.rep q hq))
 exact hY p hp
 rw[AI,Bs]
 refine List.nodup_append.2 ⟨?_,m2,fun x hx y hy e=>?_⟩
 exact Cu hinj hI'.nms
 obtain⟨n,hn,rfl⟩:=mm.1 hx
 exact hnY n hn (e▸hy)
 rw[AM,hblkX,hblkY]
 refine List.nodup_append.2 ⟨hI'.bks,b2,fun x hx y hy e=>?_⟩
 subst e
 rcases hb x hx with h1|h1
 exact b3 x h1 x hy rfl
 have:=hI.blk_lt x (by rw[AM];exact mr _ hy)
 omega
 exact(NU hup r u).2 (RA.congr r u (fun n hn=>v1 n (hr n hn)) hru)
 intro m hm
 refine v2 m fun n hn hnn e=>?_
 have h1:=hm (by rw[AI,Bs];exact ml _ (mm.2 ⟨n,hn,e⟩))
 rw[AI,Bs]at h1
 rcases ma.1 h1 with h1|h1
 obtain⟨k,hk,e2⟩:=mm.1 h1
 exact hnX n hn hnn k hk (e.trans e2.symm)
 exact hnY n hn (e▸h1)
 intro b hbb
 rw[AM,hblkX,hblkY]at hbb
 rw[AM,DV]
 rcases ma.1 hbb with h1|h1
 rcases hb b h1 with h2|h2
 exact .inl (ml _ h2)
 exact .inr h2
 exact .inl (mr _ h1)
theorem AL.perm{P:Program}{f:FuncId}{args:List A}{X X' Z Z':Bx}{r:A}(hc:AL P f args X r X')(h1:Z.Perm X)(h2:X'.Perm Z'):AL P f args Z r Z':=by
 intro h w val vs hI hargs;refine(hc h w val vs (hI.perm h1) hargs).mono fun e w' hh=>?_;obtain⟨h',val1,u,rfl,hI',hru,hk,hv,hb⟩:=hh;have hbl:∀{x},x∈AZ val X↔x∈AZ val Z:=fun{x}=>((List.Perm.flatMap_right (CZ val) h1).mem_iff).symm;refine⟨h',val1,u,rfl,hI'.perm h2,hru,hk.mono' fun x hx=>.inl (hbl.1 hx),fun n hn=>hv n fun hx=>?_,fun b hb'=>?_⟩;exact((h1.map (·.1)).mem_iff).1 (hn (((h2.map (·.1)).mem_iff).1 hx))
 rcases hb b (((List.Perm.flatMap_right (CZ val1) h2).mem_iff).2 hb')with h|h
 exact .inl (hbl.1 h);exact .inr h
def aG7(B:Bx):Bool:=B.all fun p=>decide (p.1<up)&&match p.2.nms with
 |some l=>l.all fun n=>decide (n<up)
 |none=>false
theorem Kj{B:Bx}(h:aG7 B=true){p:Nat×Bk}(hp:p∈B):p.1<up/\∀n,p.2.has n=true->n<up:=by have:=List.all_eq_true.1 h p hp;simp only[ba,decide_eq_true_eq]at this;refine⟨this.1,fun n hn=>?_⟩;have h2:=this.2;split at h2;rename_i l hl;have:=List.all_eq_true.1 h2 n (Bk.has_nms hl n hn);simpa using this;cases h2
def aCq(E:List A):Bool:=match ND E with
 |some l=>l.all fun n=>decide (n<up)
 |none=>false
theorem R3{E:List A}(h:aCq E=true)(n:Nat)(hn:AQ n E=true):n<up:=by unfold aCq at h;split at h;rename_i l hl;have:=List.all_eq_true.1 h n (B5 E hl n hn);simpa using this;cases h
end Go.Ac
namespace Go.Ac

def rho(l:List (Nat×Nat))(n:Nat):Nat:=if Nat.ble up n then n else match l.find? fun p=>p.1==n with
 |some p=>p.2
 |none=>n
def IA(l:List (Nat×Nat))(n:Nat):Nat:=if Nat.ble up n then n else match l.find? fun p=>p.2==n with
 |some p=>p.1
 |none=>n
theorem aB9{l:List (Nat×Nat)}{n:Nat}(h:up<=n):rho l n=n:=by unfold rho;rw[if_pos (Nat.ble_eq_true_of_le h)]
def XW(B:Bx):Bx:=B.foldr (fun p C=>Ca p.1 p.2 C) []
theorem EO:∀B:Bx,(XW B).Perm B
 |[]=>.refl _
 |p::B=>by
  show(Ca p.1 p.2 (XW B)).Perm _;exact(Bz _ _ _).trans (.cons _ (EO B))
def A6(f:Nat->Bool):List Nat->Bool
 |[]=>true
 |x::l=>f x&&A6 f l
theorem Aq{f:Nat->Bool}:∀{l:List Nat},A6 f l=true->∀x∈l,f x=true
 |[],_,x,hx=>by cases hx
 |y::l,h,x,hx=>by
  simp only[A6,ba]at h;rcases mc.1 hx with rfl|hx
  exact h.1;exact Aq h.2 x hx
def Au(n:Nat):List Nat->Bool
 |[]=>false
 |x::l=>Nat.beq x n||Au n l
theorem Aj{n:Nat}:∀{l:List Nat},Au n l=true↔n∈l
 |[]=>by simp[Au]
 |x::l=>by
  simp only[Au,Bool.or_eq_true,Nat.beq_eq,mc,Aj];constructor;rintro(h|h);exact .inl h.symm;exact .inr h;rintro(h|h);exact .inl h.symm;exact .inr h
theorem BU{n:Nat}{l:List Nat}(h:Au n l=false):n∉l:=fun hn=>by rw[Aj.2 hn]at h;cases h
def VS(l:List Nat)(B:Bx):Bx:=B.filter fun p=>Au p.1 l
def JB(l:List Nat)(B:Bx):Bx:=B.filter fun p=> !Au p.1 l
theorem I4(l:List Nat):∀B:Bx,B.Perm (VS l B++JB l B)
 |[]=>.refl _
 |p::B=>by
  have ih:=I4 l B;unfold VS JB;simp only[List.filter_cons];cases h:Au p.1 l;simp only[Bool.not_false,if_true,Bool.false_eq_true,if_false];exact(ih.cons p).trans (List.perm_middle.symm);simp only[Bool.not_true,if_true,Bool.false_eq_true,if_false,List.cons_append];exact ih.cons p
def VM(a:A)(l:List Nat):Bool:=match a.nms with
 |some x=>A6 (fun n=>Au n l) x
 |none=>false
def G3(as':List A)(l:List Nat):Bool:=match ND as' with
 |some x=>A6 (fun n=>Au n l) x
 |none=>false
def Vq(b:Bk)(l:List Nat):Bool:=match b.nms with
 |some x=>A6 (fun n=>Au n l) x
 |none=>false
theorem ML{a:A}{l:List Nat}(h:VM a l=true)(n:Nat)(hn:a.has n=true):n∈l:=by unfold VM at h;split at h;rename_i x hx;exact Aj.1 (Aq h n (A.has_nms a hx n hn));cases h
theorem RS{b:Bk}{l:List Nat}(h:Vq b l=true)(n:Nat)(hn:b.has n=true):n∈l:=by unfold Vq at h;split at h;rename_i x hx;exact Aj.1 (Aq h n (Bk.has_nms hx n hn));cases h
theorem Bk.mapN_mapN(f g:Nat->Nat)(b:Bk):(b.mapN g).mapN f=b.mapN (fun n=>f (g n)):=by cases b<;>simp[Bk.mapN,Bf]
theorem Bk.mapN_id{b:Bk}{l:List Nat}{ρ:Nat->Nat}(h:b.nms=some l)(hρ:∀n∈l,ρ n=n):b.mapN ρ=b:=by
 cases b with
 |cells cs=>simp only[Bk.mapN];rw[CO cs h hρ]
 |vals as' us=>simp only[Bk.mapN];rw[CO as' h hρ]
 |mit m clk seen=>simp only[Bk.nms,oe]at h;subst h;simp only[Bk.mapN];rw[hρ m (by simp)]
 |mapR g clk ks outs=>
  simp only[Bk.nms,oe]at h;subst h;simp only[Bk.mapN]
  rw[hρ g List.mem_cons_self]
  congr 1
  have:∀x∈outs,(x.1,ρ x.2)=id x:=fun x hx=>by rw[hρ x.2 (List.mem_cons_of_mem _ (mm.2 ⟨x,hx,rfl⟩))];rfl
  exact(List.map_congr_left this).trans (List.map_id _)
 |_=>rfl
theorem SA{as':List A}{l:List Nat}{ρ:Nat->Nat}(h:G3 as' l=true)(hρ:∀n∈l,ρ n=n):CK ρ as'=as':=by unfold G3 at h;split at h;rename_i x hx;exact CO as' hx fun n hn=>hρ n (Aj.1 (Aq h n hn));cases h
theorem R4{ρ:Nat->Nat}{l:List Nat}(hρ:∀n∈l,ρ n=n):∀{B:Bx},(∀p∈B,p.1∈l/\Vq p.2 l=true)->B.map (Cf ρ)=B
 |[],_=>rfl
 |p::B,h=>by
  obtain⟨h1,h2⟩:=h p (.head _);have e:Cf ρ p=p:=by unfold Vq at h2;split at h2;rename_i x hx;show(ρ p.1,p.2.mapN ρ)=p;rw[hρ p.1 h1,Bk.mapN_id hx fun n hn=>hρ n (Aj.1 (Aq h2 n hn))];cases h2
  rw[List.map_cons,e,R4 hρ fun q hq=>h q (.tail _ hq)]

def Df(B:Bx):List (Nat×Nat)->Option Bx
 |[]=>some []
 |p::l=>match lk B p.2,Df B l with
  |some b,some X=>some ((p.2,b)::X)
  |_,_=>none
theorem Ft{B:Bx}:∀{l:List (Nat×Nat)} {X:Bx},Df B l=some X->AK X=l.map (·.2)
 |[],X,h=>by simp only[Df,oe]at h;subst h;rfl
 |p::l,X,h=>by
  simp only[Df]at h;split at h;rename_i b X' h1 h2;simp only[oe]at h;subst h;simp only[AK,List.map_cons];rw[<-Ft h2];rfl;cases h
theorem Fs{B:Bx}:∀{l:List (Nat×Nat)} {X:Bx},Df B l=some X->∀p∈X,p∈B
 |[],X,h,p,hp=>by simp only[Df,oe]at h;subst h;cases hp
 |q::l,X,h,p,hp=>by
  simp only[Df]at h;split at h;rename_i b X' h1 h2;simp only[oe]at h;subst h;rcases mc.1 hp with rfl|hp
  exact Af h1;exact Fs h2 p hp;cases h
theorem G0{B B':Bx}:∀{l:List (Nat×Nat)},(∀p∈l,lk B' p.2=lk B p.2)->Df B' l=Df B l
 |[],_=>rfl
 |p::l,h=>by
  simp only[Df];rw[h p (.head _),G0 fun q hq=>h q (.tail _ hq)]
def Iz:List Nat->Bool
 |[]=>true
 |x::l=> !Au x l&&Iz l
theorem Ct:∀{l:List Nat},Iz l=true->l.Nodup
 |[],_=>List.nodup_nil
 |x::l,h=>by
  simp only[Iz,ba,Bool.not_eq_true']at h;exact List.nodup_cons.2 ⟨BU h.1,Ct h.2⟩
def frs(d:Nat)(s:St):Bool:=decide (d<up)&& !AQ d s.E&& !BL d s.B
def xOk(ρ0 ρ1:List (Nat×Nat))(s:St)(args:List A)(r:A)(X' raw:Bx):Bool:=
 let l:=ρ0.map (·.2)
 let X:=l.map (IA ρ0)
 let ρ:=rho (ρ0++ρ1)
 A6 (fun n=>Nat.beq (ρ (IA ρ0 n)) n) l&&Iz l&&
 G3 args l&&raw.all (fun p=>Vq p.2 l)&&
 (Iz (AK X')&&A6 (fun n=>A6 (fun m=> !Nat.beq (ρ n) (ρ m)||Nat.beq n m) (AK X')) (AK X'))&&
 A6 (fun n=>Au n X||Au (ρ n) (ρ1.map (·.2))) (AK X')&&
 VM r (AK X')&&X'.all (fun p=>Vq p.2 (AK X'))&&A6 (fun n=>frs n s) (ρ1.map (·.2))
def V5(ρ0 ρ1:List (Nat×Nat))(X':Bx)(a:Nat):Bk:=match X'.find? fun q=>Nat.beq (rho (ρ0++ρ1) q.1) a with
 |some q=>q.2.mapN (rho (ρ0++ρ1))
 |none=>.dead
def xEd(ρ0 ρ1:List (Nat×Nat))(X':Bx):List Ed:=ρ0.map (fun p=>.chg p.2 (V5 ρ0 ρ1 X' p.2))++
 (X'.filter fun q=> !Au (rho (ρ0++ρ1) q.1) (ρ0.map (·.2))).map fun p=>.add (rho (ρ0++ρ1) p.1) (p.2.mapN (rho (ρ0++ρ1)))
theorem JH{B:Bx}{n:Nat}{b:Bk}{p:Nat×Bk}:p∈BD B n b↔(p=(n,b)/\n∈AK B)\/(p∈B/\p.1≠n):=by simp only[BD,mm,AK];constructor;rintro⟨q,hq,rfl⟩;by_cases h:q.1=n;left;simp only[h,if_true,true_and];exact⟨q,hq,h⟩;right;simp only[h,if_false];exact⟨hq,h⟩;rintro(⟨rfl,q,hq,e⟩|⟨hp,hne⟩);exact⟨q,hq,by simp[e]⟩;exact⟨p,hp,by simp[hne]⟩
theorem Gr(g:Nat->Bk):∀(l:List (Nat×Nat)) (B:Bx),AK ((l.map fun p=>Ed.chg p.2 (g p.2)).foldl AX B)=AK B
 |[],B=>rfl
 |p::l,B=>by
  simp only[List.map_cons,List.foldl_cons,AX];rw[Gr g l,Ay]
theorem L7(g:Nat->Bk):∀(l:List (Nat×Nat)) (B:Bx) (q:Nat×Bk),q∈(l.map fun p=>Ed.chg p.2 (g p.2)).foldl AX B↔(q∈B/\q.1∉l.map (·.2))\/(q.1∈AK B/\q.1∈l.map (·.2)/\q.2=g q.1)
 |[],B,q=>by simp
 |p::l,B,q=>by
  simp only[List.map_cons,List.foldl_cons,AX];rw[L7 g l,JH,Ay];simp only[mc,not_or];constructor;rintro(⟨⟨rfl,h1⟩|⟨h1,h2⟩,h3⟩|⟨h1,h2,h3⟩);exact .inr ⟨h1,.inl rfl,rfl⟩;exact .inl ⟨h1,h2,h3⟩;exact .inr ⟨h1,.inr h2,h3⟩;rintro(⟨h1,h2,h3⟩|⟨h1,h2,h3⟩);exact .inl ⟨.inr ⟨h1,h2⟩,h3⟩;by_cases h4:q.1∈l.map (·.2)
  exact .inr ⟨h1,h4,h3⟩;rcases h2 with h2|h2
  refine .inl ⟨.inl ⟨?_,h2▸h1⟩,h4⟩;obtain⟨a,b⟩:=q;simp only at h2 h3;rw[h2]at h3⊢;rw[h3];exact absurd h2 h4
theorem IU(ρ:Nat->Nat):∀(X:Bx) (B:Bx),((X.map fun p=>Ed.add (ρ p.1) (p.2.mapN ρ)).foldl AX B).Perm (X.map (Cf ρ)++B)
 |[],B=>.refl _
 |p::X,B=>by
  simp only[List.map_cons,List.foldl_cons,AX,List.cons_append];refine(IU ρ X _).trans ?_;refine((Bz _ _ _).append_left _).trans ?_;exact List.perm_middle
def Ec(ρ0 ρ1:List (Nat×Nat))(X':Bx):Bx:=((ρ0.map (·.2)).filter fun a=> !X'.any fun q=>Nat.beq (rho (ρ0++ρ1) q.1) a).map fun a=>(a,.dead)
theorem Vd{ρ0 ρ1:List (Nat×Nat)}{X':Bx}{s:St}(hB:(AK s.B).Nodup)(hl:(ρ0.map (·.2)).Nodup)(hin:∀a∈ρ0.map (·.2),a∈AK s.B)(hX:(AK (X'.map (Cf (rho (ρ0++ρ1))))).Nodup)
 (hnew:∀q∈X',rho (ρ0++ρ1) q.1∈ρ0.map (·.2)\/rho (ρ0++ρ1) q.1∉AK s.B):
 (s.edit (xEd ρ0 ρ1 X')).B.Perm (X'.map (Cf (rho (ρ0++ρ1)))++(Ec ρ0 ρ1 X'++JB (ρ0.map (·.2)) s.B)):=by
 let ρ:=rho (ρ0++ρ1)
 let im:=ρ0.map (·.2)
 simp only[St.edit,xEd,List.foldl_append]
 refine(IU ρ _ _).trans ?_
 let N:=X'.filter fun q=> !Au (ρ q.1) im
 let C:=(ρ0.map fun p=>Ed.chg p.2 (V5 ρ0 ρ1 X' p.2)).foldl AX s.B
 have hCn:AK C=AK s.B:=Gr (V5 ρ0 ρ1 X') ρ0 s.B
 have hNm:∀q∈N,q∈X'/\ρ q.1∉im:=fun q hq=>by obtain⟨h1,h2⟩:=List.mem_filter.1 hq;simp only[Bool.not_eq_true']at h2;exact⟨h1,BU h2⟩
 have hnN:(AK (N.map (Cf ρ))).Nodup:=hX.sublist ((List.filter_sublist.map _).map _)
 have hL:(N.map (Cf ρ)++C).Nodup:=by
  refine Bg (·.1) ?_
  show(AK (N.map (Cf ρ)++C)).Nodup;rw[AI,hCn];refine List.nodup_append.2 ⟨hnN,hB,fun x hx y hy e=>?_⟩;obtain⟨p,hp,rfl⟩:=mm.1 hx;obtain⟨q,hq,rfl⟩:=mm.1 hp;obtain⟨h1,h2⟩:=hNm q hq;rcases hnew q h1 with h|h
  exact h2 h;exact h (by rw[show rho (ρ0++ρ1) q.1=y from e];exact hy)
 have hD:∀p,p∈Ec ρ0 ρ1 X'↔p.1∈im/\(∀q∈X',ρ q.1≠p.1)/\p.2=.dead:=fun p=>by simp only[Ec,mm,List.mem_filter];constructor;rintro⟨a,⟨h1,h2⟩,rfl⟩;refine⟨mm.2 h1,fun q hq e=>?_,rfl⟩;simp only[Bool.not_eq_true',List.any_eq_false]at h2;exact h2 q hq (by rw[show rho (ρ0++ρ1) q.1=a from e];exact Nat.beq_refl a);rintro⟨h1,h2,h3⟩;refine⟨p.1,⟨mm.1 h1,?_⟩,by obtain⟨a,b⟩:=p;simp only at h3;rw[h3]⟩;simp only[Bool.not_eq_true',List.any_eq_false];intro q hq e;exact h2 q hq (Nat.eq_of_beq_eq_true e)
 have hDn:(AK (Ec ρ0 ρ1 X')).Nodup:=by simp only[AK,Ec,List.map_map];have:((fun p:Nat×Bk=>p.1) ∘ fun a=>(a,Bk.dead))=id:=rfl;rw[this,List.map_id];exact hl.filter _
 have hR:(X'.map (Cf ρ)++(Ec ρ0 ρ1 X'++JB im s.B)).Nodup:=by
  refine Bg (·.1) ?_
  show(AK (X'.map (Cf ρ)++(Ec ρ0 ρ1 X'++JB im s.B))).Nodup;rw[AI,AI];have hrs:∀x∈AK (JB im s.B),x∈AK s.B/\x∉im:=fun x hx=>by obtain⟨p,hp,rfl⟩:=mm.1 hx;obtain⟨h1,h2⟩:=List.mem_filter.1 hp;simp only[Bool.not_eq_true']at h2;exact⟨mm.2 ⟨p,h1,rfl⟩,BU h2⟩
  have hds:∀x∈AK (Ec ρ0 ρ1 X'),x∈im/\∀q∈X',ρ q.1≠x:=fun x hx=>by obtain⟨p,hp,rfl⟩:=mm.1 hx;obtain⟨h1,h2,_⟩:=(hD p).1 hp;exact⟨h1,h2⟩
  refine List.nodup_append.2 ⟨hX,List.nodup_append.2 ⟨hDn,hB.sublist (List.filter_sublist.map _),fun x hx y hy e=>?_⟩,fun x hx y hy e=>?_⟩;exact(hrs y hy).2 (e▸(hds x hx).1);obtain⟨p,hp,rfl⟩:=mm.1 hx;obtain⟨q,hq,rfl⟩:=mm.1 hp;rcases ma.1 hy with hy|hy
  exact(hds y hy).2 q hq e;obtain⟨c1,c2⟩:=hrs y hy;rcases hnew q hq with h|h
  exact c2 (e▸h);exact h (by rw[show rho (ρ0++ρ1) q.1=y from e];exact c1)
 refine(List.perm_ext_iff_of_nodup hL hR).2 fun p=>?_
 have hC:=L7 (V5 ρ0 ρ1 X') ρ0 s.B p
 have hfind:∀q∈X',V5 ρ0 ρ1 X' (ρ q.1)=q.2.mapN ρ:=fun q hq=>by
  unfold V5;cases hf:X'.find? (fun q'=>Nat.beq (rho (ρ0++ρ1) q'.1) (ρ q.1))with
  |none=>
   have:=List.find?_eq_none.1 hf q hq
   exact absurd (Nat.beq_refl _) this
  |some q'=>
   have h1:=List.mem_of_find?_eq_some hf
   have h2':Nat.beq (rho (ρ0++ρ1) q'.1) (ρ q.1)=true:=List.find?_some (p:=fun q':Nat×Bk=>Nat.beq (rho (ρ0++ρ1) q'.1) (ρ q.1)) hf
   have h2:=Nat.eq_of_beq_eq_true h2'
   have h3:Cf ρ q'=Cf ρ q:=by
    have h4:(Cf ρ q').1=(Cf ρ q).1:=h2;have e1:(Cf ρ q')∈X'.map (Cf ρ):=mm.2 ⟨q',h1,rfl⟩;have e2:(Cf ρ q)∈X'.map (Cf ρ):=mm.2 ⟨q,hq,rfl⟩;have h5:Cf ρ q'=((Cf ρ q).1,(Cf ρ q').2):=by rw[<-h4]
    rw[h5]at e1;have e2':((Cf ρ q).1,(Cf ρ q).2)∈X'.map (Cf ρ):=e2;rw[h5,A0 hX e1 e2']
   exact congrArg (·.2) h3
 constructor
 intro hp
 rcases ma.1 hp with hp|hp
 obtain⟨q,hq,rfl⟩:=mm.1 hp
 exact ml _ (mm.2 ⟨q,(hNm q hq).1,rfl⟩)
 rcases hC.1 hp with⟨h1,h2⟩|⟨h1,h2,h3⟩
 refine mr _ (mr _ (List.mem_filter.2 ⟨h1,?_⟩))
 cases hm:Au p.1 im
 rfl
 exact absurd (Aj.1 hm) h2
 by_cases hq:∃q∈X',ρ q.1=p.1
 obtain⟨q,hq,e⟩:=hq
 refine ml _ (mm.2 ⟨q,hq,?_⟩)
 obtain⟨a,b⟩:=p
 simp only at e h3
 show(ρ q.1,q.2.mapN ρ)=(a,b)
 rw[h3,<-e,hfind q hq]
 refine mr _ (ml _ ((hD p).2 ⟨h2,fun q hq' e=>hq ⟨q,hq',e⟩,?_⟩))
 rw[h3]
 unfold V5
 cases hf:X'.find? (fun q'=>Nat.beq (rho (ρ0++ρ1) q'.1) p.1)with
 |none=>rfl
 |some q'=>exact absurd ⟨q',List.mem_of_find?_eq_some hf,Nat.eq_of_beq_eq_true (List.find?_some (p:=fun q':Nat×Bk=>Nat.beq (rho (ρ0++ρ1) q'.1) p.1) hf)⟩ hq
 intro hp
 rcases ma.1 hp with hp|hp
 obtain⟨q,hq,rfl⟩:=mm.1 hp
 by_cases hm:ρ q.1∈im
 exact mr _ (hC.2 (.inr ⟨hin _ hm,hm,(hfind q hq).symm⟩))
 refine ml _ (mm.2 ⟨q,List.mem_filter.2 ⟨hq,?_⟩,rfl⟩)
 cases hmm:Au (ρ q.1) im
 rfl
 exact absurd (Aj.1 hmm) hm
 refine mr _ ?_
 rcases ma.1 hp with hp|hp
 obtain⟨h1,h2,h3⟩:=(hD p).1 hp
 refine hC.2 (.inr ⟨hin _ h1,h1,?_⟩)
 rw[h3]
 unfold V5
 cases hf:X'.find? (fun q'=>Nat.beq (rho (ρ0++ρ1) q'.1) p.1)with
 |none=>rfl
 |some q'=>exact absurd (Nat.eq_of_beq_eq_true (List.find?_some (p:=fun q':Nat×Bk=>Nat.beq (rho (ρ0++ρ1) q'.1) p.1) hf)) (h2 q' (List.mem_of_find?_eq_some hf))
 obtain⟨h1,h2⟩:=List.mem_filter.1 hp
 simp only[Bool.not_eq_true']at h2
 exact hC.2 (.inl ⟨h1,BU h2⟩)
theorem AL.dead{P:Program}{f:FuncId}{args:List A}{X X':Bx}{r:A}(hc:AL P f args X r X')(Dd:Bx)(hd:∀p∈Dd,p.2=.dead/\p.1∈AK X/\p.1∉AK X')(hn:(AK Dd).Nodup):AL P f args X r (X'++Dd):=by
 intro h w val vs hI hargs;refine(hc h w val vs hI hargs).mono fun e w' hh=>?_;obtain⟨h',val',u,rfl,hI',hru,hk,hv,hb⟩:=hh;have hbl:AZ val' (X'++Dd)=AZ val' X':=by
  rw[AM];have:AZ val' Dd=[]:=by refine List.flatMap_eq_nil_iff.2 fun p hp=>?_;obtain⟨n,b⟩:=p;have:=(hd _ hp).1;simp only at this;subst this;rfl
  rw[this,List.append_nil]
 refine⟨h',val',u,rfl,⟨fun p hp=>?_,?_,?_,(by first|exact H.inv.glob.stays hk.stays|exact H.inv.glob|exact I.glob|exact I.glob.stays k.stays|exact H.inv.glob.stays k.stays|exact hI.glob|exact hInv.glob|exact hI0.glob|exact hIX.glob|exact H'.inv.glob|exact hI.glob.stays hk.stays|exact H1.inv.glob|exact hIR.glob|exact H.glob|exact hI.glob.stays k.stays|exact H.inv.glob.stays n.keep.stays|exact hI.glob.stays n.keep.stays|exact h.inv.glob|exact H2.inv.glob|exact hI'.glob)⟩,hru,hk,fun n hn=>hv n fun hx=>hn (by rw[AI];exact ml _ hx),by rw[hbl];exact hb⟩
 rcases ma.1 hp with hp|hp
 exact hI'.rep p hp;rw[(hd p hp).1];trivial;rw[AI];refine List.nodup_append.2 ⟨hI'.nms,hn,fun x hx y hy e=>?_⟩;obtain⟨p,hp,rfl⟩:=mm.1 hy;exact(hd p hp).2.2 (e▸hx);rw[hbl];exact hI'.bks
def Gp(P:Program)(o:Oper)(s:St)(wt:W):Option (Ob×A×List Ed):=
 match o.op with
 | .call c=>match c.callee with
  | .value g=>match CN (s.ev g),wt with
   |some (f,fs,cs),.cx bb ρ0 ρ1 r X'=>match Df s.B ρ0 with
    |some raw=>
     if XJ P f&&xOk ρ0 ρ1 s (fs++c.args.toList.map (fun x=>if bb=true then s.ev x else s.look (s.ev x))++cs) r X' raw then
      some (.call f (CK (IA ρ0) (fs++c.args.toList.map (fun x=>if bb=true then s.ev x else s.look (s.ev x))++cs)) (raw.map (Cf (IA ρ0))) r X',r.mapN (rho (ρ0++ρ1)),xEd ρ0 ρ1 X')else none
    |none=>none
   |_,_=>none
  |_=>none
 |_=>none
theorem VU{l:List Nat}{B raw:Bx}(hB:(AK B).Nodup)(hl:l.Nodup)(hr:AK raw=l)(hm:∀p∈raw,p∈B):(VS l B).Perm raw:=by
 have hBn:B.Nodup:=Bg _ hB;have hrn:raw.Nodup:=Bg (·.1) (by rw[<-hr]at hl;exact hl)
 refine(List.perm_ext_iff_of_nodup (hBn.filter _) hrn).2 fun p=>?_;constructor;intro hp;obtain⟨h1,h2⟩:=List.mem_filter.1 hp;have h3:=Aj.1 h2;rw[<-hr]at h3;obtain⟨q,hq,e⟩:=mm.1 h3;obtain⟨n,b⟩:=p;obtain⟨n',b'⟩:=q;simp only at e;subst e;rw[A0 hB h1 (hm _ hq)];exact hq;intro hp;refine List.mem_filter.2 ⟨hm p hp,Aj.2 ?_⟩;rw[<-hr];exact mm.2 ⟨p,hp,rfl⟩
theorem Fb{n:Nat}{B:Bx}(h:BL n B=false):n∉AK B:=fun hn=>by obtain⟨p,hp,e⟩:=mm.1 hn;exact(BK h p hp).1 e
theorem Vf{P:Program}{f:FuncId}{ρ0 ρ1:List (Nat×Nat)}{s:St}{args:List A}{r:A}{X' raw:Bx}(hok:xOk ρ0 ρ1 s args r X' raw=true)(hraw:Df s.B ρ0=some raw)(hF:Far s.F)(hn:(AK s.all).Nodup)
 (hc:AL P f (CK (IA ρ0) args) (raw.map (Cf (IA ρ0))) r X'):
 AL P f args (s.B++s.F) (r.mapN (rho (ρ0++ρ1))) ((s.edit (xEd ρ0 ρ1 X')).B++s.F)/\∀p∈(s.edit (xEd ρ0 ρ1 X')).B,p.1∈AK s.B\/(p.1<up/\AQ p.1 s.E=false):=by
 simp only[xOk,ba]at hok
 obtain⟨⟨⟨⟨⟨⟨⟨⟨k1,k2⟩,k3⟩,k4⟩,k5⟩,k6⟩,k7⟩,k8⟩,k9⟩:=hok
 let im:=ρ0.map (·.2)
 let ρ:=rho (ρ0++ρ1)
 have hrn:AK raw=im:=Ft hraw
 have hnB:(AK s.B).Nodup:=by have:=hn;unfold St.all at this;rw[AI]at this;exact(List.nodup_append.1 this).1
 have hround:∀n∈im,(fun n=>ρ (IA ρ0 n)) n=n:=fun n hn=>by simpa using Aq k1 n hn
 have hpick:∀p∈raw,p.1∈im/\Vq p.2 im=true:=fun p hp=>⟨by rw[<-hrn];exact mm.2 ⟨p,hp,rfl⟩,(List.all_eq_true.1 k4) p hp⟩
 have hargs:CK ρ (CK (IA ρ0) args)=args:=by rw[Bf];exact SA k3 hround
 have hXmap:(raw.map (Cf (IA ρ0))).map (Cf ρ)=raw:=by
  rw[List.map_map];have:(Cf ρ ∘ Cf (IA ρ0))=Cf (fun n=>ρ (IA ρ0 n)):=by funext p;show(ρ (IA ρ0 p.1),(p.2.mapN (IA ρ0)).mapN ρ)=(ρ (IA ρ0 p.1),p.2.mapN fun n=>ρ (IA ρ0 n));rw[Bk.mapN_mapN]
  rw[this];exact R4 hround hpick
 have hnX:∀n,n∈AK (raw.map (Cf (IA ρ0)))↔n∈im.map (IA ρ0):=fun n=>by rw[Bs,hrn]
 have hinB:∀m∈im,m∈AK s.B:=fun m hm=>by rw[<-hrn]at hm;obtain⟨p,hp,e⟩:=mm.1 hm;exact mm.2 ⟨p,Fs hraw p hp,e⟩
 have hX:∀n∈im.map (IA ρ0),ρ n∈im:=fun n hn=>by obtain⟨m,hm,rfl⟩:=mm.1 hn;have:=hround m hm;simp only at this;rw[this];exact hm
 have h4:∀n∈AK X',∀m∈AK X',ρ n=ρ m->n=m:=fun n hn m hm e=>by
  have:=Aq (Aq k5.2 n hn) m hm;simp only[Bool.or_eq_true,Bool.not_eq_true',Nat.beq_eq]at this;rcases this with h|h
  rw[show rho (ρ0++ρ1) n=rho (ρ0++ρ1) m from e]at h;rw[Nat.beq_refl]at h;cases h;exact h
 have h6:∀n∈AK X',n∈im.map (IA ρ0)\/(ρ n<up/\AQ (ρ n) s.E=false/\BL (ρ n) s.B=false):=fun n hn=>by
  have:=Aq k6 n hn;simp only[Bool.or_eq_true]at this;rcases this with h|h
  exact .inl (Aj.1 h);right;have h9:=Aq k9 _ (Aj.1 h);simp only[frs,ba,decide_eq_true_eq,Bool.not_eq_true']at h9;exact⟨h9.1.1,h9.1.2,h9.2⟩
 have hrest:∀p∈JB im s.B,p∈s.B/\p.1∉im:=fun p hp=>by obtain⟨h1,h2⟩:=List.mem_filter.1 hp;simp only[Bool.not_eq_true']at h2;exact⟨h1,BU h2⟩
 have hfr:=hc.frame ρ (fun n h=>aB9 h) (JB im s.B++s.F) h4
  (fun n hn hne m hm e=>by
   rcases h6 n hn with h|⟨_,_,h⟩
   exact hne ((hnX n).2 h);exact Fb h (by rw[e];exact hinB _ (hX m ((hnX m).1 hm))))
  (fun n hn'=>by
   rw[AI,ma];rcases h6 n hn' with h|⟨h1,h2,h3⟩
   have hin:=hX n h;rintro(hh|hh);obtain⟨p,hp,e⟩:=mm.1 hh;exact(hrest p hp).2 (e▸hin);have:=hn;unfold St.all at this;rw[AI]at this;exact(List.nodup_append.1 this).2.2 _ (hinB _ hin) _ hh rfl;rintro(hh|hh);obtain⟨p,hp,e⟩:=mm.1 hh;exact(BK h3 p (hrest p hp).1).1 e;obtain⟨p,hp,e⟩:=mm.1 hh;exact(hF _ (.inl h1) p hp).1 e)
  (fun n hn hne p hp=>by
   rcases h6 n hn with h|⟨h1,h2,h3⟩
   exact absurd ((hnX n).2 h) hne;rcases ma.1 hp with hp|hp
   exact(BK h3 p (hrest p hp).1).2;exact(hF _ (.inl h1) p hp).2)
  (fun n hn=>ML k7 n hn) (fun p hp n hn=>RS ((List.all_eq_true.1 k8) p hp) n hn)
 rw[hargs,hXmap]at hfr
 have hXn:(AK (X'.map (Cf ρ))).Nodup:=by rw[Bs];exact Cu h4 (Ct k5.1)
 have hnew:∀q∈X',ρ q.1∈im\/ρ q.1∉AK s.B:=fun q hq=>by
  rcases h6 q.1 (mm.2 ⟨q,hq,rfl⟩)with h|⟨_,_,h⟩
  exact .inl (hX _ h);exact .inr (Fb h)
 have hperm:=Vd hnB (Ct k2) hinB hXn hnew
 have hfr2:=hfr.dead (Ec ρ0 ρ1 X') (fun p hp=>by
  simp only[Ec,mm,List.mem_filter]at hp;obtain⟨a,⟨h1,h2⟩,rfl⟩:=hp;have ha:a∈im:=mm.2 h1;refine⟨rfl,?_,fun hh=>?_⟩;rw[AI];exact ml _ (by rw[hrn];exact ha);rw[AI,AI]at hh;rcases ma.1 hh with hh|hh
  rw[Bs]at hh;obtain⟨n,hn',e⟩:=mm.1 hh;obtain⟨q,hq,rfl⟩:=mm.1 hn';simp only[Bool.not_eq_true',List.any_eq_false]at h2;exact h2 q hq (by rw[show rho (ρ0++ρ1) q.1=a from e];exact Nat.beq_refl a);rcases ma.1 hh with hh|hh
  obtain⟨p,hp,e⟩:=mm.1 hh;exact(hrest p hp).2 (e▸ha);have:=hn;unfold St.all at this;rw[AI]at this;exact(List.nodup_append.1 this).2.2 _ (hinB _ ha) _ hh rfl) (by
  simp only[AK,Ec,List.map_map];have:((fun p:Nat×Bk=>p.1) ∘ fun a=>(a,Bk.dead))=id:=rfl;rw[this,List.map_id];exact(Ct k2).filter _)
 refine⟨hfr2.perm ?_ ?_,fun p hp=>?_⟩
 rw[<-List.append_assoc]
 exact((I4 im s.B).trans ((VU hnB (Ct k2) hrn (Fs hraw)).append_right _)).append_right _
 refine List.Perm.trans ?_ (hperm.symm.append_right s.F)
 simp only[List.append_assoc]
 refine List.Perm.append_left _ ?_
 rw[<-List.append_assoc]
 exact List.perm_append_comm
 rcases ma.1 (hperm.mem_iff.1 hp)with hp|hp
 obtain⟨q,hq,rfl⟩:=mm.1 hp
 have hqn:q.1∈AK X':=mm.2 ⟨q,hq,rfl⟩
 rcases h6 q.1 hqn with h|⟨h1,h2,h3⟩
 exact .inl (hinB _ (hX _ h))
 exact .inr ⟨h1,h2⟩
 rcases ma.1 hp with hp|hp
 simp only[Ec,mm,List.mem_filter]at hp
 obtain⟨a,⟨h1,h2⟩,rfl⟩:=hp
 exact .inl (hinB _ (mm.2 h1))
 exact .inl (mm.2 ⟨p,(hrest p hp).1,rfl⟩)
theorem QX{P:Program}{o:Oper}{s:St}{wt:W}{L:Lp}{Φ:Ob}{r:A}{es:List Ed}(he:Gp P o s wt=some (Φ,r,es)):Dw P o s (Φ.ok P L) r (s.edit es):=by
 intro hΦ h w val a H K Q hK;unfold Gp at he;split at he;rename_i c ho;obtain⟨callee,args,argTypes⟩:=c;simp only at he;split at he;rename_i g;split at he;rename_i f fs cs bb ρ0 ρ1 r' X' hg;split at he;rename_i raw hraw;obtain⟨ff,hff⟩:∃ff:Operand->A,ff=fun x=>if bb=true then s.ev x else s.look (s.ev x):=⟨_,rfl⟩
 rw[<-hff]at he;split at he;rename_i hb;simp only[ba]at hb;obtain⟨hf,hok⟩:=hb;simp only[oe,pe]at he;obtain⟨rfl,rfl,rfl⟩:=he;subst hff;simp only[Ob.ok]at hΦ;obtain⟨hc,hfree⟩:=Vf hok hraw H.far H.inv.nms hΦ;have heo:IS P o s (.own bb (r'.mapN (rho (ρ0++ρ1))) (s.edit (xEd ρ0 ρ1 X')).B s.F)=
  some (.both (.call f (fs++args.toList.map (fun x=>if bb=true then s.ev x else s.look (s.ev x))++cs) (s.B++s.F) (r'.mapN (rho (ρ0++ρ1))) ((s.edit (xEd ρ0 ρ1 X')).B++s.F)) (.frame s.F s.F),r'.mapN (rho (ρ0++ρ1)),
   {s with B:=(s.edit (xEd ρ0 ρ1 X')).B,F:=s.F}):=by
  unfold IS
  rw[ho]
  simp only[hg]
  rw[if_pos]
  simp only[ba]
  refine⟨hf,List.all_eq_true.2 fun p hp=>?_⟩
  simp only[Bool.or_eq_true,ba,decide_eq_true_eq,Bool.not_eq_true',List.contains_iff_mem]
  exact hfree p hp
 refine IT (L:=L) heo ?_ h w val a H K Q hK;simp only[Ob.ok];exact⟨by simpa using hc,by simp⟩;cases he;cases he;cases he;cases he;cases he
end Go.Ac
namespace Go.Ac
mutual
def D.scal:D->Bool
 | .v _=>true
 | .agg cs=>VX cs
 | .sl _=>false
 | .ptr _=>false
def VX:List D->Bool
 |[]=>true
 |x::l=>x.scal&&VX l
end
mutual
theorem RD.scal{h w h' w'}:∀(x:D) (u:Value),x.scal=true->RD h w x u->RD h' w' x u
 | .v x,u,_,hr=>by simpa only[RD]using hr
 | .agg cs,u,hs,hr=>by
  simp only[D.scal]at hs;simp only[RD]at hr⊢;obtain⟨us,e,hr⟩:=hr;exact⟨us,e,RDs.scal cs us hs hr⟩
 | .sl xs,u,hs,hr=>by simp[D.scal]at hs
 | .ptr xs,u,hs,hr=>by simp[D.scal]at hs
theorem RDs.scal{h w h' w'}:∀(cs:List D) (us:List Value),VX cs=true->RDs h w cs us->RDs h' w' cs us
 |[],us,_,hr=>by simpa only[RDs]using hr
 |c::cs,us,hs,hr=>by
  simp only[VX,ba]at hs;simp only[RDs]at hr⊢;obtain⟨u,us',e,h1,h1',h2⟩:=hr;exact⟨u,us',e,RD.scal c u hs.1 h1,h1',RDs.scal cs us' hs.2 h2⟩
end
def MU:List A->Bool
 |[]=>true
 | .d x::l=>x.scal&&MU l
 |_::_=>false
def A.scal:A->Bool
 | .d x=>x.scal
 | .tup vs=>MU vs
 | .any=>true
 |_=>false
theorem RAs.scal{h w h' w'}{val val':Val}:∀(as':List A) (us:List Value),MU as'=true->RAs h w val as' us->RAs h' w' val' as' us
 |[],us,_,hr=>by simpa only[RAs]using hr
 | .d x::l,us,hs,hr=>by
  simp only[MU,ba]at hs;simp only[RAs,RA]at hr⊢;obtain⟨u,us',e,h1,h2⟩:=hr;exact⟨u,us',e,RD.scal x u hs.1 h1,RAs.scal l us' hs.2 h2⟩
theorem RA.scal{h w h' w'}{val val':Val}{a:A}{u:Value}(hs:a.scal=true)(hr:RA h w val a u):RA h' w' val' a u:=by
 cases a with
 |d x=>simp only[RA]at hr⊢;exact RD.scal x u hs hr
 |tup vs=>
  simp only[RA]at hr⊢
  obtain⟨us,e,h1⟩:=hr
  exact⟨us,e,RAs.scal vs us hs h1⟩
 |any=>simp[RA]
 |_=>simp[A.scal]at hs

theorem RW{w:World}{g j:Nat}{v:Value}(h:w.cell? ⟨g,j,none⟩=some v):∃c t f,w.heap[g]? =some (.cells c t f)/\j<c.size:=by unfold World.cell? at h;split at h;rename_i c t f hg;simp only[Option.isSome_none,Bool.false_eq_true,if_false]at h;exact⟨c,t,f,hg,(Array.getElem?_eq_some_iff.1 h).1⟩;cases h
def KU(w:World)(b:Nat):Nat:=match w.heap[b]? with
 |some (.cells c _ _)=>c.size
 |_=>0
theorem IX{w:World}{g j:Nat}{v:Value}(h:w.cell? ⟨g,j,none⟩=some v):j<KU w g:=by obtain⟨c,t,f,hg,hj⟩:=RW h;unfold KU;rw[hg];exact hj
theorem VN{h:Hw}{w:World}{e:TypeId}{k:Nat}{v:Value}{xs:List D}{us:List Value}(hown:w.ownsRow 0 e k v xs.length us)(hrow:Ad h w k xs us)
 (hh:∀g,v.ownBlock=some g->∀j x,w.cell? ⟨g,j,none⟩=some x->j<h g):RD h w (.sl xs) v:=by
 simp only[RD]
 rcases hown.2 with⟨hv,hn⟩|⟨g,cap,cur,hv,_,hg,hnc,hcm,hcs,htake⟩
 have hx:xs=[]:=List.eq_nil_of_length_eq_zero hn
 subst hx
 rw[hv]
 exact⟨none,0,k,us,by simp,by simp,by simp[maxLen],hrow,by simp⟩
 refine⟨some ⟨g,0,none⟩,cap,k,us,hv,hnc,hcm,hrow,fun h0=>⟨_,rfl,fun j x hj=>?_⟩⟩
 have hb:v.ownBlock=some g:=by rw[hv];rfl
 have hc:=hown.cells hb j x hj
 refine⟨hc,?_⟩
 rw[Addr.add_lit]at hc
 exact hh g hb _ x hc
theorem RB.buf_rw{h:Hw}{w:World}{val:Val}{n:Nat}{e:TypeId}{k:Nat}{xs:List D}(hr:RB h w val n (.buf true e k xs)):RB h w val n (.rw e k xs):=by obtain⟨g,us,hv,hm,hg,hrow,h0⟩:=hr;simp only[if_true]at hv;have hlen:=Ad.length hrow;refine⟨us,⟨hlen,.inr ⟨g,xs.length,⟨us⟩,hv,Nat.zero_le _,hg,Nat.le_refl _,hm,by simpa using hlen,?_⟩⟩,hrow,fun g' hg'=>?_⟩;rw[<-hlen];simp;simp only[hv,Value.ownBlock,oe]at hg';subst hg';exact h0

def DL(s:St)(ns:List Nat)(n:Nat):Option D:=
 if Au n ns then match lk s.B n with
  |some (.rw _ _ xs)=>some (.sl xs)
  |some (.buf true _ _ xs)=>some (.sl xs)
  |_=>none
 else none
def CT(s:St)(ns:List Nat)(bx:Nat->Option D):List A->Option (List D)
 |[]=>some []
 | .d x::l=>(CT s ns bx l).map fun ds=>x::ds
 | .nil::l=>(CT s ns bx l).map fun ds=>.sl []::ds
 | .row n::l=>match DL s ns n with
  |some x=>(CT s ns bx l).map fun ds=>x::ds
  |none=>match s.look (.row n)with
   | .d x=>(CT s ns bx l).map fun ds=>x::ds
   |_=>none
 | .clo f [] []::l=>(CT s ns bx l).map fun ds=>.v (.func f #[] #[])::ds
 | .box n off::l=>if Nat.beq off 0 then match bx n with
  |some x=>(CT s ns bx l).map fun ds=>x::ds
  |none=>none
  else none
 | .eptr cs::l=>(CT s ns bx l).map fun ds=>.ptr cs::ds
 |_::_=>none
def Hz(s:St)(ns:List Nat):Nat->Nat->Option (List D)
 |0,_=>none
 |k+1,n=>if Au n ns then match lk s.B n with
  |some (.cells cs)=>CT s ns (fun m=>(Hz s ns k m).map .ptr) cs
  |_=>none
  else none
mutual
def Bm(s:St)(ns:List Nat):A->A
 | .row n=>match DL s ns n with
  |some x=>.d x
  |none=>.row n
 | .box n off=>if Nat.beq off 0 then match Hz s ns 4 n with
  |some ds=>.eptr ds
  |_=>.box n off
  else .box n off
 | .clo f a b=>.clo f (Cd s ns a) (Cd s ns b)
 |x=>x
def Cd(s:St)(ns:List Nat):List A->List A
 |[]=> []
 |a::l=>Bm s ns a::Cd s ns l
end
def Gm(P:Program)(o:Oper)(s:St)(wt:W):Option (Ob×A):=
 match o.op with
 | .call c=>match c.callee with
  | .value g=>match CN (s.ev g),wt with
   |some (f,fs,cs),.lend ns r=>
    if XJ P f&&GD (Cd s ns (fs++c.args.toList.map (fun x=>s.look (s.ev x))++cs))&&r.scal then
     some (.call f (Cd s ns (fs++c.args.toList.map (fun x=>s.look (s.ev x))++cs)) [] r [],r)else none
   |_,_=>none
  |_=>none
 |_=>none

def Fr(val:Val)(s:St)(ns:List Nat):List Nat:=AZ val (VS ns s.B)
def De(h:Hw)(w:World)(L:List Nat):Hw:=fun b=>if Au b L then max (h b) (KU w b)else h b
theorem MF(h:Hw)(w:World)(L:List Nat)(b:Nat):h b<=De h w L b:=by unfold De;split;exact Nat.le_max_left _ _;exact Nat.le_refl _
theorem Ai(h:Hw)(w:World)(L:List Nat):DR h w (De h w L) w:=⟨fun _ _ _ _ hc=>hc,fun b _=>MF h w L b⟩
theorem ME{h:Hw}{w:World}{L:List Nat}{b:Nat}(hb:b∈L){j:Nat}{x:Value}(hc:w.cell? ⟨b,j,none⟩=some x):j<De h w L b:=by unfold De;rw[if_pos (Aj.2 hb)];exact Nat.lt_of_lt_of_le (IX hc) (Nat.le_max_right _ _)
theorem Rz{val:Val}{s:St}{ns:List Nat}{n:Nat}{bk:Bk}{g:Nat}(hn:Au n ns=true)(hl:lk s.B n=some bk)(ho:bk.isOld=false)(hv:BN (val n)=some g):g∈Fr val s ns:=
 Inv.blk_mem (p:=(n,bk)) (List.mem_filter.2 ⟨Af hl,hn⟩) (Ak hv ho)
section
variable {s:St} {h:Hw} {w:World} {val:Val} {ns:List Nat}
theorem Gz(I:Inv h w val s.all){n:Nat}{x:D}(he:DL s ns n=some x):RD (De h w (Fr val s ns)) w x (val n):=by
 have key:∀e k xs,(∃bk,lk s.B n=some bk/\bk.isOld=false)->Au n ns=true->RB h w val n (.rw e k xs)->RD (De h w (Fr val s ns)) w (.sl xs) (val n):=by intro e k xs ⟨bk,hl,ho⟩ hn hr;obtain⟨us,hown,hrow,_⟩:=hr;exact VN hown (Ad.stays (Ai h w _) _ _ _ hrow) fun g hg j x hc=>ME (Rz hn hl ho (Be hg)) hc
 unfold DL at he;split at he;rename_i hn;split at he;rename_i e k xs hl;simp only[oe]at he;subst he;exact key e k xs ⟨_,hl,rfl⟩ hn (I.rep _ (ml _ (Af hl)));rename_i e k xs hl;simp only[oe]at he;subst he;exact key e k xs ⟨_,hl,rfl⟩ hn (RB.buf_rw (I.rep _ (ml _ (Af hl))));cases he;cases he
theorem MD{a:Act}(H:AR s h w val a){bx:Nat->Option D}(hbx:∀m x,bx m=some x->RD (De h w (Fr val s ns)) w x (val m)):∀(cs:List A) (ds:List D) (us:List Value),CT s ns bx cs=some ds->RAs h w val cs us->(∀u∈us,u.oneCell'=true)->RDs (De h w (Fr val s ns)) w ds us
 |[],ds,us,he,hr,_=>by
  simp only[CT,oe]at he;subst he;simpa only[RAs,RDs]using hr
 |c::cs,ds,us,he,hr,h1=>by
  simp only[RAs]at hr;obtain⟨u,us',rfl,hc,hcs⟩:=hr;have hu1:=h1 u (.head _);have ih:=fun ds he=>MD H hbx cs ds us' he hcs fun v hv=>h1 v (.tail _ hv);have st:=Ai h w (Fr val s ns);unfold CT at he;split at he;rename_i e;cases e;rename_i x l e;obtain⟨rfl,rfl⟩:=List.cons.inj e;simp only[om]at he;obtain⟨ds',h2,rfl⟩:=he;simp only[RA]at hc;simp only[RDs];exact⟨u,us',rfl,RD.stays st _ _ hc,hu1,ih _ h2⟩;rename_i l e;obtain⟨rfl,rfl⟩:=List.cons.inj e;simp only[om]at he;obtain⟨ds',h2,rfl⟩:=he;simp only[RA]at hc;subst hc;simp only[RDs];exact⟨_,us',rfl,GQ _ _,hu1,ih _ h2⟩;rename_i n l e;obtain⟨rfl,rfl⟩:=List.cons.inj e;split at he;rename_i x hx;simp only[om]at he;obtain⟨ds',h2,rfl⟩:=he;simp only[RA]at hc;simp only[RDs];refine⟨u,us',rfl,?_,hu1,ih _ h2⟩;rw[hc.1];exact Gz H.inv hx;split at he;rename_i x hx;simp only[om]at he;obtain⟨ds',h2,rfl⟩:=he;have:=H.look hc;rw[hx]at this;simp only[RA]at this;simp only[RDs];exact⟨u,us',rfl,RD.stays st _ _ this,hu1,ih _ h2⟩;cases he;rename_i f l e;obtain⟨rfl,rfl⟩:=List.cons.inj e;simp only[om]at he;obtain⟨ds',h2,rfl⟩:=he;simp only[RA,RAs]at hc;obtain⟨fs,cs2,e2,e3,e4⟩:=hc;subst e3;subst e4;simp only[RDs,RD];exact⟨u,us',rfl,⟨e2,by rw[<-e2];exact hu1⟩,hu1,ih _ h2⟩;rename_i n off l e;obtain⟨rfl,rfl⟩:=List.cons.inj e;split at he;rename_i hoff;simp only[Nat.beq_eq]at hoff;subst hoff;split at he;rename_i x hx;simp only[om]at he;obtain⟨ds',h2,rfl⟩:=he;simp only[RA]at hc;obtain⟨b,e1,e2⟩:=hc;simp only[RDs];refine⟨u,us',rfl,?_,hu1,ih _ h2⟩;rw[e2,<-e1];exact hbx _ _ hx;cases he;cases he;rename_i cs0 l e;obtain⟨rfl,rfl⟩:=List.cons.inj e;simp only[om]at he;obtain⟨ds',h2,rfl⟩:=he;simp only[RDs];refine⟨u,us',rfl,RD.stays st _ _ ?_,hu1,ih _ h2⟩;simpa only[RA,RD]using hc;cases he
theorem MC{a:Act}(H:AR s h w val a):∀(k n:Nat) (ds:List D),Hz s ns k n=some ds->∃b us,val n=.pointer (some ⟨b,0,none⟩)/\RDs (De h w (Fr val s ns)) w ds us/\
 ∀j v,us[j]? =some v->w.cell? ((⟨b,0,none⟩:Addr).add j)=some v/\(⟨b,0,none⟩:Addr).off+j<De h w (Fr val s ns) b
 |0,n,ds,he=>by simp[Hz]at he
 |k+1,n,ds,he=>by
  simp only[Hz]at he;split at he;rename_i hn;split at he;rename_i cs hl;obtain⟨g,us,t,e,hg,hcs,h1,h0⟩:=H.inv.rep (n,.cells cs) (ml _ (Af hl));refine⟨g,us,e,MD H (bx:=fun m=>(Hz s ns k m).map .ptr) (fun m x hx=>?_) cs ds us he hcs h1,fun j v hj=>?_⟩;simp only[om]at hx;obtain⟨ds',hd,rfl⟩:=hx;obtain⟨b,us',e1,e2,e3⟩:=MC H k m ds' hd;simp only[RD];exact⟨_,us',e1,e2,e3⟩;have hc:w.cell? ((⟨g,0,none⟩:Addr).add j)=some v:=by rw[Addr.add_lit,Nat.zero_add,cell_of_row w g j ⟨us⟩ t (0,0) hg];simpa using hj
  refine⟨hc,?_⟩;rw[Addr.add_lit]at hc;exact ME (Rz hn hl rfl (by rw[e];rfl)) hc;cases he;cases he
mutual
theorem VJ{a:Act}(H:AR s h w val a):∀(x:A) (u:Value),RA h w val x u->RA (De h w (Fr val s ns)) w val (Bm s ns x) u
 | .row n,u,hr=>by
  unfold Bm;split;rename_i x hx;simp only[RA]at hr⊢;rw[hr.1];exact Gz H.inv hx;exact RA.stays (Ai h w _) _ _ _ hr
 | .box n off,u,hr=>by
  unfold Bm;split;rename_i hoff;simp only[Nat.beq_eq]at hoff;subst hoff;split;rename_i ds hd;obtain⟨b,us,e1,e2,e3⟩:=MC H _ n ds hd;simp only[RA]at hr⊢;obtain⟨b',e4,e5⟩:=hr;rw[e1]at e4;cases e4;exact⟨_,us,e5,e2,e3⟩;exact RA.stays (Ai h w _) _ _ _ hr;exact RA.stays (Ai h w _) _ _ _ hr
 | .clo f fs cs,u,hr=>by
  simp only[Bm,RA]at hr⊢;obtain⟨x,y,e,h1,h2⟩:=hr;exact⟨x,y,e,Dc H fs x h1,Dc H cs y h2⟩
 | .d x,u,hr=>by simpa only[Bm]using RA.stays (Ai h w _) _ _ _ hr
 | .bsl n o l,u,hr=>by simpa only[Bm]using RA.stays (Ai h w _) _ _ _ hr
 | .ep n k i o,u,hr=>by simpa only[Bm]using RA.stays (Ai h w _) _ _ _ hr
 | .ub,u,hr=>by simpa only[Bm]using RA.stays (Ai h w _) _ _ _ hr
 | .eptr cs,u,hr=>by simpa only[Bm]using RA.stays (Ai h w _) _ _ _ hr
 | .agg cs,u,hr=>by simpa only[Bm]using RA.stays (Ai h w _) _ _ _ hr
 | .tup cs,u,hr=>by simpa only[Bm]using RA.stays (Ai h w _) _ _ _ hr
 | .opq x,u,hr=>by simpa only[Bm]using RA.stays (Ai h w _) _ _ _ hr
 | .nil,u,hr=>by simpa only[Bm]using RA.stays (Ai h w _) _ _ _ hr
 | .any,u,hr=>by simpa only[Bm]using RA.stays (Ai h w _) _ _ _ hr
theorem Dc{a:Act}(H:AR s h w val a):∀(xs:List A) (us:List Value),RAs h w val xs us->RAs (De h w (Fr val s ns)) w val (Cd s ns xs) us
 |[],us,hr=>by simpa only[Cd,RAs]using hr
 |x::xs,us,hr=>by
  simp only[Cd,RAs]at hr⊢;obtain⟨u,us',e,h1,h2⟩:=hr;exact⟨u,us',e,VJ H x u h1,Dc H xs us' h2⟩
end
end
theorem QV{P:Program}{o:Oper}{s:St}{wt:W}{L:Lp}{Φ:Ob}{r:A}(he:Gm P o s wt=some (Φ,r)):Dw P o s (Φ.ok P L) r s:=by
 intro hΦ h w val a H K Q hK;unfold Gm at he;split at he;rename_i c ho;obtain⟨callee,args,argTypes⟩:=c;simp only at he;split at he;rename_i g;split at he;rename_i f fs cs ns r' hg;obtain⟨us,vs,e1,hfs,hcs⟩:=DI hg (H.ev g);split at he;rename_i hb;simp only[ba]at hb;simp only[oe,pe]at he;obtain⟨rfl,rfl⟩:=he;simp only[Ob.ok]at hΦ;unfold Oper.wp;rw[IC ho e1 hb.1.1,Oper.upon_enter];have hargs:RAs h w val (fs++args.toList.map (fun x=>s.look (s.ev x))++cs) (us++args.toList.map a.eval++vs):=
  (hfs.append (DD (f:=fun x=>s.look (s.ev x)) (fun x=>H.look (H.ev x)) _)).append hcs
 have hargs2:=Dc (ns:=ns) H _ _ hargs;let L0:=Fr val s ns;refine(hΦ (De h w L0) w val _ (Inv.nil (H.inv.glob.stays (Ai h w L0)) val) hargs2).mono fun e w' hh=>?_;obtain⟨h',val',u,rfl,_,hr,hk,_,_⟩:=hh;let h2:Hw:=fun b=>if b<w.heap.size then h b else h' b
 have hk0:BI [] h w h2 w':=by refine⟨hk.os,hk.tape,hk.output,hk.size,fun b i v hi hc=>hk.cells b i v (Nat.lt_of_lt_of_le hi (MF _ _ _ _)) hc,fun b hb=>?_,fun b hb _=>⟨(hk.far b hb (by simp[AZ])).1,?_⟩⟩;simp only[h2,hb,if_true];exact Nat.le_refl _;simp only[h2,hb,if_true]
 exact hK h2 w' val u (RA.scal hb.2 hr) (H.quiet hk0) ⟨hk0.mono' (fun x hx=>by cases hx),fun _ _=>rfl,fun b hb=>.inl hb⟩;cases he;cases he;cases he;cases he
theorem SP{s:St}{h:Hw}{w:World}{val:Val}{a:Act}(H:AR s h w val a){n:Nat}{e:TypeId}{k:Nat}{xs:List D}(hl:lk s.B n=some (.rw e k xs)):
 ∃h',AR {s with B:=BD s.B n (.row e k xs)} h' w val a/\Nx s h w val {s with B:=BD s.B n (.row e k xs)} h' w val:=by
 have hmem:(n,Bk.rw e k xs)∈s.all:=ml _ (Af hl)
 obtain⟨us,hown,hrow,h0⟩:=H.inv.rep _ hmem
 simp only at hown h0
 let h':Hw:=fun b=>if(val n).ownBlock=some b then xs.length*k else h b
 have hgM:∀g,(val n).ownBlock=some g->g∈AZ val s.all:=fun g hg=>Inv.blk_mem hmem (Ak (Be hg) rfl)
 have hk:BI (AZ val s.all) h w h' w:=by
  refine⟨rfl,rfl,rfl,Nat.le_refl _,fun _ _ _ _ hc=>hc,fun b _=>?_,fun b _ hn=>⟨rfl,?_⟩⟩;show h b<=if(val n).ownBlock=some b then _ else h b
  split;rename_i e;rw[h0 b e];exact Nat.zero_le _;exact Nat.le_refl _;show(if(val n).ownBlock=some b then _ else h b)=h b
  rw[if_neg fun e=>hn (hgM b e)]
 have hsame:∀b',(n,b')∈s.B->b'.kd=(Bk.row e k xs).kd:=fun b' hb'=>by have:=A0 H.inv.nms (ml _ hb') hmem;rw[this];rfl
 have hother:∀p∈s.all,p.1≠n->∀b,b∈CZ val p->h' b=h b:=fun p hp hne b hb=>by
  show(if(val n).ownBlock=some b then _ else h b)=h b
  refine if_neg fun e=>?_;have:=Ba H.inv.bks hp hmem hb (Ak (Be e) rfl);rw[this]at hne;exact hne rfl
 refine⟨h',⟨RAs.stays hk.stays _ _ _ H.e,⟨?_,?_,?_,(by first|exact H.inv.glob.stays hk.stays|exact H.inv.glob|exact I.glob|exact I.glob.stays k.stays|exact H.inv.glob.stays k.stays|exact hI.glob|exact hInv.glob|exact hI0.glob|exact hIX.glob|exact H'.inv.glob|exact hI.glob.stays hk.stays|exact H1.inv.glob|exact hIR.glob|exact H.glob|exact hI.glob.stays k.stays|exact H.inv.glob.stays n.keep.stays|exact hI.glob.stays n.keep.stays|exact h.inv.glob|exact H2.inv.glob|exact hI'.glob)⟩,H.far,H.defs⟩,⟨hk,fun _ _=>rfl,fun b hb=>.inl ?_⟩⟩
 intro p hp
 rcases ma.1 hp with hp|hp
 rcases BG hp with rfl|⟨hp,hne⟩
 exact⟨us,hown,Ad.stays hk.stays _ _ _ hrow,fun g hg=>if_pos hg⟩
 exact RB.stays hk.stays (fun b hb=>⟨rfl,hother p (ml _ hp) hne b hb⟩) (H.inv.rep p (ml _ hp))
 refine RB.stays hk.stays (fun b hb=>⟨rfl,hother p (mr _ hp) (fun e4=>?_) b hb⟩) (H.inv.rep p (mr _ hp))
 have hnd:=H.inv.nms
 simp only[St.all,AI]at hnd
 have m1:n∈AK s.B:=by simp only[AK,mm];exact⟨_,Af hl,rfl⟩
 have m2:n∈AK s.F:=by simp only[AK,mm];exact⟨p,hp,by rw[e4]⟩
 exact(List.nodup_append.1 hnd).2.2 n m1 n m2 rfl
 have:=H.inv.nms
 simpa only[St.all,AI,Ay]using this
 have:=H.inv.bks
 simpa only[St.all,AM,Ax hsame]using this
 simpa only[St.all,AM,Ax hsame]using hb
end Go.Ac
namespace Go.Ac
theorem XV(P:Program)(w:World)(t e:TypeId)(hu:P.underlying t=some (.slice e))(hI:(P.info? e).isSome=true)(g n cap:Nat)(k:IntKind)(i:Int)(h0:0<=i)(h1:i<=cap):
 (Instr.sliceAt t (.slice (some ⟨g,0,none⟩) n cap) none (some (.int k i)) none).run P w=.ok (.slice (some ⟨g,0,none⟩) i.toNat cap) w:=by
 have hP:P.elem t=e:=by simp[Program.elem,hu]
 have hq:P.underlying t=some (.slice (P.elem t)):=by rw[hP];exact hu
 rw[run_sliceAt_slice w t _ _ _ _ hq,run_slice_h w t _ _ _ hq k i h0 h1,hP,An hI]
 simp[sliced,Addr.add]
def Dl:Op->Bool
 | .defer _=>false
 |_=>true
def RP(P:Program)(o:Oper)(s:St)(wt:W):Option (Cn×A×List Ed):=
 match o.dst,o.op with
 |some d,.slice t x none (some y) none=>match Sg s (s.ev x),s.ev y,P.underlying t with
  |some (n,e,k,xs),.d (.v (.int _ i)),some (.slice e')=>
   if e'==e&&(P.info? e).isSome&&decide (d<up)&& !AQ d s.E&& !BL d s.B then
    some (.both (.le 0 i) (.both (.le i xs.length) (.app (xs.take i.toNat) [] (IJ (fun _=>xs.take i.toNat) wt))),.row d,[.chg n .dead,.add d (.rw e k (IJ (fun _=>xs.take i.toNat) wt))])else none
  |_,_,_=>none
 |_,_=>none
theorem RQ{P:Program}{o:Oper}{s:St}{wt:W}{Φ:Cn}{r:A}{es:List Ed}(he:RP P o s wt=some (Φ,r,es)):Dw P o s Φ.ok r (s.edit es):=by
 intro hΦ h w val a H K Q hK;unfold RP at he;split at he;rename_i d t x y hd ho;split at he;rename_i n e k xs ki i e' hb hi hu;split at he;rename_i hc;simp only[ba,beq_iff_eq,decide_eq_true_eq,Bool.not_eq_true']at hc;obtain⟨⟨⟨⟨rfl,hI⟩,c1⟩,c2⟩,c3⟩:=hc;simp only[oe,pe]at he;obtain⟨rfl,rfl,rfl⟩:=he;simp only[Cn.ok]at hΦ;obtain⟨p1,p2,p3⟩:=hΦ;rw[<-p3,List.append_nil]at hK;have hΦ:0<=i/\i<=(xs.length:Int):=⟨p1,p2⟩;obtain⟨hl,hu1,us,hown,hrow,hh⟩:=ID H (H.ev x) hb;have hi':=H.ev y;rw[hi]at hi';simp only[RA,RD]at hi';obtain⟨hdrop,hsub,hnot⟩:=H.dead' hl rfl;have hmem:(n,Bk.rw e' k xs)∈s.all:=ml _ (Af hl);have hlen:=Ad.length hrow;have hlt:(xs.take i.toNat).length=i.toNat:=by rw[List.length_take];omega
 --the value behind
 obtain⟨v',hrun,hown',hsame⟩:∃v',(Instr.sliceAt t (val n) none (some (.int ki i)) none).run P w=.ok v' w/\w.ownsRow 0 e' k v' (xs.take i.toNat).length (us.take (i.toNat*k))/\v'.ownBlock=(val n).ownBlock:=by
  rcases hown.2 with⟨hv,hz⟩|⟨g,cap,cur,hv,hg0,hg,hn,hm,hs,ht⟩
  have hi0:i=0:=by omega
  subst hi0;refine⟨.slice none 0 0,?_,?_,by rw[hv]⟩;have hP:P.elem t=e':=by simp[Program.elem,hu]
  have hq:P.underlying t=some (.slice (P.elem t)):=by rw[hP];exact hu
  rw[hv,run_sliceAt_slice w t _ _ _ _ hq,run_slice_h w t _ _ _ hq ki 0 (by omega) (by omega),hP,An hI];simp[sliced];have:=World.ownsRow_nil w 0 e' k;simpa using this;refine⟨.slice (some ⟨g,0,none⟩) i.toNat cap,?_,⟨?_,.inr ⟨g,cap,cur,by rw[hlt],hg0,hg,by rw[hlt];omega,hm,hs,?_⟩⟩,by rw[hv];rfl⟩;rw[hv];exact XV P w t e' hu hI g _ cap ki i hΦ.1 (by omega);rw[hlt,List.length_take,hlen];have:=Nat.mul_le_mul_right k (show i.toNat<=xs.length by omega);omega;rw[hlt,<-ht,List.take_take];have:=Nat.mul_le_mul_right k (show i.toNat<=xs.length by omega);rw[Nat.min_eq_left this]
 have hvb:BN v'=v'.ownBlock:=Bt hown';have hvd:Al val d v' d=v':=by simp[Al]
 obtain⟨k2,k3⟩:=hdrop.add c1 c2 (C0 c3 rfl) (BI.refl [] h w) (fun b _ hm=>by cases hm) (fun b hb=>by cases hb) v' (.rw e' k (xs.take i.toNat)) (fun b hb=>hnot b (by
  rw[hvb,hsame]at hb;exact Be hb)) rfl
  ⟨us.take (i.toNat*k),by rw[hvd];exact hown',Ad.take _ hrow,fun g hg=>hh g (by rw[hvd,hsame]at hg;exact hg)⟩
 refine AO (u:=v') (w':=w) ?_ (hK h w _ v' (by simp only[RA];exact⟨by simp[Al],.inl (Bh hown')⟩) k2.ins (Nx.ins ⟨BI.refl _ _ _,fun m hm=>by have:m≠d:=Nat.ne_of_gt (Nat.lt_of_lt_of_le c1 (GP hm));simp[Al,this],fun b hb=>?_⟩));simp[execOp,ho,hu1,hi'.1,hrun];replace hb:b∈AZ (Al val d v') ((d,Bk.rw e' k (xs.take i.toNat))::({s with B:=BD s.B n .dead}:St).all):=hb
 rw[k3]at hb;rcases ma.1 hb with hb|hb
 refine .inl ?_;simp only[Option.mem_toList]at hb;rw[hvb,hsame]at hb;exact Inv.blk_mem hmem (Ak (Be hb) rfl);exact .inl (hsub b hb);cases he;cases he;cases he
def Lz(P:Program)(s:St)(o o2:Oper)(wt:W):Option (Cn×List Ed):=
 match o.dst,o.op,o2.op with
 |some d,.slice t x (some y) none none,.call c=>match c.callee,c.args.toList,c.argTypes.toList with
  | .builtin .clear,[.tmp d'],[t']=>match Sg s (s.ev x),s.ev y,P.underlying t with
   |some (n,e,k,xs),.d (.v (.int _ i)),some (.slice e')=>match P.info? e with
    |some inf=>match inf.zero with
     |some z=>if d'==d&&t'==t&&e'==e&&o.guard.isNone&&o2.guard.isNone&&z.cells.size==k&&inf.size==k&&z.cells.toList.all (·.oneCell')&&(CJ z).nc==k&&decide (0<k)&&decide (d<s.E.length)then
      some (.both (.le 0 i) (.both (.le i xs.length) (.app (xs.take i.toNat) (List.replicate (xs.length-i.toNat) (CJ z)) (IJ (fun _=>xs.take i.toNat++List.replicate (xs.length-i.toNat) (CJ z)) wt))),[.chg n (.rw e k (IJ (fun _=>xs.take i.toNat++List.replicate (xs.length-i.toNat) (CJ z)) wt))])else none
     |none=>none
    |none=>none
   |_,_,_=>none
  |_,_,_=>none
 |_,_,_=>none
theorem RC{P:Program}{o o2:Oper}{s:St}{wt:W}{Φ:Cn}{es:List Ed}(he:Lz P s o o2 wt=some (Φ,es))(hΦ:Φ.ok){h w val}{a:Act}(H:AR s h w val a):
 ∃d u w',o.dst=some d/\o.guard=none/\o2.guard=none/\Dl o.op=true/\Dl o2.op=true/\(execOp a.eval o).run P w=.ok (.value u) w/\(execOp (a.put (some d) u).eval o2).run P w=.ok (.value (.tuple #[])) w'/\
  AR (s.edit es) h w' val a/\Nx s h w val (s.edit es) h w' val:=by
 unfold Lz at he
 split at he
 rename_i d t x y c hd ho ho2
 obtain⟨callee,args,argTypes⟩:=c
 simp only at he
 split at he
 rename_i d' t' hargs htys
 obtain⟨args⟩:=args
 obtain⟨argTypes⟩:=argTypes
 simp only at hargs htys
 subst hargs;subst htys
 split at he
 rename_i n e k xs ki i e' hb hi hu
 split at he
 rename_i inf hinf
 split at he
 rename_i z hz
 split at he
 rename_i hc
 simp only[ba,beq_iff_eq,decide_eq_true_eq,Option.isNone_iff_eq_none]at hc
 obtain⟨⟨⟨⟨⟨⟨⟨⟨⟨⟨rfl,rfl⟩,rfl⟩,g1⟩,g2⟩,zs⟩,is⟩,z1⟩,zn⟩,hk0⟩,hdl⟩:=hc
 simp only[oe,pe]at he
 obtain⟨rfl,rfl⟩:=he
 simp only[Cn.ok]at hΦ
 obtain⟨p1,p2,p3⟩:=hΦ
 rw[<-p3]
 have hΦ:0<=i/\i<=(xs.length:Int):=⟨p1,p2⟩
 have z1':∀v∈z.cells.toList,v.oneCell'=true:=fun v hv=>List.all_eq_true.1 z1 v hv
 obtain⟨hl,hu1,us,hown,hrow,hh⟩:=ID H (H.ev x) hb
 have hi':=H.ev y
 rw[hi]at hi'
 simp only[RA,RD]at hi'
 have hP:P.elem t'=e':=by simp[Program.elem,hu]
 have hq:P.underlying t'=some (.slice (P.elem t')):=by rw[hP];exact hu
 have hI:(P.info? e').isSome=true:=by rw[hinf];rfl
 have hcs:P.cellsOf e'=k:=by simp[Program.cellsOf,hinf,is]
 have hzv:∀w,(zeroValue e').run P w=.ok z w:=fun w=>by simp[zeroValue,typeInfo,hinf,hz]
 have hlen:=Ad.length hrow
 have hput:∀u,(a.put (some d') u).eval (.tmp d')=u:=fun u=>by
  have hsz:a.tmps.size=s.E.length:=by have:=RAs.length H.e;simpa using this
  simp[Act.put,Act.eval,hsz,hdl]
 have same:(∀u,(execOp a.eval o).run P w=.ok (.value u) w->(execOp (a.put (some d') u).eval o2).run P w=.ok (.value (.tuple #[])) w)->xs.length-i.toNat=0->(∃u,(execOp a.eval o).run P w=.ok (.value u) w)->
  ∃d u w',o.dst=some d/\o.guard=none/\o2.guard=none/\Dl o.op=true/\Dl o2.op=true/\(execOp a.eval o).run P w=.ok (.value u) w/\(execOp (a.put (some d) u).eval o2).run P w=.ok (.value (.tuple #[])) w'/\
   AR (s.edit [.chg n (.rw e' k (xs.take i.toNat++List.replicate (xs.length-i.toNat) (CJ z)))]) h w' val a/\Nx s h w val (s.edit [.chg n (.rw e' k (xs.take i.toNat++List.replicate (xs.length-i.toNat) (CJ z)))]) h w' val:=by
  intro h1 h2 h3
  obtain⟨u,hu⟩:=h3
  have e1:xs.take i.toNat++List.replicate (xs.length-i.toNat) (CJ z)=xs:=by rw[h2,List.replicate_zero,List.append_nil,List.take_of_length_le (by omega)]
  have e2:s.edit [.chg n (.rw e' k xs)]=s:=by
   have:BD s.B n (.rw e' k xs)=s.B:=by
    unfold BD;rw[List.map_congr_left (g:=id)];simp;intro p hp;split;rename_i hpn;have hp2:p=(n,Bk.rw e' k xs):=by have:=A0 (b:=p.2) (b':=Bk.rw e' k xs) (n:=n) H.inv.nms (ml _ (by rw[<-hpn];exact hp)) (ml _ (Af hl));obtain⟨p1,p2⟩:=p;simp only at hpn this;rw[hpn,this]
    rw[hp2];rfl;rfl
   show({s with B:=BD s.B n (.rw e' k xs)}:St)=s
   rw[this]
  rw[e1,e2]
  exact⟨d',u,w,hd,g1,g2,by rw[ho];rfl,by rw[ho2];rfl,hu,h1 u hu,H,Nx.refl s h w val rfl⟩
 rcases hown.2 with⟨hv,hz0⟩|⟨g,cap,cur,hv,hg0,hg,hn,hm,hs,ht⟩
 have hi0:i=0:=by omega
 subst hi0
 have hr1:(execOp a.eval o).run P w=.ok (.value (.slice none 0 0)) w:=by simp[execOp,ho,hu1,hi'.1,hv,Sem.run_bind,run_sliceAt_slice w t' _ _ _ _ hq,run_slice_l w t' none 0 0 hq ki 0 (by omega) (by omega),hP,An hI,sliced]
 refine same (fun u hu=>?_) (by omega) ⟨_,hr1⟩
 rw[hr1]at hu
 cases hu
 simp[execOp,ho2,resolve,invoke,builtin,hput,Builtin.clear_,run_underlying hu, *]
 have hr1:(execOp a.eval o).run P w=.ok (.value (sliced (some ⟨g,0,none⟩) i.toNat xs.length cap k)) w:=by simp[execOp,ho,hu1,hi'.1,hv,run_sliceAt_slice w t' _ _ _ _ hq,run_slice_l w t' _ _ _ hq ki i hΦ.1 hΦ.2,hP,An hI,hcs]
 by_cases hz0:xs.length-i.toNat=0
 refine same (fun u hu=>?_) hz0 ⟨_,hr1⟩
 rw[hr1]at hu
 cases hu
 by_cases hci:cap=i.toNat<;>simp[execOp,ho2,resolve,invoke,builtin,hput,Builtin.clear_,sliced,hz0,hci,run_underlying ‹P.underlying t'=some (TypeDesc.slice e')›]
 have hcap:¬cap=i.toNat:=by omega
 obtain⟨m,hmm⟩:∃m,xs.length-i.toNat=m+1:=⟨xs.length-i.toNat-1,by omega⟩
 have hr2:(execOp a.eval o).run P w=.ok (.value (.slice (some ⟨g,i.toNat*k,none⟩) (m+1) (cap-i.toNat))) w:=by rw[hr1];simp[sliced,hcap,Addr.add_lit,hmm]
 have hle:i.toNat*k<=xs.length*k:=Nat.mul_le_mul_right k (by omega)
 have hle2:xs.length*k<=cap*k:=Nat.mul_le_mul_right k hn
 have hmk:i.toNat*k+(m+1)*k=xs.length*k:=by rw[<-Nat.add_mul];congr 1;omega
 have hzl:(Builtin.zeroCells z.cells (m+1)).toList.length=(m+1)*k:=by simp[Builtin.zeroCells,zs]
 have hone:∀v∈(Builtin.zeroCells z.cells (m+1)).toList,v.oneCell'=true:=fun v hv=>by simp only[Builtin.zeroCells,Array.toList_map,mm]at hv;obtain⟨j,_,rfl⟩:=hv;have hlt:j % z.cells.size<z.cells.size:=Nat.mod_lt _ (by omega);rw[getElem!_pos z.cells _ hlt];exact z1' _ (by simp)
 have hst:=run_storeCells_at P g (i.toNat*k) e' (Builtin.zeroCells z.cells (m+1)).toList 0 cur w hg (by rw[hzl];omega) hone
 simp only[Nat.add_zero,hzl]at hst
 have hrow2:Ad h w k (xs.take i.toNat++List.replicate (m+1) (CJ z)) (us.take (i.toNat*k)++(Builtin.zeroCells z.cells (m+1)).toList):=by
  refine Ad.append (Ad.take _ hrow) ?_;have:=El (h:=h) (w:=w) z1' (by omega) (by omega) (m+1);rw[zs]at this;have e:Builtin.zeroCells z.cells (m+1)=madeCells z.cells ((m+1)*k):=by rw[<-zs];rfl
  rw[e];exact this
 have hcl:cur.toList.length=cap*k:=by simpa using hs
 have hus:us=cur.toList.take (xs.length*k):=ht.symm
 have et:(cur.toList.take (i.toNat*k)++(Builtin.zeroCells z.cells (m+1)).toList++cur.toList.drop (i.toNat*k+(m+1)*k)).take (xs.length*k)=us.take (i.toNat*k)++(Builtin.zeroCells z.cells (m+1)).toList:=by rw[List.take_append_of_le_length (by simp only[List.length_append,List.length_take,hcl,hzl];omega),List.take_of_length_le (by simp only[List.length_append,List.length_take,hcl,hzl];omega),hus,List.take_take,Nat.min_eq_left hle]
 rw[<-et]at hrow2
 obtain⟨f1,f2⟩:=SQ H hl hv (us:=cur.toList) (by simpa using hg) hn hm (hh g (by rw[hv];rfl)) (us':=cur.toList.take (i.toNat*k)++(Builtin.zeroCells z.cells (m+1)).toList++cur.toList.drop (i.toNat*k+(m+1)*k))
  (by simp only[List.length_append,List.length_take,List.length_drop,hcl,hzl];omega) (by simp only[List.length_append,List.length_take,List.length_replicate];omega) hrow2
 refine⟨d',_,w.setRow g (cur.toList.take (i.toNat*k)++(Builtin.zeroCells z.cells (m+1)).toList++cur.toList.drop (i.toNat*k+(m+1)*k)).toArray,hd,g1,g2,by rw[ho];rfl,by rw[ho2];rfl,hr2,?_,?_,?_⟩
 simp[execOp,ho2,resolve,invoke,builtin,hput,Builtin.clear_,run_underlying ‹P.underlying t'=some (TypeDesc.slice e')›,hzv,hst]
 rw[hmm];exact f1
 rw[hmm];exact f2
 cases he
 cases he
 cases he
 cases he
 cases he
 cases he
end Go.Ac
namespace Go.Ac
open Go.MapKept
def Vi(P:Program):List Field->List Value->Nat->Prop
 |[],us,_=>us=[]
 |f::fs,us,o=>∃u us',us=u::us'/\f.name≠ "_" /\f.offset=o/\(∃k n,P.underlying f.type=some (.int k)/\u=.int k n)/\Vi P fs us' (o+1)
def F9(P:Program)(kt:TypeId)(v:Value):Prop:=∃fs us,P.underlying kt=some (.struct fs)/\P.stoodInHeld kt=false/\v=.agg ⟨us⟩/\Vi P fs.toList us 0
def Sc(P:Program)(kt:TypeId)(v:Value):Prop:=(∃d,P.underlying kt=some d/\IsKey d v)\/F9 P kt v
theorem Ks{P:Program}(w:World){t:TypeId}{k:IntKind}(hk:P.underlying t=some (.int k))(pre post:List Value)(u:Value):(part t ⟨pre++u::post⟩ pre.length).run P w=.ok u w:=
 run_part_plain w (by simp[Program.plainKey,hk]) (by simp)
theorem RY{P:Program}(w:World){t:TypeId}{k:IntKind}(hk:P.underlying t=some (.int k))(em:Bool)(d:Nat)(n:Int):(Instr.checkKey em (d+1) t (.int k n)).run P w=.ok () w:=by simp[Instr.checkKey,run_underlying hk]
theorem RX{P:Program}(w:World)(em:Bool)(d:Nat){us:List Value}:∀(l:List Field) (pre us':List Value),us=pre++us'->Vi P l us' pre.length->(forIn (m:=Sem) l PUnit.unit fun(f:Field) (_:PUnit)=>do
 if f.name≠ "_" then
  Instr.checkKey em (d+1) f.type (<-part f.type ⟨us⟩ f.offset)
  pure (ForInStep.yield PUnit.unit)
 else pure (ForInStep.yield PUnit.unit)).run P w=.ok PUnit.unit w:=by
 intro l
 induction l with
 |nil=>intro pre us' _ _;simp
 |cons f l ih=>
  intro pre us' he hl
  obtain⟨u,us2,rfl,hn,ho,⟨k,n,hk,rfl⟩,hrest⟩:=hl
  have hp:=Ks w hk pre us2 (.int k n)
  rw[<-he]at hp
  have hc:=RY w hk em d n
  simp only[List.forIn_cons,Sem.run_bind,hn,ne_eq,not_false_eq_true,if_true,ho,Result.andThen_ok,hp,hc,Sem.run_pure]
  exact ih (pre++[.int k n]) us2 (by rw[he];simp) (by simpa using hrest)
theorem U6{P:Program}{kt:TypeId}{v:Value}(h:F9 P kt v)(em:Bool)(w:World)(d:Nat):(Instr.checkKey em (d+1+1) kt v).run P w=.ok () w:=by obtain⟨fs,us,hu,_,rfl,hf⟩:=h;have key:=RX w em d fs.toList [] us rfl hf;rw[Instr.checkKey];simp only[Sem.run_bind,run_underlying hu,Result.andThen_ok];rw[<-Array.forIn_toList];simp at key⊢;rw[key];simp
theorem F9.check{P:Program}{kt:TypeId}{v:Value}(h:F9 P kt v)(em:Bool)(w:World):(Instr.checkKey em 10000 kt v).run P w=.ok () w:=U6 h em w 9998
theorem Vv{P:Program}(w:World)(d:Nat):∀(fs:List Field) (pre qre us vs:List Value),pre.length=qre.length->Vi P fs us pre.length->Vi P fs vs pre.length->∃r,(Op.eqFields (d+1) ⟨pre++us⟩ ⟨qre++vs⟩ fs).run P w=.ok r w/\(r=true↔us=vs)
 |[],pre,qre,us,vs,_,hu,hv=>by
  simp only[Vi]at hu hv;subst hu;subst hv;exact⟨true,by simp[Op.eqFields],by simp⟩
 |f::fs,pre,qre,us,vs,hl,hu,hv=>by
  obtain⟨u,us',rfl,hn,ho,⟨k,a,hk,rfl⟩,hu'⟩:=hu;obtain⟨v,vs',rfl,_,_,⟨k',b,hk',rfl⟩,hv'⟩:=hv;have hkk:k'=k:=by rw[hk]at hk';cases hk';rfl
  subst hkk;obtain⟨r,ih,hr⟩:=Vv w d fs (pre++[.int k' a]) (qre++[.int k' b]) us' vs' (by simp[hl]) (by simpa using hu') (by simpa using hv');have p1:=Ks w hk pre us' (.int k' a);have p2:=Ks w hk qre vs' (.int k' b);rw[<-hl]at p2;have p3:=run_equalIn_int w d f.type k' k' a b hk;simp only[List.append_assoc,List.singleton_append]at ih;by_cases hab:a=b;subst hab;refine⟨r,?_,by rw[hr];simp⟩;simp only[Op.eqFields];rw[if_pos hn,ho];simp only[Sem.run_bind,p1,p2,p3,Result.andThen_ok];simpa using ih;refine⟨false,?_,by simp[hab]⟩;simp only[Op.eqFields];rw[if_pos hn,ho];simp only[Sem.run_bind,p1,p2,p3,Result.andThen_ok];simp[hab]
theorem F9.equal{P:Program}{kt:TypeId}{u v:Value}(hu:F9 P kt u)(hv:F9 P kt v)(w:World):∃r,(Op.equal kt u v).run P w=.ok r w/\(r=true↔u=v):=by
 obtain⟨fs,us,h1,h2,rfl,hf⟩:=hu;obtain⟨fs',vs,h3,_,rfl,hg⟩:=hv;rw[h1]at h3;cases h3;have hfo:P.fieldsOf kt=fs:=by simp[Program.fieldsOf,h1]
 obtain⟨r,h4,h5⟩:=Vv w 9998 fs.toList [] [] us vs rfl hf hg;refine⟨r,?_,by rw[h5];simp⟩;show(Op.equalIn (9998+1+1) kt (.agg ⟨us⟩) (.agg ⟨vs⟩)).run P w=_;rw[run_equalIn_struct w _ kt _ _ (by rw[hfo];exact h1) h2,hfo];exact h4
theorem F9.stays{P:Program}{kt:TypeId}{v:Value}(h:F9 P kt v)(w:World):(Instr.keyThatStays v v).run P w=.ok v w:=by
 obtain⟨fs,us,_,_,rfl,hf⟩:=h;have key:∀(l:List Field) (us:List Value) (o:Nat),Vi P l us o->∀p∈us.zip us,Instr.sameBits 9999 p.1 p.2=true:=by
  intro l;induction l with
  |nil=>intro us o hl p hp;simp only[Vi]at hl;subst hl;simp at hp
  |cons f l ih=>
   intro us o hl p hp
   obtain⟨u,us',rfl,_,_,⟨k,n,_,rfl⟩,hrest⟩:=hl
   rw[List.zip_cons_cons]at hp
   rcases mc.1 hp with rfl|hp
   simp[Instr.sameBits]
   exact ih us' _ hrest p hp
 have hs:Instr.sameBits 10000 (.agg ⟨us⟩) (.agg ⟨us⟩)=true:=by show Instr.sameBits (9999+1) (.agg ⟨us⟩) (.agg ⟨us⟩)=true;simp only[Instr.sameBits,beq_self_eq_true,Bool.true_and,List.all_eq_true];intro p hp;exact key fs.toList us 0 hf p hp
 simp[Instr.keyThatStays,hs]
theorem F9.ask_no{P:Program}{kt:TypeId}{key:Value}(h:F9 P kt key)(w:World):∀(l:List MapEntry) (i:Nat),(∀e∈l,F9 P kt e.key/\e.key≠key)->(Instr.findAsking kt key l i).run P w=.ok none w
 |[],i,_=>by simp[Instr.findAsking]
 |e::l,i,hl=>by
  obtain⟨r,he,hr⟩:=h.equal (hl e (by simp)).1 w;have hrf:r=false:=by
   cases r with
   |false=>rfl
   |true=>exact absurd (hr.1 rfl).symm (hl e (by simp)).2
  subst hrf;simp[Instr.findAsking,he,F9.ask_no h w l (i+1) fun x hx=>hl x (by simp[hx])]
theorem F9.ask_at{P:Program}{kt:TypeId}{key:Value}(h:F9 P kt key)(w:World){e:MapEntry}(he:e.key=key)(lq:List MapEntry):∀(lp:List MapEntry) (i:Nat),(∀e∈lp,F9 P kt e.key/\e.key≠key)->(Instr.findAsking kt key (lp++e::lq) i).run P w=.ok (some (i+lp.length,e.val)) w
 |[],i,_=>by
  obtain⟨r,h1,hr⟩:=h.equal (v:=e.key) (by rw[he];exact h) w;have hr:=hr.2 he.symm;subst hr;simp[Instr.findAsking,h1]
 |x::lp,i,hl=>by
  obtain⟨r,h1,hr⟩:=h.equal (hl x (by simp)).1 w;have hrf:r=false:=by
   cases r with
   |false=>rfl
   |true=>exact absurd (hr.1 rfl).symm (hl x (by simp)).2
  subst hrf;have ih:=F9.ask_at h w he lq lp (i+1) fun y hy=>hl y (by simp[hy]);simp[Instr.findAsking,h1,ih];omega
structure Ask(P:Program)(kt:TypeId)(key:Value)(l:List MapEntry)(r:Option (Nat×Value)):Prop where
 chk:∀(em:Bool) (w:World),(Instr.checkKey em 10000 kt key).run P w=.ok () w
 sty:∀w:World,(Instr.keyThatStays key key).run P w=.ok key w
 fnd:∀w:World,(Instr.findKey kt key l).run P w=.ok r w
theorem Sc.all{P:Program}{kt:TypeId}{key:Value}{d:TypeDesc}(hd:P.underlying kt=some d)(hv:IsKey d key){v:Value}(h:Sc P kt v):IsKey d v:=by
 rcases h with⟨d',h1,h2⟩|⟨fs,us,h1,_⟩
 rw[hd]at h1;cases h1;exact h2;rw[hd]at h1;cases h1;cases key<;>exact absurd hv id
theorem Sc.allW{P:Program}{kt:TypeId}{key:Value}(hk:F9 P kt key){v:Value}(h:Sc P kt v):F9 P kt v:=by
 rcases h with⟨d',h1,h2⟩|h
 obtain⟨fs,us,g1,_⟩:=hk;rw[g1]at h1;cases h1;cases v<;>exact absurd h2 id;exact h
theorem F9.wide{P:Program}{kt:TypeId}{key:Value}(h:F9 P kt key):(match P.underlying kt with|some (.array _ _)|some (.struct _)=>true|_=>false)=true:=by obtain⟨fs,us,g1,_⟩:=h;rw[g1]
theorem ask_no{P:Program}{kt:TypeId}{key:Value}{l:List MapEntry}(hk:Sc P kt key)(hl:∀e∈l,Sc P kt e.key/\e.key≠key):Ask P kt key l none:=by
 rcases hk with⟨d,hd,hv⟩|hk
 rcases findNow_spec hv l 0 (fun x hx=>(hl x hx).1.all hd hv)with⟨h1,_⟩|⟨j,e,_,h2,h3⟩
 exact⟨fun em w=>MapKept.run_checkKey hd hv em 9999,fun w=>MapKept.run_keyThatStays hv,fun w=>MapKept.run_findKey hd h1⟩;exact absurd h3 (hl e (List.mem_of_getElem? h2)).2;exact⟨fun em w=>hk.check em w,fun w=>hk.stays w,fun w=>by rw[run_findKey_eq w hk.wide];exact hk.ask_no w l 0 fun e he=>⟨(hl e he).1.allW hk,(hl e he).2⟩⟩
theorem ask_at{P:Program}{kt:TypeId}{key:Value}{lp lq:List MapEntry}{e:MapEntry}(hk:Sc P kt key)(he:e.key=key)(hl:∀x∈lp,Sc P kt x.key/\x.key≠key):Ask P kt key (lp++e::lq) (some (lp.length,e.val)):=by
 rcases hk with⟨d,hd,hv⟩|hk
 have key2:∀(lp:List MapEntry) (i:Nat),(∀x∈lp,IsKey d x.key/\x.key≠key)->Instr.findNow d key (lp++e::lq) i=some (some (i+lp.length,e.val)):=by
  intro lp;induction lp with
  |nil=>
   intro i _
   obtain⟨r,hr,hiff⟩:=sameNow_of_keys hv (by rw[he];exact hv:IsKey d e.key)
   have:r=true:=hiff.2 he.symm
   subst this
   simp[Instr.findNow,hr]
  |cons x lp ih=>
   intro i hx
   obtain⟨r,hr,hiff⟩:=sameNow_of_keys hv (hx x (by simp)).1
   have:r=false:=by
    cases r with
    |false=>rfl
    |true=>exact absurd (hiff.1 rfl).symm (hx x (by simp)).2
   subst this
   simp only[List.cons_append,Instr.findNow,hr]
   rw[ih (i+1) fun y hy=>hx y (by simp[hy])]
   simp;omega
 have h2:=key2 lp 0 fun x hx=>⟨(hl x hx).1.all hd hv,(hl x hx).2⟩;rw[Nat.zero_add]at h2;exact⟨fun em w=>MapKept.run_checkKey hd hv em 9999,fun w=>MapKept.run_keyThatStays hv,fun w=>MapKept.run_findKey hd h2⟩;refine⟨fun em w=>hk.check em w,fun w=>hk.stays w,fun w=>?_⟩;rw[run_findKey_eq w hk.wide];have:=hk.ask_at w he lq lp 0 fun x hx=>⟨(hl x hx).1.allW hk,(hl x hx).2⟩;rw[Nat.zero_add]at this;exact this
def aG6:Value->D
 | .agg a=>.agg (a.toList.map .v)
 |v=>.v v
end Go.Ac
namespace Go.Ac
open Go.MapKept

theorem REs.append{h w}:∀{xs:List (Nat×D×D)} {l:List MapEntry} {ys m},REs h w xs l->REs h w ys m->REs h w (xs++ys) (l++m)
 |[],_,_,_,hl,hr=>by simp only[REs]at hl;subst hl;exact hr
 |x::xs,_,_,_,⟨e,l',a,b,c,d,r⟩,hr=>by
  subst a;exact⟨e,l'++_,rfl,b,c,d,REs.append r hr⟩
theorem REs.split{h w}:∀{pre:List (Nat×D×D)} {x post} {l:List MapEntry},REs h w (pre++x::post) l->∃lp e lq,l=lp++e::lq/\lp.length=pre.length/\REs h w pre lp/\e.born=x.1/\RD h w x.2.1 e.key/\RD h w x.2.2 e.val/\REs h w post lq
 |[],x,post,l,⟨e,l',a,b,c,d,r⟩=>⟨[],e,l',a,rfl,rfl,b,c,d,r⟩
 |y::pre,x,post,l,⟨e,l',a,b,c,d,r⟩=>by
  obtain⟨lp,e2,lq,q1,q2,q3,q4⟩:=REs.split r;refine⟨e::lp,e2,lq,by rw[a,q1];rfl,by simp[q2],⟨e,lp,rfl,b,c,d,q3⟩,q4⟩
theorem REs.length{h w}:∀{xs:List (Nat×D×D)} {l:List MapEntry},REs h w xs l->l.length=xs.length
 |[],_,hl=>by simp only[REs]at hl;subst hl;rfl
 |x::xs,_,⟨e,l',a,b,c,d,r⟩=>by subst a;simp[REs.length r]
theorem REs.mem{h w}:∀{xs:List (Nat×D×D)} {l:List MapEntry},REs h w xs l->∀e∈l,∃x∈xs,e.born=x.1/\RD h w x.2.1 e.key/\RD h w x.2.2 e.val
 |[],_,hl,e,he=>by simp only[REs]at hl;subst hl;simp at he
 |x::xs,_,⟨e0,l',a,b,c,d,r⟩,e,he=>by
  subst a;rcases mc.1 he with rfl|he
  exact⟨x,by simp,b,c,d⟩;obtain⟨y,hy,q⟩:=REs.mem r e he;exact⟨y,by simp[hy],q⟩
theorem REs.born{h w}:∀{xs:List (Nat×D×D)} {l:List MapEntry},REs h w xs l->l.map (·.born)=xs.map (·.1)
 |[],_,hl=>by simp only[REs]at hl;subst hl;rfl
 |x::xs,_,⟨e,l',a,b,c,d,r⟩=>by subst a;simp[b,REs.born r]

def KOk(P:Program)(kt:TypeId)(x:D):Prop:=∃v,x=aG6 v/\Sc P kt v
def aCg(P:Program)(kt:TypeId)(z:D)(es:List (Nat×D×D))(kd vd:D)(ok:Bool):Prop:=
 (∀x∈es,KOk P kt x.2.1)/\KOk P kt kd/\((ok=true/\∃(pre:List (Nat×D×D)) (s:Nat) (post:List (Nat×D×D)),es=pre++(s,kd,vd)::post/\∀x∈pre,x.2.1≠kd)\/(ok=false/\vd=z/\∀x∈es,x.2.1≠kd))
def YK(P:Program)(kt:TypeId)(es:List (Nat×D×D))(kd vd:D)(clk:Nat)(es':List (Nat×D×D))(clk':Nat):Prop:=
 (∀x∈es,KOk P kt x.2.1)/\KOk P kt kd/\((clk'=clk/\∃(pre:List (Nat×D×D)) (s:Nat) (v0:D) (post:List (Nat×D×D)),es=pre++(s,kd,v0)::post/\(∀x∈pre,x.2.1≠kd)/\es'=pre++(s,kd,vd)::post)\/(clk'=clk+1/\es'=es++[(clk,kd,vd)]/\∀x∈es,x.2.1≠kd))
def aHm(P:Program)(kt:TypeId)(z:D)(es:List (Nat×D×D))(kd:D)(clk:Nat)(es':List (Nat×D×D))(clk':Nat)(v:D)(st:Nat):Prop:=
 (∀x∈es,KOk P kt x.2.1)/\KOk P kt kd/\st<=4611686018427387904/\((clk'=clk/\es'=es/\∃(pre post:List (Nat×D×D)),es=pre++(st,kd,v)::post/\∀x∈pre,x.2.1≠kd)\/(clk'=clk+1/\st=clk/\v=z/\es'=es++[(clk,kd,z)]/\∀x∈es,x.2.1≠kd))
def aHo(es:List (Nat×D×D))(st:Int)(vd:D)(es':List (Nat×D×D)):Prop:=
 ∃(pre:List (Nat×D×D)) (s:Nat) (kd v0:D) (post:List (Nat×D×D)),st=(s:Int)/\es=pre++(s,kd,v0)::post/\(∀x∈pre,x.1≠s)/\es'=pre++(s,kd,vd)::post
def aG9(P:Program)(kt:TypeId)(es:List (Nat×D×D))(kd:D)(es':List (Nat×D×D)):Prop:=
 (∀x∈es,KOk P kt x.2.1)/\KOk P kt kd/\((∃(pre:List (Nat×D×D)) (s:Nat) (v0:D) (post:List (Nat×D×D)),es=pre++(s,kd,v0)::post/\(∀x∈pre,x.2.1≠kd)/\es'=pre++post)\/(es'=es/\∀x∈es,x.2.1≠kd))
def aHn(es:List (Nat×D×D))(n:Int):Prop:=(es.length:Int)=n/\n<=4611686018427387904

theorem aHa{h w}{v u:Value}(hr:RD h w (.v v) u):u=v:=by simp only[RD]at hr;exact hr.1
theorem YX{h w}:∀{l:List Value} {us:List Value},RDs h w (l.map .v) us->us=l
 |[],us,hr=>by simpa[RDs]using hr
 |v::l,us,hr=>by
  simp only[List.map_cons,RDs]at hr;obtain⟨u,us',rfl,h1,h2⟩:=hr;rw[aHa h1,YX h2.2]
theorem Ek{h w}{v u:Value}(hr:RD h w (aG6 v) u):u=v:=by unfold aG6 at hr;split at hr;simp only[RD]at hr;obtain⟨us,rfl,hr⟩:=hr;rw[YX hr];exact aHa hr
theorem EG{P:Program}{h:Hw}{w:World}{kt:TypeId}{pre:List (Nat×D×D)}{s:Nat}{kd v0:D}{post:List (Nat×D×D)}{l:List MapEntry}{key:Value}(hr:REs h w (pre++(s,kd,v0)::post) l)
 (hK:∀x∈pre++(s,kd,v0)::post,KOk P kt x.2.1) (hk:KOk P kt kd) (hne:∀x∈pre,x.2.1≠kd) (hkr:RD h w kd key):
 ∃lp e lq,l=lp++e::lq/\lp.length=pre.length/\REs h w pre lp/\e.born=s/\e.key=key/\RD h w v0 e.val/\REs h w post lq/\Ask P kt key l (some (pre.length,e.val)):=by
 obtain⟨lp,e,lq,e1,e2,e3,e4,e5,e6,e7⟩:=REs.split hr
 obtain⟨v,rfl,hv⟩:=hk
 have hkv:key=v:=Ek hkr
 subst hkv
 have hek:e.key=key:=Ek e5
 have hlp:∀x∈lp,Sc P kt x.key/\x.key≠key:=fun x hx=>by obtain⟨y,hy,_,q,_⟩:=REs.mem e3 x hx;obtain⟨v',h2,h3⟩:=hK y (ml _ hy);rw[h2]at q;have:=Ek q;rw[this];exact⟨h3,fun e=>hne y hy (by rw[h2,e])⟩
 refine⟨lp,e,lq,e1,e2,e3,e4,hek,e6,e7,?_⟩
 rw[e1,<-e2]
 exact ask_at hv hek hlp
theorem DJ{P:Program}{h:Hw}{w:World}{kt:TypeId}{es:List (Nat×D×D)}{kd:D}{l:List MapEntry}{key:Value}(hr:REs h w es l)
 (hK:∀x∈es,KOk P kt x.2.1) (hk:KOk P kt kd) (hne:∀x∈es,x.2.1≠kd) (hkr:RD h w kd key):Ask P kt key l none:=by
 obtain⟨v,rfl,hv⟩:=hk
 have hkv:key=v:=Ek hkr
 subst hkv
 refine ask_no hv fun x hx=>?_
 obtain⟨y,hy,_,q,_⟩:=REs.mem hr x hx
 obtain⟨v',h2,h3⟩:=hK y hy
 rw[h2]at q
 have e:=Ek q
 rw[e]
 exact⟨h3,fun e2=>hne y hy (by rw[h2,e2])⟩
def BW(s:St):A->Option (Nat×Nat×List (Nat×D×D))
 | .row n=>match lk s.B n with
  |some (.map clk es)=>some (n,clk,es)
  |_=>none
 |_=>none
theorem B6{s:St}{h w val}{a:Act}(H:AR s h w val a){x:A}{u:Value}(hr:RA h w val x u){n clk es}(he:BW s x=some (n,clk,es)):
 lk s.B n=some (.map clk es)/\∃b l,u=.map (some b)/\val n=.map (some b)/\w.heap[b]? =some (.map ⟨l⟩ clk)/\REs h w es l/\(∀x∈es,x.1<clk)/\(es.map (·.1)).Nodup/\(es.map (·.2.1)).Nodup/\h b=0:=by
 unfold BW at he
 split at he
 rename_i m
 split at he
 rename_i clk' es' hl
 simp only[oe,pe]at he
 obtain⟨rfl,rfl,rfl⟩:=he
 simp only[RA]at hr
 obtain⟨b,l,hv,rest⟩:=H.inv.rep _ (ml _ (Af hl))
 exact⟨hl,b,l,by rw[hr.1];exact hv,hv,rest⟩
 cases he
 cases he
theorem C3{w:World}{b g:Nat}{o:Obj}(hg:g≠b):({w with heap:=w.heap.setIfInBounds b o}:World).heap[g]? =w.heap[g]? :=by simp[Array.getElem?_setIfInBounds,Ne.symm hg]
theorem Rm{w:World}{b:Nat}{o o':Obj}(hb:w.heap[b]? =some o):({w with heap:=w.heap.setIfInBounds b o'}:World).heap[b]? =some o':=by have hlt:b<w.heap.size:=(Array.getElem?_eq_some_iff.1 hb).1;simp[hlt]
theorem Dk{s:St}{h:Hw}{w:World}{val:Val}{a:Act}(H:AR s h w val a){n clk clk':Nat}{es':List (Nat×D×D)}{b:Nat}{l l':List MapEntry}{bk bk':Bk}
 (hl:lk s.B n=some bk) (ho:bk.kd=1) (ho':bk'.kd=1) (hv:val n=.map (some b)) (hg:w.heap[b]? =some (.map ⟨l⟩ clk)) (h0:h b=0) (hr:REs h w es' l') (h1:∀x∈es',x.1<clk') (h2:(es'.map (·.1)).Nodup) (h3:(es'.map (·.2.1)).Nodup)
 (hb':∀w',RM h w' (val n) clk' es'->RB h w' val n bk'):
 AR {s with B:=BD s.B n bk'} h {w with heap:=w.heap.setIfInBounds b (.map ⟨l'⟩ clk')} val a/\Nx s h w val {s with B:=BD s.B n bk'} h {w with heap:=w.heap.setIfInBounds b (.map ⟨l'⟩ clk')} val:=by
 have hmem:(n,bk)∈s.all:=ml _ (Af hl)
 have hvb:BN (val n)=some b:=by rw[hv];rfl
 have hgM:b∈AZ val s.all:=Inv.blk_mem hmem (Ak hvb (Bk.kd_one ho).1)
 have hk:BI (AZ val s.all) h w h {w with heap:=w.heap.setIfInBounds b (.map ⟨l'⟩ clk')}:=⟨rfl,rfl,rfl,by simp,fun x i v _ hc=>by unfold World.cell? at hc⊢;by_cases e:x=b;subst e;simp only[hg]at hc;cases hc;simp only at hc⊢;rw[C3 e];exact hc,fun _ _=>Nat.le_refl _,fun x _ hn=>⟨C3 fun e=>hn (e▸hgM),rfl⟩⟩
 have hsame:∀b',(n,b')∈s.B->b'.kd=bk'.kd:=fun b2 hb2=>by have:=A0 H.inv.nms (ml _ hb2) hmem;rw[this,ho,ho']
 refine⟨⟨RAs.stays hk.stays _ _ _ H.e,⟨?_,?_,?_,(by first|exact H.inv.glob.stays hk.stays|exact H.inv.glob|exact I.glob|exact I.glob.stays k.stays|exact H.inv.glob.stays k.stays|exact hI.glob|exact hInv.glob|exact hI0.glob|exact hIX.glob|exact H'.inv.glob|exact hI.glob.stays hk.stays|exact H1.inv.glob|exact hIR.glob|exact H.glob|exact hI.glob.stays k.stays|exact h.inv.glob|exact H2.inv.glob|exact hI'.glob)⟩,H.far,H.defs.keep H.inv hk (fun b hb=>hb) rfl⟩,⟨hk,fun _ _=>rfl,fun b hb=>.inl ?_⟩⟩
 intro p hp
 rcases ma.1 hp with hp|hp
 rcases BG hp with rfl|⟨hp,hne⟩
 exact hb' _ ⟨b,l',hv,Rm hg,REs.stays hk.stays _ _ hr,h1,h2,h3,h0⟩
 refine RB.stays hk.stays (fun g hg'=>⟨C3 fun e=>?_,rfl⟩) (H.inv.rep p (ml _ hp))
 subst e
 have:=Ba H.inv.bks (ml _ hp) hmem hg' (Ak hvb (Bk.kd_one ho).1)
 rw[this]at hne
 exact hne rfl
 refine RB.stays hk.stays (fun g hg'=>⟨C3 fun e=>?_,rfl⟩) (H.inv.rep p (mr _ hp))
 subst e
 have e4:=Ba H.inv.bks (mr _ hp) hmem hg' (Ak hvb (Bk.kd_one ho).1)
 have hnd:=H.inv.nms
 simp only[St.all,AI]at hnd
 have m1:n∈AK s.B:=by simp only[AK,mm];exact⟨_,Af hl,rfl⟩
 have m2:n∈AK s.F:=by simp only[AK,mm];exact⟨p,hp,by rw[e4]⟩
 exact(List.nodup_append.1 hnd).2.2 n m1 n m2 rfl
 have:=H.inv.nms
 simpa only[St.all,AI,Ay]using this
 have:=H.inv.bks
 simpa only[St.all,AM,Ax hsame]using this
 simpa only[St.all,AM,Ax hsame]using hb
theorem map_set{s:St}{h:Hw}{w:World}{val:Val}{a:Act}(H:AR s h w val a){n clk clk':Nat}{es es':List (Nat×D×D)}{b:Nat}{l l':List MapEntry}
 (hl:lk s.B n=some (.map clk es)) (hv:val n=.map (some b)) (hg:w.heap[b]? =some (.map ⟨l⟩ clk)) (h0:h b=0) (hr:REs h w es' l') (h1:∀x∈es',x.1<clk') (h2:(es'.map (·.1)).Nodup) (h3:(es'.map (·.2.1)).Nodup):
 AR {s with B:=BD s.B n (.map clk' es')} h {w with heap:=w.heap.setIfInBounds b (.map ⟨l'⟩ clk')} val a/\Nx s h w val {s with B:=BD s.B n (.map clk' es')} h {w with heap:=w.heap.setIfInBounds b (.map ⟨l'⟩ clk')} val:=
 Dk H hl rfl rfl hv hg h0 hr h1 h2 h3 fun _ hm=>hm

def Vo(P:Program)(o:Oper)(s:St)(wt:W):Option (Cn×A×List Ed):=
 match o.op with
 | .makeMap _ none=>match o.dst with
  |some d=>if d<up&& !AQ d s.E&& !BL d s.B then some (.t,.row d,[.add d (.map 0 [])])else none
  |none=>none
 | .lookup t m k cok=>match BW s (s.ev m),toD (s.look (s.ev k)),P.underlying t,wt with
  |some (_,_,es),some kd,some (.map kt et),.mg vd ok=>match (P.info? et).bind (·.zero)with
   |some z=>if z.cells.toList.all (·.oneCell')then some (.pr (aCg P kt (CJ z) es kd vd ok),if cok then .tup [.d vd,bo ok]else .d vd,[])else none
   |none=>none
  |some (_,_,es),some kd,some (.map kt et),.bit false=>match (P.info? et).bind (·.zero),cok with
   |some (.slice none 0 0),false=>some (.pr (aCg P kt (.v (.bool false)) es kd (.v (.bool false)) false),.nil,[])
   |_,_=>none
  |_,_,_,_=>none
 | .mapUpdate t m k x=>match BW s (s.ev m),toD (s.look (s.ev k)),toD (s.look (s.ev x)),P.underlying t,wt with
  |some (n,clk,es),some kd,some vd,some (.map kt _),.mp clk' es'=>some (.pr (YK P kt es kd vd clk es' clk'),.any,[.chg n (.map clk' es')])
  |_,_,_,_,_=>none
 | .insert t m k x=>match BW s (s.ev m),toD (s.look (s.ev k)),toD (s.look (s.ev x)),P.underlying t,wt with
  |some (n,clk,es),some kd,some vd,some (.map kt _),.mp clk' es'=>some (.pr (YK P kt es kd vd clk es' clk'),.any,[.chg n (.map clk' es')])
  |_,_,_,_,_=>none
 | .mapEntry t m k=>match BW s (s.ev m),toD (s.look (s.ev k)),P.underlying t,wt with
  |some (n,clk,es),some kd,some (.map kt et),.me clk' es' v st=>match (P.info? et).bind (·.zero)with
   |some z=>if z.cells.toList.all (·.oneCell')then some (.pr (aHm P kt (CJ z) es kd clk es' clk' v st),.tup [.d v,.d (.v (.int .i64 st))],[.chg n (.map clk' es')])else none
   |none=>none
  |_,_,_,_=>none
 | .entryStore _ m st x=>match BW s (s.ev m),s.ev st,toD (s.look (s.ev x)),wt with
  |some (n,clk,es),.d (.v (.int .i64 i)),some vd,.mp _ es'=>some (.pr (aHo es i vd es'),.any,[.chg n (.map clk es')])
  |_,_,_,_=>none
 | .call c=>match c.callee,c.args.toList,c.argTypes.toList with
  | .builtin .delete,[m,k],[t,_]=>match BW s (s.ev m),toD (s.look (s.ev k)),P.underlying t,wt with
   |some (n,clk,es),some kd,some (.map kt _),.mp _ es'=>some (.pr (aG9 P kt es kd es'),.tup [],[.chg n (.map clk es')])
   |_,_,_,_=>none
  | .builtin .clear,[m],[t]=>match BW s (s.ev m),P.underlying t with
   |some (n,clk,_),some (.map _ _)=>some (.t,.tup [],[.chg n (.map clk [])])
   |_,_=>none
  | .builtin .len,[m],[t]=>match BW s (s.ev m),P.underlying t,wt with
   |some (_,_,es),some (.map _ _),.int n=>some (.pr (aHn es n),.d (.v (.int .i64 n)),[])
   |_,_,_=>none
  |_,_,_=>none
 |_=>none
theorem Hj(lp lq:List MapEntry)(e:MapEntry)(f:MapEntry->MapEntry){n:Nat}(hn:lp.length=n):(⟨lp++e::lq⟩:Array MapEntry).modify n f=⟨lp++f e::lq⟩:=by
 subst hn;apply Array.ext';rw[Array.toList_modify];show(lp++e::lq).modify lp.length f=lp++f e::lq;induction lp with
 |nil=>rfl
 |cons x lp ih=>simp only[List.cons_append,List.length_cons,List.modify_succ_cons,ih]
theorem Hk(l:List MapEntry)(x:MapEntry):(⟨l⟩:Array MapEntry).push x=⟨l++[x]⟩:=by apply Array.ext';simp
theorem KS(lp lq:List MapEntry)(e:MapEntry){n:Nat}(hn:lp.length=n):(⟨lp++e::lq⟩:Array MapEntry)[n]? =some e:=by subst hn;simp
theorem RO(lp lq:List MapEntry)(e:MapEntry){n:Nat}(hn:lp.length=n):(⟨lp++e::lq⟩:Array MapEntry).eraseIdxIfInBounds n=⟨lp++lq⟩:=by subst hn;apply Array.ext';simp[Array.eraseIdxIfInBounds,List.eraseIdx_append]
theorem W9{lp lq:List MapEntry}{e:MapEntry}{s:Nat}(h1:∀x∈lp,x.born≠s)(h2:e.born=s):(⟨lp++e::lq⟩:Array MapEntry).findIdx? (fun e=>(e.born:Int)==(s:Int))=some lp.length:=by
 rw[List.findIdx?_toArray,List.findIdx?_append];have:lp.findIdx? (fun e=>(e.born:Int)==(s:Int))=none:=by rw[List.findIdx?_eq_none_iff];intro x hx;have:=h1 x hx;simp;omega
 rw[this];simp[List.findIdx?_cons,h2]
theorem REs.set{h w}:∀{pre:List (Nat×D×D)} {lp:List MapEntry} {s:Nat} {kd vd:D} {post:List (Nat×D×D)} {lq:List MapEntry} {e:MapEntry},REs h w pre lp->e.born=s->RD h w kd e.key->RD h w vd e.val->REs h w post lq->REs h w (pre++(s,kd,vd)::post) (lp++e::lq):=
 fun h1 h2 h3 h4 h5=>REs.append h1 ⟨_,_,rfl,h2,h3,h4,h5⟩
theorem REs.one{h w}{s:Nat}{kd vd:D}{e:MapEntry}(h2:e.born=s)(h3:RD h w kd e.key)(h4:RD h w vd e.val):REs h w [(s,kd,vd)] [e]:=⟨_,_,rfl,h2,h3,h4,rfl⟩
theorem MI{pre post:List (Nat×D×D)}{s clk:Nat}{kd v0 vd:D}(h:∀x∈pre++(s,kd,v0)::post,x.1<clk):∀x∈pre++(s,kd,vd)::post,x.1<clk:=fun x hx=>by
 rcases ma.1 hx with g|g
 exact h x (by simp[g]);rcases mc.1 g with rfl|g
 exact h (s,kd,v0) (by simp);exact h x (by simp[g])
theorem MK{pre post:List (Nat×D×D)}{s:Nat}{kd v0 vd:D}(h:((pre++(s,kd,v0)::post).map (·.1)).Nodup):((pre++(s,kd,vd)::post).map (·.1)).Nodup:=by simpa using h
theorem Kk{es:List (Nat×D×D)}{clk:Nat}{kd vd:D}(h:∀x∈es,x.1<clk):∀x∈es++[(clk,kd,vd)],x.1<clk+1:=fun x hx=>by
 rcases ma.1 hx with g|g
 have:=h x g;omega;rw[List.mem_singleton]at g;subst g;exact Nat.lt_succ_self _
theorem Kp{es:List (Nat×D×D)}{clk:Nat}{kd vd:D}(h1:∀x∈es,x.1<clk)(h:(es.map (·.1)).Nodup):((es++[(clk,kd,vd)]).map (·.1)).Nodup:=by rw[List.map_append,List.nodup_append];refine⟨h,by simp,fun a ha b hb=>?_⟩;obtain⟨x,hx,rfl⟩:=mm.1 ha;simp only[List.map_cons,List.map_nil,List.mem_singleton]at hb;have:=h1 x hx;omega
theorem MB{pre post:List (Nat×D×D)}{s:Nat}{kd v0 vd:D}(h:((pre++(s,kd,v0)::post).map (·.2.1)).Nodup):((pre++(s,kd,vd)::post).map (·.2.1)).Nodup:=by simpa using h
theorem Kf{es:List (Nat×D×D)}{clk:Nat}{kd vd:D}(h1:∀x∈es,x.2.1≠kd)(h:(es.map (·.2.1)).Nodup):((es++[(clk,kd,vd)]).map (·.2.1)).Nodup:=by rw[List.map_append,List.nodup_append];refine⟨h,by simp,fun a ha b hb=>?_⟩;obtain⟨x,hx,rfl⟩:=mm.1 ha;simp only[List.map_cons,List.map_nil,List.mem_singleton]at hb;subst hb;exact h1 x hx
theorem Im{n:Nat}(h:n<=4611686018427387904):IntKind.i64.wrap (n:Int)=n:=IntWalk.i64_in _ ⟨by omega,by omega⟩

theorem Dj{P:Program}{s:St}{h:Hw}{w:World}{val:Val}{a:Act}(H:AR s h w val a){t kt et:TypeId}(ht:P.underlying t=some (.map kt et)){n clk clk':Nat}{es es':List (Nat×D×D)}{kd vd:D}{um key v:Value}
 (hm:BW s (.row n)=some (n,clk,es)) (hu:RA h w val (.row n) um) (hk:RD h w kd key) (hv:RD h w vd v) (hp:YK P kt es kd vd clk es' clk'):
 ∃w',(Instr.mapUpdate t um key v).run P w=.ok () w'/\AR {s with B:=BD s.B n (.map clk' es')} h w' val a/\Nx s h w val {s with B:=BD s.B n (.map clk' es')} h w' val:=by
 obtain⟨hl,b,l,rfl,hv0,hg,hr,q1,q2,q3,h0⟩:=B6 H hu hm
 obtain⟨hK,hkk,⟨rfl,pre,st,v0,post,rfl,hne,rfl⟩|⟨rfl,rfl,hne⟩⟩:=hp
 obtain⟨lp,e,lq,rfl,e2,e3,e4,e5,e6,e7,hd,hik,hf⟩:=EG hr hK hkk hne hk
 obtain⟨f1,f2⟩:=map_set H hl hv0 hg h0 (REs.set (s:=st) (kd:=kd) (vd:=vd) (e:={e with key:=key,val:=v}) e3 e4 hk hv e7) (MI q1) (MK q2) (MB q3)
 refine⟨_,?_,f1,f2⟩
 have ha:=KS lp lq e e2
 simp only[Instr.mapUpdate,Sem.run_bind,run_underlying ht,MapKept.run_getObj_map hg,hd,hf,Result.andThen_ok,ha,Option.map_some,Option.getD_some,e5,hik,Hj lp lq e _ e2,MapKept.run_setObj_map _ hg]
 obtain⟨hd,hik,hf⟩:=DJ hr hK hkk hne hk
 obtain⟨f1,f2⟩:=map_set H hl hv0 hg h0 (REs.append hr (REs.one (s:=clk) (kd:=kd) (vd:=vd) (e:=⟨key,v,clk⟩) rfl hk hv)) (Kk q1) (Kp q1 q2) (Kf hne q3)
 refine⟨_,?_,f1,f2⟩
 simp only[Instr.mapUpdate,Sem.run_bind,run_underlying ht,MapKept.run_getObj_map hg,hd,hf,Result.andThen_ok,MapKept.run_setObj_map _ hg,Hk]
theorem Di{s:St}{x:A}{n clk es}(h:BW s x=some (n,clk,es)):x=.row n:=by unfold BW at h;split at h;split at h;simp only[oe,pe]at h;rw[h.1];cases h;cases h
theorem IG{P:Program}{et:TypeId}{z:Value}(hz:(P.info? et).bind (·.zero)=some z)(w:World):(zeroValue et).run P w=.ok z w:=by simp only[Option.bind_eq_some_iff]at hz;obtain⟨i,hi,hz⟩:=hz;simp[zeroValue,typeInfo,hi,hz]
theorem W0{P:Program}{o:Oper}{s:St}{wt:W}{Φ:Cn}{r:A}{es:List Ed}(he:Vo P o s wt=some (Φ,r,es)):Dw P o s Φ.ok r (s.edit es):=by
 intro hΦ h w val a H K Q hK;unfold Vo at he;split at he;rename_i t ho;split at he;rename_i d hd;split at he;rename_i hc;simp only[ba,decide_eq_true_eq,Bool.not_eq_true']at hc;obtain⟨⟨c3,c4⟩,c5⟩:=hc;simp only[oe,pe]at he;obtain⟨rfl,rfl,rfl⟩:=he;have hvd:Al val d (.map (some w.heap.size)) d=.map (some w.heap.size):=by simp[Al]
 obtain⟨f1,f2⟩:=H.fresh c3 c4 c5 (.map #[] 0) (.map (some w.heap.size)) 0 (.map 0 []) rfl rfl
  ⟨w.heap.size,[],hvd,heap_alloc_new w _,rfl,by simp,by simp,by simp,by simp[Do]⟩
 refine AO (u:=.map (some w.heap.size)) (w':=w.alloc (.map #[] 0)) ?_ (hK _ _ _ _ (by simp only[RA];exact⟨hvd.symm,.inr ⟨_,rfl⟩⟩) f1.ins f2.ins);simp[execOp,ho,Instr.makeMap];cases he;cases he;rename_i t m k cok ho;split at he;rename_i n clk es kd kt et vd ok hm hk ht;split at he;rename_i z hz;split at he;rename_i hz1;simp only[oe,pe]at he;obtain⟨rfl,rfl,rfl⟩:=he;have hx:=Di hm;have hu:=H.ev m;obtain⟨hl,b,l,hum,hv0,hg,hr,q1,q2,q3,h0⟩:=B6 H hu hm;have hkr:=Bl hk (H.look (H.ev k));have hzr:(zeroValue et).run P w=.ok z w:=IG hz w;obtain⟨hKs,hkk,hcase⟩:=hΦ;have key:∃v,(Instr.lookup t (a.eval m) (a.eval k) cok).run P w=.ok (if cok then .tuple #[v,.bool ok]else v) w/\RD h w vd v:=by
  rcases hcase with⟨rfl,pre,st,post,rfl,hne⟩|⟨rfl,rfl,hne⟩
  obtain⟨lp,e,lq,rfl,e2,e3,e4,e5,e6,e7,hd,hik,hf⟩:=EG hr hKs hkk hne hkr;refine⟨e.val,?_,e6⟩;rw[hum];cases cok<;>simp[Instr.lookup,run_underlying ht,MapKept.run_getObj_map hg,hd,hf];obtain⟨hd,hik,hf⟩:=DJ hr hKs hkk hne hkr;refine⟨z,?_,HC fun x hx=>List.all_eq_true.1 hz1 x hx⟩;rw[hum];cases cok<;>simp[Instr.lookup,run_underlying ht,MapKept.run_getObj_map hg,hd,hf,hzr]
 obtain⟨v,hrun,hvr⟩:=key;refine AO (u:=if cok then .tuple #[v,.bool ok]else v) (w':=w) ?_ (hK h w val _ ?_ H (Nx.refl s h w val rfl))
 simp[execOp,ho,hrun];cases cok;simp only[Bool.false_eq_true,if_false,RA];exact hvr;simp only[if_true,RA,RAs];exact⟨[v,.bool ok],rfl,v,[.bool ok],rfl,hvr,.bool ok,[],rfl,by simp[bo,RA,RD,Value.oneCell'],rfl⟩;cases he;cases he;rename_i n clk es kd kt et hm hk ht;split at he;rename_i hz;simp only[oe,pe]at he;obtain⟨rfl,rfl,rfl⟩:=he;have hx:=Di hm;have hu:=H.ev m;obtain⟨hl,b,l,hum,hv0,hg,hr,q1,q2,q3,h0⟩:=B6 H hu hm;have hkr:=Bl hk (H.look (H.ev k));have hzr:(zeroValue et).run P w=.ok (.slice none 0 0) w:=IG hz w;obtain⟨hKs,hkk,hcase⟩:=hΦ;rcases hcase with⟨hq,_⟩|⟨_,_,hne⟩
 cases hq;obtain⟨hd,hik,hf⟩:=DJ hr hKs hkk hne hkr;refine AO (u:=.slice none 0 0) (w':=w) ?_ (hK h w val _ (by simp only[RA]) H (Nx.refl s h w val rfl));have hrun:(Instr.lookup t (a.eval m) (a.eval k) false).run P w=.ok (.slice none 0 0) w:=by rw[hum];simp[Instr.lookup,run_underlying ht,MapKept.run_getObj_map hg,hd,hf,hzr]
 simp[execOp,ho,hrun];cases he;cases he;rename_i t m k x ho;split at he;rename_i n clk es kd vd kt et clk' es' hm hk hv ht;simp only[oe,pe]at he;obtain⟨rfl,rfl,rfl⟩:=he;have hx:=Di hm;obtain⟨w',hrun,f1,f2⟩:=Dj H ht (um:=a.eval m) (by rw[<-hx];exact hm) (by rw[<-hx];exact H.ev m) (Bl hk (H.look (H.ev k))) (Bl hv (H.look (H.ev x))) hΦ;exact BY (w':=w') (by simp[execOp,ho,hrun]) (hK h _ val undef (by simp[RA]) f1 f2);cases he;rename_i t m k x ho;split at he;rename_i n clk es kd vd kt et clk' es' hm hk hv ht;simp only[oe,pe]at he;obtain⟨rfl,rfl,rfl⟩:=he;have hx:=Di hm;obtain⟨w',hrun,f1,f2⟩:=Dj H ht (um:=a.eval m) (by rw[<-hx];exact hm) (by rw[<-hx];exact H.ev m) (Bl hk (H.look (H.ev k))) (Bl hv (H.look (H.ev x))) hΦ;exact BY (w':=w') (by simp[execOp,ho,hrun]) (hK h _ val undef (by simp[RA]) f1 f2);cases he;rename_i t m k ho;split at he;rename_i n clk es kd kt et clk' es' v st hm hk ht;split at he;rename_i z hz;split at he;rename_i hz1;simp only[oe,pe]at he;obtain⟨rfl,rfl,rfl⟩:=he;obtain⟨hl,b,l,hum,hv0,hg,hr,q1,q2,q3,h0⟩:=B6 H (H.ev m) hm;have hkr:=Bl hk (H.look (H.ev k));have hzr:(zeroValue et).run P w=.ok z w:=IG hz w;have hzd:=HC (h:=h) (w:=w) fun x hx=>List.all_eq_true.1 hz1 x hx;obtain⟨hKs,hkk,hst,hcase⟩:=hΦ;have h63:=Im hst;have key:∃v' w',(Instr.mapEntry t (a.eval m) (a.eval k)).run P w=.ok (.tuple #[v',.int .i64 st]) w'/\RD h w' v v'/\AR {s with B:=BD s.B n (.map clk' es')} h w' val a/\Nx s h w val {s with B:=BD s.B n (.map clk' es')} h w' val:=by
  rcases hcase with⟨rfl,rfl,pre,post,rfl,hne⟩|⟨rfl,rfl,rfl,rfl,hne⟩
  obtain⟨lp,e,lq,rfl,e2,e3,e4,e5,e6,e7,hd,hik,hf⟩:=EG hr hKs hkk hne hkr;obtain⟨f1,f2⟩:=map_set H hl hv0 hg h0 (REs.set (s:=st) (kd:=kd) (vd:=v) (e:={e with key:=a.eval k}) e3 e4 hkr e6 e7) (MI q1) (MK q2) (MB q3)
  refine⟨e.val,_,?_,RD.stays f2.keep.stays _ _ e6,f1,f2⟩;have ha:=KS lp lq e e2;rw[hum];simp only[Instr.mapEntry,Sem.run_bind,run_underlying ht,MapKept.run_getObj_map hg,hd,hf,Result.andThen_ok,ha,Option.map_some,Option.getD_some,e5,hik,Hj lp lq e _ e2,MapKept.run_setObj_map _ hg,Sem.run_pure,goInt,e4,h63];obtain⟨hd,hik,hf⟩:=DJ hr hKs hkk hne hkr;obtain⟨f1,f2⟩:=map_set H hl hv0 hg h0 (REs.append hr (REs.one (s:=st) (kd:=kd) (vd:=CJ z) (e:=⟨a.eval k,z,st⟩) rfl hkr hzd)) (Kk q1) (Kp q1 q2) (Kf hne q3);refine⟨z,_,?_,RD.stays f2.keep.stays _ _ hzd,f1,f2⟩;rw[hum];simp only[Instr.mapEntry,Sem.run_bind,run_underlying ht,MapKept.run_getObj_map hg,hd,hf,hzr,Result.andThen_ok,MapKept.run_setObj_map _ hg,Sem.run_pure,goInt,h63,Hk]
 obtain⟨v',w',hrun,hvr,f1,f2⟩:=key;refine AO (u:=.tuple #[v',.int .i64 st]) (w':=w') ?_ (hK h w' val _ ?_ f1 f2);simp[execOp,ho,hrun];simp only[RA,RAs];exact⟨[v',.int .i64 st],rfl,v',[.int .i64 st],rfl,hvr,.int .i64 st,[],rfl,by simp[RD,Value.oneCell'],rfl⟩;cases he;cases he;cases he;rename_i t m st x ho;split at he;rename_i n clk es i vd clk' es' hm hst hv;simp only[oe,pe]at he;obtain⟨rfl,rfl,rfl⟩:=he;obtain⟨hl,b,l,hum,hv0,hg,hr,q1,q2,q3,h0⟩:=B6 H (H.ev m) hm;have hvr:=Bl hv (H.look (H.ev x));obtain⟨pre,st',kd,v0,post,rfl,rfl,hne,rfl⟩:=hΦ;have hi:=H.ev st;rw[hst]at hi;simp only[RA,RD]at hi;obtain⟨lp,e,lq,rfl,e2,e3,e4,e5,e6,e7⟩:=REs.split hr;obtain⟨f1,f2⟩:=map_set H hl hv0 hg h0 (REs.set (s:=st') (kd:=kd) (vd:=vd) (e:={e with val:=a.eval x}) e3 e4 e5 hvr e7) (MI q1) (MK q2) (MB q3)
 have hlp:∀x∈lp,x.born≠st':=fun x hx=>by obtain⟨y,hy,q,_⟩:=REs.mem e3 x hx;rw[q];exact hne y hy
 refine BY (w':=_) ?_ (hK h _ val undef (by simp[RA]) f1 f2);simp only[execOp,ho,hum,hi.1,Instr.entryStore,Sem.run_bind,MapKept.run_getObj_map hg,asInt,asIntOf,Sem.run_pure,Result.andThen_ok,W9 hlp e4,Hj lp lq e _ rfl,MapKept.run_setObj_map _ hg];cases he;rename_i c ho;obtain⟨callee,⟨args⟩,⟨tys⟩⟩:=c;simp only at he;split at he;rename_i m k t t2;split at he;rename_i n clk es kd kt et clk' es' hm hk ht;simp only[oe,pe]at he;obtain⟨rfl,rfl,rfl⟩:=he;obtain⟨hl,b,l,hum,hv0,hg,hr,q1,q2,q3,h0⟩:=B6 H (H.ev m) hm;have hkr:=Bl hk (H.look (H.ev k));obtain⟨hKs,hkk,⟨pre,st,v0,post,rfl,hne,rfl⟩|⟨rfl,hne⟩⟩:=hΦ;obtain⟨lp,e,lq,rfl,e2,e3,e4,e5,e6,e7,hd,hik,hf⟩:=EG hr hKs hkk hne hkr;obtain⟨f1,f2⟩:=map_set H hl hv0 hg h0 (REs.append e3 e7) (clk':=clk) (fun x hx=>q1 x (by
  rcases ma.1 hx with g|g<;>simp[g])) (by
  have:(pre++post).Sublist (pre++(st,kd,v0)::post):=List.Sublist.append (List.Sublist.refl _) (List.sublist_cons_self _ _);exact(this.map _).nodup q2) (by
  have:(pre++post).Sublist (pre++(st,kd,v0)::post):=List.Sublist.append (List.Sublist.refl _) (List.sublist_cons_self _ _);exact(this.map _).nodup q3)
 refine AO (u:=.tuple #[]) (w':=_) ?_ (hK h _ val _ (by simp[RA,RAs]) f1 f2);simp[execOp,ho,resolve,invoke,builtin,Builtin.delete_,run_underlying ht,hum,MapKept.run_getObj_map hg,hd,hf,MapKept.run_setObj_map _ hg];have:=RO lp lq e e2;simp only[List.eraseIdxIfInBounds_toArray]at this;first|rw[this]|rw[<-e2,List.eraseIdx_append_of_length_le (Nat.le_refl _),Nat.sub_self];rfl
 obtain⟨hd,hik,hf⟩:=DJ hr hKs hkk hne hkr;obtain⟨f1,f2⟩:=map_set H hl hv0 hg h0 hr q1 q2 q3;refine AO (u:=.tuple #[]) (w':=_) ?_ (hK h _ val _ (by simp[RA,RAs]) f1 f2);simp[execOp,ho,resolve,invoke,builtin,Builtin.delete_,run_underlying ht,hum,MapKept.run_getObj_map hg,hd,hf,MapKept.run_setObj_map _ hg];cases he;rename_i m t;split at he;rename_i n clk es kt et hm ht;simp only[oe,pe]at he;obtain⟨rfl,rfl,rfl⟩:=he;obtain⟨hl,b,l,hum,hv0,hg,hr,q1,q2,q3,h0⟩:=B6 H (H.ev m) hm;obtain⟨f1,f2⟩:=map_set H hl hv0 hg h0 (es':=[]) (l':=[]) (clk':=clk) rfl (by simp) (by simp) (by simp);refine AO (u:=.tuple #[]) (w':=_) ?_ (hK h _ val _ (by simp[RA,RAs]) f1 f2);simp[execOp,ho,resolve,invoke,builtin,Builtin.clear_,run_underlying ht,hum,MapKept.run_getObj_map hg,MapKept.run_setObj_map _ hg];cases he;rename_i m t;split at he;rename_i n clk es kt et n' hm ht;simp only[oe,pe]at he;obtain⟨rfl,rfl,rfl⟩:=he;obtain⟨hl,b,l,hum,hv0,hg,hr,q1,q2,q3,h0⟩:=B6 H (H.ev m) hm;obtain⟨rfl,hn⟩:=hΦ;have h63:=Im (n:=es.length) (by omega);refine AO (u:=.int .i64 es.length) (w':=w) ?_ (hK h w val _ (by simp[RA,RD,Value.oneCell']) H (Nx.refl s h w val rfl));have hlen:l.length=es.length:=REs.length hr;simp[execOp,ho,resolve,invoke,builtin,Builtin.len_,run_underlying ht,hum,MapKept.run_getObj_map hg,goInt,hlen,h63];cases he;cases he;cases he
end Go.Ac
namespace Go.Ac
open Go.MapKept
def Sj(P:Program)(kt:TypeId)(S:List (D×D))(kd vd:D)(S':List (D×D)):Prop:=
 (∀x∈S,KOk P kt x.1)/\KOk P kt kd/\((∃(pre:List (D×D)) (v0:D) (post:List (D×D)),S=pre++(kd,v0)::post/\S'=pre++(kd,vd)::post)\/(S'=S++[(kd,vd)]/\∀x∈S,x.1≠kd))
def YJ(P:Program)(kt:TypeId)(S:List (D×D))(kd:D)(S':List (D×D)):Prop:=
 (∀x∈S,KOk P kt x.1)/\KOk P kt kd/\((∃(pre:List (D×D)) (v0:D) (post:List (D×D)),S=pre++(kd,v0)::post/\S'=pre++post)\/(S'=S/\∀x∈S,x.1≠kd))
theorem MV{es:List (Nat×D×D)}{kd v0:D}(hn:(es.map (·.2.1)).Nodup)(h:(kd,v0)∈es.map (·.2)):∃(pre:List (Nat×D×D)) (s:Nat) (post:List (Nat×D×D)),es=pre++(s,kd,v0)::post/\∀x∈pre,x.2.1≠kd:=by obtain⟨⟨s,p⟩,hx,e⟩:=mm.1 h;simp only at e;subst e;obtain⟨pre,post,rfl⟩:=List.append_of_mem hx;refine⟨pre,s,post,rfl,fun x hx e=>?_⟩;rw[List.map_append,List.map_cons,List.nodup_append]at hn;exact hn.2.2 _ (List.mem_map_of_mem hx) _ (by simp) e
theorem MQ{pre post pre' post':List (D×D)}{x:D×D}(h:(pre++x::post).Perm (pre'++x::post')):(pre++post).Perm (pre'++post'):=
 ((List.perm_middle.symm.trans h).trans List.perm_middle).cons_inv
theorem SF{P:Program}{kt:TypeId}{clk:Nat}{es:List (Nat×D×D)}{S S':List (D×D)}{kd vd:D}(hn:(es.map (·.2.1)).Nodup)(hp:(es.map (·.2)).Perm S)(h:Sj P kt S kd vd S'):
 ∃clk' es',YK P kt es kd vd clk es' clk'/\(es'.map (·.2)).Perm S':=by
 obtain⟨hK,hk,hc⟩:=h
 have hK':∀x∈es,KOk P kt x.2.1:=fun x hx=>hK x.2 (hp.mem_iff.1 (List.mem_map_of_mem hx))
 rcases hc with⟨pre,v0,post,rfl,rfl⟩|⟨rfl,hne⟩
 obtain⟨pre2,s,post2,rfl,hne⟩:=MV (kd:=kd) (v0:=v0) hn (hp.mem_iff.2 (by simp))
 refine⟨clk,pre2++(s,kd,vd)::post2,⟨hK',hk,.inl ⟨rfl,pre2,s,v0,post2,rfl,hne,rfl⟩⟩,?_⟩
 rw[List.map_append,List.map_cons]at hp⊢
 have:=MQ hp
 exact List.perm_middle.trans ((List.Perm.cons _ this).trans List.perm_middle.symm)
 refine⟨clk+1,es++[(clk,kd,vd)],⟨hK',hk,.inr ⟨rfl,rfl,fun x hx e=>?_⟩⟩,?_⟩
 exact hne x.2 (hp.mem_iff.1 (List.mem_map_of_mem hx)) e
 rw[List.map_append]
 exact hp.append_right _
theorem Ri{P:Program}{kt:TypeId}{es:List (Nat×D×D)}{S S':List (D×D)}{kd:D}(hn:(es.map (·.2.1)).Nodup)(hp:(es.map (·.2)).Perm S)(h:YJ P kt S kd S'):
 ∃es',aG9 P kt es kd es'/\(es'.map (·.2)).Perm S':=by
 obtain⟨hK,hk,hc⟩:=h
 have hK':∀x∈es,KOk P kt x.2.1:=fun x hx=>hK x.2 (hp.mem_iff.1 (List.mem_map_of_mem hx))
 rcases hc with⟨pre,v0,post,rfl,rfl⟩|⟨rfl,hne⟩
 obtain⟨pre2,s,post2,rfl,hne⟩:=MV (kd:=kd) (v0:=v0) hn (hp.mem_iff.2 (by simp))
 refine⟨pre2++post2,⟨hK',hk,.inl ⟨pre2,s,v0,post2,rfl,hne,rfl⟩⟩,?_⟩
 rw[List.map_append,List.map_cons]at hp
 rw[List.map_append]
 exact MQ hp
 exact⟨es,⟨hK',hk,.inr ⟨rfl,fun x hx e=>hne x.2 (hp.mem_iff.1 (List.mem_map_of_mem hx)) e⟩⟩,hp⟩
def CH(s:St):A->Option (Nat×List (D×D))
 | .row n=>match lk s.B n with
  |some (.mapS S)=>some (n,S)
  |_=>none
 |_=>none
theorem Ix{s:St}{h w val}{a:Act}(H:AR s h w val a){x:A}{u:Value}(hr:RA h w val x u){n S}(he:CH s x=some (n,S)):
 lk s.B n=some (.mapS S)/\∃clk es b l,(es.map (·.2)).Perm S/\u=.map (some b)/\val n=.map (some b)/\w.heap[b]? =some (.map ⟨l⟩ clk)/\REs h w es l/\(∀x∈es,x.1<clk)/\(es.map (·.1)).Nodup/\(es.map (·.2.1)).Nodup/\h b=0:=by
 unfold CH at he
 split at he
 rename_i m
 split at he
 rename_i S' hl
 simp only[oe,pe]at he
 obtain⟨rfl,rfl⟩:=he
 simp only[RA]at hr
 obtain⟨clk,es,⟨b,l,hv,rest⟩,hp⟩:=H.inv.rep _ (ml _ (Af hl))
 exact⟨hl,clk,es,b,l,hp,by rw[hr.1];exact hv,hv,rest⟩
 cases he
 cases he
def Hi(P:Program)(o:Oper)(s:St)(wt:W):Option (Cn×A×List Ed):=
 match o.op with
 | .makeMap _ none=>match o.dst with
  |some d=>if d<up&& !AQ d s.E&& !BL d s.B then some (.t,.row d,[.add d (.mapS [])])else none
  |none=>none
 | .mapUpdate t m k x=>match CH s (s.ev m),toD (s.look (s.ev k)),toD (s.look (s.ev x)),P.underlying t,wt with
  |some (n,S),some kd,some vd,some (.map kt _),.ms S'=>some (.pr (Sj P kt S kd vd S'),.any,[.chg n (.mapS S')])
  |_,_,_,_,_=>none
 | .insert t m k x=>match CH s (s.ev m),toD (s.look (s.ev k)),toD (s.look (s.ev x)),P.underlying t,wt with
  |some (n,S),some kd,some vd,some (.map kt _),.ms S'=>some (.pr (Sj P kt S kd vd S'),.any,[.chg n (.mapS S')])
  |_,_,_,_,_=>none
 | .call c=>match c.callee,c.args.toList,c.argTypes.toList with
  | .builtin .delete,[m,k],[t,_]=>match CH s (s.ev m),toD (s.look (s.ev k)),P.underlying t,wt with
   |some (n,S),some kd,some (.map kt _),.ms S'=>some (.pr (YJ P kt S kd S'),.tup [],[.chg n (.mapS S')])
   |_,_,_,_=>none
  |_,_,_=>none
 |_=>none
theorem DB{P:Program}{s:St}{h:Hw}{w:World}{val:Val}{a:Act}(H:AR s h w val a){t kt et:TypeId}(ht:P.underlying t=some (.map kt et)){n:Nat}{S S':List (D×D)}{kd vd:D}{x:A}{um key v:Value}
 (hm:CH s x=some (n,S)) (hu:RA h w val x um) (hk:RD h w kd key) (hv:RD h w vd v) (hp:Sj P kt S kd vd S'):
 ∃w',(Instr.mapUpdate t um key v).run P w=.ok () w'/\AR {s with B:=BD s.B n (.mapS S')} h w' val a/\Nx s h w val {s with B:=BD s.B n (.mapS S')} h w' val:=by
 obtain⟨hl,clk,es,b,l,hpm,rfl,hv0,hg,hr,q1,q2,q3,h0⟩:=Ix H hu hm
 obtain⟨clk',es',hput,hpm'⟩:=SF (clk:=clk) q3 hpm hp
 obtain⟨hK,hkk,⟨rfl,pre,st,v0,post,rfl,hne,rfl⟩|⟨rfl,rfl,hne⟩⟩:=hput
 obtain⟨lp,e,lq,rfl,e2,e3,e4,e5,e6,e7,hd,hik,hf⟩:=EG hr hK hkk hne hk
 obtain⟨f1,f2⟩:=Dk H hl rfl (bk':=.mapS S') rfl hv0 hg h0 (REs.set (s:=st) (kd:=kd) (vd:=vd) (e:={e with key:=key,val:=v}) e3 e4 hk hv e7) (MI q1) (MK q2) (MB q3) (fun w' hm'=>⟨_,_,hm',hpm'⟩)
 refine⟨_,?_,f1,f2⟩
 have ha:=KS lp lq e e2
 simp only[Instr.mapUpdate,Sem.run_bind,run_underlying ht,MapKept.run_getObj_map hg,hd,hf,Result.andThen_ok,ha,Option.map_some,Option.getD_some,e5,hik,Hj lp lq e _ e2,MapKept.run_setObj_map _ hg]
 obtain⟨hd,hik,hf⟩:=DJ hr hK hkk hne hk
 obtain⟨f1,f2⟩:=Dk H hl rfl (bk':=.mapS S') rfl hv0 hg h0 (REs.append hr (REs.one (s:=clk) (kd:=kd) (vd:=vd) (e:=⟨key,v,clk⟩) rfl hk hv)) (Kk q1) (Kp q1 q2) (Kf hne q3) (fun w' hm'=>⟨_,_,hm',hpm'⟩)
 refine⟨_,?_,f1,f2⟩
 simp only[Instr.mapUpdate,Sem.run_bind,run_underlying ht,MapKept.run_getObj_map hg,hd,hf,Result.andThen_ok,MapKept.run_setObj_map _ hg,Hk]
theorem L2{P:Program}{o:Oper}{s:St}{wt:W}{Φ:Cn}{r:A}{es:List Ed}(he:Hi P o s wt=some (Φ,r,es)):Dw P o s Φ.ok r (s.edit es):=by
 intro hΦ h w val a H K Q hK;unfold Hi at he;split at he;rename_i t ho;split at he;rename_i d hd;split at he;rename_i hc;simp only[ba,decide_eq_true_eq,Bool.not_eq_true']at hc;obtain⟨⟨c3,c4⟩,c5⟩:=hc;simp only[oe,pe]at he;obtain⟨rfl,rfl,rfl⟩:=he;have hvd:Al val d (.map (some w.heap.size)) d=.map (some w.heap.size):=by simp[Al]
 obtain⟨f1,f2⟩:=H.fresh c3 c4 c5 (.map #[] 0) (.map (some w.heap.size)) 0 (.mapS []) rfl rfl
  ⟨0,[],⟨w.heap.size,[],hvd,heap_alloc_new w _,rfl,by simp,by simp,by simp,by simp[Do]⟩,by simp⟩
 refine AO (u:=.map (some w.heap.size)) (w':=w.alloc (.map #[] 0)) ?_ (hK _ _ _ _ (by simp only[RA];exact⟨hvd.symm,.inr ⟨_,rfl⟩⟩) f1.ins f2.ins);simp[execOp,ho,Instr.makeMap];cases he;cases he;rename_i t m k x ho;split at he;rename_i n S kd vd kt et S' hm hk hv ht;simp only[oe,pe]at he;obtain⟨rfl,rfl,rfl⟩:=he;obtain⟨w',hrun,f1,f2⟩:=DB H ht (um:=a.eval m) hm (H.ev m) (Bl hk (H.look (H.ev k))) (Bl hv (H.look (H.ev x))) hΦ;exact BY (w':=w') (by simp[execOp,ho,hrun]) (hK h _ val undef (by simp[RA]) f1 f2);cases he;rename_i t m k x ho;split at he;rename_i n S kd vd kt et S' hm hk hv ht;simp only[oe,pe]at he;obtain⟨rfl,rfl,rfl⟩:=he;obtain⟨w',hrun,f1,f2⟩:=DB H ht (um:=a.eval m) hm (H.ev m) (Bl hk (H.look (H.ev k))) (Bl hv (H.look (H.ev x))) hΦ;exact BY (w':=w') (by simp[execOp,ho,hrun]) (hK h _ val undef (by simp[RA]) f1 f2);cases he;rename_i c ho;obtain⟨callee,⟨args⟩,⟨tys⟩⟩:=c;simp only at he;split at he;rename_i m k t t2;split at he;rename_i n S kd kt et S' hm hk ht;simp only[oe,pe]at he;obtain⟨rfl,rfl,rfl⟩:=he;obtain⟨hl,clk,es,b,l,hpm,hum,hv0,hg,hr,q1,q2,q3,h0⟩:=Ix H (H.ev m) hm;have hkr:=Bl hk (H.look (H.ev k));obtain⟨es',hdel,hpm'⟩:=Ri q3 hpm hΦ;obtain⟨hKs,hkk,⟨pre,st,v0,post,rfl,hne,rfl⟩|⟨rfl,hne⟩⟩:=hdel;obtain⟨lp,e,lq,rfl,e2,e3,e4,e5,e6,e7,hd,hik,hf⟩:=EG hr hKs hkk hne hkr;have hsub:(pre++post).Sublist (pre++(st,kd,v0)::post):=List.Sublist.append (List.Sublist.refl _) (List.sublist_cons_self _ _);obtain⟨f1,f2⟩:=Dk H hl rfl (bk':=.mapS S') rfl hv0 hg h0 (REs.append e3 e7) (clk':=clk) (fun x hx=>q1 x (hsub.subset hx)) ((hsub.map _).nodup q2) ((hsub.map _).nodup q3) (fun w' hm'=>⟨_,_,hm',hpm'⟩);refine AO (u:=.tuple #[]) (w':=_) ?_ (hK h _ val _ (by simp[RA,RAs]) f1 f2);simp[execOp,ho,resolve,invoke,builtin,Builtin.delete_,run_underlying ht,hum,MapKept.run_getObj_map hg,hd,hf,MapKept.run_setObj_map _ hg];have:=RO lp lq e e2;simp only[List.eraseIdxIfInBounds_toArray]at this;first|rw[this]|rw[<-e2,List.eraseIdx_append_of_length_le (Nat.le_refl _),Nat.sub_self];rfl
 obtain⟨hd,hik,hf⟩:=DJ hr hKs hkk hne hkr;obtain⟨f1,f2⟩:=Dk H hl rfl (bk':=.mapS S') rfl hv0 hg h0 hr q1 q2 q3 (fun w' hm'=>⟨_,_,hm',hpm'⟩);refine AO (u:=.tuple #[]) (w':=_) ?_ (hK h _ val _ (by simp[RA,RAs]) f1 f2);simp[execOp,ho,resolve,invoke,builtin,Builtin.delete_,run_underlying ht,hum,MapKept.run_getObj_map hg,hd,hf,MapKept.run_setObj_map _ hg];cases he;cases he;cases he
end Go.Ac
namespace Go.Ac
open Go.MapKept
theorem REs.mem'{h w}:∀{xs:List (Nat×D×D)} {l:List MapEntry},REs h w xs l->∀x∈xs,∃e∈l,e.born=x.1/\RD h w x.2.1 e.key/\RD h w x.2.2 e.val
 |[],_,_,x,hx=>by simp at hx
 |y::xs,_,⟨e0,l',a,b,c,d,r⟩,x,hx=>by
  subst a;rcases mc.1 hx with rfl|hx
  exact⟨e0,by simp,b,c,d⟩;obtain⟨e,he,q⟩:=REs.mem' r x hx;exact⟨e,by simp[he],q⟩
def aHl(clk clk':Nat)(es:List (Nat×D×D))(seen:List Nat)(k v:D):Prop:=clk=clk'/\∃sn st,seen=sn++[st]/\(st,k,v)∈es
def aG2(P:Program)(o:Oper)(s:St)(wt:W):Option (Cn×A×List Ed):=
 match o.op with
 | .range t x=>match BW s (s.ev x),P.underlying t,o.dst with
  |some (n,clk,_),some (.map _ _),some d=>if d<up&& !AQ d s.E&& !BL d s.B then some (.t,.box d 0,[.add d (.mit n clk [])])else none
  |_,_,_=>none
 | .entry it=>match s.ev it,wt with
  | .box d 0,.en k v=>match lk s.B d with
   |some (.mit n clk seen)=>match lk s.B n with
    |some (.map clk' es)=>some (.pr (aHl clk clk' es seen k v),.tup [.d k,.d v],[])
    |_=>none
   |_=>none
  |_,_=>none
 |_=>none
theorem XP(l:List Nat)(x:Nat):(⟨l⟩:Array Nat).push x=⟨l++[x]⟩:=by apply Array.ext';simp
theorem W2{P:Program}{o:Oper}{s:St}{wt:W}{Φ:Cn}{r:A}{es:List Ed}(he:aG2 P o s wt=some (Φ,r,es)):Dw P o s Φ.ok r (s.edit es):=by
 intro hΦ h w val a H K Q hK;unfold aG2 at he;split at he;rename_i t x ho;split at he;rename_i n clk es0 kt et d hm ht hd;split at he;rename_i hc;simp only[ba,decide_eq_true_eq,Bool.not_eq_true']at hc;obtain⟨⟨c3,c4⟩,c5⟩:=hc;simp only[oe,pe]at he;obtain⟨rfl,rfl,rfl⟩:=he;obtain⟨hl,b,l,hum,hv0,hg,hr,q1,q2,q3,h0⟩:=B6 H (H.ev x) hm;have hnd:n≠d:=fun e=>(BK c5 _ (Af hl)).1 e;have hvd:Al val d (.pointer (some ⟨w.heap.size,0,none⟩)) d=.pointer (some ⟨w.heap.size,0,none⟩):=by simp[Al]
 obtain⟨f1,f2⟩:=H.fresh c3 c4 c5 (.mapIter (some b) clk #[] clk) (.pointer (some ⟨w.heap.size,0,none⟩)) 0 (.mit n clk []) rfl rfl
  ⟨w.heap.size,b,hvd,by simp only[Al,hnd,if_false];exact hv0,heap_alloc_new w _⟩
 refine AO (u:=.pointer (some ⟨w.heap.size,0,none⟩)) (w':=w.alloc (.mapIter (some b) clk #[] clk)) ?_ (hK _ _ _ _ (by simp only[RA];exact⟨_,hvd,rfl⟩) f1.ins f2.ins);simp[execOp,ho,Instr.range,run_underlying ht,hum,MapKept.run_getObj_map hg];cases he;cases he;rename_i it ho;split at he;rename_i d k v hit;split at he;rename_i n clk seen hl;split at he;rename_i clk' es0 hl2;simp only[oe,pe]at he;obtain⟨rfl,rfl,rfl⟩:=he;obtain⟨rfl,sn,st,rfl,hmem⟩:=hΦ;obtain⟨r,b,e1,e2,e3⟩:=H.inv.rep _ (ml _ (Af hl));obtain⟨b',l,g1,g2,g3,g4,g5,g6,g7⟩:=H.inv.rep _ (ml _ (Af hl2));simp only at e1 e2 g1;have hb:b=b':=by rw[e2]at g1;cases g1;rfl
 subst hb;have hi:=H.ev it;rw[hit]at hi;simp only[RA]at hi;obtain⟨r',i1,i2⟩:=hi;have hr':r'=r:=by rw[e1]at i1;cases i1;rfl
 subst hr';obtain⟨e,he,f1,f2,f3⟩:=REs.mem' g3 _ hmem;simp only at f1;have hrun:=run_entry_at (P:=P) w r' b clk ⟨sn⟩ ⟨l⟩ clk e (by rw[XP,f1];exact e3) g2 he (by rw[REs.born g3];exact g5);refine AO (u:=.tuple #[e.key,e.val]) (w':=w) ?_ (hK h w val _ ?_ H (Nx.refl s h w val rfl));simp[execOp,ho,i2,hrun];simp only[RA,RAs];exact⟨[e.key,e.val],rfl,e.key,[e.val],rfl,f2,e.val,[],rfl,f3,rfl⟩;cases he;cases he;cases he;cases he
end Go.Ac
namespace Go.Ac

def fc(rd:Option Nat):Fence:={Fence.wide with round:=rd}
theorem Hr(rd:Option Nat):(fc rd).depth.isSome=true->1<=0:=by intro h;cases h

theorem Mx{rd:Option Nat}{n:Nat}{P:Program}{f:FuncId}{args:Array Value}{w:World}{R:Ending->World->Prop}(h:Calls P f args w R):CallsIn (fc rd) n P f args w R:=by
 have h1:=(callsIn_wide (n:=n)).2 h;cases rd with
 |none=>exact h1
 |some l=>exact CallsIn.inRound l h1
theorem SK{rd:Option Nat}{n:Nat}{P:Program}{row:String}{args:Array Value}{w:World}{R:Value->World->Prop}(h:Rows P row args w R):RowsIn (fc rd) n P row args w R:=
 fun c cs _=>let ⟨v,w',r,s⟩:=h c cs;⟨v,w',r,(StepsIn.of_steps s).mono fun m _=>fenced_wide P m⟩

def DM:Op->Bool
 | .defer _=>false
 |_=>true
theorem Dn{o:Oper}(h:DM o.op=true)(rd:Option Nat)(ρ:Operand->Value):o.semAt rd ρ=execOp ρ o:=by
 cases rd with
 |none=>rfl
 |some l=>
  unfold Oper.semAt
  cases ho:o.op<;>simp_all [DM]

theorem Bu{rd:Option Nat}{P:Program}{o:Oper}{a:Act}{w:World}{K:Act->World->Prop}{Q:Exit->Act->World->Prop}(hd:DM o.op=true)(h:o.wp P a w K Q):o.wpIn (fc rd) 0 P a w K Q:=by
 refine⟨fun _ _=>trivial,?_⟩;rw[Dn hd];unfold Oper.wp at h;generalize (execOp a.eval o).run P w=r at h⊢;cases r with
 |ok x w'=>
  cases x<;>simp only[Oper.upon,Oper.uponIn]at h⊢ <;>first
   |exact h
   |exact⟨Hr rd,Mx h⟩
   |exact⟨Hr rd,SK h⟩
   |exact h.elim
 |halt x w'=>cases x<;>simp only[Oper.upon,Oper.uponIn]at h⊢ <;>exact h

def Fk(ops:Array Oper)(s:St)(o:Oper):Option Bool:=
 match o.guard with
 |none=>some true
 |some (j,want)=>match (ops[j]?).bind (·.dst)with
  |some t=>match s.E[t]? with
   |some (.d (.v (.bool b)))=>some (b==want)
   |some (.tup [])=>some false
   |_=>none
  |none=>none
theorem By{ops:Array Oper}{s:St}{o:Oper}{b:Bool}{h w val a}(he:Fk ops s o=some b)(H:AR s h w val a):Region.wanted o (yielded ops a.tmps)=b:=by
 unfold Fk at he;unfold Region.wanted;split at he;rename_i hg;simp only[oe]at he;rw[hg];exact he;rename_i j want hg;rw[hg];simp only;split at he;rename_i t ht;split at he;rename_i c hc;simp only[oe]at he;obtain⟨u,hu,hr⟩:=RAs.get H.e t _ hc;simp only[RA,RD]at hr;have hu':a.tmps[t]? =some u:=by simpa using hu
 simp only[yielded,ht,Option.bind_some,hu',hr.1];rw[<-he];cases c<;>cases want<;>rfl;rename_i hc;simp only[oe]at he;obtain⟨u,hu,hr⟩:=RAs.get H.e t _ hc;simp only[RA,RAs]at hr;obtain⟨us,e1,e2⟩:=hr;have hu':a.tmps[t]? =some u:=by simpa using hu
 simp only[yielded,ht,Option.bind_some,hu',e1,e2];rw[<-he];rfl;cases he;cases he

def Ke(s:St)(x:A):Bool:=(FZ s x).isSome
def aHr:A->Bool
 | .ep _ _ _ _=>true
 |_=>false
def VI(s:St)(x:A):Bool:=(BW s x).isSome
def IF(P:Program)(s:St)(o:Oper):Nat:=
 match o.op with
 | .alloc t=>if aG5 P t then 8 else 2
 | .makeSlice _ _ _=>8
 | .box _ _=>2
 | .store _ x _=>if aHr (s.ev x)then 9 else 3
 | .indexAddr _ x _=>if Ke s (s.ev x)||aBz s (s.ev x)then 9 else 0
 | .slice _ x none none none=>if aBx x then 13 else if Ke s (s.ev x)then 9 else 0
 | .move x=>if Ke s (s.ev x)then 9 else 0
 | .binOp _ _ _ y _=>match s.ev y with
  | .nil=>11
  |_=>0
 | .buildSlice _ _ _=>5
 | .build _ _=>7
 | .load _ x=>match s.ev x with
  | .eptr _=>0
  | .ep _ _ _ _=>9
  |_=>1
 | .call c=>match c.callee with
  | .builtin .append=>4
  | .builtin .copy=>10
  | .builtin .len=>match c.args.toList with
   |[x]=>if Ke s (s.ev x)||aBz s (s.ev x)then 9 else if VI s (s.ev x)then 12 else 0
   |_=>0
  | .builtin .delete=>12
  | .builtin .clear=>12
  | .builtin _=>0
  |_=>6
 | .makeMap _ _=>12
 | .lookup _ _ _ _=>12
 | .mapUpdate _ _ _ _=>12
 | .insert _ _ _ _=>12
 | .mapEntry _ _ _=>12
 | .entryStore _ _ _ _=>12
 |_=>0
def Cp(P:Program)(o:Oper)(s:St)(wt:W):Nat->Option (Ob×A×List Ed)
 |0=>(KQ P o s.ev (fun x=>s.look (s.ev x)) wt).map fun p=>(.c p.1,p.2,[])
 |1=>(Mm P o s wt).map fun p=>(.c p.1,p.2,[])
 |2=>match wt with
  | .frz=>(Mi o s).map fun r=>(.c .t,r,[])
  |_=>(Vm P o s).map fun p=>(.c .t,p.1,p.2)
 |3=>match wt with
  | .frz=>(EC P o s).map fun es=>(.c .t,.any,es)
  |_=>(DT P o s).map fun es=>(.c .t,.any,es)
 |4=>match wt with
  | .rwl zs=>(CM P o s zs).map fun p=>(.c p.1,p.2)
  |_=>(CP P o s wt).map fun p=>(.c p.1,p.2)
 |5=>(BO P o s (match wt with| .frz=>true|_=>false)).map fun p=>(.c p.1,p.2)
 |6=>match wt with
  | .lend _ _=>(Gm P o s wt).map fun p=>(p.1,p.2,[])
  | .cx _ _ _ _ _=>Gp P o s wt
  |_=>(Gn P o s wt).map fun p=>(p.1,p.2,[])
 |7=>(Gk P o (fun x=>s.look (s.ev x)) (match wt with| .frz=>true|_=>false)).map fun r=>(.c .t,r,[])
 |8=>(EP P o s wt).map fun p=>(.c p.1,p.2)
 |9=>match wt with
  | .prt y0 zs=>(YE P o s y0 zs).map fun p=>(.c p.1,p.2)
  |_=>match Gj P o s wt with
   |some p=>some (.c p.1,p.2)
   |none=>(Ms P o s wt).map fun p=>(.c p.1,p.2)
 |10=>(Cx P o s wt).map fun p=>(.c p.1,p.2)
 |11=>(YD P o s wt).map fun p=>(.c p.1,p.2)
 |12=>match wt with
  | .frz=>(Hi P o s wt).map fun p=>(.c p.1,p.2)
  | .ms _=>(Hi P o s wt).map fun p=>(.c p.1,p.2)
  |_=>(Vo P o s wt).map fun p=>(.c p.1,p.2)
 |13=>(Wy P o).map fun r=>(.c .t,r,[])
 |_=>none
theorem KP{P:Program}{o:Oper}{s:St}{es:List Ed}{wt:W}{L:Lp}{Φ:Ob}{r:A}:∀{k:Nat},Cp P o s wt k=some (Φ,r,es)->Dw P o s (Φ.ok P L) r (s.edit es)
 |0,he=>by
  simp only[Cp,om,pe]at he;obtain⟨p,h,rfl,rfl,rfl⟩:=he;exact XR h
 |1,he=>by
  simp only[Cp,om,pe]at he;obtain⟨p,h,rfl,rfl,rfl⟩:=he;exact Uv h
 |2,he=>by
  simp only[Cp]at he;split at he;simp only[om,pe]at he;obtain⟨p,h,rfl,rfl,rfl⟩:=he;exact fun _=>Ur h trivial;simp only[om,pe]at he;obtain⟨p,h,rfl,rfl,rfl⟩:=he;exact Ww h
 |3,he=>by
  simp only[Cp]at he;split at he;simp only[om,pe]at he;obtain⟨p,h,rfl,rfl,rfl⟩:=he;exact Mu h;simp only[om,pe]at he;obtain⟨p,h,rfl,rfl,rfl⟩:=he;exact IW h
 |4,he=>by
  simp only[Cp]at he;split at he;simp only[om,pe]at he;obtain⟨p,h,rfl,e⟩:=he;exact KF (by rw[h];rw[<-e]);simp only[om,pe]at he;obtain⟨p,h,rfl,e⟩:=he;exact Mh (by rw[h];rw[<-e])
 |5,he=>by
  simp only[Cp,om,pe]at he;obtain⟨p,h,rfl,e⟩:=he;exact GB (by rw[h];rw[<-e])
 |6,he=>by
  simp only[Cp]at he;split at he;simp only[om,pe]at he;obtain⟨p,h,rfl,rfl,rfl⟩:=he;exact QV h;exact QX he;simp only[om,pe]at he;obtain⟨p,h,rfl,rfl,rfl⟩:=he;exact QW h
 |7,he=>by
  simp only[Cp,om,pe]at he;obtain⟨p,h,rfl,rfl,rfl⟩:=he;exact fun _=>QU h trivial
 |8,he=>by
  simp only[Cp,om,pe]at he;obtain⟨p,h,rfl,e⟩:=he;exact QT (by rw[h];rw[<-e])
 |9,he=>by
  simp only[Cp]at he;split at he;simp only[om,pe]at he;obtain⟨p,h,rfl,e⟩:=he;exact W6 (by rw[h];rw[<-e]);split at he;rename_i p h;simp only[oe,pe]at he;obtain⟨rfl,e⟩:=he;exact QS (by rw[h];rw[<-e]);simp only[om,pe]at he;obtain⟨p,h,rfl,e⟩:=he;exact U3 (by rw[h];rw[<-e])
 |10,he=>by
  simp only[Cp,om,pe]at he;obtain⟨p,h,rfl,e⟩:=he;exact KH (by rw[h];rw[<-e])
 |11,he=>by
  simp only[Cp,om,pe]at he;obtain⟨p,h,rfl,e⟩:=he;exact W3 (by rw[h];rw[<-e])
 |12,he=>by
  simp only[Cp]at he;split at he;simp only[om,pe]at he;obtain⟨p,h,rfl,e⟩:=he;exact L2 (by rw[h];rw[<-e]);simp only[om,pe]at he;obtain⟨p,h,rfl,e⟩:=he;exact L2 (by rw[h];rw[<-e]);simp only[om,pe]at he;obtain⟨p,h,rfl,e⟩:=he;exact W0 (by rw[h];rw[<-e])
 |13,he=>by
  simp only[Cp,om,pe]at he;obtain⟨p,h,rfl,rfl,rfl⟩:=he;exact Uu h
 |k+14,he=>by simp only[Cp]at he;cases he
def DZ:List Ed->Option (Nat×TypeId×Nat×List D)
 |[]=>none
 |[.add d (.rw e k xs)]=>some (d,e,k,xs)
 |_::es=>DZ es
theorem Fu(d:Nat)(b:Bk):∀B:Bx,lk (Ca d b B) d=some b
 |[]=>by simp[Ca,lk]
 |p::B=>by
  simp only[Ca];split;simp[lk];rename_i h;have hne:p.1≠d:=fun e=>h (by rw[e];exact Nat.ble_eq_true_of_le (Nat.le_refl _));have:=Fu d b B;unfold lk at this⊢;rw[List.find?_cons,show(p.1==d)=false by simpa using hne];exact this
theorem Iq{d e k}{xs:List D}:∀{es:List Ed} {B:Bx},DZ es=some (d,e,k,xs)->lk (es.foldl AX B) d=some (.rw e k xs)
 |[],B,h=>by cases h
 |[.add d' b],B,h=>by
  cases b with
  |rw e' k' xs'=>
   simp only[DZ,oe,pe]at h
   obtain⟨rfl,rfl,rfl,rfl⟩:=h
   exact Fu _ _ _
  |_=>simp only[DZ]at h;cases h
 |[.chg d' b],B,h=>by simp only[DZ]at h;cases h
 |x::y::es,B,h=>by
  have h':DZ (y::es)=some (d,e,k,xs):=by
   cases x with
   |add d' b=>cases b<;>simpa only[DZ]using h
   |chg d' b=>simpa only[DZ]using h
  exact Iq (es:=y::es) (B:=AX B x) h'
def W4(P:Program)(o:Oper)(s:St)(wt:W):Option (Ob×A×List Ed):=match wt with
 | .fzn m=>match Cp P o s .no (IF P s o)with
  |some (Φ,r,[])=>match lk s.B m with
   |some (.rw e k xs)=>some (Φ,r,[.chg m (.row e k xs)])
   |_=>none
  |_=>none
 | .rwz zs=>match Cp P o s (.rwl zs) (IF P s o)with
  |some (Φ,.row d,es)=>match DZ es with
   |some (d',e,k,xs)=>if Nat.beq d d' then some (Φ,.d (.sl xs),es++[.chg d (.row e k xs)])else none
   |_=>none
  |_=>none
 |wt=>Cp P o s wt (IF P s o)
theorem RJ{P:Program}{o:Oper}{s:St}{es:List Ed}{wt:W}{L:Lp}{Φ:Ob}{r:A}(he:W4 P o s wt=some (Φ,r,es)):Dw P o s (Φ.ok P L) r (s.edit es):=by
 unfold W4 at he;split at he;rename_i m;split at he;rename_i Φ' r' h1;split at he;rename_i e k xs hl;simp only[oe,pe]at he;obtain⟨rfl,rfl,rfl⟩:=he;intro hΦ h w val a H K Q hK;refine KP h1 hΦ h w val a H K Q fun h' w' val' u hr H' n'=>?_;have hl':lk (s.edit []).B m=some (.rw e k xs):=hl;obtain⟨h2,f1,f2⟩:=SP H' hl';exact hK h2 w' val' u (RA.stays f2.keep.stays _ _ _ hr) f1 (n'.trans f2);cases he;cases he;rename_i zs;split at he;rename_i Φ' d es' h1;split at he;rename_i d' e k xs hl;split at he;rename_i hdd;simp only[oe,pe]at he;obtain⟨rfl,rfl,rfl⟩:=he;have hd:=Nat.eq_of_beq_eq_true hdd;subst hd;intro hΦ h w val a H K Q hK;refine KP h1 hΦ h w val a H K Q fun h' w' val' u hr H' n'=>?_;have hl':lk (s.edit es').B d=some (.rw e k xs):=Iq hl;obtain⟨h2,f1,f2⟩:=SP H' hl';have hr2:=f1.look (RA.stays f2.keep.stays _ _ _ hr);have hB:BD (s.edit es').B d (.row e k xs)=(s.edit (es'++[.chg d (.row e k xs)])).B:=by simp only[St.edit,List.foldl_append,List.foldl_cons,List.foldl_nil,AX]
 have hS:({s.edit es' with B:=BD (s.edit es').B d (.row e k xs)}:St)=s.edit (es'++[.chg d (.row e k xs)]):=by rw[hB];rfl
 rw[hS]at f1 f2 hr2;have hlk:(s.edit (es'++[.chg d (.row e k xs)])).look (.row d)=.d (.sl xs):=by simp only[St.look];rw[<-hB,ES hl']
 rw[hlk]at hr2;exact hK h2 w' val' u hr2 f1 (n'.trans f2);cases he;cases he;cases he;exact KP he
def aop(P:Program)(o:Oper)(s:St)(wt:W):Option (Ob×A×St):=
 match W4 P o s wt with
 |some (Φ,r,es)=>some (Φ,r,s.edit es)
 |none=>IS P o s wt
theorem aBv{P:Program}{o:Oper}{s s':St}{wt:W}{L:Lp}{Φ:Ob}{r:A}(he:aop P o s wt=some (Φ,r,s')):Dw P o s (Φ.ok P L) r s':=by unfold aop at he;split at he;rename_i h;simp only[oe,pe]at he;obtain⟨rfl,rfl,rfl⟩:=he;exact RJ h;exact IT he

def wOf(ws:List (Nat×W))(o:Oper):W:=
 match o.dst with
 |some d=>((ws.find? fun p=>p.1==d).map (·.2)).getD .no
 |none=>match o.op with
  | .store _ (.tmp t) _=>((ws.find? fun p=>p.1==t+10000).map (·.2)).getD .no
  | .mapUpdate _ (.tmp t) _ _=>((ws.find? fun p=>p.1==t+10000).map (·.2)).getD .no
  | .insert _ (.tmp t) _ _=>((ws.find? fun p=>p.1==t+10000).map (·.2)).getD .no
  | .entryStore _ _ (.tmp t) _=>((ws.find? fun p=>p.1==t+10000).map (·.2)).getD .no
  | .call c=>match c.args.toList with
   | .tmp t::_=>((ws.find? fun p=>p.1==t+10000).map (·.2)).getD .no
   |_=>.no
  |_=>.no

def YC:A->Option Nat
 | .d (.v (.func (.yield l) fs cs))=>if fs.size==0&&cs.size==0 then some l else none
 |_=>none
theorem Vh{h w val}{a:A}{l:Nat}{u:Value}(he:YC a=some l)(hr:RA h w val a u):u=.func (.yield l) #[] #[]:=by unfold YC at he;split at he;rename_i l' fs cs;split at he;rename_i hb;simp only[oe]at he;subst he;simp only[ba,beq_iff_eq]at hb;simp only[RA,RD]at hr;rw[hr.1,Array.eq_empty_of_size_eq_zero hb.1,Array.eq_empty_of_size_eq_zero hb.2];cases he;cases he
def QY(o:Oper)(s:St)(wt:W):Option (Ob×A×St):=
 match o.op with
 | .call c=>match c.callee with
  | .value g=>match YC (s.ev g),wt with
   |some l,.own _ r _ F=>if r.bare&&aCq s.E&&aG7 s.B then some (.both (.yld l (c.args.toList.map fun x=>s.look (s.ev x)) s.F r F) (.frame s.F F),r,{s with F:=F})else none
   |_,_=>none
  |_=>none
 |_=>none
theorem Inv.right{h w val}{B F:Bx}(I:Inv h w val (B++F)):Inv h w val F:=
 ⟨fun p hp=>I.rep p (mr _ hp),(List.nodup_append.1 (by rw[<-AI];exact I.nms)).2.1,(List.nodup_append.1 (by rw[<-AM];exact I.bks)).2.1,(by first|exact H.inv.glob.stays hk.stays|exact H.inv.glob|exact I.glob|exact I.glob.stays k.stays|exact H.inv.glob.stays k.stays|exact hI.glob|exact hInv.glob|exact hI0.glob|exact hIX.glob|exact H'.inv.glob|exact hI.glob.stays hk.stays|exact H1.inv.glob|exact hIR.glob|exact H.glob|exact hI.glob.stays k.stays|exact H.inv.glob.stays n.keep.stays|exact hI.glob.stays n.keep.stays|exact h.inv.glob|exact H2.inv.glob|exact hI'.glob)⟩
theorem QZ{rd:Option Nat}{P:Program}{o:Oper}{s s':St}{wt:W}{L:Lp}{Φ:Ob}{r:A}(he:QY o s wt=some (Φ,r,s'))(hd:DM o.op=true)(hΦ:Φ.ok P L)
 {h w val a} (H:AR s h w val a) {K:Act->World->Prop} {Q:Exit->Act->World->Prop}
 (hK:∀h' w' val' u,RA h' w' val' r u->AR s' h' w' val' a->Nx s h w val s' h' w' val'->K (a.put o.dst u) w'):o.wpIn (fc rd) 0 P a w K Q:=by
 unfold QY at he
 split at he
 rename_i c ho
 obtain⟨callee,args,argTypes⟩:=c
 simp only at he
 split at he
 rename_i g
 split at he
 rename_i l raw r' B F hg
 split at he
 rename_i hb
 simp only[oe,pe]at he
 obtain⟨rfl,rfl,rfl⟩:=he
 simp only[Ob.ok]at hΦ
 obtain⟨hc,hF⟩:=hΦ
 have e1:=Vh hg (H.ev g)
 have hnF:AK F=AK s.F:=by
  rcases hF with e|e
  rw[e];exact e.1
 have hFar:Far F:=by
  rcases hF with e|e
  rw[e];exact H.far;exact e.2
 have hargs:RAs h w val (args.toList.map fun x=>s.look (s.ev x)) (args.toList.map a.eval):=DD (f:=fun x=>s.look (s.ev x)) (fun x=>H.look (H.ev x)) _
 obtain⟨fn,tmps,assign,body,hrun,hround⟩:=hc h w val _ (Inv.right H.inv) hargs
 have hexec:(execOp a.eval o).run P w=.ok (.round l fn tmps assign body) w:=by
  have harr:args.map a.eval=⟨args.toList.map a.eval⟩:=by apply Array.ext';simp
  simp only[execOp,ho,resolve,e1,Deferred.ofValue,Sem.run_bind,Sem.run_pure,Result.andThen_ok,invoke];simpa[harr]using hrun
 refine⟨fun _ _=>trivial,?_⟩
 rw[Dn hd,hexec,Oper.uponIn_round]
 refine⟨Hr rd,?_⟩
 have hround':RoundIn (fc rd) (0-1) P l fn tmps assign body w _:=hround
 refine hround'.mono fun e w' hh=>?_
 obtain⟨h',val',u,rfl,hI,hr,hk,hv,hnew⟩:=hh
 simp only[ba]at hb
 have hvF:∀n,(n<up\/n=1000000)->val' n=val n:=fun n hn=>hv n fun hin=>by obtain⟨p,hp,e⟩:=mm.1 hin;exact(hFar n hn p hp).1 e
 have hvB:∀p∈s.B,∀n,n=p.1\/p.2.has n=true->val' n=val n:=fun p hp n hn=>hvF n (.inl (by
  obtain⟨c1,c2⟩:=Kj hb.2 hp;rcases hn with rfl|hn
  exact c1;exact c2 n hn))
 have hbB:AZ val' s.B=AZ val s.B:=BJ fun n hn=>by obtain⟨p,hp,rfl⟩:=mm.1 hn;exact hvB p hp _ (.inl rfl)
 have hkM:BI (AZ val s.all) h w h' w':=hk.mono' fun x hx=>.inl (by show x∈AZ val (s.B++s.F);rw[AM];exact mr _ hx)
 have hall:=H.inv
 have hbks:=hall.bks
 have hnms:=hall.nms
 unfold St.all at hbks hnms
 rw[AM]at hbks
 rw[AI]at hnms
 obtain⟨b1,b2,b3⟩:=List.nodup_append.1 hbks
 obtain⟨m1,m2,m3⟩:=List.nodup_append.1 hnms
 have hlt:∀g∈AZ val s.B,g<w.heap.size:=fun g hg=>hall.blk_lt g (by unfold St.all;rw[AM];exact ml _ hg)
 refine hK h' w' val' u hr ⟨RAs.congr _ _ (fun n hn=>hvF n (.inl (R3 hb.1.2 n hn))) (RAs.stays hk.stays _ _ _ H.e),⟨fun p hp=>?_,?_,?_,(by first|exact H.inv.glob.stays hk.stays|exact H.inv.glob|exact I.glob|exact I.glob.stays k.stays|exact H.inv.glob.stays k.stays|exact hI.glob|exact hInv.glob|exact hI0.glob|exact hIX.glob|exact H'.inv.glob|exact hI.glob.stays hk.stays|exact H1.inv.glob|exact hIR.glob|exact H.glob|exact hI.glob.stays k.stays|exact H.inv.glob.stays n.keep.stays|exact hI.glob.stays n.keep.stays|exact h.inv.glob|exact H2.inv.glob|exact hI'.glob)⟩,hFar,H.defs.keep H.inv hkM (fun b hb=>hb) (hvF bn (.inr rfl))⟩ ⟨hkM,fun n hn=>hvF n (.inr hn),fun b hb'=>?_⟩
 rcases ma.1 hp with hp|hp
 refine RB.congr (hvB p hp _ (.inl rfl)) (fun m hm=>hvB p hp m (.inr hm)) (RB.stays hk.stays (fun g hg=>?_) (hall.rep p (ml _ hp)))
 have hgB:g∈AZ val s.B:=Inv.blk_mem hp hg
 exact hk.far g (hlt g hgB) fun hgF=>b3 g hgB g hgF rfl
 exact hI.rep p hp
 show(AK (s.B++F)).Nodup
 rw[AI,hnF]
 exact List.nodup_append.2 ⟨m1,m2,m3⟩
 show(AZ val' (s.B++F)).Nodup
 rw[AM,hbB]
 refine List.nodup_append.2 ⟨b1,hI.bks,fun x hx y hy e=>?_⟩
 subst e
 rcases hnew x hy with h1|h1
 exact b3 x hx x h1 rfl
 have:=hlt x hx
 omega
 have hb1:b∈AZ val' (s.B++F):=hb'
 rw[AM,hbB]at hb1
 show b∈AZ val (s.B++s.F)\/_
 rw[AM]
 rcases ma.1 hb1 with h1|h1
 exact .inl (ml _ h1)
 rcases hnew b h1 with h2|h2
 exact .inl (mr _ h2)
 exact .inr h2
 cases he
 cases he
 cases he
 cases he

def U4(P:Program)(ops:Array Oper)(ws:List (Nat×W))(s:St)(o:Oper):Option (Ob×St):=
 if DM o.op then
  match Fk ops s o with
  |some true=>match aop P o s (wOf ws o)with
   |some (Φ,r,s')=>some (Φ,s'.put o.dst r)
   |none=>match QY o s (wOf ws o)with
    |some (Φ,r,s')=>some (Φ,s'.put o.dst r)
    |none=>match RP P o s (wOf ws o)with
     |some (Φ,r,es)=>some (.c Φ,(s.edit es).put o.dst r)
     |none=>match aG2 P o s (wOf ws o)with
      |some (Φ,r,es)=>some (.c Φ,(s.edit es).put o.dst r)
      |none=>none
  |some false=>some (.c .t,s.put o.dst (.tup []))
  |none=>none
 else none

theorem HA{h w val}:RA h w val (.tup []) undef:=by simp only[RA,RAs];exact⟨[],rfl,rfl⟩
theorem XS(s:St)(d:Option Tmp)(v:A):(s.put d v).all=s.all:=by cases d<;>rfl
theorem Nx.put{s s':St}{h w val h' w' val'}(n:Nx s h w val s' h' w' val')(d:Option Tmp)(v:A):Nx s h w val (s'.put d v) h' w' val':=
 ⟨n.keep,n.vals,by rw[XS];exact n.new⟩

theorem Hl{rd:Option Nat}{P:Program}{ops:Array Oper}{ws:List (Nat×W)}{s s':St}{o:Oper}{L:Lp}{Φ:Ob}(he:U4 P ops ws s o=some (Φ,s'))(hΦ:Φ.ok P L)
 {h w val a} (H:AR s h w val a) {i:Nat} (hi:ops[i]? =some o) {K:Act->World->Prop} {Q:Exit->Act->World->Prop}
 (hK:∀h' w' val' a',AR s' h' w' val' a'->Nx s h w val s' h' w' val'->K a' w'):wpOpIn (fc rd) 0 P ops Q i K a w:=by
 unfold U4 at he
 split at he
 rename_i hnd
 split at he
 rename_i hg
 split at he
 rename_i Φ' r s1 ho
 simp only[oe,pe]at he
 obtain⟨rfl,rfl⟩:=he
 unfold wpOpIn
 rw[hi]
 simp only[By hg H,if_true]
 exact Bu hnd (aBv ho hΦ h w val a H K Q fun h' w' val' u hr H' hn=>hK h' w' val' _ (H'.put o.dst hr) (hn.put _ _))
 split at he
 rename_i Φ' r s1 ho
 simp only[oe,pe]at he
 obtain⟨rfl,rfl⟩:=he
 unfold wpOpIn
 rw[hi]
 simp only[By hg H,if_true]
 exact QZ ho hnd hΦ H fun h' w' val' u hr H' hn=>hK h' w' val' _ (H'.put o.dst hr) (hn.put _ _)
 split at he
 rename_i Φ' r es ho
 simp only[oe,pe]at he
 obtain⟨rfl,rfl⟩:=he
 unfold wpOpIn
 rw[hi]
 simp only[By hg H,if_true]
 exact Bu hnd (RQ ho hΦ h w val a H K Q fun h' w' val' u hr H' hn=>hK h' w' val' _ (H'.put o.dst hr) (hn.put _ _))
 split at he
 rename_i Φ' r es ho
 simp only[oe,pe]at he
 obtain⟨rfl,rfl⟩:=he
 unfold wpOpIn
 rw[hi]
 simp only[By hg H,if_true]
 exact Bu hnd (W2 ho hΦ h w val a H K Q fun h' w' val' u hr H' hn=>hK h' w' val' _ (H'.put o.dst hr) (hn.put _ _))
 cases he
 rename_i hg
 simp only[oe,pe]at he
 obtain⟨rfl,rfl⟩:=he
 unfold wpOpIn
 rw[hi]
 simp only[By hg H,Bool.false_eq_true,if_false]
 exact⟨fun _ _=>trivial,hK h w val _ (H.put o.dst HA) ((Nx.refl s h w val rfl).put _ _)⟩
 cases he
 cases he

theorem NE(o:Op):Dl o=DM o:=by cases o<;>rfl
theorem KO{rd:Option Nat}{P:Program}{ops:Array Oper}{s:St}{o o2:Oper}{Φ:Cn}{es:List Ed}{wt:W}(he:Lz P s o o2 wt=some (Φ,es))(hΦ:Φ.ok){h w val a}(H:AR s h w val a){i:Nat}(hi:ops[i]? =some o)(hi2:ops[i+1]? =some o2)
 {K:Act->World->Prop} {Q:Exit->Act->World->Prop}
 (hK:∀h' w' val' a',AR (((s.edit es).put o.dst .any).put o2.dst .any) h' w' val' a'->Nx s h w val (((s.edit es).put o.dst .any).put o2.dst .any) h' w' val'->K a' w'):
 wpOpIn (fc rd) 0 P ops Q i (fun a w=>wpOpIn (fc rd) 0 P ops Q (i+1) K a w) a w:=by
 obtain⟨d,u,w',hd,g1,g2,n1,n2,r1,r2,H2,N2⟩:=RC he hΦ H
 rw[NE]at n1 n2
 unfold wpOpIn
 rw[hi,hi2]
 have w1:Region.wanted o (yielded ops a.tmps)=true:=by unfold Region.wanted;rw[g1]
 simp only[w1,if_true]
 refine Bu n1 (AO r1 ?_)
 have w2:Region.wanted o2 (yielded ops (a.put o.dst u).tmps)=true:=by unfold Region.wanted;rw[g2]
 simp only[w2,if_true]
 rw[hd]
 refine Bu n2 (AO r2 ?_)
 refine hK h w' val _ ?_ ?_
 rw[hd]
 exact(H2.put (some d) (by simp[RA])).put o2.dst (by simp[RA])
 exact(N2.put _ _).put _ _
def Vp(P:Program)(ops:Array Oper)(ws:List (Nat×W)):List Oper->St->Option (Ob×St)
 |[],s=>some (.c .t,s)
 |o::l,s=>match U4 P ops ws s o with
  |some (Φ,s1)=>match Vp P ops ws l s1 with
   |some (Ψ,s2)=>some (Φ.and Ψ,s2)
   |none=>none
  |none=>match l with
   |[]=>none
   |o2::l2=>match Lz P s o o2 (wOf ws o)with
    |some (Φ,es)=>match Vp P ops ws l2 (((s.edit es).put o.dst .any).put o2.dst .any)with
     |some (Ψ,s2)=>some ((Ob.c Φ).and Ψ,s2)
     |none=>none
    |none=>none

theorem KT{rd:Option Nat}{L:Lp}{P:Program}{ops:Array Oper}{ws:List (Nat×W)}{Q:Exit->Act->World->Prop}:∀(l:List Oper) (k:Nat) (s s':St) (Φ:Ob),(∀j,l[j]? =ops[k+j]?)->Vp P ops ws l s=some (Φ,s')->Φ.ok P L->
 ∀h w val a,AR s h w val a->(∀h' w' val' a',AR s' h' w' val' a'->Nx s h w val s' h' w' val'->Q .normal a' w')->wpOpsIn (fc rd) 0 P ops Q (List.range' k l.length) a w
 |[],k,s,s',Φ,_,he,_,h,w,val,a,H,hQ=>by
  simp only[Vp,oe,pe]at he;obtain⟨_,rfl⟩:=he;simp only[List.length_nil,List.range'_zero,wpOpsIn];exact hQ h w val a H (Nx.refl s h w val rfl)
 |[o],k,s,s',Φ,hl,he,hΦ,h,w,val,a,H,hQ=>by
  simp only[Vp]at he;split at he;rename_i Φ1 s1 h1;simp only[oe,pe]at he;obtain⟨rfl,rfl⟩:=he;obtain⟨hΦ1,_⟩:=Ob.and_ok hΦ;have hk:ops[k]? =some o:=by simpa using (hl 0).symm
  simp only[List.length_cons,List.range'_succ];rw[wpOpsIn_cons];refine Hl h1 hΦ1 H hk fun h' w' val' a' H' hn=>?_;simp only[List.length_nil,List.range'_zero,wpOpsIn];exact hQ h' w' val' a' H' hn;cases he
 |o::o2::l2,k,s,s',Φ,hl,he,hΦ,h,w,val,a,H,hQ=>by
  rw[Vp]at he;have hk:ops[k]? =some o:=by simpa using (hl 0).symm
  split at he;rename_i Φ1 s1 h1;split at he;rename_i Ψ s2 h2;simp only[oe,pe]at he;obtain⟨rfl,rfl⟩:=he;obtain⟨hΦ1,hΨ⟩:=Ob.and_ok hΦ;rw[List.length_cons,List.range'_succ,wpOpsIn_cons];refine Hl h1 hΦ1 H hk fun h' w' val' a' H' hn=>?_;exact KT (o2::l2) (k+1) s1 s2 Ψ (fun j=>by have:=hl (j+1);simpa[Nat.add_assoc,Nat.add_comm 1 j]using this) h2 hΨ h' w' val' a' H' fun h2' w2 val2 a2 H2 hn2=>hQ h2' w2 val2 a2 H2 (hn.trans hn2);cases he;split at he;rename_i Φ1 es h1;split at he;rename_i Ψ s2 h2;simp only[oe,pe]at he;obtain⟨rfl,rfl⟩:=he;obtain⟨hΦ1,hΨ⟩:=Ob.and_ok hΦ;have hk2:ops[k+1]? =some o2:=by simpa using (hl 1).symm
  rw[List.length_cons,List.range'_succ,wpOpsIn_cons,List.length_cons,List.range'_succ];have e:(fun a w=>wpOpsIn (fc rd) 0 P ops Q ((k+1)::List.range' (k+1+1) l2.length) a w)=fun a w=>wpOpIn (fc rd) 0 P ops Q (k+1) (fun a w=>wpOpsIn (fc rd) 0 P ops Q (List.range' (k+1+1) l2.length) a w) a w:=by funext a w;rw[wpOpsIn_cons]
  have:=KO (rd:=rd) (Q:=Q) h1 hΦ1 H hk hk2 (K:=fun a w=>wpOpsIn (fc rd) 0 P ops Q (List.range' (k+1+1) l2.length) a w) fun h' w' val' a' H' hn=>
   KT l2 (k+1+1) _ s2 Ψ (fun j=>by have:=hl (j+2);simpa[Nat.add_assoc,Nat.add_comm 1 j,Nat.add_comm 2 j]using this) h2 hΨ h' w' val' a' H' fun h2' w2 val2 a2 H2 hn2=>hQ h2' w2 val2 a2 H2 (hn.trans hn2)
  rw[<-e]at this;exact this;cases he;cases he
end Go.Ac
namespace Go.Ac

def fresh(d:Nat)(s:St):Bool:=decide (d<up)&& !AQ d s.E&& !BL d s.B

def xns:W->List Nat
 | .cx _ ρ0 _ _ _=>ρ0.map (·.2)
 | .lend ns _=>ns
 | .fzn m=> [m]
 |_=> []
def nns:W->List Nat
 | .cx _ _ ρ1 _ _=>ρ1.map (·.2)
 |_=> []
structure DQ(o:Oper)(s s':St):Prop where
 ev:∀x∈o.op.operands,s'.ev x=s.ev x
 bx:∀x∈o.op.operands,∀n,(s.ev x).has n=true->lk s'.B n=lk s.B n

theorem DQ.look{o:Oper}{s s':St}(h:DQ o s s'):∀x∈o.op.operands,s'.look (s'.ev x)=s.look (s.ev x):=by
 intro x hx;rw[h.ev x hx];have hb:=h.bx x hx;cases hv:s.ev x with
 |row n=>rw[hv]at hb;simp only[St.look,hb n (by simp[A.has])]
 |box n off=>rw[hv]at hb;cases off<;>simp only[St.look,hb n (by simp[A.has])]
 |_=>simp only[St.look]

theorem Iu{s s':St}{a:A}(hb:∀n,a.has n=true->lk s'.B n=lk s.B n):s'.look a=s.look a:=by
 cases a with
 |row n=>simp only[St.look,hb n (by simp[A.has])]
 |box n off=>cases off<;>simp only[St.look,hb n (by simp[A.has])]
 |_=>simp only[St.look]
theorem Il{n:Nat}:∀{cs:List A} {c:A},c∈cs->c.has n=true->AQ n cs=true
 |c::cs,x,hm,hn=>by
  simp only[AQ,Bool.or_eq_true];rcases mc.1 hm with rfl|hm
  exact .inl hn;exact .inr (Il hm hn)
theorem DQ.deep{o:Oper}{s s':St}(h:DQ o s s'):∀x∈o.op.operands,s'.deep (s'.ev x)=s.deep (s.ev x):=by intro x hx;rw[h.ev x hx];have hb:=h.bx x hx;generalize s.ev x=a at hb;unfold St.deep;split;rename_i cs;congr 1;exact List.map_congr_left fun c hc=>Iu fun n hn=>hb n (by simp only[A.has];exact Il hc hn);exact Iu hb
theorem Mp{P:Program}{o:Oper}{ev ev' rd rd':Operand->A}{wt:W}(he:∀x∈o.op.operands,ev' x=ev x)(hr:∀x∈o.op.operands,rd' x=rd x):KQ P o ev' rd' wt=KQ P o ev rd wt:=by
 unfold KQ;cases ho:o.op<;>try rfl
 all_goals (rw[ho]at he hr;simp only[Op.operands]at he hr)
 case call c=>
  obtain⟨callee,args,tys⟩:=c
  have he':∀x∈args.toList,ev' x=ev x:=fun x hx=>he x (by simp only[Call.operands,Array.mem_append];exact .inr (Array.mem_toList_iff.1 hx))
  have hr':∀x∈args.toList,rd' x=rd x:=fun x hx=>hr x (by simp only[Call.operands,Array.mem_append];exact .inr (Array.mem_toList_iff.1 hx))
  revert he' hr'
  simp only
  generalize args.toList=l
  intro he' hr'
  split<;>first|rfl|(simp only[mc,List.not_mem_nil,or_false,forall_eq_or_imp,forall_eq]at he' hr';simp[he',hr'])
 case slice t x l h m=>
  have h1:ev' x=ev x:=he x (by simp)
  have h2:rd' x=rd x:=hr x (by simp)
  have h3:l.map ev'=l.map ev:=by
   cases l with
   |none=>rfl
   |some y=>simp only[Option.map_some];rw[he y (by simp)]
  have h4:h.map ev'=h.map ev:=by
   cases h with
   |none=>rfl
   |some y=>simp only[Option.map_some];rw[he y (by simp)]
  cases m<;>simp only[h2,h3,h4]
 case makeFunc fn first captured=>
  have h1:first.toList.map rd'=first.toList.map rd:=List.map_congr_left fun x hx=>hr x (by simp only[Array.mem_append];exact .inl (Array.mem_toList_iff.1 hx))
  have h2:captured.toList.map rd'=captured.toList.map rd:=List.map_congr_left fun x hx=>hr x (by simp only[Array.mem_append];exact .inr (Array.mem_toList_iff.1 hx))
  simp only[h1,h2]
 all_goals simp_all

theorem Mn{P:Program}{o:Oper}{s s':St}{wt:W}(h:DQ o s s'):Mm P o s' wt=Mm P o s wt:=by
 unfold Mm;cases ho:o.op<;>try rfl
 rename_i t x;have h1:=h.ev x (by rw[ho];simp[Op.operands]);have h2:=h.bx x (by rw[ho];simp[Op.operands]);simp only[h1];cases hv:s.ev x<;>simp only;rename_i n off;rw[hv]at h2;rw[h2 n (by simp[A.has])]
theorem FY{P:Program}{o:Oper}{s s':St}(h:DQ o s s'):DT P o s'=DT P o s:=by
 unfold DT;cases ho:o.op<;>try rfl
 rename_i t x y;have h1:=h.ev x (by rw[ho];simp[Op.operands]);have h2:=h.bx x (by rw[ho];simp[Op.operands]);have h3:=h.ev y (by rw[ho];simp[Op.operands]);simp only[h1,h3];cases hv:s.ev x<;>simp only;rename_i n off;rw[hv]at h2;rw[h2 n (by simp[A.has])]
theorem BA{d:Nat}{s:St}(h:fresh d s=true):d<up/\AQ d s.E=false/\BL d s.B=false:=by simp only[fresh,ba,decide_eq_true_eq,Bool.not_eq_true']at h;exact⟨h.1.1,h.1.2,h.2⟩
theorem QR{P:Program}{o:Oper}{s s':St}{z:A×List Ed}(h:DQ o s s')(hf:∀d,o.dst=some d->fresh d s'=true)(he:Vm P o s=some z):Vm P o s'=some z:=by
 unfold Vm at he⊢;split at he;cases he;rename_i d hd;obtain⟨f1,f2,f3⟩:=BA (hf d hd);split at he;simp only[f1,f2,f3,decide_true,Bool.not_false,Bool.and_self,if_true];cases ho:o.op<;>simp only[ho]at he⊢ <;>try (cases he;done)
 exact he;rename_i t x;rw[h.ev x (by rw[ho];simp[Op.operands])];exact he;cases he
theorem JF{s s':St}:∀{l:List Operand},(∀x∈l,s'.deep (s'.ev x)=s.deep (s.ev x))->Si s' l=Si s l
 |[],_=>rfl
 |x::l,h=>by
  simp only[Si];rw[h x (by simp),JF fun y hy=>h y (by simp[hy])]
theorem EV{P:Program}{o:Oper}{s s':St}{b:Bool}{z:Cn×A×List Ed}(h:DQ o s s')(hf:∀d,o.dst=some d->fresh d s'=true)(he:BO P o s b=some z):BO P o s' b=some z:=by
 unfold BO at he⊢;split at he;rename_i d t len parts hd ho;obtain⟨f1,f2,f3⟩:=BA (hf d hd);skip;split at he;split at he;split at he;rename_i e he1 i hi hc;simp only[ba,decide_eq_true_eq,Bool.not_eq_true']at hc;have e1:Si s' (parts.toList.map (·.2))=Si s (parts.toList.map (·.2)):=JF fun x hx=>h.deep x (by rw[ho];simpa[Op.operands]using hx)
 simp only[f1,f2,f3,hc.1.1.1.1.1,hc.1.1.1.1.2,hc.1.1.1.2,decide_true,Bool.not_false,Bool.and_self,if_true,e1];exact he;cases he;cases he;cases he;cases he
theorem IR{P:Program}{o:Oper}{s s':St}{wt:W}{z:Cn×A×List Ed}(h:DQ o s s')(hf:∀d,o.dst=some d->fresh d s'=true)(he:CP P o s wt=some z):CP P o s' wt=some z:=by
 unfold CP at he⊢;cases hd:o.dst with
 |none=>rw[hd]at he;simp only at he;cases he
 |some d=>
  obtain⟨f1,f2,f3⟩:=BA (hf d hd)
  rw[hd]at he
  cases ho:o.op<;>rw[ho]at he<;>simp only at he⊢ <;>try (cases he;done)
  rename_i c
  obtain⟨callee,args,tys⟩:=c
  have hargs:∀x∈args.toList,x∈o.op.operands:=fun x hx=>by rw[ho];simp only[Op.operands,Call.operands,Array.mem_append];exact .inr (Array.mem_toList_iff.1 hx)
  simp only at he⊢
  split at he
  rename_i x y t t' ha ht
  rw[ha]at hargs
  have h1:=h.ev x (hargs x (by simp))
  have h2:=h.bx x (hargs x (by simp))
  have h3:=h.look y (hargs y (by simp))
  simp only[h1,h3]
  split at he
  split at he
  rename_i e ys he1 he2
  split at he
  rename_i i hi
  split at he
  rename_i hc
  rw[if_pos (by assumption)]
  skip
  rw[if_pos hc]
  split at he
  rename_i hx
  skip
  simp only[f1,f2,f3,decide_true,Bool.not_false,Bool.and_self,if_true]
  split at he
  exact he
  cases he
  rename_i n hx
  rw[hx]at h2
  skip
  simp only[h2 n (by simp[A.has])]
  split at he
  rename_i e' k xs hl
  split at he
  rename_i hcc
  skip
  rw[if_pos ⟨hcc.1,hcc.2.1,f1,f2,f3⟩]
  exact he
  cases he
  cases he
  cases he
  cases he
  cases he
  cases he
  cases he
  cases he
theorem KM{P:Program}{o:Oper}{s s':St}{wt:W}(h:DQ o s s'):Gn P o s' wt=Gn P o s wt:=by
 unfold Gn;cases ho:o.op<;>try rfl
 rename_i c;obtain⟨callee,args,tys⟩:=c;cases callee<;>try rfl
 rename_i g;have h1:=h.ev g (by rw[ho];simp[Op.operands,Call.operands]);have h2:args.toList.map (fun x=>s'.look (s'.ev x))=args.toList.map (fun x=>s.look (s.ev x)):=List.map_congr_left fun x hx=>h.look x (by rw[ho];simp only[Op.operands,Call.operands,Array.mem_append];exact .inr (Array.mem_toList_iff.1 hx))
 simp only[h1,h2]
theorem ER{s s':St}{ns:List Nat}(h:∀n∈ns,lk s'.B n=lk s.B n)(n:Nat):DL s' ns n=DL s ns n:=by unfold DL;cases hn:Au n ns;rfl;simp only[if_true];rw[h n (Aj.1 hn)]
theorem Gy{s s':St}{ns:List Nat}{bx bx':Nat->Option D}(h:∀n∈ns,lk s'.B n=lk s.B n)(hb:∀n,bx' n=bx n):∀(cs:List A),(∀n,AQ n cs=true->n∈ns)->CT s' ns bx' cs=CT s ns bx cs
 |[],_=>rfl
 |c::cs,hc=>by
  have ih:=Gy h hb cs fun n hn=>hc n (by simp[AQ,hn]);cases c with
  |row n=>
   have hn:n∈ns:=hc n (by simp[AQ,A.has])
   simp only[CT,ER h,ih,St.look,h n hn]
  |box n off=>simp only[CT,hb,ih]
  |d x=>simp only[CT,ih]
  |nil=>simp only[CT,ih]
  |eptr x=>simp only[CT,ih]
  |clo f a b=>
   cases a with
   |nil=>cases b<;>simp only[CT,ih]
   |cons _ _=>simp only[CT]
  |_=>simp only[CT]
def Cr(s:St)(ns:List Nat):Bool:=A6 (fun n=>match lk s.B n with
 |some (.cells cs)=>G3 cs ns
 |_=>true) ns
theorem SB{as':List A}{l:List Nat}(h:G3 as' l=true)(n:Nat)(hn:AQ n as'=true):n∈l:=by unfold G3 at h;split at h;rename_i x hx;exact Aj.1 (Aq h n (B5 as' hx n hn));cases h
theorem Gx{s s':St}{ns:List Nat}(h:∀n∈ns,lk s'.B n=lk s.B n)(hc:Cr s ns=true):∀(k n:Nat),Hz s' ns k n=Hz s ns k n
 |0,_=>rfl
 |k+1,n=>by
  simp only[Hz];cases hn:Au n ns;rfl;simp only[if_true];have hm:=Aj.1 hn;rw[h n hm];cases hl:lk s.B n with
  |none=>rfl
  |some b=>
   cases b with
   |cells cs=>
    simp only
    have:=Aq hc n hm
    simp only[hl]at this
    exact Gy h (fun m=>by rw[Gx h hc k m]) cs (SB this)
   |_=>rfl
mutual
theorem NC{s s':St}{ns:List Nat}(h:∀n∈ns,lk s'.B n=lk s.B n)(hc:Cr s ns=true):∀a:A,Bm s' ns a=Bm s ns a
 | .row n=>by simp only[Bm,ER h]
 | .box n off=>by simp only[Bm,Gx h hc]
 | .clo f a b=>by simp only[Bm,Ci h hc a,Ci h hc b]
 | .d _=>by simp only[Bm]
 | .bsl _ _ _=>by simp only[Bm]
 | .ep _ _ _ _=>by simp only[Bm]
 | .ub=>by simp only[Bm]
 | .eptr _=>by simp only[Bm]
 | .agg _=>by simp only[Bm]
 | .tup _=>by simp only[Bm]
 | .opq _=>by simp only[Bm]
 | .nil=>by simp only[Bm]
 | .any=>by simp only[Bm]
theorem Ci{s s':St}{ns:List Nat}(h:∀n∈ns,lk s'.B n=lk s.B n)(hc:Cr s ns=true):∀as':List A,Cd s' ns as'=Cd s ns as'
 |[]=>rfl
 |a::as'=>by simp only[Cd,NC h hc a,Ci h hc as']
end
theorem Ve{ρ0 ρ1:List (Nat×Nat)}{s s':St}{args:List A}{r:A}{X' raw:Bx}(hf:∀d∈ρ1.map (·.2),fresh d s'=true)(h:xOk ρ0 ρ1 s args r X' raw=true):xOk ρ0 ρ1 s' args r X' raw=true:=by
 simp only[xOk,ba]at h⊢;refine⟨h.1,?_⟩;have:∀l:List Nat,(∀d∈l,fresh d s'=true)->A6 (fun n=>frs n s') l=true:=by
  intro l;induction l with
  |nil=>intro _;rfl
  |cons x l ih=>
   intro hl
   simp only[A6,ba]
   exact⟨hl x (.head _),ih fun d hd=>hl d (.tail _ hd)⟩
 exact this _ hf
theorem C8{o:Oper}{s s':St}(h:DQ o s s'){callee:Operand}{args:Array Operand}{tys:Array TypeId}(ho:o.op=.call {callee:=.value callee,args,argTypes:=tys}):
 s'.ev callee=s.ev callee/\args.toList.map (fun x=>s'.look (s'.ev x))=args.toList.map (fun x=>s.look (s.ev x)):=
 ⟨h.ev callee (by rw[ho];simp[Op.operands,Call.operands]),List.map_congr_left fun x hx=>h.look x (by rw[ho];simp only[Op.operands,Call.operands,Array.mem_append];exact .inr (Array.mem_toList_iff.1 hx))⟩
theorem KL{P:Program}{o:Oper}{s s':St}{wt:W}(h:DQ o s s')(hx:∀n∈xns wt,lk s'.B n=lk s.B n)(hc:∀ns r,wt=.lend ns r->Cr s ns=true):Gm P o s' wt=Gm P o s wt:=by
 unfold Gm;cases ho:o.op<;>try rfl
 rename_i c;obtain⟨callee,args,tys⟩:=c;cases callee<;>try rfl
 rename_i g;obtain⟨h1,h2⟩:=C8 h ho;simp only[h1,h2];cases CN (s.ev g)with
 |none=>rfl
 |some p=>
  obtain⟨f,fs,cs⟩:=p
  cases wt<;>try rfl
  rename_i ns r
  have e:∀as',Cd s' ns as'=Cd s ns as':=Ci (fun n hn=>hx n hn) (hc ns r rfl)
  simp only[e]
theorem KN{P:Program}{o:Oper}{s s':St}{wt:W}{z:Ob×A×List Ed}(h:DQ o s s')(hx:∀n∈xns wt,lk s'.B n=lk s.B n)(hf:∀d∈nns wt,fresh d s'=true)(he:Gp P o s wt=some z):Gp P o s' wt=some z:=by
 unfold Gp at he⊢;cases ho:o.op<;>rw[ho]at he<;>try (cases he;done)
 rename_i c;obtain⟨callee,args,tys⟩:=c;cases callee<;>try (cases he;done)
 rename_i g;obtain⟨h1,h2⟩:=C8 h ho;have h3:∀bb:Bool,args.toList.map (fun x=>if bb=true then s'.ev x else s'.look (s'.ev x))=args.toList.map (fun x=>if bb=true then s.ev x else s.look (s.ev x)):=fun bb=>List.map_congr_left fun x hx=>by
  have hm:x∈o.op.operands:=by rw[ho];simp only[Op.operands,Call.operands,Array.mem_append];exact .inr (Array.mem_toList_iff.1 hx)
  rw[<-h.look x hm,h.ev x hm]
 simp only[h1]at he⊢;cases hg:CN (s.ev g)with
 |none=>rw[hg]at he;cases he
 |some p=>
  obtain⟨f,fs,cs⟩:=p
  rw[hg]at he
  cases wt<;>try (cases he;done)
  rename_i bb ρ0 ρ1 r X'
  simp only[h3 bb]at he⊢
  have e:Df s'.B ρ0=Df s.B ρ0:=G0 fun p hp=>hx p.2 (mm.2 ⟨p,hp,rfl⟩)
  rw[e]
  generalize args.toList.map (fun x=>if bb=true then s.ev x else s.look (s.ev x))=as' at he⊢
  split at he
  rename_i raw hraw
  split at he
  rename_i hb
  simp only[ba]at hb
  rw[if_pos (by simp only[ba];exact⟨hb.1,Ve hf hb.2⟩)]
  exact he
  cases he
  cases he
theorem KK{P:Program}{o:Oper}{s s':St}{b:Bool}(h:DQ o s s'):Gk P o (fun x=>s'.look (s'.ev x)) b=Gk P o (fun x=>s.look (s.ev x)) b:=by
 unfold Gk;cases ho:o.op<;>try rfl
 rename_i t parts;have h1:parts.toList.map (fun p=>(p.1,s'.look (s'.ev p.2)))=parts.toList.map (fun p=>(p.1,s.look (s.ev p.2))):=List.map_congr_left fun x hx=>by rw[h.look x.2 (by rw[ho];simp only[Op.operands,List.mem_toArray];exact mm.2 ⟨x,hx,rfl⟩)]
 simp only[h1]
theorem Cz{s s':St}{x:A}(hb:∀n,x.has n=true->lk s'.B n=lk s.B n):FZ s' x=FZ s x:=by
 unfold FZ;cases x<;>try rfl
 rename_i n off;cases off<;>simp only[hb n (by simp[A.has])];rename_i n;simp only[hb n (by simp[A.has])]
theorem M9{s s':St}{x:A}(hb:∀n,x.has n=true->lk s'.B n=lk s.B n):Ke s' x=Ke s x:=by unfold Ke;rw[Cz hb]
theorem F1{s s':St}{x:A}(hb:∀n,x.has n=true->lk s'.B n=lk s.B n):Sg s' x=Sg s x:=by
 unfold Sg;cases x<;>try rfl
 rename_i n;simp only[hb n (by simp[A.has])]
theorem Rv{s s':St}{x:A}(hb:∀n,x.has n=true->lk s'.B n=lk s.B n):aBz s' x=aBz s x:=by unfold aBz;rw[F1 hb]
theorem G1{s s':St}{x:A}(hb:∀n,x.has n=true->lk s'.B n=lk s.B n):BW s' x=BW s x:=by
 unfold BW;cases x<;>try rfl
 rename_i n;simp only[hb n (by simp[A.has])]
theorem NA{s s':St}{x:A}(hb:∀n,x.has n=true->lk s'.B n=lk s.B n):VI s' x=VI s x:=by unfold VI;rw[G1 hb]
theorem NN{P:Program}{o:Oper}{s s':St}(h:DQ o s s'):IF P s' o=IF P s o:=by
 have hev:=h.ev;have hbx:=fun x hx=>M9 (h.bx x hx);have hrw:=fun x hx=>Rv (h.bx x hx);have hmp:=fun x hx=>NA (h.bx x hx);unfold IF;cases ho:o.op<;>rw[ho]at hev hbx hrw hmp<;>simp only[Op.operands]at hev hbx hrw hmp<;>try rfl
 case load t x=>simp only[hev x (by simp)]
 case store t x y=>simp only[hev x (by simp)]
 case move x=>simp only[hev x (by simp),hbx x (by simp)]
 case indexAddr t x i=>simp only[hev x (by simp),hbx x (by simp),hrw x (by simp)]
 case slice t x l hh m=>
  cases l<;>cases hh<;>cases m<;>simp only[hev x (by simp),hbx x (by simp)]
 case binOp op t x y yt=>simp only[hev y (by simp)]
 case call c=>
  obtain⟨callee,⟨args⟩,tys⟩:=c
  cases callee<;>try rfl
  rename_i b
  cases b<;>try rfl
  simp only[Call.operands]at hev hbx hrw hmp
  match args with
  |[]=>rfl
  |[x]=>simp only[hev x (by simp),hbx x (by simp),hrw x (by simp),hmp x (by simp)]
  |x::y::l=>rfl
theorem KJ{P:Program}{o:Oper}{s s':St}{wt:W}{z:Cn×A×List Ed}(h:DQ o s s')(hf:∀d,o.dst=some d->fresh d s'=true)(he:EP P o s wt=some z):EP P o s' wt=some z:=by unfold EP at he⊢;split at he;rename_i d t hd ho;obtain⟨f1,f2,f3⟩:=BA (hf d hd);split at he;split at he;rename_i z hz hc;simp only[ba,decide_eq_true_eq,Bool.not_eq_true']at hc;simp only[hd,ho,f1,f2,f3,hc.1.1.1.1,hc.1.1.1.2,hz,decide_true,Bool.not_false,Bool.and_self,if_true];exact he;cases he;cases he;rename_i d t l c hd ho;obtain⟨f1,f2,f3⟩:=BA (hf d hd);have h1:=h.ev l (by rw[ho];simp[Op.operands]);have h2:=h.ev c (by rw[ho];simp[Op.operands]);simp only[hd,ho,h1,h2];split at he;split at he;split at he;split at he;rename_i hc;simp only[ba,decide_eq_true_eq,Bool.not_eq_true']at hc;obtain⟨⟨⟨⟨⟨⟨⟨c1,c2⟩,c3⟩,c4⟩,c5⟩,c6⟩,c7⟩,c8⟩:=hc;simp only[c1,c2,c3,c4,c5,f1,f2,f3,decide_true,Bool.not_false,Bool.and_self,if_true];exact he;cases he;cases he;cases he;cases he;cases he
theorem Ce{o:Oper}{s s':St}(h:DQ o s s'){x:Operand}(hx:x∈o.op.operands){n k i off:Nat}(he:s.ev x=.ep n k i off):lk s'.B n=lk s.B n:=
 h.bx x hx n (by rw[he];simp[A.has])
theorem KG{P:Program}{o:Oper}{s s':St}{wt:W}(h:DQ o s s'):Gj P o s' wt=Gj P o s wt:=by
 have hev:=h.ev;have hbx:=fun x hx=>Cz (h.bx x hx);unfold Gj;cases ho:o.op<;>try rfl
 case indexAddr t x i=>
  rw[ho]at hev hbx;simp only[Op.operands]at hev hbx
  simp only[hev x (by simp),hev i (by simp),hbx x (by simp)]
 case move x=>
  rw[ho]at hev hbx;simp only[Op.operands]at hev hbx
  simp only[hev x (by simp),hbx x (by simp)]
 case slice t x l hh m=>
  rw[ho]at hev hbx;simp only[Op.operands]at hev hbx
  cases l<;>cases hh<;>cases m<;>simp only[hev x (by simp),hbx x (by simp)]
 case load t x=>
  have h1:=h.ev x (by rw[ho];simp[Op.operands])
  simp only[h1]
  cases hx:s.ev x with
  |ep n k i off=>
   have hlk:=Ce h (by rw[ho];simp[Op.operands]) hx
   cases wt<;>first|rfl|simp only[hlk]
  |_=>rfl
 case store t x y=>
  have h1:=h.ev x (by rw[ho];simp[Op.operands])
  have h2:=h.look y (by rw[ho];simp[Op.operands])
  simp only[h1,h2]
  cases hx:s.ev x with
  |ep n k i off=>
   have hlk:=Ce h (by rw[ho];simp[Op.operands]) hx
   cases hy:toD (s.look (s.ev y))<;>cases off<;>first|rfl|simp only[hlk]
  |_=>rfl
 case call c=>
  obtain⟨callee,⟨args⟩,⟨tys⟩⟩:=c
  simp only
  split
  rename_i x t
  have h1:=h.ev x (by rw[ho];simp[Op.operands,Call.operands])
  have h2:=Cz (h.bx x (by rw[ho];simp[Op.operands,Call.operands]))
  simp only[h1,h2]
  rfl
theorem Mt{P:Program}{o:Oper}{s s':St}{wt:W}(h:DQ o s s'):Ms P o s' wt=Ms P o s wt:=by
 have hev:=h.ev;have hbx:=fun x hx=>F1 (h.bx x hx);unfold Ms;cases ho:o.op<;>try rfl
 case indexAddr t x i=>
  rw[ho]at hev hbx;simp only[Op.operands]at hev hbx
  simp only[hev x (by simp),hev i (by simp),hbx x (by simp)]
 case load t x=>
  have h1:=h.ev x (by rw[ho];simp[Op.operands])
  simp only[h1]
  cases hx:s.ev x with
  |ep n k i off=>
   have hlk:=Ce h (by rw[ho];simp[Op.operands]) hx
   cases wt<;>first|rfl|simp only[hlk]
  |_=>rfl
 case store t x y=>
  have h1:=h.ev x (by rw[ho];simp[Op.operands])
  have h2:=h.look y (by rw[ho];simp[Op.operands])
  simp only[h1,h2]
  cases hx:s.ev x with
  |ep n k i off=>
   have hlk:=Ce h (by rw[ho];simp[Op.operands]) hx
   cases hy:toD (s.look (s.ev y))<;>cases off<;>first|rfl|simp only[hlk]
  |_=>rfl
 case call c=>
  obtain⟨callee,⟨args⟩,⟨tys⟩⟩:=c
  simp only
  split
  rename_i x t
  have h1:=h.ev x (by rw[ho];simp[Op.operands,Call.operands])
  have h2:=F1 (h.bx x (by rw[ho];simp[Op.operands,Call.operands]))
  simp only[h1,h2]
  rfl
theorem Hd{P:Program}{o:Oper}{s s':St}{wt:W}(h:DQ o s s'):Cx P o s' wt=Cx P o s wt:=by
 unfold Cx;cases ho:o.op<;>try rfl
 rename_i c;obtain⟨callee,⟨args⟩,⟨tys⟩⟩:=c;simp only;split;rename_i x y t t';have h1:=h.ev x (by rw[ho];simp[Op.operands,Call.operands]);have h2:=Cz (h.bx x (by rw[ho];simp[Op.operands,Call.operands]));have h3:=h.look y (by rw[ho];simp[Op.operands,Call.operands]);have h4:∀n,EE s' n y=EE s n y:=by
  intro n;unfold EE;rw[h3];cases hv:s.look (s.ev y)with
  |d x=>cases x<;>rfl
  |bsl m off l=>
   have hb:(s.ev y).has m=true:=by
    cases hz:s.ev y with
    |row n=>
     rw[hz]at hv
     simp only[St.look]at hv
     split at hv<;>cases hv
    |box n off=>
     rw[hz]at hv
     cases off<;>simp only[St.look]at hv
     split at hv<;>cases hv
     cases hv
    |bsl m' off' l'=>
     rw[hz]at hv
     simp only[St.look,A.bsl.injEq]at hv
     simp[A.has,hv.1]
    |_=>rw[hz]at hv;simp only[St.look]at hv;cases hv
   cases off<;>simp only[h.bx y (by rw[ho];simp[Op.operands,Call.operands]) m hb]
  |_=>rfl
 simp only[h1,h2,h4];rfl

def DY:Ed->Bool
 | .add _ _=>true
 |_=>false
theorem QQ{P:Program}{o:Oper}{s:St}{p:A×List Ed}(he:Vm P o s=some p):p.2.any DY=true:=by unfold Vm at he;split at he;cases he;split at he;split at he;split at he;split at he;cases he;rfl;cases he;cases he;split at he;split at he;cases he;cases he;rfl;cases he;cases he;cases he
theorem IQ{P:Program}{o:Oper}{s:St}{wt:W}{Φ:Cn}{r:A}{es:List Ed}(he:CP P o s wt=some (Φ,r,es)):es.any DY=true:=by
 unfold CP at he;repeat' split at he
 all_goals first
  |(cases he;done)
  |(simp only[oe,pe]at he;obtain⟨_,_,rfl⟩:=he;rfl)
theorem Hb{P:Program}{o:Oper}{s:St}{zs:List D}{Φ:Cn}{r:A}{es:List Ed}(he:CM P o s zs=some (Φ,r,es)):es.any DY=true:=by
 unfold CM at he;repeat' split at he
 all_goals first
  |(cases he;done)
  |(simp only[oe,pe]at he;obtain⟨_,_,rfl⟩:=he;rfl)
theorem NK{s s':St}{x:A}(hb:∀n,x.has n=true->lk s'.B n=lk s.B n):Kw s' x=Kw s x:=by
 unfold Kw;cases x<;>try rfl
 rename_i n;simp only[hb n (by simp[A.has])]
theorem Hc{P:Program}{o:Oper}{s s':St}{zs:List D}{z:Cn×A×List Ed}(h:DQ o s s')(hf:∀d,o.dst=some d->fresh d s'=true)(he:CM P o s zs=some z):CM P o s' zs=some z:=by
 unfold CM at he⊢;cases hd:o.dst with
 |none=>rw[hd]at he;simp only at he;cases he
 |some d=>
  obtain⟨f1,f2,f3⟩:=BA (hf d hd)
  rw[hd]at he
  cases ho:o.op<;>rw[ho]at he<;>simp only at he⊢ <;>try (cases he;done)
  rename_i c
  obtain⟨callee,args,tys⟩:=c
  have hargs:∀x∈args.toList,x∈o.op.operands:=fun x hx=>by rw[ho];simp only[Op.operands,Call.operands,Array.mem_append];exact .inr (Array.mem_toList_iff.1 hx)
  simp only at he⊢
  split at he
  rename_i x y t t' ha ht
  rw[ha]at hargs
  have h1:=h.ev x (hargs x (by simp))
  have h2:=NK (h.bx x (hargs x (by simp)))
  have h3:=h.look y (hargs y (by simp))
  simp only[h1,h2,h3]
  split at he
  split at he
  rename_i e ys he1 he2
  split at he
  rename_i i hi
  split at he
  rename_i hc
  simp only[ba,decide_eq_true_eq,Bool.not_eq_true']at hc
  obtain⟨⟨⟨⟨c0,cz⟩,c1⟩,c2⟩,c3⟩:=hc
  rw[if_pos (by assumption)]
  rw[if_pos (by simp only[ba,decide_eq_true_eq,Bool.not_eq_true'];exact⟨⟨⟨⟨c0,cz⟩,f1⟩,f2⟩,f3⟩)]
  exact he
  cases he
  cases he
  cases he
  cases he
  cases he
theorem EU{P:Program}{o:Oper}{s:St}{b:Bool}{Φ:Cn}{r:A}{es:List Ed}(he:BO P o s b=some (Φ,r,es)):es.any DY=true:=by
 unfold BO at he;repeat' split at he
 all_goals first
  |(cases he;done)
  |(simp only[oe,pe]at he;obtain⟨_,_,rfl⟩:=he;rfl)
theorem KI{P:Program}{o:Oper}{s:St}{wt:W}{Φ:Cn}{r:A}{es:List Ed}(he:EP P o s wt=some (Φ,r,es)):es.any DY=true:=by
 unfold EP at he;repeat' split at he
 all_goals first
  |(cases he;done)
  |(simp only[oe,pe]at he;obtain⟨_,_,rfl⟩:=he;rfl)
theorem RH{P:Program}{o:Oper}{s s':St}{wt:W}(h:DQ o s s'):YD P o s' wt=YD P o s wt:=by
 unfold YD;cases ho:o.op<;>try rfl
 rename_i op t x y yt;have h1:=h.ev x (by rw[ho];simp[Op.operands]);have h2:=h.ev y (by rw[ho];simp[Op.operands]);have h3:=h.look x (by rw[ho];simp[Op.operands]);simp only[h1,h2]at h3⊢;simp only[h3]
theorem Mj{o:Oper}{s s':St}(h:DQ o s s'):Mi o s'=Mi o s:=by
 unfold Mi;cases ho:o.op<;>try rfl
 rename_i t x;have h3:=h.look x (by rw[ho];simp[Op.operands]);simp only[h3]
theorem RG{P:Program}{o:Oper}{s s':St}{wt:W}{z:Cn×A×List Ed}(h:DQ o s s')(hf:z.2.2.any DY=true->∀d,o.dst=some d->fresh d s'=true)(he:Vo P o s wt=some z):Vo P o s' wt=some z:=by
 have hmp:=fun x hx=>G1 (h.bx x hx);have hlk:=h.look;have hev:=h.ev;unfold Vo at he⊢;cases ho:o.op<;>rw[ho]at hmp hlk hev<;>simp only[ho]at he⊢ <;>try (exact he)
 case makeMap t r=>
  cases r with
  |some r=>exact he
  |none=>
   simp only at he⊢
   cases hd:o.dst with
   |none=>rw[hd]at he;exact he
   |some d=>
    rw[hd]at he
    simp only at he⊢
    split at he
    simp only[oe]at he
    obtain⟨f1,f2,f3⟩:=BA (hf (by rw[<-he];rfl) d hd)
    simp only[f1,f2,f3,decide_true,Bool.not_false,Bool.and_self,if_true]
    rw[he]
    cases he
 case lookup t m k c=>
  simp only[Op.operands]at hmp hlk hev
  have e1:BW s' (s'.ev m)=BW s (s.ev m):=by rw[hev m (by simp)];exact hmp m (by simp)
  simp only[e1,hlk k (by simp)];exact he
 case mapUpdate t m k x=>
  simp only[Op.operands]at hmp hlk hev
  have e1:BW s' (s'.ev m)=BW s (s.ev m):=by rw[hev m (by simp)];exact hmp m (by simp)
  simp only[e1,hlk k (by simp),hlk x (by simp)];exact he
 case insert t m k x=>
  simp only[Op.operands]at hmp hlk hev
  have e1:BW s' (s'.ev m)=BW s (s.ev m):=by rw[hev m (by simp)];exact hmp m (by simp)
  simp only[e1,hlk k (by simp),hlk x (by simp)];exact he
 case mapEntry t m k=>
  simp only[Op.operands]at hmp hlk hev
  have e1:BW s' (s'.ev m)=BW s (s.ev m):=by rw[hev m (by simp)];exact hmp m (by simp)
  simp only[e1,hlk k (by simp)];exact he
 case entryStore t m st x=>
  simp only[Op.operands]at hmp hlk hev
  have e1:BW s' (s'.ev m)=BW s (s.ev m):=by rw[hev m (by simp)];exact hmp m (by simp)
  simp only[e1,hev st (by simp),hlk x (by simp)];exact he
 case call c=>
  obtain⟨callee,⟨args⟩,⟨tys⟩⟩:=c
  simp only[Op.operands,Call.operands]at hmp hlk hev
  simp only at he⊢
  split at he
  rename_i m k t t2
  have e1:BW s' (s'.ev m)=BW s (s.ev m):=by rw[hev m (by simp)];exact hmp m (by simp)
  simp only[e1,hlk k (by simp)];exact he
  rename_i m t
  have e1:BW s' (s'.ev m)=BW s (s.ev m):=by rw[hev m (by simp)];exact hmp m (by simp)
  simp only[e1];exact he
  rename_i m t
  have e1:BW s' (s'.ev m)=BW s (s.ev m):=by rw[hev m (by simp)];exact hmp m (by simp)
  simp only[e1];exact he
  cases he
theorem Kl{s s':St}{x:A}(hb:∀n,x.has n=true->lk s'.B n=lk s.B n):CH s' x=CH s x:=by
 unfold CH;cases x<;>try rfl
 rename_i n;simp only[hb n (by simp[A.has])]
theorem Mo{P:Program}{o:Oper}{s s':St}{wt:W}{z:Cn×A×List Ed}(h:DQ o s s')(hf:z.2.2.any DY=true->∀d,o.dst=some d->fresh d s'=true)(he:Hi P o s wt=some z):Hi P o s' wt=some z:=by
 have hmp:=fun x hx=>Kl (h.bx x hx);have hlk:=h.look;have hev:=h.ev;unfold Hi at he⊢;cases ho:o.op<;>rw[ho]at hmp hlk hev<;>simp only[ho]at he⊢ <;>try (exact he)
 case makeMap t r=>
  cases r with
  |some r=>exact he
  |none=>
   simp only at he⊢
   cases hd:o.dst with
   |none=>rw[hd]at he;exact he
   |some d=>
    rw[hd]at he
    simp only at he⊢
    split at he
    simp only[oe]at he
    obtain⟨f1,f2,f3⟩:=BA (hf (by rw[<-he];rfl) d hd)
    simp only[f1,f2,f3,decide_true,Bool.not_false,Bool.and_self,if_true]
    rw[he]
    cases he
 case mapUpdate t m k x=>
  simp only[Op.operands]at hmp hlk hev
  have e1:CH s' (s'.ev m)=CH s (s.ev m):=by rw[hev m (by simp)];exact hmp m (by simp)
  simp only[e1,hlk k (by simp),hlk x (by simp)];exact he
 case insert t m k x=>
  simp only[Op.operands]at hmp hlk hev
  have e1:CH s' (s'.ev m)=CH s (s.ev m):=by rw[hev m (by simp)];exact hmp m (by simp)
  simp only[e1,hlk k (by simp),hlk x (by simp)];exact he
 case call c=>
  obtain⟨callee,⟨args⟩,⟨tys⟩⟩:=c
  simp only[Op.operands,Call.operands]at hmp hlk hev
  simp only at he⊢
  split at he
  rename_i m k t t2
  have e1:CH s' (s'.ev m)=CH s (s.ev m):=by rw[hev m (by simp)];exact hmp m (by simp)
  simp only[e1,hlk k (by simp)];exact he
  cases he
theorem RL{P:Program}{o:Oper}{s s':St}{y0:D}{zs:List D}(h:DQ o s s'):YE P o s' y0 zs=YE P o s y0 zs:=by
 unfold YE;cases ho:o.op<;>try rfl
 rename_i t x y;have h1:=h.ev x (by rw[ho];simp[Op.operands]);have h2:=h.look y (by rw[ho];simp[Op.operands]);simp only[h1,h2];cases hx:s.ev x with
 |ep n k i off=>
  have hlk:=Ce h (by rw[ho];simp[Op.operands]) hx
  cases hy:toD (s.look (s.ev y))<;>cases y0<;>first|rfl|simp only[hlk]
 |_=>rfl
theorem FW{P:Program}{o:Oper}{s s':St}{wt:W}{Φ:Ob}{r:A}{es:List Ed}(h:DQ o s s')(hx:∀n∈xns wt,lk s'.B n=lk s.B n)(hc:∀ns r,wt=.lend ns r->Cr s ns=true)(hg:∀d∈nns wt,fresh d s'=true)(hf:es.any DY=true->∀d,o.dst=some d->fresh d s'=true)(he:Cp P o s wt (IF P s o)=some (Φ,r,es)):Cp P o s' wt (IF P s' o)=some (Φ,r,es):=by
 rw[NN h];generalize IF P s o=k at he⊢;match k with
 |0=>simp only[Cp]at he⊢;rw[Mp h.ev h.look];exact he
 |1=>simp only[Cp]at he⊢;rw[Mn h];exact he
 |2=>
  simp only[Cp]at he⊢
  split at he
  rw[Mj h];exact he
  simp only[om,pe]at he⊢
  obtain⟨p,h1,h2,h3,h4⟩:=he
  refine⟨p,QR h (hf ?_) h1,h2,h3,h4⟩
  rw[<-h4]
  exact QQ h1
 |3=>
  simp only[Cp]at he⊢
  have e:EC P o s'=EC P o s:=by unfold EC;rw[FY h]
  rw[FY h,e];exact he
 |4=>
  have key:∀wt',((CP P o s wt').map fun p=>(Ob.c p.1,p.2))=some (Φ,r,es)->((CP P o s' wt').map fun p=>(Ob.c p.1,p.2))=some (Φ,r,es):=by intro wt' he;simp only[om,pe]at he⊢;obtain⟨⟨Φ',r',es'⟩,h1,h2,h3⟩:=he;cases h3;exact⟨_,IR h (hf (IQ h1)) h1,h2,rfl⟩
  simp only[Cp]at he⊢
  cases wt with
  |rwl zs=>
   simp only[om,pe]at he⊢
   obtain⟨⟨Φ',r',es'⟩,h1,h2,h3⟩:=he
   cases h3
   exact⟨_,Hc h (hf (Hb h1)) h1,h2,rfl⟩
  |_=>exact key _ he
 |5=>
  simp only[Cp,om,pe]at he⊢
  obtain⟨⟨Φ',r',es'⟩,h1,h2,h3⟩:=he
  cases h3
  exact⟨_,EV h (hf (EU h1)) h1,h2,rfl⟩
 |6=>
  simp only[Cp]at he⊢
  cases wt with
  |lend ns r=>simp only at he⊢;rw[KL h hx hc];exact he
  |cx _ _ _ _ _=>exact KN h hx hg he
  |_=>simp only at he⊢;rw[KM h];exact he
 |7=>simp only[Cp]at he⊢;rw[KK h];exact he
 |8=>
  simp only[Cp,om,pe]at he⊢
  obtain⟨⟨Φ',r',es'⟩,h1,h2,h3⟩:=he
  cases h3
  exact⟨_,KJ h (hf (KI h1)) h1,h2,rfl⟩
 |9=>
  simp only[Cp]at he⊢
  cases wt with
  |prt y0 zs=>simp only at he⊢;rw[RL h];exact he
  |_=>simp only at he⊢;rw[KG h,Mt h];exact he
 |10=>simp only[Cp]at he⊢;rw[Hd h];exact he
 |11=>simp only[Cp]at he⊢;rw[RH h];exact he
 |12=>
  have k1:((Vo P o s wt).map fun p=>(Ob.c p.1,p.2))=some (Φ,r,es)->((Vo P o s' wt).map fun p=>(Ob.c p.1,p.2))=some (Φ,r,es):=by intro he;simp only[om,pe]at he⊢;obtain⟨⟨Φ',r',es'⟩,h1,h2,h3⟩:=he;cases h3;exact⟨_,RG h hf h1,h2,rfl⟩
  have k2:((Hi P o s wt).map fun p=>(Ob.c p.1,p.2))=some (Φ,r,es)->((Hi P o s' wt).map fun p=>(Ob.c p.1,p.2))=some (Φ,r,es):=by intro he;simp only[om,pe]at he⊢;obtain⟨⟨Φ',r',es'⟩,h1,h2,h3⟩:=he;cases h3;exact⟨_,Mo h hf h1,h2,rfl⟩
  simp only[Cp]at he⊢
  cases wt with
  |frz=>exact k2 he
  |ms S=>exact k2 he
  |_=>exact k1 he
 |13=>exact he
 |k+14=>simp only[Cp]at he;cases he

theorem RK{P:Program}{o:Oper}{s s':St}{wt:W}{Φ:Ob}{r:A}{es:List Ed}(h:DQ o s s')(hx:∀n∈xns wt,lk s'.B n=lk s.B n)(hc:∀ns r,wt=.lend ns r->Cr s ns=true)(hg:∀d∈nns wt,fresh d s'=true)(hf:es.any DY=true->∀d,o.dst=some d->fresh d s'=true)(he:W4 P o s wt=some (Φ,r,es)):W4 P o s' wt=some (Φ,r,es):=by
 unfold W4 at he⊢;cases wt with
 |fzn m=>
  simp only at he⊢
  split at he
  rename_i Φ' r' h1
  have h2:=FW (es:=[]) h (fun n hn=>by cases hn) (fun ns r e=>by cases e) (fun d hd=>by cases hd) (fun hh=>by cases hh) h1
  rw[h2]
  simp only[hx m (.head _)]
  exact he
  cases he
 |rwz zs=>
  simp only at he⊢
  split at he
  rename_i Φ' d es' h1
  split at he
  rename_i d' e k xs hl
  split at he
  rename_i hdd
  simp only[oe,pe]at he
  obtain⟨rfl,rfl,rfl⟩:=he
  have h2:=FW (es:=es') h (fun n hn=>by cases hn) (fun ns r e=>by cases e) (fun d hd=>by cases hd) (fun hh=>hf (by rw[List.any_append,hh];rfl)) h1
  rw[h2]
  simp only[hl,hdd,if_true]
  cases he
  cases he
  cases he
 |_=>exact FW h hx hc hg hf he
end Go.Ac
namespace Go.Ac

structure Rc where
 dst:Option Tmp
 r:A
 es:List Ed
def Ed.name:Ed->Nat
 | .add n _=>n
 | .chg n _=>n
def Ed.bk:Ed->Bk
 | .add _ b=>b
 | .chg _ b=>b
def Rc.ap(c:Rc)(s:St):St:=(s.edit c.es).put c.dst c.r
def Rc.free(c:Rc)(d:Nat):Bool:= !c.r.has d&&c.es.all fun e=>e.name !=d&& !e.bk.has d
structure Dr where
 c:Rc
 ts:List Nat
 vs:List A
 ns:List Nat

theorem L6{n:Nat}:∀{B:Bx},(∀p∈B,p.1≠n/\p.2.has n=false)->BL n B=false
 |[],_=>rfl
 |p::B,h=>by
  simp only[BL,Bool.or_eq_false_iff,beq_eq_false_iff_ne];exact⟨h p (by simp),L6 fun q hq=>h q (by simp[hq])⟩
theorem Gw{n:Nat}{r:A}(hr:r.has n=false):∀(l:List A) (i:Nat),AQ n l=false->AQ n (l.set i r)=false
 |[],_,h=>h
 |a::l,0,h=>by
  simp only[AQ,Bool.or_eq_false_iff,List.set_cons_zero]at h⊢;exact⟨hr,h.2⟩
 |a::l,i+1,h=>by
  simp only[AQ,Bool.or_eq_false_iff,List.set_cons_succ]at h⊢;exact⟨h.1,Gw hr l i h.2⟩
theorem Hn{n:Nat}{B:Bx}{e:Ed}(hB:BL n B=false)(h1:e.name≠n)(h2:e.bk.has n=false):BL n (AX B e)=false:=by
 refine L6 fun p hp=>?_;cases e with
 |add m b=>
  rcases mc.1 ((Bz m b B).mem_iff.1 hp)with rfl|hp
  exact⟨h1,h2⟩
  exact BK hB p hp
 |chg m b=>
  rcases BG hp with rfl|⟨hp,_⟩
  exact⟨h1,h2⟩
  exact BK hB p hp
theorem Fa{n:Nat}:∀{es:List Ed} {B:Bx},BL n B=false->(es.all fun e=>e.name !=n&& !e.bk.has n)=true->BL n (es.foldl AX B)=false
 |[],B,hB,_=>hB
 |e::es,B,hB,h=>by
  simp only[List.all_cons,ba,bne_iff_ne,Bool.not_eq_true']at h;exact Fa (B:=AX B e) (Hn hB h.1.1 h.1.2) h.2
theorem Rc.fresh_ap{c:Rc}{d:Nat}{s:St}(h:fresh d s=true)(hc:c.free d=true):fresh d (c.ap s)=true:=by
 obtain⟨f1,f2,f3⟩:=BA h;simp only[Rc.free,ba,Bool.not_eq_true']at hc;have h3:BL d (c.ap s).B=false:=by
  have:(c.ap s).B=c.es.foldl AX s.B:=by unfold Rc.ap;cases c.dst<;>rfl
  rw[this];exact Fa f3 hc.2
 have h2:AQ d (c.ap s).E=false:=by
  unfold Rc.ap;cases c.dst with
  |none=>exact f2
  |some t=>exact Gw hc.1 _ _ f2
 simp only[fresh,f1,h2,h3,decide_true,Bool.not_false,Bool.and_self]

structure FP(ts:List Nat)(N:Nat->Bool)(s s':St):Prop where
 len:s'.E.length=s.E.length
 e:∀t∈ts,s'.E[t]? =s.E[t]?
 b:∀n,N n=true->lk s'.B n=lk s.B n
theorem FP.refl(ts N s):FP ts N s s:=⟨rfl,fun _ _=>rfl,fun _ _=>rfl⟩
theorem FP.symm{ts N s s'}(h:FP ts N s s'):FP ts N s' s:=⟨h.len.symm,fun t ht=>(h.e t ht).symm,fun n hn=>(h.b n hn).symm⟩
theorem FP.trans{ts N s s' s''}(h:FP ts N s s')(g:FP ts N s' s''):FP ts N s s'':=⟨g.len.trans h.len,fun t ht=>(g.e t ht).trans (h.e t ht),fun n hn=>(g.b n hn).trans (h.b n hn)⟩

theorem EJ(p:Nat×Bk)(B:Bx)(n:Nat):lk (p::B) n=if p.1=n then some p.2 else lk B n:=by
 unfold lk;rw[List.find?_cons];by_cases h:p.1=n;simp[h];rw[if_neg h];have:(p.1==n)=false:=by simpa using h
 simp[this]
theorem H0(m:Nat)(b:Bk)(n:Nat):∀B:Bx,lk (Ca m b B) n=if m=n then some b else lk B n
 |[]=>by simp[Ca,EJ]
 |p::B=>by
  simp only[Ca];split;rw[EJ];rename_i hle;rw[EJ,H0 m b n B,EJ];by_cases h1:p.1=n;rw[if_pos h1,if_pos h1];by_cases h2:m=n;exfalso;apply hle;subst h1;subst h2;exact Nat.ble_eq_true_of_le (Nat.le_refl _);rw[if_neg h2];rw[if_neg h1,if_neg h1]
theorem Ki(m:Nat)(b:Bk)(n:Nat):∀B:Bx,lk (BD B m b) n=if m=n then(lk B n).map fun _=>b else lk B n
 |[]=>by simp[BD,lk]
 |p::B=>by
  have ih:=Ki m b n B;simp only[BD,List.map_cons]at ih⊢;rw[EJ,EJ,ih];by_cases h1:p.1=m;rw[if_pos h1];by_cases h2:m=n;subst h2;simp[h1];have:¬p.1=n:=fun e=>h2 (h1.symm.trans e);simp only[h2,if_false,this];rw[if_neg h1];by_cases h2:m=n;subst h2;simp[h1];simp[h2]
theorem EY{B B':Bx}{n:Nat}(e:Ed)(h:lk B' n=lk B n):lk (AX B' e) n=lk (AX B e) n:=by cases e<;>simp only[AX,H0,Ki,h]
theorem EZ{B:Bx}{n:Nat}{e:Ed}(h:e.name≠n):lk (AX B e) n=lk B n:=by cases e<;>simp only[Ed.name]at h<;>simp only[AX,H0,Ki,h,if_false]
theorem C9{n:Nat}:∀(es:List Ed) {B B':Bx},lk B' n=lk B n->lk (es.foldl AX B') n=lk (es.foldl AX B) n
 |[],_,_,h=>h
 |e::es,_,_,h=>C9 es (EY e h)
theorem DA{n:Nat}:∀(es:List Ed) {B:Bx},(∀e∈es,e.name≠n)->lk (es.foldl AX B) n=lk B n
 |[],_,_=>rfl
 |e::es,B,h=>(DA es (B:=AX B e) fun f hf=>h f (by simp[hf])).trans (EZ (h e (by simp)))

theorem Rc.ap_B(c:Rc)(s:St):(c.ap s).B=c.es.foldl AX s.B:=by unfold Rc.ap;cases c.dst<;>rfl
theorem FP.ap{ts N s s'}(c:Rc)(h:FP ts N s s'):FP ts N (c.ap s) (c.ap s'):=by
 refine⟨?_,?_,fun n hn=>?_⟩;unfold Rc.ap;cases c.dst with
 |none=>exact h.len
 |some d=>simp only[St.put,List.length_set,St.edit];exact h.len
 intro t ht;unfold Rc.ap;cases c.dst with
 |none=>exact h.e t ht
 |some d=>
  simp only[St.put,St.edit,List.getElem?_set,h.len,h.e t ht]
 rw[Rc.ap_B,Rc.ap_B];exact C9 _ (h.b n hn)
def Kd(a:Rc)(b:Dr):Bool:=
 (match a.dst with|none=>true|some d=> !b.ts.contains d)&&a.es.all fun e=> !AQ e.name b.vs
theorem FP.other{a:Rc}{b:Dr}(h:Kd a b=true)(s:St):FP b.ts (fun n=>AQ n b.vs) s (a.ap s):=by
 simp only[Kd,ba]at h;refine⟨?_,?_,fun n hn=>?_⟩;unfold Rc.ap;cases a.dst with
 |none=>rfl
 |some d=>simp only[St.put,List.length_set,St.edit]
 intro t ht;unfold Rc.ap;cases hd:a.dst with
 |none=>rfl
 |some d=>
  have h1:=h.1
  rw[hd]at h1
  simp only[Bool.not_eq_true',List.contains_eq_mem,decide_eq_false_iff_not]at h1
  have:d≠t:=fun e=>h1 (e▸ht)
  simp only[St.put,St.edit,List.getElem?_set,this,if_false]
 rw[Rc.ap_B];refine DA _ fun e he hne=>?_;have:=List.all_eq_true.1 h.2 e he;rw[hne,hn]at this;cases this

def sig(fl:Nat->Bool):Nat->List Dr->St->St
 |_,[],s=>s
 |k,d::ds,s=>sig fl (k+1) ds (if fl k then d.c.ap s else s)

theorem V4{b:Dr}{fl fl':Nat->Bool}:∀(ds:List Dr) (k:Nat) {s s':St},(∀i d,ds[i]? =some d->fl (k+i)≠fl' (k+i)->Kd d.c b=true)->
 FP b.ts (fun n=>AQ n b.vs) s s'->FP b.ts (fun n=>AQ n b.vs) (sig fl k ds s) (sig fl' k ds s')
 |[],_,_,_,_,h=>h
 |d::ds,k,s,s',hd,h=>by
  simp only[sig];refine V4 ds (k+1) (fun i d' hi hne=>hd (i+1) d' (by simpa using hi) (by simpa[Nat.add_assoc,Nat.add_comm 1 i]using hne)) ?_;have h0:=hd 0 d (by simp);simp only[Nat.add_zero]at h0;cases h1:fl k<;>cases h2:fl' k<;>simp only[if_true,Bool.false_eq_true,if_false];exact h;exact h.trans (FP.other (h0 (by simp[h1,h2])) s');exact(FP.other (h0 (by simp[h1,h2])) s).symm.trans h;exact h.ap d.c
theorem F3{fl:Nat->Bool}{n:Nat}:∀(ds:List Dr) (k:Nat) {s:St},(∀i d,ds[i]? =some d->fl (k+i)=true->d.c.free n=true)->fresh n s=true->fresh n (sig fl k ds s)=true
 |[],_,_,_,h=>h
 |d::ds,k,s,hd,h=>by
  simp only[sig];refine F3 ds (k+1) (fun i d' hi hne=>hd (i+1) d' (by simpa using hi) (by simpa[Nat.add_assoc,Nat.add_comm 1 i]using hne)) ?_;cases h1:fl k<;>simp only[if_true,Bool.false_eq_true,if_false];exact h;exact Rc.fresh_ap h (hd 0 d (by simp) (by simpa using h1))

theorem In{m n:Nat}(hne:m≠n)(b c:Bk):∀B:Bx,Ca m b (Ca n c B)=Ca n c (Ca m b B)
 |[]=>by
  simp only[Ca];rcases Nat.lt_or_gt_of_ne hne with h|h
  have h1:Nat.ble m n=true:=Nat.ble_eq_true_of_le (Nat.le_of_lt h);have h2:Nat.ble n m=false:=by
   cases hh:Nat.ble n m with
   |false=>rfl
   |true=>exact absurd (Nat.le_of_ble_eq_true hh) (Nat.not_le.2 h)
  simp[h1,h2];have h1:Nat.ble n m=true:=Nat.ble_eq_true_of_le (Nat.le_of_lt h);have h2:Nat.ble m n=false:=by
   cases hh:Nat.ble m n with
   |false=>rfl
   |true=>exact absurd (Nat.le_of_ble_eq_true hh) (Nat.not_le.2 h)
  simp[h1,h2]
 |p::B=>by
  have ih:=In hne b c B;have hb:∀x y:Nat,Nat.ble x y=true↔x<=y:=fun x y=>by simp
  simp only[Ca];by_cases h1:m<=p.1<;>by_cases h2:n<=p.1;rcases Nat.lt_or_gt_of_ne hne with h|h
  have:¬n<=m:=Nat.not_le.2 h;simp[Ca,h1,h2,Nat.le_of_lt h,this];have:¬m<=n:=Nat.not_le.2 h;simp[Ca,h1,h2,Nat.le_of_lt h,this];have:¬n<=m:=fun h=>h2 (Nat.le_trans h h1);simp[Ca,h1,h2,this];have:¬m<=n:=fun h=>h1 (Nat.le_trans h h2);simp[Ca,h1,h2,this];simp[Ca,h1,h2,ih]
theorem F7{m n:Nat}(hne:m≠n)(b c:Bk):∀B:Bx,BD (Ca n c B) m b=Ca n c (BD B m b)
 |[]=>by simp[Ca,BD,Ne.symm hne]
 |p::B=>by
  have ih:=F7 hne b c B;have he:(if p.1=m then(m,b)else p).1=p.1:=by split<;>simp_all
  simp only[Ca,BD,List.map_cons,he]at ih⊢;split;simp only[List.map_cons,Ne.symm hne,if_false];simp only[List.map_cons,ih]
theorem SZ{m n:Nat}(hne:m≠n)(b c:Bk)(B:Bx):BD (BD B n c) m b=BD (BD B m b) n c:=by simp only[BD,List.map_map];apply List.map_congr_left;intro p _;simp only[Function.comp_apply];by_cases h1:p.1=n;have h2:¬p.1=m:=fun e=>hne (e.symm.trans h1);simp[h1,h2,Ne.symm hne];by_cases h2:p.1=m;simp[h1,h2,hne];simp[h1,h2]
theorem IV{e f:Ed}(h:e.name≠f.name)(B:Bx):AX (AX B f) e=AX (AX B e) f:=by cases e<;>cases f<;>simp only[Ed.name]at h<;>simp only[AX];exact In h _ _ _;exact(F7 (Ne.symm h) _ _ _).symm;exact F7 h _ _ _;exact SZ h _ _ _
theorem Fh{e:Ed}:∀(fs:List Ed) (B:Bx),(∀f∈fs,e.name≠f.name)->AX (fs.foldl AX B) e=fs.foldl AX (AX B e)
 |[],_,_=>rfl
 |f::fs,B,h=>by
  simp only[List.foldl_cons];rw[Fh fs _ fun g hg=>h g (by simp[hg]),IV (h f (by simp))]
theorem Gu:∀(es fs:List Ed) (B:Bx),(∀e∈es,∀f∈fs,e.name≠f.name)->es.foldl AX (fs.foldl AX B)=fs.foldl AX (es.foldl AX B)
 |[],_,_,_=>rfl
 |e::es,fs,B,h=>by
  simp only[List.foldl_cons];rw[Fh fs B (h e (by simp)),Gu es fs _ fun g hg=>h g (by simp[hg])]
def Ho(a b:Rc):Bool:=
 (match a.dst,b.dst with|some x,some y=>x !=y|_,_=>true)&&a.es.all fun e=>b.es.all fun f=>e.name !=f.name
theorem W5{a b:Rc}(h:Ho a b=true)(s:St):a.ap (b.ap s)=b.ap (a.ap s):=by
 simp only[Ho,ba]at h;have hB:a.es.foldl AX (b.es.foldl AX s.B)=b.es.foldl AX (a.es.foldl AX s.B):=Gu _ _ _ fun e he f hf=>by have:=List.all_eq_true.1 (List.all_eq_true.1 h.2 e he) f hf;simpa using this
 obtain⟨da,ra,ea⟩:=a;obtain⟨db,rb,eb⟩:=b;simp only at h hB;cases da<;>cases db<;>simp only[Rc.ap,St.put,St.edit,hB];simp only[bne_iff_ne]at h;rw[List.set_comm _ _ (Ne.symm h.1)]
theorem SR{fl:Nat->Bool}{c:Rc}:∀(ds:List Dr) (k:Nat) (s:St),(∀i d,ds[i]? =some d->fl (k+i)=true->Ho d.c c=true)->sig fl k ds (c.ap s)=c.ap (sig fl k ds s)
 |[],_,_,_=>rfl
 |d::ds,k,s,h=>by
  simp only[sig];have h':∀i d,ds[i]? =some d->fl (k+1+i)=true->Ho d.c c=true:=fun i d' hi hf=>h (i+1) d' (by simpa using hi) (by simpa[Nat.add_assoc,Nat.add_comm 1 i]using hf);cases h1:fl k<;>simp only[if_true,Bool.false_eq_true,if_false];exact SR ds (k+1) s h';rw[W5 (h 0 d (by simp) (by simpa using h1)),SR ds (k+1) _ h']
theorem G8{fl fl':Nat->Bool}{j:Nat}{dj:Dr}(hfl:∀i,fl' i=if i=j then true else fl i)(hj:fl j=false):∀(ds:List Dr) (k:Nat) (s:St),k<=j->ds[j-k]? =some dj->
 (∀i d,ds[i]? =some d->j<k+i->fl (k+i)=true->Ho d.c dj.c=true)->sig fl' k ds s=dj.c.ap (sig fl k ds s)
 |[],_,_,_,h,_=>by simp at h
 |d::ds,k,s,hk,h,hc=>by
  simp only[sig];rcases Nat.eq_or_lt_of_le hk with rfl|hlt
  simp only[Nat.sub_self,List.getElem?_cons_zero,oe]at h;subst h;rw[hfl k,if_pos rfl,hj];simp only[if_true,Bool.false_eq_true,if_false];rw[<-SR (fl:=fl) ds (k+1) s fun i d' hi hf=>hc (i+1) d' (by simpa using hi) (by omega) (by simpa[Nat.add_assoc,Nat.add_comm 1 i]using hf)];have:∀(ds:List Dr) (m:Nat) (s:St),k<m->sig fl' m ds s=sig fl m ds s:=by
   intro ds;induction ds with
   |nil=>intro m s _;rfl
   |cons d ds ih=>
    intro m s hm
    have hne:¬m=k:=by omega
    simp only[sig,hfl m,hne,if_false]
    exact ih (m+1) _ (by omega)
  exact this ds (k+1) _ (by omega);have hne:¬k=j:=by omega
  rw[hfl k,if_neg hne];refine G8 hfl hj ds (k+1) _ hlt ?_ fun i d' hi hl hf=>hc (i+1) d' (by simpa using hi) (by omega) (by simpa[Nat.add_assoc,Nat.add_comm 1 i]using hf);have e:j-k=j-(k+1)+1:=by omega
  rw[e]at h;simpa using h
end Go.Ac
namespace Go.Ac

def V0(T:List Nat)(o:Oper):Nat:=
 o.after.toList.foldl (fun m e=>if Region.binds .any e then m|||(1<<<e.on)|||T.getD e.on 0 else m) 0
theorem Iy{T:List Nat}{i:Nat}:∀(l:List Edge) (m:Nat),(l.foldl (fun m e=>if Region.binds .any e then m|||(1<<<e.on)|||T.getD e.on 0 else m) m).testBit i=true->
 m.testBit i=true\/∃e∈l,Region.binds .any e=true/\(i=e.on\/(T.getD e.on 0).testBit i=true)
 |[],m,h=>.inl h
 |e::l,m,h=>by
  simp only[List.foldl_cons]at h;rcases Iy l _ h with h|⟨e',he,hb⟩
  split at h;rename_i hb;simp only[Nat.testBit_or,Bool.or_eq_true]at h;rcases h with(h|h)|h
  exact .inl h;rw[Nat.one_shiftLeft,Nat.testBit_two_pow]at h;simp only[decide_eq_true_eq]at h;exact .inr ⟨e,by simp,hb,.inl h.symm⟩;exact .inr ⟨e,by simp,hb,.inr h⟩;exact .inl h;exact .inr ⟨e',by simp[he],hb⟩
theorem Kn{T:List Nat}{o:Oper}{i:Nat}(h:(V0 T o).testBit i=true):∃e∈o.after,Region.binds .any e=true/\(i=e.on\/(T.getD e.on 0).testBit i=true):=by
 rcases Iy _ _ h with h|⟨e,he,hb⟩
 simp at h;exact⟨e,by simpa using he,hb⟩
def DW:List Oper->List Nat->List Nat
 |[],T=>T
 |o::l,T=>DW l (T++[V0 T o])
def aCt(L:Nat->Bool)(T:List Nat):Prop:=∀j m i,T[j]? =some m->m.testBit i=true->L j=true->L i=true
theorem Gs{L:Nat->Bool}:∀(l:List Oper) (T:List Nat),(∀j o,l[j]? =some o->L (T.length+j)=true->∀e∈o.after,Region.binds .any e=true->L e.on=true)->aCt L T->aCt L (DW l T)
 |[],T,_,h=>h
 |o::l,T,hl,h=>by
  simp only[DW];refine Gs l _ (fun j o' hj hL=>hl (j+1) o' (by simpa using hj) (by simpa[Nat.add_assoc,Nat.add_comm 1 j]using hL)) ?_;intro j m i hj hb hL;rw[List.getElem?_append]at hj;split at hj;exact h j m i hj hb hL;rename_i hlt;have hj0:j=T.length:=by
   rcases Nat.lt_or_ge (j-T.length) 1 with h1|h1
   omega;rw[List.getElem?_eq_none (by simpa using h1)]at hj;cases hj
  subst hj0;simp only[Nat.sub_self,List.getElem?_cons_zero,oe]at hj;subst hj;obtain⟨e,he,hbd,hi⟩:=Kn hb;have hon:=hl 0 o (by simp) (by simpa using hL) e he hbd;rcases hi with rfl|hi
  exact hon;cases ht:T[e.on]? with
  |none=>simp[List.getD,ht]at hi
  |some m=>simp only[List.getD,ht,Option.getD_some]at hi;exact h e.on m i ht hi hon
theorem Ia:∀(l:List Oper) (T:List Nat),(DW l T).length=T.length+l.length
 |[],T=>by simp[DW]
 |o::l,T=>by simp only[DW,Ia l,List.length_append,List.length_cons,List.length_nil];omega
def Mv:Nat->List Oper->Bool
 |_,[]=>true
 |k,o::l=>o.after.toList.all (fun e=> !Region.binds .any e||decide (e.on<k))&&Mv (k+1) l
theorem Gq:∀(l:List Oper) (k:Nat),Mv k l=true->∀j o,l[j]? =some o->∀e∈o.after,Region.binds .any e=true->e.on<k+j
 |[],_,_,j,o,h,_,_,_=>by simp at h
 |o'::l,k,hB,0,o,h,e,he,hb=>by
  simp only[List.getElem?_cons_zero,oe]at h;subst h;simp only[Mv,ba]at hB;have:=List.all_eq_true.1 hB.1 e (by simpa using he);simp only[hb,Bool.not_true,Bool.false_or,decide_eq_true_eq]at this;simpa using this
 |o'::l,k,hB,j+1,o,h,e,he,hb=>by
  simp only[Mv,ba]at hB;have:=Gq l (k+1) hB.2 j o (by simpa using h) e he hb;omega

def amv(o:Oper)(s:St)(w:W):Option Nat:=
 match o.op,w with
 | .move (.tmp x),.no=>match s.E.getD x .any with
  | .row n=>some n
  |_=>none
 |_,_=>none
def If(P:Program)(ops:Array Oper)(ws:List (Nat×W))(s:St)(o:Oper):Option (Ob×Rc):=
 if DM o.op then
  match Fk ops s o with
  |some true=>match amv o s (wOf ws o)with
   |some n=>some (.c .t,⟨o.dst,.row n,[]⟩)
   |none=>match W4 P o s (wOf ws o)with
    |some (Φ,r,es)=>some (Φ,⟨o.dst,r,es⟩)
    |none=>none
  |some false=>some (.c .t,⟨o.dst,.tup [],[]⟩)
  |none=>none
 else none
theorem VB{rd:Option Nat}{P:Program}{ops:Array Oper}{ws:List (Nat×W)}{s:St}{o:Oper}{L:Lp}{Φ:Ob}{c:Rc}(he:If P ops ws s o=some (Φ,c))(hΦ:Φ.ok P L)
 {h w val a} (H:AR s h w val a) {i:Nat} (hi:ops[i]? =some o) {K:Act->World->Prop} {Q:Exit->Act->World->Prop}
 (hK:∀h' w' val' a',AR (c.ap s) h' w' val' a'->Nx s h w val (c.ap s) h' w' val'->K a' w'):wpOpIn (fc rd) 0 P ops Q i K a w:=by
 unfold If at he
 split at he
 rename_i hnd
 split at he
 rename_i hg
 split at he
 rename_i n hm
 simp only[oe,pe]at he
 obtain⟨rfl,rfl⟩:=he
 unfold amv at hm
 split at hm
 rename_i x ho hw
 split at hm
 rename_i n' hx
 simp only[oe]at hm
 subst hm
 have hv:=H.ev (.tmp x)
 have hx':s.ev (.tmp x)=.row n':=hx
 rw[hx']at hv
 unfold wpOpIn
 rw[hi]
 simp only[By hg H,if_true]
 refine Bu hnd (AO (u:=a.eval (.tmp x)) (w':=w) (by simp[execOp,ho]) ?_)
 exact hK h w val _ (H.put o.dst hv) ((Nx.refl s h w val rfl).put _ _)
 cases hm
 cases hm
 split at he
 rename_i Φ' r es ho
 simp only[oe,pe]at he
 obtain⟨rfl,rfl⟩:=he
 unfold wpOpIn
 rw[hi]
 simp only[By hg H,if_true]
 exact Bu hnd (RJ ho hΦ h w val a H K Q fun h' w' val' u hr H' hn=>hK h' w' val' _ (H'.put o.dst hr) (hn.put _ _))
 cases he
 rename_i hg
 simp only[oe,pe]at he
 obtain⟨rfl,rfl⟩:=he
 unfold wpOpIn
 rw[hi]
 simp only[By hg H,Bool.false_eq_true,if_false]
 exact⟨fun _ _=>trivial,hK h w val _ (H.put o.dst HA) ((Nx.refl s h w val rfl).put _ _)⟩
 cases he
 cases he

theorem EH{n:Nat}{a:A}(h:a.has n=true):∀{l:List A},a∈l->AQ n l=true
 |b::l,hm=>by
  simp only[AQ,Bool.or_eq_true];rcases mc.1 hm with rfl|hm
  exact .inl h;exact .inr (EH h hm)
theorem XI(n:Nat)(v:Value):(cst v).has n=false:=by unfold cst;split;rfl;split<;>rfl;rfl;rfl
theorem FP.same{ops:Array Oper}{o:Oper}{s s':St}(h:FP (o.looksAt ops) (fun n=>AQ n ((o.looksAt ops).map fun t=>s.E.getD t .any)) s s'):DQ o s s':=by
 have hin:∀t,Operand.tmp t∈o.op.operands->t∈o.looksAt ops:=fun t ht=>ml _ (List.mem_filterMap.2 ⟨.tmp t,by simpa using ht,rfl⟩);refine⟨fun x hx=>?_,fun x hx n hn=>?_⟩;cases x with
 |tmp t=>simp only[St.ev,List.getD,h.e t (hin t hx)]
 |const v=>rfl
 |global g=>rfl
 |func f=>rfl
 cases x with
 |tmp t=>exact h.b n (EH hn (mm.2 ⟨t,hin t hx,rfl⟩))
 |const v=>simp only[St.ev,XI]at hn;cases hn
 |global g=>simp[St.ev,A.has]at hn
 |func f=>simp[St.ev,A.has,AQ]at hn
def aCe(ops:Array Oper)(ws:List (Nat×W))(s:St)(o:Oper):List A:=match amv o s (wOf ws o)with
 |some _=> []
 |none=>((o.looksAt ops).map fun t=>s.E.getD t .any)++(xns (wOf ws o)).map .row
theorem Uw{o:Oper}{s s':St}{w:W}(h:∀t,Operand.tmp t∈o.op.operands->s'.E[t]? =s.E[t]?):amv o s' w=amv o s w:=by unfold amv;split;rename_i x ho;have:s'.E[x]? =s.E[x]? :=h x (by rw[ho];simp[Op.operands]);simp only[List.getD,this];rfl
theorem Ch{n:Nat}:∀(a b:List A),AQ n (a++b)=(AQ n a||AQ n b)
 |[],b=>rfl
 |x::a,b=>by simp only[List.cons_append,AQ,Ch a b,Bool.or_assoc]
theorem FP.left{ts:List Nat}{a b:List A}{s s':St}(h:FP ts (fun n=>AQ n (a++b)) s s'):FP ts (fun n=>AQ n a) s s':=⟨h.len,h.e,fun n hn=>h.b n (by rw[Ch,hn];rfl)⟩
theorem FP.xs{ts:List Nat}{a:List A}{l:List Nat}{s s':St}(h:FP ts (fun n=>AQ n (a++l.map .row)) s s'):∀n∈l,lk s'.B n=lk s.B n:=fun n hn=>h.b n (by rw[Ch];have:AQ n (l.map A.row)=true:=EH (a:=.row n) (by simp[A.has]) (mm.2 ⟨n,hn,rfl⟩);rw[this,Bool.or_true])
def Ry(s:St):W->Bool
 | .lend ns _=>Cr s ns
 |_=>true
theorem M4{P:Program}{ops:Array Oper}{ws:List (Nat×W)}{s s':St}{o:Oper}{Φ:Ob}{c:Rc}(he:If P ops ws s o=some (Φ,c))
 (h:FP (o.looksAt ops) (fun n=>AQ n (aCe ops ws s o)) s s') (hc:Ry s (wOf ws o)=true) (hn:∀d∈nns (wOf ws o),fresh d s'=true) (hf:c.es.any DY=true->∀d,o.dst=some d->fresh d s'=true):If P ops ws s' o=some (Φ,c):=by
 have hc':∀ns r,wOf ws o=.lend ns r->Cr s ns=true:=fun ns r e=>by rw[e]at hc;exact hc
 have hin:∀t,Operand.tmp t∈o.op.operands->t∈o.looksAt ops:=fun t ht=>ml _ (List.mem_filterMap.2 ⟨.tmp t,by simpa using ht,rfl⟩)
 have hav:amv o s' (wOf ws o)=amv o s (wOf ws o):=Uw fun t ht=>h.e t (hin t ht)
 have hg:Fk ops s' o=Fk ops s o:=by
  unfold Fk;cases hg:o.guard with
  |none=>rfl
  |some g=>
   obtain⟨j,want⟩:=g
   simp only
   cases ht:(ops[j]?).bind (·.dst)with
   |none=>rfl
   |some t=>
    have:t∈o.looksAt ops:=mr _ (by simp[hg,ht])
    simp only[h.e t this]
 unfold If at he⊢
 rw[hg]
 split at he
 rename_i hnd
 rw[if_pos hnd]
 split at he
 split at he
 rename_i n hm
 rw[hav,hm]
 exact he
 rename_i hm
 rw[hav,hm]
 have hvs:aCe ops ws s o=((o.looksAt ops).map fun t=>s.E.getD t .any)++(xns (wOf ws o)).map .row:=by unfold aCe;rw[hm]
 rw[hvs]at h
 have hx:∀n∈xns (wOf ws o),lk s'.B n=lk s.B n:=FP.xs h
 have h2:=FP.left h
 split at he
 rename_i Φ' r es ho
 simp only[oe,pe]at he
 obtain⟨rfl,rfl⟩:=he
 simp only[RK h2.same hx hc' hn hf ho]
 cases he
 exact he
 cases he
 cases he

def Vu(P:Program)(ops:Array Oper)(ws:List (Nat×W)):List Oper->St->Option (Ob×List Dr×St)
 |[],s=>some (.c .t,[],s)
 |o::l,s=>match If P ops ws s o with
  |some (Φ,c)=>if Ry s (wOf ws o)then match Vu P ops ws l (c.ap s)with
   |some (Ψ,ds,s')=>some (Φ.and Ψ,⟨c,o.looksAt ops,aCe ops ws s o,nns (wOf ws o)⟩::ds,s')
   |none=>none
   else none
  |none=>none
def pre(ds:List Dr)(j:Nat)(s:St):St:=(ds.take j).foldl (fun s d=>d.c.ap s) s
theorem Ie{L:Lp}{P:Program}{ops:Array Oper}{ws:List (Nat×W)}:∀(l:List Oper) (s s':St) (Φ:Ob) (ds:List Dr),Vu P ops ws l s=some (Φ,ds,s')->Φ.ok P L->
 ds.length=l.length/\s'=pre ds l.length s/\∀j o,l[j]? =some o->∃d Φ',ds[j]? =some d/\Φ'.ok P L/\If P ops ws (pre ds j s) o=some (Φ',d.c)/\d.ts=o.looksAt ops/\d.vs=aCe ops ws (pre ds j s) o/\d.ns=nns (wOf ws o)/\Ry (pre ds j s) (wOf ws o)=true
 |[],s,s',Φ,ds,he,_=>by
  simp only[Vu,oe,pe]at he;obtain⟨_,rfl,rfl⟩:=he;exact⟨rfl,rfl,fun j o h=>by simp at h⟩
 |o::l,s,s',Φ,ds,he,hΦ=>by
  simp only[Vu]at he;split at he
  ·rename_i Φ1 c h1;split at he;case isFalse=>cases he
   rename_i hlo;split at he;rename_i Ψ ds' s'' h2;simp only[oe,pe]at he;obtain⟨rfl,rfl,rfl⟩:=he;obtain⟨hΦ1,hΨ⟩:=Ob.and_ok hΦ;obtain⟨e1,e2,e3⟩:=Ie l _ _ _ _ h2 hΨ;refine⟨by simp[e1],by simpa[pre]using e2,fun j o' hj=>?_⟩;cases j with
   |zero=>
    simp only[List.getElem?_cons_zero,oe]at hj
    subst hj
    exact⟨_,Φ1,rfl,hΦ1,h1,rfl,rfl,rfl,hlo⟩
   |succ j=>
    obtain⟨d,Φ',f1,f2,f3,f4,f5,f6,f7⟩:=e3 j o' (by simpa using hj)
    exact⟨d,Φ',by simpa using f1,f2,f3,f4,f5,f6,f7⟩
   cases he
  cases he
theorem Kt:∀(ds:List Dr) (k j:Nat) (s:St),pre ds j s=sig (fun i=>decide (i<k+j)) k ds s
 |[],k,j,s=>by simp[pre,sig]
 |d::ds,k,0,s=>by
  have:∀(ds:List Dr) (m:Nat) (s:St),k<=m->sig (fun i=>decide (i<k+0)) m ds s=s:=by
   intro ds;induction ds with
   |nil=>intro m s _;rfl
   |cons d ds ih=>
    intro m s hm
    have:¬m<k+0:=by omega
    simp only[sig,this,decide_false,Bool.false_eq_true,if_false]
    exact ih (m+1) s (by omega)
  rw[this _ k s (Nat.le_refl _)];simp[pre]
 |d::ds,k,j+1,s=>by
  have h:=Kt ds (k+1) j (d.c.ap s);have e:k+1+j=k+(j+1):=by omega
  rw[e]at h;have:k<k+(j+1):=by omega
  simp only[sig,this,decide_true,if_true];rw[<-h];simp[pre]

def V2(a b:Dr):Bool:=(!b.c.es.any DY||(match b.c.dst with|some d=>a.c.free d|none=>true))&&A6 (fun d=>a.c.free d) b.ns
def Fv(ord:Bool)(a b:Dr):Bool:=V2 a b&&(ord||(Kd a.c b&&Kd b.c a&&Ho a.c b.c&&Ho b.c a.c&&V2 b a))
def aCa(m:Nat)(b:Dr):Nat->List Dr->Bool
 |_,[]=>true
 |i,a::ds=>Fv (m.testBit i) a b&&aCa m b (i+1) ds
def I0:List Nat->List Dr->List Dr->Bool
 |_,_,[]=>true
 |[],_,_=>false
 |m::T,before,b::ds=>aCa m b 0 before&&I0 T (before++[b]) ds
def R8(s:St):List Dr->Bool
 |[]=>true
 |b::ds=>(!b.c.es.any DY||(match b.c.dst with|some d=>fresh d s|none=>true))&&A6 (fun d=>fresh d s) b.ns&&R8 s ds
theorem JC{m:Nat}{b:Dr}:∀(ds:List Dr) (k:Nat),aCa m b k ds=true->∀i a,ds[i]? =some a->Fv (m.testBit (k+i)) a b=true
 |[],_,_,i,a,h=>by simp at h
 |a'::ds,k,hB,0,a,h=>by
  simp only[List.getElem?_cons_zero,oe]at h;subst h;simp only[aCa,ba]at hB;exact hB.1
 |a'::ds,k,hB,i+1,a,h=>by
  simp only[aCa,ba]at hB;have:=JC ds (k+1) hB.2 i a (by simpa using h);simpa[Nat.add_assoc,Nat.add_comm 1 i]using this
theorem Fw:∀(T:List Nat) (before ds:List Dr),I0 T before ds=true->∀j m b,T[j]? =some m->ds[j]? =some b->∀i a,i<before.length+j->(before++ds)[i]? =some a->Fv (m.testBit i) a b=true
 |[],_,_,_,j,m,b,h,_,_,_,_,_=>by simp at h
 |_::_,_,[],_,j,m,b,_,h,_,_,_,_=>by simp at h
 |m'::T,before,b'::ds,hB,0,m,b,hm,hb,i,a,hi,ha=>by
  simp only[List.getElem?_cons_zero,oe]at hm hb;subst hm;subst hb;simp only[I0,ba]at hB;have:before[i]? =some a:=by rwa [List.getElem?_append_left (by simpa using hi)]at ha
  simpa using JC before 0 hB.1 i a this
 |m'::T,before,b'::ds,hB,j+1,m,b,hm,hb,i,a,hi,ha=>by
  simp only[I0,ba]at hB;exact Fw T _ ds hB.2 j m b (by simpa using hm) (by simpa using hb) i a (by simp only[List.length_append,List.length_cons,List.length_nil];omega) (by simpa using ha)
theorem EK{s:St}:∀(ds:List Dr),R8 s ds=true->∀(i:Nat) (b:Dr),ds[i]? =some b->(b.c.es.any DY=true->∀d,b.c.dst=some d->fresh d s=true)/\∀d∈b.ns,fresh d s=true
 |[],_,i,b,h=>by simp at h
 |b'::ds,hB,0,b,h=>by
  simp only[List.getElem?_cons_zero,oe]at h;subst h;simp only[R8,ba]at hB;exact⟨fun ha d hd=>by simpa[ha,hd]using hB.1.1,fun d hd=>Aq hB.1.2 d hd⟩
 |b'::ds,hB,i+1,b,h=>by
  simp only[R8,ba]at hB;exact EK ds hB.2 i b (by simpa using h)
end Go.Ac
namespace Go.Ac

def VA(ops:Array Oper)(s:St)(ds:List Dr):Bool:=
 Mv 0 ops.toList&&I0 (DW ops.toList []) [] ds&&R8 s ds

theorem aCd{n i:Nat}{fl fl':Nat->Bool}(hfl:∀k,fl' k=if k=i then true else fl k)(hi:i<n)(h0:fl i=false):
 ((List.range n).filter fun k=> !fl' k).length<((List.range n).filter fun k=> !fl k).length:=by
 have e:(List.range n).filter (fun k=> !fl' k)=((List.range n).filter fun k=> !fl k).filter fun k=>k !=i:=by rw[List.filter_filter];apply List.filter_congr;intro k _;rw[hfl k];by_cases hk:k=i;simp[hk];simp[hk]
 rw[e,List.length_filter_lt_length_iff_exists]
 exact⟨i,List.mem_filter.2 ⟨List.mem_range.2 hi,by simp[h0]⟩,by simp⟩

structure DP(ops:Array Oper)(listed:Array Bool):Prop where
 size:listed.size=ops.size
 deps:∀j o,ops[j]? =some o->listed.getD j false=true->∀e∈o.after,Region.binds .any e=true->listed.getD e.on false=true

theorem Ij{listed:Array Bool}{j:Nat}(hj:j<listed.size)(i:Nat):(listed.setIfInBounds j true).getD i false=if i=j then true else listed.getD i false:=by by_cases h:i=j;subst h;simp[hj];rw[if_neg h];simp only[Array.getD_eq_getD_getElem?];rw[Array.getElem?_setIfInBounds_ne (Ne.symm h)]

theorem DP.set{ops:Array Oper}{listed:Array Bool}(C:DP ops listed){j:Nat}(hj:j∈Region.ready .any ops listed):DP ops (listed.setIfInBounds j true):=by
 obtain⟨_,oj,hoj,hall⟩:=mem_ready.1 hj;have hlt:j<listed.size:=by rw[C.size];exact(Array.getElem?_eq_some_iff.1 hoj).1
 refine⟨by simp[C.size],fun i o ho hl e he hb=>?_⟩;rw[Ij hlt]at hl⊢;split;rfl;split at hl;rename_i h2;subst h2;have:o=oj:=Option.some.inj (ho.symm.trans hoj);subst this;exact hall e he hb;exact C.deps i o ho hl e he hb
theorem DP.good{ops:Array Oper}{listed:Array Bool}(C:DP ops listed):aCt (fun i=>listed.getD i false) (DW ops.toList []):=
 Gs _ _ (fun j o hj hL e he hb=>C.deps j o (by simpa using hj) (by simpa using hL) e he hb) (fun j m i h=>by simp at h)

theorem Ml{ops:Array Oper}{listed:Array Bool}(C:DP ops listed)(hb:Mv 0 ops.toList=true)(hr:Region.ready .any ops listed=[]):∀j,j<ops.size->listed.getD j false=true:=by
 intro j;induction j using Nat.strongRecOn with
 |_ j ih=>
  intro hj
  cases hl:listed.getD j false with
  |true=>rfl
  |false=>
   exfalso
   have:j∈Region.ready .any ops listed:=mem_ready.2 ⟨by
    have:j<listed.size:=by rw[C.size];exact hj
    simp[this]at hl⊢;exact hl,ops[j],Array.getElem?_eq_getElem hj,fun e he hbd=>by
    have h1:=Gq _ 0 hb j ops[j] (by simp[hj]) e he hbd;have h2:e.on<j:=by simpa using h1
    exact ih e.on h2 (Nat.lt_trans h2 hj)⟩
   rw[hr]at this
   cases this

theorem Ux{rd:Option Nat}{P:Program}{ops:Array Oper}{Q:Exit->Act->World->Prop}{listed:Array Bool}{a:Act}{w:World}(hs:listed.size=ops.size)(hl:∀j,j<ops.size->listed.getD j false=true)(hQ:Q .normal a w)(fuel:Nat):
 wpAnyIn (fc rd) 0 P .any ops Q fuel listed a w:=by
 have hr:Region.ready .any ops listed=[]:=by
  rcases List.eq_nil_or_concat (Region.ready .any ops listed)with h0|⟨l,j,hj⟩
  exact h0;exfalso;have hj':j∈Region.ready .any ops listed:=by rw[hj];simp
  obtain⟨h1,oj,hoj,_⟩:=mem_ready.1 hj';have hlt:=(Array.getElem?_eq_some_iff.1 hoj).1;have h2:=hl j hlt;simp[hs,hlt]at h1 h2;rw[h1]at h2;cases h2
 cases fuel with
 |zero=>exact⟨hr,hQ⟩
 |succ n=>exact⟨fun _=>hQ,fun j hj=>by rw[hr]at hj;cases hj⟩
theorem Rj{rd:Option Nat}{P:Program}{ops:Array Oper}{ws:List (Nat×W)}{Q:Exit->Act->World->Prop}{s0 s':St}{L:Lp}{Φ:Ob}{ds:List Dr}{n:Nat}
 (hn1:n<=ops.size) (hn2:ops.size<=n+1) (hmask:n<ops.size->∃m:Nat,(DW ops.toList [])[n]? =some m/\∀i,i<n->m.testBit i=true)
 (hrun:Vu P ops ws (ops.toList.take n) s0=some (Φ,ds,s')) (hΦ:Φ.ok P L) (hB:VA ops s0 ds=true):
 ∀(fuel:Nat) (listed:Array Bool) (a:Act) (w:World) (h:Hw) (val:Val),DP ops listed->(n<ops.size->listed.getD n false=false)->((List.range ops.size).filter fun k=> !listed.getD k false).length<=fuel->
  AR (sig (fun i=>listed.getD i false) 0 ds s0) h w val a->
  (∀h' w' val' a',AR s' h' w' val' a'->Nx (sig (fun i=>listed.getD i false) 0 ds s0) h w val s' h' w' val'->(n=ops.size->Q .normal a' w')/\
   (n<ops.size->∀K:Act->World->Prop,(∀a2 w2,Q .normal a2 w2->K a2 w2)->wpOpIn (fc rd) 0 P ops Q n K a' w'))->wpAnyIn (fc rd) 0 P .any ops Q fuel listed a w:=by
 obtain⟨hlen,hend,hall⟩:=Ie _ _ _ _ _ hrun hΦ
 have htl:(ops.toList.take n).length=n:=by simp only[List.length_take,Array.length_toList];omega
 rw[htl]at hlen hend
 simp only[VA,ba]at hB
 obtain⟨⟨hback,hpairs⟩,hnews⟩:=hB
 have hp:∀(j:Nat) (b:Dr) (i:Nat) (a:Dr),ds[j]? =some b->ds[i]? =some a->i<j->∃m:Nat,(DW ops.toList [])[j]? =some m/\Fv (m.testBit i) a b=true:=by
  intro j b i a hb ha hij;have hj:j<(DW ops.toList []).length:=by have:=(List.getElem?_eq_some_iff.1 hb).1;rw[Ia];simp only[List.length_nil,Nat.zero_add,Array.length_toList];omega
  exact⟨_,List.getElem?_eq_getElem hj,Fw _ _ _ hpairs j _ b (List.getElem?_eq_getElem hj) hb i a (by simpa using hij) (by simpa using ha)⟩
 have hsig:∀(listed:Array Bool),(∀j,j<n->listed.getD j false=true)->sig (fun i=>listed.getD i false) 0 ds s0=s':=by
  intro listed hal;rw[hend,Kt ds 0];have:∀(l:List Dr) (k:Nat) (s:St),k+l.length<=n->sig (fun i=>listed.getD i false) k l s=sig (fun i=>decide (i<0+n)) k l s:=by
   intro l;induction l with
   |nil=>intro k s _;rfl
   |cons d l ih=>
    intro k s hk
    simp only[List.length_cons]at hk
    have h1:k<0+n:=by omega
    simp only[sig,hal k (by omega),h1,decide_true,if_true]
    exact ih (k+1) _ (by omega)
  exact this ds 0 s0 (by omega)
 have hdone:∀(listed:Array Bool) (a:Act) (w:World) (h:Hw) (val:Val),DP ops listed->(n<ops.size->listed.getD n false=false)->Region.ready .any ops listed=[]->
  AR (sig (fun i=>listed.getD i false) 0 ds s0) h w val a->
  (∀h' w' val' a',AR s' h' w' val' a'->Nx (sig (fun i=>listed.getD i false) 0 ds s0) h w val s' h' w' val'->(n=ops.size->Q .normal a' w')/\
   (n<ops.size->∀K:Act->World->Prop,(∀a2 w2,Q .normal a2 w2->K a2 w2)->wpOpIn (fc rd) 0 P ops Q n K a' w'))->Q .normal a w:=by
  intro listed a w h val C hnl hr H hQ
  have hal:=Ml C hback hr
  have e:=hsig listed fun j hj=>hal j (by omega)
  rw[e]at H hQ
  rcases Nat.lt_or_ge n ops.size with hlt|hge
  have h1:=hnl hlt
  rw[hal n hlt]at h1;cases h1
  exact(hQ h w val a H (Nx.refl s' h w val rfl)).1 (by omega)
 intro fuel
 induction fuel with
 |zero=>
  intro listed a w h val C hnl hn H hQ
  have hr:Region.ready .any ops listed=[]:=by
   rcases List.eq_nil_or_concat (Region.ready .any ops listed)with h0|⟨l,j,hj⟩
   exact h0;exfalso;have hj':j∈Region.ready .any ops listed:=by rw[hj];simp
   obtain⟨h1,oj,hoj,_⟩:=mem_ready.1 hj';have hlt:=(Array.getElem?_eq_some_iff.1 hoj).1;have:j∈(List.range ops.size).filter fun k=> !listed.getD k false:=List.mem_filter.2 ⟨List.mem_range.2 hlt,by
    have h2:j<listed.size:=by rw[C.size];exact hlt
    simp[h2]at h1⊢;exact h1⟩
   have:=List.length_pos_of_mem this;omega
  exact⟨hr,hdone listed a w h val C hnl hr H hQ⟩
 |succ fuel ih=>
  intro listed a w h val C hnl hn H hQ
  refine⟨fun hr=>hdone listed a w h val C hnl hr H hQ,fun j hj=>?_⟩
  obtain⟨hj1,oj,hoj,hdeps⟩:=mem_ready.1 hj
  have hlt:=(Array.getElem?_eq_some_iff.1 hoj).1
  have hltL:j<listed.size:=by rw[C.size];exact hlt
  have hj0:listed.getD j false=false:=by simp[hltL]at hj1⊢;exact hj1
  have C':=C.set hj
  have hfl:∀i,(listed.setIfInBounds j true).getD i false=if i=j then true else listed.getD i false:=Ij hltL
  rcases Nat.lt_or_ge j n with hjn|hjn
  rotate_left
  have hjn:j=n:=by omega
  subst hjn
  obtain⟨m,hm,hmb⟩:=hmask hlt
  have hal:∀i,i<j->listed.getD i false=true:=fun i hi=>by have:=C'.good j m i hm (hmb i hi) (by simp only[hfl,if_true]);simp only[hfl]at this;rwa [if_neg (by omega)]at this
  have e:=hsig listed hal
  rw[e]at H hQ
  refine(hQ h w val a H (Nx.refl s' h w val rfl)).2 hlt _ fun a2 w2 hq=>Ux C'.size (fun i hi=>?_) hq fuel
  rw[hfl]
  split
  rfl
  exact hal i (by omega)
  obtain⟨d,Φ',hd,hΦ',hst,hts,hvs,hns,hlo⟩:=hall j oj (by rw[List.getElem?_take,if_pos hjn];simpa using hoj)
  --two that are not ordered
  have hun1:∀(i:Nat) (a:Dr),ds[i]? =some a->i<j->Fv (((DW ops.toList []).getD j 0).testBit i) a d=true:=by intro i a ha hij;obtain⟨m,hm,hpb⟩:=hp j d i a hd ha hij;simpa[List.getD,hm]using hpb
  have hun2:∀(i:Nat) (a:Dr),ds[i]? =some a->j<i->listed.getD i false=true->Fv false d a=true:=by
   intro i a ha hij hL;obtain⟨m,hm,hpb⟩:=hp i a j d ha hd hij;cases hb:m.testBit j with
   |false=>rwa [hb]at hpb
   |true=>
    have h1:=C.good i m j hm hb hL
    simp only at h1
    rw[hj0]at h1
    cases h1
  have hun3:∀(i:Nat) (a:Dr),ds[i]? =some a->i<j->listed.getD i false=false->Fv false a d=true:=by
   intro i a ha hij hL;obtain⟨m,hm,hpb⟩:=hp j d i a hd ha hij;cases hb:m.testBit i with
   |false=>rwa [hb]at hpb
   |true=>
    have:=C'.good j m i hm hb (by simp only[hfl,if_true])
    simp only[hfl]at this
    rw[if_neg (by omega),hL]at this
    cases this
  have hspec:∀{a b:Dr},Fv false a b=true->V2 a b=true/\Kd a.c b=true/\Kd b.c a=true/\Ho a.c b.c=true/\Ho b.c a.c=true/\V2 b a=true:=by intro a b h;simp only[Fv,Bool.false_or,ba]at h;exact⟨h.1,h.2.1.1.1.1,h.2.1.1.1.2,h.2.1.1.2,h.2.1.2,h.2.2⟩
  have hfp:FP d.ts (fun n=>AQ n d.vs) (pre ds j s0) (sig (fun i=>listed.getD i false) 0 ds s0):=by
   rw[Kt ds 0];refine V4 ds 0 (fun i a ha hne=>?_) (FP.refl _ _ _);simp only[Nat.zero_add]at hne;rcases Nat.lt_trichotomy i j with hij|hij|hij
   simp only[hij,decide_true]at hne;have hL:listed.getD i false=false:=by
    cases hh:listed.getD i false with
    |false=>rfl
    |true=>rw[hh]at hne;exact absurd rfl hne
   exact(hspec (hun3 i a ha hij hL)).2.1;subst hij;exfalso;apply hne;rw[hj0];simp;have:¬i<j:=by omega
   simp only[this,decide_false]at hne;have hL:listed.getD i false=true:=by
    cases hh:listed.getD i false with
    |true=>rfl
    |false=>rw[hh]at hne;exact absurd rfl hne
   exact(hspec (hun2 i a ha hij hL)).2.2.1
  rw[hts,hvs]at hfp
  have hfr:d.c.es.any DY=true->∀x,oj.dst=some x->fresh x (sig (fun i=>listed.getD i false) 0 ds s0)=true:=by
   intro hadd x hx;have hdst:d.c.dst=some x:=by
    have:d.c.dst=oj.dst:=by unfold If at hst;split at hst;split at hst;split at hst;simp only[oe,pe]at hst;rw[<-hst.2];split at hst;simp only[oe,pe]at hst;rw[<-hst.2];cases hst;simp only[oe,pe]at hst;rw[<-hst.2];cases hst;cases hst
    rw[this];exact hx
   have hnb:∀{a:Dr},V2 a d=true->a.c.free x=true:=by intro a h;simp only[V2,hadd,Bool.not_true,Bool.false_or,hdst,ba]at h;exact h.1
   refine F3 ds 0 (fun i a ha hL=>?_) ((EK ds hnews j d hd).1 hadd x hdst);simp only[Nat.zero_add]at hL;rcases Nat.lt_trichotomy i j with hij|hij|hij
   have:=hun1 i a ha hij;simp only[Fv,ba]at this;exact hnb this.1;subst hij;rw[hj0]at hL;cases hL;exact hnb (hspec (hun2 i a ha hij hL)).2.2.2.2.2
  have hfn:∀x∈nns (wOf ws oj),fresh x (sig (fun i=>listed.getD i false) 0 ds s0)=true:=by
   intro x hx;rw[<-hns]at hx;have hnb:∀{a:Dr},V2 a d=true->a.c.free x=true:=by intro a h;simp only[V2,ba]at h;exact Aq h.2 x hx
   refine F3 ds 0 (fun i a ha hL=>?_) ((EK ds hnews j d hd).2 x hx);simp only[Nat.zero_add]at hL;rcases Nat.lt_trichotomy i j with hij|hij|hij
   have:=hun1 i a ha hij;simp only[Fv,ba]at this;exact hnb this.1;subst hij;rw[hj0]at hL;cases hL;exact hnb (hspec (hun2 i a ha hij hL)).2.2.2.2.2
  have hst':=M4 hst hfp hlo hfn hfr
  have hins:sig (fun i=>(listed.setIfInBounds j true).getD i false) 0 ds s0=d.c.ap (sig (fun i=>listed.getD i false) 0 ds s0):=
   G8 (fl:=fun i=>listed.getD i false) hfl hj0 ds 0 s0 (Nat.zero_le _) (by simpa using hd) fun i a ha hij hL=>by simp only[Nat.zero_add]at hij hL;exact(hspec (hun2 i a ha hij hL)).2.2.2.2.1
  refine VB hst' hΦ' H hoj fun h' w' val' a' H' hn'=>?_
  rw[<-hins]at H' hn'
  refine ih (listed.setIfInBounds j true) a' w' h' val' C' (fun hlt=>by rw[hfl,if_neg (by omega)];exact hnl hlt) ?_ H' fun h2 w2 v2 a2 H2 hn2=>hQ h2 w2 v2 a2 H2 (hn'.trans hn2)
  have:=aCd (n:=ops.size) hfl hlt hj0
  omega

theorem C2(m j:Nat):(Array.replicate m false).getD j false=false:=by
 rcases Nat.lt_or_ge j m with h|h
 simp[h];simp[h]
theorem Dp(n:Nat):∀(ds:List Dr) (k:Nat) (s:St),sig (fun i=>(Array.replicate n false).getD i false) k ds s=s
 |[],_,_=>rfl
 |d::ds,k,s=>by
  simp only[sig,C2,Bool.false_eq_true,if_false];have:=Dp n ds (k+1) s;simpa only[C2]using this
def aB2(T:List Nat)(n:Nat):Bool:=match T[n]? with
 |some m=>(List.range n).all fun i=>m.testBit i
 |none=>false
def KR(P:Program)(ops:Array Oper)(draws:Bool)(ws:List (Nat×W))(s:St):Option (Ob×St):=
 if draws then match Vu P ops ws ops.toList s with
  |some (Φ,ds,s')=>if VA ops s ds then some (Φ,s')else none
  |none=>match ops[ops.size-1]? with
   |none=>none
   |some o=>match Vu P ops ws (ops.toList.take (ops.size-1)) s with
    |none=>none
    |some (Φ,ds,s1)=>if VA ops s ds&&aB2 (DW ops.toList []) (ops.size-1)then match U4 P ops ws s1 o with
     |some (Ψ,s2)=>some (Φ.and Ψ,s2)
     |none=>none
     else none
 else Vp P ops ws ops.toList s

theorem BI.drew(M:List Nat)(h:Hw)(w:World):BI M h w h {w with drawn:=w.drawn+1}:=
 ⟨rfl,rfl,rfl,Nat.le_refl _,fun _ _ _ _ hc=>hc,fun _ _=>Nat.le_refl _,fun _ _ _=>⟨rfl,rfl⟩⟩

theorem Mq{rd:Option Nat}{P:Program}{id:Nat}{ops:Array Oper}{draws:Bool}{ws:List (Nat×W)}{s s':St}{L:Lp}{Φ:Ob}{Q:Exit->Act->World->Prop}(hm:P.follows .mixedOrders=true)
 (he:KR P ops draws ws s=some (Φ,s')) (hΦ:Φ.ok P L) {h w val a} (H:AR s h w val a)
 (hQ:∀h' w' val' a',AR s' h' w' val' a'->Nx s h w val s' h' w' val'->Q .normal a' w'):(Code.region id ops draws).wpIn (fc rd) 0 P Q a w:=by
 unfold KR at he
 cases draws with
 |true=>
  simp only[if_true]at he
  have hk:=BI.drew [] h w
  have hq:=H.quiet hk
  have hcl:DP ops (Array.replicate ops.size false):=⟨by simp,fun j o _ hl=>by rw[C2]at hl;cases hl⟩
  have hun:((List.range ops.size).filter fun k=> !(Array.replicate ops.size false).getD k false).length<=ops.size:=Nat.le_trans (List.length_filter_le _ _) (by simp)
  split at he
  rename_i Φ' ds s1 hr
  split at he
  rename_i hB
  simp only[oe,pe]at he
  obtain⟨rfl,rfl⟩:=he
  have hr':Vu P ops ws (ops.toList.take ops.size) s=some (Φ',ds,s1):=by rw[List.take_of_length_le (by simp)];exact hr
  refine wpIn_region_any hm (Rj (Nat.le_refl _) (by omega) (fun h=>absurd h (Nat.lt_irrefl _)) hr' hΦ hB _ _ _ _ h val hcl (fun h=>absurd h (Nat.lt_irrefl _)) hun ?_ ?_)
  rw[Dp];exact hq
  intro h' w' val' a' H' hn
  rw[Dp]at hn
  exact⟨fun _=>hQ h' w' val' a' H' (Nx.trans ⟨BI.drew _ h w,fun _ _=>rfl,fun b hb=>.inl hb⟩ hn),fun h=>absurd h (Nat.lt_irrefl _)⟩
  cases he
  split at he
  cases he
  rename_i o ho
  split at he
  cases he
  rename_i Φ' ds s1 hr
  split at he
  rename_i hB
  split at he
  rename_i Ψ s2 ha
  simp only[oe,pe]at he
  obtain⟨rfl,rfl⟩:=he
  obtain⟨hΦ1,hΨ⟩:=Ob.and_ok hΦ
  simp only[ba]at hB
  have hlt:=(Array.getElem?_eq_some_iff.1 ho).1
  have hmask:ops.size-1<ops.size->∃m:Nat,(DW ops.toList [])[ops.size-1]? =some m/\∀i,i<ops.size-1->m.testBit i=true:=fun _=>by have h2:=hB.2;unfold aB2 at h2;split at h2;rename_i m hm;exact⟨m,hm,fun i hi=>List.all_eq_true.1 h2 i (List.mem_range.2 hi)⟩;cases h2
  refine wpIn_region_any hm (Rj (by omega) (by omega) hmask hr hΦ1 hB.1 _ _ _ _ h val hcl (fun _=>C2 _ _) hun ?_ ?_)
  rw[Dp];exact hq
  intro h' w' val' a' H' hn
  rw[Dp]at hn
  refine⟨fun h=>absurd h (by omega),fun _ K hK=>Hl ha hΨ H' ho fun h2 w2 v2 a2 H2 hn2=>hK _ _ ?_⟩
  exact hQ h2 w2 v2 a2 H2 (Nx.trans ⟨BI.drew _ h w,fun _ _=>rfl,fun b hb=>.inl hb⟩ (hn.trans hn2))
  cases he
  cases he
 |false=>
  simp only[Bool.false_eq_true,if_false]at he
  refine wpIn_region ?_
  have:=KT (rd:=rd) (Q:=Q) ops.toList 0 s s' Φ (fun j=>by simp) he hΦ h w val a H hQ
  simpa[List.range_eq_range']using this
end Go.Ac
namespace Go.Ac

def AC(P:Program)(rd:Option Nat)(c:Code)(s:St)(Ψ:Ex->St->Prop):Prop:=
 ∀h w val a,AR s h w val a->∀Q:Exit->Act->World->Prop,
  (∀e s' h' w' val' a',Ψ e s'->AR s' h' w' val' a'->Nx s h w val s' h' w' val'->Q e.toExit a' w')->c.wpIn (fc rd) 0 P Q a w

def IZ:Code->Nat->Code
 | .seq a _,0=>a
 | .seq _ b,_=>b
 | .cond _ a _,0=>a
 | .cond _ _ b,_=>b
 | .block _ b,_=>b
 | .loop b,_=>b
 | .scope b,_=>b
 | .rangeFunc _ _ a _,0=>a
 | .rangeFunc _ _ _ b,_=>b
 |_,_=>.skip
def A3(root:Code):List Nat->Code
 |[]=>root
 |i::p=>IZ (A3 root p) i

def Wk(s s':St):Prop:=∀h w val a,AR s h w val a->∃h' val',AR s' h' w val' a/\Nx s h w val s' h' w val'
theorem Wk.refl(s:St):Wk s s:=fun h w val _ H=>⟨h,val,H,Nx.refl s h w val rfl⟩
theorem Wk.trans{s s1 s2:St}(a:Wk s s1)(b:Wk s1 s2):Wk s s2:=fun h w val x H=>
 let ⟨h1,v1,H1,n1⟩:=a h w val x H
 let ⟨h2,v2,H2,n2⟩:=b h1 w v1 x H1
 ⟨h2,v2,H2,n1.trans n2⟩
theorem AC.wk{P:Program}{rd:Option Nat}{c:Code}{s s':St}{Ψ:Ex->St->Prop}(hw:Wk s s')(h:AC P rd c s' Ψ):AC P rd c s Ψ:=by intro h' w val a H Q hQ;obtain⟨h1,v1,H1,n1⟩:=hw h' w val a H;exact h h1 w v1 a H1 Q fun e s2 h2 w2 v2 a2 hΨ H2 n2=>hQ e s2 h2 w2 v2 a2 hΨ H2 (n1.trans n2)
theorem AC.post{P:Program}{rd:Option Nat}{c:Code}{s:St}{Ψ Ψ':Ex->St->Prop}(h:AC P rd c s Ψ)(hp:∀e s1,Ψ e s1->∃s2,Wk s1 s2/\Ψ' e s2):AC P rd c s Ψ':=by intro h' w val a H Q hQ;refine h h' w val a H Q fun e s1 h1 w1 v1 a1 hΨ H1 n1=>?_;obtain⟨s2,hw,hΨ'⟩:=hp e s1 hΨ;obtain⟨h2,v2,H2,n2⟩:=hw _ _ _ _ H1;exact hQ e s2 h2 w1 v2 a1 hΨ' H2 (n1.trans n2)

theorem AC.seq{P:Program}{rd:Option Nat}{x y:Code}{s:St}{Ψ:Ex->St->Prop}(h:AC P rd x s fun e s1=>match e with| .normal=>AC P rd y s1 Ψ|e=>Ψ e s1):AC P rd (.seq x y) s Ψ:=by
 intro h' w val a H Q hQ;refine wpIn_seq (h h' w val a H _ fun e s1 h1 w1 v1 a1 hΨ H1 n1=>?_);cases e with
 |normal=>exact hΨ h1 w1 v1 a1 H1 Q fun e s2 h2 w2 v2 a2 hΨ2 H2 n2=>hQ e s2 h2 w2 v2 a2 hΨ2 H2 (n1.trans n2)
 |exit id=>exact hQ _ s1 h1 w1 v1 a1 hΨ H1 n1
 |ret=>exact hQ _ s1 h1 w1 v1 a1 hΨ H1 n1
theorem AC.cond{P:Program}{rd:Option Nat}{c:Operand}{x y:Code}{s:St}{b:Bool}{Ψ:Ex->St->Prop}(hc:s.ev c=bo b)(h:AC P rd (if b then x else y) s Ψ):AC P rd (.cond c x y) s Ψ:=by intro h' w val a H Q hQ;have:=H.ev c;rw[hc]at this;simp only[bo,RA,RD]at this;exact wpIn_cond this.1 (h h' w val a H Q hQ)
theorem AC.block{P:Program}{rd:Option Nat}{id:Nat}{c:Code}{s:St}{Ψ:Ex->St->Prop}(h:AC P rd c s fun e s1=>match e with| .exit j=>if j=id then Ψ .normal s1 else Ψ (.exit j) s1|e=>Ψ e s1):AC P rd (.block id c) s Ψ:=by
 intro h' w val a H Q hQ;refine wpIn_block (h h' w val a H _ fun e s1 h1 w1 v1 a1 hΨ H1 n1=>?_);cases e with
 |normal=>exact hQ _ s1 h1 w1 v1 a1 hΨ H1 n1
 |exit j=>
  simp only[Ex.toExit,Exit.inBlock]
  simp only at hΨ
  split at hΨ
  rename_i hj;rw[if_pos hj];exact hQ .normal s1 h1 w1 v1 a1 hΨ H1 n1
  rename_i hj;rw[if_neg hj];exact hQ (.exit j) s1 h1 w1 v1 a1 hΨ H1 n1
 |ret=>exact hQ _ s1 h1 w1 v1 a1 hΨ H1 n1

section
variable {P:Program} {b:Frame} {a:Act} {k:List Item} {cs:List Frame} {w:World}
theorem Bj{c:Code}:step P (lone (b.atR a (.code (.scope c)::k)) cs w)=.next (lone (b.atR a (.code c:: .inScope c::k)) cs w):=
 step_lone_go (by simp[stepG,stepG.exec,Frame.atR])
theorem GO{c:Code}:step P (lone (b.atR a (.inScope c::k)) cs w)=.next (lone (b.atR a k) cs w):=
 step_lone_go (by simp[stepG,stepG.exec,Frame.atR])
end
theorem NO{F:Fence}{n:Nat}{P:Program}{c:Code}{Q:Exit->Act->World->Prop}{a:Act}{w:World}
 (h:c.wpIn F n P (fun e a w=>match e with| .goto _=>False|e=>Q e a w) a w):(Code.scope c).wpIn F n P Q a w:=by
 intro b k cs hro hb hr
 have h0:(lone (b.atR a (.code (.scope c)::k)) cs w).fenced P F:=fenced_calm hb hr rfl
 obtain⟨e,a₁,w₁,hq,harr⟩:=h b (.inScope c::k) cs hro hb hr
 cases e with
 |normal=>exact⟨.normal,a₁,w₁,hq,.head h0 Bj (StepsIn.trans harr (.one (fenced_calm hb hr rfl) GO))⟩
 |exit id'=>
  have hx:exitTo id' (.inScope c::k)=exitTo id' k:=by simp[exitTo]
  exact⟨.exit id',a₁,w₁,hq,fun k' hk=>.head h0 Bj (harr.1 k' (by rw[hx];exact hk)),
   fun hr' hk=>let ⟨k₁,h1,h2⟩:=harr.2 hr' (by rw[hx];exact hk);⟨k₁,h1,.head h0 Bj h2⟩⟩
 |goto l=>exact hq.elim
 |ret=>exact⟨_,a₁,w₁,hq,.of_steps (.one h0 Bj) harr⟩
 |panic ch=>exact⟨_,a₁,w₁,hq,.of_steps (.one h0 Bj) harr⟩
 |outgrown=>exact⟨_,a₁,w₁,hq,.of_steps (.one h0 Bj) harr⟩
theorem AC.scope{P:Program}{rd:Option Nat}{c:Code}{s:St}{Ψ:Ex->St->Prop}(h:AC P rd c s Ψ):AC P rd (.scope c) s Ψ:=by
 intro h' w val a H Q hQ;refine NO (h h' w val a H _ fun e s1 h1 w1 v1 a1 hΨ H1 n1=>?_);cases e with
 |normal=>exact hQ .normal s1 h1 w1 v1 a1 hΨ H1 n1
 |exit j=>exact hQ (.exit j) s1 h1 w1 v1 a1 hΨ H1 n1
 |ret=>exact hQ .ret s1 h1 w1 v1 a1 hΨ H1 n1

theorem Eb{F:Fence}{rm:Nat}{P:Program}{Q:Exit->Act->World->Prop}{a:Act}{w:World}{c:Code}(I:Nat->Act->World->Prop)(n₀:Nat)(h₀:I n₀ a w)
 (round:∀n a w,I n a w->c.wpIn F rm P (Exit.then (fun a' w'=>∃n',n'<n/\I n' a' w') Q) a w):(Code.loop c).wpIn F rm P Q a w:=by
 refine wpIn_loop (fun a w=>∃n,I n a w) (fun a w=>leastOf (fun n=>I n a w)) ⟨n₀,h₀⟩ ?_
 intro a w hI
 refine wpIn_mono (round _ a w (leastOf_spec hI).1) ?_
 intro e a' w' hq
 cases e with
 |normal=>
  obtain⟨n',hlt,hI'⟩:=hq
  exact show(∃n,I n a' w')/\leastOf (fun n=>I n a' w')<leastOf (fun n=>I n a w)from⟨⟨n',hI'⟩,Nat.lt_of_le_of_lt ((leastOf_spec ⟨n',hI'⟩).2 n' hI') hlt⟩
 |exit id=>exact hq
 |goto l=>exact hq
 |ret=>exact hq
 |panic ch=>exact hq
 |outgrown=>exact hq

theorem AC.loop{P:Program}{rd:Option Nat}{c:Code}{ι:Type}(I:ι->St)(μ:ι->Nat)(Ψ:ι->Ex->St->Prop)
 (hr:∀i,AC P rd c (I i) fun e s1=>match e with| .normal=>∃j,μ j<μ i/\Wk s1 (I j)/\(∀e s,Ψ j e s->Ψ i e s)|e=>Ψ i e s1) (i:ι):AC P rd (.loop c) (I i) (Ψ i):=by
 intro h w val a H Q hQ
 refine Eb (fun n a' w'=>∃j h' val',μ j=n/\AR (I j) h' w' val' a'/\Nx (I i) h w val (I j) h' w' val'/\(∀e s,Ψ j e s->Ψ i e s)) (μ i) ⟨i,h,val,rfl,H,Nx.refl _ h w val rfl,fun _ _ x=>x⟩ ?_
 rintro n a' w' ⟨j,h',val',rfl,H',n',hj⟩
 refine hr j h' w' val' a' H' _ fun e s1 h1 w1 v1 a1 hΨ H1 n1=>?_
 cases e with
 |normal=>
  obtain⟨k,hlt,hw,hk⟩:=hΨ
  obtain⟨h2,v2,H2,n2⟩:=hw _ _ _ _ H1
  exact⟨μ k,hlt,k,h2,v2,rfl,H2,(n'.trans n1).trans n2,fun e s x=>hj e s (hk e s x)⟩
 |exit id=>exact hQ _ s1 h1 w1 v1 a1 (hj _ _ hΨ) H1 (n'.trans n1)
 |ret=>exact hQ _ s1 h1 w1 v1 a1 (hj _ _ hΨ) H1 (n'.trans n1)

def Km(live:Nat->Bool):Nat->List A->List A
 |_,[]=> []
 |i,a::l=>(if live i then a else .any)::Km live (i+1) l
theorem MJ{h w val}(live:Nat->Bool):∀(l:List A) (i:Nat) (us:List Value),RAs h w val l us->RAs h w val (Km live i l) us
 |[],_,us,hr=>by simpa[Km,RAs]using hr
 |a::l,i,us,hr=>by
  simp only[RAs]at hr;obtain⟨u,us',e,h1,h2⟩:=hr;simp only[Km,RAs];refine⟨u,us',e,?_,MJ live l (i+1) us' h2⟩;split;exact h1;simp[RA]
theorem Wk.mask(live:Nat->Bool)(s:St):Wk s {s with E:=Km live 0 s.E}:=fun h w val _ H=>
 ⟨h,val,⟨MJ live _ 0 _ H.e,H.inv,H.far,H.defs⟩,Nx.refl s h w val rfl⟩

theorem Inv.sub{h w val}{B B':Bx}(hs:B'.Sublist B)(I:Inv h w val B):Inv h w val B':=
 ⟨fun p hp=>I.rep p (hs.subset hp),(hs.map _).nodup I.nms,(L4 hs).nodup I.bks,(by first|exact H.inv.glob.stays hk.stays|exact H.inv.glob|exact I.glob|exact I.glob.stays k.stays|exact H.inv.glob.stays k.stays|exact hI.glob|exact hInv.glob|exact hI0.glob|exact hIX.glob|exact H'.inv.glob|exact hI.glob.stays hk.stays|exact H1.inv.glob|exact hIR.glob|exact H.glob|exact hI.glob.stays k.stays|exact H.inv.glob.stays n.keep.stays|exact hI.glob.stays n.keep.stays|exact h.inv.glob|exact H2.inv.glob|exact hI'.glob)⟩
theorem Wk.drop(p:Nat×Bk->Bool)(s:St):Wk s {s with B:=s.B.filter p}:=fun h w val _ H=>by have hs:(s.B.filter p++s.F).Sublist s.all:=List.Sublist.append List.filter_sublist (List.Sublist.refl _);exact⟨h,val,⟨H.e,H.inv.sub hs,H.far,H.defs⟩,⟨BI.refl _ _ _,fun _ _=>rfl,fun b hb=>.inl ((L4 hs).subset hb)⟩⟩
end Go.Ac
