/- Own work: how calls of the model run over plain data. -/
import Derived.Test.YthabonnegobedaaAcB
import Derived.KernelRfl
import Derived.IntWalk
import Derived.Shelf.SlLaysN
import Derived.Shelf.RegionOpenPlain
import Derived.WalkKit
import Derived.Deep.LoopGhost
import Derived.Deep.RegionLaw
import Derived.Lib.Walk
import Derived.Lib.SliceRun
import Derived.Sort.WalkB12
import Derived.Shelf.SlicesE.Clone
import Derived.ProofKit
import Derived.OpenShut
import Derived.JoinedCond
import Derived.Carry
set_option linter.unusedVariables false
set_option linter.unusedSimpArgs false
namespace Go.Ac

mutual
def A.ren(n m:Nat):A->A
 | .box k off=>.box (if k=n then m else k) off
 | .bsl k off l=>.bsl (if k=n then m else k) off l
 | .ep q k i off=>.ep (if q=n then m else q) k i off
 | .row k=>.row (if k=n then m else k)
 | .clo f fs cs=>.clo f (L5 n m fs) (L5 n m cs)
 | .agg cs=>.agg (L5 n m cs)
 | .tup vs=>.tup (L5 n m vs)
 |a=>a
def L5(n m:Nat):List A->List A
 |[]=> []
 |a::as'=>a.ren n m::L5 n m as'
end
def Bk.ren(n m:Nat):Bk->Bk
 | .cells cs=>.cells (L5 n m cs)
 | .vals as' us=>.vals (L5 n m as') us
 | .mit k clk seen=>.mit (if k=n then m else k) clk seen
 |b=>b
mutual
theorem RA.ren{h w}{val:Val}{n m:Nat}(hm:m<up):∀(a:A) (u:Value),a.has m=false->RA h w val a u->RA h w (Av val m (val n)) (a.ren n m) u
 | .d x,u,_,hr=>by simpa only[RA,A.ren]using hr
 | .box k off,u,hn,hr=>by
  simp[A.has]at hn;simp only[RA,A.ren]at hr⊢;obtain⟨b,e1,e2⟩:=hr;refine⟨b,?_,e2⟩;split;rename_i hk;subst hk;simpa[Av]using e1;simpa[Av,hn]using e1
 | .bsl k off l,u,hn,hr=>by
  simp[A.has]at hn;simp only[RA,A.ren]at hr⊢;obtain⟨b,c,e1,e2⟩:=hr;refine⟨b,c,?_,e2⟩;split;rename_i hk;subst hk;simpa[Av]using e1;simpa[Av,hn]using e1
 | .ep q k i off,u,hn,hr=>by
  simp[A.has]at hn;simp only[RA,A.ren]at hr⊢;obtain⟨b,e1,e2⟩:=hr;refine⟨b,?_,e2⟩;split;rename_i hk;subst hk;simpa[Av]using e1;simpa[Av,hn]using e1
 | .row k,u,hn,hr=>by
  simp[A.has]at hn;simp only[RA,A.ren]at hr⊢;refine⟨?_,hr.2⟩;rw[hr.1];split;rename_i hk;subst hk;simp[Av];simp[Av,hn]
 | .eptr cs,u,_,hr=>by simpa only[RA,A.ren]using hr
 | .clo f first cap,u,hn,hr=>by
  simp only[A.has,Bool.or_eq_false_iff]at hn;simp only[RA,A.ren]at hr⊢;obtain⟨fs,cs,e,h1,h2⟩:=hr;exact⟨fs,cs,e,RAs.ren hm first fs hn.1 h1,RAs.ren hm cap cs hn.2 h2⟩
 | .agg cs,u,hn,hr=>by
  simp only[A.has]at hn;simp only[RA,A.ren]at hr⊢;obtain⟨us,e,h1,h2⟩:=hr;exact⟨us,e,RAs.ren hm cs us hn h1,h2⟩
 | .tup cs,u,hn,hr=>by
  simp only[A.has]at hn;simp only[RA,A.ren]at hr⊢;obtain⟨us,e,h1⟩:=hr;exact⟨us,e,RAs.ren hm cs us hn h1⟩
 | .opq a,u,_,hr=>by
  simp only[RA,A.ren]at hr⊢;have:(fun k=>Av val m (val n) (k+up))=fun k=>val (k+up):=by
   funext k;have:¬k+up=m:=by omega
   simp[Av,this]
  rw[this];exact hr
 | .nil,u,_,hr=>by simpa only[RA,A.ren]using hr
 | .ub,u,_,hr=>by simpa only[RA,A.ren]using hr
 | .any,u,_,hr=>by simp[RA,A.ren]
theorem RAs.ren{h w}{val:Val}{n m:Nat}(hm:m<up):∀(as':List A) (us:List Value),AR m as'=false->RAs h w val as' us->RAs h w (Av val m (val n)) (L5 n m as') us
 |[],us,_,hr=>by simpa[RAs,L5]using hr
 |a::as',us,hn,hr=>by
  simp only[AR,Bool.or_eq_false_iff]at hn;simp only[RAs,L5]at hr⊢;obtain⟨u,us',e,h1,h2⟩:=hr;exact⟨u,us',e,RA.ren hm a u hn.1 h1,RAs.ren hm as' us' hn.2 h2⟩
end
def Iq(n m:Nat)(p:Nat×Bk):Nat×Bk:=(if p.1=n then m else p.1,p.2.ren n m)
theorem Wk.ren{n m:Nat}{s:St}(hm:m<up)(hE:AR m s.E=false)(hB:BO m s.B=false):Wk s {s with E:=L5 n m s.E,B:=s.B.map (Iq n m)}:=by
 intro h w val a H;have hap:∀p∈s.all,p.1≠m/\p.2.has m=false:=fun p hp=>by
  rcases ma.1 hp with hp|hp
  exact BN hB p hp;exact H.far m (.inl hm) p hp
 have hv:∀k,k≠m->Av val m (val n) k=val k:=fun k hk=>by simp[Av,hk]
 have hval:∀p:Nat×Bk,p.1≠m->Av val m (val n) (Iq n m p).1=val p.1:=fun p hp=>by simp only[Iq];split;rename_i e;simp[Av,e];exact hv _ hp
 have hold:∀b:Bk,(b.ren n m).isOld=b.isOld:=fun b=>by cases b<;>rfl
 have hblk:∀p:Nat×Bk,p.1≠m->Ah (Av val m (val n)) (Iq n m p)=Ah val p:=fun p hp=>by have h1:=hval p hp;have h2:(Iq n m p).2.isOld=p.2.isOld:=hold p.2;simp only[Ah,h1,h2]
 have hblB:AX (Av val m (val n)) (s.B.map (Iq n m))=AX val s.B:=by
  simp only[AX,List.filterMap_map];have:∀(l:Bx),(∀p∈l,p.1≠m)->l.filterMap (Ah (Av val m (val n)) ∘ Iq n m)=l.filterMap (Ah val):=by
   intro l;induction l with
   |nil=>intro _;rfl
   |cons p l ih=>
    intro hl
    simp only[List.filterMap_cons,Function.comp_apply,hblk p (hl p (by simp)),ih fun q hq=>hl q (by simp[hq])]
  exact this s.B fun p hp=>(hap p (ml _ hp)).1
 have hblF:AX (Av val m (val n)) s.F=AX val s.F:=BM fun k hk=>by obtain⟨p,hp,rfl⟩:=mm.1 hk;exact hv _ (hap p (mr _ hp)).1
 have hbl:AX (Av val m (val n)) (s.B.map (Iq n m)++s.F)=AX val s.all:=by rw[AH,hblB,hblF,<-AH];rfl
 refine⟨h,Av val m (val n),⟨RAs.ren hm _ _ hE H.e,⟨?_,?_,?_⟩,H.far,H.defs.val (hv _ (by have:m<up:=hm;simp only[up]at this;simp only[bn];omega))⟩,⟨BQ.refl _ _ _,fun k hk=>hv k (by have:=GB hk;omega),fun b hb=>.inl (by have hb':b∈AX (Av val m (val n)) (s.B.map (Iq n m)++s.F):=hb;rwa [hbl]at hb')⟩⟩
 intro p hp;rcases ma.1 hp with hp|hp
 obtain⟨q,hq,rfl⟩:=mm.1 hp;have hrb:=H.inv.rep q (ml _ hq);obtain⟨h1,h2⟩:=hap q (ml _ hq);have hvq:=hval q h1;obtain⟨qn,qb⟩:=q;simp only[Iq]at hvq⊢;cases qb with
 |cells cs=>
  simp only[Bk.ren,RB]at hrb⊢
  obtain⟨b,us,t,e1,e2,e3,e4,e5⟩:=hrb
  exact⟨b,us,t,by rw[hvq];exact e1,e2,RAs.ren hm _ _ (by simpa[Bk.has]using h2) e3,e4,e5⟩
 |row e k xs=>
  simp only[Bk.ren,RB]at hrb⊢
  rw[hvq];exact hrb
 |rw e k xs=>
  simp only[Bk.ren,RB]at hrb⊢
  rw[hvq];exact hrb
 |dead=>trivial
 |old xs=>
  simp only[Bk.ren,RB]at hrb⊢
  rw[hvq];exact hrb
 |fz cs=>
  simp only[Bk.ren,RB]at hrb⊢
  rw[hvq];exact hrb
 |buf sl e k xs=>
  simp only[Bk.ren,RB]at hrb⊢
  rw[hvq];exact hrb
 |vals as' us=>
  simp only[Bk.ren,RB]at hrb⊢
  exact RAs.ren hm _ _ (by simpa[Bk.has]using h2) hrb
 |obj g o=>
  simp only[Bk.ren,RB]at hrb⊢
  rw[hvq];exact hrb
 |map clk es=>
  simp only[Bk.ren,RB]at hrb⊢
  rw[hvq];exact hrb
 |mapS es=>
  simp only[Bk.ren,RB]at hrb⊢
  rw[hvq];exact hrb
 |bag e k xs=>
  simp only[Bk.ren,RB]at hrb⊢
  rw[hvq];exact hrb
 |mit k clk seen=>
  simp only[Bk.ren,RB]at hrb⊢
  rw[hvq]
  obtain⟨r,b,e1,e2,e3⟩:=hrb
  have hk:k≠m:=by simpa[Bk.has]using h2
  refine⟨r,b,e1,?_,e3⟩
  split
  rename_i hkn;subst hkn;simpa[Av]using e2
  rw[hv k hk];exact e2
 obtain⟨h1,h2⟩:=hap p (mr _ hp);exact RB.upd hv h1 h2 (H.inv.rep p (mr _ hp));have hn:=H.inv.nms;have hnd:∀l:Bx,(∀p∈l,p.1≠m)->(AI l).Nodup->(AI (l.map (Iq n m))).Nodup:=by
  intro l;induction l with
  |nil=>intro _ _;exact List.nodup_nil
  |cons p l ih=>
   intro hl hd
   simp only[AI,List.map_cons,List.nodup_cons]at hd⊢
   refine⟨fun hm'=>?_,ih (fun q hq=>hl q (by simp[hq])) hd.2⟩
   simp only[List.map_map,mm,Function.comp_apply]at hm'
   obtain⟨q,hq,he⟩:=hm'
   apply hd.1
   simp only[mm]
   refine⟨q,hq,?_⟩
   have hq1:=hl q (by simp[hq])
   have hp1:=hl p (by simp)
   simp only[Iq]at he
   split at he<;>split at he
   rename_i a1 a2;rw[a1,a2]
   exact absurd he.symm hp1
   exact absurd he hq1
   exact he
 show(AI (s.B.map (Iq n m)++s.F)).Nodup;have hn':(AI (s.B++s.F)).Nodup:=hn;rw[AG,List.nodup_append]at hn'⊢;refine⟨hnd s.B (fun p hp=>(hap p (ml _ hp)).1) hn'.1,hn'.2.1,fun x hx y hy=>?_⟩;simp only[AI,List.map_map,mm,Function.comp_apply]at hx;obtain⟨q,hq,rfl⟩:=hx;simp only[Iq];split;intro e;obtain⟨p,hp,rfl⟩:=mm.1 hy;exact(hap p (mr _ hp)).1 e.symm;exact hn'.2.2 _ (mm.2 ⟨q,hq,rfl⟩) y hy;show(AX (Av val m (val n)) (s.B.map (Iq n m)++s.F)).Nodup;rw[hbl];exact H.inv.bks

theorem Wk.nil{t n:Nat}{e:TypeId}{k:Nat}{s:St}(hf:fresh n s=true)(ht:s.E[t]? =some .nil):Wk s {s with E:=s.E.set t (.row n),B:=CO n (.row e k []) s.B}:=by
 intro h w val a H;obtain⟨f1,f2,f3⟩:=BG hf;have hrb:RB h w (Av val n (.slice none 0 0)) n (.row e k []):=by
  refine⟨[],?_,by simp[Ai],fun g hg=>?_⟩;have:Av val n (.slice none 0 0) n=.slice none 0 0:=by simp[Av]
  rw[this];exact World.ownsRow_nil w 0 e k;have:Av val n (.slice none 0 0) n=.slice none 0 0:=by simp[Av]
  rw[this]at hg;simp[Value.ownBlock]at hg
 obtain⟨h1,h2⟩:=H.add f1 f2 f3 (BQ.refl [] h w) (fun b _=>by simp) (fun _ hm=>by cases hm) (.slice none 0 0) (.row e k []) (fun b hb=>by simp[Ba]at hb) rfl hrb;refine⟨h,Av val n (.slice none 0 0),?_,?_⟩;have h3:=(AQ.ins (E:=s.E) (B:=s.B) (F:=s.F) h1);refine⟨?_,h3.inv,h3.far,h3.defs⟩;obtain⟨u,hu,hr⟩:=RAs.get H.e t _ ht;simp only[RA]at hr;subst hr;have:=h3.e.set t (a:=.row n) (u:=.slice none 0 0) (by simp only[RA];exact⟨by simp[Av],hnd.sl _ _ _⟩);have he:a.tmps.toList.set t (.slice none 0 0)=a.tmps.toList:=by apply List.ext_getElem?;intro i;rw[List.getElem?_set];split;rename_i hi;subst hi;have hlt:=(List.getElem?_eq_some_iff.1 hu).1;rw[if_pos hlt,hu];rfl
 rw[he]at this;exact this;refine⟨BQ.refl _ _ _,fun m hm=>?_,fun b hb=>.inl ?_⟩;have:m≠n:=Nat.ne_of_gt (Nat.lt_of_lt_of_le f1 (GB hm));simp[Av,this];have hp:(CO n (.row e k []) s.B++s.F).Perm ((n,.row e k [])::s.all):=(Bs n _ s.B).append_right _;have hb':b∈AX (Av val n (.slice none 0 0)) ((n,.row e k [])::s.all):=((hp.filterMap _).mem_iff).1 hb;rw[h2]at hb';simpa[Ba]using hb'

theorem Wk.look{t:Nat}{s:St}{x:A}(ht:s.E[t]? =some x):Wk s {s with E:=s.E.set t (s.look x)}:=by
 intro h w val a H;refine⟨h,val,⟨?_,H.inv,H.far,H.defs⟩,Nx.refl s h w val rfl⟩;obtain⟨u,hu,hr⟩:=RAs.get H.e t _ ht;have:=H.e.set t (H.look hr);have he:a.tmps.toList.set t u=a.tmps.toList:=by apply List.ext_getElem?;intro i;rw[List.getElem?_set];split;rename_i hi;subst hi;have hlt:=(List.getElem?_eq_some_iff.1 hu).1;rw[if_pos hlt,hu];rfl
 rw[he]at this;exact this

theorem Wk.redesc{s:St}{n:Nat}{b b':Bk}(hl:lk s.B n=some b)(ho:b'.isOld=b.isOld)(hr:∀h w val a,AQ s h w val a->RB h w val n b->RB h w val n b'):Wk s {s with B:=BA s.B n b'}:=by
 intro h w val a H;have hmem:(n,b)∈s.all:=ml _ (Ae hl);have hsame:∀b2,(n,b2)∈s.B->b2.isOld=b'.isOld:=fun b2 hb2=>by rw[A8 H.inv.nms (ml _ hb2) hmem,ho]
 refine⟨h,val,⟨H.e,⟨fun p hp=>?_,?_,?_⟩,H.far,H.defs⟩,⟨BQ.refl _ _ _,fun _ _=>rfl,fun b hb=>.inl ?_⟩⟩;rcases ma.1 hp with hp|hp
 rcases BD hp with rfl|⟨hp,hne⟩
 exact hr h w val a H (H.inv.rep _ hmem);exact H.inv.rep p (ml _ hp);exact H.inv.rep p (mr _ hp);have:=H.inv.nms;simpa only[St.all,AG,A3]using this;have:=H.inv.bks;simpa only[St.all,AH,Ay hsame]using this;simpa only[St.all,AH,Ay hsame]using hb
theorem Wk.empty{n:Nat}{e:TypeId}{k:Nat}{s:St}(hf:fresh n s=true){h:Hw}{w:World}{val:Val}{a:Act}(H:AQ s h w val a):
 AQ {s with B:=CO n (.rw e k []) s.B} h w (Av val n (.slice none 0 0)) a/\Nx s h w val {s with B:=CO n (.rw e k []) s.B} h w (Av val n (.slice none 0 0)):=by
 obtain⟨f1,f2,f3⟩:=BG hf
 have hv:Av val n (.slice none 0 0) n=.slice none 0 0:=by simp[Av]
 have hrb:RB h w (Av val n (.slice none 0 0)) n (.rw e k []):=by refine⟨[],?_,by simp[Ai],fun g hg=>?_⟩;rw[hv];exact World.ownsRow_nil w 0 e k;rw[hv]at hg;simp[Value.ownBlock]at hg
 obtain⟨h1,h2⟩:=H.add f1 f2 f3 (BQ.refl [] h w) (fun b _=>by simp) (fun _ hm=>by cases hm) (.slice none 0 0) (.rw e k []) (fun b hb=>by simp[Ba]at hb) rfl hrb
 refine⟨AQ.ins (E:=s.E) (B:=s.B) (F:=s.F) h1,⟨BQ.refl _ _ _,fun m hm=>?_,fun b hb=>.inl ?_⟩⟩
 have:m≠n:=Nat.ne_of_gt (Nat.lt_of_lt_of_le f1 (GB hm))
 simp[Av,this]
 have hp:(CO n (.rw e k []) s.B++s.F).Perm ((n,.rw e k [])::s.all):=(Bs n _ s.B).append_right _
 have hb':b∈AX (Av val n (.slice none 0 0)) ((n,.rw e k [])::s.all):=((hp.filterMap _).mem_iff).1 hb
 rw[h2]at hb'
 simpa[Ba]using hb'
theorem Wk.nilw{t n:Nat}{e:TypeId}{k:Nat}{s:St}(hf:fresh n s=true)(ht:s.E[t]? =some .nil):Wk s {s with E:=s.E.set t (.row n),B:=CO n (.rw e k []) s.B}:=by
 intro h w val a H;obtain⟨h3,h4⟩:=Wk.empty (e:=e) (k:=k) hf H;refine⟨h,Av val n (.slice none 0 0),⟨?_,h3.inv,h3.far,h3.defs⟩,⟨h4.keep,h4.vals,h4.new⟩⟩;obtain⟨u,hu,hr⟩:=RAs.get H.e t _ ht;simp only[RA]at hr;subst hr;have:=h3.e.set t (a:=.row n) (u:=.slice none 0 0) (by simp only[RA];exact⟨by simp[Av],hnd.sl _ _ _⟩);have he:a.tmps.toList.set t (.slice none 0 0)=a.tmps.toList:=by apply List.ext_getElem?;intro i;rw[List.getElem?_set];split;rename_i hi;subst hi;have hlt:=(List.getElem?_eq_some_iff.1 hu).1;rw[if_pos hlt,hu];rfl
 rw[he]at this;exact this
theorem Wk.nilc{b i n:Nat}{e:TypeId}{k:Nat}{cs:List A}{s:St}(hf:fresh n s=true)(hl:lk s.B b=some (.cells cs))(hi:cs[i]? =some .nil):Wk s {s with B:=BA (CO n (.rw e k []) s.B) b (.cells (cs.set i (.row n)))}:=by
 intro h w val a H;obtain⟨h3,h4⟩:=Wk.empty (e:=e) (k:=k) hf H;obtain⟨f1,f2,f3⟩:=BG hf;have hbn:n≠b:=fun e=>(BN f3 _ (Ae hl)).1 e.symm;have hl2:lk (CO n (.rw e k []) s.B) b=some (.cells cs):=by rw[Ha,if_neg hbn];exact hl
 have hv:Av val n (.slice none 0 0) n=.slice none 0 0:=by simp[Av]
 have hmem:(b,Bk.cells cs)∈CO n (.rw e k []) s.B++s.F:=ml _ (Ae hl2);have hsame:∀b2,(b,b2)∈CO n (.rw e k []) s.B->b2.isOld=(Bk.cells (cs.set i (.row n))).isOld:=fun b2 hb2=>by rw[A8 h3.inv.nms (ml _ hb2) hmem];rfl
 refine⟨h,Av val n (.slice none 0 0),⟨h3.e,⟨fun p hp=>?_,?_,?_⟩,h3.far,h3.defs⟩,⟨h4.keep,h4.vals,fun g hg=>h4.new g ?_⟩⟩;rcases ma.1 hp with hp|hp
 rcases BD hp with rfl|⟨hp,hne⟩
 obtain⟨g,us,t,e1,e2,e3,e4,e5⟩:=h3.inv.rep _ hmem;refine⟨g,us,t,e1,e2,?_,e4,e5⟩;obtain⟨u,hu,hr⟩:=RAs.get e3 i _ hi;simp only[RA]at hr;subst hr;have:=RAs.set e3 i (a:=.row n) (u:=.slice none 0 0) (by simp only[RA];exact⟨hv.symm,hnd.sl _ _ _⟩);have he:us.set i (.slice none 0 0)=us:=by apply List.ext_getElem?;intro j;rw[List.getElem?_set];split;rename_i hi;subst hi;have hlt:=(List.getElem?_eq_some_iff.1 hu).1;rw[if_pos hlt,hu];rfl
 rw[he]at this;exact this;exact h3.inv.rep p (ml _ hp);exact h3.inv.rep p (mr _ hp);have:=h3.inv.nms;simpa only[St.all,AG,A3]using this;have:=h3.inv.bks;simpa only[St.all,AH,Ay hsame]using this;simpa only[St.all,AH,Ay hsame]using hg

inductive Ws where
 |frz (n:Nat)
 |look (t:Nat)
 |live (l:List Nat)
 |keep (l:List Nat)
 |ren (n m:Nat)
 |nil (t n:Nat) (e:TypeId) (k:Nat)
 |nilw (t n:Nat) (e:TypeId) (k:Nat)
 |nilc (b i n:Nat) (e:TypeId) (k:Nat)
 |bufrw (n:Nat)
 |sort
def wk1(s:St):Ws->Option St
 | .frz n=>match lk s.B n with
  |some (.buf true e k xs)=>some {s with B:=BA s.B n (.row e k xs)}
  |some (.rw e k xs)=>some {s with B:=BA s.B n (.row e k xs)}
  |_=>none
 | .look t=>match s.E[t]? with
  |some x=>some {s with E:=s.E.set t (s.look x)}
  |none=>none
 | .live l=>some {s with E:=Jw (fun i=>l.contains i) 0 s.E}
 | .keep l=>some {s with B:=s.B.filter fun p=>l.contains p.1}
 | .ren n m=>if fresh m s then some {s with E:=L5 n m s.E,B:=s.B.map (Iq n m)}else none
 | .nil t n e k=>match s.E[t]? with
  |some .nil=>if fresh n s then some {s with E:=s.E.set t (.row n),B:=CO n (.row e k []) s.B}else none
  |_=>none
 | .nilw t n e k=>match s.E[t]? with
  |some .nil=>if fresh n s then some {s with E:=s.E.set t (.row n),B:=CO n (.rw e k []) s.B}else none
  |_=>none
 | .nilc b i n e k=>match lk s.B b with
  |some (.cells cs)=>match cs[i]? with
   |some .nil=>if fresh n s then some {s with B:=BA (CO n (.rw e k []) s.B) b (.cells (cs.set i (.row n)))}else none
   |_=>none
  |_=>none
 | .bufrw n=>match lk s.B n with
  |some (.buf true e k xs)=>some {s with B:=BA s.B n (.rw e k xs)}
  |_=>none
 | .sort=>some {s with B:=WK s.B}
def wks:List Ws->St->Option St
 |[],s=>some s
 |x::l,s=>match wk1 s x with
  |some s1=>wks l s1
  |none=>none
theorem YJ{s s':St}{x:Ws}(h:wk1 s x=some s'):Wk s s':=by
 cases x with
 |frz n=>
  simp only[wk1]at h
  split at h
  rename_i hl
  simp only[oe]at h;subst h
  intro h w val a H
  obtain⟨h',f1,f2⟩:=PV H hl
  exact⟨h',val,f1,f2⟩
  rename_i hl
  simp only[oe]at h;subst h
  intro h w val a H
  obtain⟨h',f1,f2⟩:=QW H hl
  exact⟨h',val,f1,f2⟩
  cases h
 |look t=>
  simp only[wk1]at h
  split at h
  rename_i ht
  simp only[oe]at h;subst h
  exact Wk.look ht
  cases h
 |live l=>simp only[wk1,oe]at h;subst h;exact Wk.mask _ s
 |keep l=>simp only[wk1,oe]at h;subst h;exact Wk.drop _ s
 |ren n m=>
  simp only[wk1]at h
  split at h
  rename_i hf
  simp only[oe]at h;subst h
  obtain⟨f1,f2,f3⟩:=BG hf
  exact Wk.ren f1 f2 f3
  cases h
 |nil t n e k=>
  simp only[wk1]at h
  split at h
  rename_i ht
  split at h
  rename_i hf
  simp only[oe]at h;subst h
  exact Wk.nil hf ht
  cases h
  cases h
 |nilw t n e k=>
  simp only[wk1]at h
  split at h
  rename_i ht
  split at h
  rename_i hf
  simp only[oe]at h;subst h
  exact Wk.nilw hf ht
  cases h
  cases h
 |nilc b i n e k=>
  simp only[wk1]at h
  split at h
  rename_i cs hl
  split at h
  rename_i hi
  split at h
  rename_i hf
  simp only[oe]at h;subst h
  exact Wk.nilc hf hl hi
  cases h
  cases h
  cases h
 |bufrw n=>
  simp only[wk1]at h
  split at h
  rename_i hl
  simp only[oe]at h;subst h
  exact Wk.redesc hl rfl fun h w val a _ hr=>RB.buf_rw hr
  cases h
 |sort=>
  simp only[wk1,oe]at h;subst h
  exact fun h w val a H=>⟨h,val,AQ.perm (EX _).symm H,Nx.perm (EX _).symm (Nx.refl s h w val rfl)⟩
theorem Ge:∀{l:List Ws} {s s':St},wks l s=some s'->Wk s s'
 |[],s,s',h=>by simp only[wks,oe]at h;subst h;exact Wk.refl _
 |x::l,s,s',h=>by
  simp only[wks]at h;split at h;rename_i s1 h1;exact(YJ h1).trans (Ge h);cases h
end Go.Ac
namespace Go.Ac

structure Lw where
 path:List Nat
 wk:List Ws
 e:Ex
 s:St

def H9(lw:List Lw)(p:List Nat)(s:St):Option (Option (Ob×Ex×St)):=
 match lw.find? fun q=>q.path==p with
 |some q=>some (match wks q.wk s with
  |some s1=>some (.loop p s1 q.e q.s,q.e,q.s)
  |none=>none)
 |none=>none
def QP(ops:Array Oper)(s:St):St:=
 match ops.toList with
 |o::_=>match o.dst,o.op with
  |some d,.alloc _=>if BO d s.B then{s with E:=Jw (fun i=>i !=d) 0 s.E,B:=s.B.filter fun p=>p.1 !=d}else s
  |_,_=>s
 |[]=>s
theorem QQ(ops:Array Oper)(s:St):Wk s (QP ops s):=by unfold QP;split;split;split;exact(Wk.mask _ s).trans (Wk.drop _ _);exact Wk.refl s;exact Wk.refl s;exact Wk.refl s
def Bq(P:Program)(ws:List (Nat×W))(lw:List Lw):List Nat->Code->St->Option (Ob×Ex×St)
 |_,.skip,s=>some (.c .t,.normal,s)
 |_,.label _,s=>some (.c .t,.normal,s)
 |_,.region _ ops d,s=>match JV P ops d ws (QP ops s)with
  |some (Φ,s')=>some (Φ,.normal,s')
  |none=>none
 |p,.seq a b,s=>match H9 lw p s with
  |some r=>r
  |none=>match Bq P ws lw (0::p) a s with
   |some (Φ,.normal,s1)=>match Bq P ws lw (1::p) b s1 with
    |some (Ψ,e,s2)=>some (Φ.and Ψ,e,s2)
    |none=>none
   |r=>r
 |p,.cond c a b,s=>match H9 lw p s with
  |some r=>r
  |none=>match s.ev c with
   | .d (.v (.bool true))=>Bq P ws lw (0::p) a s
   | .d (.v (.bool false))=>Bq P ws lw (1::p) b s
   |_=>none
 |p,.block id b,s=>match H9 lw p s with
  |some r=>r
  |none=>match Bq P ws lw (0::p) b s with
   |some (Φ,.exit j,s')=>if j=id then some (Φ,.normal,s')else some (Φ,.exit j,s')
   |r=>r
 |p,.loop _,s=>match H9 lw p s with
  |some r=>r
  |none=>none
 |p,.rangeFunc _ _ _ _,s=>match H9 lw p s with
  |some r=>r
  |none=>none
 |p,.scope b,s=>match H9 lw p s with
  |some r=>r
  |none=>Bq P ws lw (0::p) b s
 |_,.exit id,s=>some (.c .t,.exit id,s)
 |_,.ret,s=>some (.c .t,.ret,s)
 |_,_,_=>none

def Dc(P:Program)(rd:Option Nat)(root:Code):Lp:=fun p s e s'=>AC P rd (Ap root p) s fun e1 s1=>e1=e/\s1=s'

theorem AC.done{P:Program}{rd:Option Nat}{c:Code}{s:St}{Ψ:Ex->St->Prop}{e:Ex}(hw:∀a w Q,Q e.toExit a w->c.wpIn (fc rd) 0 P Q a w)(h:Ψ e s):AC P rd c s Ψ:=
 fun h' w val a H Q hQ=>hw a w Q (hQ e s h' w val a h H (Nx.refl s h' w val rfl))
theorem AC.mono{P:Program}{rd:Option Nat}{c:Code}{s:St}{Ψ Ψ':Ex->St->Prop}(h:AC P rd c s Ψ)(hp:∀e s1,Ψ e s1->Ψ' e s1):AC P rd c s Ψ':=
 h.post fun e s1 hΨ=>⟨s1,Wk.refl _,hp e s1 hΨ⟩

theorem C3{P:Program}{rd:Option Nat}{root:Code}{lw:List Lw}{p:List Nat}{c:Code}{s s':St}{Φ:Ob}{e:Ex}{r:Option (Ob×Ex×St)}(hp:Ap root p=c)(hc:H9 lw p s=some r)(he:r=some (Φ,e,s'))(hΦ:Φ.ok P (Dc P rd root)):AC P rd c s fun e1 s1=>e1=e/\s1=s':=by unfold H9 at hc;split at hc;rename_i q hq;simp only[oe]at hc;rw[he]at hc;split at hc;rename_i s1 hs1;simp only[oe,pe]at hc;obtain⟨rfl,rfl,rfl⟩:=hc;have h2:AC P rd (Ap root p) s1 fun e1 s1=>e1=q.e/\s1=q.s:=hΦ;rw[hp]at h2;exact AC.wk (Ge hs1) h2;cases hc;cases hc

theorem Ep{P:Program}{rd:Option Nat}{root:Code}{ws:List (Nat×W)}{lw:List Lw}(hm:P.follows .mixedOrders=true):∀(c:Code) (p:List Nat) (s s':St) (Φ:Ob) (e:Ex),Ap root p=c->
 Bq P ws lw p c s=some (Φ,e,s')->Φ.ok P (Dc P rd root)->AC P rd c s fun e1 s1=>e1=e/\s1=s':=by
 intro c
 induction c with
 |skip=>
  intro p s s' Φ e _ he _
  simp only[Bq,oe,pe]at he
  obtain⟨_,rfl,rfl⟩:=he
  exact AC.done (e:=.normal) (fun a w Q=>wpIn_skip) ⟨rfl,rfl⟩
 |label l=>
  intro p s s' Φ e _ he _
  simp only[Bq,oe,pe]at he
  obtain⟨_,rfl,rfl⟩:=he
  exact AC.done (e:=.normal) (fun a w Q=>wpIn_label) ⟨rfl,rfl⟩
 |exit id=>
  intro p s s' Φ e _ he _
  simp only[Bq,oe,pe]at he
  obtain⟨_,rfl,rfl⟩:=he
  exact AC.done (e:=.exit id) (fun a w Q=>wpIn_exit) ⟨rfl,rfl⟩
 |ret=>
  intro p s s' Φ e _ he _
  simp only[Bq,oe,pe]at he
  obtain⟨_,rfl,rfl⟩:=he
  exact AC.done (e:=.ret) (fun a w Q=>wpIn_ret) ⟨rfl,rfl⟩
 |region id ops d=>
  intro p s s' Φ e _ he hΦ
  simp only[Bq]at he
  split at he
  rename_i Φ' s1 hr
  simp only[oe,pe]at he
  obtain⟨rfl,rfl,rfl⟩:=he
  exact AC.wk (QQ ops s) fun h w val a H Q hQ=>LW hm hr hΦ H fun h' w' val' a' H' n'=>hQ .normal _ h' w' val' a' ⟨rfl,rfl⟩ H' n'
  cases he
 |seq x y ihx ihy=>
  intro p s s' Φ e hp he hΦ
  simp only[Bq]at he
  have hpx:Ap root (0::p)=x:=by simp only[Ap,hp,H7]
  have hpy:Ap root (1::p)=y:=by simp only[Ap,hp,H7]
  split at he
  rename_i hcut;exact C3 hp hcut he hΦ
  split at he
  rename_i Φ1 s1 h1
  split at he
  rename_i Ψ e2 s2 h2
  simp only[oe,pe]at he
  obtain⟨rfl,rfl,rfl⟩:=he
  obtain⟨o1,o2⟩:=Ob.and_ok hΦ
  refine AC.seq ((ihx _ _ _ _ _ hpx h1 o1).mono ?_)
  rintro e1 s1' ⟨rfl,rfl⟩
  exact ihy _ _ _ _ _ hpy h2 o2
  cases he
  rename_i hne
  refine AC.seq ((ihx _ _ _ _ _ hpx he hΦ).mono ?_)
  rintro e1 s1' ⟨rfl,rfl⟩
  cases e1 with
  |normal=>exact absurd he (hne _ _)
  |exit id=>exact⟨rfl,rfl⟩
  |ret=>exact⟨rfl,rfl⟩
 |cond c x y ihx ihy=>
  intro p s s' Φ e hp he hΦ
  simp only[Bq]at he
  have hpx:Ap root (0::p)=x:=by simp only[Ap,hp,H7]
  have hpy:Ap root (1::p)=y:=by simp only[Ap,hp,H7]
  split at he
  rename_i hcut;exact C3 hp hcut he hΦ
  split at he
  rename_i hc
  exact AC.cond (b:=true) hc (ihx _ _ _ _ _ hpx he hΦ)
  rename_i hc
  exact AC.cond (b:=false) hc (ihy _ _ _ _ _ hpy he hΦ)
  cases he
 |block id b ih=>
  intro p s s' Φ e hp he hΦ
  simp only[Bq]at he
  have hpb:Ap root (0::p)=b:=by simp only[Ap,hp,H7]
  split at he
  rename_i hcut;exact C3 hp hcut he hΦ
  split at he
  rename_i Φ1 j s1 h1
  split at he
  rename_i hj
  simp only[oe,pe]at he
  obtain⟨rfl,rfl,rfl⟩:=he
  refine AC.block ((ih _ _ _ _ _ hpb h1 hΦ).mono ?_)
  rintro e1 s1' ⟨rfl,rfl⟩
  simp[hj]
  rename_i hj
  simp only[oe,pe]at he
  obtain⟨rfl,rfl,rfl⟩:=he
  refine AC.block ((ih _ _ _ _ _ hpb h1 hΦ).mono ?_)
  rintro e1 s1' ⟨rfl,rfl⟩
  simp[hj]
  rename_i hne
  refine AC.block ((ih _ _ _ _ _ hpb he hΦ).mono ?_)
  rintro e1 s1' ⟨rfl,rfl⟩
  cases e1 with
  |normal=>exact⟨rfl,rfl⟩
  |exit id=>exact absurd he (hne _ _ _)
  |ret=>exact⟨rfl,rfl⟩
 |loop b ih=>
  intro p s s' Φ e hp he hΦ
  simp only[Bq]at he
  split at he
  rename_i hcut;exact C3 hp hcut he hΦ
  cases he
 |rangeFunc f params assign body _ _=>
  intro p s s' Φ e hp he hΦ
  simp only[Bq]at he
  split at he
  rename_i hcut;exact C3 hp hcut he hΦ
  cases he
 |scope b ih=>
  intro p s s' Φ e hp he hΦ
  simp only[Bq]at he
  have hpb:Ap root (0::p)=b:=by simp only[Ap,hp,H7]
  split at he
  rename_i hcut;exact C3 hp hcut he hΦ
  exact AC.scope (ih _ _ _ _ _ hpb he hΦ)
 |goto l=>intro p s s' Φ e _ he _;simp only[Bq]at he;cases he
 |refuse why=>intro p s s' Φ e _ he _;simp only[Bq]at he;cases he

def Pp:Code->Bool
 | .loop _=>true
 |_=>false
def Lv(tmps:Array Value):ResultVar->Sem Value
 | .tmp t=>pure (tmps.getD t undef)
 | .cell a t=>do loadVar t (<-asAddr (tmps.getD a undef))
def rvA(P:Program)(s:St):ResultVar->Option A
 | .tmp t=>some (s.look (s.E.getD t .any))
 | .cell t ty=>match s.E.getD t .any with
  | .box n off=>match lk s.B n with
   |some (.cells cs)=>(Fl P ty (cs.map s.look) off).map s.look
   |_=>none
  |_=>none
def YB(P:Program)(s:St):List ResultVar->Option (List A)
 |[]=>some []
 |x::l=>match rvA P s x,YB P s l with
  |some a,some as'=>some (a::as')
  |_,_=>none
def Ig(P:Program)(s:St)(rs:List ResultVar):Option A:=
 match YB P s rs with
 |some [a]=>some a
 |some as'=>some (.tup as')
 |none=>none
theorem J9{s:St}{h w val}{a:Act}(H:AQ s h w val a):∀{cs:List A} {us:List Value},RAs h w val cs us->RAs h w val (cs.map s.look) us
 |[],_,hr=>hr
 |c::cs,us,hr=>by
  simp only[RAs]at hr;obtain⟨u,us',rfl,h1,h2⟩:=hr;simp only[List.map_cons,RAs];exact⟨u,us',rfl,H.look h1,J9 H h2⟩
theorem YA{P:Program}{s:St}{h w val}{a:Act}(H:AQ s h w val a){x:ResultVar}{r:A}(he:rvA P s x=some r):∃u,(Lv a.tmps x).run P w=.ok u w/\RA h w val r u:=by
 cases x with
 |tmp t=>
  simp only[rvA,oe]at he
  subst he
  exact⟨a.tmps.getD t undef,by simp[Lv],H.look (H.ev (.tmp t))⟩
 |cell t ty=>
  simp only[rvA]at he
  split at he
  rename_i n off hx
  split at he
  rename_i cs hl
  simp only[om]at he
  obtain⟨v,hv,rfl⟩:=he
  have hx':=H.ev (.tmp t)
  simp only[St.ev,hx,RA]at hx'
  obtain⟨b,e1,e2⟩:=hx'
  have hb:=H.inv.rep (n,.cells cs) (ml _ (Ae hl))
  obtain⟨g,us,tt,e3,hg,hr,h1,_⟩:=hb
  simp only at e3
  rw[e1]at e3
  cases e3
  obtain⟨u,g1,g2⟩:=C6 (P:=P) (a:=⟨b,0,none⟩) hv (J9 H hr) h1 (fun j v hj=>by rw[Addr.add_lit,Nat.zero_add,cell_of_row w b j ⟨us⟩ tt (0,0) hg];simpa using hj)
  rw[Addr.add_lit,Nat.zero_add]at g1
  refine⟨u,?_,H.look g2⟩
  have e2':a.tmps.getD t undef=.pointer (some ⟨b,off,none⟩):=e2
  simp[Lv,e2',asAddr,g1]
  cases he
  cases he
theorem J4{P:Program}{s:St}{h w val}{a:Act}(H:AQ s h w val a):∀{l:List ResultVar} {as':List A},YB P s l=some as'->∃us,(l.mapM (Lv a.tmps)).run P w=.ok us w/\RAs h w val as' us
 |[],as',he=>by simp only[YB,oe]at he;subst he;exact⟨[],by simp,by simp[RAs]⟩
 |x::l,as',he=>by
  simp only[YB]at he;split at he;rename_i r as' h1 h2;simp only[oe]at he;subst he;obtain⟨u,g1,g2⟩:=YA H h1;obtain⟨us,g3,g4⟩:=J4 H h2;exact⟨u::us,by simp[List.mapM_cons,g1,g3],by simp only[RAs];exact⟨u,us,rfl,g2,g4⟩⟩;cases he
theorem K3{P:Program}{s:St}{h w val}{a:Act}(H:AQ s h w val a){fn:Func}{r:A}(he:Ig P s fn.results.toList=some r):∃u,(results fn a.tmps).run P w=.ok u w/\RA h w val r u:=by
 unfold Ig at he;have hres:∀us,(fn.results.toList.mapM (Lv a.tmps)).run P w=.ok us w->(results fn a.tmps).run P w=.ok (if hs:us.toArray.size=1 then us.toArray[0]else .tuple us.toArray) w:=by
  intro us hus;have e:results fn a.tmps=(do let vs<-fn.results.mapM (Lv a.tmps);pure (if h:vs.size=1 then vs[0]else .tuple vs)):=by unfold results;congr 1
  rw[e,Array.mapM_eq_mapM_toList];simp[hus]
 split at he;rename_i r' hr;simp only[oe]at he;subst he;obtain⟨us,g1,g2⟩:=J4 H hr;simp only[RAs]at g2;obtain⟨u,us',rfl,g3,rfl⟩:=g2;exact⟨u,by rw[hres _ g1];simp,g3⟩;rename_i as' hne hr;simp only[oe]at he;subst he;obtain⟨us,g1,g2⟩:=J4 H hr;have hl:=g2.length;have:us.length≠1:=by
  intro e;match as',hne,hl with
  |[],_,hl=>simp at hl;rw[hl]at e;simp at e
  |[x],hne,_=>exact hne x rfl
  |_::_::_,_,hl=>simp at hl;omega
 exact⟨.tuple ⟨us⟩,by rw[hres _ g1];simp[this],by simp only[RA];exact⟨us,rfl,g2⟩⟩;cases he

def PF(P:Program)(f:FuncId)(ws:List (Nat×W))(lw:List Lw)(wk:List Ws)(args:List A)(F0:Bx):Option (Ob×A×Bx):=
 match P.funcs[f]? with
 |some fn=>match fn.body with
  |some c=>if F5 args then
   match Bq P ws lw [] c ⟨args++List.replicate (fn.ntmps-args.length) (.tup []),[],F0⟩with
   |some (Φ,.ret,s')=>(wks wk s').bind fun s2=>(Ig P s2 fn.results.toList).map fun r=>(Φ,r,s2.F)
   |some (Φ,.normal,s')=>(wks wk s').bind fun s2=>(Ig P s2 fn.results.toList).map fun r=>(Φ,r,s2.F)
   |_=>none
   else none
  |_=>none
 |none=>none
theorem Ho{h w val}(n:Nat):RAs h w val (List.replicate n (.tup [])) (List.replicate n undef):=by
 induction n with
 |zero=>simp[RAs]
 |succ n ih=>simp only[List.replicate_succ,RAs];exact⟨undef,_,rfl,Gg,ih⟩

def Cb(P:Program)(f:FuncId):Code:=((P.funcs[f]?).bind (·.body)).getD .skip

theorem JY{w:World}{D:Nat}{o o':Obj}(hD:w.heap[D]? =some o)(ho:o.isCells=false){b i:Nat}{v:Value}(hc:w.cell? ⟨b,i,none⟩=some v):(w.putObj D o').cell? ⟨b,i,none⟩=some v:=by
 by_cases h:b=D;subst h;unfold World.cell? at hc;simp only[hD]at hc;cases o<;>simp_all [Obj.isCells];unfold World.cell? at hc⊢;have:(w.putObj D o').heap[b]? =w.heap[b]? :=by simp[World.putObj,Array.getElem?_setIfInBounds,Ne.symm h]
 simp only[this];exact hc
theorem FY{M:List Nat}{h:Hw}{w:World}{D:Nat}{o o':Obj}(hD:w.heap[D]? =some o)(ho:o.isCells=false)(hM:D∈M):BQ M h w h (w.putObj D o') where
 os:=rfl
 tape:=rfl
 output:=rfl
 size:=by simp[World.putObj]
 cells:=fun b i v _ hc=>JY hD ho hc
 mono:=fun _ _=>Nat.le_refl _
 far:=fun b _ hn=>⟨by have:b≠D:=fun e=>hn (e▸hM);simp[World.putObj,Array.getElem?_setIfInBounds,Ne.symm this],rfl⟩
theorem AQ.shut{s:St}{h:Hw}{w:World}{val:Val}{a:Act}{D:Nat}{o':Obj}(H:AQ s h w val a)(hD:w.heap[D]? =some (.deferred (some []))):AQ s h (w.putObj D o') val {a with defers:=[]}:=by have hk:BQ [D] h w h (w.putObj D o'):=FY hD rfl (by simp);refine⟨RAs.stays hk.stays _ _ _ H.e,⟨fun p hp=>RB.stays hk.stays (fun g hg=>?_) (H.inv.rep p hp),H.inv.nms,H.inv.bks⟩,H.far,Bz.nil (Nat.le_trans H.defs.1 hk.size)⟩;have hgm:=Inv.blk_mem hp hg;refine hk.far g (H.inv.blk_lt g hgm) fun hin=>?_;simp only[List.mem_singleton]at hin;subst hin;have:=H.inv.blk_def g hgm _ hD;cases this
theorem Jp{P:Program}{fn:Func}{R:Ending->World->Prop}{s:St}{h:Hw}{val:Val}{tmps:Array Value}:∀(Ds:List Nat) (w:World) (a:Act),a.tmps=tmps->AQ s h w val a->Ds.Nodup->(∀D∈Ds,w.heap[D]? =some (.deferred (some [])))->
 (∀w' a',a'.tmps=tmps->AQ s h w' val a'->BQ Ds h w h w'->∃v,(results fn tmps).run P w'=.ok v w'/\R (.returned v) w')->LeavesInM (fc none) 0 P fn tmps R (Ds.map fun D=>{target:=.collected D,args:= #[]}) .returning w
 |[],w,a,ha,H,_,_,hR=>hR w a ha H (BQ.refl _ _ _)
 |D::Ds,w,a,ha,H,hn,hd,hR=>by
  have hD:=hd D (.head _);obtain⟨hn1,hn2⟩:=List.nodup_cons.1 hn;refine⟨by simp,.inl ⟨D,_,rfl,run_takeDeferred hD,?_⟩⟩;refine Jp Ds (w.putObj D (.deferred none)) {a with defers:=[]} ha (H.shut hD) hn2 (fun D' hD'=>?_) fun w' a' ha' H' hk=>?_
  have h1:=hd D' (.tail _ hD');have hne:D≠D':=fun e=>hn1 (e▸hD');simpa[World.putObj,Array.getElem?_setIfInBounds,hne]using h1;refine hR w' a' ha' H' ((FY hD rfl (by simp)).trans (hk.mono' fun x hx=>.inl (List.mem_cons_of_mem _ hx)) fun b hb=>.inl hb)

theorem KZ{P:Program}{f:FuncId}{ws:List (Nat×W)}{lw:List Lw}{wk:List Ws}{args:List A}{F0 F':Bx}{Φ:Ob}{r:A}(hm:P.follows .mixedOrders=true)
 (he:PF P f ws lw wk args F0=some (Φ,r,F')) (hΦ:Φ.ok P (Dc P none (Cb P f))) (hb:r.bare=true) (hF0:Far F0) (hcl:∀p∈F',∀m,p.2.has m=true->m∈AI F'):
 ∀h w val vs,Inv h w val F0->RAs h w val args vs->Calls P f ⟨vs⟩ w fun e w'=>∃h' val' u,e=.returned u/\Inv h' w' val' F'/\RA h' w' val' r u/\BQ (AX val F0) h w h' w'/\(∀n,n∉AI F'->val' n=val n)/\∀b∈AX val' F',b∈AX val F0\/w.heap.size<=b:=by
 intro h w val vs hInv hargs
 unfold PF at he
 split at he
 ·rename_i fn hfn
  split at he
  ·rename_i c hc
   split at he
   case isFalse=>cases he
   rename_i hbare
   have hroot:Cb P f=c:=by simp[Cb,hfn,hc]
   rw[hroot]at hΦ
   have hn:vs.length=args.length:=hargs.length
   let val0:Val:=Av val bn (.int .i64 (w.heap.size:Int))
   have hv0:∀m,m≠bn->val0 m=val m:=fun m hm=>by simp[val0,Av,hm]
   have hI0:Inv h w val0 F0:=⟨fun p hp=>RB.upd hv0 (hF0 bn (.inr (rfl)) p hp).1 (hF0 bn (.inr (rfl)) p hp).2 (hInv.rep p hp),hInv.nms,by
    rw[BM fun m hm=>hv0 m fun e=>by obtain⟨p,hp,e2⟩:=mm.1 hm;exact(hF0 bn (.inr (rfl)) p hp).1 (e2.trans e)]
    exact hInv.bks⟩
   have hblk0:AX val0 F0=AX val F0:=BM fun m hm=>hv0 m fun e=>by obtain⟨p,hp,e2⟩:=mm.1 hm;exact(hF0 bn (.inr (rfl)) p hp).1 (e2.trans e)
   have H:AQ ⟨args++List.replicate (fn.ntmps-args.length) (.tup []),[],F0⟩ h w val0 {tmps:=⟨vs⟩++Array.replicate (fn.ntmps-vs.length) undef,defers:=[]}:=by refine⟨?_,hI0,hF0,Bz.nil (by simp[EJ,val0,Av])⟩;simp only[Array.toList_append,Array.toList_replicate];rw[hn];exact(RAs.bare _ _ hbare hargs).append (Ho _)
   have key:∀(e:Ex) (s':St),(e=.ret\/e=.normal)->Bq P ws lw [] c ⟨args++List.replicate (fn.ntmps-args.length) (.tup []),[],F0⟩=some (Φ,e,s')->((wks wk s').bind fun s2=>(Ig P s2 fn.results.toList).map fun r=>(Φ,r,s2.F))=some (Φ,r,F')->
    Calls P f ⟨vs⟩ w fun e w'=>∃h' val' u,e=.returned u/\Inv h' w' val' F'/\RA h' w' val' r u/\BQ (AX val F0) h w h' w'/\(∀n,n∉AI F'->val' n=val n)/\∀b∈AX val' F',b∈AX val F0\/w.heap.size<=b:=by
    intro e s' hor hrun hr
    refine callsIn_wide.1 (callsIn_of_wp_marks (F:=.wide) (n:=0) hfn hc trivial ?_)
    refine Ep (rd:=none) hm c [] _ s' Φ e rfl hrun hΦ h w val0 _ H _ ?_
    rintro e1 s1 h1 w1 v1 a1 ⟨rfl,rfl⟩ H1 n1
    simp only[Option.bind_eq_some_iff,om,pe,true_and]at hr
    obtain⟨s2,hwk,r2,hr,rfl,rfl⟩:=hr
    obtain⟨h2,v2,H2,n2⟩:=Ge hwk _ _ _ _ H1
    have n3:=n1.trans n2
    obtain⟨_,Ds,eD,hDn,hD⟩:=H2.defs
    have hbd:EJ v2=w.heap.size:=by unfold EJ;rw[n3.vals bn (by decide)];simp[val0,Av]
    have hL:LeavesInM (fc none) 0 P fn a1.tmps (fun e w'=>∃h' val' u,e=.returned u/\Inv h' w' val' s2.F/\RA h' w' val' r2 u/\BQ (AX val F0) h w h' w'/\(∀n,n∉AI s2.F->val' n=val n)/\∀b∈AX val' s2.F,b∈AX val F0\/w.heap.size<=b) a1.defers .returning w1:=by
     rw[eD];refine Jp Ds w1 a1 rfl H2 hDn (fun D hD1=>(hD D hD1).1) fun w' a' ha' H' hk=>?_;obtain⟨u,g1,g2⟩:=K3 H' hr;rw[ha']at g1;let v3:Val:=fun n=>if n∈AI s2.F then v2 n else val n
     have hfar:∀p∈s2.F,(∀m,m=p.1\/p.2.has m=true->v3 m=v2 m):=fun p hp m hm=>if_pos (by
      rcases hm with rfl|hm
      exact mm.2 ⟨p,hp,rfl⟩;exact hcl p hp m hm)
     have hbF:AX v3 s2.F=AX v2 s2.F:=BM fun m hm=>if_pos hm;have hIR:=Inv.right H'.inv;refine⟨u,g1,h2,v3,u,rfl,⟨fun p hp=>RB.congr (hfar p hp p.1 (.inl rfl)) (fun m hm=>hfar p hp m (.inr hm)) (hIR.rep p hp),hIR.nms,by rw[hbF];exact hIR.bks⟩,RA.bare _ _ hb g2,?_,fun n hn=>if_neg hn,fun b hb=>?_⟩;have hK:=n3.keep.trans hk fun x hx=>.inr (by rw[<-hbd];exact(hD x hx).2);have hall:AX val0 (⟨args++List.replicate (fn.ntmps-args.length) (.tup []),[],F0⟩:St).all=AX val F0:=hblk0;rw[hall]at hK;exact hK;rw[hbF]at hb;have:=n3.new b (by show b∈AX v2 (s2.B++s2.F);rw[AH];exact mr _ hb);rw[<-hblk0];exact this
    rcases hor with rfl|rfl
    exact hL
    exact hL
   split at he
   rename_i Φ' s' hrun
   have:Φ'=Φ:=by simp only[Option.bind_eq_some_iff,om,pe]at he;obtain⟨_,_,_,_,h,_⟩:=he;exact h
   subst this
   exact key .ret s' (.inl rfl) hrun he
   rename_i Φ' s' hrun
   have:Φ'=Φ:=by simp only[Option.bind_eq_some_iff,om,pe]at he;obtain⟨_,_,_,_,h,_⟩:=he;exact h
   subst this
   exact key .normal s' (.inr rfl) hrun he
   cases he
  cases he
 cases he
def aAs(P:Program)(f:FuncId)(ws:List (Nat×W))(lw:List Lw)(wk:List Ws)(args:List A):Option (Ob×A):=(PF P f ws lw wk args []).bind fun p=>match p.2.2 with
 |[]=>some (p.1,p.2.1)
 |_=>none
theorem Ve{P:Program}{f:FuncId}{ws:List (Nat×W)}{lw:List Lw}{wk:List Ws}{args:List A}{Φ:Ob}{r:A}(hm:P.follows .mixedOrders=true)
 (he:aAs P f ws lw wk args=some (Φ,r)) (hΦ:Φ.ok P (Dc P none (Cb P f))) (hb:r.bare=true):AO P f args [] r []:=by
 unfold aAs at he
 simp only[Option.bind_eq_some_iff]at he
 obtain⟨⟨Φ',r',F'⟩,h1,he⟩:=he
 simp only at he
 split at he
 simp only[oe,pe]at he
 obtain⟨rfl,rfl⟩:=he
 intro h w val vs hI hargs
 refine(KZ hm h1 hΦ hb (fun _ _ _ h=>by cases h) (fun _ h=>by cases h) h w val vs hI hargs).mono fun e w' hh=>?_
 obtain⟨h',val',u,rfl,hI',hr,hk,hv,hn⟩:=hh
 exact⟨h',val',u,rfl,hI',hr,hk,fun n _=>hv n (by simp[AI]),hn⟩
 cases he
theorem LQ{P:Program}{f:FuncId}{ws:List (Nat×W)}{lw:List Lw}{wk:List Ws}{args:List A}{F0 F':Bx}{Φ:Ob}{r:A}(hm:P.follows .mixedOrders=true)
 (he:PF P f ws lw wk args F0=some (Φ,r,F')) (hΦ:Φ.ok P (Dc P none (Cb P f))) (hb:r.bare=true) (hF0:Far F0) (hcl:∀p∈F',∀m,p.2.has m=true->m∈AI F'):Hm P f args F0 r F':=
 fun h w val vs hI hargs=>KZ hm he hΦ hb hF0 hcl h w val vs hI hargs

end Go.Ac
namespace Go.Ac
def vx:Nat:=997
mutual
def A.fix:A->Bool
 | .box _ _=>true
 | .row _=>true
 | .clo _ fs cs=>UK fs&&UK cs
 | .agg cs=>UK cs
 | .tup cs=>UK cs
 | .d _=>true
 | .eptr _=>true
 | .nil=>true
 |_=>false
def UK:List A->Bool
 |[]=>true
 |a::as'=>a.fix&&UK as'
end
mutual
theorem RA.det{h w h' w'}{val val':Val}:∀(a:A) (u:Value),a.fix=true->RA h w val a u->RA h' w' val' a u->∀n,a.has n=true->val' n=val n
 | .box m off,u,_,h1,h2,n,hn=>by
  simp only[A.has,beq_iff_eq]at hn;subst hn;simp only[RA]at h1 h2;obtain⟨b,e1,e2⟩:=h1;obtain⟨b',e3,e4⟩:=h2;rw[e2]at e4;cases e4;rw[e1,e3]
 | .row m,u,_,h1,h2,n,hn=>by
  simp only[A.has,beq_iff_eq]at hn;subst hn;simp only[RA]at h1 h2;rw[<-h1.1,<-h2.1]
 | .clo f fs cs,u,hf,h1,h2,n,hn=>by
  simp only[A.fix,ba]at hf;simp only[RA]at h1 h2;obtain⟨x,y,e,a1,a2⟩:=h1;obtain⟨x',y',e',b1,b2⟩:=h2;rw[e]at e';cases e';simp only[A.has,Bool.or_eq_true]at hn;rcases hn with hn|hn
  exact RAs.det fs x hf.1 a1 b1 n hn;exact RAs.det cs y hf.2 a2 b2 n hn
 | .agg cs,u,hf,h1,h2,n,hn=>by
  simp only[A.fix]at hf;simp only[RA]at h1 h2;obtain⟨x,e,a1,_⟩:=h1;obtain⟨x',e',b1,_⟩:=h2;rw[e]at e';cases e';exact RAs.det cs x hf a1 b1 n (by simpa only[A.has]using hn)
 | .tup cs,u,hf,h1,h2,n,hn=>by
  simp only[A.fix]at hf;simp only[RA]at h1 h2;obtain⟨x,e,a1⟩:=h1;obtain⟨x',e',b1⟩:=h2;rw[e]at e';cases e';exact RAs.det cs x hf a1 b1 n (by simpa only[A.has]using hn)
 | .d _,u,_,_,_,n,hn=>by simp[A.has]at hn
 | .eptr _,u,_,_,_,n,hn=>by simp[A.has]at hn
 | .nil,u,_,_,_,n,hn=>by simp[A.has]at hn
 | .bsl _ _ _,u,hf,_,_,n,hn=>by simp[A.fix]at hf
 | .ep _ _ _ _,u,hf,_,_,n,hn=>by simp[A.fix]at hf
 | .ub,u,hf,_,_,n,hn=>by simp[A.fix]at hf
 | .opq _,u,hf,_,_,n,hn=>by simp[A.fix]at hf
 | .any,u,hf,_,_,n,hn=>by simp[A.fix]at hf
theorem RAs.det{h w h' w'}{val val':Val}:∀(as':List A) (us:List Value),UK as'=true->RAs h w val as' us->RAs h' w' val' as' us->∀n,AR n as'=true->val' n=val n
 |[],us,_,_,_,n,hn=>by simp[AR]at hn
 |a::as',us,hf,h1,h2,n,hn=>by
  simp only[UK,ba]at hf;simp only[RAs]at h1 h2;obtain⟨u,us',rfl,a1,a2⟩:=h1;obtain⟨u',us2,e,b1,b2⟩:=h2;cases e;simp only[AR,Bool.or_eq_true]at hn;rcases hn with hn|hn
  exact RA.det a u hf.1 a1 b1 n hn;exact RAs.det as' us' hf.2 a2 b2 n hn
end
def FZ(args:List A)(ks:List Nat):List A:=ks.map fun i=>args.getD i .any
def TE(P:Program)(f:FuncId)(ws:List (Nat×W))(lw:List Lw)(wk:List Ws)(args:List A)(X:Bx)(ks:List Nat)(us:List Value):Option (Ob×A×Bx):=
 match P.funcs[f]? with
 |some fn=>match fn.body with
  |some c=>match Bq P ws lw [] c ⟨args++List.replicate (fn.ntmps-args.length) (.tup []),X++[(vx,.vals (FZ args ks) us)],[]⟩with
   |some (Φ,.ret,s')=>(wks wk s').bind fun s2=>(Ig P s2 fn.results.toList).map fun r=>(Φ,r,s2.B)
   |some (Φ,.normal,s')=>(wks wk s').bind fun s2=>(Ig P s2 fn.results.toList).map fun r=>(Φ,r,s2.B)
   |_=>none
  |_=>none
 |none=>none
def Tz(args:List A)(X:Bx)(ks:List Nat)(r:A)(X':Bx):Bool:=
 YO args&&aA5 X&&BB (fun n=>Nat.blt n vx) (AI X)&&BB (fun i=>Nat.blt i args.length) ks&&UK (FZ args ks)&&
 Th r (AI X')&&X'.all (fun p=>UC p.2 (AI X'))&&BB (fun n=> !A6 n (AI X)||AR n (FZ args ks)) (AI X')
theorem J8{h w}{val:Val}{args:List A}{vs:List Value}(hr:RAs h w val args vs):∀(ks:List Nat),BB (fun i=>Nat.blt i args.length) ks=true->RAs h w val (FZ args ks) (ks.map fun i=>vs.getD i undef)
 |[],_=>by simp[FZ,RAs]
 |i::ks,hk=>by
  simp only[BB,ba,Nat.blt_eq]at hk;simp only[FZ,List.map_cons,RAs];refine⟨_,_,rfl,?_,J8 hr ks hk.2⟩;obtain⟨u,hu,h1⟩:=RAs.get hr i _ (List.getElem?_eq_getElem hk.1);simp only[List.getD,hu,List.getElem?_eq_getElem hk.1,Option.getD_some];exact h1
theorem TF{P:Program}{f:FuncId}{ws:List Value->List (Nat×W)}{lw:List Value->List Lw}{wk:List Value->List Ws}{args:List A}{X X':Bx}{ks:List Nat}{Φ:List Value->Ob}{r:A}(hm:P.follows .mixedOrders=true)
 (he:∀us,TE P f (ws us) (lw us) (wk us) args X ks us=some (Φ us,r,X'++[(vx,.vals (FZ args ks) us)])) (hΦ:∀us,(Φ us).ok P (Dc P none (Cb P f))) (hx:Tz args X ks r X'=true):AO P f args X r X':=by
 intro h w val vs hInv hargs
 simp only[Tz,ba]at hx
 obtain⟨⟨⟨⟨⟨⟨⟨x1,x2⟩,x3⟩,x4⟩,x5⟩,x6⟩,x7⟩,x8⟩:=hx
 let us0:=ks.map fun i=>vs.getD i undef
 replace he:=he us0
 replace hΦ:=hΦ us0
 unfold TE at he
 split at he
 rename_i fn hfn
 split at he
 rename_i c hc
 have hroot:Cb P f=c:=by simp[Cb,hfn,hc]
 rw[hroot]at hΦ
 have hn:vs.length=args.length:=hargs.length
 let val0:Val:=Av val bn (.int .i64 (w.heap.size:Int))
 have hv0:∀m,m≠bn->val0 m=val m:=fun m hm=>by simp[val0,Av,hm]
 have hlt:∀m,m<up->m≠bn:=fun m hm e=>by subst e;simp only[up,bn]at hm;omega
 have hX1:∀p∈X,val0 p.1=val p.1:=fun p hp=>hv0 _ (hlt _ (Jt x2 hp).1)
 have hblk0:AX val0 X=AX val X:=BM fun m hm=>by obtain⟨p,hp,e2⟩:=mm.1 hm;rw[<-e2];exact hX1 p hp
 have hI0:Inv h w val0 X:=⟨fun p hp=>RB.congr (hX1 p hp) (fun m hm=>hv0 m (hlt m ((Jt x2 hp).2 m hm))) (hInv.rep p hp),hInv.nms,by rw[hblk0];exact hInv.bks⟩
 have hargs0:RAs h w val0 args vs:=RAs.congr _ _ (fun n hn=>hv0 n (hlt n (Pz x1 n hn))) hargs
 have hkept0:RAs h w val0 (FZ args ks) us0:=J8 hargs0 ks x4
 have hbv:∀(v:Val) (Y:Bx) (as':List A) (us:List Value),AX v (Y++[(vx,Bk.vals as' us)])=AX v Y:=fun v Y as' us=>by rw[AH];have:AX v [(vx,Bk.vals as' us)]=[]:=rfl;rw[this,List.append_nil]
 have hvxX:vx∉AI X:=fun hm=>by have:=Az x3 vx hm;simp at this
 have H:AQ ⟨args++List.replicate (fn.ntmps-args.length) (.tup []),X++[(vx,.vals (FZ args ks) us0)],[]⟩ h w val0 {tmps:=⟨vs⟩++Array.replicate (fn.ntmps-vs.length) undef,defers:=[]}:=by
  refine⟨?_,?_,(fun _ _ p hp=>by cases hp),Bz.nil (by simp[EJ,val0,Av])⟩;simp only[Array.toList_append,Array.toList_replicate];rw[hn];exact hargs0.append (Ho _);show Inv h w val0 ((X++[(vx,.vals (FZ args ks) us0)])++[]);rw[List.append_nil];refine⟨fun p hp=>?_,?_,by rw[hbv];exact hI0.bks⟩;rcases ma.1 hp with hp|hp
  exact hI0.rep p hp;simp only[List.mem_singleton]at hp;subst hp;exact hkept0;rw[AG];refine List.nodup_append.2 ⟨hI0.nms,by simp[AI],fun x hx y hy e=>?_⟩;simp only[AI,List.map_cons,List.map_nil,List.mem_singleton]at hy;subst hy;subst e;exact hvxX hx
 have key:∀(e:Ex) (s':St),(e=.ret\/e=.normal)->Bq P (ws us0) (lw us0) [] c ⟨args++List.replicate (fn.ntmps-args.length) (.tup []),X++[(vx,.vals (FZ args ks) us0)],[]⟩=some (Φ us0,e,s')->
  ((wks (wk us0) s').bind fun s2=>(Ig P s2 fn.results.toList).map fun r=>(Φ us0,r,s2.B))=some (Φ us0,r,X'++[(vx,.vals (FZ args ks) us0)])->
  Calls P f ⟨vs⟩ w fun e w'=>∃h' val' u,e=.returned u/\Inv h' w' val' X'/\RA h' w' val' r u/\BQ (AX val X) h w h' w'/\(∀n,(n∈AI X'->n∈AI X)->val' n=val n)/\∀b∈AX val' X',b∈AX val X\/w.heap.size<=b:=by
  intro e s' hor hrun hr
  refine callsIn_wide.1 (callsIn_of_wp_marks (F:=.wide) (n:=0) hfn hc trivial ?_)
  refine Ep (rd:=none) hm c [] _ s' (Φ us0) e rfl hrun hΦ h w val0 _ H _ ?_
  rintro e1 s1 h1 w1 v1 a1 ⟨rfl,rfl⟩ H1 n1
  simp only[Option.bind_eq_some_iff,om,pe,true_and]at hr
  obtain⟨s2,hwk,r2,hr,rfl,hB2⟩:=hr
  obtain⟨h2,v2,H2,n2⟩:=Ge hwk _ _ _ _ H1
  have n3:=n1.trans n2
  obtain⟨_,Ds,eD,hDn,hD⟩:=H2.defs
  have hbd:EJ v2=w.heap.size:=by unfold EJ;rw[n3.vals bn (by decide)];simp[val0,Av]
  have hall:AX val0 (⟨args++List.replicate (fn.ntmps-args.length) (.tup []),X++[(vx,.vals (FZ args ks) us0)],[]⟩:St).all=AX val X:=by show AX val0 ((X++[(vx,.vals (FZ args ks) us0)])++[])=_;rw[List.append_nil,hbv,hblk0]
  have hL:LeavesInM (fc none) 0 P fn a1.tmps (fun e w'=>∃h' val' u,e=.returned u/\Inv h' w' val' X'/\RA h' w' val' r2 u/\BQ (AX val X) h w h' w'/\(∀n,(n∈AI X'->n∈AI X)->val' n=val n)/\∀b∈AX val' X',b∈AX val X\/w.heap.size<=b) a1.defers .returning w1:=by
   rw[eD];refine Jp Ds w1 a1 rfl H2 hDn (fun D hD1=>(hD D hD1).1) fun w' a' ha' H' hk=>?_;obtain⟨u,g1,g2⟩:=K3 H' hr;rw[ha']at g1;let v3:Val:=fun n=>if n∈AI X' then v2 n else val n
   have hv3:∀n∈AI X',v3 n=v2 n:=fun n hn=>if_pos hn;have hIB:Inv h2 w' v2 (X'++[(vx,.vals (FZ args ks) us0)]):=by rw[<-hB2];have:=H'.inv;unfold St.all at this;exact Inv.sub (List.sublist_append_left _ _) this
   have hkept2:RAs h2 w' v2 (FZ args ks) us0:=hIB.rep (vx,.vals (FZ args ks) us0) (mr _ (.head _));have hsame:∀n,n∈AI X'->n∈AI X->v2 n=val n:=fun n hn hnX=>by
    have h8:=Az x8 n hn;simp only[Bool.or_eq_true,Bool.not_eq_true']at h8;rcases h8 with h8|h8
    exact absurd hnX (BV h8);rw[RAs.det _ _ x5 hkept0 hkept2 n h8];obtain⟨p,hp,e2⟩:=mm.1 hnX;rw[<-e2];exact hX1 p hp
   have hbX:AX v3 X'=AX v2 X':=BM fun m hm=>hv3 m hm;have hIX:Inv h2 w' v2 X':=Inv.sub (List.sublist_append_left _ _) hIB;refine⟨u,g1,h2,v3,u,rfl,⟨fun p hp=>RB.congr (hv3 _ (mm.2 ⟨p,hp,rfl⟩)) (fun m hm=>hv3 m (PT ((List.all_eq_true.1 x7) p hp) m hm)) (hIX.rep p hp),hIX.nms,by rw[hbX];exact hIX.bks⟩,
    RA.congr _ _ (fun n hn=>hv3 n (Kx x6 n hn)) g2,?_,fun n hn=>?_,fun b hb=>?_⟩
   have hK:=n3.keep.trans hk fun x hx=>.inr (by rw[<-hbd];exact(hD x hx).2);rw[hall]at hK;exact hK;show(if n∈AI X' then v2 n else val n)=val n
   split;rename_i hin;exact hsame n hin (hn hin);rfl;rw[hbX]at hb;have hb2:b∈AX v2 s2.all:=by show b∈AX v2 (s2.B++s2.F);rw[AH,hB2,hbv];exact ml _ hb
   have:=n3.new b hb2;rw[hall]at this;exact this
  rcases hor with rfl|rfl
  exact hL
  exact hL
 split at he
 rename_i Φ' s' hrun
 have:Φ'=Φ us0:=by simp only[Option.bind_eq_some_iff,om,pe]at he;obtain⟨_,_,_,_,h,_⟩:=he;exact h
 subst this
 exact key .ret s' (.inl rfl) hrun he
 rename_i Φ' s' hrun
 have:Φ'=Φ us0:=by simp only[Option.bind_eq_some_iff,om,pe]at he;obtain⟨_,_,_,_,h,_⟩:=he;exact h
 subst this
 exact key .normal s' (.inr rfl) hrun he
 cases he
 cases he
 cases he
end Go.Ac
namespace Go.Ac

def Cn.okK:Cn->Prop->Prop
 | .t,k=>k
 | .both a b,k=>a.okK (b.okK k)
 |o,k=>o.ok/\k
def Ob.okK(P:Program)(L:Lp):Ob->Prop->Prop
 | .c x,k=>x.okK k
 | .both a b,k=>a.okK P L (b.okK P L k)
 |o,k=>o.ok P L/\k
theorem Cn.okK_iff:∀(x:Cn) (k:Prop),x.okK k↔x.ok/\k:=by
 intro x;induction x with
 |both a b iha ihb=>intro k;simp only[Cn.okK,iha,ihb,Cn.ok,and_assoc]
 |t=>intro k;simp[Cn.okK,Cn.ok]
 |_=>intro k;exact Iff.rfl
theorem Ob.okK_iff{P:Program}{L:Lp}:∀(x:Ob) (k:Prop),x.okK P L k↔x.ok P L/\k:=by
 intro x;induction x with
 |both a b iha ihb=>intro k;simp only[Ob.okK,iha,ihb,Ob.ok,and_assoc]
 |c x=>intro k;exact Cn.okK_iff x k
 |_=>intro k;exact Iff.rfl

def Arr(P:Program)(rd:Option Nat)(root:Code)(q:List Nat)(s:St)(e:Ex)(s':St):Prop:=
 AC P rd (Ap root q) s fun e1 s1=>e1=e/\Wk s1 s'
theorem Arr.lp{P:Program}{rd:Option Nat}{root:Code}{q:List Nat}{s s':St}{e:Ex}(h:Arr P rd root q s e s'):Dc P rd root q s e s':=
 AC.post h fun _ _ hh=>⟨s',hh.2,hh.1,rfl⟩
def L4(P:Program)(rd:Option Nat)(root:Code)(ws:List (Nat×W))(lw:List Lw)(q:List Nat)(l:List Ws)(s:St)(e:Ex)(s':St):Prop:=
 match Bq P ws lw q (Ap root q) s with
 |some (Φ,e1,s1)=>match wks l s1 with
  |some s2=>Φ.okK P (Dc P rd root) True/\(e1=e/\s2=s')
  |none=>False
 |none=>False
theorem L4.arr{P:Program}{rd:Option Nat}{root:Code}{ws:List (Nat×W)}{lw:List Lw}{q:List Nat}{l:List Ws}{s s':St}{e:Ex}(hm:P.follows .mixedOrders=true)
 (h:L4 P rd root ws lw q l s e s'):Arr P rd root q s e s':=by
 unfold L4 at h
 split at h
 rename_i Φ e1 s1 h1
 split at h
 rename_i s2 h2
 obtain⟨hΦ,rfl,rfl⟩:=h
 have hΦ:=((Ob.okK_iff _ _).1 hΦ).1
 exact(Ep hm _ _ _ _ _ _ rfl h1 hΦ).mono fun e1 s1' hh=>⟨hh.1,by rw[hh.2];exact Ge h2⟩
 exact h.elim
 exact h.elim
def Qt(P:Program)(f:FuncId)(ws:List (Nat×W))(lw:List Lw)(wk:List Ws)(args:List A)(r:A):Prop:=
 match aAs P f ws lw wk args with
 |some (Φ,r')=>Φ.okK P (Dc P none (Cb P f)) True/\(r'=r/\r.bare=true)
 |none=>False
theorem Qt.call{P:Program}{f:FuncId}{ws:List (Nat×W)}{lw:List Lw}{wk:List Ws}{args:List A}{r:A}(hm:P.follows .mixedOrders=true)(h:Qt P f ws lw wk args r):AO P f args [] r []:=by unfold Qt at h;split at h;rename_i Φ r' h1;obtain⟨hΦ,rfl,hb⟩:=h;exact Ve hm h1 ((Ob.okK_iff _ _).1 hΦ).1 hb;exact h.elim
def T7(P:Program)(f:FuncId)(ws:List (Nat×W))(lw:List Lw)(wk:List Ws)(args:List A)(X:Bx)(ks:List Nat)(us:List Value)(r:A)(X':Bx):Prop:=
 match TE P f ws lw wk args X ks us with
 |some (Φ,r',X'')=>Φ.okK P (Dc P none (Cb P f)) True/\(r'=r/\X''=X'++[(vx,.vals (FZ args ks) us)]/\Tz args X ks r X'=true)
 |none=>False
theorem T7.call{P:Program}{f:FuncId}{ws:List Value->List (Nat×W)}{lw:List Value->List Lw}{wk:List Value->List Ws}{args:List A}{X:Bx}{ks:List Nat}{r:A}{X':Bx}(hm:P.follows .mixedOrders=true)
 (h:∀us,T7 P f (ws us) (lw us) (wk us) args X ks us r X'):AO P f args X r X':=by
 have h2:∀us,∃Φ:Ob,TE P f (ws us) (lw us) (wk us) args X ks us=some (Φ,r,X'++[(vx,.vals (FZ args ks) us)])/\Φ.ok P (Dc P none (Cb P f))/\Tz args X ks r X'=true:=by intro us;have:=h us;unfold T7 at this;split at this;rename_i Φ r' X'' h1;obtain⟨hΦ,rfl,rfl,hx⟩:=this;exact⟨Φ,h1,((Ob.okK_iff _ _).1 hΦ).1,hx⟩;exact this.elim
 exact TF (ws:=ws) (lw:=lw) (wk:=wk) (Φ:=fun us=>Classical.choose (h2 us)) hm (fun us=>(Classical.choose_spec (h2 us)).1) (fun us=>(Classical.choose_spec (h2 us)).2.1) (h2 []).choose_spec.2.2
def T6(P:Program)(f:FuncId)(ws:List (Nat×W))(lw:List Lw)(wk:List Ws)(args:List A)(F0:Bx)(r:A)(F':Bx):Prop:=
 match PF P f ws lw wk args F0 with
 |some (Φ,r',F'')=>Φ.okK P (Dc P none (Cb P f)) True/\(r'=r/\F''=F'/\r.bare=true)
 |none=>False
theorem T6.call{P:Program}{f:FuncId}{ws:List (Nat×W)}{lw:List Lw}{wk:List Ws}{args:List A}{F0 F':Bx}{r:A}(hm:P.follows .mixedOrders=true)(hF0:Far F0)(hcl:∀p∈F',∀m,p.2.has m=true->m∈AI F')
 (h:T6 P f ws lw wk args F0 r F'):Hm P f args F0 r F':=by
 unfold T6 at h
 split at h
 rename_i Φ r' F'' h1
 obtain⟨hΦ,rfl,rfl,hb⟩:=h
 exact LQ hm h1 ((Ob.okK_iff _ _).1 hΦ).1 hb hF0 hcl
 exact h.elim
attribute [irreducible] L4 Qt T7 T6
theorem Et{P:Program}{rd:Option Nat}{root:Code}(hm:P.follows .mixedOrders=true)(ws:List (Nat×W))(lw:List Lw){q:List Nat}(l:List Ws){s s':St}{e:Ex}{p:Prop}(h:p)
 (he:(p/\(e=e/\s'=s'))=L4 P rd root ws lw q l s e s'):Arr P rd root q s e s':=L4.arr (ws:=ws) (lw:=lw) (l:=l) hm (he.mp ⟨h,rfl,rfl⟩)
theorem QS{P:Program}{f:FuncId}(hm:P.follows .mixedOrders=true)(ws:List (Nat×W))(lw:List Lw)(wk:List Ws){args:List A}{r:A}{p:Prop}(h:p)
 (he:(p/\(r=r/\true=true))=Qt P f ws lw wk args r):AO P f args [] r []:=Qt.call (ws:=ws) (lw:=lw) (wk:=wk) hm (he.mp ⟨h,rfl,rfl⟩)

theorem QT{P:Program}{f:FuncId}(hm:P.follows .mixedOrders=true)(ws:List (Nat×W))(lw:List Lw)(wk:List Ws){args:List A}{F0 F':Bx}{r:A}(hF0:Far F0)(hcl:∀p∈F',∀m,p.2.has m=true->m∈AI F'){p:Prop}(h:p)
 (he:(p/\(r=r/\F'=F'/\true=true))=T6 P f ws lw wk args F0 r F'):Hm P f args F0 r F':=T6.call (ws:=ws) (lw:=lw) (wk:=wk) hm hF0 hcl (he.mp ⟨h,rfl,rfl,rfl⟩)

section
variable {σ τ:Type}
def itE(step:σ->Option (σ⊕τ)):Nat->σ->Option τ
 |0,_=>none
 |n+1,s=>match step s with
  |none=>none
  |some (.inl s')=>itE step n s'
  |some (.inr t)=>some t
theorem HX{step:σ->Option (σ⊕τ)}:∀{n m:Nat} {s:σ} {t:τ},n<=m->itE step n s=some t->itE step m s=some t
 |0,_,s,t,_,h=>by simp[itE]at h
 |n+1,0,s,t,hle,h=>by omega
 |n+1,m+1,s,t,hle,h=>by
  simp only[itE]at h⊢;split at h;cases h;exact HX (Nat.le_of_succ_le_succ hle) h;exact h
open Classical in
noncomputable def Ab(step:σ->Option (σ⊕τ))(s:σ):Option τ:=
 if h:∃t,∃n,itE step n s=some t then some (Classical.choose h)else none
theorem B3{step:σ->Option (σ⊕τ)}{s:σ}{t:τ}:Ab step s=some t↔ ∃n,itE step n s=some t:=by unfold Ab;constructor;intro h;split at h;rename_i hh;simp only[oe]at h;rw[<-h];exact Classical.choose_spec hh;cases h;rintro⟨n,hn⟩;have hh:∃t,∃n,itE step n s=some t:=⟨t,n,hn⟩;rw[dif_pos hh];obtain⟨m,hm⟩:=Classical.choose_spec hh;have h1:=HX (Nat.le_max_left n m) hn;have h2:=HX (Nat.le_max_right n m) hm;rw[h1]at h2;exact h2.symm
def BZ(o:Option (σ⊕τ))(k:σ->Option τ):Option τ:=match o with
 |none=>none
 |some (.inl s)=>k s
 |some (.inr t)=>some t
theorem Ak(step:σ->Option (σ⊕τ))(s:σ):Ab step s=BZ (step s) (Ab step):=by
 apply Option.ext;intro t;rw[B3];unfold BZ;cases hs:step s with
 |none=>
  constructor
  rintro⟨n,hn⟩
  cases n with
  |zero=>simp[itE]at hn
  |succ n=>simp[itE,hs]at hn
  intro h;simp at h
 |some x=>
  cases x with
  |inl s'=>
   simp only
   rw[B3]
   constructor
   rintro⟨n,hn⟩
   cases n with
   |zero=>simp[itE]at hn
   |succ n=>exact⟨n,by simpa[itE,hs]using hn⟩
   rintro⟨n,hn⟩
   exact⟨n+1,by simpa[itE,hs]using hn⟩
  |inr t'=>
   constructor
   rintro⟨n,hn⟩
   cases n with
   |zero=>simp[itE]at hn
   |succ n=>simpa[itE,hs]using hn
   intro h
   exact⟨1,by simpa[itE,hs]using h⟩
end

theorem Tb{P:Program}{rd:Option Nat}{root:Code}{p:List Nat}(hl:Pp (Ap root p)=true){σ τ:Type}{step:σ->Option (σ⊕τ)}{I:σ->St}{O:τ->Ex×St}(hO:∀t,(O t).1≠ .normal)
 (hn:∀s s',step s=some (.inl s')->Arr P rd root (0::p) (I s) .normal (I s')) (hx:∀s t,step s=some (.inr t)->Arr P rd root (0::p) (I s) (O t).1 (O t).2)
 {s:σ} {t:τ} (h:Ab step s=some t):Dc P rd root p (I s) (O t).1 (O t).2:=by
 obtain⟨n,hn0⟩:=B3.1 h
 unfold Dc
 have hc:Ap root p=.loop (Ap root (0::p)):=by
  cases h:Ap root p with
  |loop b=>simp only[Ap,h,H7]
  |_=>rw[h]at hl;cases hl
 rw[hc]
 have hloop:=AC.loop (P:=P) (rd:=rd) (c:=Ap root (0::p)) (ι:={x:σ×Nat//itE step x.2 x.1=some t}) (fun x=>I x.1.1) (fun x=>x.1.2) (fun _ e s=>e=(O t).1/\Wk s (O t).2) ?_ ⟨(s,n),hn0⟩
 exact hloop.post fun e s1 hh=>⟨(O t).2,hh.2,hh.1,rfl⟩
 rintro⟨⟨s,n⟩,hi⟩
 cases n with
 |zero=>simp[itE]at hi
 |succ n=>
  simp only[itE]at hi
  split at hi
  cases hi
  rename_i s' hs
  refine AC.mono (hn s s' hs) ?_
  rintro e s1 ⟨rfl,hw⟩
  exact⟨⟨(s',n),hi⟩,Nat.lt_succ_self n,hw,fun e s hh=>hh⟩
  rename_i t' hs
  simp only[oe]at hi
  subst hi
  refine AC.mono (hx s t' hs) ?_
  rintro e s1 ⟨rfl,hw⟩
  cases he:(O t').1 with
  |normal=>exact absurd he (hO t')
  |exit id=>exact⟨rfl,hw⟩
  |ret=>exact⟨rfl,hw⟩

def rR{σ τ:Type}(I:σ->St)(O:τ->Ex×St):σ⊕τ->Ex×St
 | .inl s=>(.normal,I s)
 | .inr t=>O t
theorem Pw{P:Program}{rd:Option Nat}{root:Code}{p:List Nat}{σ τ:Type}{step:σ->Option (σ⊕τ)}(I:σ->St)(O:τ->Ex×St)(hl:Pp (Ap root p)=true)(hO:∀t,(O t).1≠ .normal)
 (hr:∀s o,step s=some o->Arr P rd root (0::p) (I s) (rR I O o).1 (rR I O o).2)
 {s:σ} {t:τ} (h:Ab step s=some t):Dc P rd root p (I s) (O t).1 (O t).2:=
 Tb hl hO (fun s s' h=>hr s (.inl s') h) (fun s t h=>hr s (.inr t) h) h

section
variable {α β:Type}
def AN(c:Bool)(a b:Option β):Option β:=match c with
 |true=>a
 |false=>b
def AK(p:Prop) [Decidable p](k:Option β):Option β:=if p then k else none
def AT(xs:List α)(i:Int)(k:α->Option β):Option β:=if 0<=i then(match xs[i.toNat]? with
 |some x=>k x
 |none=>none)else none
def AJ(x:Option α)(k:α->Option β):Option β:=match x with
 |some a=>k a
 |none=>none
theorem iS{c:Bool}{a b:Option β}{r:β}(h:AN c a b=some r):(c=true/\a=some r)\/(c=false/\b=some r):=by cases c;exact .inr ⟨rfl,h⟩;exact .inl ⟨rfl,h⟩
theorem CY{a b:Option β}{r:β}(h:AN true a b=some r):a=some r:=h
theorem CX{a b:Option β}{r:β}(h:AN false a b=some r):b=some r:=h
theorem cS{p:Prop} [Decidable p]{k:Option β}{r:β}(h:AK p k=some r):p/\k=some r:=by unfold AK at h;split at h;exact⟨‹_›,h⟩;cases h
theorem xS{xs:List α}{i:Int}{k:α->Option β}{r:β}(h:AT xs i k=some r):∃x,(0<=i/\xs[i.toNat]? =some x)/\k x=some r:=by unfold AT at h;split at h;split at h;exact⟨_,⟨‹_›,‹_›⟩,h⟩;cases h;cases h
theorem bS{x:Option α}{k:α->Option β}{r:β}(h:AJ x k=some r):∃a,x=some a/\k a=some r:=by
 cases x with
 |none=>cases h
 |some a=>exact⟨a,rfl,h⟩
end
end Go.Ac
namespace Go.Ac
def D.i(k:IntKind)(n:Int):D:=.v (.int k n)
def D.b(b:Bool):D:=.v (.bool b)
def D.s(l:List UInt8):D:=.v (.string ⟨⟨l⟩⟩)
def D.l{α:Type}(f:α->D)(xs:List α):D:=.sl (xs.map f)
def XD(x:D):List A:=x.cells.map .d
def sp:Nat->Nat->List (Nat×A)->List A
 |0,_,_=> []
 |n+1,i,[]=>.any::sp n (i+1) []
 |n+1,i,(j,a)::l=>if Nat.beq j i then a::sp n (i+1) l else .any::sp n (i+1) ((j,a)::l)
class CP{α:Type}(f:α->D)(k:outParam Nat):Prop where
 h:∀x,(f x).nc=k
instance (k:IntKind):CP (D.i k) 1:=⟨fun _=>rfl⟩
instance :CP D.b 1:=⟨fun _=>rfl⟩
instance :CP D.s 1:=⟨fun _=>rfl⟩
instance :CP Af 1:=⟨fun _=>rfl⟩
instance {α:Type} (f:α->D):CP (D.l f) 1:=⟨fun _=>rfl⟩

section
variable {α β:Type}
theorem BI(f:α->D){k:Nat} [CP f k](l:List α):∀y∈l.map f,y.nc=k:=by intro y hy;obtain⟨x,_,rfl⟩:=mm.1 hy;exact CP.h x
theorem TS(f:α->D){xs:List α}{i:Int}{x:α}(h:0<=i/\xs[i.toNat]? =some x):0<=i/\(xs.map f)[i.toNat]? =some (f x):=
 ⟨h.1,by rw[List.getElem?_map,h.2];rfl⟩
theorem Jr(f:α->D)(xs:List α):((xs.map f).length:Int)=(xs.length:Int):=by rw[List.length_map]
theorem Co(l:List UInt8):((ByteArray.mk ⟨l⟩).size:Int)=(l.length:Int):=rfl
theorem DS{l:List UInt8}{i:Int}{x:UInt8}(h:0<=i/\l[i.toNat]? =some x):0<=i/\∃c:UInt8,(ByteArray.mk ⟨l⟩).data.toList[i.toNat]? =some c/\(c.toNat:Int)=(x.toNat:Int):=
 ⟨h.1,x,h.2,rfl⟩
def fit(a b n:Nat):Prop:=(a+b)*n<=140737488355328
instance (a b n:Nat):Decidable (fit a b n):=inferInstanceAs (Decidable (_<=_))
theorem BF(f:α->D){xs ys:List α}{n:Nat}(h:fit xs.length ys.length n):((xs.map f).length+(ys.map f).length)*n<=140737488355328:=by rw[List.length_map,List.length_map];exact h
theorem BE(f:α->D)(xs ys:List α):xs.map f++ys.map f=(xs++ys).map f:=(List.map_append).symm
def sub(xs:List α)(l h:Int):List α:=(xs.take h.toNat).drop l.toNat
theorem Ki(f:α->D){k:Nat} [CP f k]{xs:List α}{l h:Int}(hh:0<=l/\l<=h/\h<=xs.length):
 0<=l/\l<=(some h).getD ((xs.map f).length:Int)/\(some h).getD ((xs.map f).length:Int)<=((xs.map f).length:Int)/\(∀y∈xs.map f,y.nc=k)/\
  ((xs.map f).take ((some h).getD ((xs.map f).length:Int)).toNat).drop l.toNat=(sub xs l h).map f:=by
 refine⟨hh.1,hh.2.1,by rw[List.length_map];exact hh.2.2,BI f xs,?_⟩
 simp only[Option.getD_some,sub,List.map_drop,List.map_take]
theorem Kh(f:α->D){k:Nat} [CP f k]{xs:List α}{l:Int}(hh:0<=l/\l<=(xs.length:Int)/\(xs.length:Int)<=xs.length):
 0<=l/\l<=(none:Option Int).getD ((xs.map f).length:Int)/\(none:Option Int).getD ((xs.map f).length:Int)<=((xs.map f).length:Int)/\(∀y∈xs.map f,y.nc=k)/\
  ((xs.map f).take ((none:Option Int).getD ((xs.map f).length:Int)).toNat).drop l.toNat=(sub xs l (xs.length:Int)).map f:=by
 refine⟨hh.1,by simp only[Option.getD_none,List.length_map];exact hh.2.1,Int.le_refl _,BI f xs,?_⟩
 simp only[Option.getD_none,sub,List.map_drop,List.map_take,List.length_map,Int.toNat_natCast]
def u8w(n:Int):UInt8:=UInt8.ofNat (n % 256).toNat
theorem In(n:Int):IntKind.u8.wrap n=((u8w n).toNat:Int):=by
 have h:IntKind.u8.wrap n=n % 256:=by simp[IntKind.wrap,IntKind.signed,IntKind.bits]
 rw[h];unfold u8w;rw[UInt8.toNat_ofNat'];omega
theorem J7(c:UInt8):IntKind.i64.wrap (c.toNat:Int)=(c.toNat:Int):=by have:=c.toNat_lt;exact IntWalk.i64_in _ ⟨by omega,by omega⟩
def IY(a b:Int):Int:=if b<a then b else a
def Fh(a b:Int):Int:=if a<b then b else a
def B7{γ:Type}(o:α⊕β)(f:α->Option γ)(g:β->Option γ):Option γ:=match o with
 | .inl a=>f a
 | .inr b=>g b
theorem AV{γ:Type}{o:α⊕β}{f:α->Option γ}{g:β->Option γ}{r:γ}(h:B7 o f g=some r):(∃a,o=.inl a/\f a=some r)\/(∃b,o=.inr b/\g b=some r):=by
 cases o with
 |inl a=>exact .inl ⟨a,rfl,h⟩
 |inr b=>exact .inr ⟨b,rfl,h⟩
end
def isN:Ex->Bool
 | .normal=>true
 |_=>false
theorem Pq{e:Ex}(h:isN e=false):e≠ .normal:=by intro hh;rw[hh]at h;cases h
end Go.Ac
namespace Go.Ac
section
variable {α:Type}
theorem AF(f:α->D){xs:List α}{i:Int}{x:α}(h:0<=i/\xs[i.toNat]? =some x):0<=(i.toNat:Int)/\(xs.map f)[(i.toNat:Int).toNat]? =some (f x):=
 ⟨by omega,by rw[Int.toNat_natCast,List.getElem?_map,h.2];rfl⟩
theorem AD(f:α->D){xs:List α}{i:Int}(h:i+1<=(xs.length:Int)):i+1<=((xs.map f).length:Int):=by rw[List.length_map];exact h
theorem Ar(f:α->D){xs:List α}{i:Int}(h:0<=i/\i+1<=(xs.length:Int)):(i.toNat:Int)+1<=((xs.map f).length:Int):=by rw[List.length_map];omega
theorem AP(f:α->D)(xs:List α)(i:Int)(x:α):(xs.map f).set i.toNat (f x)=(xs.set i.toNat x).map f:=by rw[List.map_set]
theorem XN(f:α->D)(n:Int)(x:α):([]:List D)++List.replicate n.toNat (f x)=(List.replicate n.toNat x).map f:=by rw[List.map_replicate];rfl
theorem XO(f:α->D){n:Int}(x:α){b:Nat}(h:fit 0 n.toNat b):(([]:List D).length+(List.replicate n.toNat (f x)).length)*b<=140737488355328:=by rw[List.length_replicate];exact h
theorem TO(f:α->D)(xs ys:List α):(ys.map f).take (xs.map f).length++(xs.map f).drop (ys.map f).length=(ys.take xs.length++xs.drop ys.length).map f:=by rw[List.length_map,List.length_map,List.map_append,List.map_take,List.map_drop]
theorem XL(f:α->D){xs:List α}{n:Nat}(h:xs.length=n):(((xs.map f).length:Nat):Int)=(n:Int):=by rw[List.length_map,h]
end
end Go.Ac
namespace Go.Ac
end Go.Ac
namespace Go.Ac
theorem ai{a b:Prop}(h:a)(k:b):a/\b:=⟨h,k⟩
theorem ti:True:=trivial
theorem si{α:Type}{a b:α}(h:some a=some b):a=b:=Option.some.inj h
section
variable {α β γ σ τ:Type}
theorem AU(a b:Option β):AN true a b=a:=rfl
theorem AS(a b:Option β):AN false a b=b:=rfl
theorem CL(c:Bool)(a b:Option β):AN c a b=if c=true then a else b:=by cases c<;>rfl
theorem AE(x:α)(k:α->Option β):AJ (some x) k=k x:=rfl
theorem As{p:Prop} [Decidable p](h:p)(k:Option β):AK p k=k:=if_pos h
theorem Cg(a:α)(f:α->Option γ)(g:β->Option γ):B7 (.inl a) f g=f a:=rfl
theorem DD(b:β)(f:α->Option γ)(g:β->Option γ):B7 (.inr b) f g=g b:=rfl
theorem Ax(s:σ)(k:σ->Option τ):BZ (some (.inl s)) k=k s:=rfl
theorem Aa(t:τ)(k:σ->Option τ):BZ (some (.inr t)) k=some t:=rfl
theorem A0{xs:List α}{n:Nat}{x:α}(h:xs[n]? =some x)(k:α->Option β):AT xs (n:Int) k=k x:=by simp[AT,h]
theorem UL{x:α}{xs:List α}(k:α->Option β):AT (x::xs) 0 k=k x:=by simp[AT]
theorem Kt{step:σ->Option (σ⊕τ)}(I:σ->Prop)(μ:σ->Nat)(spec:σ->τ)
 (h:∀s,I s->step s=some (.inr (spec s))\/∃s',step s=some (.inl s')/\I s'/\μ s'<μ s/\spec s'=spec s):∀s,I s->Ab step s=some (spec s):=by
 have key:∀n s,μ s<n->I s->Ab step s=some (spec s):=by
  intro n;induction n with
  |zero=>intro s hs;omega
  |succ n ih=>
   intro s hs hI
   rw[Ak]
   rcases h s hI with h1|⟨s',h1,h2,h3,h4⟩
   rw[h1];rfl
   rw[h1,Ax,ih s' (by omega) h2,h4]
 exact fun s hI=>key (μ s+1) s (by omega) hI
theorem Ks{step:σ->Option (σ⊕τ)}(I:σ->Prop)(μ:σ->Nat)(Q:τ->Prop)
 (h:∀s,I s->(∃t,step s=some (.inr t)/\Q t)\/∃s',step s=some (.inl s')/\I s'/\μ s'<μ s):∀s,I s->∃t,Ab step s=some t/\Q t:=by
 have key:∀n s,μ s<n->I s->∃t,Ab step s=some t/\Q t:=by
  intro n;induction n with
  |zero=>intro s hs;omega
  |succ n ih=>
   intro s hs hI
   rw[Ak]
   rcases h s hI with⟨t,h1,h2⟩|⟨s',h1,h2,h3⟩
   exact⟨t,by rw[h1];rfl,h2⟩
   rw[h1,Ax];exact ih s' (by omega) h2
 exact fun s hI=>key (μ s+1) s (by omega) hI
end
theorem W9{a b:Int}(h1: -9223372036854775808<=a+b)(h2:a+b<=9223372036854775807):AA .add .i64 a b=a+b:=IntWalk.i64_in _ ⟨h1,h2⟩
theorem UX{a b:Int}(h1: -9223372036854775808<=a-b)(h2:a-b<=9223372036854775807):AA .sub .i64 a b=a-b:=IntWalk.i64_in _ ⟨h1,h2⟩
theorem Wa{a b:Int}(h1: -9223372036854775808<=a*b)(h2:a*b<=9223372036854775807):AA .mul .i64 a b=a*b:=IntWalk.i64_in _ ⟨h1,h2⟩
theorem Qf{n:Nat}(h:n<9223372036854775807):AA .add .i64 (n:Int) 1=((n+1:Nat):Int):=by rw[W9 (by omega) (by omega)];rfl
theorem YK{a:Int}(h1: -9223372036854775808<=a)(h2:a<=9223372036854775807):IntKind.wrap .i64 a=a:=IntWalk.i64_in _ ⟨h1,h2⟩
theorem WQ(a:Int):IntKind.wrap .u64 a=a % 18446744073709551616:=by simp[IntKind.wrap,IntKind.signed,IntKind.bits]
theorem Ag{a b n:Nat}(h:a+b<=1073741824)(hn:n<=131072):fit a b n:=by unfold fit;exact Nat.le_trans (Nat.mul_le_mul h hn) (by decide)
theorem YF{a b:UInt8}:((a.toNat:Int)=(b.toNat:Int))↔a=b:=by constructor;intro h;exact UInt8.toNat_inj.1 (by omega);intro h;rw[h]
theorem YE(a b:UInt8):decide ((a.toNat:Int)=(b.toNat:Int))=decide (a=b):=by rw[Bool.eq_iff_iff];simp[YF]
theorem EY{n:Nat}(h:n<256):(u8w (n:Int)).toNat=n:=by
 have:=In (n:Int);have h2:IntKind.u8.wrap (n:Int)=n:=by simp[IntKind.wrap,IntKind.signed,IntKind.bits];omega
 rw[h2]at this;omega
theorem Cf{α:Type}{l:List α}{i:Nat}(h:i<l.length):∃x,l[i]? =some x/\l.drop i=x::l.drop (i+1):=
 ⟨_,List.getElem?_eq_getElem h,List.drop_eq_getElem_cons h⟩
end Go.Ac
namespace Go.Ac
theorem Kd(n:Nat)(h:n<18446744073709551616):(BitVec.ofInt 64 (n:Int)).toNat=n:=by simp[BitVec.toNat_ofInt];omega
theorem CW{n:Nat}(h:n<18446744073709551616):IntKind.wrap .u64 (n:Int)=n:=by rw[WQ];omega
theorem aB1{n m:Nat}(hn:n<18446744073709551616)(hm:m<18446744073709551616):AA .xor .u64 (n:Int) (m:Int)=((n^^^m:Nat):Int):=by have h:n^^^m<2^64:=Nat.xor_lt_two_pow (by simpa using hn) (by simpa using hm);show IntKind.wrap .u64 (((BitVec.ofInt 64 (n:Int))^^^(BitVec.ofInt 64 (m:Int))).toNat:Int)=_;rw[BitVec.toNat_xor,Kd n hn,Kd m hm];exact CW (by simpa using h)
theorem aCf{n m:Nat}(hn:n<18446744073709551616)(hm:m<18446744073709551616):AA .and .u64 (n:Int) (m:Int)=((n&&&m:Nat):Int):=by have h:n&&&m<2^64:=Nat.and_lt_two_pow _ (by simpa using hm);show IntKind.wrap .u64 (((BitVec.ofInt 64 (n:Int))&&&(BitVec.ofInt 64 (m:Int))).toNat:Int)=_;rw[BitVec.toNat_and,Kd n hn,Kd m hm];exact CW (by simpa using h)
theorem aBn{n k:Nat}(hk:k<=64):AA .shr .u64 (n:Int) (k:Int)=((n/2^k:Nat):Int):=by show Int.fdiv (n:Int) (2^(min (k:Int).toNat 64))=_;rw[Int.toNat_natCast,Nat.min_eq_left hk];rw[Int.fdiv_eq_ediv_of_nonneg _ (Int.pow_nonneg (by decide))];rw[Int.natCast_ediv,Int.natCast_pow];rfl
theorem aBz{n k:Nat}(hk:k<=64):AA .shl .u64 (n:Int) (k:Int)=((n*2^k % 18446744073709551616:Nat):Int):=by show IntKind.wrap .u64 ((n:Int)*2^(min (k:Int).toNat 64))=_;rw[Int.toNat_natCast,Nat.min_eq_left hk,WQ,Int.natCast_emod,Int.natCast_mul,Int.natCast_pow];rfl
end Go.Ac
namespace Go.Ac
def cj:List Prop->Prop->Prop
 |[],k=>k
 |q::Q,k=>cj Q (q/\k)
theorem Pa:∀(Q:List Prop) (k:Prop),cj Q k↔cj Q True/\k
 |[],k=>by simp[cj]
 |q::Q,k=>by
  simp only[cj];rw[Pa Q (q/\k),Pa Q (q/\True)];exact⟨fun h=>⟨⟨h.1,h.2.1,trivial⟩,h.2.2⟩,fun h=>⟨h.1.1,h.1.2.1,h.2⟩⟩
theorem Vr{q:Prop}{Q:List Prop}(h:q)(k:cj Q True):cj (q::Q) True:=(Pa Q (q/\True)).2 ⟨k,h,trivial⟩
section
variable {β γ δ:Type} {ws:List (Nat×W)} {lw:List Lw} {Q:List Prop} {G:β->Prop} {o:β}
def Gl(ws:List (Nat×W))(lw:List Lw)(Q:List Prop)(G:β->Prop)(o:β):Prop:=cj Q True->G o
def Qb:List A->Nat->List Nat
 |[],_=> []
 | .any::l,i=>Qb l (i+1)
 |_::l,i=>i::Qb l (i+1)
def lvS(s:St):List Ws:=[.live (Qb s.E 0),.keep (s.B.map (·.1))]
def aBx:Nat->Nat->List Nat
 |0,_=> []
 |f+1,n=>if Nat.ble n 1 then []else(n % 2)::aBx f (n/2)
abbrev pth(n:Nat):List Nat:=aBx 64 n
theorem g0(h:Gl [] [] [] G o):G o:=h trivial
theorem gW(n:Nat)(w:W)(c:Gl ((n,w)::ws) lw Q G o):Gl ws lw Q G o:=c
theorem gQ{q:Prop}(h:q)(c:Gl ws lw (q::Q) G o):Gl ws lw Q G o:=fun k=>c (Vr h k)
theorem gG(n:Nat)(w:W){q:Prop}(h:q)(c:Gl ((n,w)::ws) lw (q::Q) G o):Gl ws lw Q G o:=gQ h c
theorem gN(n:Nat)(f:γ->D)(xs:List γ)(c:Gl ((n,.int (xs.length:Int))::ws) lw ((((xs.map f).length:Int)=(xs.length:Int))::Q) G o):Gl ws lw Q G o:=gQ (Jr f xs) c
theorem gC(n:Nat){P:Program}{f:FuncId}{args:List A}{r:A}(h:AO P f args [] r [])(c:Gl ((n,.ret r)::ws) lw (AO P f args [] r []::Q) G o):Gl ws lw Q G o:=gQ h c
theorem gL(wk:List Ws){P:Program}{rd:Option Nat}{root:Code}{p:List Nat}{s:St}{e:Ex}{s':St}(h:Dc P rd root p s e s')(c:Gl ws (⟨p,wk,e,s'⟩::lw) (Dc P rd root p s e s'::Q) G o):Gl ws lw Q G o:=gQ h c
theorem gl{P:Program}{rd:Option Nat}{root:Code}{p:List Nat}{s:St}{e:Ex}{s':St}(h:Dc P rd root p s e s')(c:Gl ws (⟨p,lvS s,e,s'⟩::lw) (Dc P rd root p s e s'::Q) G o):Gl ws lw Q G o:=gQ h c
theorem iB(n:Nat){b:Bool}{x y:Option δ}{r:δ}(h:AN b x y=some r)(A1:x=some r->Gl ((n,.bit true)::ws) lw ((b=true)::Q) G o)(A2:y=some r->Gl ((n,.bit false)::ws) lw ((b=false)::Q) G o):Gl ws lw Q G o:=by
 rcases iS h with⟨h1,h2⟩|⟨h1,h2⟩
 exact gQ h1 (A1 h2);exact gQ h1 (A2 h2)
theorem xX(n:Nat)(f:γ->D){xs:List γ}{i:Int}{k:γ->Option δ}{r:δ}(h:AT xs i k=some r)(c:∀x,k x=some r->Gl ((n,.el (f x))::ws) lw ((0<=i/\(xs.map f)[i.toNat]? =some (f x))::Q) G o):Gl ws lw Q G o:=by obtain⟨x,h1,h2⟩:=xS h;exact gQ (TS f h1) (c x h2)
end
abbrev lv(a b:List Nat):List Ws:=[.live a,.keep b]
section
variable {β:Type} {ws:List (Nat×W)} {lw:List Lw} {Q:List Prop} {o v:β} {P:Program} {rd:Option Nat} {root:Code} {q:List Nat} {s:St} {f:FuncId} {args:List A}
theorem lB_(hm:P.follows .mixedOrders=true)(h:some v=some o)(l:List Ws){E:β->Ex}{S:β->St}
 (he:(cj Q True/\(E v=E v/\S v=S v))=L4 P rd root ws lw q l s (E v) (S v)):Gl ws lw Q (fun o=>Arr P rd root q s (E o) (S o)) o:=by
 cases si h
 exact fun k=>Et hm ws lw l k he
theorem lP_(hm:P.follows .mixedOrders=true)(h:some v=some o)(l:List Ws){E:β->Ex}{S:β->St}
 (he:(cj Q True/\(E v=E v/\S v=S v))=L4 P rd root ws lw q l s (E v) (S v)):Gl ws lw Q (fun o=>Dc P rd root q s (E o) (S o)) o:=by
 cases si h
 exact fun k=>(Et hm ws lw l k he).lp
theorem lF_(hm:P.follows .mixedOrders=true)(h:some v=some o)(l:List Ws){R:β->A}
 (he:(cj Q True/\(R v=R v/\true=true))=Qt P f ws lw l args (R v)):Gl ws lw Q (fun o=>AO P f args [] (R o) []) o:=by
 cases si h
 exact fun k=>QS hm ws lw l k he
theorem lI_(hm:P.follows .mixedOrders=true){F0:Bx}(hF:Far F0){r:A}{F:β->Bx}(hc:∀f,∀p∈F f,∀m,p.2.has m=true->m∈AI (F f))(h:some v=some o)(l:List Ws)
 (he:(cj Q True/\(r=r/\F v=F v/\true=true))=T6 P f ws lw l args F0 r (F v)):Gl ws lw Q (fun o=>Hm P f args F0 r (F o)) o:=by
 cases si h
 exact fun k=>QT hm ws lw l hF (hc _) k he
def XG(P:Program)(f:FuncId)(args:List A)(X:Bx)(ks:List Nat)(us:List Value)(r:A)(X':Bx):Prop:=∃ws lw wk,T7 P f ws lw wk args X ks us r X'
theorem XG.call{X:Bx}{ks:List Nat}{r:A}{X':Bx}(hm:P.follows .mixedOrders=true)(h:∀us,XG P f args X ks us r X'):AO P f args X r X':=by refine T7.call (ws:=fun us=>(h us).choose) (lw:=fun us=>(h us).choose_spec.choose) (wk:=fun us=>(h us).choose_spec.choose_spec.choose) hm fun us=>(h us).choose_spec.choose_spec.choose_spec
theorem lX_{X:Bx}{ks:List Nat}{us:List Value}(h:some v=some o)(l:List Ws){R:β->A}{X':β->Bx}
 (he:(cj Q True/\(R v=R v/\X' v++[(vx,.vals (FZ args ks) us)]=X' v++[(vx,.vals (FZ args ks) us)]/\true=true))=T7 P f ws lw l args X ks us (R v) (X' v)):Gl ws lw Q (fun o=>XG P f args X ks us (R o) (X' o)) o:=by
 cases si h
 exact fun k=>⟨ws,lw,l,he.mp ⟨k,rfl,rfl,rfl⟩⟩
end
section
variable {σ τ:Type} {P:Program} {rd:Option Nat} {root:Code} {p:List Nat} {step:σ->Option (σ⊕τ)}
theorem lL(I:σ->St)(O:τ->Ex×St)(s:σ)(hr:∀s o,step s=some o->Gl [] [] [] (fun o=>Arr P rd root (0::p) (I s) (rR I O o).1 (rR I O o).2) o)
 {t:τ} (h:Ab step s=some t) (hl:Pp (Ap root p)=true:=by kernel_rfl) (hO:∀t,isN (O t).1=false:=by intro t;first|rfl|(rcases t with _|_<;>rfl)|(rcases t with _|_|_<;>rfl)|(rcases t with _|_|_|_<;>rfl)|(rcases t with _|_|_|_|_<;>rfl)):Dc P rd root p (I s) (O t).1 (O t).2:=
 Pw I O hl (fun t=>Pq (hO t)) (fun s o h=>hr s o h trivial) h
end
end Go.Ac
namespace Go.Ac
open Go.Proofs Go.Shelf Go.RowKit Go.Lib Go.Sort

structure YL(P:Program)(t e:TypeId)(i:TypeInfo)(z:Value):Prop where
 ht:P.underlying t=some (.slice e)
 hi:P.info? e=some i
 hz:i.zero=some z
 hzs:z.cells.size=i.size
 h1:∀v∈z.cells,v.oneCell'=true

end Go.Ac
namespace Go.Ac
open Go.Proofs Go.Shelf Go.RowKit Go.Lib Go.Sort

theorem WF{P:Program}{t e:TypeId}{k by_:Nat}(ht:P.underlying t=some (.slice e))
 (hq:(P.info? e).map (fun i=>(i.size,i.bytes,i.zero.map (·.cells.size),i.zero.map (fun z=>z.cells.all (·.oneCell'))))=some (k,by_,some k,some true)):
 ∃i z,YL P t e i z/\i.size=k/\i.bytes=by_:=by
 simp only[om,pe]at hq
 obtain⟨i,hi,h1,h2,⟨z,hz,hzs⟩,⟨z',hz',hza⟩⟩:=hq
 rw[hz]at hz'
 cases hz'
 refine⟨i,z,⟨ht,hi,hz,hzs.trans h1.symm,fun v hv=>?_⟩,h1,h2⟩
 rw[Array.all_eq_true']at hza
 exact hza v hv
end Go.Ac
namespace Go.Ac
open Go.Proofs Go.Shelf Go.RowKit Go.Lib
theorem Il{P:Program}{t:TypeId}{n:Nat}(h:(P.info? t).map (·.size)=some n)(w:World):(Go.sizeOf t).run P w=.ok n w:=by simp only[om]at h;obtain⟨i,hi,rfl⟩:=h;simp[sizeOf,typeInfo,hi]
theorem Qm{P:Program}{t:TypeId}{z:Value}(h:(P.info? t).map (·.zero)=some (some z))(w:World):(zeroValue t).run P w=.ok z w:=by simp only[om]at h;obtain⟨i,hi,hz⟩:=h;simp[zeroValue,typeInfo,hi,hz]
section
variable {P:Program} {ρ:Ren}
set_option maxHeartbeats 2000000 in
set_option maxRecDepth 100000 in
theorem Ld(L:SlLaysE0.n41 P ρ){i0:TypeInfo}{z:Value}(T:YL P (ρ.t 22) (ρ.t 23) i0 z)(hsz:0<i0.size)(ad:Addr)(n c:Nat)(news:List Value)(w:World)(hl:news.length=n*i0.size)(hn:n<=maxLen)(hbig:n*i0.bytes<=140737488355328)
 (hc:∀j u,news[j]? =some u->w.cell? (ad.add j)=some u) (h1:∀u∈news,u.oneCell'=true):
 Calls P (ρ.f 41) #[.slice (some ad) n c] w fun e w'=>∃v',e=.returned v'/\w'.ownsRow w.heap.size (ρ.t 23) i0.size v' n news/\Below w.heap.size w w':=by
 have z23:∀w,(Go.sizeOf (ρ.t 23)).run P w=.ok i0.size w:=fun w=>by simp[sizeOf,typeInfo,T.hi]
 have mixed:=L.mixed;have t4:=L.t4;have a4:=L.a4;have z4:=L.z4;have v4:=L.v4;have t22:=L.t22;have a22:=L.a22;have z22:=L.z22;have v22:=L.v22
 have q22:∀(w:World) (a:Option Addr) (n c n' c':Nat),(binOp .eql (ρ.t 22) (.slice a n c) (.slice none n' c')).run P w=.ok (.bool a.isNone) w:=fun w a n c n' c'=>Lib.run_eql_slice_nil w _ _ a n c n' c' L.t22
 have u22:∀w,Sem.run P (underlying (ρ.t 22)) w=.ok (TypeDesc.slice (ρ.t 23)) w:=run_underlying t22
 have A:Aside (∀j u,news[j]? =some u->w.cell? (ad.add j)=some u):=hc
 have hi:=T.hi;have hz0:=T.hz;have hzs:=T.hzs
 clear hc T
 obtain⟨b,off,sp⟩:=ad
 obtain⟨_,_,FG⟩:=L.f41
 go_enter FG,SlBodyN.n41_ntmps ρ
 go_wp2_with (at_builtin;refine wpList_append_own _ rfl _ _ (ρ.t 22) rfl w.heap.size (ρ.t 23) i0 z i0.size i0.bytes t22 hi hz0 rfl rfl hzs hsz _ _ _ rfl (World.ownsRow_made w #[] 0 (Nat.le_refl _) (Nat.zero_le _) (by simp)) ⟨b,off,sp⟩ n c news rfl ?qc1 ?qc2 ?qc3 ?qc4 ?qc5 ?qc6 ?_)
 case qc1=>exact hl
 case qc2=>
  intro j u hj
  exact Lib.cell?_alloc_some _ (A.out j u hj)
 case qc3=>exact h1
 case qc4=>rw[Nat.zero_add];exact hn
 case qc5=>rw[Nat.zero_add];exact hbig
 case qc6=>simp
 intro v' w1 hown hgrow hnil
 go_wp2
 go_ret
 refine⟨v',rfl,by simpa using hown,?_⟩
 exact((Below.refl _ w).alloc (Nat.le_refl _) _).grown hgrow (by simp) (by intro k hk;simp[Value.ownBlock]at hk;omega)

theorem Jf(L:SlLaysE0.n41 P ρ){i0:TypeInfo}{z:Value}(T:YL P (ρ.t 22) (ρ.t 23) i0 z)(hsz:0<i0.size){h:Hw}{w:World}{xs:List D}{u:Value}
 (hx:RD h w (.sl xs) u) (hk:∀x∈xs,x.nc=i0.size) (hbig:xs.length*i0.bytes<=140737488355328):
 Calls P (ρ.f 41) #[u] w fun e w'=>∃v' us,e=.returned v'/\w'.ownsRow 0 (ρ.t 23) i0.size v' xs.length us/\Ai h w i0.size xs us/\(∀g,v'.ownBlock=some g->w.heap.size<=g)/\w.grownBy w' none:=by
 obtain⟨ad,cap,k',vs,rfl,hl,hm,hyrow,hc⟩:=by simpa only[RD]using hx
 have hvs:vs.length=xs.length*i0.size/\Ai h w i0.size xs vs:=by
  cases xs with
  |nil=>
   have:vs=[]:=by simpa[Ai]using hyrow
   subst this;exact⟨by simp,by simp[Ai]⟩
  |cons y ys=>
   have e1:=hk y (by simp)
   have e2:=hyrow.mk y (by simp)
   have:k'=i0.size:=by omega
   subst this
   exact⟨hyrow.length,hyrow⟩
 cases ad with
 |none=>
  have h0:xs=[]:=by
   cases xs with
   |nil=>rfl
   |cons y ys=>obtain⟨x,hx,_⟩:=hc (by simp);cases hx
  subst h0
  refine(AnyE.slices_Clone_nil L _ _ w).mono ?_
  rintro e w' ⟨rfl,rfl⟩
  exact⟨_,[],rfl,World.ownsRow_nil _ _ _ _,by simp[Ai],by simp[Value.ownBlock],⟨rfl,rfl,rfl,Nat.le_refl _,fun _ _ _=>rfl⟩⟩
 |some a=>
  have hcell:∀j x,vs[j]? =some x->w.cell? (a.add j)=some x:=by
   intro j x hj;rcases Nat.eq_zero_or_pos xs.length with h0|h0
   have:vs=[]:=List.eq_nil_of_length_eq_zero (by rw[hvs.1,h0,Nat.zero_mul]);subst this;simp at hj;obtain⟨a',ha,hcell⟩:=hc h0;cases ha;exact(hcell j x hj).1
  refine(Ld L T hsz a xs.length cap vs w hvs.1 (Nat.le_trans hl hm) hbig hcell hvs.2.one).mono ?_
  rintro e w' ⟨v',rfl,hown,hB⟩
  refine⟨v',vs,rfl,⟨hown.1,?_⟩,hvs.2,fun g hg=>(hown.lt g hg).1,⟨hB.os,hB.tape,hB.output,hB.size,fun b hb _=>hB.block b hb⟩⟩
  rcases hown.2 with h0|⟨g,cap,cur,e1,_,e3⟩
  exact .inl h0
  exact .inr ⟨g,cap,cur,e1,Nat.zero_le _,e3⟩

theorem UZ(L:SlLaysE0.n41 P ρ){i0:TypeInfo}{z:Value}(T:YL P (ρ.t 22) (ρ.t 23) i0 z)(hsz:0<i0.size)(xs:List D)(hk:∀x∈xs,x.nc=i0.size)(hbig:xs.length*i0.bytes<=140737488355328):
 AO P (ρ.f 41) [.d (.sl xs)] [] (.d (.sl xs)) []:=by
 intro h w val vs hI hA
 simp only[RAs,RA]at hA
 obtain⟨u,_,rfl,hu,rfl⟩:=hA
 refine(Jf L T hsz hu hk hbig).mono ?_
 rintro e w' ⟨v',us,rfl,hown,hrow,hnew,hgrow⟩
 let h':Hw:=fun b=>if v'.ownBlock=some b then xs.length*i0.size else h b
 have hkeep:BQ (AX val []) h w h' w':=by
  refine⟨hgrow.os,hgrow.tape,hgrow.output,hgrow.size,fun b j x hj hcx=>?_,fun b hb=>?_,fun b hb hn=>?_⟩;rw[World.cell?_of_block (w:=w) (a:=⟨b,j,none⟩) (hgrow.block b (EK hcx) (by simp))];exact hcx;show h b<=if v'.ownBlock=some b then _ else h b
  split;rename_i hvb;have:=hnew b hvb;omega;exact Nat.le_refl _;refine⟨hgrow.block b hb (by simp),?_⟩;show(if v'.ownBlock=some b then _ else h b)=h b
  rw[if_neg fun hvb=>by have:=hnew b hvb;omega]
 have hrb:RB h' w' (Av val 0 v') 0 (.row (ρ.t 23) i0.size xs):=by
  refine⟨us,by simpa[Av]using hown,Ai.stays hkeep.stays _ _ _ hrow,fun g hg=>?_⟩;simp only[Av]at hg;show(if v'.ownBlock=some g then _ else h g)=_
  rw[if_pos (by simpa using hg)]
 have hd:=RB.data hrb
 simp only[Av,if_true]at hd
 exact⟨h',val,v',rfl,⟨by simp,by simp[AI],by simp[AX]⟩,by simpa only[RA]using hd,hkeep,fun _ _=>rfl,by simp[AX]⟩
end
def FN{α:Type}(by_:Nat)(l:List α):Option (List α):=if fit 0 l.length by_ then some l else none
theorem UF{P:Program}{ρ:Ren}(mixed:P.follows .mixedOrders=true)(FB:Bears P (ρ.f 41) (SlBodyN.n41 ρ))(t4:P.underlying (ρ.t 4)=some .bool)(ht:P.underlying (ρ.t 22)=some (.slice (ρ.t 23)))
 (z4:(P.info? (ρ.t 4)).map (·.size)=some 1) (v4:(P.info? (ρ.t 4)).map (·.zero)=some (some (.bool false))) (z22:(P.info? (ρ.t 22)).map (·.size)=some 1) (v22:(P.info? (ρ.t 22)).map (·.zero)=some (some (.slice none 0 0))):SlLaysE0.n41 P ρ:=
 ⟨mixed,FB,t4,fun w=>Bt (by simp[GQ,t4]) w,Il z4,Qm v4,ht,fun w=>Bt (by simp[GQ,ht]) w,Il z22,Qm v22⟩
theorem Kg{P:Program}{ρ:Ren}{k by_ fi:Nat}{α:Type}(f:α->D) [CP f k](hfi:ρ.f 41=fi)(L:SlLaysE0.n41 P ρ)
 (hq:(P.info? (ρ.t 23)).map (fun i=>(i.size,i.bytes,i.zero.map (·.cells.size),i.zero.map (fun z=>z.cells.all (·.oneCell'))))=some (k,by_,some k,some true)) (hk0:0<k)
 (l r:List α) (h:FN by_ l=some r):AO P fi [.d (D.l f l)] [] (.d (D.l f r)) []:=by
 obtain⟨i,z,T,rfl,rfl⟩:=WF L.t22 hq
 unfold FN at h
 split at h
 rename_i hc
 obtain rfl:=Option.some.inj h
 subst hfi
 exact UZ L T hk0 (l.map f) (by simp only[mm];rintro x ⟨y,_,rfl⟩;exact CP.h y) (by unfold fit at hc;simpa using hc)
 cases h
end Go.Ac
namespace Go.Ac
open Go.MapKept
structure MP(K V:Type) where
 clk:Nat
 es:List (Nat×K×V)
section
variable {K V:Type}
def MP.dl(fk:K->D)(fv:V->D)(m:MP K V):List (Nat×D×D):=m.es.map fun x=>(x.1,fk x.2.1,fv x.2.2)
def F7:MP K V:=⟨0,[]⟩
structure L8(P:Program)(kt:TypeId)(fk:K->D):Prop where
 ok:∀a,KOk P kt (fk a)
 inj:∀a b,fk a=fk b->a=b
variable {P:Program} {kt:TypeId} {fk:K->D} {fv:V->D}
abbrev dl(fk:K->D)(fv:V->D)(l:List (Nat×K×V)):List (Nat×D×D):=l.map fun x=>(x.1,fk x.2.1,fv x.2.2)
theorem TP(T:L8 P kt fk)(l:List (Nat×K×V)):∀x∈dl fk fv l,KOk P kt x.2.1:=fun x hx=>by obtain⟨y,_,rfl⟩:=mm.1 hx;exact T.ok _
def WL(st:Int)(v:V):List (Nat×K×V)->List (Nat×K×V)
 |[]=> []
 |x::xs=>if(x.1:Int)=st then(x.1,x.2.1,v)::xs else x::WL st v xs
def Hc(m:MP K V)(st:Int)(v:V):MP K V:=⟨m.clk,WL st v m.es⟩
def QB(m:MP K V)(st:Int):Bool:=m.es.any fun x=>decide ((x.1:Int)=st)
def Tf(m:MP K V):MP K V:=⟨m.clk,[]⟩
theorem Qd(st:Int)(v:V):∀l:List (Nat×K×V),(l.any fun x=>decide ((x.1:Int)=st))=true->YV (dl fk fv l) st (fv v) (dl fk fv (WL st v l))
 |[],h=>by simp at h
 |x::xs,h=>by
  rw[WL];split;rename_i e;exact⟨[],x.1,fk x.2.1,fv x.2.2,dl fk fv xs,e.symm,rfl,by simp,rfl⟩;rename_i e;have h':(xs.any fun x=>decide ((x.1:Int)=st))=true:=by simpa[e]using h
  obtain⟨pre,s,kd,v0,post,h1,h2,h3,h4⟩:=Qd st v xs h';refine⟨(x.1,fk x.2.1,fv x.2.2)::pre,s,kd,v0,post,h1,by rw[List.cons_append,<-h2];rfl,fun y hy=>?_,by rw[List.cons_append,<-h4];rfl⟩;rcases mc.1 hy with rfl|hy
  exact fun e2=>e (by rw[h1];simp only at e2;omega);exact h3 y hy
theorem QE(fk:K->D)(fv:V->D)(m:MP K V)(st:Int)(v:V)(h:QB m st=true):YV (MP.dl fk fv m) st (fv v) (MP.dl fk fv (Hc m st v)):=Qd st v m.es h
theorem QC(fk:K->D)(fv:V->D)(m:MP K V)(h:(m.es.length:Int)<=4611686018427387904):aBs (MP.dl fk fv m) (m.es.length:Int):=⟨by simp[MP.dl],h⟩
variable [DecidableEq K]
def Ph(z:V)(k:K):List (Nat×K×V)->V×Bool
 |[]=>(z,false)
 |x::xs=>if x.2.1=k then(x.2.2,true)else Ph z k xs
def Hf(clk:Nat)(k:K)(v:V):List (Nat×K×V)->Nat×List (Nat×K×V)
 |[]=>(clk+1,[(clk,k,v)])
 |x::xs=>if x.2.1=k then(clk,(x.1,x.2.1,v)::xs)else((Hf clk k v xs).1,x::(Hf clk k v xs).2)
def GN(clk:Nat)(z:V)(k:K):List (Nat×K×V)->(Nat×List (Nat×K×V))×V×Nat
 |[]=>((clk+1,[(clk,k,z)]),z,clk)
 |x::xs=>if x.2.1=k then((clk,x::xs),x.2.2,x.1)else(((GN clk z k xs).1.1,x::(GN clk z k xs).1.2),(GN clk z k xs).2)
def Qo(k:K):List (Nat×K×V)->List (Nat×K×V)
 |[]=> []
 |x::xs=>if x.2.1=k then xs else x::Qo k xs
def BT(z:V)(m:MP K V)(k:K):V×Bool:=Ph z k m.es
def Dv(m:MP K V)(k:K)(v:V):MP K V:=⟨(Hf m.clk k v m.es).1,(Hf m.clk k v m.es).2⟩
def CV(z:V)(m:MP K V)(k:K):MP K V:=⟨(GN m.clk z k m.es).1.1,(GN m.clk z k m.es).1.2⟩
def aA7(z:V)(m:MP K V)(k:K):V:=(GN m.clk z k m.es).2.1
def Fx(z:V)(m:MP K V)(k:K):Nat:=(GN m.clk z k m.es).2.2
def EU(m:MP K V)(k:K):MP K V:=⟨m.clk,Qo k m.es⟩
theorem Pi(T:L8 P kt fk)(z:V)(k:K):∀l:List (Nat×K×V),((Ph z k l).2=true/\∃(pre:List (Nat×D×D)) (s:Nat) (post:List (Nat×D×D)),dl fk fv l=pre++(s,fk k,fv (Ph z k l).1)::post/\∀x∈pre,x.2.1≠fk k)\/((Ph z k l).2=false/\fv (Ph z k l).1=fv z/\∀x∈dl fk fv l,x.2.1≠fk k)
 |[]=>.inr ⟨rfl,rfl,by simp⟩
 |x::xs=>by
  rw[Ph];split;rename_i h;exact .inl ⟨rfl,[],x.1,dl fk fv xs,by rw[<-h];rfl,by simp⟩;rename_i h;have hne:fk x.2.1≠fk k:=fun e=>h (T.inj _ _ e);rcases Pi T z k xs with⟨h1,pre,s,post,h2,h3⟩|⟨h1,h2,h3⟩
  refine .inl ⟨h1,(x.1,fk x.2.1,fv x.2.2)::pre,s,post,by rw[List.cons_append,<-h2];rfl,fun y hy=>?_⟩;rcases mc.1 hy with rfl|hy
  exact hne;exact h3 y hy;refine .inr ⟨h1,h2,fun y hy=>?_⟩;rcases mc.1 hy with rfl|hy
  exact hne;exact h3 y hy
theorem Fi(T:L8 P kt fk)(fv:V->D)(z:V)(m:MP K V)(k:K):aBr P kt (fv z) (MP.dl fk fv m) (fk k) (fv (BT z m k).1) (BT z m k).2:=⟨TP T m.es,T.ok k,Pi T z k m.es⟩
theorem QN(T:L8 P kt fk)(clk:Nat)(k:K)(v:V):∀l:List (Nat×K×V),((Hf clk k v l).1=clk/\∃(pre:List (Nat×D×D)) (s:Nat) (v0:D) (post:List (Nat×D×D)),dl fk fv l=pre++(s,fk k,v0)::post/\(∀x∈pre,x.2.1≠fk k)/\dl fk fv (Hf clk k v l).2=pre++(s,fk k,fv v)::post)\/((Hf clk k v l).1=clk+1/\dl fk fv (Hf clk k v l).2=dl fk fv l++[(clk,fk k,fv v)]/\∀x∈dl fk fv l,x.2.1≠fk k)
 |[]=>.inr ⟨rfl,rfl,by simp⟩
 |x::xs=>by
  rw[Hf];split;rename_i h;exact .inl ⟨rfl,[],x.1,fv x.2.2,dl fk fv xs,by rw[<-h];rfl,by simp,by rw[<-h];rfl⟩;rename_i h;have hne:fk x.2.1≠fk k:=fun e=>h (T.inj _ _ e);rcases QN T clk k v xs with⟨h1,pre,s,v0,post,h2,h3,h4⟩|⟨h1,h2,h3⟩
  refine .inl ⟨h1,(x.1,fk x.2.1,fv x.2.2)::pre,s,v0,post,by rw[List.cons_append,<-h2];rfl,fun y hy=>?_,by rw[List.cons_append,<-h4];rfl⟩;rcases mc.1 hy with rfl|hy
  exact hne;exact h3 y hy;refine .inr ⟨h1,?_,fun y hy=>?_⟩;show(x.1,fk x.2.1,fv x.2.2)::dl fk fv (Hf clk k v xs).2=_;rw[h2];rfl;rcases mc.1 hy with rfl|hy
  exact hne;exact h3 y hy
theorem WB(T:L8 P kt fk)(fv:V->D)(m:MP K V)(k:K)(v:V):Wg P kt (MP.dl fk fv m) (fk k) (fv v) m.clk (MP.dl fk fv (Dv m k v)) (Dv m k v).clk:=⟨TP T m.es,T.ok k,QN T m.clk k v m.es⟩
theorem Pe(T:L8 P kt fk)(clk:Nat)(z:V)(k:K):∀l:List (Nat×K×V),((GN clk z k l).1.1=clk/\dl fk fv (GN clk z k l).1.2=dl fk fv l/\∃(pre post:List (Nat×D×D)),dl fk fv l=pre++((GN clk z k l).2.2,fk k,fv (GN clk z k l).2.1)::post/\∀x∈pre,x.2.1≠fk k)\/((GN clk z k l).1.1=clk+1/\(GN clk z k l).2.2=clk/\fv (GN clk z k l).2.1=fv z/\dl fk fv (GN clk z k l).1.2=dl fk fv l++[(clk,fk k,fv z)]/\∀x∈dl fk fv l,x.2.1≠fk k)
 |[]=>.inr ⟨rfl,rfl,rfl,rfl,by simp⟩
 |x::xs=>by
  rw[GN];split;rename_i h;exact .inl ⟨rfl,rfl,[],dl fk fv xs,by rw[<-h];rfl,by simp⟩;rename_i h;have hne:fk x.2.1≠fk k:=fun e=>h (T.inj _ _ e);rcases Pe T clk z k xs with⟨h1,h0,pre,post,h2,h3⟩|⟨h1,h2,h3,h4,h5⟩
  refine .inl ⟨h1,?_,(x.1,fk x.2.1,fv x.2.2)::pre,post,by rw[List.cons_append,<-h2];rfl,fun y hy=>?_⟩;show(x.1,fk x.2.1,fv x.2.2)::dl fk fv (GN clk z k xs).1.2=_;rw[h0];rfl;rcases mc.1 hy with rfl|hy
  exact hne;exact h3 y hy;refine .inr ⟨h1,h2,h3,?_,fun y hy=>?_⟩;show(x.1,fk x.2.1,fv x.2.2)::dl fk fv (GN clk z k xs).1.2=_;rw[h4];rfl;rcases mc.1 hy with rfl|hy
  exact hne;exact h5 y hy
theorem QA(T:L8 P kt fk)(fv:V->D)(z:V)(m:MP K V)(k:K)(h:Fx z m k<=4611686018427387904):aBq P kt (fv z) (MP.dl fk fv m) (fk k) m.clk (MP.dl fk fv (CV z m k)) (CV z m k).clk (fv (aA7 z m k)) (Fx z m k):=⟨TP T m.es,T.ok k,h,Pe T m.clk z k m.es⟩
theorem Pb(T:L8 P kt fk)(k:K):∀l:List (Nat×K×V),(∃(pre:List (Nat×D×D)) (s:Nat) (v0:D) (post:List (Nat×D×D)),dl fk fv l=pre++(s,fk k,v0)::post/\(∀x∈pre,x.2.1≠fk k)/\dl fk fv (Qo k l)=pre++post)\/(dl fk fv (Qo k l)=dl fk fv l/\∀x∈dl fk fv l,x.2.1≠fk k)
 |[]=>.inr ⟨rfl,by simp⟩
 |x::xs=>by
  rw[Qo];split;rename_i h;exact .inl ⟨[],x.1,fv x.2.2,dl fk fv xs,by rw[<-h];rfl,by simp,rfl⟩;rename_i h;have hne:fk x.2.1≠fk k:=fun e=>h (T.inj _ _ e);rcases Pb T k xs with⟨pre,s,v0,post,h2,h3,h4⟩|⟨h2,h3⟩
  refine .inl ⟨(x.1,fk x.2.1,fv x.2.2)::pre,s,v0,post,by rw[List.cons_append,<-h2];rfl,fun y hy=>?_,by rw[List.cons_append,<-h4];rfl⟩;rcases mc.1 hy with rfl|hy
  exact hne;exact h3 y hy;refine .inr ⟨?_,fun y hy=>?_⟩;show(x.1,fk x.2.1,fv x.2.2)::dl fk fv (Qo k xs)=_;rw[h2];rfl;rcases mc.1 hy with rfl|hy
  exact hne;exact h3 y hy
theorem P8(T:L8 P kt fk)(fv:V->D)(m:MP K V)(k:K):YU P kt (MP.dl fk fv m) (fk k) (MP.dl fk fv (EU m k)):=⟨TP T m.es,T.ok k,Pb T k m.es⟩
end
theorem WZ{P:Program}{kt:TypeId}{k:IntKind}(hu:P.underlying kt=some (.int k)):L8 P kt (D.i k):=⟨fun a=>⟨.int k a,rfl,.inl ⟨.int k,hu,rfl⟩⟩,fun a b e=>by simpa[D.i]using e⟩
theorem YN{P:Program}{kt:TypeId}(hu:P.underlying kt=some .string):L8 P kt D.s:=⟨fun a=>⟨.string ⟨⟨a⟩⟩,rfl,.inl ⟨.string,hu,trivial⟩⟩,fun a b e=>by simpa[D.s]using e⟩
end Go.Ac
namespace Go.Ac
theorem Wk.bagw{s:St}{n:Nat}{e:TypeId}{k:Nat}{xs ys:List D}(hl:lk s.B n=some (.rw e k xs))(hp:xs.Perm ys):Wk s {s with B:=BA s.B n (.bag e k ys)}:=
 Wk.redesc hl rfl fun _ _ _ _ _ hr=>by obtain⟨us,a,b,c⟩:=hr;exact⟨xs,us,hp,a,b,c⟩
def ACN(P:Program)(rd:Option Nat)(ops:Array Oper)(rest:Code)(s:St)(Ψ:Ex->St->Prop):Prop:=
 ∀h w val a,AQ s h w val a->∀Q:Exit->Act->World->Prop,
  (∀e s' h' w' val' a',Ψ e s'->AQ s' h' w' val' a'->Nx s h w val s' h' w' val'->Q e.toExit a' w')->wpOpsIn (fc rd) 0 P ops (Exit.then (rest.wpIn (fc rd) 0 P Q) Q) (List.range' 1 (ops.size-1)) a w
theorem ACN.run{P:Program}{rd:Option Nat}{ops:Array Oper}{rest:Code}{s s1:St}{ws:List (Nat×W)}{Φ:Ob}{L:Lp}{Ψ:Ex->St->Prop}(h1:TK P ops ws (ops.toList.drop 1) s=some (Φ,s1))(hΦ:Φ.ok P L)(h2:AC P rd rest s1 Ψ):ACN P rd ops rest s Ψ:=by
 intro h w val a H Q hQ;have hlen:(ops.toList.drop 1).length=ops.size-1:=by simp
 rw[<-hlen];refine HQ (ops.toList.drop 1) 1 s s1 Φ (fun j=>by simp[List.getElem?_drop,Nat.add_comm]) h1 hΦ h w val a H fun h' w' val' a' H' n'=>?_;exact h2 h' w' val' a' H' Q fun e s2 h2 w2 v2 a2 hΨ H2 n2=>hQ e s2 h2 w2 v2 a2 hΨ H2 (n'.trans n2)
theorem ACN.post{P:Program}{rd:Option Nat}{ops:Array Oper}{rest:Code}{s:St}{Ψ Ψ':Ex->St->Prop}(h:ACN P rd ops rest s Ψ)(hp:∀e s1,Ψ e s1->Ψ' e s1):ACN P rd ops rest s Ψ':=
 fun h' w val a H Q hQ=>h h' w val a H Q fun e s1 h1 w1 v1 a1 hΨ H1 n1=>hQ e s1 h1 w1 v1 a1 (hp e s1 hΨ) H1 n1
theorem AC.next{P:Program}{rd:Option Nat}{id:Nat}{ops:Array Oper}{rest:Code}{s:St}{Ψ:Ex->St->Prop}{o:Oper}{it:Operand}{t d n clk:Nat}{es:List (Nat×D×D)}{seen:List Nat}
 (ho:ops[0]? =some o) (hop:o.op=.next it false) (hg:o.guard=none) (hd:o.dst=some t) (hit:s.ev it=.box d 0) (h1:lk s.B d=some (.mit n clk seen)) (h2:lk s.B n=some (.map clk es))
 (hA:(es.map (·.1)).Nodup->∀e∈es,e.1∉seen->ACN P rd ops rest ({s with B:=BA s.B d (.mit n clk (seen++[e.1]))}.put (some t) (.tup [bo true,.d e.2.1,.d e.2.2])) Ψ)
 (hB:(es.map (·.1)).Nodup->(∀e∈es,e.1∈seen)->ACN P rd ops rest (s.put (some t) (.tup [bo false])) Ψ):AC P rd (.seq (.region id ops false) rest) s Ψ:=by
 intro h w val a H Q hQ
 refine wpIn_seq (wpIn_region ?_)
 have hsz:0<ops.size:=(Array.getElem?_eq_some_iff.1 ho).1
 rw[List.range_eq_range',show ops.size=ops.size-1+1 by omega,List.range'_succ,wpOpsIn_cons]
 obtain⟨r,b,e1,e2,e3⟩:=H.inv.rep _ (ml _ (Ae h1))
 obtain⟨b',l,g1,g2,g3,g4,g5,g6,g7⟩:=H.inv.rep _ (ml _ (Ae h2))
 simp only at e1 e2 g1
 have hb:b=b':=by rw[e2]at g1;cases g1;rfl
 subst hb
 have hi:=H.ev it
 rw[hit]at hi
 simp only[RA]at hi
 obtain⟨r',i1,i2⟩:=hi
 have hr':r'=r:=by rw[e1]at i1;cases i1;rfl
 subst hr'
 unfold wpOpIn
 rw[ho]
 have hw:Region.wanted o (yielded ops a.tmps)=true:=by unfold Region.wanted;rw[hg]
 simp only[hw,if_true]
 have hnd:Cp o.op=true:=by rw[hop];rfl
 refine Bl hnd ?_
 have hborn:=REs.born g3
 rcases run_next_at (P:=P) w o.type r' b clk clk ⟨seen⟩ ⟨l⟩ clk e3 g2 (fun x hx=>by obtain⟨y,hy,q,_⟩:=REs.mem g3 x hx;rw[q];exact g4 y hy) (Nat.le_refl _)with⟨h0,hrun⟩|⟨e,he,w1,hw1,hrun⟩
 refine AM (u:=.tuple #[.bool false]) (w':=w) (by simp[execOp,hop,i2,hrun]) ?_
 have hall:∀e∈es,e.1∈seen:=fun x hx=>by
  obtain⟨e,he,q,_⟩:=REs.mem' g3 x hx;have hz:(leftOf ⟨l⟩ ⟨seen⟩).toList=[]:=by have:(leftOf ⟨l⟩ ⟨seen⟩)= #[]:=Array.eq_empty_of_size_eq_zero h0;rw[this]
  cases hc:decide (x.1∈seen)with
  |true=>exact of_decide_eq_true hc
  |false=>
   exfalso
   have:e∈(leftOf ⟨l⟩ ⟨seen⟩).toList:=by unfold leftOf;simp only[Array.toList_filter,List.mem_filter];refine⟨he,?_⟩;have hns:x.1∉seen:=of_decide_eq_false hc;simp[q,hns]
   rw[hz]at this;simp at this
 have hR:RA h w val (.tup [bo false]) (.tuple #[.bool false]):=by simp only[RA,RAs,bo];exact⟨[.bool false],rfl,.bool false,[],rfl,by simp[RD,Value.oneCell'],rfl⟩
 have H':=H.put o.dst hR
 rw[hd]at H'
 have:=hB g5 hall h w val _ H' Q fun e2 s2 h2 w2 v2 a2 hΨ H2 n2=>hQ e2 s2 h2 w2 v2 a2 hΨ H2 (((Nx.refl s h w val rfl).put (some t) _).trans n2)
 rw[hd];exact this
 have hel:e∈l/\e.born∉seen:=by unfold leftOf at he;simp only[Array.toList_filter,List.mem_filter]at he;refine⟨he.1,?_⟩;simpa using he.2
 obtain⟨x,hx,q1,q2,q3⟩:=REs.mem g3 e hel.1
 have hkM:∀M,BQ M h w h w1:=fun M=>by
  rcases hw1 with rfl|rfl
  exact BQ.refl _ _ _;exact BQ.drew M h w
 have hk1:BQ [] h w h w1:=hkM []
 have hh1:w1.heap=w.heap:=by rcases hw1 with rfl|rfl<;>rfl
 have H1:=H.quiet hk1
 have hvb:Ba (val d)=some r':=by rw[e1];rfl
 obtain⟨f1,f2⟩:=Vp H1 h1 rfl (bk':=.mit n clk (seen++[x.1])) (o0:=.mapIter (some b) clk ⟨seen⟩ clk) (o':=.mapIter (some b) clk ⟨seen++[x.1]⟩ clk) rfl hvb (by rw[hh1];exact e3) (by simp)
  ⟨r',b,e1,e2,IJ (by rw[hh1];exact e3)⟩
 refine AM (u:=.tuple #[.bool true,e.key,e.val]) (w':={w1 with heap:=w1.heap.setIfInBounds r' (.mapIter (some b) clk ⟨seen++[x.1]⟩ clk)}) ?_ ?_
 simp only[execOp,hop,i2,Sem.run_bind,hrun,Result.andThen_ok,Sem.run_pure]
 have:(⟨seen⟩:Array Nat).push e.born=⟨seen++[x.1]⟩:=by rw[QF,q1]
 rw[this];rfl
 have hst:=f2.keep.stays
 have hR:RA h {w1 with heap:=w1.heap.setIfInBounds r' (.mapIter (some b) clk ⟨seen++[x.1]⟩ clk)} val (.tup [bo true,.d x.2.1,.d x.2.2]) (.tuple #[.bool true,e.key,e.val]):=by simp only[RA,RAs,bo];exact⟨[.bool true,e.key,e.val],rfl,.bool true,[e.key,e.val],rfl,by simp[RD,Value.oneCell'],e.key,[e.val],rfl,RD.stays hst _ _ (RD.stays hk1.stays _ _ q2),e.val,[],rfl,RD.stays hst _ _ (RD.stays hk1.stays _ _ q3),rfl⟩
 have H':=f1.put o.dst hR
 rw[hd]at H'
 have hn1:Nx s h w val {s with B:=BA s.B d (.mit n clk (seen++[x.1]))} h {w1 with heap:=w1.heap.setIfInBounds r' (.mapIter (some b) clk ⟨seen++[x.1]⟩ clk)} val:=
  Nx.trans (s1:=s) ⟨hkM _,fun _ _=>rfl,fun b hb=>.inl hb⟩ f2
 have:=hA g5 x hx (by rw[<-q1];exact hel.2) h _ val _ H' Q fun e2 s2 h2 w2 v2 a2 hΨ H2 n2=>hQ e2 s2 h2 w2 v2 a2 hΨ H2 ((hn1.put (some t) _).trans n2)
 rw[hd];exact this
end Go.Ac
namespace Go.Ac
section
variable {α σ τ:Type}
def DU(step:α->σ->Option σ):σ->List α->Option σ
 |s,[]=>some s
 |s,x::l=>AJ (step x s) fun s'=>DU step s' l
theorem CC(step:α->σ->Option σ):∀(l m:List α) (s:σ),DU step s (l++m)=AJ (DU step s l) fun s'=>DU step s' m
 |[],m,s=>rfl
 |x::l,m,s=>by
  simp only[List.cons_append,DU];cases step x s with
  |none=>rfl
  |some s'=>exact CC step l m s'
open Classical in
noncomputable def FT(c:σ->τ)(xs:List α)(step:α->σ->Option σ)(s:σ):Option τ:=
 if h:∃r,∀p:List α,p.Perm xs->∃s',DU step s p=some s'/\c s'=r then some (Classical.choose h)else none
theorem Jj{c:σ->τ}{xs:List α}{step:α->σ->Option σ}{s:σ}{r:τ}(h:FT c xs step s=some r):∀p:List α,p.Perm xs->∃s',DU step s p=some s'/\c s'=r:=by unfold FT at h;split at h;rename_i hh;have:=Classical.choose_spec hh;simp only[oe]at h;rw[h]at this;exact this;cases h
theorem IC{c:σ->τ}{xs:List α}{step:α->σ->Option σ}{s:σ}{r:τ}(h:∀p:List α,p.Perm xs->∃s',DU step s p=some s'/\c s'=r):FT c xs step s=some r:=by have hh:∃r,∀p:List α,p.Perm xs->∃s',DU step s p=some s'/\c s'=r:=⟨r,h⟩;unfold FT;rw[dif_pos hh];obtain⟨s1,h1,h2⟩:=Classical.choose_spec hh xs (List.Perm.refl _);obtain⟨s2,h3,h4⟩:=h xs (List.Perm.refl _);rw[h1,oe]at h3;rw[<-h2,<-h4,h3]
open Classical in
noncomputable def bagE(f:List α->Option τ)(xs:List α):Option τ:=
 if h:∃r,∀p:List α,p.Perm xs->f p=some r then some (Classical.choose h)else none
theorem PR{f:List α->Option τ}{xs:List α}{r:τ}(h:bagE f xs=some r):∀p:List α,p.Perm xs->f p=some r:=by unfold bagE at h;split at h;rename_i hh;have:=Classical.choose_spec hh;simp only[oe]at h;rw[h]at this;exact this;cases h
theorem PQ{f:List α->Option τ}{xs:List α}{r:τ}(h:∀p:List α,p.Perm xs->f p=some r):bagE f xs=some r:=by have hh:∃r,∀p:List α,p.Perm xs->f p=some r:=⟨r,h⟩;unfold bagE;rw[dif_pos hh,<-Classical.choose_spec hh xs (List.Perm.refl _),h xs (List.Perm.refl _)]
end
theorem Ef{α β:Type}(f:α->β):∀{l:List β} {S:List α},l.Perm (S.map f)->∃T:List α,T.Perm S/\l=T.map f:=by
 intro l S h;generalize hm:S.map f=m at h;induction h generalizing S with
 |nil=>
  cases S with
  |nil=>exact⟨[],List.Perm.refl _,rfl⟩
  |cons a S=>cases hm
 | @cons x l1 l2 h ih=>
  cases S with
  |nil=>cases hm
  |cons a S=>
   rw[List.map_cons,List.cons.injEq]at hm
   obtain⟨T,h1,h2⟩:=ih hm.2
   exact⟨a::T,h1.cons a,by rw[List.map_cons,hm.1,h2]⟩
 |swap x y l=>
  cases S with
  |nil=>cases hm
  |cons a S=>
   cases S with
   |nil=>cases hm
   |cons b S=>
    simp only[List.map_cons,List.cons.injEq]at hm
    exact⟨b::a::S,List.Perm.swap a b S,by rw[List.map_cons,List.map_cons,hm.1,hm.2.1,hm.2.2]⟩
 |trans h1 h2 ih1 ih2=>
  obtain⟨T2,p2,e2⟩:=ih2 hm
  obtain⟨T1,p1,e1⟩:=ih1 e2.symm
  exact⟨T1,p1.trans p2,e1⟩
section
variable {K V:Type}
abbrev ms(fk:K->D)(fv:V->D)(S:List (K×V)):List (D×D):=S.map fun x=>(fk x.1,fv x.2)
end
def Lk:Code->Array Oper
 | .loop (.seq (.region _ ops _) _)=>ops
 |_=> #[]
def WT(P:Program)(rd:Option Nat)(root:Code)(ws:List (Nat×W))(lw:List Lw)(q:List Nat)(l:List Ws)(s:St)(e:Ex)(s':St):Prop:=
 match TK P (Lk (Ap root q)) ws ((Lk (Ap root q)).toList.drop 1) s with
 |some (Φ0,s0)=>match Bq P ws lw (1::0::q) (Ap root (1::0::q)) s0 with
  |some (Φ,e1,s1)=>match wks l s1 with
   |some s2=>Φ0.okK P (Dc P rd root) (Φ.okK P (Dc P rd root) True)/\(e1=e/\s2=s')
   |none=>False
  |none=>False
 |none=>False
theorem WT.acn{P:Program}{rd:Option Nat}{root:Code}{ws:List (Nat×W)}{lw:List Lw}{q:List Nat}{l:List Ws}{s s':St}{e:Ex}(hm:P.follows .mixedOrders=true)
 (h:WT P rd root ws lw q l s e s'):ACN P rd (Lk (Ap root q)) (Ap root (1::0::q)) s fun e1 s1=>e1=e/\Wk s1 s':=by
 unfold WT at h
 split at h
 rename_i Φ0 s0 h0
 split at h
 rename_i Φ e1 s1 h1
 split at h
 rename_i s2 h2
 obtain⟨hΦ,rfl,rfl⟩:=h
 have hΦ0:=(Ob.okK_iff _ _).1 hΦ
 have hΦ1:=((Ob.okK_iff _ _).1 hΦ0.2).1
 exact ACN.run h0 hΦ0.1 ((Ep hm _ _ _ _ _ _ rfl h1 hΦ1).mono fun e1 s1' hh=>⟨hh.1,by rw[hh.2];exact Ge h2⟩)
 exact h.elim
 exact h.elim
 exact h.elim
attribute [irreducible] WT
def L3(P:Program)(rd:Option Nat)(root:Code)(q:List Nat)(s:St)(Ψ:Ex->St->Prop):Prop:=ACN P rd (Lk (Ap root q)) (Ap root (1::0::q)) s Ψ
theorem L3.wk{P:Program}{rd:Option Nat}{root:Code}{q:List Nat}{s s1 s2:St}{e:Ex}(h:L3 P rd root q s fun e1 s'=>e1=e/\Wk s' s1)(hw:Wk s1 s2):L3 P rd root q s fun e1 s'=>e1=e/\Wk s' s2:=
 ACN.post h fun _ _ hh=>⟨hh.1,hh.2.trans hw⟩
def aA6(x t:Nat):Code->Bool
 | .loop (.seq (.region _ ops false) _)=>match ops[0]? with
  |some o=>match o.op,o.guard,o.dst with
   | .next (.tmp y) false,none,some d=>Nat.beq y x&&Nat.beq d t
   |_,_,_=>false
  |none=>false
 |_=>false
theorem P0{root:Code}{p:List Nat}{x t:Nat}(h:aA6 x t (Ap root p)=true):∃(i:Nat) (o:Oper),Ap root p=.loop (.seq (.region i (Lk (Ap root p)) false) (Ap root (1::0::p)))/\
 (Lk (Ap root p))[0]? =some o/\o.op=.next (.tmp x) false/\o.guard=none/\o.dst=some t:=by
 have hcd:Ap root (1::0::p)=Ap (Ap root p) [1,0]:=rfl
 rw[hcd]
 generalize Ap root p=c at h⊢
 unfold aA6 at h
 split at h
 rename_i i ops rest
 split at h
 rename_i o ho
 split at h
 rename_i y d h1 h2 h3
 simp only[ba]at h
 have e1:=Nat.eq_of_beq_eq_true h.1
 have e2:=Nat.eq_of_beq_eq_true h.2
 subst e1;subst e2
 exact⟨i,o,rfl,ho,h1,h2,h3⟩
 cases h
 cases h
 cases h
theorem Eu{P:Program}{rd:Option Nat}{root:Code}(hm:P.follows .mixedOrders=true)(ws:List (Nat×W))(lw:List Lw){q:List Nat}(l:List Ws){s s':St}{e:Ex}{p:Prop}(h:p)
 (he:(p/\(e=e/\s'=s'))=WT P rd root ws lw q l s e s'):L3 P rd root q s fun e1 s1=>e1=e/\Wk s1 s':=WT.acn (ws:=ws) (lw:=lw) (l:=l) hm (he.mp ⟨h,rfl,rfl⟩)
theorem P9{K V:Type}{fk:K->D}{fv:V->D}{clk:Nat}{es:List (Nat×K×V)}{sn:List Nat}{st:Nat}{k:K}{v:V}(h:(st,k,v)∈es):aBp clk clk (dl fk fv es) (sn++[st]) (fk k) (fv v):=
 ⟨rfl,sn,st,rfl,mm.2 ⟨_,h,rfl⟩⟩
theorem P7{P:Program}{rd:Option Nat}{root:Code}{p:List Nat}{K V σ τ:Type}{fk:K->D}{fv:V->D}(x t d n clk:Nat)(es:List (Nat×K×V)){S:List (K×V)}
 {c:σ->τ} {step:K×V->σ->Option σ} {s0:σ} {r:τ} (J:List Nat->σ->St) (O:τ->Ex×St) (hk:aA6 x t (Ap root p)=true)
 (hO:(O r).1≠ .normal)
 (hit:∀sn a,(J sn a).ev (.tmp x)=.box d 0) (h1:∀sn a,lk (J sn a).B d=some (.mit n clk sn)) (h2:∀sn a,lk (J sn a).B n=some (.map clk (dl fk fv es)))
 (hp:(es.map (·.2)).Perm S)
 (hA:∀sn a k v st a',(st,k,v)∈es->step (k,v) a=some a'->L3 P rd root p ({J sn a with B:=BA (J sn a).B d (.mit n clk (sn++[st]))}.put (some t) (.tup [bo true,.d (fk k),.d (fv v)])) fun e s1=>e=.normal/\Wk s1 (J (sn++[st]) a'))
 (hB:∀sn a,c a=r->L3 P rd root p ((J sn a).put (some t) (.tup [bo false])) fun e s1=>e=(O r).1/\Wk s1 (O r).2)
 (h:FT c S step s0=some r):Dc P rd root p (J [] s0) (O r).1 (O r).2:=by
 have hx:=Jj h
 obtain⟨i0,o,hc,ho,hop,hg,hd⟩:=P0 hk
 suffices hs:AC P rd (Ap root p) (J [] s0) fun e1 s1=>e1=(O r).1/\Wk s1 (O r).2 from
  AC.post hs fun _ _ hh=>⟨(O r).2,hh.2,hh.1,rfl⟩
 rw[hc]
 let ι:={x:List (Nat×K×V)×σ//(∃rest,(x.1++rest).Perm es)/\DU step s0 (x.1.map (·.2))=some x.2}
 refine AC.loop (ι:=ι) (fun i=>J (i.1.1.map (·.1)) i.1.2) (fun i=>es.length-i.1.1.length) (fun _ e1 s1=>e1=(O r).1/\Wk s1 (O r).2) ?_ ⟨([],s0),⟨es,List.Perm.refl _⟩,rfl⟩
 rintro⟨⟨done,a⟩,⟨rest,hr⟩,hf⟩
 simp only at hf
 have hb:dl fk fv es=es.map fun x=>(x.1,fk x.2.1,fv x.2.2):=rfl
 have hb1:(dl fk fv es).map (·.1)=es.map (·.1):=by simp[dl,Function.comp_def]
 refine AC.next ho hop hg hd (hit _ _) (h1 _ _) (h2 _ _) ?_ ?_
 intro hn e he hns
 obtain⟨⟨st,k,v⟩,hm,rfl⟩:=mm.1 he
 simp only at hns⊢
 have hm':(st,k,v)∈rest:=by
  rcases ma.1 (hr.mem_iff.2 hm)with h|h
  exact absurd (mm.2 ⟨_,h,rfl⟩) hns;exact h
 obtain⟨r1,r2,rfl⟩:=List.append_of_mem hm'
 have hr2:((done++[(st,k,v)])++(r1++r2)).Perm es:=by refine List.Perm.trans ?_ hr;rw[List.append_assoc];exact List.Perm.append_left done (show((st,k,v)::(r1++r2)).Perm (r1++(st,k,v)::r2)from List.perm_middle.symm)
 obtain⟨a2,ha2,_⟩:=hx _ ((hr2.map (·.2)).trans hp)
 rw[List.map_append,CC,List.map_append,CC,hf]at ha2
 simp only[AJ,List.map_cons,List.map_nil,DU]at ha2
 cases hs:step (k,v) a with
 |none=>rw[hs]at ha2;cases ha2
 |some a'=>
  refine ACN.post (hA _ a k v st a' hm hs) ?_
  rintro e1 s1 ⟨rfl,hw⟩
  refine⟨⟨(done++[(st,k,v)],a'),⟨_,hr2⟩,?_⟩,?_,?_,fun _ _ x=>x⟩
  simp only[List.map_append,CC,hf,AJ,List.map_cons,List.map_nil,DU,hs]
  have:=hr2.length_eq
  simp only[List.length_append,List.length_cons,List.length_nil]at this⊢
  omega
  simpa only[List.map_append,List.map_cons,List.map_nil]using hw
 intro hn hall
 have hrest:rest=[]:=by
  cases rest with
  |nil=>rfl
  |cons x rest=>
   exfalso
   have hxm:x∈es:=hr.mem_iff.1 (by simp)
   have hseen:x.1∈done.map (·.1):=hall (x.1,fk x.2.1,fv x.2.2) (mm.2 ⟨x,hxm,rfl⟩)
   rw[hb1]at hn
   have hn2:=(hr.map (·.1)).nodup_iff.2 hn
   rw[List.map_append,List.nodup_append]at hn2
   exact hn2.2.2 _ hseen _ (by simp) rfl
 subst hrest
 rw[List.append_nil]at hr
 obtain⟨a2,ha2,hc2⟩:=hx _ ((hr.map (·.2)).trans hp)
 rw[hf,oe]at ha2
 subst ha2
 refine ACN.post (hB _ a hc2) ?_
 rintro e1 s1 ⟨h1,hw⟩
 subst h1
 cases he:(O r).1 with
 |normal=>exact absurd he hO
 |exit id=>exact⟨rfl,hw⟩
 |ret=>exact⟨rfl,hw⟩
end Go.Ac
namespace Go.Ac
open Go.MapKept
section
variable {α:Type}
def IM(le:α->α->Bool)(x:α):List α->List α
 |[]=> [x]
 |y::l=>match le x y with
  |true=>x::y::l
  |false=>y::IM le x l
def K6(le:α->α->Bool):List α->List α
 |[]=> []
 |x::l=>IM le x (K6 le l)
theorem ER(le:α->α->Bool)(x:α):∀l,(IM le x l).Perm (x::l)
 |[]=>List.Perm.refl _
 |y::l=>by
  rw[IM];split;exact List.Perm.refl _;exact((ER le x l).cons y).trans (List.Perm.swap x y l)
theorem Fs(le:α->α->Bool):∀l,(K6 le l).Perm l
 |[]=>List.Perm.refl _
 |x::l=>(ER le x _).trans ((Fs le l).cons x)
noncomputable def Wc{α:Type}(l:List α):List α:=Classical.epsilon fun m:List α=>m.Perm l
theorem Ij{α:Type}(l:List α):(Wc l).Perm l:=Classical.epsilon_spec (p:=fun m:List α=>m.Perm l) ⟨l,List.Perm.refl l⟩
theorem WE{α:Type}{l m:List α}(h:l.Perm m):Wc l=Wc m:=by unfold Wc;congr 1;funext x;exact propext ⟨fun g=>g.trans h,fun g=>g.trans h.symm⟩
def YR(xs:List Int):List Int:=K6 (fun a b=>decide (a<=b)) xs
theorem Ct(xs:List Int):(YR xs).Perm xs:=Fs _ xs
theorem Wk.canB{α:Type}{s s':St}(n:Nat){e k:Nat}{fd:α->D}{xs ys:List α}(hp:xs.Perm ys)(hl:lk s.B n=some (.rw e k (xs.map fd)))(hs:{s with B:=BA s.B n (.bag e k (ys.map fd))}=s'):Wk s s':=
 hs▸Wk.bagw hl (hp.map _)
end
theorem AO.bag{α:Type}{P:Program}{f:FuncId}{args:List A}{e k:Nat}{fd:α->D}{xs:List α}{r:A}{X':Bx}(h:∀ys:List α,ys.Perm xs->AO P f args [(0,.rw e k (ys.map fd))] r X'):AO P f args [(0,.bag e k (xs.map fd))] r X':=by intro hh w val vs H hr;obtain⟨ys,us,hp,h1,h2,h3⟩:=H.rep _ (List.mem_singleton.2 rfl);obtain⟨zs,hz,rfl⟩:=Ef _ hp;refine h zs hz hh w val vs ⟨fun p hp=>?_,H.nms,H.bks⟩ hr;rw[List.mem_singleton.1 hp];exact⟨us,h1,h2,h3⟩
theorem AO.bagE{α τ:Type}{P:Program}{f:FuncId}{args:List A}{e k:Nat}{fd:α->D}{xs:List α}{F:List α->Option τ}{R:τ->A}{X':τ->Bx}(hF:∀(ys:List α) (r:τ),F ys=some r->AO P f args [(0,.rw e k (ys.map fd))] (R r) (X' r))(r:τ)(h:Ac.bagE F xs=some r):AO P f args [(0,.bag e k (xs.map fd))] (R r) (X' r):=
 AO.bag fun ys hp=>hF ys r (PR h ys hp)
end Go.Ac
namespace Go.Ac
section
variable {α β σ τ:Type}
def Tr(body:Nat->β->α->β⊕τ)(fin:β->τ):Nat->List α->β->τ
 |_,[],w=>fin w
 |i,x::xs,w=>match body i w x with
  | .inl w'=>Tr body fin (i+1) xs w'
  | .inr t=>t
theorem IT{step:σ->Option (σ⊕τ)}(l:List α)(mk:Nat->β->σ)(body:Nat->β->α->β⊕τ)(fin:β->τ)(I:Nat->β->Prop)
 (h1:∀i x w,l[i]? =some x->I i w->step (mk i w)=some (match body i w x with| .inl w'=>.inl (mk (i+1) w')| .inr t=>.inr t)/\∀w',body i w x=.inl w'->I (i+1) w')
 (h2:∀w,I l.length w->step (mk l.length w)=some (.inr (fin w))):∀(n i:Nat) (w:β),l.length-i<n->i<=l.length->I i w->Ab step (mk i w)=some (Tr body fin i (l.drop i) w):=by
 intro n
 induction n with
 |zero=>intro i w h;omega
 |succ n ih=>
  intro i w hn hi hI
  rw[Ak]
  by_cases he:i=l.length
  subst he
  rw[h2 w hI,Aa,List.drop_length]
  rfl
  obtain⟨x,hx,hd⟩:=Cf (l:=l) (i:=i) (by omega)
  obtain⟨a1,a2⟩:=h1 i x w hx hI
  rw[a1,hd,Tr]
  cases hb:body i w x with
  |inl w'=>simp only[Ax];exact ih (i+1) w' (by omega) (by omega) (a2 w' hb)
  |inr t=>simp only[Aa]
theorem Tc{step:Int->Option (Int⊕τ)}(l:List α)(p:α->Bool)(t f:τ)
 (h1:∀(i:Nat) x,l[i]? =some x->step i=some (if p x=true then .inl ((i+1:Nat):Int)else .inr f)) (h2:step l.length=some (.inr t)) (i:Nat) (hi:i<=l.length):
 Ab step i=some (if(l.drop i).all p=true then t else f):=by
 rw[IT l (fun i (_:Unit)=>(i:Int)) (fun _ _ x=>if p x=true then .inl ()else .inr f) (fun _=>t) (fun _ _=>True) (fun i x w hx _=>⟨by rw[h1 i x hx];cases p x<;>rfl,fun _ _=>trivial⟩) (fun _ _=>h2) (l.length-i+1) i () (by omega) hi trivial]
 congr 1
 generalize l.drop i=l'
 clear h1 h2 hi
 revert i
 induction l' with
 |nil=>intro i;rfl
 |cons x xs ih=>
  intro i
  rw[Tr,List.all_cons]
  cases hp:p x with
  |true=>simp only[if_true,Bool.true_and];exact ih (i+1)
  |false=>simp
theorem Fe{step:Int->Option (Int⊕τ)}(l:List α)(p:α->Bool)(t f:τ)
 (h1:∀(i:Nat) x,l[i]? =some x->step i=some (if p x=true then .inl ((i+1:Nat):Int)else .inr f)) (h2:step l.length=some (.inr t)):
 Ab step 0=some (if l.all p=true then t else f):=by
 have h:=Tc l p t f h1 h2 0 (by omega)
 rw[List.drop_zero]at h
 exact h
def Ei(g:Nat->α->Option τ):Nat->Unit->α->Unit⊕τ:=fun i _ x=>match g i x with
 |none=>.inl ()
 |some t=>.inr t
theorem Dq{step:Int->Option (Int⊕τ)}(l:List α)(g:Nat->α->Option τ)(t:τ)
 (h1:∀(i:Nat) x,l[i]? =some x->step i=some (match g i x with|none=>.inl ((i+1:Nat):Int)|some t=>.inr t)) (h2:step l.length=some (.inr t)):
 Ab step 0=some (Tr (Ei g) (fun _=>t) 0 l ()):=
 IT l (fun i (_:Unit)=>(i:Int)) (Ei g) (fun _=>t) (fun _ _=>True)
  (fun i x w hx _=>⟨by rw[h1 i x hx];unfold Ei;cases g i x<;>rfl,fun _ _=>trivial⟩) (fun _ _=>h2) (l.length+1) 0 () (by omega) (by omega) trivial
theorem By(g:α->Option τ)(t:τ):∀(l:List α) (i:Nat),Tr (Ei fun _=>g) (fun _=>t) i l ()=(l.findSome? g).getD t
 |[],i=>rfl
 |x::xs,i=>by
  rw[Tr,List.findSome?_cons];cases hg:g x with
  |none=>
   have e:Ei (fun _=>g) i () x=.inl ():=by simp[Ei,hg]
   rw[e];exact By g t xs (i+1)
  |some y=>
   have e:Ei (fun _=>g) i () x=.inr y:=by simp[Ei,hg]
   rw[e];rfl
theorem Gb(p:α->Bool):∀(l:List α) (i:Nat),Tr (Ei fun i x=>if p x=true then some (Sum.inr (i:Int):Unit⊕Int)else none) (fun _=>.inl ()) i l ()=if l.any p=true then .inr ((i+l.findIdx p:Nat):Int)else .inl ()
 |[],i=>rfl
 |x::xs,i=>by
  have ih:=Gb p xs (i+1);rw[Tr,List.any_cons,List.findIdx_cons];cases hp:p x with
  |true=>simp[Ei,hp]
  |false=>
   have e:Ei (fun i x=>if p x=true then some (Sum.inr (i:Int):Unit⊕Int)else none) i () x=.inl ():=by simp[Ei,hp]
   rw[e]
   simp only[Bool.false_or,cond_false]
   rw[ih,Nat.add_assoc,Nat.add_comm 1]
theorem GV{step:Int->Option (Int⊕(Unit⊕Int))}(l:List α)(p:α->Bool)
 (h1:∀(i:Nat) x,l[i]? =some x->step i=some (if p x=true then .inr (.inr (i:Int))else .inl ((i+1:Nat):Int))) (h2:step l.length=some (.inr (.inl ()))):
 Ab step 0=some (if l.any p=true then .inr ((l.findIdx p:Nat):Int)else .inl ()):=by
 rw[Dq l (fun i x=>if p x=true then some (Sum.inr (i:Int):Unit⊕Int)else none) (.inl ()) (fun i x hx=>by rw[h1 i x hx];cases p x<;>rfl) h2,Gb,Nat.zero_add]
theorem Fw{a:List α}{b:List β}{i:Nat}{z:α×β}(h:(a.zip b)[i]? =some z):a[i]? =some z.1/\b[i]? =some z.2:=by rw[List.getElem?_zip_eq_some]at h;exact h
theorem Gf [DecidableEq α]:∀{a b:List α},a.length=b.length->(a.zip b).all (fun z=>decide (z.1=z.2))=decide (a=b)
 |[],[],_=>by simp
 |x::a,y::b,h=>by
  rw[List.zip_cons_cons,List.all_cons,Gf (a:=a) (b:=b) (by simpa using h)];by_cases hx:x=y<;>by_cases hy:a=b<;>simp[hx,hy]
 |[],_::_,h=>by simp at h
 |_::_,[],h=>by simp at h
theorem Jq(a b:Nat):decide ((a:Int)=(b:Int))=decide (a=b):=by
 by_cases h:a=b;simp[h];have:¬(a:Int)=(b:Int):=by omega
 simp[h,this]
theorem Px [DecidableEq α]{step:Int->Option (Int⊕τ)}(a b:List α)(t f:τ)(hl:a.length=b.length)
 (h1:∀(i:Nat) x y,a[i]? =some x->b[i]? =some y->step i=some (if decide (x=y)=true then .inl ((i+1:Nat):Int)else .inr f)) (h2:step a.length=some (.inr t)):
 Ab step 0=some (if decide (a=b)=true then t else f):=by
 have hz:(a.zip b).length=a.length:=by simp[hl]
 have h:=Fe (step:=step) (a.zip b) (fun z=>decide (z.1=z.2)) t f (fun i z hz=>h1 i z.1 z.2 (Fw hz).1 (Fw hz).2) (by rw[hz];exact h2)
 rw[Gf hl]at h
 exact h
end
theorem Py{τ:Type}{step:Int->Option (Int⊕τ)}(n i0:Nat)(P:Nat->Prop)(Q:τ->Prop)(hi:i0<=n)
 (h1:∀i:Nat,i0<=i->i<n->(step i=some (.inl ((i+1:Nat):Int))/\P i)\/∃t,step i=some (.inr t)/\Q t)
 (h2:(∀j,i0<=j->j<n->P j)->∃t,step n=some (.inr t)/\Q t):∃t,Ab step i0=some t/\Q t:=by
 refine Ks (fun s=>∃i:Nat,s=(i:Int)/\i0<=i/\i<=n/\∀j,i0<=j->j<i->P j) (fun s=>(n-s).toNat) Q ?_ (i0:Int) ⟨i0,rfl,Nat.le_refl _,hi,fun j a b=>by omega⟩
 rintro s ⟨i,rfl,a,b,c⟩
 by_cases he:i=n
 subst he
 exact .inl (h2 c)
 rcases h1 i a (by omega)with⟨d,e⟩|d
 refine .inr ⟨_,d,⟨i+1,rfl,by omega,by omega,fun j f g=>?_⟩,by omega⟩
 rcases Nat.lt_or_ge j i with h|h
 exact c j f h
 have:j=i:=by omega
 subst this;exact e
 exact .inl d
theorem GW{τ:Type}{step:Int->Option (Int⊕τ)}(n:Nat)(P:Nat->Prop)(Q:τ->Prop)
 (h1:∀i:Nat,i<n->(step i=some (.inl ((i+1:Nat):Int))/\P i)\/∃t,step i=some (.inr t)/\Q t)
 (h2:(∀j,j<n->P j)->∃t,step n=some (.inr t)/\Q t):∃t,Ab step 0=some t/\Q t:=
 Py (step:=step) n 0 P Q (Nat.zero_le _) (fun i _ hi=>h1 i hi) (fun h=>h2 fun j hj=>h j (Nat.zero_le _) hj)
theorem Da{α:Type}{n:Nat}{l:List α}{x:α}(h:l[n]? =some x)(hl:l.length<=9223372036854775807):AA .add .i64 (n:Int) 1=((n+1:Nat):Int):=by have:=(List.getElem?_eq_some_iff.1 h).1;exact Qf (by omega)
theorem ltD{α:Type}{n:Nat}{l:List α}{x:α}(h:l[n]? =some x):decide ((n:Int)<(l.length:Int))=true:=by have:=(List.getElem?_eq_some_iff.1 h).1;simp;omega
theorem ltI(n:Nat):decide ((n:Int)<(n:Int))=false:=by simp
theorem WY{β:Type}(p:Prop) [Decidable p](a b:Option β):AN (decide p) a b=if p then a else b:=by by_cases h:p<;>simp[h,AN]
end Go.Ac
namespace Go.Ac
end Go.Ac
namespace Go.Ac
open Go.ChangeShapes Go.WideShapes Go.ChangeAt Go.RowKit

def hOf(w:World):Hw:=fun b=>match w.heap[b]? with
 |some (.cells cs _ _)=>cs.size
 |_=>0
theorem XF{w:World}{a:Addr}{v:Value}(h:w.cell? a=some v):a.off<hOf w a.block:=by
 have hs:=H6 h;obtain⟨b,o,sp⟩:=a;simp only at hs;subst hs;unfold World.cell? at h;unfold hOf;simp only at h⊢;cases hb:w.heap[b]? with
 |none=>simp[hb]at h
 |some ob=>
  cases ob with
  |cells cs t fr=>
   simp[hb]at h
   exact(Array.getElem?_eq_some_iff.1 h).1
  |_=>simp[hb]at h
def CH{α:Type}(P:Program)(t:TypeId)(f:α->D)(R:α->Prop):Prop:=
 ∀{H:Type} (enc:TypeId×Value->H) (w:World) (sp:Nat->Bool) (held:Bool) (fuel:Nat) (cs:List Value) (x:DataW H×List MemPlace),DataW.trod enc P w 0 sp held fuel t cs=some x->
  ∃v:α,RDs (hOf w) w (f v).cells cs/\R v
theorem B5{P:Program}{t:TypeId}{k:IntKind}(ht:P.underlying t=some (.int k)):CH P t (D.i k) (fun n=>(Lit.int k n).wf=true):=by
 intro H enc w sp held fuel cs x h;cases fuel with
 |zero=>simp[DataW.trod]at h
 |succ fuel=>
  unfold DataW.trod at h
  rw[ht]at h
  match cs,h with
  |[.int k' n],h=>
   simp only at h
   split at h
   rename_i hc
   obtain⟨rfl,hw⟩:=hc
   exact⟨n,by simp only[D.i,D.cells,RDs,RD];exact⟨_,[],rfl,⟨rfl,rfl⟩,rfl,rfl⟩,hw⟩
   cases h
theorem Lt{P:Program}{t:TypeId}(ht:P.underlying t=some .bool):CH P t D.b (fun _=>True):=by
 intro H enc w sp held fuel cs x h;cases fuel with
 |zero=>simp[DataW.trod]at h
 |succ fuel=>
  unfold DataW.trod at h
  rw[ht]at h
  match cs,h with
  |[.bool b],h=>exact⟨b,by simp only[D.b,D.cells,RDs,RD];exact⟨_,[],rfl,⟨rfl,rfl⟩,rfl,rfl⟩,trivial⟩
theorem Ie{P:Program}{t:TypeId}(ht:P.underlying t=some .string):CH P t D.s (fun l=>l.length<=9223372036854775807):=by
 intro H enc w sp held fuel cs x h;cases fuel with
 |zero=>simp[DataW.trod]at h
 |succ fuel=>
  unfold DataW.trod at h
  rw[ht]at h
  match cs,h with
  |[.string s],h=>
   simp only at h
   split at h
   rename_i hc
   exact⟨s.data.toList,by simp only[D.s,D.cells,RDs,RD];exact⟨_,[],rfl,⟨rfl,rfl⟩,rfl,rfl⟩,by simpa[maxLen]using hc⟩
   cases h
theorem Bb{h:Hw}{w:World}{A B:List D}{cs:List Value}{o k:Nat}(h1:RDs h w A ((cs.drop o).take k))(h2:RDs h w B (cs.drop (o+k))):RDs h w (A++B) (cs.drop o):=by have:=RDs.append h1 h2;rwa [<-List.drop_drop,List.take_append_drop]at this
theorem Fu{H:Type}{enc:TypeId×Value->H}{P:Program}{w:World}{sp:Nat->Bool}{held:Bool}{fuel:Nat}{cs:List Value}:∀{l:List Field} {xs:List (DataW H×List MemPlace)},
 l.mapM (fun f=>DataW.trod enc P w 0 sp held fuel f.type ((cs.drop f.offset).take (P.cellsOf f.type)))=some xs->∀f∈l,∃x,DataW.trod enc P w 0 sp held fuel f.type ((cs.drop f.offset).take (P.cellsOf f.type))=some x
 |[],xs,_,f,hf=>by cases hf
 |g::l,xs,h,f,hf=>by
  simp only[List.mapM_cons]at h;cases h1:DataW.trod enc P w 0 sp held fuel g.type ((cs.drop g.offset).take (P.cellsOf g.type))with
  |none=>simp[h1]at h
  |some y=>
   rcases mc.1 hf with rfl|hf
   exact⟨y,h1⟩
   cases h2:l.mapM (fun f=>DataW.trod enc P w 0 sp held fuel f.type ((cs.drop f.offset).take (P.cellsOf f.type)))with
   |none=>simp[h1,h2]at h
   |some ys=>exact Fu h2 f hf
theorem Cs{P:Program}{t:TypeId}{fs:Array Field}{n:Nat}{α:Type}{f:α->D}{R:α->Prop}(ht:P.underlying t=some (.struct fs))(hn:P.cellsOf t=n)
 (key:∀{H:Type} (enc:TypeId×Value->H) (w:World) (sp:Nat->Bool) (held:Bool) (fuel:Nat) (cs:List Value),cs.length=n->
  (∀g∈fs.toList,∃x,DataW.trod enc P w 0 sp held fuel g.type ((cs.drop g.offset).take (P.cellsOf g.type))=some x)->∃v:α,RDs (hOf w) w (f v).cells cs/\R v):CH P t f R:=by
 intro H enc w sp held fuel cs x h
 cases fuel with
 |zero=>simp[DataW.trod]at h
 |succ fuel=>
  unfold DataW.trod at h
  rw[ht]at h
  simp only at h
  split at h
  rename_i hc
  simp only[om]at h
  obtain⟨xs,hx,_⟩:=h
  exact key enc w sp held fuel cs (by rw[hc,hn]) (Fu hx)
  cases h

theorem Lc{w:World}{a:Addr}{n:Nat}{cs:List Value}(h:w.cells? 0 a n=some cs):cs.length=n/\∀j v,cs[j]? =some v->w.cell? (a.add j)=some v:=by
 unfold World.cells? at h;simp only[Nat.zero_le,if_true]at h;have key:∀(l:List Nat) (cs:List Value),l.mapM (fun i=>w.cell? (a.add i))=some cs->cs.length=l.length/\∀(j i:Nat) (v:Value),l[j]? =some i->cs[j]? =some v->w.cell? (a.add i)=some v:=by
  intro l;induction l with
  |nil=>intro cs h;simp at h;subst h;simp
  |cons x l ih=>
   intro cs h
   simp only[List.mapM_cons]at h
   cases h1:w.cell? (a.add x)with
   |none=>simp[h1]at h
   |some y=>
    cases h2:l.mapM (fun i=>w.cell? (a.add i))with
    |none=>simp[h1,h2]at h
    |some ys=>
     simp[h1,h2]at h
     subst h
     obtain⟨g1,g2⟩:=ih ys h2
     refine⟨by simp[g1],fun j i v hj hv=>?_⟩
     cases j with
     |zero=>simp at hj hv;subst hj;subst hv;exact h1
     |succ j=>exact g2 j i v (by simpa using hj) (by simpa using hv)
 obtain⟨h1,h2⟩:=key _ _ h;rw[List.length_range]at h1;refine⟨h1,fun j v hj=>h2 j j v ?_ hj⟩;have:j<n:=by rw[<-h1];exact(List.getElem?_eq_some_iff.1 hj).1
 rw[List.getElem?_range this]
theorem Jd{h:Hw}{w:World}{x:D}{cs:List Value}(hr:RDs h w x.cells cs):∃u:Value,u.cells.toList=cs/\RD h w x u:=by
 cases x with
 |agg l=>
  refine⟨.agg ⟨cs⟩,rfl,?_⟩
  simp only[RD]
  exact⟨cs,rfl,hr⟩
 |v x=>
  simp only[D.cells,RDs]at hr
  obtain⟨u,us',rfl,h1,h2,rfl⟩:=hr
  have hc:u.cells= #[u]:=by cases u<;>first|rfl|(simp[Value.oneCell']at h2)
  exact⟨u,by rw[hc],h1⟩
 |sl xs=>
  simp only[D.cells,RDs]at hr
  obtain⟨u,us',rfl,h1,h2,rfl⟩:=hr
  have hc:u.cells= #[u]:=by cases u<;>first|rfl|(simp[Value.oneCell']at h2)
  exact⟨u,by rw[hc],h1⟩
 |ptr xs=>
  simp only[D.cells,RDs]at hr
  obtain⟨u,us',rfl,h1,h2,rfl⟩:=hr
  have hc:u.cells= #[u]:=by cases u<;>first|rfl|(simp[Value.oneCell']at h2)
  exact⟨u,by rw[hc],h1⟩
theorem Fo{P:Program}{t e:TypeId}{α:Type}{f:α->D}{R:α->Prop}{k:Nat} [hk:CP f k](ht:P.underlying t=some (.slice e))(hc:P.cellsOf e=k)(he:CH P e f R):
 CH P t (D.l f) (fun l=>l.length<=9223372036854775807/\∀x∈l,R x):=by
 intro H enc w sp held fuel cs x h
 cases fuel with
 |zero=>simp[DataW.trod]at h
 |succ fuel=>
  unfold DataW.trod at h
  rw[ht]at h
  match cs,h with
  |[.slice none 0 0],_=>
   exact⟨[],by simp only[D.l,List.map_nil,D.cells,RDs];exact⟨_,[],rfl,GC _ _,rfl,rfl⟩,by simp⟩
  |[.slice (some a) len cap],h=>
   simp only at h
   split at h
   rename_i hh
   simp only[Option.bind_eq_some_iff]at h
   obtain⟨elems,hel,_⟩:=h
   have key:∀(n:Nat) (ys:List (DataW H×List MemPlace)),(List.range n).mapM (fun i=>(w.cells? 0 (a.add (i*P.cellsOf e)) (P.cellsOf e)).bind (DataW.trod enc P w 0 sp held fuel e))=some ys->
    ∃(vs:List α) (us:List Value),vs.length=n/\Ai (hOf w) w k (vs.map f) us/\(∀x∈vs,R x)/\∀j v,us[j]? =some v->w.cell? (a.add j)=some v:=by
    intro n
    induction n with
    |zero=>intro ys _;exact⟨[],[],rfl,by simp[Ai],by simp,by simp⟩
    |succ n ih=>
     intro ys h
     rw[List.range_succ,List.mapM_append]at h
     cases h1:(List.range n).mapM (fun i=>(w.cells? 0 (a.add (i*P.cellsOf e)) (P.cellsOf e)).bind (DataW.trod enc P w 0 sp held fuel e))with
     |none=>simp[h1]at h
     |some zs=>
      obtain⟨vs,us,g1,g2,g3,g4⟩:=ih zs h1
      cases h2:w.cells? 0 (a.add (n*P.cellsOf e)) (P.cellsOf e)with
      |none=>simp[h1,h2]at h
      |some cs'=>
       cases h3:DataW.trod enc P w 0 sp held fuel e cs' with
       |none=>simp[h1,h2,h3]at h
       |some y=>
        obtain⟨v,r1,r2⟩:=he enc w sp held fuel cs' y h3
        obtain⟨u,e1,r3⟩:=Jd r1
        obtain⟨c1,c2⟩:=Lc h2
        have hul:=Ai.length g2
        rw[List.length_map,g1]at hul
        have hn:(f v).nc=k:=CP.h v
        refine⟨vs++[v],us++cs',by simp[g1],?_,?_,?_⟩
        rw[List.map_append]
        refine g2.append ?_
        simp only[List.map_cons,List.map_nil,Ai]
        refine⟨u,[],by simp[e1],?_,hn,r3,?_,rfl⟩
        rw[RD.size r3,hn]
        exact(RD.cells r3).2
        intro x hx
        rcases ma.1 hx with hx|hx
        exact g3 x hx
        simp at hx;subst hx;exact r2
        intro j v' hj
        rcases Nat.lt_or_ge j us.length with hlt|hge
        rw[List.getElem?_append_left hlt]at hj
        exact g4 j v' hj
        rw[List.getElem?_append_right hge]at hj
        have:=c2 _ _ hj
        rw[FE,hul,hc]at this
        rw[show n*k+(j-n*k)=j by omega]at this
        exact this
   obtain⟨vs,us,g1,g2,g3,g4⟩:=key len elems hel
   refine⟨vs,?_,by rw[g1];have:=hh.2.1;have:=hh.2.2;simp[maxLen]at this;omega,g3⟩
   simp only[D.l,D.cells,RDs]
   refine⟨_,[],rfl,?_,rfl,rfl⟩
   simp only[RD]
   refine⟨some a,cap,k,us,by rw[List.length_map,g1],by rw[List.length_map,g1];exact hh.2.1,hh.2.2,g2,fun _=>⟨a,rfl,fun j v hj=>?_⟩⟩
   have:=g4 j v hj
   refine⟨this,?_⟩
   have h5:=XF this
   rw[Bc,CJ]at h5
   exact h5
   cases h

theorem HS{h h':Hw}{w w':World}(k:BQ [] h w h' w'):Below w.heap.size w w':=
 ⟨k.os,k.tape,k.output,k.size,fun b hb=>(k.far b hb (by simp)).1⟩
section
variable {H:Type} {enc:TypeId×Value->H} {P:Program}
theorem He{f:Func}{s:ChangeSpec}{apart fresh handsOn again:Bool}{W W':World}{args:Array Value}{v:Value}{ds gs:List (DataW H)}{before pa pv:List MemPlace}
 (hW:DataW.Whole enc P f.params.toList s.vars apart W args.toList ds gs before)
 (hres:∀(b:Nat) (sp:Nat->Bool) (hd:Bool),DataW.TrodAll enc P W' b sp hd f.resultTypes.toList (v.resultList f.resultTypes.size) (s.fn H (ds++gs)).results [])
 (hargs:∀sp:Nat->Bool,(∀p∈before,sp p.block=true)->DataW.TrodAll enc P W' 0 sp true f.params.toList args.toList (s.fn H (ds++gs)).args pa)
 (hvars:∀sp:Nat->Bool,(∀p∈before,sp p.block=true)->DataW.TrodVars enc P W' sp s.vars (s.fn H (ds++gs)).vars pv)
 (hps:before=pa++pv) (hb:Below W.heap.size W W')
 (hok:∀(j:Nat) (t:TypeId) (r:Value),f.resultTypes[j]? =some t->(v.resultList f.resultTypes.size)[j]? =some r->Value.okWide P W' .any 0 t r):
 s.post enc P f apart fresh handsOn again W args v W':=by
 have hlt:∀p∈before,p.block<W.heap.size:=fun p hp=>hW.lt p hp
 have hold:∀p∈before,(fun b=>decide (b<W.heap.size)) p.block=true:=fun p hp=>by simpa using hlt p hp
 refine⟨ds,gs,before,[],pa,pv,hW,hres _ _ _,hargs _ hold,hvars _ hold,World.keptBut_mono (fun p hp=>⟨hp,?_⟩) (hb.frame (· ∈before)),fun _=>?_⟩
 rw[hps,ma]at hp
 exact Or.inr hp
 obtain⟨_,_,_,_,_,hz,hn⟩:=hW
 refine⟨hok,_,_,([]++pa)++pv,⟨[]++pa,pv,trodAll_append (hargs _ (fun _ _=>rfl)) (hres _ _ _),hvars _ (fun _ _=>rfl),rfl,?_,?_⟩,?_⟩
 intro b off hp
 have hin:MemPlace.cell b off∈before:=by rw[hps];simpa using hp
 rw[hb.frozen (hlt _ hin)]
 exact hz b off hin
 intro ha
 have:=hn ha
 rw[hps]at this
 simpa using this
 intro p hp _
 rw[hps]
 simpa using hp
end
theorem D2{H:Type}{enc:TypeId×Value->H}{P:Program}(hl:laidOutB P=true){W W':World}(hb:Below W.heap.size W W'):∀{ts:List TypeId} {vs:List Value} {ds:List (DataW H)} {ps:List MemPlace},
 (ts.all fun t=>P.readableRec t&&decide (t<P.types.size))=true->DataW.TrodAll enc P W 0 (fun _=>true) true ts vs ds ps->(∀x∈ps,x.block<W.heap.size)->∀sp:Nat->Bool,(∀p∈ps,sp p.block=true)->
 DataW.TrodAll enc P W' 0 sp true ts vs ds ps
 |[],[],[],ps,_,h,_,sp,_=>h
 |t::ts,v::vs,d::ds,ps,ht,h,hlt,sp,hsp=>by
  obtain⟨p,q,h1,h2,rfl⟩:=h;simp only[List.all_cons,ba,decide_eq_true_eq]at ht;exact⟨p,q,WideElems.Trod_stays hl ht.1.1 ht.1.2 h1 (fun x hx=>hb.same (hlt x (ml _ hx))) (fun x hx=>hsp x (ml _ hx)),
   D2 hl hb ht.2 h2 (fun x hx=>hlt x (mr _ hx)) sp (fun x hx=>hsp x (mr _ hx)),rfl⟩
 |[],_::_,_,_,_,h,_,_,_=>h.elim
 |[],[],_::_,_,_,h,_,_,_=>h.elim
 |_::_,[],_,_,_,h,_,_,_=>h.elim
 |_::_,_::_,[],_,_,h,_,_,_=>h.elim
theorem IR{P:Program}{F:FuncId}{f:Func}{s:ChangeSpec}{H:Type}{enc:TypeId×Value->H}{W:World}{args:Array Value}{ds gs:List (DataW H)}{before:List MemPlace}{tb:TypeId}
 (hl:laidOutB P=true) (hts:(f.params.toList.all fun t=>P.readableRec t&&decide (t<P.types.size))=true) (hr:f.resultTypes= #[tb]) (htb:P.underlying tb=some .bool) (hvs:s.vars=[])
 (hfn:∀ds:List (DataW H),ds.length=f.params.size->s.fn H ds={results:=[.lit (.bool true)],args:=ds,vars:=[]})
 (hW:DataW.Whole enc P f.params.toList s.vars false W args.toList ds gs before)
 (hcall:∃as':List A,RAs (hOf W) W (fun _=>.bool true) as' args.toList/\AO P F as' [] (bo true) []):
 Calls P F args W fun e W'=>∃v,e=.returned v/\s.post enc P f false true false false W args v W':=by
 have hW':=hW
 obtain⟨p,q,hA,hV,rfl,hfz,hnd⟩:=hW
 have hlt:∀x∈p++q,x.block<W.heap.size:=fun x hx=>hW'.lt x hx
 rw[hvs]at hV
 have hg:gs=[]/\q=[]:=by
  cases gs with
  |nil=>exact⟨rfl,by simpa[DataW.TrodVars]using hV⟩
  |cons g gs=>simp[DataW.TrodVars]at hV
 obtain⟨rfl,rfl⟩:=hg
 have hlen:∀{ts:List TypeId} {vs:List Value} {ds:List (DataW H)} {ps:List MemPlace},DataW.TrodAll enc P W 0 (fun _=>true) true ts vs ds ps->ds.length=ts.length:=by
  intro ts;induction ts with
  |nil=>
   intro vs ds ps h
   cases vs<;>cases ds<;>first|rfl|exact h.elim
  |cons t ts ih=>
   intro vs ds ps h
   cases vs<;>cases ds<;>first|exact h.elim|(obtain⟨_,_,_,h2,_⟩:=h;simp[ih h2])
 have hd:ds.length=f.params.size:=by rw[hlen hA];simp
 obtain⟨as',hra,hc⟩:=hcall
 refine(hc (hOf W) W (fun _=>.bool true) args.toList (Inv.nil _ _ _) hra).mono fun e W' hh=>?_
 obtain⟨h',val',u,rfl,_,hu,hk,_,_⟩:=hh
 have hb:=HS hk
 simp only[bo,RA,RD]at hu
 obtain⟨rfl,_⟩:=hu
 have hsf:s.fn H (ds++[])={results:=[.lit (.bool true)],args:=ds,vars:=[]}:=by rw[List.append_nil];exact hfn ds hd
 simp only[List.append_nil]at hlt hW'
 refine⟨_,rfl,He (pa:=p) (pv:=[]) (ds:=ds) (gs:=[]) (before:=p) hW' ?_ ?_ ?_ (by simp) hb ?_⟩
 intro b sp hd
 rw[hsf,hr]
 exact trodAll_mk1 (shut_bool htb _)
 intro sp hsp
 rw[hsf]
 exact D2 hl hb hts hA hlt sp hsp
 intro sp _
 rw[hsf,hvs];rfl
 exact ok_one hr rfl (okWide_bool_mk htb _)

theorem Hd{P:Program}{w:World}{base:Nat}{t:TypeId}{v:Value}(h:Value.okWide P w .any base t v)
 (ht:(match P.underlying t with|some (.int _)|some .bool|some .string|some (.slice _)=>true|_=>false)=true):∀cs,v≠ .agg cs:=by
 intro cs e
 subst e
 unfold Value.okWide at h
 split at ht<;>first|cases ht|skip
 all_goals (rename_i hu;simp only[hu,Cell.okWide,Cell.ok]at h)
theorem Vm{h:Hw}{w:World}{x:D}{v:Value}(hr:RDs h w x.cells v.cells.toList)(hx:∀c,x≠ .agg c)(hv:∀cs,v≠ .agg cs):RD h w x v:=by
 have e:v.cells= #[v]:=by cases v<;>first|rfl|exact absurd rfl (hv _)
 rw[e]at hr;have e2:x.cells=[x]:=by cases x<;>first|rfl|exact absurd rfl (hx _)
 rw[e2]at hr;simp only[RDs]at hr;obtain⟨u,us',h1,h2,_⟩:=hr;simp at h1;rw[h1.1];exact h2
theorem H3{α:Type}{P:Program}{t:TypeId}{f:α->D}{R:α->Prop}(hR:CH P t f R){H:Type}{enc:TypeId×Value->H}{W:World}{v:Value}{d:DataW H}{p:List MemPlace}{base:Nat}{sp:Nat->Bool}
 (h:DataW.Trod enc P W 0 sp true t v d p) (hx:∀a c,f a≠ .agg c) (hok:Value.okWide P W .any base t v)
 (ht:(match P.underlying t with|some (.int _)|some .bool|some .string|some (.slice _)=>true|_=>false)=true):∃x:α,RD (hOf W) W (f x) v/\R x:=by
 obtain⟨fuel,h⟩:=h
 obtain⟨x,h1,h2⟩:=hR enc W _ _ _ _ _ h
 exact⟨x,Vm h1 (hx x) (Hd hok ht),h2⟩
end Go.Ac
namespace Go.Ac
theorem Ja(k:IntKind)(n:Int):(D.i k n).cells=[D.i k n]:=rfl
theorem JZ(b:Bool):(D.b b).cells=[D.b b]:=rfl
theorem Jc(l:List UInt8):(D.s l).cells=[D.s l]:=rfl
theorem Je(c:UInt8):(Af c).cells=[Af c]:=rfl
theorem Jb{α:Type}(f:α->D)(l:List α):(D.l f l).cells=[D.l f l]:=rfl
theorem FM(l:List D):(D.agg l).cells=l:=rfl
end Go.Ac
