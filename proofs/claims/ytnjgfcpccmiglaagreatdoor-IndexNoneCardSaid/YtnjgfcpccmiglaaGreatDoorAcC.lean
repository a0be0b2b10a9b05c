/- Own work: how calls of the model run over plain data. -/
import Derived.Test.YtnjgfcpccmiglaaGreatDoorAcB
import Derived.KernelRfl
import Derived.IntWalk
import Derived.Shelf.SlLaysN
import Derived.Shelf.RegionOpenPlain
import Derived.WalkKit
import Derived.Deep.LoopGhost
import Derived.Deep.RegionLaw
import Derived.Lib.Walk
import Derived.Lib.SliceRun
import Derived.Sort.WalkB12
import Derived.Shelf.Spec.SlicesInsertGrow
import Derived.Shelf.SlicesE.Clone
import Derived.Shelf.Spec.SlicesGrow
import Derived.Shelf.Strings.FuncGrows
import Derived.ProofKit
import Derived.OpenShut
import Derived.JoinedCond
import Derived.Carry
set_option linter.unusedVariables false
set_option linter.unusedSimpArgs false
namespace Go.Ac

mutual
def A.ren(n m:Nat):A->A
 | .box k off=>.box (if k=n then m else k) off
 | .bsl k off l=>.bsl (if k=n then m else k) off l
 | .ep q k i off=>.ep (if q=n then m else q) k i off
 | .row k=>.row (if k=n then m else k)
 | .clo f fs cs=>.clo f (NR n m fs) (NR n m cs)
 | .agg cs=>.agg (NR n m cs)
 | .tup vs=>.tup (NR n m vs)
 |a=>a
def NR(n m:Nat):List A->List A
 |[]=> []
 |a::as'=>a.ren n m::NR n m as'
end
def Bk.ren(n m:Nat):Bk->Bk
 | .cells cs=>.cells (NR n m cs)
 | .vals as' us=>.vals (NR n m as') us
 | .mit k clk seen=>.mit (if k=n then m else k) clk seen
 | .mapR g clk ks outs=>.mapR (if g=n then m else g) clk ks (outs.map fun x=>(x.1,if x.2=n then m else x.2))
 |b=>b
mutual
theorem RA.ren{h w}{val:Val}{n m:Nat}(hm:m<up):∀(a:A) (u:Value),a.has m=false->RA h w val a u->RA h w (Al val m (val n)) (a.ren n m) u
 | .d x,u,_,hr=>by simpa only[RA,A.ren]using hr
 | .box k off,u,hn,hr=>by
  simp[A.has]at hn;simp only[RA,A.ren]at hr⊢;obtain⟨b,e1,e2⟩:=hr;refine⟨b,?_,e2⟩;split;rename_i hk;subst hk;simpa[Al]using e1;simpa[Al,hn]using e1
 | .bsl k off l,u,hn,hr=>by
  simp[A.has]at hn;simp only[RA,A.ren]at hr⊢;obtain⟨b,c,e1,e2⟩:=hr;refine⟨b,c,?_,e2⟩;split;rename_i hk;subst hk;simpa[Al]using e1;simpa[Al,hn]using e1
 | .ep q k i off,u,hn,hr=>by
  simp[A.has]at hn;simp only[RA,A.ren]at hr⊢;obtain⟨b,e1,e2⟩:=hr;refine⟨b,?_,e2⟩;split;rename_i hk;subst hk;simpa[Al]using e1;simpa[Al,hn]using e1
 | .row k,u,hn,hr=>by
  simp[A.has]at hn;simp only[RA,A.ren]at hr⊢;refine⟨?_,hr.2⟩;rw[hr.1];split;rename_i hk;subst hk;simp[Al];simp[Al,hn]
 | .eptr cs,u,_,hr=>by simpa only[RA,A.ren]using hr
 | .clo f first cap,u,hn,hr=>by
  simp only[A.has,Bool.or_eq_false_iff]at hn;simp only[RA,A.ren]at hr⊢;obtain⟨fs,cs,e,h1,h2⟩:=hr;exact⟨fs,cs,e,RAs.ren hm first fs hn.1 h1,RAs.ren hm cap cs hn.2 h2⟩
 | .agg cs,u,hn,hr=>by
  simp only[A.has]at hn;simp only[RA,A.ren]at hr⊢;obtain⟨us,e,h1,h2⟩:=hr;exact⟨us,e,RAs.ren hm cs us hn h1,h2⟩
 | .tup cs,u,hn,hr=>by
  simp only[A.has]at hn;simp only[RA,A.ren]at hr⊢;obtain⟨us,e,h1⟩:=hr;exact⟨us,e,RAs.ren hm cs us hn h1⟩
 | .opq a,u,_,hr=>by
  simp only[RA,A.ren]at hr⊢;have:(fun k=>Al val m (val n) (k+up))=fun k=>val (k+up):=by
   funext k;have:¬k+up=m:=by omega
   simp[Al,this]
  rw[this];exact hr
 | .nil,u,_,hr=>by simpa only[RA,A.ren]using hr
 | .ub,u,_,hr=>by simpa only[RA,A.ren]using hr
 | .any,u,_,hr=>by simp[RA,A.ren]
theorem RAs.ren{h w}{val:Val}{n m:Nat}(hm:m<up):∀(as':List A) (us:List Value),AQ m as'=false->RAs h w val as' us->RAs h w (Al val m (val n)) (NR n m as') us
 |[],us,_,hr=>by simpa[RAs,NR]using hr
 |a::as',us,hn,hr=>by
  simp only[AQ,Bool.or_eq_false_iff]at hn;simp only[RAs,NR]at hr⊢;obtain⟨u,us',e,h1,h2⟩:=hr;exact⟨u,us',e,RA.ren hm a u hn.1 h1,RAs.ren hm as' us' hn.2 h2⟩
end
def JL(n m:Nat)(p:Nat×Bk):Nat×Bk:=(if p.1=n then m else p.1,p.2.ren n m)
theorem Wk.ren{n m:Nat}{s:St}(hm:m<up)(hE:AQ m s.E=false)(hB:BL m s.B=false):Wk s {s with E:=NR n m s.E,B:=s.B.map (JL n m)}:=by
 intro h w val a H;have hap:∀p∈s.all,p.1≠m/\p.2.has m=false:=fun p hp=>by
  rcases ma.1 hp with hp|hp
  exact BK hB p hp;exact H.far m (.inl hm) p hp
 have hv:∀k,k≠m->Al val m (val n) k=val k:=fun k hk=>by simp[Al,hk]
 have hval:∀p:Nat×Bk,p.1≠m->Al val m (val n) (JL n m p).1=val p.1:=fun p hp=>by simp only[JL];split;rename_i e;simp[Al,e];exact hv _ hp
 have hold:∀b:Bk,(b.ren n m).isOld=b.isOld:=fun b=>by cases b<;>rfl
 have hblk:∀p:Nat×Bk,p.1≠m->CZ (Al val m (val n)) (JL n m p)=CZ val p:=fun p hp=>by have h1:=hval p hp;have h2:(JL n m p).2.isOld=p.2.isOld:=hold p.2;obtain⟨k,b⟩:=p;unfold CZ Az;rw[h1,h2];cases b<;>rfl
 have hblB:AZ (Al val m (val n)) (s.B.map (JL n m))=AZ val s.B:=by
  have:∀(l:Bx),(∀p∈l,p.1≠m)->AZ (Al val m (val n)) (l.map (JL n m))=AZ val l:=by
   intro l;induction l with
   |nil=>intro _;rfl
   |cons p l ih=>
    intro hl
    rw[List.map_cons,Am,Am,hblk p (hl p (by simp)),ih fun q hq=>hl q (by simp[hq])]
  exact this s.B fun p hp=>(hap p (ml _ hp)).1
 have hblF:AZ (Al val m (val n)) s.F=AZ val s.F:=BJ fun k hk=>by obtain⟨p,hp,rfl⟩:=mm.1 hk;exact hv _ (hap p (mr _ hp)).1
 have hbl:AZ (Al val m (val n)) (s.B.map (JL n m)++s.F)=AZ val s.all:=by rw[AM,hblB,hblF,<-AM];rfl
 refine⟨h,Al val m (val n),⟨RAs.ren hm _ _ hE H.e,⟨?_,?_,?_,(by first|exact H.inv.glob.stays hk.stays|exact H.inv.glob|exact I.glob|exact I.glob.stays k.stays|exact H.inv.glob.stays k.stays|exact hI.glob|exact hInv.glob|exact hI0.glob|exact hIX.glob|exact H'.inv.glob|exact hI.glob.stays hk.stays|exact H1.inv.glob|exact hIR.glob|exact H.glob|exact hI.glob.stays k.stays|exact H.inv.glob.stays n.keep.stays|exact hI.glob.stays n.keep.stays|exact h.inv.glob|exact H2.inv.glob|exact hI'.glob)⟩,H.far,H.defs.val (hv _ (by have:m<up:=hm;simp only[up]at this;simp only[bn];omega))⟩,⟨BI.refl _ _ _,fun k hk=>hv k (by have:=GP hk;omega),fun b hb=>.inl (by have hb':b∈AZ (Al val m (val n)) (s.B.map (JL n m)++s.F):=hb;rwa [hbl]at hb')⟩⟩
 intro p hp;rcases ma.1 hp with hp|hp
 obtain⟨q,hq,rfl⟩:=mm.1 hp;have hrb:=H.inv.rep q (ml _ hq);obtain⟨h1,h2⟩:=hap q (ml _ hq);have hvq:=hval q h1;obtain⟨qn,qb⟩:=q;simp only[JL]at hvq⊢;cases qb with
 |cells cs=>
  simp only[Bk.ren,RB]at hrb⊢
  obtain⟨b,us,t,e1,e2,e3,e4,e5⟩:=hrb
  exact⟨b,us,t,by rw[hvq];exact e1,e2,RAs.ren hm _ _ (by simpa[Bk.has]using h2) e3,e4,e5⟩
 |rows e xss=>
  simp only[Bk.ren,RB]at hrb⊢
  rw[hvq];exact hrb
 |mapR g clk ks outs=>
  simp only[Bk.ren,RB]at hrb⊢
  rw[hvq]
  obtain⟨b,l,us,e1,hg,hu,hk,rest⟩:=hrb
  simp only[Bk.has,Bool.or_eq_false_iff,beq_eq_false_iff_ne,List.any_eq_false,beq_iff_eq]at h2
  have hone:∀k,k≠m->Al val m (val n) (if k=n then m else k)=val k:=fun k hk=>by split;rename_i e;rw[e];simp[Al];exact hv k hk
  exact⟨b,l,us,e1,hg,(hone g h2.1).trans hu,RKs.map (ρ:=fun k=>if k=n then m else k) (fun x hx=>hone _ (h2.2 x hx)) _ _ _ hk,rest⟩
 |row e k xs=>
  simp only[Bk.ren,RB]at hrb⊢
  rw[hvq];exact hrb
 |rw e k xs=>
  simp only[Bk.ren,RB]at hrb⊢
  rw[hvq];exact hrb
 |dead=>trivial
 |old xs=>
  simp only[Bk.ren,RB]at hrb⊢
  rw[hvq];exact hrb
 |fz cs=>
  simp only[Bk.ren,RB]at hrb⊢
  rw[hvq];exact hrb
 |buf sl e k xs=>
  simp only[Bk.ren,RB]at hrb⊢
  rw[hvq];exact hrb
 |vals as' us=>
  simp only[Bk.ren,RB]at hrb⊢
  exact RAs.ren hm _ _ (by simpa[Bk.has]using h2) hrb
 |obj g o=>
  simp only[Bk.ren,RB]at hrb⊢
  rw[hvq];exact hrb
 |map clk es=>
  simp only[Bk.ren,RB]at hrb⊢
  rw[hvq];exact hrb
 |mapS es=>
  simp only[Bk.ren,RB]at hrb⊢
  rw[hvq];exact hrb
 |bag e k xs=>
  simp only[Bk.ren,RB]at hrb⊢
  rw[hvq];exact hrb
 |mit k clk seen=>
  simp only[Bk.ren,RB]at hrb⊢
  rw[hvq]
  obtain⟨r,b,e1,e2,e3⟩:=hrb
  have hk:k≠m:=by simpa[Bk.has]using h2
  refine⟨r,b,e1,?_,e3⟩
  split
  rename_i hkn;subst hkn;simpa[Al]using e2
  rw[hv k hk];exact e2
 obtain⟨h1,h2⟩:=hap p (mr _ hp);exact RB.upd hv h1 h2 (H.inv.rep p (mr _ hp));have hn:=H.inv.nms;have hnd:∀l:Bx,(∀p∈l,p.1≠m)->(AK l).Nodup->(AK (l.map (JL n m))).Nodup:=by
  intro l;induction l with
  |nil=>intro _ _;exact List.nodup_nil
  |cons p l ih=>
   intro hl hd
   simp only[AK,List.map_cons,List.nodup_cons]at hd⊢
   refine⟨fun hm'=>?_,ih (fun q hq=>hl q (by simp[hq])) hd.2⟩
   simp only[List.map_map,mm,Function.comp_apply]at hm'
   obtain⟨q,hq,he⟩:=hm'
   apply hd.1
   simp only[mm]
   refine⟨q,hq,?_⟩
   have hq1:=hl q (by simp[hq])
   have hp1:=hl p (by simp)
   simp only[JL]at he
   split at he<;>split at he
   rename_i a1 a2;rw[a1,a2]
   exact absurd he.symm hp1
   exact absurd he hq1
   exact he
 show(AK (s.B.map (JL n m)++s.F)).Nodup;have hn':(AK (s.B++s.F)).Nodup:=hn;rw[AI,List.nodup_append]at hn'⊢;refine⟨hnd s.B (fun p hp=>(hap p (ml _ hp)).1) hn'.1,hn'.2.1,fun x hx y hy=>?_⟩;simp only[AK,List.map_map,mm,Function.comp_apply]at hx;obtain⟨q,hq,rfl⟩:=hx;simp only[JL];split;intro e;obtain⟨p,hp,rfl⟩:=mm.1 hy;exact(hap p (mr _ hp)).1 e.symm;exact hn'.2.2 _ (mm.2 ⟨q,hq,rfl⟩) y hy;show(AZ (Al val m (val n)) (s.B.map (JL n m)++s.F)).Nodup;rw[hbl];exact H.inv.bks

theorem Wk.nil{t n:Nat}{e:TypeId}{k:Nat}{s:St}(hf:fresh n s=true)(ht:s.E[t]? =some .nil):Wk s {s with E:=s.E.set t (.row n),B:=Ca n (.row e k []) s.B}:=by
 intro h w val a H;obtain⟨f1,f2,f3⟩:=BA hf;have hrb:RB h w (Al val n (.slice none 0 0)) n (.row e k []):=by
  refine⟨[],?_,by simp[Ad],fun g hg=>?_⟩;have:Al val n (.slice none 0 0) n=.slice none 0 0:=by simp[Al]
  rw[this];exact World.ownsRow_nil w 0 e k;have:Al val n (.slice none 0 0) n=.slice none 0 0:=by simp[Al]
  rw[this]at hg;simp[Value.ownBlock]at hg
 obtain⟨h1,h2⟩:=H.add f1 f2 f3 (BI.refl [] h w) (fun b _=>by simp) (fun _ hm=>by cases hm) (.slice none 0 0) (.row e k []) (fun b hb=>by simp[BN]at hb) rfl hrb;refine⟨h,Al val n (.slice none 0 0),?_,?_⟩;have h3:=(AR.ins (E:=s.E) (B:=s.B) (F:=s.F) h1);refine⟨?_,h3.inv,h3.far,h3.defs⟩;obtain⟨u,hu,hr⟩:=RAs.get H.e t _ ht;simp only[RA]at hr;subst hr;have:=h3.e.set t (a:=.row n) (u:=.slice none 0 0) (by simp only[RA];exact⟨by simp[Al],hnd.sl _ _ _⟩);have he:a.tmps.toList.set t (.slice none 0 0)=a.tmps.toList:=by apply List.ext_getElem?;intro i;rw[List.getElem?_set];split;rename_i hi;subst hi;have hlt:=(List.getElem?_eq_some_iff.1 hu).1;rw[if_pos hlt,hu];rfl
 rw[he]at this;exact this;refine⟨BI.refl _ _ _,fun m hm=>?_,fun b hb=>.inl ?_⟩;have:m≠n:=Nat.ne_of_gt (Nat.lt_of_lt_of_le f1 (GP hm));simp[Al,this];have hp:(Ca n (.row e k []) s.B++s.F).Perm ((n,.row e k [])::s.all):=(Bz n _ s.B).append_right _;have hb':b∈AZ (Al val n (.slice none 0 0)) ((n,.row e k [])::s.all):=((List.Perm.flatMap_right (CZ (Al val n (.slice none 0 0))) hp).mem_iff).1 hb;rw[h2]at hb';simpa[BN]using hb'

theorem Wk.look{t:Nat}{s:St}{x:A}(ht:s.E[t]? =some x):Wk s {s with E:=s.E.set t (s.look x)}:=by
 intro h w val a H;refine⟨h,val,⟨?_,H.inv,H.far,H.defs⟩,Nx.refl s h w val rfl⟩;obtain⟨u,hu,hr⟩:=RAs.get H.e t _ ht;have:=H.e.set t (H.look hr);have he:a.tmps.toList.set t u=a.tmps.toList:=by apply List.ext_getElem?;intro i;rw[List.getElem?_set];split;rename_i hi;subst hi;have hlt:=(List.getElem?_eq_some_iff.1 hu).1;rw[if_pos hlt,hu];rfl
 rw[he]at this;exact this

theorem Wk.redesc{s:St}{n:Nat}{b b':Bk}(hl:lk s.B n=some b)(ho:b'.kd=b.kd)(hr:∀h w val a,AR s h w val a->RB h w val n b->RB h w val n b'):Wk s {s with B:=BD s.B n b'}:=by
 intro h w val a H;have hmem:(n,b)∈s.all:=ml _ (Af hl);have hsame:∀b2,(n,b2)∈s.B->b2.kd=b'.kd:=fun b2 hb2=>by rw[A0 H.inv.nms (ml _ hb2) hmem,ho]
 refine⟨h,val,⟨H.e,⟨fun p hp=>?_,?_,?_,(by first|exact H.inv.glob.stays hk.stays|exact H.inv.glob|exact I.glob|exact I.glob.stays k.stays|exact H.inv.glob.stays k.stays|exact hI.glob|exact hInv.glob|exact hI0.glob|exact hIX.glob|exact H'.inv.glob|exact hI.glob.stays hk.stays|exact H1.inv.glob|exact hIR.glob|exact H.glob|exact hI.glob.stays k.stays|exact H.inv.glob.stays n.keep.stays|exact hI.glob.stays n.keep.stays|exact h.inv.glob|exact H2.inv.glob|exact hI'.glob)⟩,H.far,H.defs⟩,⟨BI.refl _ _ _,fun _ _=>rfl,fun b hb=>.inl ?_⟩⟩
 rcases ma.1 hp with hp|hp
 rcases BG hp with rfl|⟨hp,hne⟩
 exact hr h w val a H (H.inv.rep _ hmem);exact H.inv.rep p (ml _ hp);exact H.inv.rep p (mr _ hp);have:=H.inv.nms;simpa only[St.all,AI,Ay]using this;have:=H.inv.bks;simpa only[St.all,AM,Ax hsame]using this;simpa only[St.all,AM,Ax hsame]using hb
theorem Wk.empty{n:Nat}{e:TypeId}{k:Nat}{s:St}(hf:fresh n s=true){h:Hw}{w:World}{val:Val}{a:Act}(H:AR s h w val a):
 AR {s with B:=Ca n (.rw e k []) s.B} h w (Al val n (.slice none 0 0)) a/\Nx s h w val {s with B:=Ca n (.rw e k []) s.B} h w (Al val n (.slice none 0 0)):=by
 obtain⟨f1,f2,f3⟩:=BA hf
 have hv:Al val n (.slice none 0 0) n=.slice none 0 0:=by simp[Al]
 have hrb:RB h w (Al val n (.slice none 0 0)) n (.rw e k []):=by refine⟨[],?_,by simp[Ad],fun g hg=>?_⟩;rw[hv];exact World.ownsRow_nil w 0 e k;rw[hv]at hg;simp[Value.ownBlock]at hg
 obtain⟨h1,h2⟩:=H.add f1 f2 f3 (BI.refl [] h w) (fun b _=>by simp) (fun _ hm=>by cases hm) (.slice none 0 0) (.rw e k []) (fun b hb=>by simp[BN]at hb) rfl hrb
 refine⟨AR.ins (E:=s.E) (B:=s.B) (F:=s.F) h1,⟨BI.refl _ _ _,fun m hm=>?_,fun b hb=>.inl ?_⟩⟩
 have:m≠n:=Nat.ne_of_gt (Nat.lt_of_lt_of_le f1 (GP hm))
 simp[Al,this]
 have hp:(Ca n (.rw e k []) s.B++s.F).Perm ((n,.rw e k [])::s.all):=(Bz n _ s.B).append_right _
 have hb':b∈AZ (Al val n (.slice none 0 0)) ((n,.rw e k [])::s.all):=((List.Perm.flatMap_right (CZ (Al val n (.slice none 0 0))) hp).mem_iff).1 hb
 rw[h2]at hb'
 simpa[BN]using hb'
theorem Wk.nilw{t n:Nat}{e:TypeId}{k:Nat}{s:St}(hf:fresh n s=true)(ht:s.E[t]? =some .nil):Wk s {s with E:=s.E.set t (.row n),B:=Ca n (.rw e k []) s.B}:=by
 intro h w val a H;obtain⟨h3,h4⟩:=Wk.empty (e:=e) (k:=k) hf H;refine⟨h,Al val n (.slice none 0 0),⟨?_,h3.inv,h3.far,h3.defs⟩,⟨h4.keep,h4.vals,h4.new⟩⟩;obtain⟨u,hu,hr⟩:=RAs.get H.e t _ ht;simp only[RA]at hr;subst hr;have:=h3.e.set t (a:=.row n) (u:=.slice none 0 0) (by simp only[RA];exact⟨by simp[Al],hnd.sl _ _ _⟩);have he:a.tmps.toList.set t (.slice none 0 0)=a.tmps.toList:=by apply List.ext_getElem?;intro i;rw[List.getElem?_set];split;rename_i hi;subst hi;have hlt:=(List.getElem?_eq_some_iff.1 hu).1;rw[if_pos hlt,hu];rfl
 rw[he]at this;exact this
theorem Wk.nilc{b i n:Nat}{e:TypeId}{k:Nat}{cs:List A}{s:St}(hf:fresh n s=true)(hl:lk s.B b=some (.cells cs))(hi:cs[i]? =some .nil):Wk s {s with B:=BD (Ca n (.rw e k []) s.B) b (.cells (cs.set i (.row n)))}:=by
 intro h w val a H;obtain⟨h3,h4⟩:=Wk.empty (e:=e) (k:=k) hf H;obtain⟨f1,f2,f3⟩:=BA hf;have hbn:n≠b:=fun e=>(BK f3 _ (Af hl)).1 e.symm;have hl2:lk (Ca n (.rw e k []) s.B) b=some (.cells cs):=by rw[H0,if_neg hbn];exact hl
 have hv:Al val n (.slice none 0 0) n=.slice none 0 0:=by simp[Al]
 have hmem:(b,Bk.cells cs)∈Ca n (.rw e k []) s.B++s.F:=ml _ (Af hl2);have hsame:∀b2,(b,b2)∈Ca n (.rw e k []) s.B->b2.kd=(Bk.cells (cs.set i (.row n))).kd:=fun b2 hb2=>by rw[A0 h3.inv.nms (ml _ hb2) hmem];rfl
 refine⟨h,Al val n (.slice none 0 0),⟨h3.e,⟨fun p hp=>?_,?_,?_,(by first|exact H.inv.glob.stays hk.stays|exact H.inv.glob|exact I.glob|exact I.glob.stays k.stays|exact H.inv.glob.stays k.stays|exact hI.glob|exact hInv.glob|exact hI0.glob|exact hIX.glob|exact H'.inv.glob|exact hI.glob.stays hk.stays|exact H1.inv.glob|exact hIR.glob|exact H.glob|exact hI.glob.stays k.stays|exact H.inv.glob.stays n.keep.stays|exact hI.glob.stays n.keep.stays|exact h.inv.glob|exact H2.inv.glob|exact hI'.glob)⟩,h3.far,h3.defs⟩,⟨h4.keep,h4.vals,fun g hg=>h4.new g ?_⟩⟩
 rcases ma.1 hp with hp|hp
 rcases BG hp with rfl|⟨hp,hne⟩
 obtain⟨g,us,t,e1,e2,e3,e4,e5⟩:=h3.inv.rep _ hmem;refine⟨g,us,t,e1,e2,?_,e4,e5⟩;obtain⟨u,hu,hr⟩:=RAs.get e3 i _ hi;simp only[RA]at hr;subst hr;have:=RAs.set e3 i (a:=.row n) (u:=.slice none 0 0) (by simp only[RA];exact⟨hv.symm,hnd.sl _ _ _⟩);have he:us.set i (.slice none 0 0)=us:=by apply List.ext_getElem?;intro j;rw[List.getElem?_set];split;rename_i hi;subst hi;have hlt:=(List.getElem?_eq_some_iff.1 hu).1;rw[if_pos hlt,hu];rfl
 rw[he]at this;exact this;exact h3.inv.rep p (ml _ hp);exact h3.inv.rep p (mr _ hp);have:=h3.inv.nms;simpa only[St.all,AI,Ay]using this;have:=h3.inv.bks;simpa only[St.all,AM,Ax hsame]using this;simpa only[St.all,AM,Ax hsame]using hg

inductive Ws where
 |frz (n:Nat)
 |look (t:Nat)
 |live (l:List Nat)
 |keep (l:List Nat)
 |ren (n m:Nat)
 |nil (t n:Nat) (e:TypeId) (k:Nat)
 |nilw (t n:Nat) (e:TypeId) (k:Nat)
 |nilc (b i n:Nat) (e:TypeId) (k:Nat)
 |bufrw (n:Nat)
 |sort
def wk1(s:St):Ws->Option St
 | .frz n=>match lk s.B n with
  |some (.buf true e k xs)=>some {s with B:=BD s.B n (.row e k xs)}
  |some (.rw e k xs)=>some {s with B:=BD s.B n (.row e k xs)}
  |_=>none
 | .look t=>match s.E[t]? with
  |some x=>some {s with E:=s.E.set t (s.look x)}
  |none=>none
 | .live l=>some {s with E:=Km (fun i=>l.contains i) 0 s.E}
 | .keep l=>some {s with B:=s.B.filter fun p=>l.contains p.1}
 | .ren n m=>if fresh m s then some {s with E:=NR n m s.E,B:=s.B.map (JL n m)}else none
 | .nil t n e k=>match s.E[t]? with
  |some .nil=>if fresh n s then some {s with E:=s.E.set t (.row n),B:=Ca n (.row e k []) s.B}else none
  |_=>none
 | .nilw t n e k=>match s.E[t]? with
  |some .nil=>if fresh n s then some {s with E:=s.E.set t (.row n),B:=Ca n (.rw e k []) s.B}else none
  |_=>none
 | .nilc b i n e k=>match lk s.B b with
  |some (.cells cs)=>match cs[i]? with
   |some .nil=>if fresh n s then some {s with B:=BD (Ca n (.rw e k []) s.B) b (.cells (cs.set i (.row n)))}else none
   |_=>none
  |_=>none
 | .bufrw n=>match lk s.B n with
  |some (.buf true e k xs)=>some {s with B:=BD s.B n (.rw e k xs)}
  |_=>none
 | .sort=>some {s with B:=XW s.B}
def wks:List Ws->St->Option St
 |[],s=>some s
 |x::l,s=>match wk1 s x with
  |some s1=>wks l s1
  |none=>none
theorem aCf{s s':St}{x:Ws}(h:wk1 s x=some s'):Wk s s':=by
 cases x with
 |frz n=>
  simp only[wk1]at h
  split at h
  rename_i hl
  simp only[oe]at h;subst h
  intro h w val a H
  obtain⟨h',f1,f2⟩:=RU H hl
  exact⟨h',val,f1,f2⟩
  rename_i hl
  simp only[oe]at h;subst h
  intro h w val a H
  obtain⟨h',f1,f2⟩:=SP H hl
  exact⟨h',val,f1,f2⟩
  cases h
 |look t=>
  simp only[wk1]at h
  split at h
  rename_i ht
  simp only[oe]at h;subst h
  exact Wk.look ht
  cases h
 |live l=>simp only[wk1,oe]at h;subst h;exact Wk.mask _ s
 |keep l=>simp only[wk1,oe]at h;subst h;exact Wk.drop _ s
 |ren n m=>
  simp only[wk1]at h
  split at h
  rename_i hf
  simp only[oe]at h;subst h
  obtain⟨f1,f2,f3⟩:=BA hf
  exact Wk.ren f1 f2 f3
  cases h
 |nil t n e k=>
  simp only[wk1]at h
  split at h
  rename_i ht
  split at h
  rename_i hf
  simp only[oe]at h;subst h
  exact Wk.nil hf ht
  cases h
  cases h
 |nilw t n e k=>
  simp only[wk1]at h
  split at h
  rename_i ht
  split at h
  rename_i hf
  simp only[oe]at h;subst h
  exact Wk.nilw hf ht
  cases h
  cases h
 |nilc b i n e k=>
  simp only[wk1]at h
  split at h
  rename_i cs hl
  split at h
  rename_i hi
  split at h
  rename_i hf
  simp only[oe]at h;subst h
  exact Wk.nilc hf hl hi
  cases h
  cases h
  cases h
 |bufrw n=>
  simp only[wk1]at h
  split at h
  rename_i hl
  simp only[oe]at h;subst h
  exact Wk.redesc hl rfl fun h w val a _ hr=>RB.buf_rw hr
  cases h
 |sort=>
  simp only[wk1,oe]at h;subst h
  exact fun h w val a H=>⟨h,val,AR.perm (EO _).symm H,Nx.perm (EO _).symm (Nx.refl s h w val rfl)⟩
theorem JI:∀{l:List Ws} {s s':St},wks l s=some s'->Wk s s'
 |[],s,s',h=>by simp only[wks,oe]at h;subst h;exact Wk.refl _
 |x::l,s,s',h=>by
  simp only[wks]at h;split at h;rename_i s1 h1;exact(aCf h1).trans (JI h);cases h
end Go.Ac
namespace Go.Ac

structure Lw where
 path:List Nat
 wk:List Ws
 e:Ex
 s:St

def Id(lw:List Lw)(p:List Nat)(s:St):Option (Option (Ob×Ex×St)):=
 match lw.find? fun q=>q.path==p with
 |some q=>some (match wks q.wk s with
  |some s1=>some (.loop p s1 q.e q.s,q.e,q.s)
  |none=>none)
 |none=>none
def SI(ops:Array Oper)(s:St):St:=
 match ops.toList with
 |o::_=>match o.dst,o.op with
  |some d,.alloc _=>if BL d s.B then{s with E:=Km (fun i=>i !=d) 0 s.E,B:=s.B.filter fun p=>p.1 !=d}else s
  |_,_=>s
 |[]=>s
theorem SJ(ops:Array Oper)(s:St):Wk s (SI ops s):=by unfold SI;split;split;split;exact(Wk.mask _ s).trans (Wk.drop _ _);exact Wk.refl s;exact Wk.refl s;exact Wk.refl s
def Bv(P:Program)(ws:List (Nat×W))(lw:List Lw):List Nat->Code->St->Option (Ob×Ex×St)
 |_,.skip,s=>some (.c .t,.normal,s)
 |_,.label _,s=>some (.c .t,.normal,s)
 |_,.region _ ops d,s=>match KR P ops d ws (SI ops s)with
  |some (Φ,s')=>some (Φ,.normal,s')
  |none=>none
 |p,.seq a b,s=>match Id lw p s with
  |some r=>r
  |none=>match Bv P ws lw (0::p) a s with
   |some (Φ,.normal,s1)=>match Bv P ws lw (1::p) b s1 with
    |some (Ψ,e,s2)=>some (Φ.and Ψ,e,s2)
    |none=>none
   |r=>r
 |p,.cond c a b,s=>match Id lw p s with
  |some r=>r
  |none=>match s.ev c with
   | .d (.v (.bool true))=>Bv P ws lw (0::p) a s
   | .d (.v (.bool false))=>Bv P ws lw (1::p) b s
   |_=>none
 |p,.block id b,s=>match Id lw p s with
  |some r=>r
  |none=>match Bv P ws lw (0::p) b s with
   |some (Φ,.exit j,s')=>if j=id then some (Φ,.normal,s')else some (Φ,.exit j,s')
   |r=>r
 |p,.loop _,s=>match Id lw p s with
  |some r=>r
  |none=>none
 |p,.rangeFunc _ _ _ _,s=>match Id lw p s with
  |some r=>r
  |none=>none
 |p,.scope b,s=>match Id lw p s with
  |some r=>r
  |none=>Bv P ws lw (0::p) b s
 |_,.exit id,s=>some (.c .t,.exit id,s)
 |_,.ret,s=>some (.c .t,.ret,s)
 |_,_,_=>none

def Dz(P:Program)(rd:Option Nat)(root:Code):Lp:=fun p s e s'=>AC P rd (A3 root p) s fun e1 s1=>e1=e/\s1=s'

theorem AC.done{P:Program}{rd:Option Nat}{c:Code}{s:St}{Ψ:Ex->St->Prop}{e:Ex}(hw:∀a w Q,Q e.toExit a w->c.wpIn (fc rd) 0 P Q a w)(h:Ψ e s):AC P rd c s Ψ:=
 fun h' w val a H Q hQ=>hw a w Q (hQ e s h' w val a h H (Nx.refl s h' w val rfl))
theorem AC.mono{P:Program}{rd:Option Nat}{c:Code}{s:St}{Ψ Ψ':Ex->St->Prop}(h:AC P rd c s Ψ)(hp:∀e s1,Ψ e s1->Ψ' e s1):AC P rd c s Ψ':=
 h.post fun e s1 hΨ=>⟨s1,Wk.refl _,hp e s1 hΨ⟩

theorem C1{P:Program}{rd:Option Nat}{root:Code}{lw:List Lw}{p:List Nat}{c:Code}{s s':St}{Φ:Ob}{e:Ex}{r:Option (Ob×Ex×St)}(hp:A3 root p=c)(hc:Id lw p s=some r)(he:r=some (Φ,e,s'))(hΦ:Φ.ok P (Dz P rd root)):AC P rd c s fun e1 s1=>e1=e/\s1=s':=by unfold Id at hc;split at hc;rename_i q hq;simp only[oe]at hc;rw[he]at hc;split at hc;rename_i s1 hs1;simp only[oe,pe]at hc;obtain⟨rfl,rfl,rfl⟩:=hc;have h2:AC P rd (A3 root p) s1 fun e1 s1=>e1=q.e/\s1=q.s:=hΦ;rw[hp]at h2;exact AC.wk (JI hs1) h2;cases hc;cases hc

theorem He{P:Program}{rd:Option Nat}{root:Code}{ws:List (Nat×W)}{lw:List Lw}(hm:P.follows .mixedOrders=true):∀(c:Code) (p:List Nat) (s s':St) (Φ:Ob) (e:Ex),A3 root p=c->
 Bv P ws lw p c s=some (Φ,e,s')->Φ.ok P (Dz P rd root)->AC P rd c s fun e1 s1=>e1=e/\s1=s':=by
 intro c
 induction c with
 |skip=>
  intro p s s' Φ e _ he _
  simp only[Bv,oe,pe]at he
  obtain⟨_,rfl,rfl⟩:=he
  exact AC.done (e:=.normal) (fun a w Q=>wpIn_skip) ⟨rfl,rfl⟩
 |label l=>
  intro p s s' Φ e _ he _
  simp only[Bv,oe,pe]at he
  obtain⟨_,rfl,rfl⟩:=he
  exact AC.done (e:=.normal) (fun a w Q=>wpIn_label) ⟨rfl,rfl⟩
 |exit id=>
  intro p s s' Φ e _ he _
  simp only[Bv,oe,pe]at he
  obtain⟨_,rfl,rfl⟩:=he
  exact AC.done (e:=.exit id) (fun a w Q=>wpIn_exit) ⟨rfl,rfl⟩
 |ret=>
  intro p s s' Φ e _ he _
  simp only[Bv,oe,pe]at he
  obtain⟨_,rfl,rfl⟩:=he
  exact AC.done (e:=.ret) (fun a w Q=>wpIn_ret) ⟨rfl,rfl⟩
 |region id ops d=>
  intro p s s' Φ e _ he hΦ
  simp only[Bv]at he
  split at he
  rename_i Φ' s1 hr
  simp only[oe,pe]at he
  obtain⟨rfl,rfl,rfl⟩:=he
  exact AC.wk (SJ ops s) fun h w val a H Q hQ=>Mq hm hr hΦ H fun h' w' val' a' H' n'=>hQ .normal _ h' w' val' a' ⟨rfl,rfl⟩ H' n'
  cases he
 |seq x y ihx ihy=>
  intro p s s' Φ e hp he hΦ
  simp only[Bv]at he
  have hpx:A3 root (0::p)=x:=by simp only[A3,hp,IZ]
  have hpy:A3 root (1::p)=y:=by simp only[A3,hp,IZ]
  split at he
  rename_i hcut;exact C1 hp hcut he hΦ
  split at he
  rename_i Φ1 s1 h1
  split at he
  rename_i Ψ e2 s2 h2
  simp only[oe,pe]at he
  obtain⟨rfl,rfl,rfl⟩:=he
  obtain⟨o1,o2⟩:=Ob.and_ok hΦ
  refine AC.seq ((ihx _ _ _ _ _ hpx h1 o1).mono ?_)
  rintro e1 s1' ⟨rfl,rfl⟩
  exact ihy _ _ _ _ _ hpy h2 o2
  cases he
  rename_i hne
  refine AC.seq ((ihx _ _ _ _ _ hpx he hΦ).mono ?_)
  rintro e1 s1' ⟨rfl,rfl⟩
  cases e1 with
  |normal=>exact absurd he (hne _ _)
  |exit id=>exact⟨rfl,rfl⟩
  |ret=>exact⟨rfl,rfl⟩
 |cond c x y ihx ihy=>
  intro p s s' Φ e hp he hΦ
  simp only[Bv]at he
  have hpx:A3 root (0::p)=x:=by simp only[A3,hp,IZ]
  have hpy:A3 root (1::p)=y:=by simp only[A3,hp,IZ]
  split at he
  rename_i hcut;exact C1 hp hcut he hΦ
  split at he
  rename_i hc
  exact AC.cond (b:=true) hc (ihx _ _ _ _ _ hpx he hΦ)
  rename_i hc
  exact AC.cond (b:=false) hc (ihy _ _ _ _ _ hpy he hΦ)
  cases he
 |block id b ih=>
  intro p s s' Φ e hp he hΦ
  simp only[Bv]at he
  have hpb:A3 root (0::p)=b:=by simp only[A3,hp,IZ]
  split at he
  rename_i hcut;exact C1 hp hcut he hΦ
  split at he
  rename_i Φ1 j s1 h1
  split at he
  rename_i hj
  simp only[oe,pe]at he
  obtain⟨rfl,rfl,rfl⟩:=he
  refine AC.block ((ih _ _ _ _ _ hpb h1 hΦ).mono ?_)
  rintro e1 s1' ⟨rfl,rfl⟩
  simp[hj]
  rename_i hj
  simp only[oe,pe]at he
  obtain⟨rfl,rfl,rfl⟩:=he
  refine AC.block ((ih _ _ _ _ _ hpb h1 hΦ).mono ?_)
  rintro e1 s1' ⟨rfl,rfl⟩
  simp[hj]
  rename_i hne
  refine AC.block ((ih _ _ _ _ _ hpb he hΦ).mono ?_)
  rintro e1 s1' ⟨rfl,rfl⟩
  cases e1 with
  |normal=>exact⟨rfl,rfl⟩
  |exit id=>exact absurd he (hne _ _ _)
  |ret=>exact⟨rfl,rfl⟩
 |loop b ih=>
  intro p s s' Φ e hp he hΦ
  simp only[Bv]at he
  split at he
  rename_i hcut;exact C1 hp hcut he hΦ
  cases he
 |rangeFunc f params assign body _ _=>
  intro p s s' Φ e hp he hΦ
  simp only[Bv]at he
  split at he
  rename_i hcut;exact C1 hp hcut he hΦ
  cases he
 |scope b ih=>
  intro p s s' Φ e hp he hΦ
  simp only[Bv]at he
  have hpb:A3 root (0::p)=b:=by simp only[A3,hp,IZ]
  split at he
  rename_i hcut;exact C1 hp hcut he hΦ
  exact AC.scope (ih _ _ _ _ _ hpb he hΦ)
 |goto l=>intro p s s' Φ e _ he _;simp only[Bv]at he;cases he
 |refuse why=>intro p s s' Φ e _ he _;simp only[Bv]at he;cases he

def Ru:Code->Bool
 | .loop _=>true
 |_=>false
def NJ(tmps:Array Value):ResultVar->Sem Value
 | .tmp t=>pure (tmps.getD t undef)
 | .cell a t=>do loadVar t (<-asAddr (tmps.getD a undef))
def rvA(P:Program)(s:St):ResultVar->Option A
 | .tmp t=>some (s.look (s.E.getD t .any))
 | .cell t ty=>match s.E.getD t .any with
  | .box n off=>match lk s.B n with
   |some (.cells cs)=>(Fx P ty (cs.map s.look) off).map s.look
   |_=>none
  |_=>none
def aCc(P:Program)(s:St):List ResultVar->Option (List A)
 |[]=>some []
 |x::l=>match rvA P s x,aCc P s l with
  |some a,some as'=>some (a::as')
  |_,_=>none
def JA(P:Program)(s:St)(rs:List ResultVar):Option A:=
 match aCc P s rs with
 |some [a]=>some a
 |some as'=>some (.tup as')
 |none=>none
theorem K4{s:St}{h w val}{a:Act}(H:AR s h w val a):∀{cs:List A} {us:List Value},RAs h w val cs us->RAs h w val (cs.map s.look) us
 |[],_,hr=>hr
 |c::cs,us,hr=>by
  simp only[RAs]at hr;obtain⟨u,us',rfl,h1,h2⟩:=hr;simp only[List.map_cons,RAs];exact⟨u,us',rfl,H.look h1,K4 H h2⟩
theorem aCb{P:Program}{s:St}{h w val}{a:Act}(H:AR s h w val a){x:ResultVar}{r:A}(he:rvA P s x=some r):∃u,(NJ a.tmps x).run P w=.ok u w/\RA h w val r u:=by
 cases x with
 |tmp t=>
  simp only[rvA,oe]at he
  subst he
  exact⟨a.tmps.getD t undef,by simp[NJ],H.look (H.ev (.tmp t))⟩
 |cell t ty=>
  simp only[rvA]at he
  split at he
  rename_i n off hx
  split at he
  rename_i cs hl
  simp only[om]at he
  obtain⟨v,hv,rfl⟩:=he
  have hx':=H.ev (.tmp t)
  simp only[St.ev,hx,RA]at hx'
  obtain⟨b,e1,e2⟩:=hx'
  have hb:=H.inv.rep (n,.cells cs) (ml _ (Af hl))
  obtain⟨g,us,tt,e3,hg,hr,h1,_⟩:=hb
  simp only at e3
  rw[e1]at e3
  cases e3
  obtain⟨u,g1,g2⟩:=C5 (P:=P) (a:=⟨b,0,none⟩) hv (K4 H hr) h1 (fun j v hj=>by rw[Addr.add_lit,Nat.zero_add,cell_of_row w b j ⟨us⟩ tt (0,0) hg];simpa using hj)
  rw[Addr.add_lit,Nat.zero_add]at g1
  refine⟨u,?_,H.look g2⟩
  have e2':a.tmps.getD t undef=.pointer (some ⟨b,off,none⟩):=e2
  simp[NJ,e2',asAddr,g1]
  cases he
  cases he
theorem Kv{P:Program}{s:St}{h w val}{a:Act}(H:AR s h w val a):∀{l:List ResultVar} {as':List A},aCc P s l=some as'->∃us,(l.mapM (NJ a.tmps)).run P w=.ok us w/\RAs h w val as' us
 |[],as',he=>by simp only[aCc,oe]at he;subst he;exact⟨[],by simp,by simp[RAs]⟩
 |x::l,as',he=>by
  simp only[aCc]at he;split at he;rename_i r as' h1 h2;simp only[oe]at he;subst he;obtain⟨u,g1,g2⟩:=aCb H h1;obtain⟨us,g3,g4⟩:=Kv H h2;exact⟨u::us,by simp[List.mapM_cons,g1,g3],by simp only[RAs];exact⟨u,us,rfl,g2,g4⟩⟩;cases he
theorem MS{P:Program}{s:St}{h w val}{a:Act}(H:AR s h w val a){fn:Func}{r:A}(he:JA P s fn.results.toList=some r):∃u,(results fn a.tmps).run P w=.ok u w/\RA h w val r u:=by
 unfold JA at he;have hres:∀us,(fn.results.toList.mapM (NJ a.tmps)).run P w=.ok us w->(results fn a.tmps).run P w=.ok (if hs:us.toArray.size=1 then us.toArray[0]else .tuple us.toArray) w:=by
  intro us hus;have e:results fn a.tmps=(do let vs<-fn.results.mapM (NJ a.tmps);pure (if h:vs.size=1 then vs[0]else .tuple vs)):=by unfold results;congr 1
  rw[e,Array.mapM_eq_mapM_toList];simp[hus]
 split at he;rename_i r' hr;simp only[oe]at he;subst he;obtain⟨us,g1,g2⟩:=Kv H hr;simp only[RAs]at g2;obtain⟨u,us',rfl,g3,rfl⟩:=g2;exact⟨u,by rw[hres _ g1];simp,g3⟩;rename_i as' hne hr;simp only[oe]at he;subst he;obtain⟨us,g1,g2⟩:=Kv H hr;have hl:=g2.length;have:us.length≠1:=by
  intro e;match as',hne,hl with
  |[],_,hl=>simp at hl;rw[hl]at e;simp at e
  |[x],hne,_=>exact hne x rfl
  |_::_::_,_,hl=>simp at hl;omega
 exact⟨.tuple ⟨us⟩,by rw[hres _ g1];simp[this],by simp only[RA];exact⟨us,rfl,g2⟩⟩;cases he

def RE(P:Program)(f:FuncId)(ws:List (Nat×W))(lw:List Lw)(wk:List Ws)(args:List A)(F0:Bx):Option (Ob×A×Bx):=
 match P.funcs[f]? with
 |some fn=>match fn.body with
  |some c=>if GD args then
   match Bv P ws lw [] c ⟨args++List.replicate (fn.ntmps-args.length) (.tup []),[],F0⟩with
   |some (Φ,.ret,s')=>(wks wk s').bind fun s2=>(JA P s2 fn.results.toList).map fun r=>(Φ,r,s2.F)
   |some (Φ,.normal,s')=>(wks wk s').bind fun s2=>(JA P s2 fn.results.toList).map fun r=>(Φ,r,s2.F)
   |_=>none
   else none
  |_=>none
 |none=>none
theorem IM{h w val}(n:Nat):RAs h w val (List.replicate n (.tup [])) (List.replicate n undef):=by
 induction n with
 |zero=>simp[RAs]
 |succ n ih=>simp only[List.replicate_succ,RAs];exact⟨undef,_,rfl,HA,ih⟩

def EF(P:Program)(f:FuncId):Code:=((P.funcs[f]?).bind (·.body)).getD .skip

theorem KV{w:World}{D:Nat}{o o':Obj}(hD:w.heap[D]? =some o)(ho:o.isCells=false){b i:Nat}{v:Value}(hc:w.cell? ⟨b,i,none⟩=some v):(w.putObj D o').cell? ⟨b,i,none⟩=some v:=by
 by_cases h:b=D;subst h;unfold World.cell? at hc;simp only[hD]at hc;cases o<;>simp_all [Obj.isCells];unfold World.cell? at hc⊢;have:(w.putObj D o').heap[b]? =w.heap[b]? :=by simp[World.putObj,Array.getElem?_setIfInBounds,Ne.symm h]
 simp only[this];exact hc
theorem Fo{M:List Nat}{h:Hw}{w:World}{D:Nat}{o o':Obj}(hD:w.heap[D]? =some o)(ho:o.isCells=false)(hM:D∈M):BI M h w h (w.putObj D o') where
 os:=rfl
 tape:=rfl
 output:=rfl
 size:=by simp[World.putObj]
 cells:=fun b i v _ hc=>KV hD ho hc
 mono:=fun _ _=>Nat.le_refl _
 far:=fun b _ hn=>⟨by have:b≠D:=fun e=>hn (e▸hM);simp[World.putObj,Array.getElem?_setIfInBounds,Ne.symm this],rfl⟩
theorem AR.shut{s:St}{h:Hw}{w:World}{val:Val}{a:Act}{D:Nat}{o':Obj}(H:AR s h w val a)(hD:w.heap[D]? =some (.deferred (some []))):AR s h (w.putObj D o') val {a with defers:=[]}:=by
 have hk:BI [D] h w h (w.putObj D o'):=Fo hD rfl (by simp);refine⟨RAs.stays hk.stays _ _ _ H.e,⟨fun p hp=>RB.stays hk.stays (fun g hg=>?_) (H.inv.rep p hp),H.inv.nms,H.inv.bks,(by first|exact H.inv.glob.stays hk.stays|exact H.inv.glob|exact I.glob|exact I.glob.stays k.stays|exact H.inv.glob.stays k.stays|exact hI.glob|exact hInv.glob|exact hI0.glob|exact hIX.glob|exact H'.inv.glob|exact hI.glob.stays hk.stays|exact H1.inv.glob|exact hIR.glob|exact H.glob|exact hI.glob.stays k.stays|exact H.inv.glob.stays n.keep.stays|exact hI.glob.stays n.keep.stays|exact h.inv.glob|exact H2.inv.glob|exact hI'.glob)⟩,H.far,B8.nil (Nat.le_trans H.defs.1 hk.size)⟩
 have hgm:=Inv.blk_mem hp hg;refine hk.far g (H.inv.blk_lt g hgm) fun hin=>?_;simp only[List.mem_singleton]at hin;subst hin;have:=H.inv.blk_def g hgm _ hD;cases this
theorem Kh{P:Program}{fn:Func}{R:Ending->World->Prop}{s:St}{h:Hw}{val:Val}{tmps:Array Value}:∀(Ds:List Nat) (w:World) (a:Act),a.tmps=tmps->AR s h w val a->Ds.Nodup->(∀D∈Ds,w.heap[D]? =some (.deferred (some [])))->
 (∀w' a',a'.tmps=tmps->AR s h w' val a'->BI Ds h w h w'->∃v,(results fn tmps).run P w'=.ok v w'/\R (.returned v) w')->LeavesInM (fc none) 0 P fn tmps R (Ds.map fun D=>{target:=.collected D,args:= #[]}) .returning w
 |[],w,a,ha,H,_,_,hR=>hR w a ha H (BI.refl _ _ _)
 |D::Ds,w,a,ha,H,hn,hd,hR=>by
  have hD:=hd D (.head _);obtain⟨hn1,hn2⟩:=List.nodup_cons.1 hn;refine⟨by simp,.inl ⟨D,_,rfl,run_takeDeferred hD,?_⟩⟩;refine Kh Ds (w.putObj D (.deferred none)) {a with defers:=[]} ha (H.shut hD) hn2 (fun D' hD'=>?_) fun w' a' ha' H' hk=>?_
  have h1:=hd D' (.tail _ hD');have hne:D≠D':=fun e=>hn1 (e▸hD');simpa[World.putObj,Array.getElem?_setIfInBounds,hne]using h1;refine hR w' a' ha' H' ((Fo hD rfl (by simp)).trans (hk.mono' fun x hx=>.inl (List.mem_cons_of_mem _ hx)) fun b hb=>.inl hb)

theorem L1{P:Program}{f:FuncId}{ws:List (Nat×W)}{lw:List Lw}{wk:List Ws}{args:List A}{F0 F':Bx}{Φ:Ob}{r:A}(hm:P.follows .mixedOrders=true)
 (he:RE P f ws lw wk args F0=some (Φ,r,F')) (hΦ:Φ.ok P (Dz P none (EF P f))) (hb:r.bare=true) (hF0:Far F0) (hcl:∀p∈F',∀m,p.2.has m=true->m∈AK F'):
 ∀h w val vs,Inv h w val F0->RAs h w val args vs->Calls P f ⟨vs⟩ w fun e w'=>∃h' val' u,e=.returned u/\Inv h' w' val' F'/\RA h' w' val' r u/\BI (AZ val F0) h w h' w'/\(∀n,n∉AK F'->val' n=val n)/\∀b∈AZ val' F',b∈AZ val F0\/w.heap.size<=b:=by
 intro h w val vs hInv hargs
 unfold RE at he
 split at he
 ·rename_i fn hfn
  split at he
  ·rename_i c hc
   split at he
   case isFalse=>cases he
   rename_i hbare
   have hroot:EF P f=c:=by simp[EF,hfn,hc]
   rw[hroot]at hΦ
   have hn:vs.length=args.length:=hargs.length
   let val0:Val:=Al val bn (.int .i64 (w.heap.size:Int))
   have hv0:∀m,m≠bn->val0 m=val m:=fun m hm=>by simp[val0,Al,hm]
   have hI0:Inv h w val0 F0:=⟨fun p hp=>RB.upd hv0 (hF0 bn (.inr (rfl)) p hp).1 (hF0 bn (.inr (rfl)) p hp).2 (hInv.rep p hp),hInv.nms,by
    rw[BJ fun m hm=>hv0 m fun e=>by obtain⟨p,hp,e2⟩:=mm.1 hm;exact(hF0 bn (.inr (rfl)) p hp).1 (e2.trans e)]
    exact hInv.bks,(by first|exact H.inv.glob.stays hk.stays|exact H.inv.glob|exact I.glob|exact I.glob.stays k.stays|exact H.inv.glob.stays k.stays|exact hI.glob|exact hInv.glob|exact hI0.glob|exact hIX.glob|exact H'.inv.glob|exact hI.glob.stays hk.stays|exact H1.inv.glob|exact hIR.glob|exact H.glob|exact hI.glob.stays k.stays|exact H.inv.glob.stays n.keep.stays|exact hI.glob.stays n.keep.stays|exact h.inv.glob|exact H2.inv.glob|exact hI'.glob)⟩
   have hblk0:AZ val0 F0=AZ val F0:=BJ fun m hm=>hv0 m fun e=>by obtain⟨p,hp,e2⟩:=mm.1 hm;exact(hF0 bn (.inr (rfl)) p hp).1 (e2.trans e)
   have H:AR ⟨args++List.replicate (fn.ntmps-args.length) (.tup []),[],F0⟩ h w val0 {tmps:=⟨vs⟩++Array.replicate (fn.ntmps-vs.length) undef,defers:=[]}:=by refine⟨?_,hI0,hF0,B8.nil (by simp[ED,val0,Al])⟩;simp only[Array.toList_append,Array.toList_replicate];rw[hn];exact(RAs.bare _ _ hbare hargs).append (IM _)
   have key:∀(e:Ex) (s':St),(e=.ret\/e=.normal)->Bv P ws lw [] c ⟨args++List.replicate (fn.ntmps-args.length) (.tup []),[],F0⟩=some (Φ,e,s')->((wks wk s').bind fun s2=>(JA P s2 fn.results.toList).map fun r=>(Φ,r,s2.F))=some (Φ,r,F')->
    Calls P f ⟨vs⟩ w fun e w'=>∃h' val' u,e=.returned u/\Inv h' w' val' F'/\RA h' w' val' r u/\BI (AZ val F0) h w h' w'/\(∀n,n∉AK F'->val' n=val n)/\∀b∈AZ val' F',b∈AZ val F0\/w.heap.size<=b:=by
    intro e s' hor hrun hr
    refine callsIn_wide.1 (callsIn_of_wp_marks (F:=.wide) (n:=0) hfn hc trivial ?_)
    refine He (rd:=none) hm c [] _ s' Φ e rfl hrun hΦ h w val0 _ H _ ?_
    rintro e1 s1 h1 w1 v1 a1 ⟨rfl,rfl⟩ H1 n1
    simp only[Option.bind_eq_some_iff,om,pe,true_and]at hr
    obtain⟨s2,hwk,r2,hr,rfl,rfl⟩:=hr
    obtain⟨h2,v2,H2,n2⟩:=JI hwk _ _ _ _ H1
    have n3:=n1.trans n2
    obtain⟨_,Ds,eD,hDn,hD⟩:=H2.defs
    have hbd:ED v2=w.heap.size:=by unfold ED;rw[n3.vals bn (by decide)];simp[val0,Al]
    have hL:LeavesInM (fc none) 0 P fn a1.tmps (fun e w'=>∃h' val' u,e=.returned u/\Inv h' w' val' s2.F/\RA h' w' val' r2 u/\BI (AZ val F0) h w h' w'/\(∀n,n∉AK s2.F->val' n=val n)/\∀b∈AZ val' s2.F,b∈AZ val F0\/w.heap.size<=b) a1.defers .returning w1:=by
     rw[eD];refine Kh Ds w1 a1 rfl H2 hDn (fun D hD1=>(hD D hD1).1) fun w' a' ha' H' hk=>?_;obtain⟨u,g1,g2⟩:=MS H' hr;rw[ha']at g1;let v3:Val:=fun n=>if n∈AK s2.F then v2 n else val n
     have hfar:∀p∈s2.F,(∀m,m=p.1\/p.2.has m=true->v3 m=v2 m):=fun p hp m hm=>if_pos (by
      rcases hm with rfl|hm
      exact mm.2 ⟨p,hp,rfl⟩;exact hcl p hp m hm)
     have hbF:AZ v3 s2.F=AZ v2 s2.F:=BJ fun m hm=>if_pos hm;have hIR:=Inv.right H'.inv;refine⟨u,g1,h2,v3,u,rfl,⟨fun p hp=>RB.congr (hfar p hp p.1 (.inl rfl)) (fun m hm=>hfar p hp m (.inr hm)) (hIR.rep p hp),hIR.nms,by rw[hbF];exact hIR.bks,(by first|exact H.inv.glob.stays hk.stays|exact H.inv.glob|exact I.glob|exact I.glob.stays k.stays|exact H.inv.glob.stays k.stays|exact hI.glob|exact hInv.glob|exact hI0.glob|exact hIX.glob|exact H'.inv.glob|exact hI.glob.stays hk.stays|exact H1.inv.glob|exact hIR.glob|exact H.glob|exact hI.glob.stays k.stays|exact H.inv.glob.stays n.keep.stays|exact hI.glob.stays n.keep.stays|exact h.inv.glob|exact H2.inv.glob|exact hI'.glob)⟩,RA.bare _ _ hb g2,?_,fun n hn=>if_neg hn,fun b hb=>?_⟩
     have hK:=n3.keep.trans hk fun x hx=>.inr (by rw[<-hbd];exact(hD x hx).2);have hall:AZ val0 (⟨args++List.replicate (fn.ntmps-args.length) (.tup []),[],F0⟩:St).all=AZ val F0:=hblk0;rw[hall]at hK;exact hK;rw[hbF]at hb;have:=n3.new b (by show b∈AZ v2 (s2.B++s2.F);rw[AM];exact mr _ hb);rw[<-hblk0];exact this
    rcases hor with rfl|rfl
    exact hL
    exact hL
   split at he
   rename_i Φ' s' hrun
   have:Φ'=Φ:=by simp only[Option.bind_eq_some_iff,om,pe]at he;obtain⟨_,_,_,_,h,_⟩:=he;exact h
   subst this
   exact key .ret s' (.inl rfl) hrun he
   rename_i Φ' s' hrun
   have:Φ'=Φ:=by simp only[Option.bind_eq_some_iff,om,pe]at he;obtain⟨_,_,_,_,h,_⟩:=he;exact h
   subst this
   exact key .normal s' (.inr rfl) hrun he
   cases he
  cases he
 cases he
def aG1(P:Program)(f:FuncId)(ws:List (Nat×W))(lw:List Lw)(wk:List Ws)(args:List A):Option (Ob×A):=(RE P f ws lw wk args []).bind fun p=>match p.2.2 with
 |[]=>some (p.1,p.2.1)
 |_=>none
theorem Wx{P:Program}{f:FuncId}{ws:List (Nat×W)}{lw:List Lw}{wk:List Ws}{args:List A}{Φ:Ob}{r:A}(hm:P.follows .mixedOrders=true)
 (he:aG1 P f ws lw wk args=some (Φ,r)) (hΦ:Φ.ok P (Dz P none (EF P f))) (hb:r.bare=true):AL P f args [] r []:=by
 unfold aG1 at he
 simp only[Option.bind_eq_some_iff]at he
 obtain⟨⟨Φ',r',F'⟩,h1,he⟩:=he
 simp only at he
 split at he
 simp only[oe,pe]at he
 obtain⟨rfl,rfl⟩:=he
 intro h w val vs hI hargs
 refine(L1 hm h1 hΦ hb (fun _ _ _ h=>by cases h) (fun _ h=>by cases h) h w val vs hI hargs).mono fun e w' hh=>?_
 obtain⟨h',val',u,rfl,hI',hr,hk,hv,hn⟩:=hh
 exact⟨h',val',u,rfl,hI',hr,hk,fun n _=>hv n (by simp[AK]),hn⟩
 cases he
theorem Mk{P:Program}{f:FuncId}{ws:List (Nat×W)}{lw:List Lw}{wk:List Ws}{args:List A}{F0 F':Bx}{Φ:Ob}{r:A}(hm:P.follows .mixedOrders=true)
 (he:RE P f ws lw wk args F0=some (Φ,r,F')) (hΦ:Φ.ok P (Dz P none (EF P f))) (hb:r.bare=true) (hF0:Far F0) (hcl:∀p∈F',∀m,p.2.has m=true->m∈AK F'):IK P f args F0 r F':=
 fun h w val vs hI hargs=>L1 hm he hΦ hb hF0 hcl h w val vs hI hargs

end Go.Ac
namespace Go.Ac
def vx:Nat:=997
mutual
def A.fix:A->Bool
 | .box _ _=>true
 | .row _=>true
 | .clo _ fs cs=>Vw fs&&Vw cs
 | .agg cs=>Vw cs
 | .tup cs=>Vw cs
 | .d _=>true
 | .eptr _=>true
 | .nil=>true
 |_=>false
def Vw:List A->Bool
 |[]=>true
 |a::as'=>a.fix&&Vw as'
end
mutual
theorem RA.det{h w h' w'}{val val':Val}:∀(a:A) (u:Value),a.fix=true->RA h w val a u->RA h' w' val' a u->∀n,a.has n=true->val' n=val n
 | .box m off,u,_,h1,h2,n,hn=>by
  simp only[A.has,beq_iff_eq]at hn;subst hn;simp only[RA]at h1 h2;obtain⟨b,e1,e2⟩:=h1;obtain⟨b',e3,e4⟩:=h2;rw[e2]at e4;cases e4;rw[e1,e3]
 | .row m,u,_,h1,h2,n,hn=>by
  simp only[A.has,beq_iff_eq]at hn;subst hn;simp only[RA]at h1 h2;rw[<-h1.1,<-h2.1]
 | .clo f fs cs,u,hf,h1,h2,n,hn=>by
  simp only[A.fix,ba]at hf;simp only[RA]at h1 h2;obtain⟨x,y,e,a1,a2⟩:=h1;obtain⟨x',y',e',b1,b2⟩:=h2;rw[e]at e';cases e';simp only[A.has,Bool.or_eq_true]at hn;rcases hn with hn|hn
  exact RAs.det fs x hf.1 a1 b1 n hn;exact RAs.det cs y hf.2 a2 b2 n hn
 | .agg cs,u,hf,h1,h2,n,hn=>by
  simp only[A.fix]at hf;simp only[RA]at h1 h2;obtain⟨x,e,a1,_⟩:=h1;obtain⟨x',e',b1,_⟩:=h2;rw[e]at e';cases e';exact RAs.det cs x hf a1 b1 n (by simpa only[A.has]using hn)
 | .tup cs,u,hf,h1,h2,n,hn=>by
  simp only[A.fix]at hf;simp only[RA]at h1 h2;obtain⟨x,e,a1⟩:=h1;obtain⟨x',e',b1⟩:=h2;rw[e]at e';cases e';exact RAs.det cs x hf a1 b1 n (by simpa only[A.has]using hn)
 | .d _,u,_,_,_,n,hn=>by simp[A.has]at hn
 | .eptr _,u,_,_,_,n,hn=>by simp[A.has]at hn
 | .nil,u,_,_,_,n,hn=>by simp[A.has]at hn
 | .bsl _ _ _,u,hf,_,_,n,hn=>by simp[A.fix]at hf
 | .ep _ _ _ _,u,hf,_,_,n,hn=>by simp[A.fix]at hf
 | .ub,u,hf,_,_,n,hn=>by simp[A.fix]at hf
 | .opq _,u,hf,_,_,n,hn=>by simp[A.fix]at hf
 | .any,u,hf,_,_,n,hn=>by simp[A.fix]at hf
theorem RAs.det{h w h' w'}{val val':Val}:∀(as':List A) (us:List Value),Vw as'=true->RAs h w val as' us->RAs h' w' val' as' us->∀n,AQ n as'=true->val' n=val n
 |[],us,_,_,_,n,hn=>by simp[AQ]at hn
 |a::as',us,hf,h1,h2,n,hn=>by
  simp only[Vw,ba]at hf;simp only[RAs]at h1 h2;obtain⟨u,us',rfl,a1,a2⟩:=h1;obtain⟨u',us2,e,b1,b2⟩:=h2;cases e;simp only[AQ,Bool.or_eq_true]at hn;rcases hn with hn|hn
  exact RA.det a u hf.1 a1 b1 n hn;exact RAs.det as' us' hf.2 a2 b2 n hn
end
def Eg(args:List A)(ks:List Nat):List A:=ks.map fun i=>match Nat.ble 1000 i with
 |true=>.box (i-1000) 0
 |false=>args.getD i .any
def aHf:Option Bk->Bool
 |some (.cells _)=>true
 |_=>false
def Rw(args:List A)(X:Bx)(i:Nat):Bool:=match Nat.ble 1000 i with
 |true=>aHf (lk X (i-1000))
 |false=>Nat.blt i args.length
def XN(vs:List Value)(val:Val)(i:Nat):Value:=match Nat.ble 1000 i with
 |true=>val (i-1000)
 |false=>vs.getD i undef
def Us(P:Program)(f:FuncId)(ws:List (Nat×W))(lw:List Lw)(wk:List Ws)(args:List A)(X:Bx)(ks:List Nat)(us:List Value):Option (Ob×A×Bx):=
 match P.funcs[f]? with
 |some fn=>match fn.body with
  |some c=>match Bv P ws lw [] c ⟨args++List.replicate (fn.ntmps-args.length) (.tup []),X++[(vx,.vals (Eg args ks) us)],[]⟩with
   |some (Φ,.ret,s')=>(wks wk s').bind fun s2=>(JA P s2 fn.results.toList).map fun r=>(Φ,r,s2.B)
   |some (Φ,.normal,s')=>(wks wk s').bind fun s2=>(JA P s2 fn.results.toList).map fun r=>(Φ,r,s2.B)
   |_=>none
  |_=>none
 |none=>none
def Vg(args:List A)(X:Bx)(ks:List Nat)(r:A)(X':Bx):Bool:=
 aCq args&&aG7 X&&A6 (fun n=>Nat.blt n vx) (AK X)&&A6 (Rw args X) ks&&Vw (Eg args ks)&&
 VM r (AK X')&&X'.all (fun p=>Vq p.2 (AK X'))&&A6 (fun n=> !Au n (AK X)||AQ n (Eg args ks)) (AK X')
theorem K3{h w}{val:Val}{args:List A}{vs:List Value}{X:Bx}(hI:Inv h w val X)(hr:RAs h w val args vs):∀(ks:List Nat),A6 (Rw args X) ks=true->RAs h w val (Eg args ks) (ks.map (XN vs val))
 |[],_=>by simp[Eg,RAs]
 |i::ks,hk=>by
  simp only[A6,ba]at hk;obtain⟨h0,hk⟩:=hk;have ih:=K3 hI hr ks hk;unfold Eg at ih;simp only[Eg,List.map_cons,RAs];refine⟨_,_,rfl,?_,ih⟩;unfold Rw at h0;unfold XN;cases hb:Nat.ble 1000 i with
  |true=>
   rw[hb]at h0
   simp only at h0
   cases hl:lk X (i-1000)with
   |none=>rw[hl]at h0;cases h0
   |some b=>
    rw[hl]at h0
    cases b<;>simp only[aHf,Bool.false_eq_true]at h0
    rename_i cs
    obtain⟨g,us,tt,e3,_⟩:=hI.rep (i-1000,.cells cs) (Af hl)
    simp only[RA]
    exact⟨g,e3,e3⟩
  |false=>
   rw[hb]at h0
   simp only[Nat.blt_eq]at h0
   obtain⟨u,hu,h1⟩:=RAs.get hr i _ (List.getElem?_eq_getElem h0)
   simp only[List.getD,hu,List.getElem?_eq_getElem h0,Option.getD_some]
   exact h1
theorem Ut{P:Program}{f:FuncId}{ws:List Value->List (Nat×W)}{lw:List Value->List Lw}{wk:List Value->List Ws}{args:List A}{X X':Bx}{ks:List Nat}{Φ:List Value->Ob}{r:A}(hm:P.follows .mixedOrders=true)
 (he:∀us,Us P f (ws us) (lw us) (wk us) args X ks us=some (Φ us,r,X'++[(vx,.vals (Eg args ks) us)])) (hΦ:∀us,(Φ us).ok P (Dz P none (EF P f))) (hx:Vg args X ks r X'=true):AL P f args X r X':=by
 intro h w val vs hInv hargs
 simp only[Vg,ba]at hx
 obtain⟨⟨⟨⟨⟨⟨⟨x1,x2⟩,x3⟩,x4⟩,x5⟩,x6⟩,x7⟩,x8⟩:=hx
 let us0:=ks.map (XN vs (Al val bn (.int .i64 (w.heap.size:Int))))
 replace he:=he us0
 replace hΦ:=hΦ us0
 unfold Us at he
 split at he
 rename_i fn hfn
 split at he
 rename_i c hc
 have hroot:EF P f=c:=by simp[EF,hfn,hc]
 rw[hroot]at hΦ
 have hn:vs.length=args.length:=hargs.length
 let val0:Val:=Al val bn (.int .i64 (w.heap.size:Int))
 have hv0:∀m,m≠bn->val0 m=val m:=fun m hm=>by simp[val0,Al,hm]
 have hlt:∀m,m<up->m≠bn:=fun m hm e=>by subst e;simp only[up,bn]at hm;omega
 have hX1:∀p∈X,val0 p.1=val p.1:=fun p hp=>hv0 _ (hlt _ (Kj x2 hp).1)
 have hblk0:AZ val0 X=AZ val X:=BJ fun m hm=>by obtain⟨p,hp,e2⟩:=mm.1 hm;rw[<-e2];exact hX1 p hp
 have hI0:Inv h w val0 X:=⟨fun p hp=>RB.congr (hX1 p hp) (fun m hm=>hv0 m (hlt m ((Kj x2 hp).2 m hm))) (hInv.rep p hp),hInv.nms,by rw[hblk0];exact hInv.bks,(by first|exact H.inv.glob.stays hk.stays|exact H.inv.glob|exact I.glob|exact I.glob.stays k.stays|exact H.inv.glob.stays k.stays|exact hI.glob|exact hInv.glob|exact hI0.glob|exact hIX.glob|exact H'.inv.glob|exact hI.glob.stays hk.stays|exact H1.inv.glob|exact hIR.glob|exact H.glob|exact hI.glob.stays k.stays|exact H.inv.glob.stays n.keep.stays|exact hI.glob.stays n.keep.stays|exact h.inv.glob|exact H2.inv.glob|exact hI'.glob)⟩
 have hargs0:RAs h w val0 args vs:=RAs.congr _ _ (fun n hn=>hv0 n (hlt n (R3 x1 n hn))) hargs
 have hkept0:RAs h w val0 (Eg args ks) us0:=K3 hI0 hargs0 ks x4
 have hbv:∀(v:Val) (Y:Bx) (as':List A) (us:List Value),AZ v (Y++[(vx,Bk.vals as' us)])=AZ v Y:=fun v Y as' us=>by rw[AM];have:AZ v [(vx,Bk.vals as' us)]=[]:=rfl;rw[this,List.append_nil]
 have hvxX:vx∉AK X:=fun hm=>by have:=Aq x3 vx hm;simp at this
 have H:AR ⟨args++List.replicate (fn.ntmps-args.length) (.tup []),X++[(vx,.vals (Eg args ks) us0)],[]⟩ h w val0 {tmps:=⟨vs⟩++Array.replicate (fn.ntmps-vs.length) undef,defers:=[]}:=by
  refine⟨?_,?_,(fun _ _ p hp=>by cases hp),B8.nil (by simp[ED,val0,Al])⟩;simp only[Array.toList_append,Array.toList_replicate];rw[hn];exact hargs0.append (IM _);show Inv h w val0 ((X++[(vx,.vals (Eg args ks) us0)])++[]);rw[List.append_nil];refine⟨fun p hp=>?_,?_,by rw[hbv];exact hI0.bks,(by first|exact H.inv.glob.stays hk.stays|exact H.inv.glob|exact I.glob|exact I.glob.stays k.stays|exact H.inv.glob.stays k.stays|exact hI.glob|exact hInv.glob|exact hI0.glob|exact hIX.glob|exact H'.inv.glob|exact hI.glob.stays hk.stays|exact H1.inv.glob|exact hIR.glob|exact H.glob|exact hI.glob.stays k.stays|exact H.inv.glob.stays n.keep.stays|exact hI.glob.stays n.keep.stays|exact h.inv.glob|exact H2.inv.glob|exact hI'.glob)⟩
  rcases ma.1 hp with hp|hp
  exact hI0.rep p hp;simp only[List.mem_singleton]at hp;subst hp;exact hkept0;rw[AI];refine List.nodup_append.2 ⟨hI0.nms,by simp[AK],fun x hx y hy e=>?_⟩;simp only[AK,List.map_cons,List.map_nil,List.mem_singleton]at hy;subst hy;subst e;exact hvxX hx
 have key:∀(e:Ex) (s':St),(e=.ret\/e=.normal)->Bv P (ws us0) (lw us0) [] c ⟨args++List.replicate (fn.ntmps-args.length) (.tup []),X++[(vx,.vals (Eg args ks) us0)],[]⟩=some (Φ us0,e,s')->
  ((wks (wk us0) s').bind fun s2=>(JA P s2 fn.results.toList).map fun r=>(Φ us0,r,s2.B))=some (Φ us0,r,X'++[(vx,.vals (Eg args ks) us0)])->
  Calls P f ⟨vs⟩ w fun e w'=>∃h' val' u,e=.returned u/\Inv h' w' val' X'/\RA h' w' val' r u/\BI (AZ val X) h w h' w'/\(∀n,(n∈AK X'->n∈AK X)->val' n=val n)/\∀b∈AZ val' X',b∈AZ val X\/w.heap.size<=b:=by
  intro e s' hor hrun hr
  refine callsIn_wide.1 (callsIn_of_wp_marks (F:=.wide) (n:=0) hfn hc trivial ?_)
  refine He (rd:=none) hm c [] _ s' (Φ us0) e rfl hrun hΦ h w val0 _ H _ ?_
  rintro e1 s1 h1 w1 v1 a1 ⟨rfl,rfl⟩ H1 n1
  simp only[Option.bind_eq_some_iff,om,pe,true_and]at hr
  obtain⟨s2,hwk,r2,hr,rfl,hB2⟩:=hr
  obtain⟨h2,v2,H2,n2⟩:=JI hwk _ _ _ _ H1
  have n3:=n1.trans n2
  obtain⟨_,Ds,eD,hDn,hD⟩:=H2.defs
  have hbd:ED v2=w.heap.size:=by unfold ED;rw[n3.vals bn (by decide)];simp[val0,Al]
  have hall:AZ val0 (⟨args++List.replicate (fn.ntmps-args.length) (.tup []),X++[(vx,.vals (Eg args ks) us0)],[]⟩:St).all=AZ val X:=by show AZ val0 ((X++[(vx,.vals (Eg args ks) us0)])++[])=_;rw[List.append_nil,hbv,hblk0]
  have hL:LeavesInM (fc none) 0 P fn a1.tmps (fun e w'=>∃h' val' u,e=.returned u/\Inv h' w' val' X'/\RA h' w' val' r2 u/\BI (AZ val X) h w h' w'/\(∀n,(n∈AK X'->n∈AK X)->val' n=val n)/\∀b∈AZ val' X',b∈AZ val X\/w.heap.size<=b) a1.defers .returning w1:=by
   rw[eD];refine Kh Ds w1 a1 rfl H2 hDn (fun D hD1=>(hD D hD1).1) fun w' a' ha' H' hk=>?_;obtain⟨u,g1,g2⟩:=MS H' hr;rw[ha']at g1;let v3:Val:=fun n=>if n∈AK X' then v2 n else val n
   have hv3:∀n∈AK X',v3 n=v2 n:=fun n hn=>if_pos hn;have hIB:Inv h2 w' v2 (X'++[(vx,.vals (Eg args ks) us0)]):=by rw[<-hB2];have:=H'.inv;unfold St.all at this;exact Inv.sub (List.sublist_append_left _ _) this
   have hkept2:RAs h2 w' v2 (Eg args ks) us0:=hIB.rep (vx,.vals (Eg args ks) us0) (mr _ (.head _));have hsame:∀n,n∈AK X'->n∈AK X->v2 n=val n:=fun n hn hnX=>by
    have h8:=Aq x8 n hn;simp only[Bool.or_eq_true,Bool.not_eq_true']at h8;rcases h8 with h8|h8
    exact absurd hnX (BU h8);rw[RAs.det _ _ x5 hkept0 hkept2 n h8];obtain⟨p,hp,e2⟩:=mm.1 hnX;rw[<-e2];exact hX1 p hp
   have hbX:AZ v3 X'=AZ v2 X':=BJ fun m hm=>hv3 m hm;have hIX:Inv h2 w' v2 X':=Inv.sub (List.sublist_append_left _ _) hIB;refine⟨u,g1,h2,v3,u,rfl,⟨fun p hp=>RB.congr (hv3 _ (mm.2 ⟨p,hp,rfl⟩)) (fun m hm=>hv3 m (RS ((List.all_eq_true.1 x7) p hp) m hm)) (hIX.rep p hp),hIX.nms,by rw[hbX];exact hIX.bks,(by first|exact H.inv.glob.stays hk.stays|exact H.inv.glob|exact I.glob|exact I.glob.stays k.stays|exact H.inv.glob.stays k.stays|exact hI.glob|exact hInv.glob|exact hI0.glob|exact hIX.glob|exact H'.inv.glob|exact hI.glob.stays hk.stays|exact H1.inv.glob|exact hIR.glob|exact H.glob|exact hI.glob.stays k.stays|exact H.inv.glob.stays n.keep.stays|exact hI.glob.stays n.keep.stays|exact h.inv.glob|exact H2.inv.glob|exact hI'.glob)⟩,
    RA.congr _ _ (fun n hn=>hv3 n (ML x6 n hn)) g2,?_,fun n hn=>?_,fun b hb=>?_⟩
   have hK:=n3.keep.trans hk fun x hx=>.inr (by rw[<-hbd];exact(hD x hx).2);rw[hall]at hK;exact hK;show(if n∈AK X' then v2 n else val n)=val n
   split;rename_i hin;exact hsame n hin (hn hin);rfl;rw[hbX]at hb;have hb2:b∈AZ v2 s2.all:=by show b∈AZ v2 (s2.B++s2.F);rw[AM,hB2,hbv];exact ml _ hb
   have:=n3.new b hb2;rw[hall]at this;exact this
  rcases hor with rfl|rfl
  exact hL
  exact hL
 split at he
 rename_i Φ' s' hrun
 have:Φ'=Φ us0:=by simp only[Option.bind_eq_some_iff,om,pe]at he;obtain⟨_,_,_,_,h,_⟩:=he;exact h
 subst this
 exact key .ret s' (.inl rfl) hrun he
 rename_i Φ' s' hrun
 have:Φ'=Φ us0:=by simp only[Option.bind_eq_some_iff,om,pe]at he;obtain⟨_,_,_,_,h,_⟩:=he;exact h
 subst this
 exact key .normal s' (.inr rfl) hrun he
 cases he
 cases he
 cases he
end Go.Ac
namespace Go.Ac

def Cn.okK:Cn->Prop->Prop
 | .t,k=>k
 | .both a b,k=>a.okK (b.okK k)
 |o,k=>o.ok/\k
def Ob.okK(P:Program)(L:Lp):Ob->Prop->Prop
 | .c x,k=>x.okK k
 | .both a b,k=>a.okK P L (b.okK P L k)
 |o,k=>o.ok P L/\k
theorem Cn.okK_iff:∀(x:Cn) (k:Prop),x.okK k↔x.ok/\k:=by
 intro x;induction x with
 |both a b iha ihb=>intro k;simp only[Cn.okK,iha,ihb,Cn.ok,and_assoc]
 |t=>intro k;simp[Cn.okK,Cn.ok]
 |_=>intro k;exact Iff.rfl
theorem Ob.okK_iff{P:Program}{L:Lp}:∀(x:Ob) (k:Prop),x.okK P L k↔x.ok P L/\k:=by
 intro x;induction x with
 |both a b iha ihb=>intro k;simp only[Ob.okK,iha,ihb,Ob.ok,and_assoc]
 |c x=>intro k;exact Cn.okK_iff x k
 |_=>intro k;exact Iff.rfl

def Arr(P:Program)(rd:Option Nat)(root:Code)(q:List Nat)(s:St)(e:Ex)(s':St):Prop:=
 AC P rd (A3 root q) s fun e1 s1=>e1=e/\Wk s1 s'
theorem Arr.lp{P:Program}{rd:Option Nat}{root:Code}{q:List Nat}{s s':St}{e:Ex}(h:Arr P rd root q s e s'):Dz P rd root q s e s':=
 AC.post h fun _ _ hh=>⟨s',hh.2,hh.1,rfl⟩
def NP(P:Program)(rd:Option Nat)(root:Code)(ws:List (Nat×W))(lw:List Lw)(q:List Nat)(l:List Ws)(s:St)(e:Ex)(s':St):Prop:=
 match Bv P ws lw q (A3 root q) s with
 |some (Φ,e1,s1)=>match wks l s1 with
  |some s2=>Φ.okK P (Dz P rd root) True/\(e1=e/\s2=s')
  |none=>False
 |none=>False
theorem NP.arr{P:Program}{rd:Option Nat}{root:Code}{ws:List (Nat×W)}{lw:List Lw}{q:List Nat}{l:List Ws}{s s':St}{e:Ex}(hm:P.follows .mixedOrders=true)
 (h:NP P rd root ws lw q l s e s'):Arr P rd root q s e s':=by
 unfold NP at h
 split at h
 rename_i Φ e1 s1 h1
 split at h
 rename_i s2 h2
 obtain⟨hΦ,rfl,rfl⟩:=h
 have hΦ:=((Ob.okK_iff _ _).1 hΦ).1
 exact(He hm _ _ _ _ _ _ rfl h1 hΦ).mono fun e1 s1' hh=>⟨hh.1,by rw[hh.2];exact JI h2⟩
 exact h.elim
 exact h.elim
def Sl(P:Program)(f:FuncId)(ws:List (Nat×W))(lw:List Lw)(wk:List Ws)(args:List A)(r:A):Prop:=
 match aG1 P f ws lw wk args with
 |some (Φ,r')=>Φ.okK P (Dz P none (EF P f)) True/\(r'=r/\r.bare=true)
 |none=>False
theorem Sl.call{P:Program}{f:FuncId}{ws:List (Nat×W)}{lw:List Lw}{wk:List Ws}{args:List A}{r:A}(hm:P.follows .mixedOrders=true)(h:Sl P f ws lw wk args r):AL P f args [] r []:=by unfold Sl at h;split at h;rename_i Φ r' h1;obtain⟨hΦ,rfl,hb⟩:=h;exact Wx hm h1 ((Ob.okK_iff _ _).1 hΦ).1 hb;exact h.elim
def Vl(P:Program)(f:FuncId)(ws:List (Nat×W))(lw:List Lw)(wk:List Ws)(args:List A)(X:Bx)(ks:List Nat)(us:List Value)(r:A)(X':Bx):Prop:=
 match Us P f ws lw wk args X ks us with
 |some (Φ,r',X'')=>Φ.okK P (Dz P none (EF P f)) True/\(r'=r/\X''=X'++[(vx,.vals (Eg args ks) us)]/\Vg args X ks r X'=true)
 |none=>False
theorem Vl.call{P:Program}{f:FuncId}{ws:List Value->List (Nat×W)}{lw:List Value->List Lw}{wk:List Value->List Ws}{args:List A}{X:Bx}{ks:List Nat}{r:A}{X':Bx}(hm:P.follows .mixedOrders=true)
 (h:∀us,Vl P f (ws us) (lw us) (wk us) args X ks us r X'):AL P f args X r X':=by
 have h2:∀us,∃Φ:Ob,Us P f (ws us) (lw us) (wk us) args X ks us=some (Φ,r,X'++[(vx,.vals (Eg args ks) us)])/\Φ.ok P (Dz P none (EF P f))/\Vg args X ks r X'=true:=by intro us;have:=h us;unfold Vl at this;split at this;rename_i Φ r' X'' h1;obtain⟨hΦ,rfl,rfl,hx⟩:=this;exact⟨Φ,h1,((Ob.okK_iff _ _).1 hΦ).1,hx⟩;exact this.elim
 exact Ut (ws:=ws) (lw:=lw) (wk:=wk) (Φ:=fun us=>Classical.choose (h2 us)) hm (fun us=>(Classical.choose_spec (h2 us)).1) (fun us=>(Classical.choose_spec (h2 us)).2.1) (h2 []).choose_spec.2.2
def Vk(P:Program)(f:FuncId)(ws:List (Nat×W))(lw:List Lw)(wk:List Ws)(args:List A)(F0:Bx)(r:A)(F':Bx):Prop:=
 match RE P f ws lw wk args F0 with
 |some (Φ,r',F'')=>Φ.okK P (Dz P none (EF P f)) True/\(r'=r/\F''=F'/\r.bare=true)
 |none=>False
theorem Vk.call{P:Program}{f:FuncId}{ws:List (Nat×W)}{lw:List Lw}{wk:List Ws}{args:List A}{F0 F':Bx}{r:A}(hm:P.follows .mixedOrders=true)(hF0:Far F0)(hcl:∀p∈F',∀m,p.2.has m=true->m∈AK F')
 (h:Vk P f ws lw wk args F0 r F'):IK P f args F0 r F':=by
 unfold Vk at h
 split at h
 rename_i Φ r' F'' h1
 obtain⟨hΦ,rfl,rfl,hb⟩:=h
 exact Mk hm h1 ((Ob.okK_iff _ _).1 hΦ).1 hb hF0 hcl
 exact h.elim
attribute [irreducible] NP Sl Vl Vk
theorem MT{P:Program}{rd:Option Nat}{root:Code}(hm:P.follows .mixedOrders=true)(ws:List (Nat×W))(lw:List Lw){q:List Nat}(l:List Ws){s s':St}{e:Ex}{p:Prop}(h:p)
 (he:(p/\(e=e/\s'=s'))=NP P rd root ws lw q l s e s'):Arr P rd root q s e s':=NP.arr (ws:=ws) (lw:=lw) (l:=l) hm (he.mp ⟨h,rfl,rfl⟩)
theorem SL{P:Program}{f:FuncId}(hm:P.follows .mixedOrders=true)(ws:List (Nat×W))(lw:List Lw)(wk:List Ws){args:List A}{r:A}{p:Prop}(h:p)
 (he:(p/\(r=r/\true=true))=Sl P f ws lw wk args r):AL P f args [] r []:=Sl.call (ws:=ws) (lw:=lw) (wk:=wk) hm (he.mp ⟨h,rfl,rfl⟩)

theorem SM{P:Program}{f:FuncId}(hm:P.follows .mixedOrders=true)(ws:List (Nat×W))(lw:List Lw)(wk:List Ws){args:List A}{F0 F':Bx}{r:A}(hF0:Far F0)(hcl:∀p∈F',∀m,p.2.has m=true->m∈AK F'){p:Prop}(h:p)
 (he:(p/\(r=r/\F'=F'/\true=true))=Vk P f ws lw wk args F0 r F'):IK P f args F0 r F':=Vk.call (ws:=ws) (lw:=lw) (wk:=wk) hm hF0 hcl (he.mp ⟨h,rfl,rfl,rfl⟩)

section
variable {σ τ:Type}
def itE(step:σ->Option (σ⊕τ)):Nat->σ->Option τ
 |0,_=>none
 |n+1,s=>match step s with
  |none=>none
  |some (.inl s')=>itE step n s'
  |some (.inr t)=>some t
theorem Hv{step:σ->Option (σ⊕τ)}:∀{n m:Nat} {s:σ} {t:τ},n<=m->itE step n s=some t->itE step m s=some t
 |0,_,s,t,_,h=>by simp[itE]at h
 |n+1,0,s,t,hle,h=>by omega
 |n+1,m+1,s,t,hle,h=>by
  simp only[itE]at h⊢;split at h;cases h;exact Hv (Nat.le_of_succ_le_succ hle) h;exact h
open Classical in
noncomputable def Ab(step:σ->Option (σ⊕τ))(s:σ):Option τ:=
 if h:∃t,∃n,itE step n s=some t then some (Classical.choose h)else none
theorem Dg{step:σ->Option (σ⊕τ)}{s:σ}{t:τ}:Ab step s=some t↔ ∃n,itE step n s=some t:=by unfold Ab;constructor;intro h;split at h;rename_i hh;simp only[oe]at h;rw[<-h];exact Classical.choose_spec hh;cases h;rintro⟨n,hn⟩;have hh:∃t,∃n,itE step n s=some t:=⟨t,n,hn⟩;rw[dif_pos hh];obtain⟨m,hm⟩:=Classical.choose_spec hh;have h1:=Hv (Nat.le_max_left n m) hn;have h2:=Hv (Nat.le_max_right n m) hm;rw[h1]at h2;exact h2.symm
def H4(o:Option (σ⊕τ))(k:σ->Option τ):Option τ:=match o with
 |none=>none
 |some (.inl s)=>k s
 |some (.inr t)=>some t
theorem Cj(step:σ->Option (σ⊕τ))(s:σ):Ab step s=H4 (step s) (Ab step):=by
 apply Option.ext;intro t;rw[Dg];unfold H4;cases hs:step s with
 |none=>
  constructor
  rintro⟨n,hn⟩
  cases n with
  |zero=>simp[itE]at hn
  |succ n=>simp[itE,hs]at hn
  intro h;simp at h
 |some x=>
  cases x with
  |inl s'=>
   simp only
   rw[Dg]
   constructor
   rintro⟨n,hn⟩
   cases n with
   |zero=>simp[itE]at hn
   |succ n=>exact⟨n,by simpa[itE,hs]using hn⟩
   rintro⟨n,hn⟩
   exact⟨n+1,by simpa[itE,hs]using hn⟩
  |inr t'=>
   constructor
   rintro⟨n,hn⟩
   cases n with
   |zero=>simp[itE]at hn
   |succ n=>simpa[itE,hs]using hn
   intro h
   exact⟨1,by simpa[itE,hs]using h⟩
end

theorem VK{P:Program}{rd:Option Nat}{root:Code}{p:List Nat}(hl:Ru (A3 root p)=true){σ τ:Type}{step:σ->Option (σ⊕τ)}{I:σ->St}{O:τ->Ex×St}(hO:∀t,(O t).1≠ .normal)
 (hn:∀s s',step s=some (.inl s')->Arr P rd root (0::p) (I s) .normal (I s')) (hx:∀s t,step s=some (.inr t)->Arr P rd root (0::p) (I s) (O t).1 (O t).2)
 {s:σ} {t:τ} (h:Ab step s=some t):Dz P rd root p (I s) (O t).1 (O t).2:=by
 obtain⟨n,hn0⟩:=Dg.1 h
 unfold Dz
 have hc:A3 root p=.loop (A3 root (0::p)):=by
  cases h:A3 root p with
  |loop b=>simp only[A3,h,IZ]
  |_=>rw[h]at hl;cases hl
 rw[hc]
 have hloop:=AC.loop (P:=P) (rd:=rd) (c:=A3 root (0::p)) (ι:={x:σ×Nat//itE step x.2 x.1=some t}) (fun x=>I x.1.1) (fun x=>x.1.2) (fun _ e s=>e=(O t).1/\Wk s (O t).2) ?_ ⟨(s,n),hn0⟩
 exact hloop.post fun e s1 hh=>⟨(O t).2,hh.2,hh.1,rfl⟩
 rintro⟨⟨s,n⟩,hi⟩
 cases n with
 |zero=>simp[itE]at hi
 |succ n=>
  simp only[itE]at hi
  split at hi
  cases hi
  rename_i s' hs
  refine AC.mono (hn s s' hs) ?_
  rintro e s1 ⟨rfl,hw⟩
  exact⟨⟨(s',n),hi⟩,Nat.lt_succ_self n,hw,fun e s hh=>hh⟩
  rename_i t' hs
  simp only[oe]at hi
  subst hi
  refine AC.mono (hx s t' hs) ?_
  rintro e s1 ⟨rfl,hw⟩
  cases he:(O t').1 with
  |normal=>exact absurd he (hO t')
  |exit id=>exact⟨rfl,hw⟩
  |ret=>exact⟨rfl,hw⟩

def rR{σ τ:Type}(I:σ->St)(O:τ->Ex×St):σ⊕τ->Ex×St
 | .inl s=>(.normal,I s)
 | .inr t=>O t
theorem R0{P:Program}{rd:Option Nat}{root:Code}{p:List Nat}{σ τ:Type}{step:σ->Option (σ⊕τ)}(I:σ->St)(O:τ->Ex×St)(hl:Ru (A3 root p)=true)(hO:∀t,(O t).1≠ .normal)
 (hr:∀s o,step s=some o->Arr P rd root (0::p) (I s) (rR I O o).1 (rR I O o).2)
 {s:σ} {t:τ} (h:Ab step s=some t):Dz P rd root p (I s) (O t).1 (O t).2:=
 VK hl hO (fun s s' h=>hr s (.inl s') h) (fun s t h=>hr s (.inr t) h) h

section
variable {α β:Type}
def AE(c:Bool)(a b:Option β):Option β:=match c with
 |true=>a
 |false=>b
def BC(p:Prop) [Decidable p](k:Option β):Option β:=if p then k else none
def Ae(xs:List α)(i:Int)(k:α->Option β):Option β:=if 0<=i then(match xs[i.toNat]? with
 |some x=>k x
 |none=>none)else none
def AF(x:Option α)(k:α->Option β):Option β:=match x with
 |some a=>k a
 |none=>none
theorem iS{c:Bool}{a b:Option β}{r:β}(h:AE c a b=some r):(c=true/\a=some r)\/(c=false/\b=some r):=by cases c;exact .inr ⟨rfl,h⟩;exact .inl ⟨rfl,h⟩
theorem B3{a b:Option β}{r:β}(h:AE true a b=some r):a=some r:=h
theorem B2{a b:Option β}{r:β}(h:AE false a b=some r):b=some r:=h
theorem cS{p:Prop} [Decidable p]{k:Option β}{r:β}(h:BC p k=some r):p/\k=some r:=by unfold BC at h;split at h;exact⟨‹_›,h⟩;cases h
theorem xS{xs:List α}{i:Int}{k:α->Option β}{r:β}(h:Ae xs i k=some r):∃x,(0<=i/\xs[i.toNat]? =some x)/\k x=some r:=by unfold Ae at h;split at h;split at h;exact⟨_,⟨‹_›,‹_›⟩,h⟩;cases h;cases h
theorem bS{x:Option α}{k:α->Option β}{r:β}(h:AF x k=some r):∃a,x=some a/\k a=some r:=by
 cases x with
 |none=>cases h
 |some a=>exact⟨a,rfl,h⟩
end
end Go.Ac
namespace Go.Ac
def D.i(k:IntKind)(n:Int):D:=.v (.int k n)
def D.b(b:Bool):D:=.v (.bool b)
def D.s(l:List UInt8):D:=.v (.string ⟨⟨l⟩⟩)
def D.l{α:Type}(f:α->D)(xs:List α):D:=.sl (xs.map f)
def Ao(x:D):List A:=x.cells.map .d
def sp:Nat->Nat->List (Nat×A)->List A
 |0,_,_=> []
 |n+1,i,[]=>.any::sp n (i+1) []
 |n+1,i,(j,a)::l=>if Nat.beq j i then a::sp n (i+1) l else .any::sp n (i+1) ((j,a)::l)
class Bp{α:Type}(f:α->D)(k:outParam Nat):Prop where
 h:∀x,(f x).nc=k
instance (k:IntKind):Bp (D.i k) 1:=⟨fun _=>rfl⟩
instance :Bp D.b 1:=⟨fun _=>rfl⟩
instance :Bp D.s 1:=⟨fun _=>rfl⟩
instance :Bp Ag 1:=⟨fun _=>rfl⟩
instance {α:Type} (f:α->D):Bp (D.l f) 1:=⟨fun _=>rfl⟩

section
variable {α β:Type}
theorem Av(f:α->D){k:Nat} [Bp f k](l:List α):∀y∈l.map f,y.nc=k:=by intro y hy;obtain⟨x,_,rfl⟩:=mm.1 hy;exact Bp.h x
theorem VC(f:α->D){xs:List α}{i:Int}{x:α}(h:0<=i/\xs[i.toNat]? =some x):0<=i/\(xs.map f)[i.toNat]? =some (f x):=
 ⟨h.1,by rw[List.getElem?_map,h.2];rfl⟩
theorem DK(f:α->D)(xs:List α):((xs.map f).length:Int)=(xs.length:Int):=by rw[List.length_map]
theorem A4(l:List UInt8):((ByteArray.mk ⟨l⟩).size:Int)=(l.length:Int):=rfl
theorem Cg{l:List UInt8}{i:Int}{x:UInt8}(h:0<=i/\l[i.toNat]? =some x):0<=i/\∃c:UInt8,(ByteArray.mk ⟨l⟩).data.toList[i.toNat]? =some c/\(c.toNat:Int)=(x.toNat:Int):=
 ⟨h.1,x,h.2,rfl⟩
def fit(a b n:Nat):Prop:=(a+b)*n<=140737488355328
instance (a b n:Nat):Decidable (fit a b n):=inferInstanceAs (Decidable (_<=_))
theorem BS(f:α->D){xs ys:List α}{n:Nat}(h:fit xs.length ys.length n):((xs.map f).length+(ys.map f).length)*n<=140737488355328:=by rw[List.length_map,List.length_map];exact h
theorem BQ(f:α->D)(xs ys:List α):xs.map f++ys.map f=(xs++ys).map f:=(List.map_append).symm
def sub(xs:List α)(l h:Int):List α:=(xs.take h.toNat).drop l.toNat
theorem Hp(f:α->D){k:Nat} [Bp f k]{xs:List α}{l h:Int}(hh:0<=l/\l<=h/\h<=xs.length):
 0<=l/\l<=(some h).getD ((xs.map f).length:Int)/\(some h).getD ((xs.map f).length:Int)<=((xs.map f).length:Int)/\(∀y∈xs.map f,y.nc=k)/\
  ((xs.map f).take ((some h).getD ((xs.map f).length:Int)).toNat).drop l.toNat=(sub xs l h).map f:=by
 refine⟨hh.1,hh.2.1,by rw[List.length_map];exact hh.2.2,Av f xs,?_⟩
 simp only[Option.getD_some,sub,List.map_drop,List.map_take]
theorem F2{a b:List UInt8}(h:a.length+b.length<=9223372036854775807):(ByteArray.mk ⟨a⟩).size+(ByteArray.mk ⟨b⟩).size<=9223372036854775807/\ByteArray.mk ⟨a⟩++ByteArray.mk ⟨b⟩=⟨⟨a++b⟩⟩:=by refine⟨h,?_⟩;apply ByteArray.ext;simp
def u8w(n:Int):UInt8:=UInt8.ofNat (n % 256).toNat
theorem MW(n:Int):IntKind.u8.wrap n=((u8w n).toNat:Int):=by
 have h:IntKind.u8.wrap n=n % 256:=by simp[IntKind.wrap,IntKind.signed,IntKind.bits]
 rw[h];unfold u8w;rw[UInt8.toNat_ofNat'];omega
def Ea(a b:Int):Int:=if a<b then b else a
def Ap{γ:Type}(o:α⊕β)(f:α->Option γ)(g:β->Option γ):Option γ:=match o with
 | .inl a=>f a
 | .inr b=>g b
theorem AG{γ:Type}{o:α⊕β}{f:α->Option γ}{g:β->Option γ}{r:γ}(h:Ap o f g=some r):(∃a,o=.inl a/\f a=some r)\/(∃b,o=.inr b/\g b=some r):=by
 cases o with
 |inl a=>exact .inl ⟨a,rfl,h⟩
 |inr b=>exact .inr ⟨b,rfl,h⟩
end
def isN:Ex->Bool
 | .normal=>true
 |_=>false
theorem aBy{e:Ex}(h:isN e=false):e≠ .normal:=by intro hh;rw[hh]at h;cases h
end Go.Ac
namespace Go.Ac
section
variable {α:Type}
theorem Fi(f:α->D){xs:List α}{i:Int}{x:α}(h:0<=i/\xs[i.toNat]? =some x):0<=(i.toNat:Int)/\(xs.map f)[(i.toNat:Int).toNat]? =some (f x):=
 ⟨by omega,by rw[Int.toNat_natCast,List.getElem?_map,h.2];rfl⟩
theorem Db(f:α->D){xs:List α}{i:Int}(h:i+1<=(xs.length:Int)):i+1<=((xs.map f).length:Int):=by rw[List.length_map];exact h
theorem Rx(f:α->D){xs:List α}{i:Int}(h:0<=i/\i+1<=(xs.length:Int)):(i.toNat:Int)+1<=((xs.map f).length:Int):=by rw[List.length_map];omega
theorem F8(f:α->D)(xs:List α)(i:Int)(x:α):(xs.map f).set i.toNat (f x)=(xs.set i.toNat x).map f:=by rw[List.map_set]
theorem R5(f:α->D)(n:Int)(x:α):([]:List D)++List.replicate n.toNat (f x)=(List.replicate n.toNat x).map f:=by rw[List.map_replicate];rfl
theorem R6(f:α->D){n:Int}(x:α){b:Nat}(h:fit 0 n.toNat b):(([]:List D).length+(List.replicate n.toNat (f x)).length)*b<=140737488355328:=by rw[List.length_replicate];exact h
theorem U7(f:α->D)(xs ys:List α):(ys.map f).take (xs.map f).length++(xs.map f).drop (ys.map f).length=(ys.take xs.length++xs.drop ys.length).map f:=by rw[List.length_map,List.length_map,List.map_append,List.map_take,List.map_drop]
theorem aB0(f:α->D){xs:List α}{n:Nat}(h:xs.length=n):(((xs.map f).length:Nat):Int)=(n:Int):=by rw[List.length_map,h]
end
end Go.Ac
namespace Go.Ac
end Go.Ac
namespace Go.Ac
theorem si{α:Type}{a b:α}(h:some a=some b):a=b:=Option.some.inj h
section
variable {α β γ σ τ:Type}
theorem AW(a b:Option β):AE true a b=a:=rfl
theorem AV(a b:Option β):AE false a b=b:=rfl
theorem AN(c:Bool)(a b:Option β):AE c a b=if c=true then a else b:=by cases c<;>rfl
theorem AH(x:α)(k:α->Option β):AF (some x) k=k x:=rfl
theorem Bw{p:Prop} [Decidable p](h:p)(k:Option β):BC p k=k:=if_pos h
theorem Dt(a:α)(f:α->Option γ)(g:β->Option γ):Ap (.inl a) f g=f a:=rfl
theorem SU(b:β)(f:α->Option γ)(g:β->Option γ):Ap (.inr b) f g=g b:=rfl
theorem EL(s:σ)(k:σ->Option τ):H4 (some (.inl s)) k=k s:=rfl
theorem EM(t:τ)(k:σ->Option τ):H4 (some (.inr t)) k=some t:=rfl
theorem AU{xs:List α}{n:Nat}{x:α}(h:xs[n]? =some x)(k:α->Option β):Ae xs (n:Int) k=k x:=by simp[Ae,h]
theorem MG{step:σ->Option (σ⊕τ)}(I:σ->Prop)(μ:σ->Nat)(Q:τ->Prop)
 (h:∀s,I s->(∃t,step s=some (.inr t)/\Q t)\/∃s',step s=some (.inl s')/\I s'/\μ s'<μ s):∀s,I s->∃t,Ab step s=some t/\Q t:=by
 have key:∀n s,μ s<n->I s->∃t,Ab step s=some t/\Q t:=by
  intro n;induction n with
  |zero=>intro s hs;omega
  |succ n ih=>
   intro s hs hI
   rw[Cj]
   rcases h s hI with⟨t,h1,h2⟩|⟨s',h1,h2,h3⟩
   exact⟨t,by rw[h1];rfl,h2⟩
   rw[h1,EL];exact ih s' (by omega) h2
 exact fun s hI=>key (μ s+1) s (by omega) hI
end
theorem Vn{a b:Int}(h1: -9223372036854775808<=a+b)(h2:a+b<=9223372036854775807):AB .add .i64 a b=a+b:=IntWalk.i64_in _ ⟨h1,h2⟩
theorem aHj{a b:Int}(h1: -9223372036854775808<=a-b)(h2:a-b<=9223372036854775807):AB .sub .i64 a b=a-b:=IntWalk.i64_in _ ⟨h1,h2⟩
theorem aG8{n:Nat}(h:n<9223372036854775807):AB .add .i64 (n:Int) 1=((n+1:Nat):Int):=by rw[Vn (by omega) (by omega)];rfl
theorem Bb{a b n:Nat}(h:a+b<=1073741824)(hn:n<=131072):fit a b n:=by unfold fit;exact Nat.le_trans (Nat.mul_le_mul h hn) (by decide)
theorem Cc{α:Type}{l:List α}{i:Nat}(h:i<l.length):∃x,l[i]? =some x/\l.drop i=x::l.drop (i+1):=
 ⟨_,List.getElem?_eq_getElem h,List.drop_eq_getElem_cons h⟩
end Go.Ac
namespace Go.Ac
end Go.Ac
namespace Go.Ac
def cj:List Prop->Prop->Prop
 |[],k=>k
 |q::Q,k=>cj Q (q/\k)
theorem RZ:∀(Q:List Prop) (k:Prop),cj Q k↔cj Q True/\k
 |[],k=>by simp[cj]
 |q::Q,k=>by
  simp only[cj];rw[RZ Q (q/\k),RZ Q (q/\True)];exact⟨fun h=>⟨⟨h.1,h.2.1,trivial⟩,h.2.2⟩,fun h=>⟨h.1.1,h.1.2.1,h.2⟩⟩
theorem XC{q:Prop}{Q:List Prop}(h:q)(k:cj Q True):cj (q::Q) True:=(RZ Q (q/\True)).2 ⟨k,h,trivial⟩
section
variable {β γ δ:Type} {ws:List (Nat×W)} {lw:List Lw} {Q:List Prop} {G:β->Prop} {o:β}
def Gl(ws:List (Nat×W))(lw:List Lw)(Q:List Prop)(G:β->Prop)(o:β):Prop:=cj Q True->G o
def SS:List A->Nat->List Nat
 |[],_=> []
 | .any::l,i=>SS l (i+1)
 |_::l,i=>i::SS l (i+1)
def lvS(s:St):List Ws:=[.live (SS s.E 0),.keep (s.B.map (·.1))]
def aHh:Nat->Nat->List Nat
 |0,_=> []
 |f+1,n=>if Nat.ble n 1 then []else(n % 2)::aHh f (n/2)
abbrev pth(n:Nat):List Nat:=aHh 64 n
theorem g0(h:Gl [] [] [] G o):G o:=h trivial
theorem gW(n:Nat)(w:W)(c:Gl ((n,w)::ws) lw Q G o):Gl ws lw Q G o:=c
theorem gQ{q:Prop}(h:q)(c:Gl ws lw (q::Q) G o):Gl ws lw Q G o:=fun k=>c (XC h k)
theorem gG(n:Nat)(w:W){q:Prop}(h:q)(c:Gl ((n,w)::ws) lw (q::Q) G o):Gl ws lw Q G o:=gQ h c
theorem gT(n:Nat){q:Prop}(h:q)(c:Gl ((n,.bit true)::ws) lw (q::Q) G o):Gl ws lw Q G o:=gQ h c
theorem gF(n:Nat){q:Prop}(h:q)(c:Gl ((n,.bit false)::ws) lw (q::Q) G o):Gl ws lw Q G o:=gQ h c
theorem gN(n:Nat)(f:γ->D)(xs:List γ)(c:Gl ((n,.int (xs.length:Int))::ws) lw ((((xs.map f).length:Int)=(xs.length:Int))::Q) G o):Gl ws lw Q G o:=gQ (DK f xs) c
theorem gC(n:Nat){P:Program}{f:FuncId}{args:List A}{r:A}(h:AL P f args [] r [])(c:Gl ((n,.ret r)::ws) lw (AL P f args [] r []::Q) G o):Gl ws lw Q G o:=gQ h c
theorem gL(wk:List Ws){P:Program}{rd:Option Nat}{root:Code}{p:List Nat}{s:St}{e:Ex}{s':St}(h:Dz P rd root p s e s')(c:Gl ws (⟨p,wk,e,s'⟩::lw) (Dz P rd root p s e s'::Q) G o):Gl ws lw Q G o:=gQ h c
theorem gl{P:Program}{rd:Option Nat}{root:Code}{p:List Nat}{s:St}{e:Ex}{s':St}(h:Dz P rd root p s e s')(c:Gl ws (⟨p,lvS s,e,s'⟩::lw) (Dz P rd root p s e s'::Q) G o):Gl ws lw Q G o:=gQ h c
theorem iB(n:Nat){b:Bool}{x y:Option δ}{r:δ}(h:AE b x y=some r)(A1:x=some r->Gl ((n,.bit true)::ws) lw ((b=true)::Q) G o)(A2:y=some r->Gl ((n,.bit false)::ws) lw ((b=false)::Q) G o):Gl ws lw Q G o:=by
 rcases iS h with⟨h1,h2⟩|⟨h1,h2⟩
 exact gQ h1 (A1 h2);exact gQ h1 (A2 h2)
theorem xX(n:Nat)(f:γ->D){xs:List γ}{i:Int}{k:γ->Option δ}{r:δ}(h:Ae xs i k=some r)(c:∀x,k x=some r->Gl ((n,.el (f x))::ws) lw ((0<=i/\(xs.map f)[i.toNat]? =some (f x))::Q) G o):Gl ws lw Q G o:=by obtain⟨x,h1,h2⟩:=xS h;exact gQ (VC f h1) (c x h2)
end
abbrev lv(a b:List Nat):List Ws:=[.live a,.keep b]
section
variable {β:Type} {ws:List (Nat×W)} {lw:List Lw} {Q:List Prop} {o v:β} {P:Program} {rd:Option Nat} {root:Code} {q:List Nat} {s:St} {f:FuncId} {args:List A}
theorem lB_(hm:P.follows .mixedOrders=true)(h:some v=some o)(l:List Ws){E:β->Ex}{S:β->St}
 (he:(cj Q True/\(E v=E v/\S v=S v))=NP P rd root ws lw q l s (E v) (S v)):Gl ws lw Q (fun o=>Arr P rd root q s (E o) (S o)) o:=by
 cases si h
 exact fun k=>MT hm ws lw l k he
theorem lP_(hm:P.follows .mixedOrders=true)(h:some v=some o)(l:List Ws){E:β->Ex}{S:β->St}
 (he:(cj Q True/\(E v=E v/\S v=S v))=NP P rd root ws lw q l s (E v) (S v)):Gl ws lw Q (fun o=>Dz P rd root q s (E o) (S o)) o:=by
 cases si h
 exact fun k=>(MT hm ws lw l k he).lp
theorem lF_(hm:P.follows .mixedOrders=true)(h:some v=some o)(l:List Ws){R:β->A}
 (he:(cj Q True/\(R v=R v/\true=true))=Sl P f ws lw l args (R v)):Gl ws lw Q (fun o=>AL P f args [] (R o) []) o:=by
 cases si h
 exact fun k=>SL hm ws lw l k he
theorem lI_(hm:P.follows .mixedOrders=true){F0:Bx}(hF:Far F0){r:A}{F:β->Bx}(hc:∀f,∀p∈F f,∀m,p.2.has m=true->m∈AK (F f))(h:some v=some o)(l:List Ws)
 (he:(cj Q True/\(r=r/\F v=F v/\true=true))=Vk P f ws lw l args F0 r (F v)):Gl ws lw Q (fun o=>IK P f args F0 r (F o)) o:=by
 cases si h
 exact fun k=>SM hm ws lw l hF (hc _) k he
def XG(P:Program)(f:FuncId)(args:List A)(X:Bx)(ks:List Nat)(us:List Value)(r:A)(X':Bx):Prop:=∃ws lw wk,Vl P f ws lw wk args X ks us r X'
theorem XG.call{X:Bx}{ks:List Nat}{r:A}{X':Bx}(hm:P.follows .mixedOrders=true)(h:∀us,XG P f args X ks us r X'):AL P f args X r X':=by refine Vl.call (ws:=fun us=>(h us).choose) (lw:=fun us=>(h us).choose_spec.choose) (wk:=fun us=>(h us).choose_spec.choose_spec.choose) hm fun us=>(h us).choose_spec.choose_spec.choose_spec
theorem lX_{X:Bx}{ks:List Nat}{us:List Value}(h:some v=some o)(l:List Ws){R:β->A}{X':β->Bx}
 (he:(cj Q True/\(R v=R v/\X' v++[(vx,.vals (Eg args ks) us)]=X' v++[(vx,.vals (Eg args ks) us)]/\true=true))=Vl P f ws lw l args X ks us (R v) (X' v)):Gl ws lw Q (fun o=>XG P f args X ks us (R o) (X' o)) o:=by
 cases si h
 exact fun k=>⟨ws,lw,l,he.mp ⟨k,rfl,rfl,rfl⟩⟩
end
section
variable {σ τ:Type} {P:Program} {rd:Option Nat} {root:Code} {p:List Nat} {step:σ->Option (σ⊕τ)}
theorem lL(I:σ->St)(O:τ->Ex×St)(s:σ)(hr:∀s o,step s=some o->Gl [] [] [] (fun o=>Arr P rd root (0::p) (I s) (rR I O o).1 (rR I O o).2) o)
 {t:τ} (h:Ab step s=some t) (hl:Ru (A3 root p)=true:=by kernel_rfl) (hO:∀t,isN (O t).1=false:=by intro t;first|rfl|(rcases t with _|_<;>rfl)|(rcases t with _|_|_<;>rfl)|(rcases t with _|_|_|_<;>rfl)|(rcases t with _|_|_|_|_<;>rfl)):Dz P rd root p (I s) (O t).1 (O t).2:=
 R0 I O hl (fun t=>aBy (hO t)) (fun s o h=>hr s o h trivial) h
end
end Go.Ac
namespace Go.Ac
open Go.Proofs Go.Shelf Go.RowKit Go.Lib Go.Sort

def BH(w:World)(b:Nat)(e:TypeId)(cur:List Value):Prop:=w.heap[b]? =some (.cells ⟨cur⟩ e (0,0))
section
variable {w:World} {b:Nat} {e:TypeId} {cur:List Value}
theorem BH.cell(h:BH w b e cur)(j:Nat):w.cell? ⟨b,j,none⟩=cur[j]? :=by rw[cell_of_row w b j ⟨cur⟩ e (0,0) h];simp
theorem BH.thawed(h:BH w b e cur)(j:Nat):w.frozen? ⟨b,j,none⟩=false:=by unfold World.frozen?;rw[show w.heap[b]? =_ from h];simp
theorem BH.shape(h:BH w b e cur):w.shape? b=some (e,cur.length):=by unfold World.shape?;rw[show w.heap[b]? =_ from h];simp
theorem BH.lt(h:BH w b e cur):b<w.heap.size:=(Array.getElem?_eq_some_iff.1 h).1
theorem BH.drew(h:BH w b e cur):BH w.drew b e cur:=h
theorem BH.set1(h:BH w b e cur)(o:Nat)(v:Value):BH (w.setCell ⟨b,o,none⟩ v) b e (cur.set o v):=by unfold BH at h⊢;simp[World.setCell,Array.getElem?_modify,h]
end
theorem BH.set{b:Nat}{e:TypeId}:∀(vs:List Value) {w:World} {cur:List Value} (o:Nat),BH w b e cur->o+vs.length<=cur.length->
 BH (w.setCells b o vs) b e (cur.take o++vs++cur.drop (o+vs.length))
 |[],w,cur,o,h,hl=>by simpa[World.setCells]using h
 |v::vs,w,cur,o,h,hl=>by
  rw[World.setCells];have hl':o+1+vs.length<=cur.length:=by simpa[Nat.add_assoc,Nat.add_comm,Nat.add_left_comm]using hl
  have h1:=BH.set vs (o+1) (h.set1 o v) (by simpa using hl');have e1:(cur.set o v).take (o+1)=cur.take o++[v]:=by rw[List.take_set,List.take_succ_eq_append_getElem (by omega),List.set_append_right _ _ (by simp;omega)];simp[Nat.min_eq_left (show o<=cur.length by omega)]
  have e2:(cur.set o v).drop (o+1+vs.length)=cur.drop (o+(v::vs).length):=by rw[List.drop_set_of_lt (by omega)];congr 1;simp;omega
  rw[e1,e2]at h1;simpa using h1
theorem Bd(b:Nat):∀(vs:List Value) (o:Nat) (w:World),(w.setCells b o vs).os=w.os/\(w.setCells b o vs).tape=w.tape/\(w.setCells b o vs).output=w.output/\
 (w.setCells b o vs).heap.size=w.heap.size/\∀x,x≠b->(w.setCells b o vs).heap[x]? =w.heap[x]?
 |[],o,w=>⟨rfl,rfl,rfl,rfl,fun _ _=>rfl⟩
 |v::vs,o,w=>by
  rw[World.setCells];obtain⟨a1,a2,a3,a4,a5⟩:=Bd b vs (o+1) (w.setCell ⟨b,o,none⟩ v);refine⟨a1,a2,a3,a4.trans (World.size_setCell _ _ _),fun x hx=>(a5 x hx).trans ?_⟩;simp[World.setCell,Array.getElem?_modify,Ne.symm hx]

theorem Cm(z:Array Value)(n:Nat):(Builtin.zeroCells z n).toList.length=n*z.size:=by simp[Builtin.zeroCells]
structure Sd(P:Program)(t e:TypeId)(i:TypeInfo)(z:Value):Prop where
 ht:P.underlying t=some (.slice e)
 hi:P.info? e=some i
 hz:i.zero=some z
 hzs:z.cells.size=i.size
 h1:∀v∈z.cells,v.oneCell'=true

end Go.Ac
namespace Go.Ac
open Go.Proofs Go.Shelf Go.RowKit Go.Lib Go.Sort

theorem EN{X:Bx}{m:Nat}{e:TypeId}{k:Nat}{ys:List D}{h:Hw}{w:World}{val:Val}{v v':Value}{w':World}{us':List Value}
 (hm:m∉AK X) (hh:∀g,v.ownBlock=some g->h g=0) (hM:∀g,v.ownBlock=some g->g∈AZ val X)
 (hown':w'.ownsRow 0 e k v' ys.length us') (hrow':Ad h w k ys us')
 (hcase:∀g,v'.ownBlock=some g->v.ownBlock=some g\/w.heap.size<=g) (hgrow:w.grownBy w' v.ownBlock) (hgl:GOk h w):
 ∃h' val' u,Ending.returned v'=.returned u/\Inv h' w' val' [(m,.rw e k ys)]/\RA h' w' val' (.row m) u/\BI (AZ val X) h w h' w'/\
  (∀n,(n∈AK [(m,Bk.rw e k ys)]->n∈AK X)->val' n=val n)/\∀b∈AZ val' [(m,.rw e k ys)],b∈AZ val X\/w.heap.size<=b:=by
 let h':Hw:=fun b=>if v'.ownBlock=some b then 0 else h b
 have hvm:Al val m v' m=v':=by simp[Al]
 have hkeep0:BI v.ownBlock.toList h w h' w':=by
  refine⟨hgrow.os,hgrow.tape,hgrow.output,hgrow.size,fun b j x hj hcx=>?_,fun b hb=>?_,fun b hb hn=>?_⟩;by_cases hvb:some b=v.ownBlock;rw[hh b hvb.symm]at hj;exact absurd hj (Nat.not_lt_zero _);rw[World.cell?_of_block (w:=w) (a:=⟨b,j,none⟩) (hgrow.block b (Cq hcx) hvb)];exact hcx;show h b<=if v'.ownBlock=some b then _ else h b
  split;rename_i hvb;rcases hcase b hvb with h1|h1
  rw[hh b h1];exact Nat.le_refl _;omega;exact Nat.le_refl _;have hn':some b≠v.ownBlock:=fun e=>hn (by rw[<-e];simp);refine⟨hgrow.block b hb hn',?_⟩;show(if v'.ownBlock=some b then _ else h b)=h b
  rw[if_neg fun hvb=>?_];rcases hcase b hvb with h1|h1
  exact hn' h1.symm;omega
 have hkeep:BI (AZ val X) h w h' w':=hkeep0.mono' fun x hx=>by
  cases hvo:v.ownBlock with
  |none=>simp[hvo]at hx
  |some g=>simp[hvo]at hx;subst hx;exact .inl (hM _ hvo)
 have hvbv:BN v'=v'.ownBlock:=Bt hown'
 have hlen:us'.length=ys.length*k:=Ad.length hrow'
 have hbl:AZ (Al val m v') [(m,.rw e k ys)]=v'.ownBlock.toList:=by rw[Am,Ef rfl,hvm,hvbv];exact List.append_nil _
 refine⟨h',Al val m v',v',rfl,⟨?_,by simp[AK],?_,hgl.stays hkeep0.stays⟩,?_,hkeep,?_,?_⟩
 intro p hp
 simp only[List.mem_singleton]at hp
 subst hp
 refine⟨us',by rw[hvm];exact hown',Ad.stays hkeep0.stays _ _ _ hrow',fun g hg=>?_⟩
 rw[hvm]at hg
 show(if v'.ownBlock=some g then _ else h g)=_
 rw[if_pos hg]
 rw[hbl];cases v'.ownBlock<;>simp
 simp only[RA,hvm]
 exact⟨trivial,.inl (Bh hown')⟩
 intro n hn
 by_cases e:n=m
 subst e;exact absurd (hn (by simp[AK])) hm
 simp[Al,e]
 intro b hb
 rw[hbl]at hb
 have hb':v'.ownBlock=some b:=by cases hq:v'.ownBlock with
  |none=>rw[hq]at hb;simp at hb
  |some g=>rw[hq]at hb;simp at hb;rw[hb]
 rcases hcase b hb' with h1|h1
 exact .inl (hM b h1)
 exact .inr h1

theorem IB{P:Program}{t e:TypeId}{k by_:Nat}(ht:P.underlying t=some (.slice e))
 (hq:(P.info? e).map (fun i=>(i.size,i.bytes,i.zero.map (·.cells.size),i.zero.map (fun z=>z.cells.all (·.oneCell'))))=some (k,by_,some k,some true)):
 ∃i z,Sd P t e i z/\i.size=k/\i.bytes=by_:=by
 simp only[om,pe]at hq
 obtain⟨i,hi,h1,h2,⟨z,hz,hzs⟩,⟨z',hz',hza⟩⟩:=hq
 rw[hz]at hz'
 cases hz'
 refine⟨i,z,⟨ht,hi,hz,hzs.trans h1.symm,fun v hv=>?_⟩,h1,h2⟩
 rw[Array.all_eq_true']at hza
 exact hza v hv
end Go.Ac
namespace Go.Ac
open Go.Proofs Go.Shelf Go.RowKit Go.Lib Go.Sort
section
variable {P:Program} {ρ:Ren}
theorem C7(w:World)(dT sT ty elem:TypeId)(b o dLen dCap:Nat)(a:Addr)(sLen sCap:Nat)(cs:List Value)(i:TypeInfo)
 (hu:P.underlying dT=some (.slice elem)) (hi:P.info? elem=some i) (hn:cs.length=Nat.min sLen dLen*i.size)
 (hsrc:∀j v,cs[j]? =some v->w.cell? (a.add j)=some v) (hc:∀j,j<cs.length->(w.cell? ⟨b,o+j,none⟩).isSome=true) (hf:∀j,j<cs.length->w.frozen? ⟨b,o+j,none⟩=false) (h1:∀v∈cs,v.oneCell'=true):
 (Builtin.copy_ #[dT,sT] ty #[.slice (some ⟨b,o,none⟩) dLen dCap,.slice (some a) sLen sCap]).run P w=.ok (goInt (Nat.min sLen dLen)) (w.setCells b o cs):=by
 have hl:=run_firstCells_some (P:=P) w i.size (Nat.min sLen dLen) a sLen sCap cs (by omega) hsrc
 have hst:=run_storeCells_cells (P:=P) b o cs 0 w (by simpa using hc) (by simpa using hf) h1
 simp[Builtin.copy_,run_underlying hu,Builtin.lenOf,sizeOf,typeInfo,hi,hl,hst]

set_option maxHeartbeats 4000000 in
set_option maxRecDepth 100000 in
theorem Ro{e:TypeId}{i0:TypeInfo}{z:Value}(mixed:P.follows .mixedOrders=true)(FB:Bears P (ρ.f 22) (Body2.n22 ρ))
 (t3:P.underlying (ρ.t 3)=some (.int .i64)) (t4:P.underlying (ρ.t 4)=some .bool) (T:Sd P (ρ.t 24) e i0 z) (w:World) (ad:Option Addr) (n cap:Nat) (us:List Value) (a:Addr) (m vc:Nat) (vs:List Value)
 (hown:w.ownsRow 0 e i0.size (.slice ad n cap) n us) (hm:0<m) (hvl:vs.length=m*i0.size) (hvs:∀j u,vs[j]? =some u->w.cell? (a.add j)=some u) (h1v:∀u∈vs,u.oneCell'=true)
 (h63:n+m<=maxLen) (hbytes:(n+m)*i0.bytes<=140737488355328):
 Calls P (ρ.f 22) #[.slice ad n cap,.int .i64 n,.slice (some a) m vc] w fun ex w'=>∃v',ex=.returned v'/\w'.ownsRow 0 e i0.size v' (n+m) (us++vs)/\
  (((v'.ownBlock=(Value.slice ad n cap).ownBlock/\w.grownBy w' (Value.slice ad n cap).ownBlock)\/(v'.ownBlock=some w.heap.size/\w.grownBy w' none))):=by
 have t24:=T.ht
 have a24:∀w,(isAgg (ρ.t 24)).run P w=.ok false w:=fun w=>Ah (by simp[Bc,t24]) w
 have a3:∀w,(isAgg (ρ.t 3)).run P w=.ok false w:=fun w=>Ah (by simp[Bc,t3]) w
 have a4:∀w,(isAgg (ρ.t 4)).run P w=.ok false w:=fun w=>Ah (by simp[Bc,t4]) w
 have z9:∀w,(Go.sizeOf e).run P w=.ok i0.size w:=fun w=>by simp[sizeOf,typeInfo,T.hi]
 have hz1:¬((m:Int)=0):=by omega
 have hn:n<=cap:=by
  rcases hown.2 with⟨h,h0⟩|⟨g,cap',cur,h,_,_,h1,_⟩
  omega;cases h;exact h1
 obtain⟨v',w',hr,ho,hcase⟩:=CW (P:=P) w (ρ.t 24) (ρ.t 24) e i0 z t24 T.hi T.hz T.hzs (.slice ad n cap) n us hown a m vc vs hvl hvs h1v h63 hbytes
 obtain⟨PQ,hPQ⟩:∃PQ:Value->World->Prop,∀a b,PQ a b↔(b.ownsRow 0 e i0.size a (n+m) (us++vs)/\
  (((a.ownBlock=(Value.slice ad n cap).ownBlock/\w.grownBy b (Value.slice ad n cap).ownBlock)\/(a.ownBlock=some w.heap.size/\w.grownBy b none)))):=⟨_,fun _ _=>Iff.rfl⟩
 have hX:Hid (PQ v' w'):=(hPQ _ _).2 ⟨ho,hcase⟩
 have hr':Hid ((Builtin.append_ #[ρ.t 24,ρ.t 24] (ρ.t 24) #[.slice ad n cap,.slice (some a) m vc]).run P w=.ok v' w'):=hr
 suffices h:Calls P (ρ.f 22) #[.slice ad n cap,.int .i64 n,.slice (some a) m vc] w fun ex w'=>∃v',ex=.returned v'/\PQ v' w' from
  h.mono fun ex w' ⟨v',h1,h2⟩=>⟨v',h1,(hPQ _ _).1 h2⟩
 have hnil:ad=none->n=0:=by
  intro h;subst h;rcases hown.2 with⟨_,h0⟩|⟨g,cap',cur,h,_⟩
  exact h0;cases h
 clear hr ho hcase hown hvs h1v hvl hPQ h63 hbytes T
 obtain⟨_,_,FG⟩:=FB
 go_enter FG,Body2.n22_ntmps ρ
 cases ad with
 |none=>
  have h0:=hnil rfl
  subst h0
  go_wp2_with (at_builtin;refine Lib.wpList_append_run _ rfl _ _ _ _ rfl _ _ rfl rfl _ _ hr'.out ?_)
  go_ret
  exact⟨_,rfl,hX.out⟩
 |some a=>
  obtain⟨ab,ao,asp⟩:=a
  go_wp2_with (at_builtin;refine Lib.wpList_append_run _ rfl _ _ _ _ rfl _ _ rfl rfl _ _ hr'.out ?_)
  all_goals (go_ret;exact⟨_,rfl,hX.out⟩)

set_option maxHeartbeats 4000000 in
set_option maxRecDepth 100000 in
theorem VH{e:TypeId}{i0:TypeInfo}{z:Value}(mixed:P.follows .mixedOrders=true)(FB:Bears P (ρ.f 22) (Body2.n22 ρ))
 (t3:P.underlying (ρ.t 3)=some (.int .i64)) (t4:P.underlying (ρ.t 4)=some .bool) (T:Sd P (ρ.t 24) e i0 z)
 (hox:∀args w,(callFunc (ρ.f 29) args).run P w=((Extern.SlicesOverlaps.overlaps #[ρ.t 24,ρ.t 24] #[ρ.t 4] args).run P w).andThen fun v w=>.ok (.value v) w)
 (w:World) (b n c i:Nat) (cur us:List Value) (va:Addr) (m vc:Nat) (vs vcur:List Value) (ve:TypeId)
 (hr:BH w b e cur) (hcur:cur.length=c*i0.size) (htk:cur.take (n*i0.size)=us) (hone:∀u∈us,u.oneCell'=true)
 (hv:BH w va.block ve vcur) (hvb:va.block≠b) (hk0:0<i0.size)
 (hi:i<n) (hm:0<m) (hroom:n+m<=c) (hc63:c<=9223372036854775807)
 (hvl:vs.length=m*i0.size) (hvs:∀j u,vs[j]? =some u->w.cell? (va.add j)=some u) (h1v:∀u∈vs,u.oneCell'=true):
 Calls P (ρ.f 22) #[.slice (some ⟨b,0,none⟩) n c,.int .i64 i,.slice (some va) m vc] w fun ex w'=>
  ex=.returned (.slice (some ⟨b,0,none⟩) (n+m) c)/\w'=(w.drew.setCells b ((i+m)*i0.size) (us.drop (i*i0.size))).setCells b (i*i0.size) vs:=by
 have t24:=T.ht
 obtain⟨k,hk⟩:∃k,k=i0.size:=⟨_,rfl⟩
 have a24:∀w,(isAgg (ρ.t 24)).run P w=.ok false w:=fun w=>Ah (by simp[Bc,t24]) w
 have a3:∀w,(isAgg (ρ.t 3)).run P w=.ok false w:=fun w=>Ah (by simp[Bc,t3]) w
 have a4:∀w,(isAgg (ρ.t 4)).run P w=.ok false w:=fun w=>Ah (by simp[Bc,t4]) w
 have z9:∀w,(Go.sizeOf e).run P w=.ok k w:=fun w=>by simp[sizeOf,typeInfo,T.hi,hk]
 have hz1:¬((m:Int)=0):=by omega
 have hz2:¬((i:Int)=(n:Int)):=by omega
 rw[<-hk]at hcur htk hvl hk0⊢
 have hcl:cur.length=c*k:=hcur
 have hnk:n*k+m*k<=c*k:=by rw[<-Nat.add_mul];exact Nat.mul_le_mul_right k hroom
 have husl:us.length=n*k:=by rw[<-htk,List.length_take];omega
 have hik:i*k<=n*k:=Nat.mul_le_mul_right k (by omega)
 have hcell:∀j u,us[j]? =some u->w.cell? ⟨b,j,none⟩=some u:=by intro j u hu;rw[hr.cell];rw[<-htk,List.getElem?_take]at hu;split at hu;exact hu;cases hu
 have hov:∀lb cb,(callFunc (ρ.f 29) #[.slice (some va) m vc,.slice (some ⟨b,(i+m)*k,none⟩) lb cb]).run P w=.ok (.value (.bool false)) w:=fun lb cb=>by rw[hox,Lib.run_overlaps_apart w (ρ.t 24) (ρ.t 4) e t24 k z9 va ⟨b,(i+m)*k,none⟩ m vc lb cb hvb ve e vcur.length cur.length hv.shape hr.shape (by rw[hcl];exact Nat.ne_of_gt (Nat.mul_pos (by omega) hk0)) (by unfold World.frozen?;rw[show w.heap[va.block]? =_ from hv];simp) (hv.thawed _)];rfl
 have hw1:IntKind.i64.wrap ((i:Int)+(m:Int))=(i:Int)+(m:Int):=by rw[IntKind.wrap_i64];omega
 have hb1:(0:Int)<=(i:Int)+(m:Int):=by omega
 have hin:i<=n:=by omega
 have htn:((i:Int)+(m:Int)).toNat=i+m:=by omega
 have hb2:¬(c=i+m):=by omega
 have hb3:(i:Int)<=(n:Int)+(m:Int):=by omega
 have hb4:¬(c=i):=by omega
 have hdl:(us.drop (i*k)).length=(n-i)*k:=by rw[List.length_drop,husl,Nat.sub_mul]
 have e1:(i+m)*k=i*k+m*k:=Nat.add_mul _ _ _
 have e2:(n-i)*k=n*k-i*k:=Nat.sub_mul _ _ _
 have hmin1:Nat.min (n+m-i) (n+m-(i+m))=n-i:=by simp only[Nat.min_def];split<;>omega
 have hmin2:Nat.min m (n+m-i)=m:=by simp only[Nat.min_def];split<;>omega
 have hcp1:∀ty dc sc,(Builtin.copy_ #[(ρ.t 24),(ρ.t 24)] ty #[.slice (some ⟨b,(i+m)*k,none⟩) (n+m-(i+m)) dc,.slice (some ⟨b,i*k,none⟩) (n+m-i) sc]).run P w.drew=.ok (goInt ((n-i:Nat):Int)) (w.drew.setCells b ((i+m)*k) (us.drop (i*k))):=fun ty dc sc=>by
  have h:=C7 (P:=P) w.drew (ρ.t 24) (ρ.t 24) ty e b ((i+m)*k) (n+m-(i+m)) dc ⟨b,i*k,none⟩ (n+m-i) sc (us.drop (i*k)) i0 t24 T.hi (by rw[hdl,hmin1,hk])
   (fun j v hj=>by rw[Addr.add_lit];exact hcell (i*k+j) v (by rwa [List.getElem?_drop]at hj))
   (fun j hj=>by rw[hdl]at hj;rw[hr.drew.cell,List.getElem?_eq_getElem (by omega)];rfl) (fun j hj=>hr.drew.thawed _) (fun v hv=>hone v (List.mem_of_mem_drop hv))
  rw[hmin1]at h;exact h
 obtain⟨W1,hW1⟩:∃W1,W1=w.drew.setCells b ((i+m)*k) (us.drop (i*k)):=⟨_,rfl⟩
 obtain⟨cur1,hR1,hc1⟩:∃cur1,BH W1 b e cur1/\cur1.length=c*k:=by refine⟨_,by rw[hW1];exact BH.set _ _ hr.drew (by omega),?_⟩;simp only[List.length_append,List.length_take,List.length_drop];omega
 have hcp2:∀(W:World),(∀x,W.cell? x=W1.cell? x)->(∀x,W.frozen? x=W1.frozen? x)->∀ty dc,(Builtin.copy_ #[(ρ.t 24),(ρ.t 24)] ty #[.slice (some ⟨b,i*k,none⟩) (n+m-i) dc,.slice (some va) m vc]).run P W=.ok (goInt m) (W.setCells b (i*k) vs):=fun W hWc hWf ty dc=>by
  have h:=C7 (P:=P) W (ρ.t 24) (ρ.t 24) ty e b (i*k) (n+m-i) dc va m vc vs i0 t24 T.hi (by rw[hvl,hmin2,hk])
   (fun j v hj=>by rw[hWc,hW1,World.cell?_setCells_out b _ _ _ _ (fun h _=>absurd (by rw[<-h,BP]) hvb)];exact hvs j v hj)
   (fun j hj=>by rw[hvl]at hj;rw[hWc,hR1.cell,List.getElem?_eq_getElem (by omega)];rfl) (fun j hj=>by rw[hWf,hR1.thawed]) h1v
  rw[hmin2]at h;exact h
 rw[<-hW1]at hcp1
 have X:Hid (W1=w.drew.setCells b ((i+m)*k) (us.drop (i*k))):=hW1
 clear hR1 hc1 hcell hr hv hone hvs h1v hvl hcur hcl htk husl hdl hk hW1 e1 e2 hmin1 hmin2 hnk hik T hox
 obtain⟨_,_,FG⟩:=FB
 go_enter FG,Body2.n22_ntmps ρ
 go_wp2_with (simp only[hov])
 go_region_law_o (refine step_copy_runI rfl _ _ (ρ.t 24) (ρ.t 24) rfl _ _ (by simp[Act.eval,Act.put]) (by simp[Act.eval,Act.put]) (hcp1 _ _ _) ?_)
 go_wp2_with (at_builtin;refine wpList_copy_runI _ rfl _ _ (ρ.t 24) (ρ.t 24) rfl _ _ rfl rfl (hcp2 _ (fun _=>rfl) (fun _=>rfl) _ _) ?_)
 go_ret
 exact⟨rfl,by rw[X.out]⟩

set_option maxHeartbeats 4000000 in
set_option maxRecDepth 100000 in
theorem VG{e:TypeId}{i0:TypeInfo}{z:Value}(mixed:P.follows .mixedOrders=true)(FB:Bears P (ρ.f 22) (Body2.n22 ρ))
 (t3:P.underlying (ρ.t 3)=some (.int .i64)) (t4:P.underlying (ρ.t 4)=some .bool) (T:Sd P (ρ.t 24) e i0 z)
 (w:World) (b n c i:Nat) (cur us:List Value) (va:Addr) (m vc:Nat) (vs:List Value)
 (hr:BH w b e cur) (hcur:cur.length=c*i0.size) (htk:cur.take (n*i0.size)=us) (hone:∀u∈us,u.oneCell'=true)
 (hvb:va.block<w.heap.size) (hk0:0<i0.size)
 (hi:i<n) (hm:0<m) (hnc:n<=c) (hroom:c<n+m) (hbig:(n+m)*i0.bytes<=140737488355328) (h63:n+m<=maxLen)
 (hvl:vs.length=m*i0.size) (hvs:∀j u,vs[j]? =some u->w.cell? (va.add j)=some u) (h1v:∀u∈vs,u.oneCell'=true):
 Calls P (ρ.f 22) #[.slice (some ⟨b,0,none⟩) n c,.int .i64 i,.slice (some va) m vc] w fun ex w'=>
  ex=.returned (.slice (some ⟨w.heap.size,0,none⟩) (n+m) (grownCap w (n+m) c e))/\
  w'=(((w.alloc (.cells ((us.take (i*i0.size)).toArray++Builtin.zeroCells z.cells (n+m-i)++Builtin.zeroCells z.cells (grownCap w (n+m) c e-(n+m))) e)).drew.setCells w.heap.size (i*i0.size) vs).drew).setCells w.heap.size ((i+m)*i0.size) (us.drop (i*i0.size)):=by
 have t24:=T.ht
 obtain⟨k,hk⟩:∃k,k=i0.size:=⟨_,rfl⟩
 have a24:∀w,(isAgg (ρ.t 24)).run P w=.ok false w:=fun w=>Ah (by simp[Bc,t24]) w
 have a3:∀w,(isAgg (ρ.t 3)).run P w=.ok false w:=fun w=>Ah (by simp[Bc,t3]) w
 have a4:∀w,(isAgg (ρ.t 4)).run P w=.ok false w:=fun w=>Ah (by simp[Bc,t4]) w
 have z9:∀w,(Go.sizeOf e).run P w=.ok k w:=fun w=>by simp[sizeOf,typeInfo,T.hi,hk]
 have h63':n+m<=9223372036854775807:=Nat.le_trans h63 (by decide)
 have hz1:¬((m:Int)=0):=by omega
 have hz2:¬((i:Int)=(n:Int)):=by omega
 have hz3:(c:Int)<(n:Int)+(m:Int):=by omega
 have hkk:(n:Int)+(m:Int)-(i:Int)=((n+m-i:Nat):Int):=by omega
 have hik:i+(n+m-i)=n+m:=by omega
 have hzs:=T.hzs
 have hcur0:=hcur
 rw[<-hk]at hcur htk hvl hk0 hzs⊢
 have hnk:n*k<=c*k:=Nat.mul_le_mul_right k hnc
 have husl:us.length=n*k:=by rw[<-htk,List.length_take];omega
 have hikn:i*k<=n*k:=Nat.mul_le_mul_right k (by omega)
 have hcell:∀j u,us[j]? =some u->w.cell? ⟨b,j,none⟩=some u:=by intro j u hu;rw[hr.cell];rw[<-htk,List.getElem?_take]at hu;split at hu;exact hu;cases hu
 have hbw:b<w.heap.size:=hr.lt
 have hold:(Builtin.firstCells i0.size i (.slice (some ⟨b,0,none⟩) i c)).run P w.drew=.ok (us.take (i*k)).toArray w.drew:=by
  rw[<-hk];exact run_firstCells_some w.drew k i ⟨b,0,none⟩ i c (us.take (i*k)) (by rw[List.length_take];omega) (fun j v hj=>by rw[Addr.add_lit,Nat.zero_add];rw[List.getElem?_take]at hj;split at hj;exact hcell j v hj;cases hj)
 have hrz:∀ty,(Builtin.append_ #[(ρ.t 24),(ρ.t 3)] ty #[.slice (some ⟨b,0,none⟩) i c,.int .i64 ((n:Int)+(m:Int)-(i:Int))]).run P w=
  .ok (.slice (some ⟨w.heap.size,0,none⟩) (n+m) (grownCap w (n+m) c e)) (w.drew.alloc (.cells ((us.take (i*k)).toArray++Builtin.zeroCells z.cells (n+m-i)++Builtin.zeroCells z.cells (grownCap w (n+m) c e-(n+m))) e)):=fun ty=>by
  have hb0:(n+m-i)*i0.bytes<=(n+m)*i0.bytes:=Nat.mul_le_mul_right _ (by omega)
  have h:=Lib.run_append_grow_zeros w (ρ.t 24) (ρ.t 3) ty e i0 z .i64 .i64 t24 t3 T.hi T.hz (some ⟨b,0,none⟩) i c (us.take (i*k)) hold (n+m-i) (by omega) (by omega) (by omega) (by omega) (by omega) (by rw[hik];exact growslice_fits hroom hbig)
  rw[hik]at h
  rw[hkk]
  exact h
 obtain⟨G,hG⟩:∃G,G=grownCap w (n+m) c e:=⟨_,rfl⟩
 obtain⟨ROW,hROW⟩:∃ROW:Array Value,ROW=(us.take (i*k)).toArray++Builtin.zeroCells z.cells (n+m-i)++Builtin.zeroCells z.cells (G-(n+m)):=⟨_,rfl⟩
 rw[<-hG]at hrz⊢
 rw[<-hROW]at hrz⊢
 have e1:(i+m)*k=i*k+m*k:=Nat.add_mul _ _ _
 have e2:(n-i)*k=n*k-i*k:=Nat.sub_mul _ _ _
 have e3:(n+m)*k=n*k+m*k:=Nat.add_mul _ _ _
 have e4:(n+m-i)*k=(n+m)*k-i*k:=Nat.sub_mul _ _ _
 have hRl:(n+m)*k<=ROW.size:=by
  rw[hROW];have z1:(Builtin.zeroCells z.cells (n+m-i)).size=(n+m-i)*k:=by rw[<-hzs];exact Cm _ _
  simp only[Array.size_append,List.size_toArray,List.length_take,z1];omega
 obtain⟨W1,hW1⟩:∃W1,W1=w.drew.alloc (.cells ROW e):=⟨_,rfl⟩
 rw[<-hW1]at hrz
 have hR1:BH W1 w.heap.size e ROW.toList:=by rw[hW1];unfold BH;simpa using heap_alloc_new w.drew (.cells ROW e)
 have hOb:∀x v,w.cell? x=some v->W1.cell? x=some v:=fun x v h=>by rw[hW1];exact Lib.cell?_alloc_some _ h
 have hmin1:Nat.min (n-i) (n+m-(i+m))=n-i:=by simp only[Nat.min_def];split<;>omega
 have hmin2:Nat.min m (n+m-i)=m:=by simp only[Nat.min_def];split<;>omega
 have hcpA:∀(W:World),(∀x,W.cell? x=W1.cell? x)->(∀x,W.frozen? x=W1.frozen? x)->∀ty dc,(Builtin.copy_ #[(ρ.t 24),(ρ.t 24)] ty #[.slice (some ⟨w.heap.size,i*k,none⟩) (n+m-i) dc,.slice (some va) m vc]).run P W=.ok (goInt m) (W.setCells w.heap.size (i*k) vs):=fun W hWc hWf ty dc=>by
  have h:=C7 (P:=P) W (ρ.t 24) (ρ.t 24) ty e w.heap.size (i*k) (n+m-i) dc va m vc vs i0 t24 T.hi (by rw[hvl,hmin2,hk])
   (fun j v hj=>by rw[hWc];exact hOb _ v (hvs j v hj))
   (fun j hj=>by rw[hvl]at hj;rw[hWc,hR1.cell,List.getElem?_eq_getElem (by rw[Array.length_toList];omega)];rfl) (fun j hj=>by rw[hWf];exact hR1.thawed _) h1v
  rw[hmin2]at h;exact h
 have hGn:n+m<=G:=by rw[hG];exact grownCap_ge w _ _ _
 have hG63:G<=9223372036854775807:=by have:=grownCap_le_maxLen w (n+m) c e h63;rw[<-hG]at this;exact Nat.le_trans this (by decide)
 have hGi:¬(G=i):=by omega
 have hGim:¬(G=i+m):=by omega
 have hci:¬(c=i):=by omega
 have hdl:(us.drop (i*k)).length=(n-i)*k:=by rw[List.length_drop,husl,Nat.sub_mul]
 obtain⟨cur2,hR2,hc2⟩:∃cur2,BH (W1.setCells w.heap.size (i*k) vs) w.heap.size e cur2/\cur2.length=ROW.size:=by refine⟨_,BH.set _ _ hR1 (by rw[hvl,Array.length_toList];omega),?_⟩;simp only[List.length_append,List.length_take,List.length_drop,Array.length_toList,hvl];omega
 have hcpB:∀(W:World),(∀x,W.cell? x=(W1.setCells w.heap.size (i*k) vs).cell? x)->(∀x,W.frozen? x=(W1.setCells w.heap.size (i*k) vs).frozen? x)->∀ty dc sc,(Builtin.copy_ #[(ρ.t 24),(ρ.t 24)] ty #[.slice (some ⟨w.heap.size,(i+m)*k,none⟩) (n+m-(i+m)) dc,.slice (some ⟨b,i*k,none⟩) (n-i) sc]).run P W=.ok (goInt ((n-i:Nat):Int)) (W.setCells w.heap.size ((i+m)*k) (us.drop (i*k))):=fun W hWc hWf ty dc sc=>by
  have h:=C7 (P:=P) W (ρ.t 24) (ρ.t 24) ty e w.heap.size ((i+m)*k) (n+m-(i+m)) dc ⟨b,i*k,none⟩ (n-i) sc (us.drop (i*k)) i0 t24 T.hi (by rw[hdl,hmin1,hk])
   (fun j v hj=>by rw[Addr.add_lit,hWc,World.cell?_setCells_out _ _ _ _ _ (fun h _=>absurd h (show b≠w.heap.size by omega))];exact hOb _ v (hcell (i*k+j) v (by rwa [List.getElem?_drop]at hj)))
   (fun j hj=>by rw[hdl]at hj;rw[hWc,hR2.cell,List.getElem?_eq_getElem (by omega)];rfl)
   (fun j hj=>by rw[hWf];exact hR2.thawed _) (fun v hv=>hone v (List.mem_of_mem_drop hv))
  rw[hmin1]at h;exact h
 clear hR1 hR2 hc2
 subst hW1
 have hE1:∀x,((w.alloc (.cells ROW e)).drew).cell? x=(w.drew.alloc (.cells ROW e)).cell? x:=fun x=>rfl
 have hE2:∀x,((w.alloc (.cells ROW e)).drew).frozen? x=(w.drew.alloc (.cells ROW e)).frozen? x:=fun x=>rfl
 have hF1:∀x,(((w.alloc (.cells ROW e)).drew.setCells w.heap.size (i*k) vs).drew).cell? x=((w.drew.alloc (.cells ROW e)).setCells w.heap.size (i*k) vs).cell? x:=fun x=>rfl
 have hF2:∀x,(((w.alloc (.cells ROW e)).drew.setCells w.heap.size (i*k) vs).drew).frozen? x=((w.drew.alloc (.cells ROW e)).setCells w.heap.size (i*k) vs).frozen? x:=fun x=>rfl
 have hw1:IntKind.i64.wrap ((i:Int)+(m:Int))=(i:Int)+(m:Int):=by rw[IntKind.wrap_i64];omega
 have hb1:(0:Int)<=(i:Int)+(m:Int):=by omega
 have hin:i<=n:=by omega
 have htn:((i:Int)+(m:Int)).toNat=i+m:=by omega
 have hb3:(i:Int)<=(n:Int):=by omega
 clear hcell hr hone hvs h1v hvl hcur htk husl hdl hk e1 e2 e3 e4 hmin1 hmin2 hnk hikn T hkk hik hold hROW hG hRl hOb hcur0 hbw hvb hzs
 obtain⟨_,_,FG⟩:=FB
 go_enter FG,Body2.n22_ntmps ρ
 go_wp2_with (first
  |(at_builtin;refine Lib.wpList_append_run _ rfl _ _ _ _ rfl _ _ rfl rfl _ _ (hrz _) ?_)
  |(at_builtin;refine wpList_copy_runI _ rfl _ _ (ρ.t 24) (ρ.t 24) rfl _ _ rfl rfl (hcpA _ hE1 hE2 _ _) ?_)
  |(at_builtin;refine wpList_copy_runI _ rfl _ _ (ρ.t 24) (ρ.t 24) rfl _ _ rfl rfl (hcpB _ (fun _=>rfl) (fun _=>rfl) _ _ _) ?_))
 go_region_law_o (refine step_copy_runI rfl _ _ (ρ.t 24) (ρ.t 24) rfl (.slice (some ⟨w.heap.size,(i+m)*k,none⟩) (n+m-(i+m)) (G-(i+m))) (.slice (some ⟨b,i*k,none⟩) (n-i) (c-i)) (by simp[Act.eval,Act.put]) (by simp[Act.eval,Act.put]) (hcpB _ hF1 hF2 (ρ.t 3) (G-(i+m)) (c-i)) ?_)
 go_wp2
 go_ret
 exact⟨rfl,rfl⟩
end
end Go.Ac
namespace Go.Ac
open Go.Proofs Go.Shelf Go.RowKit Go.Lib Go.Sort
section
variable {P:Program} {ρ:Ren}
theorem V7{e:TypeId}{i0:TypeInfo}{z:Value}(mixed:P.follows .mixedOrders=true)(FB:Bears P (ρ.f 22) (Body2.n22 ρ))
 (t3:P.underlying (ρ.t 3)=some (.int .i64)) (t4:P.underlying (ρ.t 4)=some .bool) (T:Sd P (ρ.t 24) e i0 z) (hk0:0<i0.size)
 (hox:∀args w,(callFunc (ρ.f 29) args).run P w=((Extern.SlicesOverlaps.overlaps #[ρ.t 24,ρ.t 24] #[ρ.t 4] args).run P w).andThen fun v w=>.ok (.value v) w)
 (xs ys:List D) (i:Nat) (hi:i<=xs.length) (hy:0<ys.length) (h63:xs.length+ys.length<=maxLen) (hbytes:(xs.length+ys.length)*i0.bytes<=140737488355328):
 AL P (ρ.f 22) [.row 0,.d (.v (.int .i64 i)),.row 1] [(0,.rw e i0.size xs),(1,.row e i0.size ys)] (.row 2) [(2,.rw e i0.size (xs.take i++ys++xs.drop i))]:=by
 intro h w val vs hI hA
 simp only[RAs,RA,RD]at hA
 obtain⟨_,_,rfl,⟨rfl,_⟩,_,_,rfl,⟨rfl,_⟩,_,_,rfl,⟨rfl,_⟩,rfl⟩:=hA
 obtain⟨us,hown,hrow,hh⟩:=hI.rep (0,.rw e i0.size xs) (by simp)
 obtain⟨ws,hown2,hrow2,hh2⟩:=hI.rep (1,.row e i0.size ys) (by simp)
 have hlen:=Ad.length hrow
 have hlen2:=Ad.length hrow2
 obtain⟨k,hk⟩:∃k,k=i0.size:=⟨_,rfl⟩
 have e5:(xs.take i++ys++xs.drop i).length=xs.length+ys.length:=by simp only[List.length_append,List.length_take,List.length_drop];omega
 rcases hown2.2 with⟨hv2,h0⟩|⟨g2,cap2,cur2,hv2,_,hg2,hn2,hc2,hcs2,htk2⟩
 omega
 simp only at hv2
 have hM:∀g,(val 0).ownBlock=some g->g∈AZ val [(0,Bk.rw e i0.size xs),(1,.row e i0.size ys)]:=by intro g hg;rw[Am,Ef rfl,Bt hown,hg];exact List.mem_cons_self
 have hne:∀g,(val 0).ownBlock=some g->g2≠g:=by intro g hg q;subst q;have hb:=hI.bks;have hv0:BN (val 0)=some g2:=(Bt hown).trans hg;rw[Am,Am,Ef rfl,Ef rfl,hv0,hv2]at hb;simp[BN]at hb
 have hR2:BH w g2 e cur2.toList:=by unfold BH;simpa using hg2
 have hws:∀j u,ws[j]? =some u->w.cell? ((⟨g2,0,none⟩:Addr).add j)=some u:=fun j u hu=>by rw[hv2]at hown2;exact hown2.cells (g:=g2) rfl j u hu
 have hone2:=Ad.one hrow2
 have hone:=Ad.one hrow
 have hrow3:Ad h w i0.size (xs.take i++ys++xs.drop i) (us.take (i*i0.size)++ws++us.drop (i*i0.size)):=Ad.append (Ad.append (Ad.take i hrow) hrow2) (Ad.drop i hrow)
 have hgo:∀v' w',w'.ownsRow 0 e i0.size v' (xs.take i++ys++xs.drop i).length (us.take (i*i0.size)++ws++us.drop (i*i0.size))->(∀g,v'.ownBlock=some g->(val 0).ownBlock=some g\/w.heap.size<=g)->w.grownBy w' (val 0).ownBlock->_:=
  fun v' w' h1 h2 h3=>EN (X:=[(0,Bk.rw e i0.size xs),(1,.row e i0.size ys)]) (m:=2) (by simp[AK]) hh hM h1 hrow3 h2 h3 hI.glob
 rw[hv2]
 by_cases hend:i=xs.length
 subst hend
 obtain⟨ad,ln,cp,hv⟩:=Bh hown
 have hln:ln=xs.length:=by
  rcases hown.2 with⟨h1,h0⟩|⟨g,cap,cur,h1,_⟩
  simp only at h1;rw[hv]at h1;cases h1;exact h0.symm;simp only at h1;rw[hv]at h1;cases h1;rfl
 subst hln
 simp only at hv
 rw[hv]
 refine(Ro mixed FB t3 t4 T w ad xs.length cp us ⟨g2,0,none⟩ ys.length cap2 ws (by rw[<-hv];exact hown) hy hlen2 hws hone2 h63 hbytes).mono ?_
 rintro ex w' ⟨v',rfl,ho,hcase⟩
 have e1:xs.take xs.length++ys++xs.drop xs.length=xs++ys:=by simp
 have e2:us.take (xs.length*i0.size)++ws++us.drop (xs.length*i0.size)=us++ws:=by rw[<-hlen];simp
 rw[e1,e2]at hgo
 rw[e1]
 refine hgo v' w' (by rw[List.length_append];exact ho) (fun g hg=>?_) ?_
 rcases hcase with⟨h1,_⟩|⟨h1,_⟩
 rw[h1,<-hv]at hg;exact .inl hg
 rw[h1]at hg;cases hg;exact .inr (Nat.le_refl _)
 rcases hcase with⟨_,h1⟩|⟨_,h1⟩
 rw[hv];exact h1
 exact⟨h1.os,h1.tape,h1.output,h1.size,fun b hb _=>h1.block b hb (by simp)⟩
 have hlt:i<xs.length:=by omega
 rcases hown.2 with⟨hv,h0⟩|⟨g,cap,cur,hv,_,hg,hn,hc,hcs,htk⟩
 omega
 simp only at hv
 rw[hv]
 have hR:BH w g e cur.toList:=by unfold BH;simpa using hg
 have hg2g:g2≠g:=hne g (by rw[hv];rfl)
 have m1:xs.length*k<=cap*k:=Nat.mul_le_mul_right k hn
 have m2:(i+ys.length)*k=i*k+ys.length*k:=Nat.add_mul _ _ _
 have m4:i*k<=xs.length*k:=Nat.mul_le_mul_right k hi
 have hcl:cur.toList.length=cap*k:=by rw[hk];simpa using hcs
 have l1:(us.drop (i*k)).length=xs.length*k-i*k:=by rw[List.length_drop,hlen,hk]
 by_cases hroom:xs.length+ys.length<=cap
 refine(VH mixed FB t3 t4 T hox w g xs.length cap i cur.toList us ⟨g2,0,none⟩ ys.length cap2 ws cur2.toList e hR (by simpa using hcs) htk hone hR2 hg2g hk0 hlt hy hroom (Nat.le_trans hc (by decide)) hlen2 hws hone2).mono ?_
 rintro ex w' ⟨rfl,rfl⟩
 rw[<-hk]at hlen hlen2 hcs htk hgo⊢
 have m3:(xs.length+ys.length)*k<=cap*k:=Nat.mul_le_mul_right k hroom
 have m5:(xs.length+ys.length)*k=xs.length*k+ys.length*k:=Nat.add_mul _ _ _
 have hR1:=BH.set (us.drop (i*k)) ((i+ys.length)*k) hR.drew (by rw[l1];omega)
 have hR3:=BH.set ws (i*k) hR1 (by simp only[List.length_append,List.length_take,List.length_drop];omega)
 refine hgo _ _ ?_ (fun g' hg'=>.inl (by rw[hv];exact hg')) ?_
 rw[e5]
 refine⟨by simp only[List.length_append,List.length_take,l1];rw[Nat.min_eq_left (by omega)];omega,.inr ⟨g,cap,_,rfl,Nat.zero_le _,hR3,hroom,hc,?_,?_⟩⟩
 simp only[List.size_toArray,List.length_append,List.length_take,List.length_drop]
 omega
 simp only
 have a1:(cur.toList.take ((i+ys.length)*k)++us.drop (i*k)++cur.toList.drop ((i+ys.length)*k+(us.drop (i*k)).length)).take (i*k)=us.take (i*k):=by rw[List.append_assoc,List.take_append_of_le_length (by rw[List.length_take];omega),List.take_take,Nat.min_eq_left (by omega),<-htk,List.take_take,Nat.min_eq_left (by omega)]
 have a2:(cur.toList.take ((i+ys.length)*k)++us.drop (i*k)++cur.toList.drop ((i+ys.length)*k+(us.drop (i*k)).length)).drop (i*k+ws.length)=us.drop (i*k)++cur.toList.drop ((i+ys.length)*k+(us.drop (i*k)).length):=by rw[List.append_assoc,show i*k+ws.length=(cur.toList.take ((i+ys.length)*k)).length by rw[List.length_take];omega,List.drop_left]
 rw[a1,a2,<-List.append_assoc,List.take_append_of_le_length (by simp only[List.length_append,List.length_take,l1];omega),List.take_of_length_le (by simp only[List.length_append,List.length_take,l1];omega)]
 rw[hv]
 obtain⟨a1,a2,a3,a4,a5⟩:=Bd g (us.drop (i*k)) ((i+ys.length)*k) w.drew
 obtain⟨b1,b2,b3,b4,b5⟩:=Bd g ws (i*k) (w.drew.setCells g ((i+ys.length)*k) (us.drop (i*k)))
 refine⟨b1.trans a1,b2.trans a2,b3.trans a3,Nat.le_of_eq (b4.trans a4).symm,fun x hx hne=>?_⟩
 have hne':x≠g:=fun q=>hne (by rw[q];rfl)
 exact(b5 x hne').trans (a5 x hne')
 refine(VG mixed FB t3 t4 T w g xs.length cap i cur.toList us ⟨g2,0,none⟩ ys.length cap2 ws hR (by simpa using hcs) htk hone hR2.lt hk0 hlt hy hn (by omega) hbytes h63 hlen2 hws hone2).mono ?_
 rintro ex w' ⟨rfl,rfl⟩
 have hzs:=T.hzs
 rw[<-hk]at hlen hlen2 hcs htk hgo hzs⊢
 obtain⟨G,hG⟩:∃G,G=grownCap w (xs.length+ys.length) cap e:=⟨_,rfl⟩
 have hGn:xs.length+ys.length<=G:=by rw[hG];exact grownCap_ge w _ _ _
 have hGm:G<=maxLen:=by rw[hG];exact grownCap_le_maxLen w _ _ e h63
 rw[<-hG]
 obtain⟨ROW,hROW⟩:∃ROW:Array Value,ROW=(us.take (i*k)).toArray++Builtin.zeroCells z.cells (xs.length+ys.length-i)++Builtin.zeroCells z.cells (G-(xs.length+ys.length)):=⟨_,rfl⟩
 rw[<-hROW]
 have z1:∀n,(Builtin.zeroCells z.cells n).size=n*k:=fun n=>by rw[<-hzs];exact Cm _ _
 have m5:(xs.length+ys.length)*k=xs.length*k+ys.length*k:=Nat.add_mul _ _ _
 have m6:(xs.length+ys.length-i)*k=(xs.length+ys.length)*k-i*k:=Nat.sub_mul _ _ _
 have m7:(G-(xs.length+ys.length))*k=G*k-(xs.length+ys.length)*k:=Nat.sub_mul _ _ _
 have m8:(xs.length+ys.length)*k<=G*k:=Nat.mul_le_mul_right k hGn
 have hRl:ROW.toList.length=G*k:=by rw[hROW];simp only[Array.length_toList,Array.size_append,List.size_toArray,List.length_take,z1];omega
 have hRt:ROW.toList.take (i*k)=us.take (i*k):=by rw[hROW];simp only[Array.toList_append,List.append_assoc];rw[List.take_append_of_le_length (by rw[List.length_take];omega),List.take_take,Nat.min_self]
 have hR0:BH ((w.alloc (.cells ROW e)).drew) w.heap.size e ROW.toList:=by unfold BH;exact heap_alloc_new w (.cells ROW e)
 have hR1:=(BH.set ws (i*k) hR0 (by omega)).drew
 have hR3:=BH.set (us.drop (i*k)) ((i+ys.length)*k) hR1 (by simp only[List.length_append,List.length_take,List.length_drop];omega)
 refine hgo _ _ ?_ (fun g' hg'=>.inr (by simp[Value.ownBlock]at hg';omega)) ?_
 rw[e5]
 refine⟨by simp only[List.length_append,List.length_take,l1];rw[Nat.min_eq_left (by omega)];omega,.inr ⟨w.heap.size,G,_,rfl,Nat.zero_le _,hR3,hGn,hGm,?_,?_⟩⟩
 simp only[List.size_toArray,List.length_append,List.length_take,List.length_drop]
 omega
 simp only
 have a1:(ROW.toList.take (i*k)++ws++ROW.toList.drop (i*k+ws.length)).take ((i+ys.length)*k)=us.take (i*k)++ws:=by rw[hRt,List.take_append_of_le_length (by simp only[List.length_append,List.length_take];omega),List.take_of_length_le (by simp only[List.length_append,List.length_take];omega)]
 rw[a1,List.take_append_of_le_length (by simp only[List.length_append,List.length_take,l1];omega),List.take_of_length_le (by simp only[List.length_append,List.length_take,l1];omega)]
 rw[hv]
 obtain⟨a1,a2,a3,a4,a5⟩:=Bd w.heap.size ws (i*k) (w.alloc (.cells ROW e)).drew
 obtain⟨b1,b2,b3,b4,b5⟩:=Bd w.heap.size (us.drop (i*k)) ((i+ys.length)*k) (((w.alloc (.cells ROW e)).drew.setCells w.heap.size (i*k) ws).drew)
 have hsz:w.heap.size<=(w.alloc (.cells ROW e)).heap.size:=by simp
 refine⟨b1.trans a1,b2.trans a2,b3.trans a3,by rw[b4];exact Nat.le_trans hsz (Nat.le_of_eq a4.symm),fun x hx hne=>?_⟩
 have hne':x≠w.heap.size:=by omega
 exact(b5 x hne').trans ((a5 x hne').trans (heap_alloc_old w _ hx))
end
def aG3{α:Type}(by_:Nat)(i:Int)(xs ys:List α):Option (List α):=
 if 0<=i/\i<=xs.length/\0<ys.length/\fit xs.length ys.length by_ then some (xs.take i.toNat++ys++xs.drop i.toNat)else none
theorem XL{P:Program}{ρ:Ren}{e:TypeId}{k by_ fi:Nat}{α:Type}(f:α->D)(mixed:P.follows .mixedOrders=true)(hfi:ρ.f 22=fi)(FB:Bears P (ρ.f 22) (Body2.n22 ρ))
 (t3:P.underlying (ρ.t 3)=some (.int .i64)) (t4:P.underlying (ρ.t 4)=some .bool) (ht:P.underlying (ρ.t 24)=some (.slice e))
 (hq:(P.info? e).map (fun i=>(i.size,i.bytes,i.zero.map (·.cells.size),i.zero.map (fun z=>z.cells.all (·.oneCell'))))=some (k,by_,some k,some true))
 (hk0:0<k) (hby:0<by_)
 (hox:∀args w,(callFunc (ρ.f 29) args).run P w=((Extern.SlicesOverlaps.overlaps #[ρ.t 24,ρ.t 24] #[ρ.t 4] args).run P w).andThen fun v w=>.ok (.value v) w)
 (i:Int) (xs ys r:List α) (h:aG3 by_ i xs ys=some r):AL P fi [.row 0,.d (D.i .i64 i),.row 1] [(0,.rw e k (xs.map f)),(1,.row e k (ys.map f))] (.row 2) [(2,.rw e k (r.map f))]:=by
 obtain⟨i0,z,T,rfl,rfl⟩:=IB ht hq
 unfold aG3 at h
 split at h
 rename_i hc
 obtain rfl:=Option.some.inj h
 obtain⟨n,rfl⟩:=Int.eq_ofNat_of_zero_le hc.1
 subst hfi
 have hf:=hc.2.2.2
 unfold fit at hf
 have h63:xs.length+ys.length<=maxLen:=by have:xs.length+ys.length<=(xs.length+ys.length)*i0.bytes:=Nat.le_mul_of_pos_right _ hby;exact Nat.le_trans (Nat.le_trans this hf) (by decide)
 have:=V7 mixed FB t3 t4 T hk0 hox (xs.map f) (ys.map f) n (by rw[List.length_map];omega) (by rw[List.length_map];exact hc.2.2.1) (by simpa using h63) (by simpa using hf)
 simpa[List.map_take,List.map_drop,D.i]using this
 cases h
end Go.Ac
namespace Go.Ac
open Go.Proofs Go.Shelf Go.RowKit Go.Lib
theorem B1{P:Program}{t:TypeId}{n:Nat}(h:(P.info? t).map (·.size)=some n)(w:World):(Go.sizeOf t).run P w=.ok n w:=by simp only[om]at h;obtain⟨i,hi,rfl⟩:=h;simp[sizeOf,typeInfo,hi]
theorem Cw{P:Program}{t:TypeId}{z:Value}(h:(P.info? t).map (·.zero)=some (some z))(w:World):(zeroValue t).run P w=.ok z w:=by simp only[om]at h;obtain⟨i,hi,hz⟩:=h;simp[zeroValue,typeInfo,hi,hz]
section
variable {P:Program} {ρ:Ren}
set_option maxHeartbeats 2000000 in
set_option maxRecDepth 100000 in
theorem M0(L:SlLaysE0.n41 P ρ){i0:TypeInfo}{z:Value}(T:Sd P (ρ.t 22) (ρ.t 23) i0 z)(hsz:0<i0.size)(ad:Addr)(n c:Nat)(news:List Value)(w:World)(hl:news.length=n*i0.size)(hn:n<=maxLen)(hbig:n*i0.bytes<=140737488355328)
 (hc:∀j u,news[j]? =some u->w.cell? (ad.add j)=some u) (h1:∀u∈news,u.oneCell'=true):
 Calls P (ρ.f 41) #[.slice (some ad) n c] w fun e w'=>∃v',e=.returned v'/\w'.ownsRow w.heap.size (ρ.t 23) i0.size v' n news/\Below w.heap.size w w':=by
 have z23:∀w,(Go.sizeOf (ρ.t 23)).run P w=.ok i0.size w:=fun w=>by simp[sizeOf,typeInfo,T.hi]
 have mixed:=L.mixed;have t4:=L.t4;have a4:=L.a4;have z4:=L.z4;have v4:=L.v4;have t22:=L.t22;have a22:=L.a22;have z22:=L.z22;have v22:=L.v22
 have q22:∀(w:World) (a:Option Addr) (n c n' c':Nat),(binOp .eql (ρ.t 22) (.slice a n c) (.slice none n' c')).run P w=.ok (.bool a.isNone) w:=fun w a n c n' c'=>Lib.run_eql_slice_nil w _ _ a n c n' c' L.t22
 have u22:∀w,Sem.run P (underlying (ρ.t 22)) w=.ok (TypeDesc.slice (ρ.t 23)) w:=run_underlying t22
 have A:Aside (∀j u,news[j]? =some u->w.cell? (ad.add j)=some u):=hc
 have hi:=T.hi;have hz0:=T.hz;have hzs:=T.hzs
 clear hc T
 obtain⟨b,off,sp⟩:=ad
 obtain⟨_,_,FG⟩:=L.f41
 go_enter FG,SlBodyN.n41_ntmps ρ
 go_wp2_with (at_builtin;refine wpList_append_own _ rfl _ _ (ρ.t 22) rfl w.heap.size (ρ.t 23) i0 z i0.size i0.bytes t22 hi hz0 rfl rfl hzs hsz _ _ _ rfl (World.ownsRow_made w #[] 0 (Nat.le_refl _) (Nat.zero_le _) (by simp)) ⟨b,off,sp⟩ n c news rfl ?qc1 ?qc2 ?qc3 ?qc4 ?qc5 ?qc6 ?_)
 case qc1=>exact hl
 case qc2=>
  intro j u hj
  exact Lib.cell?_alloc_some _ (A.out j u hj)
 case qc3=>exact h1
 case qc4=>rw[Nat.zero_add];exact hn
 case qc5=>rw[Nat.zero_add];exact hbig
 case qc6=>simp
 intro v' w1 hown hgrow hnil
 go_wp2
 go_ret
 refine⟨v',rfl,by simpa using hown,?_⟩
 exact((Below.refl _ w).alloc (Nat.le_refl _) _).grown hgrow (by simp) (by intro k hk;simp[Value.ownBlock]at hk;omega)

theorem Fd(L:SlLaysE0.n41 P ρ){i0:TypeInfo}{z:Value}(T:Sd P (ρ.t 22) (ρ.t 23) i0 z)(hsz:0<i0.size){h:Hw}{w:World}{xs:List D}{u:Value}
 (hx:RD h w (.sl xs) u) (hk:∀x∈xs,x.nc=i0.size) (hbig:xs.length*i0.bytes<=140737488355328):
 Calls P (ρ.f 41) #[u] w fun e w'=>∃v' us,e=.returned v'/\w'.ownsRow 0 (ρ.t 23) i0.size v' xs.length us/\Ad h w i0.size xs us/\(∀g,v'.ownBlock=some g->w.heap.size<=g)/\w.grownBy w' none:=by
 obtain⟨ad,cap,k',vs,rfl,hl,hm,hyrow,hc⟩:=by simpa only[RD]using hx
 have hvs:vs.length=xs.length*i0.size/\Ad h w i0.size xs vs:=by
  cases xs with
  |nil=>
   have:vs=[]:=by simpa[Ad]using hyrow
   subst this;exact⟨by simp,by simp[Ad]⟩
  |cons y ys=>
   have e1:=hk y (by simp)
   have e2:=hyrow.mk y (by simp)
   have:k'=i0.size:=by omega
   subst this
   exact⟨hyrow.length,hyrow⟩
 cases ad with
 |none=>
  have h0:xs=[]:=by
   cases xs with
   |nil=>rfl
   |cons y ys=>obtain⟨x,hx,_⟩:=hc (by simp);cases hx
  subst h0
  refine(AnyE.slices_Clone_nil L _ _ w).mono ?_
  rintro e w' ⟨rfl,rfl⟩
  exact⟨_,[],rfl,World.ownsRow_nil _ _ _ _,by simp[Ad],by simp[Value.ownBlock],⟨rfl,rfl,rfl,Nat.le_refl _,fun _ _ _=>rfl⟩⟩
 |some a=>
  have hcell:∀j x,vs[j]? =some x->w.cell? (a.add j)=some x:=by
   intro j x hj;rcases Nat.eq_zero_or_pos xs.length with h0|h0
   have:vs=[]:=List.eq_nil_of_length_eq_zero (by rw[hvs.1,h0,Nat.zero_mul]);subst this;simp at hj;obtain⟨a',ha,hcell⟩:=hc h0;cases ha;exact(hcell j x hj).1
  refine(M0 L T hsz a xs.length cap vs w hvs.1 (Nat.le_trans hl hm) hbig hcell hvs.2.one).mono ?_
  rintro e w' ⟨v',rfl,hown,hB⟩
  refine⟨v',vs,rfl,⟨hown.1,?_⟩,hvs.2,fun g hg=>(hown.lt g hg).1,⟨hB.os,hB.tape,hB.output,hB.size,fun b hb _=>hB.block b hb⟩⟩
  rcases hown.2 with h0|⟨g,cap,cur,e1,_,e3⟩
  exact .inl h0
  exact .inr ⟨g,cap,cur,e1,Nat.zero_le _,e3⟩

theorem YH(L:SlLaysE0.n41 P ρ){i0:TypeInfo}{z:Value}(T:Sd P (ρ.t 22) (ρ.t 23) i0 z)(hsz:0<i0.size)(xs:List D)(hk:∀x∈xs,x.nc=i0.size)(hbig:xs.length*i0.bytes<=140737488355328):
 AL P (ρ.f 41) [.d (.sl xs)] [] (.row 0) [(0,.rw (ρ.t 23) i0.size xs)]:=by
 intro h w val vs hI hA
 simp only[RAs,RA]at hA
 obtain⟨u,_,rfl,hu,rfl⟩:=hA
 refine(Fd L T hsz hu hk hbig).mono ?_
 rintro e w' ⟨v',us,rfl,hown,hrow,hnew,hgrow⟩
 exact EN (X:=[]) (v:=.slice none 0 0) (by simp[AK]) (by simp[Value.ownBlock]) (by simp[Value.ownBlock]) hown hrow (fun g hg=>.inr (hnew g hg)) hgrow hI.glob

theorem V6(L:SlLaysE0.n41 P ρ){i0:TypeInfo}{z:Value}(T:Sd P (ρ.t 22) (ρ.t 23) i0 z)(hsz:0<i0.size)(xs:List D)(hk:∀x∈xs,x.nc=i0.size)(hbig:xs.length*i0.bytes<=140737488355328):
 AL P (ρ.f 41) [.d (.sl xs)] [] (.d (.sl xs)) []:=by
 intro h w val vs hI hA
 simp only[RAs,RA]at hA
 obtain⟨u,_,rfl,hu,rfl⟩:=hA
 refine(Fd L T hsz hu hk hbig).mono ?_
 rintro e w' ⟨v',us,rfl,hown,hrow,hnew,hgrow⟩
 let h':Hw:=fun b=>if v'.ownBlock=some b then xs.length*i0.size else h b
 have hkeep:BI (AZ val []) h w h' w':=by
  refine⟨hgrow.os,hgrow.tape,hgrow.output,hgrow.size,fun b j x hj hcx=>?_,fun b hb=>?_,fun b hb hn=>?_⟩;rw[World.cell?_of_block (w:=w) (a:=⟨b,j,none⟩) (hgrow.block b (Cq hcx) (by simp))];exact hcx;show h b<=if v'.ownBlock=some b then _ else h b
  split;rename_i hvb;have:=hnew b hvb;omega;exact Nat.le_refl _;refine⟨hgrow.block b hb (by simp),?_⟩;show(if v'.ownBlock=some b then _ else h b)=h b
  rw[if_neg fun hvb=>by have:=hnew b hvb;omega]
 have hrb:RB h' w' (Al val 0 v') 0 (.row (ρ.t 23) i0.size xs):=by
  refine⟨us,by simpa[Al]using hown,Ad.stays hkeep.stays _ _ _ hrow,fun g hg=>?_⟩;simp only[Al]at hg;show(if v'.ownBlock=some g then _ else h g)=_
  rw[if_pos (by simpa using hg)]
 have hd:=RB.data hrb
 simp only[Al,if_true]at hd
 exact⟨h',val,v',rfl,⟨by simp,by simp[AK],by simp[AZ],hI.glob.stays hkeep.stays⟩,by simpa only[RA]using hd,hkeep,fun _ _=>rfl,by simp[AZ]⟩
end
def Fc{α:Type}(by_:Nat)(l:List α):Option (List α):=if fit 0 l.length by_ then some l else none
theorem Ra{P:Program}{ρ:Ren}(mixed:P.follows .mixedOrders=true)(FB:Bears P (ρ.f 41) (SlBodyN.n41 ρ))(t4:P.underlying (ρ.t 4)=some .bool)(ht:P.underlying (ρ.t 22)=some (.slice (ρ.t 23)))
 (z4:(P.info? (ρ.t 4)).map (·.size)=some 1) (v4:(P.info? (ρ.t 4)).map (·.zero)=some (some (.bool false))) (z22:(P.info? (ρ.t 22)).map (·.size)=some 1) (v22:(P.info? (ρ.t 22)).map (·.zero)=some (some (.slice none 0 0))):SlLaysE0.n41 P ρ:=
 ⟨mixed,FB,t4,fun w=>Ah (by simp[Bc,t4]) w,B1 z4,Cw v4,ht,fun w=>Ah (by simp[Bc,ht]) w,B1 z22,Cw v22⟩
theorem Mz{P:Program}{ρ:Ren}{e:TypeId}{k by_ fi:Nat}{α:Type}(f:α->D) [Bp f k](hfi:ρ.f 41=fi)(he:ρ.t 23=e)(L:SlLaysE0.n41 P ρ)
 (hq:(P.info? (ρ.t 23)).map (fun i=>(i.size,i.bytes,i.zero.map (·.cells.size),i.zero.map (fun z=>z.cells.all (·.oneCell'))))=some (k,by_,some k,some true)) (hk0:0<k)
 (l r:List α) (h:Fc by_ l=some r):AL P fi [.d (D.l f l)] [] (.row 0) [(0,.rw e k (r.map f))]:=by
 obtain⟨i,z,T,rfl,rfl⟩:=IB L.t22 hq
 unfold Fc at h
 split at h
 rename_i hc
 obtain rfl:=Option.some.inj h
 subst hfi;subst he
 exact YH L T hk0 (l.map f) (by simp only[mm];rintro x ⟨y,_,rfl⟩;exact Bp.h y) (by unfold fit at hc;simpa using hc)
 cases h
theorem L8{P:Program}{ρ:Ren}{k by_ fi:Nat}{α:Type}(f:α->D) [Bp f k](hfi:ρ.f 41=fi)(L:SlLaysE0.n41 P ρ)
 (hq:(P.info? (ρ.t 23)).map (fun i=>(i.size,i.bytes,i.zero.map (·.cells.size),i.zero.map (fun z=>z.cells.all (·.oneCell'))))=some (k,by_,some k,some true)) (hk0:0<k)
 (l r:List α) (h:Fc by_ l=some r):AL P fi [.d (D.l f l)] [] (.d (D.l f r)) []:=by
 obtain⟨i,z,T,rfl,rfl⟩:=IB L.t22 hq
 unfold Fc at h
 split at h
 rename_i hc
 obtain rfl:=Option.some.inj h
 subst hfi
 exact V6 L T hk0 (l.map f) (by simp only[mm];rintro x ⟨y,_,rfl⟩;exact Bp.h y) (by unfold fit at hc;simpa using hc)
 cases h
end Go.Ac
namespace Go.Ac
open Go.Proofs Go.Shelf Go.RowKit Go.Lib Go.Sort
section
variable {P:Program} {ρ:Ren}
theorem MY{e:TypeId}{i0:TypeInfo}{z:Value}(mixed:P.follows .mixedOrders=true)(FB:Bears P (ρ.f 22) (Body2.n22 ρ))
 (t3:P.underlying (ρ.t 3)=some (.int .i64)) (t4:P.underlying (ρ.t 4)=some .bool) (T:Sd P (ρ.t 24) e i0 z)
 (ys:List D) (hy:0<ys.length) (h63:ys.length<=maxLen) (hbytes:ys.length*i0.bytes<=140737488355328):
 AL P (ρ.f 22) [.nil,.d (.v (.int .i64 ((0:Nat):Int))),.row 0] [(0,.row e i0.size ys)] (.row 1) [(1,.rw e i0.size ys)]:=by
 intro h w val vs hI hA
 simp only[RAs,RA,RD]at hA
 obtain⟨_,_,rfl,rfl,_,_,rfl,⟨rfl,_⟩,_,_,rfl,⟨rfl,_⟩,rfl⟩:=hA
 obtain⟨ws,hown2,hrow2,hh2⟩:=hI.rep (0,.row e i0.size ys) (by simp)
 have hlen2:=Ad.length hrow2
 rcases hown2.2 with⟨hv2,h0⟩|⟨g2,cap2,cur2,hv2,_,hg2,hn2,hc2,hcs2,htk2⟩
 omega
 simp only at hv2
 have hws:∀j u,ws[j]? =some u->w.cell? ((⟨g2,0,none⟩:Addr).add j)=some u:=fun j u hu=>by rw[hv2]at hown2;exact hown2.cells (g:=g2) rfl j u hu
 rw[hv2]
 refine(Ro mixed FB t3 t4 T w none 0 0 [] ⟨g2,0,none⟩ ys.length cap2 ws (World.ownsRow_nil _ _ _ _) hy hlen2 hws (Ad.one hrow2) (by omega) (by simpa using hbytes)).mono ?_
 rintro ex w' ⟨v',rfl,ho,hcase⟩
 refine EN (X:=[(0,Bk.row e i0.size ys)]) (m:=1) (v:=.slice none 0 0) (by simp[AK]) (by simp[Value.ownBlock]) (by simp[Value.ownBlock]) (by simpa using ho) hrow2 (fun g hg=>?_) ?_ hI.glob
 rcases hcase with⟨h1,_⟩|⟨h1,_⟩
 rw[h1]at hg;simp[Value.ownBlock]at hg
 rw[h1]at hg;cases hg;exact .inr (Nat.le_refl _)
 rcases hcase with⟨_,h1⟩|⟨_,h1⟩
 exact h1
 exact⟨h1.os,h1.tape,h1.output,h1.size,fun b hb _=>h1.block b hb (by simp)⟩
end
def aG4{α:Type}(by_:Nat)(i:Int)(ys:List α):Option (List α):=
 if i=0/\0<ys.length/\fit 0 ys.length by_ then some ys else none
theorem XM{P:Program}{ρ:Ren}{e:TypeId}{k by_ fi:Nat}{α:Type}(f:α->D)(mixed:P.follows .mixedOrders=true)(hfi:ρ.f 22=fi)(FB:Bears P (ρ.f 22) (Body2.n22 ρ))
 (t3:P.underlying (ρ.t 3)=some (.int .i64)) (t4:P.underlying (ρ.t 4)=some .bool) (ht:P.underlying (ρ.t 24)=some (.slice e))
 (hq:(P.info? e).map (fun i=>(i.size,i.bytes,i.zero.map (·.cells.size),i.zero.map (fun z=>z.cells.all (·.oneCell'))))=some (k,by_,some k,some true)) (hby:0<by_)
 (i:Int) (ys r:List α) (h:aG4 by_ i ys=some r):AL P fi [.nil,.d (D.i .i64 i),.row 0] [(0,.row e k (ys.map f))] (.row 1) [(1,.rw e k (r.map f))]:=by
 obtain⟨i0,z,T,rfl,rfl⟩:=IB ht hq
 unfold aG4 at h
 split at h
 rename_i hc
 obtain⟨rfl,hy,hf⟩:=hc
 obtain rfl:=Option.some.inj h
 subst hfi
 unfold fit at hf
 rw[Nat.zero_add]at hf
 have h63:ys.length<=maxLen:=by have:ys.length<=ys.length*i0.bytes:=Nat.le_mul_of_pos_right _ hby;exact Nat.le_trans (Nat.le_trans this hf) (by decide)
 exact MY mixed FB t3 t4 T (ys.map f) (by rw[List.length_map];exact hy) (by simpa using h63) (by simpa using hf)
 cases h
end Go.Ac
namespace Go.Ac
open Go.MapKept
structure MP(K V:Type) where
 clk:Nat
 es:List (Nat×K×V)
section
variable {K V:Type}
def MP.dl(fk:K->D)(fv:V->D)(m:MP K V):List (Nat×D×D):=m.es.map fun x=>(x.1,fk x.2.1,fv x.2.2)
def GG:MP K V:=⟨0,[]⟩
structure Vj(P:Program)(kt:TypeId)(fk:K->D):Prop where
 ok:∀a,KOk P kt (fk a)
 inj:∀a b,fk a=fk b->a=b
variable {P:Program} {kt:TypeId} {fk:K->D} {fv:V->D}
abbrev dl(fk:K->D)(fv:V->D)(l:List (Nat×K×V)):List (Nat×D×D):=l.map fun x=>(x.1,fk x.2.1,fv x.2.2)
theorem aBw(T:Vj P kt fk)(l:List (Nat×K×V)):∀x∈dl fk fv l,KOk P kt x.2.1:=fun x hx=>by obtain⟨y,_,rfl⟩:=mm.1 hx;exact T.ok _
variable [DecidableEq K]
def XK(z:V)(k:K):List (Nat×K×V)->V×Bool
 |[]=>(z,false)
 |x::xs=>if x.2.1=k then(x.2.2,true)else XK z k xs
def Sf(clk:Nat)(k:K)(v:V):List (Nat×K×V)->Nat×List (Nat×K×V)
 |[]=>(clk+1,[(clk,k,v)])
 |x::xs=>if x.2.1=k then(clk,(x.1,x.2.1,v)::xs)else((Sf clk k v xs).1,x::(Sf clk k v xs).2)
def Cs(z:V)(m:MP K V)(k:K):V×Bool:=XK z k m.es
def GH(m:MP K V)(k:K)(v:V):MP K V:=⟨(Sf m.clk k v m.es).1,(Sf m.clk k v m.es).2⟩
theorem Rl(T:Vj P kt fk)(z:V)(k:K):∀l:List (Nat×K×V),((XK z k l).2=true/\∃(pre:List (Nat×D×D)) (s:Nat) (post:List (Nat×D×D)),dl fk fv l=pre++(s,fk k,fv (XK z k l).1)::post/\∀x∈pre,x.2.1≠fk k)\/((XK z k l).2=false/\fv (XK z k l).1=fv z/\∀x∈dl fk fv l,x.2.1≠fk k)
 |[]=>.inr ⟨rfl,rfl,by simp⟩
 |x::xs=>by
  rw[XK];split;rename_i h;exact .inl ⟨rfl,[],x.1,dl fk fv xs,by rw[<-h];rfl,by simp⟩;rename_i h;have hne:fk x.2.1≠fk k:=fun e=>h (T.inj _ _ e);rcases Rl T z k xs with⟨h1,pre,s,post,h2,h3⟩|⟨h1,h2,h3⟩
  refine .inl ⟨h1,(x.1,fk x.2.1,fv x.2.2)::pre,s,post,by rw[List.cons_append,<-h2];rfl,fun y hy=>?_⟩;rcases mc.1 hy with rfl|hy
  exact hne;exact h3 y hy;refine .inr ⟨h1,h2,fun y hy=>?_⟩;rcases mc.1 hy with rfl|hy
  exact hne;exact h3 y hy
theorem H3(T:Vj P kt fk)(fv:V->D)(z:V)(m:MP K V)(k:K):aCg P kt (fv z) (MP.dl fk fv m) (fk k) (fv (Cs z m k).1) (Cs z m k).2:=⟨aBw T m.es,T.ok k,Rl T z k m.es⟩
theorem VL(T:Vj P kt fk)(fv:V->D)(z:V)(m:MP K V)(k:K)(h:(Cs z m k).2=false):aCg P kt (.v (.bool false)) (MP.dl fk fv m) (fk k) (.v (.bool false)) false:=by
 have g:=H3 T fv z m k;refine⟨g.1,g.2.1,.inr ⟨rfl,rfl,?_⟩⟩;rcases g.2.2 with⟨h1,_⟩|⟨_,_,h3⟩
 rw[h]at h1;cases h1;exact h3
theorem SE(T:Vj P kt fk)(clk:Nat)(k:K)(v:V):∀l:List (Nat×K×V),((Sf clk k v l).1=clk/\∃(pre:List (Nat×D×D)) (s:Nat) (v0:D) (post:List (Nat×D×D)),dl fk fv l=pre++(s,fk k,v0)::post/\(∀x∈pre,x.2.1≠fk k)/\dl fk fv (Sf clk k v l).2=pre++(s,fk k,fv v)::post)\/((Sf clk k v l).1=clk+1/\dl fk fv (Sf clk k v l).2=dl fk fv l++[(clk,fk k,fv v)]/\∀x∈dl fk fv l,x.2.1≠fk k)
 |[]=>.inr ⟨rfl,rfl,by simp⟩
 |x::xs=>by
  rw[Sf];split;rename_i h;exact .inl ⟨rfl,[],x.1,fv x.2.2,dl fk fv xs,by rw[<-h];rfl,by simp,by rw[<-h];rfl⟩;rename_i h;have hne:fk x.2.1≠fk k:=fun e=>h (T.inj _ _ e);rcases SE T clk k v xs with⟨h1,pre,s,v0,post,h2,h3,h4⟩|⟨h1,h2,h3⟩
  refine .inl ⟨h1,(x.1,fk x.2.1,fv x.2.2)::pre,s,v0,post,by rw[List.cons_append,<-h2];rfl,fun y hy=>?_,by rw[List.cons_append,<-h4];rfl⟩;rcases mc.1 hy with rfl|hy
  exact hne;exact h3 y hy;refine .inr ⟨h1,?_,fun y hy=>?_⟩;show(x.1,fk x.2.1,fv x.2.2)::dl fk fv (Sf clk k v xs).2=_;rw[h2];rfl;rcases mc.1 hy with rfl|hy
  exact hne;exact h3 y hy
theorem R7(T:Vj P kt fk)(fv:V->D)(m:MP K V)(k:K)(v:V):YK P kt (MP.dl fk fv m) (fk k) (fv v) m.clk (MP.dl fk fv (GH m k v)) (GH m k v).clk:=⟨aBw T m.es,T.ok k,SE T m.clk k v m.es⟩
end
theorem aHg{P:Program}{kt:TypeId}{k:IntKind}(hu:P.underlying kt=some (.int k)):Vj P kt (D.i k):=⟨fun a=>⟨.int k a,rfl,.inl ⟨.int k,hu,rfl⟩⟩,fun a b e=>by simpa[D.i]using e⟩
theorem aCp{P:Program}{kt:TypeId}(hu:P.underlying kt=some .string):Vj P kt D.s:=⟨fun a=>⟨.string ⟨⟨a⟩⟩,rfl,.inl ⟨.string,hu,trivial⟩⟩,fun a b e=>by simpa[D.s]using e⟩
end Go.Ac
namespace Go.Ac
open Go.Proofs Go.Shelf Go.RowKit Go.Lib
end Go.Ac
namespace Go.Ac
open Go.Proofs Go.Shelf Go.RowKit Go.Lib
def Wz{α β:Type}(x:Option α)(y:Option β):Option (α⊕β):=match x with
 |some a=>some (.inl a)
 |none=>match y with
  |some b=>some (.inr b)
  |none=>none
theorem aHb{α β:Type}{x:Option α}{y:Option β}{a:α}(h:Wz x y=some (.inl a)):x=some a:=by
 unfold Wz at h;cases x with
 |some a'=>simp only[oe,Sum.inl.injEq]at h;rw[h]
 |none=>cases y<;>simp at h
theorem aHc{α β:Type}{x:Option α}{y:Option β}{b:β}(h:Wz x y=some (.inr b)):y=some b:=by
 unfold Wz at h;cases x with
 |some a'=>simp at h
 |none=>cases y with
  |none=>simp at h
  |some b'=>simp only[oe,Sum.inr.injEq]at h;rw[h]
open Classical in
noncomputable def VE(f:Int->Option Bool)(s:List UInt8):Option Int:=
 if∀r:Nat,r<=1114111->(f (r:Int)).isSome=true then some (Lib.idxFunc (fun r=>(f (r:Int)).getD false) true ⟨⟨s⟩⟩)else none
theorem BI.of_below{h:Hw}{w w':World}(hb:Below w.heap.size w w'):BI [] h w h w':=
 ⟨hb.os,hb.tape,hb.output,hb.size,fun b i v _ hc=>by have hlt:=Cq hc;rw[World.cell?_of_block (w:=w) (a:=⟨b,i,none⟩) (hb.block b hlt)];exact hc,fun _ _=>Nat.le_refl _,fun b hlt _=>⟨hb.block b hlt,rfl⟩⟩
theorem GE{h h':Hw}{w w':World}(k:BI [] h w h' w'):Below w.heap.size w w':=
 ⟨k.os,k.tape,k.output,k.size,fun b hb=>(k.far b hb (by simp)).1⟩
theorem VF{P:Program}{ρ:Ren}(L:LaysGw.n15 P ρ){g:Nat}(eg:∀args w,(callFunc g args).run P w=.ok (.enter g args) w){f:Int->Option Bool}
 (hf:∀(r:Int) (b:Bool),f r=some b->AL P g [.d (D.i .i32 r)] [] (.d (D.b b)) []) {s:List UInt8} {r:Int} (h:VE f s=some r):
 AL P (ρ.f 15) [.d (D.s s),.clo (.func g) [] []] [] (.d (D.i .i64 r)) []:=by
 unfold VE at h
 split at h
 rename_i hall
 simp only[oe]at h
 subst h
 intro hh w val vs hI hA
 simp only[RAs,RA,RD,D.s]at hA
 obtain⟨u,_,rfl,⟨rfl,_⟩,u2,_,rfl,⟨us,vs,rfl,h1,h2⟩,rfl⟩:=hA
 subst h1;subst h2
 refine(Any.strings_IndexFunc_grows L g #[] eg (fun r=>(f (r:Int)).getD false) ⟨⟨s⟩⟩ w ?_).mono ?_
 intro W x hx hb
 have h1:=hall x hx
 obtain⟨b,hb2⟩:=Option.isSome_iff_exists.1 h1
 have hg:GOk hh W:=hI.glob.stays (BI.of_below (hb)).stays
 have:=hf x b hb2 hh W (fun _=>default) [.int .i32 x] (Inv.nil hg _) (by simp[RAs,RA,RD,D.i,Value.cells,Value.oneCell'])
 refine Calls.mono this ?_
 rintro e w' ⟨h',val',u,rfl,_,hr,hk,_,_⟩
 simp only[RA,RD,D.b]at hr
 obtain⟨rfl,_⟩:=hr
 refine⟨by simp only[hb2];rfl,GE hk⟩
 rintro e w' ⟨rfl,hb⟩
 exact⟨hh,val,_,rfl,Inv.nil (hI.glob.stays (BI.of_below hb).stays) _,by simp[RA,RD,D.i,Value.cells,Value.oneCell'],BI.of_below hb,fun n _=>rfl,fun b hb=>by simp[AZ]at hb⟩
 cases h
theorem M8{P:Program}{t:TypeId}{z:Option Value}{s b:Nat}(h:(P.info? t).map (fun i=>(i.zero,i.size,i.bytes))=some (z,s,b)):(P.info? t).map (·.size)=some s:=by
 cases hi:P.info? t with
 |none=>rw[hi]at h;cases h
 |some i=>rw[hi]at h;simp only[Option.map_some,oe,pe]at h⊢;exact h.2.1
theorem M7{P:Program}{t:TypeId}{z:Option Value}{s b:Nat}(h:(P.info? t).map (fun i=>(i.zero,i.size,i.bytes))=some (z,s,b)):(P.info? t).map (·.zero)=some z:=by
 cases hi:P.info? t with
 |none=>rw[hi]at h;cases h
 |some i=>rw[hi]at h;simp only[Option.map_some,oe,pe]at h⊢;exact h.1
theorem XZ{P:Program}{ρ:Ren}(mixed:P.follows .mixedOrders=true)(f15:P.funcs[ρ.f 15]? =some (BodyGw.n15 ρ))(f20:P.funcs[ρ.f 20]? =some (BodyGw.n20 ρ))
 (t0:P.underlying (ρ.t 0)=some (.tuple #[])) (t3:P.underlying (ρ.t 3)=some (.int .i64)) (t4:P.underlying (ρ.t 4)=some .bool) (t9:P.underlying (ρ.t 9)=some .string) (t21:P.underlying (ρ.t 21)=some (.int .i32)) (t23:P.underlying (ρ.t 23)=some (.func #[ρ.t 21] #[ρ.t 4] false))
 (i0:(P.info? (ρ.t 0)).map (fun i=>(i.zero,i.size,i.bytes))=some (some (.tuple #[]),1,0)) (i3:(P.info? (ρ.t 3)).map (fun i=>(i.zero,i.size,i.bytes))=some (some (.int .i64 0),1,8))
 (i4:(P.info? (ρ.t 4)).map (fun i=>(i.zero,i.size,i.bytes))=some (some (.bool false),1,1)) (i9:(P.info? (ρ.t 9)).map (fun i=>(i.zero,i.size,i.bytes))=some (some (.string {data:= #[]}),1,16))
 (i21:(P.info? (ρ.t 21)).map (fun i=>(i.zero,i.size,i.bytes))=some (some (.int .i32 0),1,4)) (i23:(P.info? (ρ.t 23)).map (fun i=>(i.zero,i.size,i.bytes))=some (some .nilFunc,1,8)):LaysGw.n15 P ρ:=
 ⟨mixed,f15,f20,t0,fun w=>Ah (by simp[Bc,t0]) w,B1 (M8 i0),Cw (M7 i0),i0,t3,fun w=>Ah (by simp[Bc,t3]) w,B1 (M8 i3),Cw (M7 i3),i3,
  t4,fun w=>Ah (by simp[Bc,t4]) w,B1 (M8 i4),Cw (M7 i4),i4,t9,fun w=>Ah (by simp[Bc,t9]) w,B1 (M8 i9),Cw (M7 i9),i9,
  t21,fun w=>Ah (by simp[Bc,t21]) w,B1 (M8 i21),Cw (M7 i21),i21,t23,fun w=>Ah (by simp[Bc,t23]) w,B1 (M8 i23),Cw (M7 i23),i23⟩
end Go.Ac
namespace Go.Ac
section
variable {α β σ τ:Type}
def GN(body:Nat->β->α->β⊕τ)(fin:β->τ):Nat->List α->β->τ
 |_,[],w=>fin w
 |i,x::xs,w=>match body i w x with
  | .inl w'=>GN body fin (i+1) xs w'
  | .inr t=>t
theorem B0{step:σ->Option (σ⊕τ)}(l:List α)(mk:Nat->β->σ)(body:Nat->β->α->β⊕τ)(fin:β->τ)(I:Nat->β->Prop)
 (h1:∀i x w,l[i]? =some x->I i w->step (mk i w)=some (match body i w x with| .inl w'=>.inl (mk (i+1) w')| .inr t=>.inr t)/\∀w',body i w x=.inl w'->I (i+1) w')
 (h2:∀w,I l.length w->step (mk l.length w)=some (.inr (fin w))):∀(n i:Nat) (w:β),l.length-i<n->i<=l.length->I i w->Ab step (mk i w)=some (GN body fin i (l.drop i) w):=by
 intro n
 induction n with
 |zero=>intro i w h;omega
 |succ n ih=>
  intro i w hn hi hI
  rw[Cj]
  by_cases he:i=l.length
  subst he
  rw[h2 w hI,EM,List.drop_length]
  rfl
  obtain⟨x,hx,hd⟩:=Cc (l:=l) (i:=i) (by omega)
  obtain⟨a1,a2⟩:=h1 i x w hx hI
  rw[a1,hd,GN]
  cases hb:body i w x with
  |inl w'=>simp only[EL];exact ih (i+1) w' (by omega) (by omega) (a2 w' hb)
  |inr t=>simp only[EM]
theorem MH{step:Int->Option (Int⊕τ)}(l:List α)(p:α->Bool)(t f:τ)
 (h1:∀(i:Nat) x,l[i]? =some x->step i=some (if p x=true then .inl ((i+1:Nat):Int)else .inr f)) (h2:step l.length=some (.inr t)) (i:Nat) (hi:i<=l.length):
 Ab step i=some (if(l.drop i).all p=true then t else f):=by
 rw[B0 l (fun i (_:Unit)=>(i:Int)) (fun _ _ x=>if p x=true then .inl ()else .inr f) (fun _=>t) (fun _ _=>True) (fun i x w hx _=>⟨by rw[h1 i x hx];cases p x<;>rfl,fun _ _=>trivial⟩) (fun _ _=>h2) (l.length-i+1) i () (by omega) hi trivial]
 congr 1
 generalize l.drop i=l'
 clear h1 h2 hi
 revert i
 induction l' with
 |nil=>intro i;rfl
 |cons x xs ih=>
  intro i
  rw[GN,List.all_cons]
  cases hp:p x with
  |true=>simp only[if_true,Bool.true_and];exact ih (i+1)
  |false=>simp
theorem BB{step:Int->Option (Int⊕τ)}(l:List α)(p:α->Bool)(t f:τ)
 (h1:∀(i:Nat) x,l[i]? =some x->step i=some (if p x=true then .inl ((i+1:Nat):Int)else .inr f)) (h2:step l.length=some (.inr t)):
 Ab step 0=some (if l.all p=true then t else f):=by
 have h:=MH l p t f h1 h2 0 (by omega)
 rw[List.drop_zero]at h
 exact h
def Kc(g:Nat->α->Option τ):Nat->Unit->α->Unit⊕τ:=fun i _ x=>match g i x with
 |none=>.inl ()
 |some t=>.inr t
theorem R1{step:Int->Option (Int⊕τ)}(l:List α)(g:Nat->α->Option τ)(t:τ)
 (h1:∀(i:Nat) x,l[i]? =some x->step i=some (match g i x with|none=>.inl ((i+1:Nat):Int)|some t=>.inr t)) (h2:step l.length=some (.inr t)):
 Ab step 0=some (GN (Kc g) (fun _=>t) 0 l ()):=
 B0 l (fun i (_:Unit)=>(i:Int)) (Kc g) (fun _=>t) (fun _ _=>True)
  (fun i x w hx _=>⟨by rw[h1 i x hx];unfold Kc;cases g i x<;>rfl,fun _ _=>trivial⟩) (fun _ _=>h2) (l.length+1) 0 () (by omega) (by omega) trivial
theorem G6(p:α->Bool):∀(l:List α) (i:Nat),GN (Kc fun i x=>if p x=true then some (Sum.inr (i:Int):Unit⊕Int)else none) (fun _=>.inl ()) i l ()=if l.any p=true then .inr ((i+l.findIdx p:Nat):Int)else .inl ()
 |[],i=>rfl
 |x::xs,i=>by
  have ih:=G6 p xs (i+1);rw[GN,List.any_cons,List.findIdx_cons];cases hp:p x with
  |true=>simp[Kc,hp]
  |false=>
   have e:Kc (fun i x=>if p x=true then some (Sum.inr (i:Int):Unit⊕Int)else none) i () x=.inl ():=by simp[Kc,hp]
   rw[e]
   simp only[Bool.false_or,cond_false]
   rw[ih,Nat.add_assoc,Nat.add_comm 1]
theorem BV{step:Int->Option (Int⊕(Unit⊕Int))}(l:List α)(p:α->Bool)
 (h1:∀(i:Nat) x,l[i]? =some x->step i=some (if p x=true then .inr (.inr (i:Int))else .inl ((i+1:Nat):Int))) (h2:step l.length=some (.inr (.inl ()))):
 Ab step 0=some (if l.any p=true then .inr ((l.findIdx p:Nat):Int)else .inl ()):=by
 rw[R1 l (fun i x=>if p x=true then some (Sum.inr (i:Int):Unit⊕Int)else none) (.inl ()) (fun i x hx=>by rw[h1 i x hx];cases p x<;>rfl) h2,G6,Nat.zero_add]
theorem Dh{step:Int×β->Option (Int×β⊕τ)}(l:List α)(f:β->α->β)(fin:β->τ)(I:Nat->β->Prop)
 (h1:∀(i:Nat) x w,l[i]? =some x->I i w->step (i,w)=some (.inl (((i+1:Nat):Int),f w x))/\I (i+1) (f w x))
 (h2:∀w,I l.length w->step (l.length,w)=some (.inr (fin w))) (w:β) (h0:I 0 w):Ab step (0,w)=some (fin (l.foldl f w)):=by
 have h:=B0 (step:=step) l (fun i w=>((i:Int),w)) (fun _ w x=>(.inl (f w x):β⊕τ)) fin I (fun i x w hx hI=>⟨(h1 i x w hx hI).1,fun w' hw=>by cases hw;exact(h1 i x w hx hI).2⟩) h2 (l.length+1) 0 w (by omega) (by omega) h0
 rw[show((0:Int),w)=(((0:Nat):Int),w)from rfl,h,List.drop_zero]
 congr 1
 clear h h1 h2 h0
 generalize 0=i
 revert i w
 induction l with
 |nil=>intro w i;rfl
 |cons x xs ih=>intro w i;rw[GN];exact ih _ _
theorem DX(g:α->β):∀(l:List α) (w:List β),l.foldl (fun w x=>w++[g x]) w=w++l.map g
 |[],w=>by simp
 |x::xs,w=>by
  rw[List.foldl_cons,DX g xs];simp
theorem IH{a:List α}{b:List β}{i:Nat}{z:α×β}(h:(a.zip b)[i]? =some z):a[i]? =some z.1/\b[i]? =some z.2:=by rw[List.getElem?_zip_eq_some]at h;exact h
theorem G9 [DecidableEq α]:∀{a b:List α},a.length=b.length->(a.zip b).all (fun z=>decide (z.1=z.2))=decide (a=b)
 |[],[],_=>by simp
 |x::a,y::b,h=>by
  rw[List.zip_cons_cons,List.all_cons,G9 (a:=a) (b:=b) (by simpa using h)];by_cases hx:x=y<;>by_cases hy:a=b<;>simp[hx,hy]
 |[],_::_,h=>by simp at h
 |_::_,[],h=>by simp at h
theorem Hy(a b:Nat):decide ((a:Int)=(b:Int))=decide (a=b):=by
 by_cases h:a=b;simp[h];have:¬(a:Int)=(b:Int):=by omega
 simp[h,this]
theorem Iw [DecidableEq α]{step:Int->Option (Int⊕τ)}(a b:List α)(t f:τ)(hl:a.length=b.length)
 (h1:∀(i:Nat) x y,a[i]? =some x->b[i]? =some y->step i=some (if decide (x=y)=true then .inl ((i+1:Nat):Int)else .inr f)) (h2:step a.length=some (.inr t)):
 Ab step 0=some (if decide (a=b)=true then t else f):=by
 have hz:(a.zip b).length=a.length:=by simp[hl]
 have h:=BB (step:=step) (a.zip b) (fun z=>decide (z.1=z.2)) t f (fun i z hz=>h1 i z.1 z.2 (IH hz).1 (IH hz).2) (by rw[hz];exact h2)
 rw[G9 hl]at h
 exact h
end
theorem R2{τ:Type}{step:Int->Option (Int⊕τ)}(n i0:Nat)(P:Nat->Prop)(Q:τ->Prop)(hi:i0<=n)
 (h1:∀i:Nat,i0<=i->i<n->(step i=some (.inl ((i+1:Nat):Int))/\P i)\/∃t,step i=some (.inr t)/\Q t)
 (h2:(∀j,i0<=j->j<n->P j)->∃t,step n=some (.inr t)/\Q t):∃t,Ab step i0=some t/\Q t:=by
 refine MG (fun s=>∃i:Nat,s=(i:Int)/\i0<=i/\i<=n/\∀j,i0<=j->j<i->P j) (fun s=>(n-s).toNat) Q ?_ (i0:Int) ⟨i0,rfl,Nat.le_refl _,hi,fun j a b=>by omega⟩
 rintro s ⟨i,rfl,a,b,c⟩
 by_cases he:i=n
 subst he
 exact .inl (h2 c)
 rcases h1 i a (by omega)with⟨d,e⟩|d
 refine .inr ⟨_,d,⟨i+1,rfl,by omega,by omega,fun j f g=>?_⟩,by omega⟩
 rcases Nat.lt_or_ge j i with h|h
 exact c j f h
 have:j=i:=by omega
 subst this;exact e
 exact .inl d
theorem Br{τ:Type}{step:Int->Option (Int⊕τ)}(n:Nat)(P:Nat->Prop)(Q:τ->Prop)
 (h1:∀i:Nat,i<n->(step i=some (.inl ((i+1:Nat):Int))/\P i)\/∃t,step i=some (.inr t)/\Q t)
 (h2:(∀j,j<n->P j)->∃t,step n=some (.inr t)/\Q t):∃t,Ab step 0=some t/\Q t:=
 R2 (step:=step) n 0 P Q (Nat.zero_le _) (fun i _ hi=>h1 i hi) (fun h=>h2 fun j hj=>h j (Nat.zero_le _) hj)
theorem At{α:Type}{n:Nat}{l:List α}{x:α}(h:l[n]? =some x)(hl:l.length<=9223372036854775807):AB .add .i64 (n:Int) 1=((n+1:Nat):Int):=by have:=(List.getElem?_eq_some_iff.1 h).1;exact aG8 (by omega)
theorem ltD{α:Type}{n:Nat}{l:List α}{x:α}(h:l[n]? =some x):decide ((n:Int)<(l.length:Int))=true:=by have:=(List.getElem?_eq_some_iff.1 h).1;simp;omega
theorem ltI(n:Nat):decide ((n:Int)<(n:Int))=false:=by simp
theorem EX{β:Type}(p:Prop) [Decidable p](a b:Option β):AE (decide p) a b=if p then a else b:=by by_cases h:p<;>simp[h,AE]
theorem CG{α:Type}{n:Nat}{l:List α}{x:α}(h:l[n]? =some x):n<l.length:=(List.getElem?_eq_some_iff.1 h).1
end Go.Ac
namespace Go.Ac
end Go.Ac
namespace Go.Ac
section
variable {K V:Type}
abbrev ms(fk:K->D)(fv:V->D)(S:List (K×V)):List (D×D):=S.map fun x=>(fk x.1,fv x.2)
end
def aB1:Code->Array Oper
 | .loop (.seq (.region _ ops _) _)=>ops
 |_=> #[]
def aHp(P:Program)(rd:Option Nat)(root:Code)(ws:List (Nat×W))(lw:List Lw)(q:List Nat)(l:List Ws)(s:St)(e:Ex)(s':St):Prop:=
 match Vp P (aB1 (A3 root q)) ws ((aB1 (A3 root q)).toList.drop 1) s with
 |some (Φ0,s0)=>match Bv P ws lw (1::0::q) (A3 root (1::0::q)) s0 with
  |some (Φ,e1,s1)=>match wks l s1 with
   |some s2=>Φ0.okK P (Dz P rd root) (Φ.okK P (Dz P rd root) True)/\(e1=e/\s2=s')
   |none=>False
  |none=>False
 |none=>False
attribute [irreducible] aHp
end Go.Ac
namespace Go.Ac
open Go.MapKept
end Go.Ac
namespace Go.Ac
def Le{α:Type}(a b:Option α):Prop:=∀r,a=some r->b=some r
section
variable {α β γ σ τ:Type}
theorem Le.refl(a:Option α):Le a a:=fun _ h=>h
theorem AD{a b:Option α}{k k':α->Option β}(h:Le a b)(hk:∀x,Le (k x) (k' x)):Le (AF a k) (AF b k'):=fun r e=>by
 cases a with
 |none=>cases e
 |some x=>rw[h x rfl];exact hk x r e
theorem AJ{c:Bool}{a b a' b':Option β}(h1:Le a a')(h2:Le b b'):Le (AE c a b) (AE c a' b'):=by cases c;exact h2;exact h1
theorem A9{p:Prop} [Decidable p]{k k':Option β}(h:Le k k'):Le (BC p k) (BC p k'):=fun r e=>by unfold BC at e⊢;split at e;rename_i hp;rw[if_pos hp];exact h r e;cases e
theorem AY{xs:List α}{i:Int}{k k':α->Option β}(h:∀x,Le (k x) (k' x)):Le (Ae xs i k) (Ae xs i k'):=fun r e=>by unfold Ae at e⊢;split at e;rename_i hp;rw[if_pos hp];split at e;rename_i hx;exact h _ r e;cases e;cases e
theorem Aa{o:α⊕β}{f f':α->Option γ}{g g':β->Option γ}(h1:∀x,Le (f x) (f' x))(h2:∀x,Le (g x) (g' x)):Le (Ap o f g) (Ap o f' g'):=by
 cases o with
 |inl x=>exact h1 x
 |inr x=>exact h2 x
theorem Vz{step step':σ->Option (σ⊕τ)}(h:∀s,Le (step s) (step' s)):∀(n:Nat) (s:σ),Le (itE step n s) (itE step' n s)
 |0,s=>Le.refl _
 |n+1,s=>fun r e=>by
  simp only[itE]at e⊢;split at e;cases e;rename_i s' hs;rw[h s _ hs];exact Vz h n s' r e;rename_i t hs;rw[h s _ hs];exact e
theorem AP{step step':σ->Option (σ⊕τ)}(h:∀s,Le (step s) (step' s))(n:Nat)(s:σ):Le (itE step n s) (Ab step' s):=fun r e=>Dg.2 ⟨n,Vz h n s r e⟩
end
end Go.Ac
namespace Go.Ac
open Go.ChangeShapes Go.WideShapes Go.ChangeAt Go.RowKit

def hOf(w:World):Hw:=fun b=>match w.heap[b]? with
 |some (.cells cs _ _)=>cs.size
 |_=>0
theorem Vx{w:World}{a:Addr}{v:Value}(h:w.cell? a=some v):a.off<hOf w a.block:=by
 have hs:=IY h;obtain⟨b,o,sp⟩:=a;simp only at hs;subst hs;unfold World.cell? at h;unfold hOf;simp only at h⊢;cases hb:w.heap[b]? with
 |none=>simp[hb]at h
 |some ob=>
  cases ob with
  |cells cs t fr=>
   simp[hb]at h
   exact(Array.getElem?_eq_some_iff.1 h).1
  |_=>simp[hb]at h
def BE{α:Type}(P:Program)(t:TypeId)(f:α->D)(R:α->Prop):Prop:=
 ∀{H:Type} (enc:TypeId×Value->H) (w:World) (sp:Nat->Bool) (held:Bool) (fuel:Nat) (cs:List Value) (x:DataW H×List MemPlace),DataW.trod enc P w 0 sp held fuel t cs=some x->
  ∃v:α,RDs (hOf w) w (f v).cells cs/\R v
theorem As{P:Program}{t:TypeId}{k:IntKind}(ht:P.underlying t=some (.int k)):BE P t (D.i k) (fun n=>(Lit.int k n).wf=true):=by
 intro H enc w sp held fuel cs x h;cases fuel with
 |zero=>simp[DataW.trod]at h
 |succ fuel=>
  unfold DataW.trod at h
  rw[ht]at h
  match cs,h with
  |[.int k' n],h=>
   simp only at h
   split at h
   rename_i hc
   obtain⟨rfl,hw⟩:=hc
   exact⟨n,by simp only[D.i,D.cells,RDs,RD];exact⟨_,[],rfl,⟨rfl,rfl⟩,rfl,rfl⟩,hw⟩
   cases h
theorem C6{P:Program}{t:TypeId}(ht:P.underlying t=some .bool):BE P t D.b (fun _=>True):=by
 intro H enc w sp held fuel cs x h;cases fuel with
 |zero=>simp[DataW.trod]at h
 |succ fuel=>
  unfold DataW.trod at h
  rw[ht]at h
  match cs,h with
  |[.bool b],h=>exact⟨b,by simp only[D.b,D.cells,RDs,RD];exact⟨_,[],rfl,⟨rfl,rfl⟩,rfl,rfl⟩,trivial⟩
theorem Bi{P:Program}{t:TypeId}(ht:P.underlying t=some .string):BE P t D.s (fun l=>l.length<=9223372036854775807):=by
 intro H enc w sp held fuel cs x h;cases fuel with
 |zero=>simp[DataW.trod]at h
 |succ fuel=>
  unfold DataW.trod at h
  rw[ht]at h
  match cs,h with
  |[.string s],h=>
   simp only at h
   split at h
   rename_i hc
   exact⟨s.data.toList,by simp only[D.s,D.cells,RDs,RD];exact⟨_,[],rfl,⟨rfl,rfl⟩,rfl,rfl⟩,by simpa[maxLen]using hc⟩
   cases h
theorem AS{h:Hw}{w:World}{A B:List D}{cs:List Value}{o k:Nat}(h1:RDs h w A ((cs.drop o).take k))(h2:RDs h w B (cs.drop (o+k))):RDs h w (A++B) (cs.drop o):=by have:=RDs.append h1 h2;rwa [<-List.drop_drop,List.take_append_drop]at this
theorem F6{H:Type}{enc:TypeId×Value->H}{P:Program}{w:World}{sp:Nat->Bool}{held:Bool}{fuel:Nat}{cs:List Value}:∀{l:List Field} {xs:List (DataW H×List MemPlace)},
 l.mapM (fun f=>DataW.trod enc P w 0 sp held fuel f.type ((cs.drop f.offset).take (P.cellsOf f.type)))=some xs->∀f∈l,∃x,DataW.trod enc P w 0 sp held fuel f.type ((cs.drop f.offset).take (P.cellsOf f.type))=some x
 |[],xs,_,f,hf=>by cases hf
 |g::l,xs,h,f,hf=>by
  simp only[List.mapM_cons]at h;cases h1:DataW.trod enc P w 0 sp held fuel g.type ((cs.drop g.offset).take (P.cellsOf g.type))with
  |none=>simp[h1]at h
  |some y=>
   rcases mc.1 hf with rfl|hf
   exact⟨y,h1⟩
   cases h2:l.mapM (fun f=>DataW.trod enc P w 0 sp held fuel f.type ((cs.drop f.offset).take (P.cellsOf f.type)))with
   |none=>simp[h1,h2]at h
   |some ys=>exact F6 h2 f hf
theorem Aw{P:Program}{t:TypeId}{fs:Array Field}{n:Nat}{α:Type}{f:α->D}{R:α->Prop}(ht:P.underlying t=some (.struct fs))(hn:P.cellsOf t=n)
 (key:∀{H:Type} (enc:TypeId×Value->H) (w:World) (sp:Nat->Bool) (held:Bool) (fuel:Nat) (cs:List Value),cs.length=n->
  (∀g∈fs.toList,∃x,DataW.trod enc P w 0 sp held fuel g.type ((cs.drop g.offset).take (P.cellsOf g.type))=some x)->∃v:α,RDs (hOf w) w (f v).cells cs/\R v):BE P t f R:=by
 intro H enc w sp held fuel cs x h
 cases fuel with
 |zero=>simp[DataW.trod]at h
 |succ fuel=>
  unfold DataW.trod at h
  rw[ht]at h
  simp only at h
  split at h
  rename_i hc
  simp only[om]at h
  obtain⟨xs,hx,_⟩:=h
  exact key enc w sp held fuel cs (by rw[hc,hn]) (F6 hx)
  cases h

theorem My{w:World}{a:Addr}{n:Nat}{cs:List Value}(h:w.cells? 0 a n=some cs):cs.length=n/\∀j v,cs[j]? =some v->w.cell? (a.add j)=some v:=by
 unfold World.cells? at h;simp only[Nat.zero_le,if_true]at h;have key:∀(l:List Nat) (cs:List Value),l.mapM (fun i=>w.cell? (a.add i))=some cs->cs.length=l.length/\∀(j i:Nat) (v:Value),l[j]? =some i->cs[j]? =some v->w.cell? (a.add i)=some v:=by
  intro l;induction l with
  |nil=>intro cs h;simp at h;subst h;simp
  |cons x l ih=>
   intro cs h
   simp only[List.mapM_cons]at h
   cases h1:w.cell? (a.add x)with
   |none=>simp[h1]at h
   |some y=>
    cases h2:l.mapM (fun i=>w.cell? (a.add i))with
    |none=>simp[h1,h2]at h
    |some ys=>
     simp[h1,h2]at h
     subst h
     obtain⟨g1,g2⟩:=ih ys h2
     refine⟨by simp[g1],fun j i v hj hv=>?_⟩
     cases j with
     |zero=>simp at hj hv;subst hj;subst hv;exact h1
     |succ j=>exact g2 j i v (by simpa using hj) (by simpa using hv)
 obtain⟨h1,h2⟩:=key _ _ h;rw[List.length_range]at h1;refine⟨h1,fun j v hj=>h2 j j v ?_ hj⟩;have:j<n:=by rw[<-h1];exact(List.getElem?_eq_some_iff.1 hj).1
 rw[List.getElem?_range this]
theorem KW{h:Hw}{w:World}{x:D}{cs:List Value}(hr:RDs h w x.cells cs):∃u:Value,u.cells.toList=cs/\RD h w x u:=by
 cases x with
 |agg l=>
  refine⟨.agg ⟨cs⟩,rfl,?_⟩
  simp only[RD]
  exact⟨cs,rfl,hr⟩
 |v x=>
  simp only[D.cells,RDs]at hr
  obtain⟨u,us',rfl,h1,h2,rfl⟩:=hr
  have hc:u.cells= #[u]:=by cases u<;>first|rfl|(simp[Value.oneCell']at h2)
  exact⟨u,by rw[hc],h1⟩
 |sl xs=>
  simp only[D.cells,RDs]at hr
  obtain⟨u,us',rfl,h1,h2,rfl⟩:=hr
  have hc:u.cells= #[u]:=by cases u<;>first|rfl|(simp[Value.oneCell']at h2)
  exact⟨u,by rw[hc],h1⟩
 |ptr xs=>
  simp only[D.cells,RDs]at hr
  obtain⟨u,us',rfl,h1,h2,rfl⟩:=hr
  have hc:u.cells= #[u]:=by cases u<;>first|rfl|(simp[Value.oneCell']at h2)
  exact⟨u,by rw[hc],h1⟩
theorem A7{P:Program}{t e:TypeId}{α:Type}{f:α->D}{R:α->Prop}{k:Nat} [hk:Bp f k](ht:P.underlying t=some (.slice e))(hc:P.cellsOf e=k)(he:BE P e f R):
 BE P t (D.l f) (fun l=>l.length<=9223372036854775807/\∀x∈l,R x):=by
 intro H enc w sp held fuel cs x h
 cases fuel with
 |zero=>simp[DataW.trod]at h
 |succ fuel=>
  unfold DataW.trod at h
  rw[ht]at h
  match cs,h with
  |[.slice none 0 0],_=>
   exact⟨[],by simp only[D.l,List.map_nil,D.cells,RDs];exact⟨_,[],rfl,GQ _ _,rfl,rfl⟩,by simp⟩
  |[.slice (some a) len cap],h=>
   simp only at h
   split at h
   rename_i hh
   simp only[Option.bind_eq_some_iff]at h
   obtain⟨elems,hel,_⟩:=h
   have key:∀(n:Nat) (ys:List (DataW H×List MemPlace)),(List.range n).mapM (fun i=>(w.cells? 0 (a.add (i*P.cellsOf e)) (P.cellsOf e)).bind (DataW.trod enc P w 0 sp held fuel e))=some ys->
    ∃(vs:List α) (us:List Value),vs.length=n/\Ad (hOf w) w k (vs.map f) us/\(∀x∈vs,R x)/\∀j v,us[j]? =some v->w.cell? (a.add j)=some v:=by
    intro n
    induction n with
    |zero=>intro ys _;exact⟨[],[],rfl,by simp[Ad],by simp,by simp⟩
    |succ n ih=>
     intro ys h
     rw[List.range_succ,List.mapM_append]at h
     cases h1:(List.range n).mapM (fun i=>(w.cells? 0 (a.add (i*P.cellsOf e)) (P.cellsOf e)).bind (DataW.trod enc P w 0 sp held fuel e))with
     |none=>simp[h1]at h
     |some zs=>
      obtain⟨vs,us,g1,g2,g3,g4⟩:=ih zs h1
      cases h2:w.cells? 0 (a.add (n*P.cellsOf e)) (P.cellsOf e)with
      |none=>simp[h1,h2]at h
      |some cs'=>
       cases h3:DataW.trod enc P w 0 sp held fuel e cs' with
       |none=>simp[h1,h2,h3]at h
       |some y=>
        obtain⟨v,r1,r2⟩:=he enc w sp held fuel cs' y h3
        obtain⟨u,e1,r3⟩:=KW r1
        obtain⟨c1,c2⟩:=My h2
        have hul:=Ad.length g2
        rw[List.length_map,g1]at hul
        have hn:(f v).nc=k:=Bp.h v
        refine⟨vs++[v],us++cs',by simp[g1],?_,?_,?_⟩
        rw[List.map_append]
        refine g2.append ?_
        simp only[List.map_cons,List.map_nil,Ad]
        refine⟨u,[],by simp[e1],?_,hn,r3,?_,rfl⟩
        rw[RD.size r3,hn]
        exact(RD.cells r3).2
        intro x hx
        rcases ma.1 hx with hx|hx
        exact g3 x hx
        simp at hx;subst hx;exact r2
        intro j v' hj
        rcases Nat.lt_or_ge j us.length with hlt|hge
        rw[List.getElem?_append_left hlt]at hj
        exact g4 j v' hj
        rw[List.getElem?_append_right hge]at hj
        have:=c2 _ _ hj
        rw[FV,hul,hc]at this
        rw[show n*k+(j-n*k)=j by omega]at this
        exact this
   obtain⟨vs,us,g1,g2,g3,g4⟩:=key len elems hel
   refine⟨vs,?_,by rw[g1];have:=hh.2.1;have:=hh.2.2;simp[maxLen]at this;omega,g3⟩
   simp only[D.l,D.cells,RDs]
   refine⟨_,[],rfl,?_,rfl,rfl⟩
   simp only[RD]
   refine⟨some a,cap,k,us,by rw[List.length_map,g1],by rw[List.length_map,g1];exact hh.2.1,hh.2.2,g2,fun _=>⟨a,rfl,fun j v hj=>?_⟩⟩
   have:=g4 j v hj
   refine⟨this,?_⟩
   have h5:=Vx this
   rw[BP,CQ]at h5
   exact h5
   cases h

theorem Hm{h h':Hw}{w w':World}(k:BI [] h w h' w'):Below w.heap.size w w':=
 ⟨k.os,k.tape,k.output,k.size,fun b hb=>(k.far b hb (by simp)).1⟩
section
variable {H:Type} {enc:TypeId×Value->H} {P:Program}
theorem H7{f:Func}{s:ChangeSpec}{apart fresh handsOn again:Bool}{W W':World}{args:Array Value}{v:Value}{ds gs:List (DataW H)}{before pa pv:List MemPlace}
 (hW:DataW.Whole enc P f.params.toList s.vars apart W args.toList ds gs before)
 (hres:∀(b:Nat) (sp:Nat->Bool) (hd:Bool),DataW.TrodAll enc P W' b sp hd f.resultTypes.toList (v.resultList f.resultTypes.size) (s.fn H (ds++gs)).results [])
 (hargs:∀sp:Nat->Bool,(∀p∈before,sp p.block=true)->DataW.TrodAll enc P W' 0 sp true f.params.toList args.toList (s.fn H (ds++gs)).args pa)
 (hvars:∀sp:Nat->Bool,(∀p∈before,sp p.block=true)->DataW.TrodVars enc P W' sp s.vars (s.fn H (ds++gs)).vars pv)
 (hps:before=pa++pv) (hb:Below W.heap.size W W')
 (hok:∀(j:Nat) (t:TypeId) (r:Value),f.resultTypes[j]? =some t->(v.resultList f.resultTypes.size)[j]? =some r->Value.okWide P W' .any 0 t r):
 s.post enc P f apart fresh handsOn again W args v W':=by
 have hlt:∀p∈before,p.block<W.heap.size:=fun p hp=>hW.lt p hp
 have hold:∀p∈before,(fun b=>decide (b<W.heap.size)) p.block=true:=fun p hp=>by simpa using hlt p hp
 refine⟨ds,gs,before,[],pa,pv,hW,hres _ _ _,hargs _ hold,hvars _ hold,World.keptBut_mono (fun p hp=>⟨hp,?_⟩) (hb.frame (· ∈before)),fun _=>?_⟩
 rw[hps,ma]at hp
 exact Or.inr hp
 obtain⟨_,_,_,_,_,hz,hn⟩:=hW
 refine⟨hok,_,_,([]++pa)++pv,⟨[]++pa,pv,trodAll_append (hargs _ (fun _ _=>rfl)) (hres _ _ _),hvars _ (fun _ _=>rfl),rfl,?_,?_⟩,?_⟩
 intro b off hp
 have hin:MemPlace.cell b off∈before:=by rw[hps];simpa using hp
 rw[hb.frozen (hlt _ hin)]
 exact hz b off hin
 intro ha
 have:=hn ha
 rw[hps]at this
 simpa using this
 intro p hp _
 rw[hps]
 simpa using hp
end
theorem Du{H:Type}{enc:TypeId×Value->H}{P:Program}(hl:laidOutB P=true){W W':World}(hb:Below W.heap.size W W'):∀{ts:List TypeId} {vs:List Value} {ds:List (DataW H)} {ps:List MemPlace},
 (ts.all fun t=>P.readableRec t&&decide (t<P.types.size))=true->DataW.TrodAll enc P W 0 (fun _=>true) true ts vs ds ps->(∀x∈ps,x.block<W.heap.size)->∀sp:Nat->Bool,(∀p∈ps,sp p.block=true)->
 DataW.TrodAll enc P W' 0 sp true ts vs ds ps
 |[],[],[],ps,_,h,_,sp,_=>h
 |t::ts,v::vs,d::ds,ps,ht,h,hlt,sp,hsp=>by
  obtain⟨p,q,h1,h2,rfl⟩:=h;simp only[List.all_cons,ba,decide_eq_true_eq]at ht;exact⟨p,q,WideElems.Trod_stays hl ht.1.1 ht.1.2 h1 (fun x hx=>hb.same (hlt x (ml _ hx))) (fun x hx=>hsp x (ml _ hx)),
   Du hl hb ht.2 h2 (fun x hx=>hlt x (mr _ hx)) sp (fun x hx=>hsp x (mr _ hx)),rfl⟩
 |[],_::_,_,_,_,h,_,_,_=>h.elim
 |[],[],_::_,_,_,h,_,_,_=>h.elim
 |_::_,[],_,_,_,h,_,_,_=>h.elim
 |_::_,_::_,[],_,_,h,_,_,_=>h.elim
theorem It{P:Program}{F:FuncId}{f:Func}{s:ChangeSpec}{H:Type}{enc:TypeId×Value->H}{W:World}{args:Array Value}{ds gs:List (DataW H)}{before:List MemPlace}{tb:TypeId}
 (hl:laidOutB P=true) (hts:(f.params.toList.all fun t=>P.readableRec t&&decide (t<P.types.size))=true) (hr:f.resultTypes= #[tb]) (htb:P.underlying tb=some .bool) (hvs:s.vars=[])
 (hfn:∀ds:List (DataW H),ds.length=f.params.size->s.fn H ds={results:=[.lit (.bool true)],args:=ds,vars:=[]})
 (hW:DataW.Whole enc P f.params.toList s.vars false W args.toList ds gs before)
 (hcall:∃as':List A,RAs (hOf W) W (fun _=>.bool true) as' args.toList/\AL P F as' [] (bo true) []) (hglob:GOk (hOf W) W):
 Calls P F args W fun e W'=>∃v,e=.returned v/\s.post enc P f false true false false W args v W':=by
 have hW':=hW
 obtain⟨p,q,hA,hV,rfl,hfz,hnd⟩:=hW
 have hlt:∀x∈p++q,x.block<W.heap.size:=fun x hx=>hW'.lt x hx
 rw[hvs]at hV
 have hg:gs=[]/\q=[]:=by
  cases gs with
  |nil=>exact⟨rfl,by simpa[DataW.TrodVars]using hV⟩
  |cons g gs=>simp[DataW.TrodVars]at hV
 obtain⟨rfl,rfl⟩:=hg
 have hlen:∀{ts:List TypeId} {vs:List Value} {ds:List (DataW H)} {ps:List MemPlace},DataW.TrodAll enc P W 0 (fun _=>true) true ts vs ds ps->ds.length=ts.length:=by
  intro ts;induction ts with
  |nil=>
   intro vs ds ps h
   cases vs<;>cases ds<;>first|rfl|exact h.elim
  |cons t ts ih=>
   intro vs ds ps h
   cases vs<;>cases ds<;>first|exact h.elim|(obtain⟨_,_,_,h2,_⟩:=h;simp[ih h2])
 have hd:ds.length=f.params.size:=by rw[hlen hA];simp
 obtain⟨as',hra,hc⟩:=hcall
 refine(hc (hOf W) W (fun _=>.bool true) args.toList (Inv.nil hglob _) hra).mono fun e W' hh=>?_
 obtain⟨h',val',u,rfl,_,hu,hk,_,_⟩:=hh
 have hb:=Hm hk
 simp only[bo,RA,RD]at hu
 obtain⟨rfl,_⟩:=hu
 have hsf:s.fn H (ds++[])={results:=[.lit (.bool true)],args:=ds,vars:=[]}:=by rw[List.append_nil];exact hfn ds hd
 simp only[List.append_nil]at hlt hW'
 refine⟨_,rfl,H7 (pa:=p) (pv:=[]) (ds:=ds) (gs:=[]) (before:=p) hW' ?_ ?_ ?_ (by simp) hb ?_⟩
 intro b sp hd
 rw[hsf,hr]
 exact trodAll_mk1 (shut_bool htb _)
 intro sp hsp
 rw[hsf]
 exact Du hl hb hts hA hlt sp hsp
 intro sp _
 rw[hsf,hvs];rfl
 exact ok_one hr rfl (okWide_bool_mk htb _)

theorem H5{P:Program}{w:World}{base:Nat}{t:TypeId}{v:Value}(h:Value.okWide P w .any base t v)
 (ht:(match P.underlying t with|some (.int _)|some .bool|some .string|some (.slice _)=>true|_=>false)=true):∀cs,v≠ .agg cs:=by
 intro cs e
 subst e
 unfold Value.okWide at h
 split at ht<;>first|cases ht|skip
 all_goals (rename_i hu;simp only[hu,Cell.okWide,Cell.ok]at h)
theorem W8{h:Hw}{w:World}{x:D}{v:Value}(hr:RDs h w x.cells v.cells.toList)(hx:∀c,x≠ .agg c)(hv:∀cs,v≠ .agg cs):RD h w x v:=by
 have e:v.cells= #[v]:=by cases v<;>first|rfl|exact absurd rfl (hv _)
 rw[e]at hr;have e2:x.cells=[x]:=by cases x<;>first|rfl|exact absurd rfl (hx _)
 rw[e2]at hr;simp only[RDs]at hr;obtain⟨u,us',h1,h2,_⟩:=hr;simp at h1;rw[h1.1];exact h2
theorem W7{h:Hw}{w:World}{cs:List D}{v:Value}(hr:RDs h w cs v.cells.toList)(hv:∃us,v=.agg us):RD h w (.agg cs) v:=by obtain⟨us,rfl⟩:=hv;simp only[RD];exact⟨us.toList,rfl,hr⟩
theorem Hf{P:Program}{w:World}{base:Nat}{t:TypeId}{v:Value}{fs:Array Field}(h:Value.okWide P w .any base t v)(ht:P.underlying t=some (.struct fs)):∃us,v=.agg us:=by unfold Value.okWide at h;rw[ht]at h;obtain⟨cs,rfl,_⟩:=h;exact⟨cs,rfl⟩
theorem RN{α:Type}{P:Program}{t:TypeId}{f:α->D}{R:α->Prop}(hR:BE P t f R){H:Type}{enc:TypeId×Value->H}{W:World}{v:Value}{d:DataW H}{p:List MemPlace}{base:Nat}{sp:Nat->Bool}
 (h:DataW.Trod enc P W 0 sp true t v d p) (hx:∀a c,f a≠ .agg c) (hok:Value.okWide P W .any base t v)
 (ht:(match P.underlying t with|some (.int _)|some .bool|some .string|some (.slice _)=>true|_=>false)=true):∃x:α,RD (hOf W) W (f x) v/\R x:=by
 obtain⟨fuel,h⟩:=h
 obtain⟨x,h1,h2⟩:=hR enc W _ _ _ _ _ h
 exact⟨x,W8 h1 (hx x) (H5 hok ht),h2⟩
theorem Mr{α:Type}{P:Program}{t:TypeId}{f:α->D}{R:α->Prop}(hR:BE P t f R){H:Type}{enc:TypeId×Value->H}{W:World}{v:Value}{d:DataW H}{p:List MemPlace}{base:Nat}{sp:Nat->Bool}{fs:Array Field}
 (h:DataW.Trod enc P W 0 sp true t v d p) (hx:∀a,∃c,f a=.agg c) (hok:Value.okWide P W .any base t v)
 (ht:P.underlying t=some (.struct fs)):∃x:α,RD (hOf W) W (f x) v/\R x:=by
 obtain⟨fuel,h⟩:=h
 obtain⟨x,h1,h2⟩:=hR enc W _ _ _ _ _ h
 obtain⟨c,hc⟩:=hx x
 refine⟨x,?_,h2⟩
 rw[hc]at h1⊢
 exact W7 h1 (Hf hok ht)
end Go.Ac
namespace Go.Ac
theorem CB(k:IntKind)(n:Int):(D.i k n).cells=[D.i k n]:=rfl
theorem CA(b:Bool):(D.b b).cells=[D.b b]:=rfl
theorem CD(l:List UInt8):(D.s l).cells=[D.s l]:=rfl
theorem CE(c:UInt8):(Ag c).cells=[Ag c]:=rfl
theorem CC{α:Type}(f:α->D)(l:List α):(D.l f l).cells=[D.l f l]:=rfl
theorem BR(l:List D):(D.agg l).cells=l:=rfl
end Go.Ac
