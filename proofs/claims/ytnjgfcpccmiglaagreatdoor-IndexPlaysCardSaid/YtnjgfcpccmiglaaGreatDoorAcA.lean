/- Own work: how calls of the model run over plain data. -/
import Derived.WalkKit
import Derived.Maps.AppendAt
import Derived.KernelRfl
import Derived.WalkLawsBesides
import Derived.Laws.Tables
import Derived.Laws.MakeOwn
import Derived.Laws.CopyRow
import Derived.WalkSpells
import Derived.Lib.SliceRun
set_option linter.unusedVariables false
set_option linter.unusedSimpArgs false
namespace Go.Ac
theorem oe{α:Type _}{a b:α}:(some a=some b)=(a=b):=Option.some.injEq a b
theorem pe{α:Type _}{β:Type _}{a a':α}{b b':β}:((a,b)=(a',b'))=(a=a'/\b=b'):=Prod.mk.injEq a b a' b'
theorem ml_{α:Type _}{a:α}{l:List α}(m:List α)(h:a∈l):a∈l++m:=List.mem_append_left m h
theorem mr_{α:Type _}{a:α}{l:List α}(m:List α)(h:a∈l):a∈m++l:=List.mem_append_right m h
theorem om{α:Type _}{β:Type _}{b:β}{x:Option α}{f:α->β}:x.map f=some b↔ ∃a,x=some a/\f a=b:=Option.map_eq_some_iff
theorem ba{a b:Bool}:((a&&b)=true)=(a=true/\b=true):=Bool.and_eq_true a b
theorem mm{α:Type _}{β:Type _}{b:β}{f:α->β}{l:List α}:b∈l.map f↔ ∃a,a∈l/\f a=b:=List.mem_map
theorem mc{α:Type _}{a b:α}{l:List α}:a∈b::l↔a=b\/a∈l:=List.mem_cons
theorem ma{α:Type _}{a:α}{l m:List α}:a∈l++m↔a∈l\/a∈m:=List.mem_append

inductive D where
 |v (x:Value)
 |agg (cs:List D)
 |sl (xs:List D)
 |ptr (cs:List D)

def D.cells:D->List D
 | .agg cs=>cs
 |x=> [x]
def D.nc(x:D):Nat:=x.cells.length

abbrev Hw:=Nat->Nat

mutual
def RD(h:Hw)(w:World):D->Value->Prop
 | .v x,u=>u=x/\x.oneCell'=true
 | .agg cs,u=>∃us:List Value,u=.agg ⟨us⟩/\RDs h w cs us
 | .sl xs,u=>∃(ad:Option Addr) (cap k:Nat) (us:List Value),u=.slice ad xs.length cap/\xs.length<=cap/\cap<=maxLen/\Ah h w k xs us/\
  (0<xs.length->∃a,ad=some a/\∀j v,us[j]? =some v->w.cell? (a.add j)=some v/\a.off+j<h a.block)
 | .ptr cs,u=>∃(a:Addr) (us:List Value),u=.pointer (some a)/\RDs h w cs us/\∀j v,us[j]? =some v->w.cell? (a.add j)=some v/\a.off+j<h a.block
def RDs(h:Hw)(w:World):List D->List Value->Prop
 |[],us=>us=[]
 |c::cs,us=>∃u us',us=u::us'/\RD h w c u/\u.oneCell'=true/\RDs h w cs us'
def Ah(h:Hw)(w:World)(k:Nat):List D->List Value->Prop
 |[],us=>us=[]
 |x::xs,us=>∃u us',us=u.cells.toList++us'/\u.cells.size=k/\x.nc=k/\RD h w x u/\(∀c∈u.cells.toList,c.oneCell'=true)/\Ah h w k xs us'
end

structure Do(h:Hw)(w:World)(h':Hw)(w':World):Prop where
 cells:∀b i v,i<h b->w.cell? ⟨b,i,none⟩=some v->w'.cell? ⟨b,i,none⟩=some v
 mono:∀b,b<w.heap.size->h b<=h' b

theorem Bo(a:Addr)(n:Nat):(a.add n).block=a.block:=by unfold Addr.add;split<;>rfl
theorem C2(a:Addr)(n:Nat):(a.add n).off=a.off+n:=by unfold Addr.add;split<;>simp_all
theorem LU{w:World}{a:Addr}{v:Value}(h:w.cell? a=some v):a.spot=none:=by
 unfold World.cell? at h;split at h;split at h;cases h;rename_i hs;cases ha:a.spot with
 |none=>rfl
 |some x=>simp[ha]at hs
 cases h

theorem Do.cell{h w h' w'}(s:Do h w h' w'){a:Addr}{v:Value}(hc:w.cell? a=some v)(hi:a.off<h a.block):
 w'.cell? a=some v/\a.off<h' a.block:=by
 have hs:=LU hc
 obtain⟨b,o,sp⟩:=a
 simp only at hs hi
 subst hs
 have hb:b<w.heap.size:=World.block_lt_of_cell? w _ hc
 exact⟨s.cells b o v hi hc,Nat.lt_of_lt_of_le hi (s.mono b hb)⟩

mutual
theorem RD.stays{h w h' w'}(s:Do h w h' w'):∀(x:D) (u:Value),RD h w x u->RD h' w' x u
 | .v x,u,hr=>by simpa[RD]using hr
 | .agg cs,u,hr=>by
  obtain⟨us,e,hr⟩:=by simpa[RD]using hr
  simp only[RD];exact⟨us,e,RDs.stays s cs us hr⟩
 | .sl xs,u,hr=>by
  simp only[RD]at hr⊢;obtain⟨ad,cap,k,us,e,hl,hm,hr,hc⟩:=hr;refine⟨ad,cap,k,us,e,hl,hm,Ah.stays s k xs us hr,fun h0=>?_⟩;obtain⟨a,ha,hc⟩:=hc h0;refine⟨a,ha,fun j v hj=>?_⟩;obtain⟨c1,c2⟩:=hc j v hj;have:=s.cell c1 (by rw[Bo,C2];exact c2);rw[Bo,C2]at this;exact this
 | .ptr cs,u,hr=>by
  simp only[RD]at hr⊢;obtain⟨a,us,e,hr,hc⟩:=hr;refine⟨a,us,e,RDs.stays s cs us hr,fun j v hj=>?_⟩;obtain⟨c1,c2⟩:=hc j v hj;have:=s.cell c1 (by rw[Bo,C2];exact c2);rw[Bo,C2]at this;exact this
theorem RDs.stays{h w h' w'}(s:Do h w h' w'):∀(cs:List D) (us:List Value),RDs h w cs us->RDs h' w' cs us
 |[],us,hr=>by simpa[RDs]using hr
 |c::cs,us,hr=>by
  simp only[RDs]at hr⊢;obtain⟨u,us',e,h1,h1',h2⟩:=hr;exact⟨u,us',e,RD.stays s c u h1,h1',RDs.stays s cs us' h2⟩
theorem Ah.stays{h w h' w'}(s:Do h w h' w')(k:Nat):∀(xs:List D) (us:List Value),Ah h w k xs us->Ah h' w' k xs us
 |[],us,hr=>by simpa[Ah]using hr
 |x::xs,us,hr=>by
  simp only[Ah]at hr⊢;obtain⟨u,us',e,h1,h2,h3,h4,h5⟩:=hr;exact⟨u,us',e,h1,h2,RD.stays s x u h3,h4,Ah.stays s k xs us' h5⟩
end

section
variable {h:Hw} {w:World}
theorem RDs.length:∀{cs:List D} {us:List Value},RDs h w cs us->us.length=cs.length
 |[],us,hr=>by simp only[RDs]at hr;simp[hr]
 |c::cs,us,hr=>by
  simp only[RDs]at hr;obtain⟨u,us',e,_,_,h2⟩:=hr;simp[e,RDs.length h2]
theorem RDs.one:∀{cs:List D} {us:List Value},RDs h w cs us->∀u∈us,u.oneCell'=true
 |[],us,hr=>by simp only[RDs]at hr;simp[hr]
 |c::cs,us,hr=>by
  simp only[RDs]at hr;obtain⟨u,us',e,_,h1,h2⟩:=hr;subst e;intro v hv;rcases mc.1 hv with rfl|hv
  exact h1;exact RDs.one h2 v hv
theorem RDs.get:∀{cs:List D} {us:List Value},RDs h w cs us->∀(i:Nat) c,cs[i]? =some c->∃u,us[i]? =some u/\RD h w c u/\u.oneCell'=true
 |[],us,hr,i,c,hc=>by simp at hc
 |c0::cs,us,hr,i,c,hc=>by
  simp only[RDs]at hr;obtain⟨u,us',e,h1,h1',h2⟩:=hr;subst e;cases i with
  |zero=>simp at hc;subst hc;exact⟨u,by simp,h1,h1'⟩
  |succ i=>simp at hc;simpa using RDs.get h2 i c hc
theorem RDs.append:∀{cs:List D} {us:List Value} {ds:List D} {vs:List Value},RDs h w cs us->RDs h w ds vs->RDs h w (cs++ds) (us++vs)
 |[],us,ds,vs,hr,hs=>by simp only[RDs]at hr;simpa[hr]using hs
 |c::cs,us,ds,vs,hr,hs=>by
  simp only[RDs]at hr;obtain⟨u,us',e,h1,h1',h2⟩:=hr;subst e;simp only[List.cons_append,RDs];exact⟨u,us'++vs,rfl,h1,h1',RDs.append h2 hs⟩
theorem RDs.take:∀{cs:List D} {us:List Value} (n:Nat),RDs h w cs us->RDs h w (cs.take n) (us.take n)
 |[],us,n,hr=>by simp only[RDs]at hr;simp[hr,RDs]
 |c::cs,us,0,hr=>by simp[RDs]
 |c::cs,us,n+1,hr=>by
  simp only[RDs]at hr;obtain⟨u,us',e,h1,h1',h2⟩:=hr;subst e;simp only[List.take_succ_cons,RDs];exact⟨u,us'.take n,rfl,h1,h1',RDs.take n h2⟩
theorem RDs.drop:∀{cs:List D} {us:List Value} (n:Nat),RDs h w cs us->RDs h w (cs.drop n) (us.drop n)
 |[],us,n,hr=>by simp only[RDs]at hr;simp[hr,RDs]
 |c::cs,us,0,hr=>by simpa using hr
 |c::cs,us,n+1,hr=>by
  simp only[RDs]at hr;obtain⟨u,us',e,h1,h1',h2⟩:=hr;subst e;simpa using RDs.drop n h2

theorem RD.cells{x:D}{u:Value}(hr:RD h w x u):RDs h w x.cells u.cells.toList/\(∀c∈u.cells.toList,c.oneCell'=true):=by
 cases x with
 |v x=>
  simp only[RD]at hr
  obtain⟨rfl,h1⟩:=hr
  have hc:u.cells= #[u]:=by cases u<;>first|rfl|(simp[Value.oneCell']at h1)
  simp only[D.cells,RDs,hc]
  exact⟨⟨u,[],rfl,by simp[RD,h1],h1,rfl⟩,by simpa using h1⟩
 |agg cs=>
  simp only[RD]at hr
  obtain⟨us,rfl,hr⟩:=hr
  simp only[D.cells,Value.cells]
  exact⟨hr,RDs.one hr⟩
 |sl xs=>
  have hr0:=hr
  simp only[RD]at hr
  obtain⟨ad,cap,k,us,rfl,_⟩:=hr
  simp only[D.cells,Value.cells,RDs]
  exact⟨⟨_,[],rfl,hr0,rfl,rfl⟩,by simp[Value.oneCell']⟩
 |ptr xs=>
  have hr0:=hr
  simp only[RD]at hr
  obtain⟨a,us,rfl,_⟩:=hr
  simp only[D.cells,Value.cells,RDs]
  exact⟨⟨_,[],rfl,hr0,rfl,rfl⟩,by simp[Value.oneCell']⟩
theorem RD.size{x:D}{u:Value}(hr:RD h w x u):u.cells.size=x.nc:=by have:=RDs.length (RD.cells hr).1;simpa[D.nc]using this

theorem Ah.length{k:Nat}:∀{xs:List D} {us:List Value},Ah h w k xs us->us.length=xs.length*k
 |[],us,hr=>by simp only[Ah]at hr;simp[hr]
 |x::xs,us,hr=>by
  simp only[Ah]at hr;obtain⟨u,us',e,h1,_,_,_,h5⟩:=hr;subst e;have:=Ah.length h5;simp only[List.length_append,Array.length_toList,h1,this,List.length_cons,Nat.add_mul];omega
theorem Ah.one{k:Nat}:∀{xs:List D} {us:List Value},Ah h w k xs us->∀u∈us,u.oneCell'=true
 |[],us,hr=>by simp only[Ah]at hr;simp[hr]
 |x::xs,us,hr=>by
  simp only[Ah]at hr;obtain⟨u,us',e,h1,_,_,h4,h5⟩:=hr;subst e;intro v hv;rcases ma.1 hv with hv|hv
  exact h4 v hv;exact Ah.one h5 v hv
theorem Ah.mk{k:Nat}:∀{xs:List D} {us:List Value},Ah h w k xs us->∀x∈xs,x.nc=k
 |[],us,hr=>by simp
 |x::xs,us,hr=>by
  simp only[Ah]at hr;obtain⟨u,us',e,h1,h2,_,_,h5⟩:=hr;intro y hy;rcases mc.1 hy with rfl|hy
  exact h2;exact Ah.mk h5 y hy
theorem Ah.get{k:Nat}:∀{xs:List D} {us:List Value},Ah h w k xs us->∀(i:Nat) x,xs[i]? =some x->
 ∃u,RD h w x u/\u.cells.size=k/\x.nc=k/\∀j,j<k->us[i*k+j]? =u.cells[j]?
 |[],us,hr,i,x,hx=>by simp at hx
 |x0::xs,us,hr,i,x,hx=>by
  simp only[Ah]at hr;obtain⟨u,us',e,h1,h2,h3,h4,h5⟩:=hr;subst e;cases i with
  |zero=>
   simp at hx;subst hx
   refine⟨u,h3,h1,h2,fun j hj=>?_⟩
   rw[Nat.zero_mul,Nat.zero_add,List.getElem?_append_left (by simpa[h1]using hj)]
   simp
  |succ i=>
   simp at hx
   obtain⟨u',a1,a2,a3,a4⟩:=Ah.get h5 i x hx
   refine⟨u',a1,a2,a3,fun j hj=>?_⟩
   rw[<-a4 j hj,List.getElem?_append_right (by simp[h1,Nat.add_mul];omega)]
   congr 1
   simp[h1,Nat.add_mul]
   omega
theorem Ah.append{k:Nat}:∀{xs:List D} {us:List Value} {ys:List D} {vs:List Value},Ah h w k xs us->Ah h w k ys vs->Ah h w k (xs++ys) (us++vs)
 |[],us,ys,vs,hr,hs=>by simp only[Ah]at hr;simpa[hr]using hs
 |x::xs,us,ys,vs,hr,hs=>by
  simp only[Ah]at hr;obtain⟨u,us',e,h1,h2,h3,h4,h5⟩:=hr;subst e;simp only[List.cons_append,Ah];exact⟨u,us'++vs,by simp,h1,h2,h3,h4,Ah.append h5 hs⟩
theorem Ah.take{k:Nat}:∀{xs:List D} {us:List Value} (n:Nat),Ah h w k xs us->Ah h w k (xs.take n) (us.take (n*k))
 |[],us,n,hr=>by simp only[Ah]at hr;simp[hr,Ah]
 |x::xs,us,0,hr=>by simp[Ah]
 |x::xs,us,n+1,hr=>by
  simp only[Ah]at hr;obtain⟨u,us',e,h1,h2,h3,h4,h5⟩:=hr;subst e;simp only[List.take_succ_cons,Ah];refine⟨u,us'.take (n*k),?_,h1,h2,h3,h4,Ah.take n h5⟩;rw[List.take_append,List.take_of_length_le (by simp[h1,Nat.add_mul])];congr 2;simp[h1,Nat.add_mul]
theorem Ah.drop{k:Nat}:∀{xs:List D} {us:List Value} (n:Nat),Ah h w k xs us->Ah h w k (xs.drop n) (us.drop (n*k))
 |[],us,n,hr=>by simp only[Ah]at hr;simp[hr,Ah]
 |x::xs,us,0,hr=>by simpa using hr
 |x::xs,us,n+1,hr=>by
  simp only[Ah]at hr;obtain⟨u,us',e,h1,h2,h3,h4,h5⟩:=hr;subst e;have:=Ah.drop n h5;rw[List.drop_succ_cons];have e0:List.drop ((n+1)*k) u.cells.toList=[]:=List.drop_eq_nil_of_le (by simp[h1,Nat.add_mul]);rw[List.drop_append,e0,List.nil_append];have e:(n+1)*k-u.cells.toList.length=n*k:=by simp[h1,Nat.add_mul]
  rw[e];exact this
end

inductive A where
 |d (x:D)
 |box (n off:Nat)
 |row (n:Nat)
 |bsl (n off len:Nat)
 |ep (n k i off:Nat)
 |ub
 |eptr (cs:List D)
 |clo (f:Fn) (first cap:List A)
 |agg (cs:List A)
 |tup (vs:List A)
 |opq (a:A)
 |nil
 |any

inductive Bk where
 |cells (cs:List A)
 |row (e:TypeId) (k:Nat) (xs:List D)
 |old (xs:List D)
 |buf (sl:Bool) (e:TypeId) (k:Nat) (xs:List D)
 |fz (cs:List D)
 |obj (g:Nat) (o:Obj)
 |vals (as':List A) (us:List Value)
 |rw (e:TypeId) (k:Nat) (xs:List D)
 |dead
 |map (clk:Nat) (es:List (Nat×D×D))
 |mit (n:Nat) (clk:Nat) (seen:List Nat)
 |mapS (es:List (D×D))
 |bag (e:TypeId) (k:Nat) (xs:List D)
 |mapR (g clk:Nat) (ks:List (Nat×D)) (outs:List (D×Nat))
 |rows (e:TypeId) (xss:List (Option (List D)))

abbrev Bx:=List (Nat×Bk)
abbrev Val:=Nat->Value

def up:Nat:=1000

def vblk:Value->Option Nat
 | .pointer (some a)=>some a.block
 | .slice (some a) _ _=>some a.block
 | .map (some b)=>some b
 |_=>none

def hnd(u:Value):Prop:=(∃ad l c,u=.slice ad l c)\/∃b,u=.map (some b)
theorem hnd.sl(ad:Option Addr)(l c:Nat):hnd (.slice ad l c):=.inl ⟨ad,l,c,rfl⟩
def REs(h:Hw)(w:World):List (Nat×D×D)->List MapEntry->Prop
 |[],l=>l=[]
 |x::xs,l=>∃e l',l=e::l'/\e.born=x.1/\RD h w x.2.1 e.key/\RD h w x.2.2 e.val/\REs h w xs l'
theorem REs.stays{h w h' w'}(s:Do h w h' w'):∀(xs:List (Nat×D×D)) (l:List MapEntry),REs h w xs l->REs h' w' xs l
 |[],_,hr=>hr
 |x::xs,l,⟨e,l',a,b,c,d,r⟩=>⟨e,l',a,b,RD.stays s _ _ c,RD.stays s _ _ d,REs.stays s xs l' r⟩

def RM(h:Hw)(w:World)(v:Value)(clk:Nat)(es:List (Nat×D×D)):Prop:=
 ∃b l,v=.map (some b)/\w.heap[b]? =some (.map ⟨l⟩ clk)/\REs h w es l/\(∀x∈es,x.1<clk)/\(es.map (·.1)).Nodup/\(es.map (·.2.1)).Nodup/\h b=0
mutual
def RA(h:Hw)(w:World):Val->A->Value->Prop
 |_,.d x,u=>RD h w x u
 |val,.box n off,u=>∃b,val n=.pointer (some ⟨b,0,none⟩)/\u=.pointer (some ⟨b,off,none⟩)
 |val,.bsl n off len,u=>∃b c,val n=.pointer (some ⟨b,0,none⟩)/\u=.slice (some ⟨b,off,none⟩) len c/\len<=c/\c<=maxLen
 |val,.ep n k i off,u=>∃b,vblk (val n)=some b/\u=.pointer (some ⟨b,i*k+off,none⟩)
 |val,.row n,u=>u=val n/\hnd u
 |_,.eptr cs,u=>∃a us,u=.pointer (some a)/\RDs h w cs us/\∀j v,us[j]? =some v->w.cell? (a.add j)=some v/\a.off+j<h a.block
 |val,.clo f first cap,u=>∃fs cs,u=.func f ⟨fs⟩ ⟨cs⟩/\RAs h w val first fs/\RAs h w val cap cs
 |val,.agg cs,u=>∃us,u=.agg ⟨us⟩/\RAs h w val cs us/\∀u∈us,u.oneCell'=true
 |val,.tup vs,u=>∃us,u=.tuple ⟨us⟩/\RAs h w val vs us
 |val,.opq a,u=>RA h w (fun n=>val (n+up)) a u
 |_,.nil,u=>u=.slice none 0 0
 |_,.ub,u=>∃b,u=.bool b
 |_,.any,_=>True
def RAs(h:Hw)(w:World):Val->List A->List Value->Prop
 |_,[],us=>us=[]
 |val,a::as',us=>∃u us',us=u::us'/\RA h w val a u/\RAs h w val as' us'
end

def BA(h:Hw)(w:World)(e:TypeId):List (Option (List D))->List Value->Prop
 |[],us=>us=[]
 |none::xss,us=>∃u us',us=u::us'/\u.ownBlock=none/\BA h w e xss us'
 |some xs::xss,us=>∃u us' vs,us=u::us'/\(w.ownsRow 0 e 1 u xs.length vs/\Ah h w 1 xs vs/\∀g,u.ownBlock=some g->h g=0)/\BA h w e xss us'
def RKs(h:Hw)(w:World)(val:Val)(outs:List (D×Nat)):List (Nat×D)->List Value->List MapEntry->Prop
 |[],us,l=>us=[]/\l=[]
 |x::ks,us,l=>∃u us' en l',us=u::us'/\l=en::l'/\en.born=x.1/\RD h w x.2 en.key/\(∀m,(x.2,m)∈outs->en.val=val m)/\((∀m,(x.2,m)∉outs)->en.val=u)/\RKs h w val outs ks us' l'
def aAy:Obj->Bool
 | .deferred _=>true
 |_=>false
def RB(h:Hw)(w:World)(val:Val)(n:Nat):Bk->Prop
 | .cells cs=>∃b us t,val n=.pointer (some ⟨b,0,none⟩)/\w.heap[b]? =some (.cells ⟨us⟩ t (0,0))/\RAs h w val cs us/\(∀u∈us,u.oneCell'=true)/\h b=0
 | .row e k xs=>∃us,w.ownsRow 0 e k (val n) xs.length us/\Ah h w k xs us/\∀g,(val n).ownBlock=some g->h g=xs.length*k
 | .old xs=>RD h w (.sl xs) (val n)
 | .buf sl e k xs=>∃g us,val n=(if sl then .slice (some ⟨g,0,none⟩) xs.length xs.length else .pointer (some ⟨g,0,none⟩))/\xs.length<=maxLen/\
  w.heap[g]? =some (.cells ⟨us⟩ e (0,0))/\Ah h w k xs us/\h g=0
 | .fz cs=>∃b us,val n=.pointer (some ⟨b,0,none⟩)/\RDs h w cs us/\∀j v,us[j]? =some v->w.cell? ⟨b,j,none⟩=some v/\j<h b
 | .obj g o=>val n=.pointer (some ⟨g,0,none⟩)/\w.heap[g]? =some o/\aAy o=false
 | .vals as' us=>RAs h w val as' us
 | .rw e k xs=>∃us,w.ownsRow 0 e k (val n) xs.length us/\Ah h w k xs us/\∀g,(val n).ownBlock=some g->h g=0
 | .dead=>True
 | .map clk es=>RM h w (val n) clk es
 | .mapS es=>∃clk es',RM h w (val n) clk es'/\(es'.map (·.2)).Perm es
 | .bag e k xs=>∃xs' us,xs'.Perm xs/\w.ownsRow 0 e k (val n) xs'.length us/\Ah h w k xs' us/\∀g,(val n).ownBlock=some g->h g=0
 | .rows e xss=>∃v us,val n=.tuple ⟨v::us⟩/\v.ownBlock=none/\BA h w e xss us
 | .mapR g clk ks outs=>∃b l us,val n=.map (some b)/\w.heap[b]? =some (.map ⟨l⟩ clk)/\val g=.tuple ⟨.map (some b)::us⟩/\RKs h w val outs ks us l/\(∀x∈ks,x.1<clk)/\(ks.map (·.1)).Nodup/\(ks.map (·.2)).Nodup/\h b=0/\∀x∈outs,hnd (val x.2)
 | .mit m clk seen=>∃r b,val n=.pointer (some ⟨r,0,none⟩)/\val m=.map (some b)/\w.heap[r]? =some (.mapIter (some b) clk ⟨seen⟩ clk)

def AK(B:Bx):List Nat:=B.map (·.1)
def Bk.isOld:Bk->Bool
 | .old _=>true
 | .fz _=>true
 | .vals _ _=>true
 | .dead=>true
 |_=>false
def Bk.kd:Bk->Nat
 | .rows _ _=>2
 |b=>if b.isOld then 0 else 1
def BE(val:Val)(p:Nat×Bk):Option Nat:=if p.2.isOld then none else vblk (val p.1)
def aZ5:Value->List Nat
 | .tuple us=>us.toList.filterMap Value.ownBlock
 |_=> []
def CW(val:Val)(p:Nat×Bk):List Nat:=(BE val p).toList++(match p.2 with
 | .rows _ _=>aZ5 (val p.1)
 |_=> [])
def Aa(val:Val)(B:Bx):List Nat:=B.flatMap (CW val)

def By:List (List UInt8):=[[97,99,99,101,112,116],[97,108,115,111],[97,110,100],[98,111,111,108],[100,111],[101,118,101,110,116],[101,120,105,115,116,115],[102,97,108,115,101],[102,111,114,97,108,108],[102,114,101,101],[105,102],[105,110,116],[110,101,120,116],[110,111,116],[111,110],[111,114],[113,101,97],[115,107,105,112],[115,116,97,114,116],[115,116,114,105,110,103],[116,111],[116,114,117,101]]
def GOk(h:Hw)(w:World):Prop:=∀i c,By[i]? =some c->w.cell? ⟨0,i,none⟩=some (.string ⟨⟨c⟩⟩)/\i<h 0
theorem GOk.stays{h w h' w'}(k:Do h w h' w')(g:GOk h w):GOk h' w':=fun i c hc=>by obtain⟨a,b⟩:=g i c hc;exact⟨k.1 _ _ _ b a,Nat.lt_of_lt_of_le b (k.2 0 (World.block_lt_of_cell? w _ a))⟩
structure Inv(h:Hw)(w:World)(val:Val)(B:Bx):Prop where
 rep:∀p∈B,RB h w val p.1 p.2
 nms:(AK B).Nodup
 bks:(Aa val B).Nodup
 glob:GOk h w

structure BI(M:List Nat)(h:Hw)(w:World)(h':Hw)(w':World):Prop where
 os:w'.os=w.os
 tape:w'.tape=w.tape
 output:w'.output=w.output
 size:w.heap.size<=w'.heap.size
 cells:∀b i v,i<h b->w.cell? ⟨b,i,none⟩=some v->w'.cell? ⟨b,i,none⟩=some v
 mono:∀b,b<w.heap.size->h b<=h' b
 far:∀b,b<w.heap.size->b∉M->w'.heap[b]? =w.heap[b]? /\h' b=h b

theorem BI.stays{M h w h' w'}(k:BI M h w h' w'):Do h w h' w':=⟨k.cells,k.mono⟩
theorem BI.refl(M:List Nat)(h:Hw)(w:World):BI M h w h w:=
 ⟨rfl,rfl,rfl,Nat.le_refl _,fun _ _ _ _ hc=>hc,fun _ _=>Nat.le_refl _,fun _ _ _=>⟨rfl,rfl⟩⟩

theorem Cj{w:World}{b i:Nat}{v:Value}(h:w.cell? ⟨b,i,none⟩=some v):b<w.heap.size:=World.block_lt_of_cell? w _ h

theorem BI.trans{M M':List Nat}{h h1 h2:Hw}{w w1 w2:World}(a:BI M h w h1 w1)(b:BI M' h1 w1 h2 w2)
 (hM:∀x∈M',x∈M\/w.heap.size<=x):BI M h w h2 w2 where
 os:=b.os.trans a.os
 tape:=b.tape.trans a.tape
 output:=b.output.trans a.output
 size:=Nat.le_trans a.size b.size
 cells:=fun x i v hi hc=>b.cells x i v (Nat.lt_of_lt_of_le hi (a.mono x (Cj hc))) (a.cells x i v hi hc)
 mono:=fun x hx=>Nat.le_trans (a.mono x hx) (b.mono x (Nat.lt_of_lt_of_le hx a.size))
 far:=fun x hx hn=>by
  have hn':x∉M':=fun hm=>by
   rcases hM x hm with h|h
   exact hn h;omega
  obtain⟨a1,a2⟩:=a.far x hx hn;obtain⟨b1,b2⟩:=b.far x (Nat.lt_of_lt_of_le hx a.size) hn';exact⟨b1.trans a1,b2.trans a2⟩

mutual
theorem RA.stays{h w h' w'}(s:Do h w h' w'):∀(val:Val) (a:A) (u:Value),RA h w val a u->RA h' w' val a u
 |_,.d x,u,hr=>by simp only[RA]at hr⊢;exact RD.stays s x u hr
 |_,.box n off,u,hr=>by simpa[RA]using hr
 |_,.bsl n off l,u,hr=>by simpa only[RA]using hr
 |_,.ep n k i off,u,hr=>by simpa only[RA]using hr
 |_,.row n,u,hr=>by simpa[RA]using hr
 |_,.eptr cs,u,hr=>by
  simp only[RA]at hr⊢;obtain⟨a,us,e,hr,hc⟩:=hr;refine⟨a,us,e,RDs.stays s cs us hr,fun j v hj=>?_⟩;obtain⟨c1,c2⟩:=hc j v hj;have:=s.cell c1 (by rw[Bo,C2];exact c2);rw[Bo,C2]at this;exact this
 |val,.clo f first cap,u,hr=>by
  simp only[RA]at hr⊢;obtain⟨fs,cs,e,h1,h2⟩:=hr;exact⟨fs,cs,e,RAs.stays s val first fs h1,RAs.stays s val cap cs h2⟩
 |val,.agg cs,u,hr=>by
  simp only[RA]at hr⊢;obtain⟨us,e,h1,h2⟩:=hr;exact⟨us,e,RAs.stays s val cs us h1,h2⟩
 |val,.tup cs,u,hr=>by
  simp only[RA]at hr⊢;obtain⟨us,e,h1⟩:=hr;exact⟨us,e,RAs.stays s val cs us h1⟩
 |val,.opq a,u,hr=>by simp only[RA]at hr⊢;exact RA.stays s _ a u hr
 |_,.nil,u,hr=>by simpa only[RA]using hr
 |_,.ub,u,hr=>by simpa only[RA]using hr
 |_,.any,u,hr=>by simp[RA]
theorem RAs.stays{h w h' w'}(s:Do h w h' w'):∀(val:Val) (as':List A) (us:List Value),RAs h w val as' us->RAs h' w' val as' us
 |_,[],us,hr=>by simpa[RAs]using hr
 |val,a::as',us,hr=>by
  simp only[RAs]at hr⊢;obtain⟨u,us',e,h1,h2⟩:=hr;exact⟨u,us',e,RA.stays s val a u h1,RAs.stays s val as' us' h2⟩
end

-- The AK that a value bears (inside 'opq' nothing below 'up').
mutual
def A.has(n:Nat):A->Bool
 | .box m _=>m==n
 | .bsl m _ _=>m==n
 | .ep m _ _ _=>m==n
 | .row m=>m==n
 | .clo _ fs cs=>AV n fs||AV n cs
 | .agg cs=>AV n cs
 | .tup vs=>AV n vs
 | .opq _=>Nat.ble up n
 |_=>false
def AV(n:Nat):List A->Bool
 |[]=>false
 |a::as'=>a.has n||AV n as'
end

theorem aBt{val val':Val}{n:Nat}(hv:∀m,m≠n->val' m=val m)(hn:Nat.ble up n=false):(fun m=>val' (m+up))=fun m=>val (m+up):=by
 funext m;apply hv;intro e;have:¬up<=n:=fun hle=>by rw[Nat.ble_eq_true_of_le hle]at hn;cases hn
 omega

mutual
theorem RA.upd{h w}{val val':Val}{n:Nat}(hv:∀m,m≠n->val' m=val m):∀(a:A) (u:Value),a.has n=false->RA h w val a u->RA h w val' a u
 | .d x,u,_,hr=>by simpa only[RA]using hr
 | .box m off,u,hn,hr=>by
  simp[A.has]at hn;simpa only[RA,hv m hn]using hr
 | .bsl m off l,u,hn,hr=>by
  simp[A.has]at hn;simpa only[RA,hv m hn]using hr
 | .ep m k i off,u,hn,hr=>by
  simp[A.has]at hn;simpa only[RA,hv m hn]using hr
 | .row m,u,hn,hr=>by
  simp[A.has]at hn;simpa only[RA,hv m hn]using hr
 | .eptr cs,u,_,hr=>by simpa only[RA]using hr
 | .clo f first cap,u,hn,hr=>by
  simp only[A.has,Bool.or_eq_false_iff]at hn;simp only[RA]at hr⊢;obtain⟨fs,cs,e,h1,h2⟩:=hr;exact⟨fs,cs,e,RAs.upd hv first fs hn.1 h1,RAs.upd hv cap cs hn.2 h2⟩
 | .agg cs,u,hn,hr=>by
  simp only[A.has]at hn;simp only[RA]at hr⊢;obtain⟨us,e,h1,h2⟩:=hr;exact⟨us,e,RAs.upd hv cs us hn h1,h2⟩
 | .tup cs,u,hn,hr=>by
  simp only[A.has]at hn;simp only[RA]at hr⊢;obtain⟨us,e,h1⟩:=hr;exact⟨us,e,RAs.upd hv cs us hn h1⟩
 | .opq a,u,hn,hr=>by
  simp only[A.has]at hn;simp only[RA]at hr⊢;rw[aBt hv hn];exact hr
 | .nil,u,_,hr=>by simpa only[RA]using hr
 | .ub,u,_,hr=>by simpa only[RA]using hr
 | .any,u,_,hr=>by simp[RA]
theorem RAs.upd{h w}{val val':Val}{n:Nat}(hv:∀m,m≠n->val' m=val m):∀(as':List A) (us:List Value),AV n as'=false->RAs h w val as' us->RAs h w val' as' us
 |[],us,_,hr=>by simpa[RAs]using hr
 |a::as',us,hn,hr=>by
  simp only[AV,Bool.or_eq_false_iff]at hn;simp only[RAs]at hr⊢;obtain⟨u,us',e,h1,h2⟩:=hr;exact⟨u,us',e,RA.upd hv a u hn.1 h1,RAs.upd hv as' us' hn.2 h2⟩
end

section
variable {h:Hw} {w:World} {val:Val}
theorem RAs.length:∀{as':List A} {us:List Value},RAs h w val as' us->us.length=as'.length
 |[],us,hr=>by simp only[RAs]at hr;simp[hr]
 |a::as',us,hr=>by
  simp only[RAs]at hr;obtain⟨u,us',e,_,h2⟩:=hr;simp[e,RAs.length h2]
theorem RAs.get:∀{as':List A} {us:List Value},RAs h w val as' us->∀(i:Nat) a,as'[i]? =some a->∃u,us[i]? =some u/\RA h w val a u
 |[],us,hr,i,a,ha=>by simp at ha
 |a0::as',us,hr,i,a,ha=>by
  simp only[RAs]at hr;obtain⟨u,us',e,h1,h2⟩:=hr;subst e;cases i with
  |zero=>simp at ha;subst ha;exact⟨u,by simp,h1⟩
  |succ i=>simp at ha;simpa using RAs.get h2 i a ha
theorem RAs.of:∀{as':List A} {us:List Value},us.length=as'.length->(∀(i:Nat) a u,as'[i]? =some a->us[i]? =some u->RA h w val a u)->RAs h w val as' us
 |[],us,hl,_=>by simp only[RAs];exact List.eq_nil_of_length_eq_zero (by simpa using hl)
 |a::as',[],hl,_=>by simp at hl
 |a::as',u::us,hl,hg=>by
  simp only[RAs];exact⟨u,us,rfl,hg 0 a u (by simp) (by simp),RAs.of (by simpa using hl) fun i b v hb hv=>hg (i+1) b v (by simpa using hb) (by simpa using hv)⟩
theorem RAs.set{as':List A}{us:List Value}(hr:RAs h w val as' us)(i:Nat){a:A}{u:Value}(ha:RA h w val a u):RAs h w val (as'.set i a) (us.set i u):=by refine RAs.of (by simp[RAs.length hr]) fun j b v hb hv=>?_;rw[List.getElem?_set]at hb hv;by_cases hij:i=j;subst hij;have hl:=RAs.length hr;simp only[if_true]at hb hv;split at hb;split at hv;simp at hb hv;subst hb;subst hv;exact ha;cases hv;cases hb;simp only[hij,if_false]at hb hv;obtain⟨u',hu',hr'⟩:=RAs.get hr j b hb;rw[hu']at hv;cases hv;exact hr'
theorem RAs.append:∀{as':List A} {us:List Value} {bs:List A} {vs:List Value},RAs h w val as' us->RAs h w val bs vs->RAs h w val (as'++bs) (us++vs)
 |[],us,bs,vs,hr,hs=>by simp only[RAs]at hr;simpa[hr]using hs
 |a::as',us,bs,vs,hr,hs=>by
  simp only[RAs]at hr;obtain⟨u,us',e,h1,h2⟩:=hr;subst e;simp only[List.cons_append,RAs];exact⟨u,us'++vs,rfl,h1,RAs.append h2 hs⟩
theorem RAs.take:∀{as':List A} {us:List Value} (n:Nat),RAs h w val as' us->RAs h w val (as'.take n) (us.take n)
 |[],us,n,hr=>by simp only[RAs]at hr;simp[hr,RAs]
 |a::as',us,0,hr=>by simp[RAs]
 |a::as',us,n+1,hr=>by
  simp only[RAs]at hr;obtain⟨u,us',e,h1,h2⟩:=hr;subst e;simp only[List.take_succ_cons,RAs];exact⟨u,us'.take n,rfl,h1,RAs.take n h2⟩
theorem RAs.drop:∀{as':List A} {us:List Value} (n:Nat),RAs h w val as' us->RAs h w val (as'.drop n) (us.drop n)
 |[],us,n,hr=>by simp only[RAs]at hr;simp[hr,RAs]
 |a::as',us,0,hr=>by simpa using hr
 |a::as',us,n+1,hr=>by
  simp only[RAs]at hr;obtain⟨u,us',e,h1,h2⟩:=hr;subst e;simpa using RAs.drop n h2
end

structure St where
 E:List A
 B:Bx
 F:Bx
def St.all(s:St):Bx:=s.B++s.F

inductive W where
 |no
 |bit (b:Bool)
 |el (x:D)
 |int (n:Int)
 |str (l:List UInt8)
 |sl (xs:List D)
 |ret (r:A)
 |frz
 |own (raw:Bool) (r:A) (B F:Bx)
 |cx (raw:Bool) (ρ0 ρ1:List (Nat×Nat)) (r:A) (X':Bx)
 |lend (ns:List Nat) (r:A)
 |fzn (m:Nat)
 |rwl (zs:List D)
 |rwz (zs:List D)
 |prt (y0:D) (zs:List D)
 |mg (v:D) (ok:Bool)
 |mp (clk:Nat) (es:List (Nat×D×D))
 |ms (S:List (D×D))
 |en (k v:D)
 |me (clk:Nat) (es:List (Nat×D×D)) (v:D) (st:Nat)
 |mr (g clk:Nat) (ks:List (Nat×D)) (xss:List (Option (List D))) (xs:List D)
 |mkr (g:Nat)
 |mb (n g m:Nat) (xss:List (Option (List D)))
 |mf (n g:Nat) (es:List (Nat×D×D))

def C3:Value->D
 | .slice none 0 0=>.sl []
 |x=>.v x
def cst:Value->A
 | .slice none 0 0=>.nil
 | .agg cs=>if cs.toList.all (·.oneCell')then .d (.agg (cs.toList.map C3))else .any
 | .tuple _=>.any
 |x=>.d (.v x)

def St.ev(s:St):Operand->A
 | .tmp t=>s.E.getD t .any
 | .const v=>cst v
 | .global _=>.any
 | .func f=>.clo (.func f) [] []

def Bk.has(n:Nat):Bk->Bool
 | .cells cs=>AV n cs
 | .vals as' _=>AV n as'
 | .mit m _ _=>m==n
 | .mapR g _ _ outs=>g==n||outs.any fun x=>x.2==n
 |_=>false
theorem Ic{n:Nat}(h:n=1000000):up<=n:=by rw[h];decide
def Far(F:Bx):Prop:=∀n,n<up\/n=1000000->∀p∈F,p.1≠n/\p.2.has n=false

def bn:Nat:=1000000
def FJ(val:Val):Nat:=match val bn with
 | .int _ n=>n.toNat
 |_=>0
def Cg(val:Val)(w:World)(ds:List Deferred):Prop:=
 FJ val<=w.heap.size/\∃Ds:List Nat,ds=Ds.map (fun D=>{target:=.collected D,args:= #[]})/\Ds.Nodup/\∀D∈Ds,w.heap[D]? =some (.deferred (some []))/\FJ val<=D
theorem Cg.nil{val:Val}{w:World}(h:FJ val<=w.heap.size):Cg val w []:=⟨h,[],rfl,List.nodup_nil,fun _ h=>by cases h⟩
structure Holds(s:St)(h:Hw)(w:World)(val:Val)(a:Act):Prop where
 e:RAs h w val s.E a.tmps.toList
 inv:Inv h w val s.all
 far:Far s.F
 defs:Cg val w a.defers

section
variable {h:Hw} {w:World} {val:Val}

theorem Id(h:Hw)(w:World):RD h w (.sl []) (.slice none 0 0):=by simp only[RD,Ah];exact⟨none,0,0,[],by simp,by simp,by simp[maxLen],rfl,by simp⟩
theorem Et(h:Hw)(w:World)(x:Value)(h1:x.oneCell'=true):RD h w (C3 x) x:=by unfold C3;split;exact Id h w;simp[RD,h1]
theorem Mf:∀(l:List Value),(∀x∈l,x.oneCell'=true)->RDs h w (l.map C3) l
 |[],_=>by simp[RDs]
 |x::l,hl=>by
  simp only[List.map_cons,RDs];exact⟨x,l,rfl,Et h w x (hl x (by simp)),hl x (by simp),Mf l fun y hy=>hl y (by simp[hy])⟩
theorem aQa(x:Value):RA h w val (cst x) x:=by unfold cst;split;simp only[RA];rename_i cs;split;rename_i hall;simp only[RA,RD];exact⟨cs.toList,rfl,Mf cs.toList fun y hy=>(List.all_eq_true.1 hall) y hy⟩;simp[RA];simp[RA];rename_i h1 h2 h3;simp only[RA,RD,true_and];cases x<;>simp_all [Value.oneCell']

theorem Holds.ev{s:St}{a:Act}(H:Holds s h w val a)(x:Operand):RA h w val (s.ev x) (a.eval x):=by
 cases x with
 |tmp t=>
  simp only[St.ev,Act.eval]
  cases ht:s.E[t]? with
  |none=>simp[List.getD,ht,RA]
  |some v=>
   obtain⟨u,hu,hr⟩:=RAs.get H.e t v ht
   have hu':a.tmps[t]? =some u:=by simpa using hu
   simp only[List.getD,ht,Option.getD_some]
   rw[show a.tmps.getD t undef=u by simp[hu']]
   exact hr
 |const v=>exact aQa v
 |global g=>simp[St.ev,RA]
 |func f=>simp only[St.ev,Act.eval,RA,RAs];exact⟨[],[],rfl,rfl,rfl⟩

theorem Si(a:Act)(d:Tmp)(u:Value):(a.put (some d) u).tmps.toList=a.tmps.toList.set d u:=by simp[Act.put]

def St.put(s:St)(dst:Option Tmp)(v:A):St:=
 match dst with
 |some d=>{s with E:=s.E.set d v}
 |none=>s
theorem Holds.put{s:St}{a:Act}(H:Holds s h w val a)(dst:Option Tmp){v:A}{u:Value}(hv:RA h w val v u):Holds (s.put dst v) h w val (a.put dst u):=by
 cases dst with
 |none=>exact H
 |some d=>exact⟨by rw[Si];exact H.e.set d hv,H.inv,H.far,H.defs⟩

end

theorem RB.data{h:Hw}{w:World}{val:Val}{n:Nat}{e:TypeId}{k:Nat}{xs:List D}(hr:RB h w val n (.row e k xs)):RD h w (.sl xs) (val n):=by
 obtain⟨us,hown,hrow,hh⟩:=hr;simp only[RD];rcases hown.2 with⟨hv,hn⟩|⟨g,cap,cur,hv,_,hg,hnc,hcm,hcs,htake⟩
 have hx:xs=[]:=List.eq_nil_of_length_eq_zero hn;subst hx;rw[hv];exact⟨none,0,k,us,by simp,by simp,by simp[maxLen],hrow,by simp⟩;refine⟨some ⟨g,0,none⟩,cap,k,us,hv,hnc,hcm,hrow,fun h0=>⟨_,rfl,fun j v hj=>?_⟩⟩;have hb:(val n).ownBlock=some g:=by rw[hv];rfl
 have hlt:j<us.length:=by
  rcases Nat.lt_or_ge j us.length with h|h
  exact h;rw[List.getElem?_eq_none h]at hj;cases hj
 refine⟨hown.cells hb j v hj,?_⟩;simp only[Nat.zero_add];rw[hh g hb,<-Ah.length hrow];exact hlt

def lk(B:Bx)(n:Nat):Option Bk:=(B.find? fun p=>p.1==n).map (·.2)
theorem Ag{B:Bx}{n:Nat}{b:Bk}(h:lk B n=some b):(n,b)∈B:=by
 unfold lk at h;cases hf:B.find? (fun p=>p.1==n)with
 |none=>simp[hf]at h
 |some p=>
  simp[hf]at h
  have h1:=List.find?_some hf
  have h2:=List.mem_of_find?_eq_some hf
  simp at h1
  obtain⟨m,b'⟩:=p
  simp_all

def St.look(s:St):A->A
 | .box n 0=>match lk s.B n with
  |some (.fz cs)=>.eptr cs
  |_=>.box n 0
 | .row n=>match lk s.B n with
  |some (.row _ _ xs)=>.d (.sl xs)
  |some (.old xs)=>.d (.sl xs)
  |_=>.row n
 | .nil=>.d (.sl [])
 |x=>x
theorem Holds.look{s:St}{h w val}{a:Act}(H:Holds s h w val a){x:A}{u:Value}(hr:RA h w val x u):RA h w val (s.look x) u:=by unfold St.look;split;rename_i n;split;rename_i cs hl;simp only[RA]at hr⊢;obtain⟨b,e1,e2⟩:=hr;obtain⟨b',us,e3,h1,h2⟩:=H.inv.rep (n,.fz cs) (ml_ _ (Ag hl));simp only at e3;rw[e1]at e3;cases e3;refine⟨⟨b,0,none⟩,us,e2,h1,fun j v hj=>?_⟩;rw[Addr.add_lit,Nat.zero_add];exact h2 j v hj;exact hr;rename_i n;split;rename_i e k xs hl;simp only[RA]at hr⊢;rw[hr.1];exact RB.data (e:=e) (k:=k) (H.inv.rep (n,.row e k xs) (ml_ _ (Ag hl)));rename_i xs hl;simp only[RA]at hr⊢;rw[hr.1];exact H.inv.rep (n,.old xs) (ml_ _ (Ag hl));exact hr;simp only[RA]at hr⊢;rw[hr];exact Id h w;exact hr

structure Nx(s:St)(h:Hw)(w:World)(val:Val)(s':St)(h':Hw)(w':World)(val':Val):Prop where
 keep:BI (Aa val s.all) h w h' w'
 vals:∀n,n=1000000->val' n=val n
 new:∀b∈Aa val' s'.all,b∈Aa val s.all\/w.heap.size<=b
theorem Nx.refl(s:St)(h:Hw)(w:World)(val:Val){s':St}(he:s'.all=s.all):Nx s h w val s' h w val:=
 ⟨BI.refl _ _ _,fun _ _=>rfl,fun b hb=>.inl (by rw[he]at hb;exact hb)⟩
theorem Nx.trans{s s1 s2:St}{h h1 h2:Hw}{w w1 w2:World}{v v1 v2:Val}(a:Nx s h w v s1 h1 w1 v1)(b:Nx s1 h1 w1 v1 s2 h2 w2 v2):Nx s h w v s2 h2 w2 v2 where
 keep:=a.keep.trans b.keep a.new
 vals:=fun n hn=>(b.vals n hn).trans (a.vals n hn)
 new:=fun x hx=>by
  rcases b.new x hx with h|h
  exact a.new x h;exact .inr (Nat.le_trans a.keep.size h)

def AY(c:UInt8):D:=.v (.int .u8 c.toNat)
inductive BX where
 |lit (b:Bool)
 |iEq (a b:Int)
 |iLt (a b:Int)
 |iLe (a b:Int)
 |sEq (a b:ByteArray)
 |sLt (a b:ByteArray)
 |bEq (a b:Bool)
 |not (x:BX)
 |and (x y:BX)
def BX.val:BX->Bool
 | .lit b=>b
 | .iEq a b=>decide (a=b)
 | .iLt a b=>decide (a<b)
 | .iLe a b=>decide (a<=b)
 | .sEq a b=>decide (a.data.toList=b.data.toList)
 | .sLt a b=>Op.bytesLess a.data.toList b.data.toList
 | .bEq a b=>a==b
 | .not x=> !x.val
 | .and x y=>x.val&&y.val
def AB(op:BinOp)(k:IntKind)(a b:Int):Int:=
 match op with
 | .add=>k.wrap (a+b)
 | .sub=>k.wrap (a-b)
 | .mul=>k.wrap (a*b)
 | .quo=>k.wrap (a.tdiv b)
 | .rem=>a.tmod b
 | .and=>bits .and k a b
 | .or=>bits .or k a b
 | .xor=>bits .xor k a b
 | .andNot=>bits .andNot k a b
 | .shl=>k.wrap (a*2^(min b.toNat k.bits))
 | .shr=>a.fdiv (2^(min b.toNat k.bits))
 |_=>0
inductive Cn where
 |t
 |eq (x:BX) (c:Bool)
 |int (op:BinOp) (k:IntKind) (a b n:Int)
 |wrap (k:IntKind) (a n:Int)
 |le (a b:Int)
 |ne (a b:Int)
 |max (a b n:Int)
 |min (a b n:Int)
 |elem (xs:List D) (i:Int) (y:D)
 |byte (s:ByteArray) (i n:Int)
 |nc (xs:List D) (k:Nat)
 |nonnil (xs:List D)
 |bytes (xs:List D) (l:List UInt8)
 |len (xs:List D) (n:Int)
 |slen (s:ByteArray) (n:Int)
 |cut (xs:List D) (l:Int) (h:Option Int) (ys:List D) (k:Nat)
 |scut (s:ByteArray) (l:Int) (h:Option Int) (ys:List UInt8)
 |sapp (a b:ByteArray) (l:List UInt8)
 |app (xs ys zs:List D)
 |fits (xs ys:List D) (n:Nat)
 |upd (xs:List D) (i:Nat) (y:D) (zs:List D)
 |pr (p:Prop)
 |both (a b:Cn)
def Cn.ok:Cn->Prop
 | .t=>True
 | .eq x c=>x.val=c
 | .int op k a b n=>AB op k a b=n
 | .wrap k a n=>k.wrap a=n
 | .le a b=>a<=b
 | .ne a b=>a≠b
 | .max a b n=>(if a<b then b else a)=n
 | .min a b n=>(if b<a then b else a)=n
 | .elem xs i y=>0<=i/\xs[i.toNat]? =some y
 | .byte s i n=>0<=i/\∃c:UInt8,s.data.toList[i.toNat]? =some c/\(c.toNat:Int)=n
 | .nc xs k=>∀y∈xs,y.nc=k
 | .nonnil xs=>xs≠[]
 | .bytes xs l=>xs=l.map AY
 | .len xs n=>(xs.length:Int)=n
 | .slen s n=>(s.size:Int)=n
 | .cut xs l h ys k=>0<=l/\l<=h.getD xs.length/\h.getD xs.length<=xs.length/\(∀y∈xs,y.nc=k)/\(xs.take (h.getD xs.length).toNat).drop l.toNat=ys
 | .scut s l h ys=>0<=l/\l<=h.getD s.size/\h.getD s.size<=s.size/\s.extract l.toNat (h.getD s.size).toNat=⟨⟨ys⟩⟩
 | .sapp a b l=>a.size+b.size<=9223372036854775807/\a++b=⟨⟨l⟩⟩
 | .app xs ys zs=>xs++ys=zs
 | .fits xs ys n=>(xs.length+ys.length)*n<=140737488355328
 | .upd xs i y zs=>xs.set i y=zs
 | .pr p=>p
 | .both a b=>a.ok/\b.ok

def bo(b:Bool):A:=.d (.v (.bool b))
def JF(b:BX):W->Cn×A
 | .bit c=>(.eq b c,bo c)
 |_=>(.t,bo b.val)
theorem Bl{h w val}{b:BX}{wt:W}{Φ:Cn}{v:A}(he:JF b wt=(Φ,v))(hΦ:Φ.ok):RA h w val v (.bool b.val):=by unfold JF at he;split at he;simp only[pe]at he;obtain⟨h1,h2⟩:=he;subst h1;subst h2;simp only[Cn.ok]at hΦ;subst hΦ;simp[bo,RA,RD,Value.oneCell'];simp only[pe]at he;obtain⟨h1,h2⟩:=he;subst h2;simp[bo,RA,RD,Value.oneCell']

def it(k:IntKind)(n:Int):A:=.d (.v (.int k n))
theorem aC2{h w val}(k:IntKind)(n:Int):RA h w val (it k n) (.int k n):=by simp[it,RA,RD,Value.oneCell']
def IU(k:IntKind)(f:Int->Cn)(v:Unit->Int):W->Cn×A
 | .int n=>(f n,it k n)
 |_=>(.t,it k (v ()))
theorem Bi{h w val}{k:IntKind}{f:Int->Cn}{v:Unit->Int}{wt:W}{Φ:Cn}{r:A}(hf:∀n,(f n).ok->v ()=n)(he:IU k f v wt=(Φ,r))(hΦ:Φ.ok):RA h w val r (.int k (v ())):=by unfold IU at he;split at he;simp only[pe]at he;obtain⟨h1,h2⟩:=he;subst h1;subst h2;rw[hf _ hΦ];exact aC2 _ _;simp only[pe]at he;obtain⟨h1,h2⟩:=he;subst h2;exact aC2 _ _
def aLd(c:Cn)(p:Cn×A):Cn×A:=(.both c p.1,p.2)

def aAu(op:BinOp)(k:IntKind)(a b:Int)(wt:W):Option (Cn×A):=
 match op with
 | .add=>some (IU k (.int .add k a b) (fun _=>AB .add k a b) wt)
 | .sub=>some (IU k (.int .sub k a b) (fun _=>AB .sub k a b) wt)
 | .mul=>some (IU k (.int .mul k a b) (fun _=>AB .mul k a b) wt)
 | .quo=>some (aLd (.ne b 0) (IU k (.int .quo k a b) (fun _=>AB .quo k a b) wt))
 | .rem=>some (aLd (.ne b 0) (IU k (.int .rem k a b) (fun _=>AB .rem k a b) wt))
 | .and=>some (IU k (.int .and k a b) (fun _=>AB .and k a b) wt)
 | .or=>some (IU k (.int .or k a b) (fun _=>AB .or k a b) wt)
 | .xor=>some (IU k (.int .xor k a b) (fun _=>AB .xor k a b) wt)
 | .andNot=>some (IU k (.int .andNot k a b) (fun _=>AB .andNot k a b) wt)
 | .shl| .shr=>none
 | .eql=>some (JF (.iEq a b) wt)
 | .neq=>some (JF (.not (.iEq a b)) wt)
 | .lss=>some (JF (.iLt a b) wt)
 | .leq=>some (JF (.iLe a b) wt)
 | .gtr=>some (JF (.iLt b a) wt)
 | .geq=>some (JF (.iLe b a) wt)

theorem aAv{P:Program}{h w val}{op:BinOp}{k:IntKind}{a b:Int}{wt:W}{Φ:Cn}{v:A}{t:TypeId}(he:aAu op k a b wt=some (Φ,v))(hΦ:Φ.ok):
 ∃u,(binOp op t (.int k a) (.int k b)).run P w=.ok u w/\RA h w val v u:=by
 cases op<;>simp only[aAu,oe]at he
 case shl=>cases he
 case shr=>cases he
 case quo=>
  simp only[aLd,pe]at he
  obtain⟨h1,h2⟩:=he
  rw[<-h1]at hΦ
  simp only[Cn.ok]at hΦ
  exact⟨_,by simp[binOp,Op.intDiv,hΦ.1];rfl,Bi (f:=.int .quo k a b) (v:=fun _=>AB .quo k a b) (fun n hn=>hn) (Prod.ext rfl h2) hΦ.2⟩
 case rem=>
  simp only[aLd,pe]at he
  obtain⟨h1,h2⟩:=he
  rw[<-h1]at hΦ
  simp only[Cn.ok]at hΦ
  exact⟨_,by simp[binOp,Op.intDiv,hΦ.1];rfl,Bi (f:=.int .rem k a b) (v:=fun _=>AB .rem k a b) (fun n hn=>hn) (Prod.ext rfl h2) hΦ.2⟩
 case eql=>exact⟨_,by simp[binOp,Op.intCmp];rfl,Bl he hΦ⟩
 case neq=>exact⟨_,by simp[binOp,Op.intCmp];rfl,Bl he hΦ⟩
 case lss=>exact⟨_,by simp[binOp,Op.intCmp];rfl,Bl he hΦ⟩
 case leq=>exact⟨_,by simp[binOp,Op.intCmp];rfl,Bl he hΦ⟩
 case gtr=>exact⟨_,by simp[binOp,Op.intCmp];rfl,Bl he hΦ⟩
 case geq=>exact⟨_,by simp[binOp,Op.intCmp];rfl,Bl he hΦ⟩
 case add=>exact⟨_,by simp[binOp,Op.intArith,go_sem];rfl,Bi (f:=.int .add k a b) (v:=fun _=>AB .add k a b) (fun n hn=>hn) he hΦ⟩
 case sub=>exact⟨_,by simp[binOp,Op.intArith,go_sem];rfl,Bi (f:=.int .sub k a b) (v:=fun _=>AB .sub k a b) (fun n hn=>hn) he hΦ⟩
 case mul=>exact⟨_,by simp[binOp,Op.intArith,go_sem];rfl,Bi (f:=.int .mul k a b) (v:=fun _=>AB .mul k a b) (fun n hn=>hn) he hΦ⟩
 case and=>exact⟨_,by simp[binOp,Op.intArith,go_sem];rfl,Bi (f:=.int .and k a b) (v:=fun _=>AB .and k a b) (fun n hn=>hn) he hΦ⟩
 case or=>exact⟨_,by simp[binOp,Op.intArith,go_sem];rfl,Bi (f:=.int .or k a b) (v:=fun _=>AB .or k a b) (fun n hn=>hn) he hΦ⟩
 case xor=>exact⟨_,by simp[binOp,Op.intArith,go_sem];rfl,Bi (f:=.int .xor k a b) (v:=fun _=>AB .xor k a b) (fun n hn=>hn) he hΦ⟩
 case andNot=>exact⟨_,by simp[binOp,Op.intArith,go_sem];rfl,Bi (f:=.int .andNot k a b) (v:=fun _=>AB .andNot k a b) (fun n hn=>hn) he hΦ⟩

def Bd(P:Program)(t:TypeId):Option Bool:=
 match P.underlying t with
 |some (.struct _)|some (.array _ _)=>some true
 |some _=>some false
 |none=>none
theorem Ao{P:Program}{t:TypeId}{b:Bool}(h:Bd P t=some b)(w:World):(isAgg t).run P w=.ok b w:=by
 unfold Bd at h;unfold isAgg;cases hu:P.underlying t with
 |none=>simp[hu]at h
 |some d=>
  rw[Sem.run_bind,run_underlying hu w]
  rw[hu]at h
  cases d<;>simp_all
theorem Aw{P:Program}{t:TypeId}(hi:(P.info? t).isSome=true)(w:World):(sizeOf t).run P w=.ok (P.cellsOf t) w:=by
 cases hq:P.info? t with
 |none=>simp[hq]at hi
 |some i=>simp[sizeOf,typeInfo,hq,Program.cellsOf]

def aJn(P:Program)(t:TypeId)(cs:List D)(off:Nat):Option D:=
 match Bd P t,(P.info? t).isSome with
 |some true,true=>if off+P.cellsOf t<=cs.length then some (.agg ((cs.drop off).take (P.cellsOf t)))else none
 |some false,true=>cs[off]?
 |_,_=>none
theorem RK{P:Program}{h w}{t:TypeId}{cs:List D}{off:Nat}{x:D}{us:List Value}(he:aJn P t cs off=some x)(hr:RDs h w cs us):
 ∃u,(part t ⟨us⟩ off).run P w=.ok u w/\RD h w x u:=by
 unfold aJn at he
 split at he
 rename_i hA hI
 split at he
 rename_i hl
 simp only[oe]at he
 subst he
 refine⟨.agg ⟨(us.drop off).take (P.cellsOf t)⟩,?_,?_⟩
 simp[part,Sem.run_bind,Ao hA,Aw hI]
 simp only[RD]
 exact⟨_,rfl,(hr.drop off).take _⟩
 cases he
 rename_i hA hI
 obtain⟨u,hu,hr',_⟩:=hr.get off x he
 exact⟨u,by simp[part,Sem.run_bind,Ao hA,hu],hr'⟩
 cases he

def aO6(P:Program)(rec:TypeId->D->D->Option BX)(xs ys:List D):List Field->Option BX
 |[]=>some (.lit true)
 |f::fs=>
  if f.name≠ "_" then
   match aJn P f.type xs f.offset,aJn P f.type ys f.offset with
   |some a,some b=>match rec f.type a b,aO6 P rec xs ys fs with
    |some r,some r'=>some (.and r r')
    |_,_=>none
   |_,_=>none
  else aO6 P rec xs ys fs
def eqD(P:Program):Nat->TypeId->D->D->Option BX
 |0,_,_,_=>none
 |n+1,t,x,y=>match P.underlying t,x,y with
  |some (.int _),.v (.int k a),.v (.int k' b)=>if k=k' then some (.iEq a b)else none
  |some .bool,.v (.bool a),.v (.bool b)=>some (.bEq a b)
  |some .string,.v (.string a),.v (.string b)=>some (.sEq a b)
  |some (.struct fs),.agg xs,.agg ys=>if P.stoodInHeld t then none else aO6 P (eqD P n) xs ys fs.toList
  |_,_,_=>none

theorem Ch(a b:ByteArray):(a.toList==b.toList)=decide (a.data.toList=b.data.toList):=by rw[ByteArray.toList_eq,ByteArray.toList_eq];rw[Bool.eq_iff_iff];simp

theorem Ny{P:Program}{h:Hw}{w:World}(rec:TypeId->D->D->Option BX)(d:Nat)
 (hrec:∀t x y b u v,rec t x y=some b->RD h w x u->RD h w y v->(Op.equalIn d t u v).run P w=.ok b.val w)
 {xs ys:List D} {us vs:List Value} (hx:RDs h w xs us) (hy:RDs h w ys vs):
 ∀(fs:List Field) (b:BX),aO6 P rec xs ys fs=some b->(Op.eqFields d ⟨us⟩ ⟨vs⟩ fs).run P w=.ok b.val w
 |[],b,he=>by simp[aO6]at he;subst he;simp[Op.eqFields,BX.val]
 |f::fs,b,he=>by
  simp only[aO6]at he;simp only[Op.eqFields];split at he;rename_i hn;rw[if_pos hn];split at he;rename_i a c ha hc;split at he;rename_i r r' hr hr';simp only[oe]at he;obtain⟨u,hu,hru⟩:=RK ha hx;obtain⟨v,hv,hrv⟩:=RK hc hy;simp only[Sem.run_bind,hu,hv,Result.andThen_ok,hrec _ _ _ _ _ _ hr hru hrv];subst he;have hrest:=Ny rec d hrec hx hy fs _ hr';simp only[BX.val];cases hv':r.val;simp;simpa using hrest;cases he;cases he;rename_i hn;rw[if_neg hn];exact Ny rec d hrec hx hy fs b he

theorem aAo{P:Program}{h:Hw}{w:World}:∀(n d:Nat) (_:n<=d) (t:TypeId) (x y:D) (b:BX) (u v:Value),eqD P n t x y=some b->RD h w x u->RD h w y v->
 (Op.equalIn d t u v).run P w=.ok b.val w
 |0,d,_,t,x,y,b,u,v,he,_,_=>by simp[eqD]at he
 |n+1,0,hd,t,x,y,b,u,v,he,_,_=>by omega
 |n+1,d+1,hd,t,x,y,b,u,v,he,hx,hy=>by
  simp only[eqD]at he;split at he;rename_i ht;split at he;rename_i hk;subst hk;simp only[RD]at hx hy;obtain⟨rfl,_⟩:=hx;obtain⟨rfl,_⟩:=hy;simp only[oe]at he;rw[run_equalIn_int w d t _ _ _ _ ht,<-he];rfl;cases he;rename_i ht;simp only[RD]at hx hy;obtain⟨rfl,_⟩:=hx;obtain⟨rfl,_⟩:=hy;simp only[oe]at he;rw[run_equalIn_bool' w d t _ _ ht,<-he];rfl;rename_i ht;simp only[RD]at hx hy;obtain⟨rfl,_⟩:=hx;obtain⟨rfl,_⟩:=hy;simp only[oe]at he;rw[run_equalIn_string w d t _ _ ht,<-he,Ch];rfl;rename_i fs xs ys ht;split at he;cases he;rename_i hs;simp only[RD]at hx hy;obtain⟨us,rfl,hx⟩:=hx;obtain⟨vs,rfl,hy⟩:=hy;have hf:P.fieldsOf t=fs:=by simp[Program.fieldsOf,ht]
  rw[run_equalIn_struct w d t _ _ (by rw[hf];exact ht) (by simpa using hs),hf];exact Ny (eqD P n) d (fun t x y b u v h1 h2 h3=>aAo n d (by omega) t x y b u v h1 h2 h3) hx hy fs.toList b he;cases he

def Nw:Nat:=20
def aZn(P:Program)(op:BinOp)(t:TypeId)(x y:A)(wt:W):Option (Cn×A):=
 match x,y with
 | .d (.v (.int k a)),.d (.v (.int k' b))=>
  match op with
  | .shl=>some (aLd (.le 0 b) (IU k (.int .shl k a b) (fun _=>AB .shl k a b) wt))
  | .shr=>some (aLd (.le 0 b) (IU k (.int .shr k a b) (fun _=>AB .shr k a b) wt))
  |op=>if k=k' then aAu op k a b wt else none
 | .d (.v (.string a)),.d (.v (.string b))=>
  match op with
  | .add=>match wt with
   | .str l=>some (.sapp a b l,.d (.v (.string ⟨⟨l⟩⟩)))
   |_=>none
  | .eql=>some (JF (.sEq a b) wt)
  | .neq=>some (JF (.not (.sEq a b)) wt)
  | .lss=>some (JF (.sLt a b) wt)
  |_=>none
 | .d (.v (.bool a)),.d (.v (.bool b))=>
  match op,P.underlying t with
  | .eql,some .bool=>some (JF (.bEq a b) wt)
  | .neq,some .bool=>some (JF (.not (.bEq a b)) wt)
  |_,_=>none
 | .d (.agg xs),.d (.agg ys)=>
  if P.eqGuardType P.depth t then none else
  match op,eqD P Nw t (.agg xs) (.agg ys)with
  | .eql,some b=>some (JF b wt)
  | .neq,some b=>some (JF (.not b) wt)
  |_,_=>none
 |_,_=>none

theorem aNa{P:Program}{h:Hw}{w:World}{val:Val}{op:BinOp}{t:TypeId}{x y:A}{wt:W}{Φ:Cn}{r:A}{u v:Value}(he:aZn P op t x y wt=some (Φ,r))(hΦ:Φ.ok)
 (hx:RA h w val x u) (hy:RA h w val y v) (X Y:Operand):
 ∃z,(do eqGuard op t X Y u v;binOp op t u v:Sem Value).run P w=.ok z w/\RA h w val r z:=by
 unfold aZn at he
 split at he
 rename_i k a k' b
 simp only[RA,RD]at hx hy
 obtain⟨rfl,_⟩:=hx
 obtain⟨rfl,_⟩:=hy
 rw[eqGuard_at_int]
 simp only[Sem.run_bind,Sem.run_pure,Result.andThen_ok]
 split at he
 simp only[oe,aLd,pe]at he
 obtain⟨h1,h2⟩:=he
 rw[<-h1]at hΦ
 simp only[Cn.ok]at hΦ
 exact⟨_,by simp[binOp,Op.shift,Int.not_lt.2 hΦ.1];rfl,Bi (f:=.int .shl k a b) (v:=fun _=>AB .shl k a b) (fun n hn=>hn) (Prod.ext rfl h2) hΦ.2⟩
 simp only[oe,aLd,pe]at he
 obtain⟨h1,h2⟩:=he
 rw[<-h1]at hΦ
 simp only[Cn.ok]at hΦ
 exact⟨_,by simp[binOp,Op.shift,Int.not_lt.2 hΦ.1];rfl,Bi (f:=.int .shr k a b) (v:=fun _=>AB .shr k a b) (fun n hn=>hn) (Prod.ext rfl h2) hΦ.2⟩
 split at he
 rename_i hk
 subst hk
 exact aAv he hΦ
 cases he
 rename_i a b
 simp only[RA,RD]at hx hy
 obtain⟨rfl,_⟩:=hx
 obtain⟨rfl,_⟩:=hy
 rw[eqGuard_at_string]
 simp only[Sem.run_bind,Sem.run_pure,Result.andThen_ok]
 split at he
 split at he
 simp only[oe,pe]at he
 obtain⟨rfl,rfl⟩:=he
 simp only[Cn.ok]at hΦ
 exact⟨_,by simp only[binOp_string_add];exact run_string_add_sum (P:=P) w a b hΦ.1,by simp[RA,RD,Value.oneCell',hΦ.2]⟩
 cases he
 simp only[oe]at he
 exact⟨_,by simp only[binOp_string_eql,Sem.run_pure];rw[Ch];rfl,Bl he hΦ⟩
 simp only[oe]at he
 exact⟨_,by simp only[binOp_string_neq,Sem.run_pure];rw[Ch];rfl,Bl he hΦ⟩
 simp only[oe]at he
 exact⟨_,by simp only[binOp_string_lss,Sem.run_pure];rw[ByteArray.toList_eq,ByteArray.toList_eq];rfl,Bl he hΦ⟩
 cases he
 rename_i a b
 simp only[RA,RD]at hx hy
 obtain⟨rfl,_⟩:=hx
 obtain⟨rfl,_⟩:=hy
 rw[eqGuard_at_bool]
 simp only[Sem.run_bind,Sem.run_pure,Result.andThen_ok]
 split at he
 rename_i ht
 simp only[oe]at he
 exact⟨_,by simp[binOp,Op.equal,Op.maxDepth,run_equalIn_bool' w _ t a b ht,BX.val],Bl he hΦ⟩
 rename_i ht
 simp only[oe]at he
 exact⟨_,by simp[binOp,Op.equal,Op.maxDepth,run_equalIn_bool' w _ t a b ht,BX.val],Bl he hΦ⟩
 cases he
 rename_i xs ys
 split at he
 cases he
 rename_i hg
 simp only[RA]at hx hy
 split at he
 rename_i b hb
 simp only[oe]at he
 have hq:=aAo (P:=P) Nw 10000 (by decide) t _ _ b u v hb hx hy
 simp only[RD]at hx hy
 obtain⟨us,rfl,_⟩:=hx
 obtain⟨vs,rfl,_⟩:=hy
 exact⟨_,by simp only[Sem.run_bind,run_eqGuard_agg w .eql t X Y ⟨us⟩ ⟨vs⟩ (by simpa using hg),Result.andThen_ok,run_eql_struct,hq],Bl he hΦ⟩
 rename_i b hb
 simp only[oe]at he
 have hq:=aAo (P:=P) Nw 10000 (by decide) t _ _ b u v hb hx hy
 simp only[RD]at hx hy
 obtain⟨us,rfl,_⟩:=hx
 obtain⟨vs,rfl,_⟩:=hy
 exact⟨_,by simp only[Sem.run_bind,run_eqGuard_agg w .neq t X Y ⟨us⟩ ⟨vs⟩ (by simpa using hg),Result.andThen_ok,run_neq_struct,hq];rfl,Bl he hΦ⟩
 cases he
 cases he

def IO:List A->Option (List D)
 |[]=>some []
 | .d x::as'=>(IO as').map (x:: ·)
 | .nil::as'=>(IO as').map (.sl []:: ·)
 |_::_=>none
theorem KB{h w val}:∀{as':List A} {xs:List D} {us:List Value},IO as'=some xs->RAs h w val as' us->(∀u∈us,u.oneCell'=true)->RDs h w xs us
 |[],xs,us,he,hr,_=>by simp[IO]at he;subst he;simpa[RAs,RDs]using hr
 | .d x::as',xs,us,he,hr,h1=>by
  simp only[IO,om]at he;obtain⟨ys,h2,rfl⟩:=he;simp only[RAs,RA]at hr;obtain⟨u,us',rfl,a,b⟩:=hr;simp only[RDs];exact⟨u,us',rfl,a,h1 u (by simp),KB h2 b fun y hy=>h1 y (by simp[hy])⟩
 | .nil::as',xs,us,he,hr,h1=>by
  simp only[IO,om]at he;obtain⟨ys,h2,rfl⟩:=he;simp only[RAs,RA]at hr;obtain⟨u,us',rfl,a,b⟩:=hr;simp only[RDs];exact⟨u,us',rfl,by rw[a];exact Id h w,h1 u (by simp),KB h2 b fun y hy=>h1 y (by simp[hy])⟩
 | .box .. ::_,_,_,he,_,_=>by simp[IO]at he
 | .row .. ::_,_,_,he,_,_=>by simp[IO]at he
 | .eptr .. ::_,_,_,he,_,_=>by simp[IO]at he
 | .clo .. ::_,_,_,he,_,_=>by simp[IO]at he
 | .agg .. ::_,_,_,he,_,_=>by simp[IO]at he
 | .tup .. ::_,_,_,he,_,_=>by simp[IO]at he
 | .opq .. ::_,_,_,he,_,_=>by simp[IO]at he
 | .any::_,_,_,he,_,_=>by simp[IO]at he
theorem DB{h w val}:∀{xs:List D} {us:List Value},RDs h w xs us->RAs h w val (xs.map .d) us
 |[],us,hr=>by simpa[RAs,RDs]using hr
 |x::xs,us,hr=>by
  simp only[RDs]at hr;obtain⟨u,us',rfl,a,_,b⟩:=hr;simp only[List.map_cons,RAs,RA];exact⟨u,us',rfl,a,DB b⟩

def aT7(cs:List A):A:=
 match IO cs with
 |some xs=>.d (.agg xs)
 |none=>.agg cs
theorem OM{h w val}{cs:List A}{us:List Value}(hr:RAs h w val cs us)(h1:∀u∈us,u.oneCell'=true):RA h w val (aT7 cs) (.agg ⟨us⟩):=by unfold aT7;split;rename_i xs he;simp only[RA,RD];exact⟨us,rfl,KB he hr h1⟩;simp only[RA];exact⟨us,rfl,hr,h1⟩

def A.cells:A->Option (List A)
 | .d (.agg cs)=>some (cs.map .d)
 | .agg cs=>some cs
 | .tup _=>none
 | .opq _=>none
 | .any=>none
 |x=>some [x]
theorem A.cells_ok{h w val}{a:A}{cs:List A}{u:Value}(he:a.cells=some cs)(hr:RA h w val a u):RAs h w val cs u.cells.toList/\∀c∈u.cells.toList,c.oneCell'=true:=by
 unfold A.cells at he;split at he;simp only[oe]at he;subst he;simp only[RA]at hr;have:=RD.cells hr;exact⟨DB this.1,this.2⟩;simp only[oe]at he;subst he;simp only[RA]at hr;obtain⟨us,rfl,h1,h2⟩:=hr;exact⟨h1,h2⟩;cases he;cases he;cases he;simp only[oe]at he;subst he;rename_i hn1 hn2 hn3 hn4 hn5;cases a with
 |d x=>
  simp only[RA]at hr
  have hx:x.cells=[x]:=by cases x<;>first|rfl|exact absurd rfl (hn1 _)
  have:=RD.cells hr
  rw[hx]at this
  exact⟨DB (xs:=[x]) this.1,this.2⟩
 |box n off=>
  have hr0:=hr
  simp only[RA]at hr
  obtain⟨b,_,rfl⟩:=hr
  exact⟨by simp only[RAs,Value.cells];exact⟨_,[],rfl,hr0,rfl⟩,by simp[Value.cells,Value.oneCell']⟩
 |bsl n off l=>
  have hr0:=hr
  simp only[RA]at hr
  obtain⟨b,c,_,rfl,_⟩:=hr
  exact⟨by simp only[RAs,Value.cells];exact⟨_,[],rfl,hr0,rfl⟩,by simp[Value.cells,Value.oneCell']⟩
 |ep n k i off=>
  have hr0:=hr
  simp only[RA]at hr
  obtain⟨b,_,rfl⟩:=hr
  exact⟨by simp only[RAs,Value.cells];exact⟨_,[],rfl,hr0,rfl⟩,by simp[Value.cells,Value.oneCell']⟩
 |row n=>
  have hr0:=hr
  simp only[RA]at hr
  obtain⟨_,⟨ad,l,c,rfl⟩|⟨b,rfl⟩⟩:=hr
  exact⟨by simp only[RAs,Value.cells];exact⟨_,[],rfl,hr0,rfl⟩,by simp[Value.cells,Value.oneCell']⟩
  exact⟨by simp only[RAs,Value.cells];exact⟨_,[],rfl,hr0,rfl⟩,by simp[Value.cells,Value.oneCell']⟩
 |eptr cs=>
  have hr0:=hr
  simp only[RA]at hr
  obtain⟨b,us,rfl,_⟩:=hr
  exact⟨by simp only[RAs,Value.cells];exact⟨_,[],rfl,hr0,rfl⟩,by simp[Value.cells,Value.oneCell']⟩
 |clo f a b=>
  have hr0:=hr
  simp only[RA]at hr
  obtain⟨fs,us,rfl,_⟩:=hr
  exact⟨by simp only[RAs,Value.cells];exact⟨_,[],rfl,hr0,rfl⟩,by simp[Value.cells,Value.oneCell']⟩
 |agg cs=>exact absurd rfl (hn2 _)
 |tup vs=>exact absurd rfl (hn3 _)
 |opq a=>exact absurd rfl (hn4 _)
 |ub=>
  have hr0:=hr
  simp only[RA]at hr
  obtain⟨b,rfl⟩:=hr
  exact⟨by simp only[RAs,Value.cells];exact⟨_,[],rfl,hr0,rfl⟩,by simp[Value.cells,Value.oneCell']⟩
 |nil=>
  have hr0:=hr
  simp only[RA]at hr
  subst hr
  exact⟨by simp only[RAs,Value.cells];exact⟨_,[],rfl,hr0,rfl⟩,by simp[Value.cells,Value.oneCell']⟩
 |any=>exact absurd rfl (hn5)

theorem HL(a:Addr)(i j:Nat):(a.add i).add j=a.add (i+j):=by unfold Addr.add;by_cases hi:i=0<;>by_cases hj:j=0<;>simp[hi,hj,Nat.add_assoc]

def Hv(P:Program)(t:TypeId)(cs:List A)(off:Nat):Option A:=
 match Bd P t,(P.info? t).isSome with
 |some true,true=>if off+P.cellsOf t<=cs.length then some (aT7 ((cs.drop off).take (P.cellsOf t)))else none
 |some false,true=>cs[off]?
 |_,_=>none
theorem aJm{P:Program}{h w val}{t:TypeId}{cs:List A}{off:Nat}{x:A}{us:List Value}(he:Hv P t cs off=some x)(hr:RAs h w val cs us)(h1:∀u∈us,u.oneCell'=true):
 ∃u,(part t ⟨us⟩ off).run P w=.ok u w/\RA h w val x u:=by
 unfold Hv at he
 split at he
 rename_i hA hI
 split at he
 rename_i hl
 simp only[oe]at he
 subst he
 refine⟨.agg ⟨(us.drop off).take (P.cellsOf t)⟩,?_,?_⟩
 simp[part,Sem.run_bind,Ao hA,Aw hI]
 exact OM ((hr.drop off).take _) fun u hu=>h1 u (List.mem_of_mem_drop (List.mem_of_mem_take hu))
 cases he
 rename_i hA hI
 obtain⟨u,hu,hr'⟩:=hr.get off x he
 exact⟨u,by simp[part,Sem.run_bind,Ao hA,hu],hr'⟩
 cases he
theorem Dl{P:Program}{h w val}{t:TypeId}{cs:List A}{off:Nat}{x:A}{us:List Value}{a:Addr}(he:Hv P t cs off=some x)(hr:RAs h w val cs us)(h1:∀u∈us,u.oneCell'=true)
 (hc:∀j v,us[j]? =some v->w.cell? (a.add j)=some v):∃u,(loadVar t (a.add off)).run P w=.ok u w/\RA h w val x u:=by
 unfold Hv at he
 split at he
 rename_i hA hI
 split at he
 rename_i hl
 simp only[oe]at he
 subst he
 have hlen:((us.drop off).take (P.cellsOf t)).length=P.cellsOf t:=by have:=hr.length;simp;omega
 have hl':=run_loadCells_list (P:=P) w (a.add off) ((us.drop off).take (P.cellsOf t)) (fun j v hj=>by rw[HL];apply hc;rw[List.getElem?_take]at hj;split at hj;simpa[List.getElem?_drop]using hj;cases hj)
 rw[hlen]at hl'
 refine⟨.agg ⟨(us.drop off).take (P.cellsOf t)⟩,?_,?_⟩
 simp[loadVar,Sem.run_bind,Ao hA,Aw hI,hl']
 exact OM ((hr.drop off).take _) fun u hu=>h1 u (List.mem_of_mem_drop (List.mem_of_mem_take hu))
 cases he
 rename_i hA hI
 obtain⟨u,hu,hr'⟩:=hr.get off x he
 exact⟨u,by simp[loadVar,Sem.run_bind,Ao hA,hc off u hu],hr'⟩
 cases he

def Hc(P:Program)(t:TypeId)(f:Nat):Option Field:=
 match P.underlying t with
 |some (.struct fs)=>match fs[f]? with
  |some x=>if(P.info? x.type).isSome&&P.cellsOf x.type !=0 then some x else none
  |none=>none
 |_=>none
theorem JH{P:Program}{t:TypeId}{f:Nat}{x:Field}(he:Hc P t f=some x):
 ∃fs,P.underlying t=some (.struct fs)/\fs[f]? =some x/\(P.info? x.type).isSome=true/\P.cellsOf x.type≠0:=by
 unfold Hc at he
 split at he
 rename_i fs hu
 split at he
 rename_i y hy
 split at he
 rename_i hc
 simp only[oe]at he
 subst he
 simp only[ba,bne_iff_ne]at hc
 exact⟨fs,hu,hy,hc.1,hc.2⟩
 cases he
 cases he
 cases he
theorem EJ{P:Program}{w:World}{t:TypeId}{f:Nat}{x:Field}(he:Hc P t f=some x)(a:Addr):
 (Instr.fieldAt t (.pointer (some a)) f).run P w=.ok (.pointer (some (a.add x.offset))) w:=by
 obtain⟨fs,hu,hy,hi,hc⟩:=JH he
 simp[Instr.fieldAt,Sem.run_bind,run_underlying hu,hy,Instr.sureAddr,fieldPlace,Aw hi,hc]


def Ck(P:Program)(t:TypeId):Option TypeId:=
 match P.underlying t with
 |some (.slice e)=>if(P.info? e).isSome&&P.cellsOf e !=0 then some e else none
 |_=>none
theorem CN{P:Program}{t e:TypeId}(he:Ck P t=some e):P.underlying t=some (.slice e)/\(P.info? e).isSome=true/\P.cellsOf e≠0:=by unfold Ck at he;split at he;rename_i hu;split at he;rename_i hc;simp only[oe]at he;subst he;simp only[ba,bne_iff_ne]at hc;exact⟨hu,hc.1,hc.2⟩;cases he;cases he

theorem RD.index{P:Program}{h:Hw}{w:World}{val:Val}{t e:TypeId}{xs:List D}{u:Value}{k:IntKind}{i:Int}{y:D}(hr:RD h w (.sl xs) u)(he:Ck P t=some e)
 (hi:0<=i) (hy:xs[i.toNat]? =some y) (hk:y.nc=P.cellsOf e):∃p,(Instr.indexAt t u (.int k i)).run P w=.ok p w/\RA h w val (.eptr y.cells) p:=by
 obtain⟨hu,hI,hC⟩:=CN he
 simp only[RD]at hr
 obtain⟨ad,cap,k',us,rfl,hl,hm,hrow,hc⟩:=hr
 have hlt:i.toNat<xs.length:=by
  rcases Nat.lt_or_ge i.toNat xs.length with h|h
  exact h;rw[List.getElem?_eq_none h]at hy;cases hy
 obtain⟨a,rfl,hcell⟩:=hc (by omega)
 obtain⟨u,hu',hs,hnc,hget⟩:=hrow.get _ _ hy
 have hk':k'=P.cellsOf e:=by omega
 subst hk'
 refine⟨.pointer (some (a.add (i.toNat*P.cellsOf e))),?_,?_⟩
 have:(i:Int)<xs.length:=by omega
 simp[Instr.indexAt,Sem.run_bind,run_underlying hu,asIntOf,hi,this,Aw hI]
 simp only[RA]
 refine⟨_,u.cells.toList,rfl,hu'.cells.1,fun j v hj=>?_⟩
 have hjl:j<P.cellsOf e:=by
  rcases Nat.lt_or_ge j u.cells.toList.length with h|h
  simpa[hs]using h;rw[List.getElem?_eq_none h]at hj;cases hj
 have:=hcell (i.toNat*P.cellsOf e+j) v (by rw[hget j hjl];simpa using hj)
 rw[HL,Bo,C2,Nat.add_assoc]
 exact this

theorem RD.sub{P:Program}{h:Hw}{w:World}{t e:TypeId}{xs:List D}{u:Value}(hr:RD h w (.sl xs) u)(_:Ck P t=some e)
 (l hh:Nat) (h1:l<=hh) (h2:hh<=xs.length) (hk:∀y∈xs,y.nc=P.cellsOf e):
 ∃a n c,u=.slice a n c/\n=xs.length/\n<=c/\RD h w (.sl ((xs.take hh).drop l)) (.slice (if c=l then a else a.map (·.add (l*P.cellsOf e))) (hh-l) (c-l)):=by
 simp only[RD]at hr
 obtain⟨ad,cap,k',us,rfl,hl,hm,hrow,hc⟩:=hr
 refine⟨ad,_,cap,rfl,rfl,hl,?_⟩
 simp only[RD]
 have hlen:((xs.take hh).drop l).length=hh-l:=by simp;omega
 refine⟨_,cap-l,k',(us.take (hh*k')).drop (l*k'),by rw[hlen],by rw[hlen];omega,by omega,(hrow.take hh).drop l,fun h0=>?_⟩
 rw[hlen]at h0
 obtain⟨a,rfl,hcell⟩:=hc (by omega)
 have hk':k'=P.cellsOf e:=by
  cases xs with
  |nil=>simp at h2;omega
  |cons x xs=>rw[<-hk x (by simp)];exact(hrow.mk x (by simp)).symm
 subst hk'
 rw[if_neg (by omega)]
 refine⟨_,rfl,fun j v hj=>?_⟩
 have hj':us[l*P.cellsOf e+j]? =some v:=by rw[List.getElem?_drop,List.getElem?_take]at hj;split at hj;exact hj;cases hj
 have:=hcell _ v hj'
 rw[HL,Bo,C2,Nat.add_assoc]
 exact this

def JR:Option A->Int->Option Int
 |none,d=>some d
 |some (.d (.v (.int _ i))),_=>some i
 |_,_=>none

def Fs:A->Bool
 | .box _ _=>true
 | .eptr _=>true
 | .opq a=>Fs a
 |_=>false
theorem Ka{h w}:∀{val:Val} {a:A} {u:Value},Fs a=true->RA h w val a u->∃p,u=.pointer (some p)
 |val,.box n off,u,_,hr=>by simp only[RA]at hr;obtain⟨b,_,rfl⟩:=hr;exact⟨_,rfl⟩
 |val,.eptr cs,u,_,hr=>by simp only[RA]at hr;obtain⟨b,_,rfl,_⟩:=hr;exact⟨_,rfl⟩
 |val,.opq a,u,hp,hr=>by simp only[RA]at hr;exact Ka (a:=a) (by simpa[Fs]using hp) hr
 |val,.d _,u,hp,hr=>by simp[Fs]at hp
 |val,.row _,u,hp,hr=>by simp[Fs]at hp
 |val,.clo ..,u,hp,hr=>by simp[Fs]at hp
 |val,.agg _,u,hp,hr=>by simp[Fs]at hp
 |val,.tup _,u,hp,hr=>by simp[Fs]at hp
 |val,.nil,u,hp,hr=>by simp[Fs]at hp
 |val,.any,u,hp,hr=>by simp[Fs]at hp

def HV(x:A)(wt:W):Cn×A:=
 match x,wt with
 | .d (.v (.bool b)),.bit c=>(.eq (.lit b) c,bo c)
 |x,_=>(.t,x)
theorem CZ{h w val}{x:A}{wt:W}{Φ:Cn}{r:A}{u:Value}(he:HV x wt=(Φ,r))(hΦ:Φ.ok)(hr:RA h w val x u):RA h w val r u:=by unfold HV at he;split at he;simp only[pe]at he;obtain⟨rfl,rfl⟩:=he;simp only[Cn.ok]at hΦ;subst hΦ;exact hr;simp only[pe]at he;obtain⟨_,rfl⟩:=he;exact hr

def Lr:A->Bool
 | .d (.v (.pointer none))=>true
 |_=>false
theorem Hj{h w val}{a:A}{u:Value}(hp:Lr a=true)(hr:RA h w val a u):u=.pointer none:=by unfold Lr at hp;split at hp;simp only[RA,RD]at hr;exact hr.1;cases hp
def aAw:A->Bool
 | .d (.agg _)=>true
 | .agg _=>true
 |_=>false
theorem aAx{h w val}{a:A}{u:Value}(hp:aAw a=true)(hr:RA h w val a u):∃us,u=.agg ⟨us⟩:=by unfold aAw at hp;split at hp;simp only[RA,RD]at hr;obtain⟨us,e,_⟩:=hr;exact⟨us,e⟩;simp only[RA]at hr;obtain⟨us,e,_⟩:=hr;exact⟨us,e⟩;cases hp

def aT6:Option A->Option (Option Int)
 |none=>some none
 |some (.d (.v (.int _ n)))=>some (some n)
 |_=>none
theorem RH{x:Option A}{oh:Option Int}(h:aT6 x=some oh)(d:Int):JR x d=some (oh.getD d):=by unfold aT6 at h;split at h;simp only[oe]at h;subst h;rfl;simp only[oe]at h;subst h;rfl;cases h
def aOz:A->A
 | .d (.ptr cs)=>.eptr cs
 |x=>x
theorem aJ6{h w val}{x:A}{u:Value}(hr:RA h w val x u):RA h w val (aOz x) u:=by unfold aOz;split;simpa only[RA,RD]using hr;exact hr
def Nl(P:Program)(o:Oper)(ev rd:Operand->A)(wt:W):Option (Cn×A):=
 match o.op with
 | .move x=>some (HV (ev x) wt)
 | .assign x=>some (HV (ev x) wt)
 | .pick c a b=>match ev c with
  | .d (.v (.bool true))=>some (HV (ev a) wt)
  | .d (.v (.bool false))=>some (HV (ev b) wt)
  |_=>none
 | .nilCheck x=>match ev x with
  | .clo f a b=>if f matches .func _ then some (.t,.clo f a b)else none
  | .opq (.clo f a b)=>if f matches .func _ then some (.t,.opq (.clo f a b))else none
  |y=>if Fs y then some (.t,y)else none
 | .binOp op t x y _=>
  if Fs (ev x)&&Lr (ev y)then
   match op,P.underlying t with
   | .eql,some (.pointer _)=>some (JF (.lit false) wt)
   | .neq,some (.pointer _)=>some (JF (.lit true) wt)
   |_,_=>none
  else if Lr (ev x)&&Lr (ev y)then
   match op,P.underlying t with
   | .eql,some (.pointer _)=>some (JF (.lit true) wt)
   | .neq,some (.pointer _)=>some (JF (.lit false) wt)
   |_,_=>none
  else aZn P op t (rd x) (rd y) wt
 | .unOp op _ x=>match op,ev x with
  | .not,.d (.v (.bool b))=>some (JF (.not (.lit b)) wt)
  | .neg,.d (.v (.int k n))=>some (IU k (.int .sub k 0 n) (fun _=>AB .sub k 0 n) wt)
  |_,_=>none
 | .convert src dst x=>match P.underlying src,P.underlying dst,rd x with
  |some _,some (.int k),.d (.v (.int _ n))=>some (IU k (.wrap k n) (fun _=>k.wrap n) wt)
  |some .string,some .string,.d (.v (.string s))=>some (.t,.d (.v (.string s)))
  |some (.slice e),some .string,.d (.sl xs)=>match P.underlying e,wt with
   |some (.int .u8),.str l=>some (.bytes xs l,.d (.v (.string ⟨⟨l⟩⟩)))
   |_,_=>none
  |_,_,_=>none
 | .makeFunc fn first captured=>some (.t,.clo fn (first.toList.map rd) (captured.toList.map rd))
 | .extract t i=>match ev t with
  | .tup vs=>vs[i]?.map fun v=>HV v wt
  |_=>none
 | .field t x f=>match Hc P t f,(rd x).cells with
  |some fd,some cs=>if aAw (rd x)then(Hv P fd.type cs fd.offset).map fun v=>HV v wt else none
  |_,_=>none
 | .fieldAddr t x f=>match Hc P t f,ev x with
  |some fd,.box n off=>some (.t,.box n (off+fd.offset))
  |some fd,.ep n k i off=>some (.t,.ep n k i (off+fd.offset))
  |some fd,.eptr cs=>some (.t,.eptr (cs.drop fd.offset))
  |_,_=>none
 | .indexAddr t x i=>match Ck P t,rd x,ev i,wt with
  |some e,.d (.sl xs),.d (.v (.int _ i)),.el y=>if y.nc==P.cellsOf e then some (.elem xs i y,.eptr y.cells)else none
  |_,_,_,_=>none
 | .index t x i=>match P.underlying t,ev x,ev i,wt with
  |some .string,.d (.v (.string s)),.d (.v (.int _ i)),.int n=>some (.byte s i n,it .u8 n)
  |_,_,_,_=>none
 | .slice t x lo hi none=>match P.underlying t,rd x with
  |some (.slice _),.d (.sl xs)=>match Ck P t,JR (lo.map ev) 0,aT6 (hi.map ev),wt with
   |some e,some l,some oh,.sl ys=>some (.cut xs l oh ys (P.cellsOf e),.d (.sl ys))
   |_,_,_,_=>none
  |some .string,.d (.v (.string s))=>match JR (lo.map ev) 0,aT6 (hi.map ev),wt with
   |some l,some oh,.str ys=>some (.scut s l oh ys,.d (.v (.string ⟨⟨ys⟩⟩)))
   |_,_,_=>none
  |_,_=>none
 | .load t x=>match ev x with
  | .eptr cs=>(Hv P t (cs.map .d) 0).map fun v=>HV (aOz v) wt
  |_=>none
 | .call c=>match c.callee,c.args.toList,c.argTypes.toList with
  | .builtin .len,[x],[t]=>match P.underlying t,rd x with
   |some (.slice _),.d (.sl xs)=>some (IU .i64 (.len xs) (fun _=>xs.length) wt)
   |some .string,.d (.v (.string s))=>some (IU .i64 (.slen s) (fun _=>s.size) wt)
   |_,_=>none
  | .builtin .min,[x,y],_=>match ev x,ev y with
   | .d (.v (.int k a)),.d (.v (.int _ b))=>some (IU k (.min a b) (fun _=>if b<a then b else a) wt)
   |_,_=>none
  | .builtin .max,[x,y],_=>match ev x,ev y with
   | .d (.v (.int k a)),.d (.v (.int _ b))=>some (IU k (.max a b) (fun _=>if a<b then b else a) wt)
   |_,_=>none
  |_,_,_=>none
 |_=>none


theorem Lg:∀(l acc:List UInt8),(l.map fun b=>(b.toNat:Int)).foldl (fun(r:ByteArray) n=>r.push (UInt8.ofNat n.toNat)) ⟨⟨acc⟩⟩=⟨⟨acc++l⟩⟩
 |[],acc=>by simp
 |b::l,acc=>by
  simp only[List.map_cons,List.foldl_cons];have:(ByteArray.mk ⟨acc⟩).push (UInt8.ofNat (b.toNat:Int).toNat)=⟨⟨acc++[b]⟩⟩:=by simp[ByteArray.push]
  rw[this,Lg l (acc++[b])];simp

section
variable {P:Program} {h:Hw} {w:World} {val:Val}

theorem aB7{xs:List D}{u:Value}{l:List UInt8}(hr:RD h w (.sl xs) u)(hx:xs=l.map AY):(Conv.bytesToString u).run P w=.ok (.string ⟨⟨l⟩⟩) w:=by
 subst hx;simp only[RD]at hr;obtain⟨ad,cap,k,us,rfl,hl,hm,hrow,hc⟩:=hr;have hus:us=l.map fun b=>Value.int .u8 (b.toNat:Int):=by
  clear hc hl hm;induction l generalizing us with
  |nil=>simpa[Ah]using hrow
  |cons b l ih=>
   simp only[List.map_cons,Ah,AY,RD]at hrow
   obtain⟨u,us',rfl,_,_,⟨rfl,_⟩,_,h5⟩:=hrow
   simp only[Value.cells,List.map_cons]
   rw[ih us' h5]
   rfl
 cases ad with
 |none=>
  have h0:l=[]:=by
   cases l with
   |nil=>rfl
   |cons b l=>obtain⟨a,ha,_⟩:=hc (by simp);cases ha
  subst h0
  simp[Conv.bytesToString];rfl
 |some a=>
  have hcell:∀j v,us[j]? =some v->w.cell? (a.add j)=some v:=by
   intro j v hj;rcases Nat.eq_zero_or_pos l.length with h0|h0
   have hl0:l=[]:=List.eq_nil_of_length_eq_zero h0;subst hl0;subst hus;simp at hj;obtain⟨a',ha,hcell⟩:=hc (by simpa using h0);cases ha;exact(hcell j v hj).1
  have hl':=run_loadCells_list (P:=P) w a us hcell
  have:=run_bytesToString (P:=P) w a us.length cap (l.map fun b=>(b.toNat:Int)) (by rw[hl',hus];simp[Function.comp_def])
  have he:us.length=(l.map AY).length:=by rw[hus];simp
  rw[he]at this
  rw[this]
  have hf:=Lg l []
  simp only[List.nil_append]at hf
  congr 2

theorem Ej{val:Val}{f:Operand->A}{ρ:Operand->Value}(hρ:∀x,RA h w val (f x) (ρ x)){x:Option Operand}{d i:Int}(he:JR (x.map f) d=some i):
 (x=none/\i=d)\/∃y k,x=some y/\ρ y=.int k i:=by
 cases x with
 |none=>simp[JR]at he;exact .inl ⟨rfl,he.symm⟩
 |some y=>
  simp only[Option.map_some,JR]at he
  split at he
  rename_i e;simp at e
  rename_i d' k' i' e
  simp only[oe]at e he
  subst he
  have:=hρ y
  rw[e]at this
  simp only[RA,RD]at this
  exact .inr ⟨y,_,rfl,this.1⟩
  cases he
end

theorem D0{h w val}{f:Operand->A}{ρ:Operand->Value}(hρ:∀x,RA h w val (f x) (ρ x)):∀l:List Operand,RAs h w val (l.map f) (l.map ρ)
 |[]=>by simp[RAs]
 |x::l=>by simp only[List.map_cons,RAs];exact⟨_,_,rfl,hρ x,D0 hρ l⟩

theorem aIk{P:Program}{h:Hw}{w:World}{val:Val}{o:Oper}{ev rd:Operand->A}{wt:W}{Φ:Cn}{r:A}{ρ:Operand->Value}
 (hev:∀x,RA h w val (ev x) (ρ x)) (hrd:∀x,RA h w val (rd x) (ρ x)) (he:Nl P o ev rd wt=some (Φ,r)) (hΦ:Φ.ok):
 ∃u,(execOp ρ o).run P w=.ok (.value u) w/\RA h w val r u:=by
 obtain⟨dst,op,type,pos,after,guard⟩:=o
 unfold Nl at he
 unfold execOp
 cases op<;>simp only at he<;>simp only
 case move x=>simp only[oe]at he;exact⟨_,rfl,CZ he hΦ (hev x)⟩
 case assign x=>simp only[oe]at he;exact⟨_,rfl,CZ he hΦ (hev x)⟩
 case pick c a b=>
  split at he
  rename_i hc
  simp only[oe]at he
  have:=hev c
  rw[hc]at this
  simp only[RA,RD]at this
  exact⟨_,by simp[this.1,asBool],CZ he hΦ (hev a)⟩
  rename_i hc
  simp only[oe]at he
  have:=hev c
  rw[hc]at this
  simp only[RA,RD]at this
  exact⟨_,by simp[this.1,asBool],CZ he hΦ (hev b)⟩
  cases he
 case nilCheck x=>
  split at he
  rename_i f a b hx
  split at he
  cases he
  have hh:=hev x
  rw[hx]at hh
  have hh0:=hh
  simp only[RA]at hh
  obtain⟨fs,cs,e,_⟩:=hh
  refine⟨ρ x,?_,hh0⟩
  rw[e]
  rfl
  cases he
  rename_i f a b hx
  split at he
  cases he
  have hh:=hev x
  rw[hx]at hh
  have hh0:=hh
  simp only[RA]at hh
  obtain⟨fs,cs,e,_⟩:=hh
  refine⟨ρ x,?_,hh0⟩
  rw[e]
  rfl
  cases he
  split at he
  rename_i hp
  simp only[oe,pe]at he
  obtain⟨_,rfl⟩:=he
  obtain⟨p,e⟩:=Ka hp (hev x)
  refine⟨ρ x,?_,hev x⟩
  rw[e]
  rfl
  cases he
 case binOp op t x y yt=>
  split at he
  rename_i hp
  simp only[ba]at hp
  obtain⟨p,ex⟩:=Ka hp.1 (hev x)
  have ey:=Hj hp.2 (hev y)
  rw[ex,ey,eqGuard_at_pointer]
  split at he
  rename_i el ht
  simp only[oe]at he
  have hq:P.underlying t=some (.pointer (P.pointee t)):=by simp[Program.pointee,ht]
  exact⟨_,by simp[run_eql_pointer_nil w t (some p) hq,BX.val],Bl he hΦ⟩
  rename_i el ht
  simp only[oe]at he
  have hq:P.underlying t=some (.pointer (P.pointee t)):=by simp[Program.pointee,ht]
  exact⟨_,by simp[run_neq_pointer_nil w t (some p) hq,BX.val],Bl he hΦ⟩
  cases he
  split at he
  rename_i hp
  simp only[ba]at hp
  rw[Hj hp.1 (hev x),Hj hp.2 (hev y),eqGuard_at_pointer]
  split at he
  rename_i el ht
  simp only[oe]at he
  have hq:P.underlying t=some (.pointer (P.pointee t)):=by simp[Program.pointee,ht]
  exact⟨_,by simp[run_eql_pointer_nil w t none hq,BX.val],Bl he hΦ⟩
  rename_i el ht
  simp only[oe]at he
  have hq:P.underlying t=some (.pointer (P.pointee t)):=by simp[Program.pointee,ht]
  exact⟨_,by simp[run_neq_pointer_nil w t none hq,BX.val],Bl he hΦ⟩
  cases he
  obtain⟨z,h1,h2⟩:=aNa (X:=x) (Y:=y) he hΦ (hrd x) (hrd y)
  refine⟨z,?_,h2⟩
  simp only[Sem.run_bind]at h1⊢
  rw[h1]
  rfl
 case unOp op xt x=>
  split at he
  rename_i b hx
  have ex:=hev x
  rw[hx]at ex
  simp only[RA,RD]at ex
  rw[ex.1]
  simp only[oe]at he
  exact⟨_,by simp[Op.unary,BX.val],Bl he hΦ⟩
  rename_i k n hx
  have ex:=hev x
  rw[hx]at ex
  simp only[RA,RD]at ex
  rw[ex.1]
  simp only[oe]at he
  exact⟨_,by simp[Op.unary,Op.intArith,AB],Bi (f:=.int .sub k 0 n) (v:=fun _=>AB .sub k 0 n) (fun n hn=>hn) he hΦ⟩
  cases he
 case convert src dst x=>
  have ex:=hrd x
  split at he
  rename_i ds k k' n hs hd hx
  rw[hx]at ex
  simp only[RA,RD]at ex
  rw[ex.1]
  simp only[oe]at he
  exact⟨_,by simp[convert,Sem.run_bind,run_underlying hs,run_underlying hd,Conv.intToInt],Bi (f:=.wrap k n) (v:=fun _=>k.wrap n) (fun n hn=>hn) he hΦ⟩
  rename_i s hs hd hx
  rw[hx]at ex
  have ex0:=ex
  simp only[RA,RD]at ex
  simp only[oe,pe]at he
  obtain⟨_,rfl⟩:=he
  refine⟨ρ x,?_,ex0⟩
  rw[ex.1]
  simp[convert,Sem.run_bind,run_underlying hs,run_underlying hd]
  rename_i e xs hs hd hx
  rw[hx]at ex
  simp only[RA]at ex
  split at he
  rename_i l hel
  simp only[oe,pe]at he
  obtain⟨rfl,rfl⟩:=he
  try simp only[Cn.ok]at hΦ
  have hb:=aB7 (P:=P) ex hΦ
  refine⟨_,?_,by simp only[RA,RD];exact⟨rfl,rfl⟩⟩
  have:∃ad n c,ρ x=.slice ad n c:=by simp only[RD]at ex;obtain⟨ad,cap,k,us,e,_⟩:=ex;exact⟨_,_,_,e⟩
  obtain⟨ad,n,c,e⟩:=this
  rw[e]at hb⊢
  simp[convert,Sem.run_bind,run_underlying hs,run_underlying hd,run_underlying hel,hb]
  cases he
  cases he
 case makeFunc fn first captured=>
  simp only[oe,pe]at he
  obtain⟨_,rfl⟩:=he
  refine⟨.func fn (first.map ρ) (captured.map ρ),rfl,?_⟩
  simp only[RA]
  refine⟨first.toList.map ρ,captured.toList.map ρ,?_,D0 hrd _,D0 hrd _⟩
  congr 1<;>(apply Array.ext';simp)
 case extract t i=>
  split at he
  rename_i vs ht
  have hh:=hev t
  rw[ht]at hh
  simp only[RA]at hh
  obtain⟨us,e,hr⟩:=hh
  simp only[om]at he
  obtain⟨v,hv,he⟩:=he
  obtain⟨u,hu,hr'⟩:=hr.get i v hv
  rw[e]
  exact⟨u,by simp[Instr.extract,hu],CZ he hΦ hr'⟩
  cases he
 case field t x f=>
  split at he
  rename_i fd cs hf hc
  split at he
  rename_i hag
  simp only[om]at he
  obtain⟨v,hv,he⟩:=he
  obtain⟨fs,hu,hy,_,_⟩:=JH hf
  have hx:=hrd x
  have hcs:=A.cells_ok hc hx
  obtain⟨us,e⟩:=aAx hag hx
  rw[e]at hcs⊢
  obtain⟨u,h1,h2⟩:=aJm (P:=P) hv hcs.1 hcs.2
  simp only[Value.cells]at h1
  exact⟨u,by simp[Instr.field,Sem.run_bind,run_underlying hu,hy,asAgg,h1],CZ he hΦ h2⟩
  cases he
  cases he
 case fieldAddr t x f=>
  split at he
  rename_i fd n off hf hx
  have hh:=hev x
  rw[hx]at hh
  simp only[RA]at hh
  obtain⟨b,h1,h2⟩:=hh
  rw[h2]
  simp only[oe,pe]at he
  obtain⟨_,rfl⟩:=he
  refine⟨_,by simp only[Sem.run_bind,EJ hf];rfl,?_⟩
  simp only[RA]
  exact⟨b,h1,by rw[Addr.add_lit]⟩
  rename_i fd n k i off hf hx
  have hh:=hev x
  rw[hx]at hh
  simp only[RA]at hh
  obtain⟨b,h1,h2⟩:=hh
  rw[h2]
  simp only[oe,pe]at he
  obtain⟨_,rfl⟩:=he
  refine⟨_,by simp only[Sem.run_bind,EJ hf];rfl,?_⟩
  simp only[RA]
  exact⟨b,h1,by rw[Addr.add_lit,Nat.add_assoc]⟩
  rename_i fd cs hf hx
  have hh:=hev x
  rw[hx]at hh
  simp only[RA]at hh
  obtain⟨a,us,h1,h2,h3⟩:=hh
  rw[h1]
  simp only[oe,pe]at he
  obtain⟨_,rfl⟩:=he
  refine⟨_,by simp only[Sem.run_bind,EJ hf];rfl,?_⟩
  simp only[RA]
  refine⟨_,us.drop fd.offset,rfl,h2.drop _,fun j v hj=>?_⟩
  rw[List.getElem?_drop]at hj
  have:=h3 _ v hj
  rw[HL,Bo,C2,Nat.add_assoc]
  exact this
  cases he
 case indexAddr t x i=>
  split at he
  rename_i e xs k i' y hel hx hi
  split at he
  rename_i hk
  simp only[oe,pe]at he
  obtain⟨rfl,rfl⟩:=he
  try simp only[Cn.ok]at hΦ
  have hh:=hrd x
  rw[hx]at hh
  simp only[RA]at hh
  have hi':=hev i
  rw[hi]at hi'
  simp only[RA,RD]at hi'
  rw[hi'.1]
  obtain⟨p,h1,h2⟩:=RD.index (P:=P) (val:=val) (k:=k) hh hel hΦ.1 hΦ.2 (by simpa using hk)
  exact⟨p,by simp[h1],h2⟩
  cases he
  cases he
 case index t x i=>
  split at he
  rename_i s k i' c' ht hx hi
  simp only[oe,pe]at he
  obtain⟨rfl,rfl⟩:=he
  try simp only[Cn.ok]at hΦ
  obtain⟨hΦ1,c,hΦ2,hΦ3⟩:=hΦ
  have hΦ:=And.intro hΦ1 hΦ2
  subst hΦ3
  have hh:=hev x
  rw[hx]at hh
  simp only[RA,RD]at hh
  have hi':=hev i
  rw[hi]at hi'
  simp only[RA,RD]at hi'
  rw[hi'.1,hh.1]
  have hlt:i'.toNat<s.size:=by
   rcases Nat.lt_or_ge i'.toNat s.data.toList.length with h|h
   simpa using h;rw[List.getElem?_eq_none h]at hΦ;cases hΦ.2
  have hg:s[i'.toNat]=c:=by have h2:=hΦ.2;rw[List.getElem?_eq_getElem (by simpa using hlt)]at h2;simp only[oe]at h2;rw[<-h2];rfl
  refine⟨_,?_,aC2 _ _⟩
  rw[Sem.run_bind,run_index_string w t s k i' ht,dif_pos ⟨hΦ.1,by omega⟩,hg]
  rfl
  cases he
 case slice t x lo hi mx=>
  cases mx with
  |some m=>cases he
  |none=>
   simp only at he
   split at he
   rename_i e0 xs ht hx
   split at he
   rename_i e l oh ys hel hl hhi0
   simp only[oe,pe]at he
   obtain⟨rfl,rfl⟩:=he
   try simp only[Cn.ok]at hΦ
   obtain⟨p1,p2,p3,p4,p5⟩:=hΦ
   subst p5
   have hhi:=RH hhi0 xs.length
   generalize oh.getD (xs.length:Int)=hh at*
   have hx':=hrd x
   rw[hx]at hx'
   simp only[RA]at hx'
   obtain⟨hu,hI,_⟩:=CN hel
   have hP:P.elem t=e:=by simp[Program.elem,hu]
   obtain⟨a,n,c,e1,e2,e3,hr⟩:=RD.sub (P:=P) hx' hel l.toNat hh.toNat (by omega) (by omega) p4
   have hq:P.underlying t=some (.slice (P.elem t)):=by rw[hP];exact hu
   have hsz:=fun w=>Aw (P:=P) hI w
   rw[e1]
   refine⟨_,?_,by simp only[RA];exact hr⟩
   rw[Sem.run_bind,run_sliceAt_slice w t _ _ _ _ hq]
   rcases Ej hev hl with⟨rfl,rfl⟩|⟨y,k,rfl,hy⟩<;>rcases Ej hev hhi with⟨rfl,rfl⟩|⟨y',k',rfl,hy'⟩
   simp only[Option.map_none,run_slice_all w t a n c hq,hP,hsz,Result.andThen_ok,sliced]
   simp[e2]
   simp only[Option.map_none,Option.map_some,hy',run_slice_h w t a n c hq k' hh (by omega) (by omega),hP,hsz,Result.andThen_ok,sliced]
   simp
   simp only[Option.map_none,Option.map_some,hy,run_slice_l w t a n c hq k l (by omega) (by omega),hP,hsz,Result.andThen_ok,sliced]
   simp[e2]
   rw[Option.map_some,Option.map_some,Option.map_none,hy,hy',run_slice_lh w t a n c hq k k' l hh (by omega) (by omega) (by omega),hP,hsz]
   simp[sliced]
   cases he
   rename_i s ht hx
   split at he
   rename_i l oh ys hl hhi0
   simp only[oe,pe]at he
   obtain⟨rfl,rfl⟩:=he
   try simp only[Cn.ok]at hΦ
   obtain⟨p1,p2,p3,p4⟩:=hΦ
   rw[<-p4]
   have hhi:=RH hhi0 s.size
   generalize oh.getD (s.size:Int)=hh at*
   have hx':=hrd x
   rw[hx]at hx'
   simp only[RA,RD]at hx'
   rw[hx'.1]
   refine⟨_,?_,by simp only[RA,RD];exact⟨rfl,rfl⟩⟩
   rw[Sem.run_bind,run_sliceAt_string w t _ _ _ _ ht]
   rcases Ej hev hl with⟨rfl,rfl⟩|⟨y,k,rfl,hy⟩<;>rcases Ej hev hhi with⟨rfl,rfl⟩|⟨y',k',rfl,hy'⟩
   simp only[Option.map_none,run_slice_string_all w t s ht,Result.andThen_ok]
   simp
   simp only[Option.map_none,Option.map_some,hy',run_slice_string_h w t s ht k' hh (by omega) (by omega),Result.andThen_ok]
   simp
   simp only[Option.map_none,Option.map_some,hy,run_slice_string_l w t s ht k l (by omega) (by omega),Result.andThen_ok]
   simp
   simp only[Option.map_some,hy,hy']
   have eh:(hh.toNat:Int)=hh:=Int.toNat_of_nonneg (by omega)
   simp[Instr.slice,run_underlying ht,Instr.sliceBounds,run_sliceBound, *,(by omega:0<=hh)]
   cases he
   cases he
 case load t x=>
  split at he
  rename_i cs hx
  have hh:=hev x
  rw[hx]at hh
  simp only[RA]at hh
  obtain⟨a,us,h1,h2,h3⟩:=hh
  rw[h1]
  simp only[om]at he
  obtain⟨v,hv,he⟩:=he
  obtain⟨u,g1,g2⟩:=Dl (P:=P) (val:=val) hv (DB h2) h2.one (fun j v hj=>(h3 j v hj).1)
  rw[Addr.add_zero']at g1
  exact⟨u,by simp[Instr.loadAt,Instr.sureAddr,g1],CZ he hΦ (aJ6 g2)⟩
  cases he
 case call c=>
  obtain⟨callee,args,argTypes⟩:=c
  simp only at he
  split at he
  rename_i x t hargs htys
  obtain⟨args⟩:=args
  obtain⟨argTypes⟩:=argTypes
  simp only at hargs htys
  subst hargs;subst htys
  split at he
  rename_i e xs ht hx
  have hh:=hrd x
  rw[hx]at hh
  simp only[RA,RD]at hh
  obtain⟨ad,cap,k,us,e1,_⟩:=hh
  simp only[oe]at he
  have hq:P.underlying t=some (.slice (P.elem t)):=by simp[Program.elem,ht]
  exact⟨_,by simp[resolve,invoke,builtin,e1,run_len_slice w t type ad xs.length cap hq,goInt],Bi (f:=.len xs) (v:=fun _=>xs.length) (fun n hn=>hn) he hΦ⟩
  rename_i s ht hx
  have hh:=hrd x
  rw[hx]at hh
  simp only[RA,RD]at hh
  simp only[oe]at he
  exact⟨_,by simp[resolve,invoke,builtin,hh.1,run_len_string w t type s ht,goInt],Bi (f:=.slen s) (v:=fun _=>s.size) (fun n hn=>hn) he hΦ⟩
  cases he
  rename_i x y hargs
  obtain⟨args⟩:=args
  simp only at hargs
  subst hargs
  split at he
  rename_i k a k' b hx hy
  have ex:=hev x
  rw[hx]at ex
  have ey:=hev y
  rw[hy]at ey
  simp only[RA,RD]at ex ey
  simp only[oe]at he
  exact⟨_,by simp[resolve,invoke,builtin,ex.1,ey.1,Builtin.min_,Builtin.min2],Bi (f:=.min a b) (v:=fun _=>if b<a then b else a) (fun n hn=>hn) he hΦ⟩
  cases he
  rename_i x y hargs
  obtain⟨args⟩:=args
  simp only at hargs
  subst hargs
  split at he
  rename_i k a k' b hx hy
  have ex:=hev x
  rw[hx]at ex
  have ey:=hev y
  rw[hy]at ey
  simp only[RA,RD]at ex ey
  simp only[oe]at he
  exact⟨_,by simp[resolve,invoke,builtin,ex.1,ey.1,Builtin.max_,Builtin.max2],Bi (f:=.max a b) (v:=fun _=>if a<b then b else a) (fun n hn=>hn) he hΦ⟩
  cases he
  cases he
 all_goals cases he

theorem AJ(val:Val)(A B:Bx):Aa val (A++B)=Aa val A++Aa val B:=by simp[Aa]
theorem ZR{val:Val}{p:Nat×Bk}{g:Nat}(h:BE val p=some g):g∈CW val p:=by unfold CW;rw[h];simp
theorem Cd{val:Val}{B:Bx}{g:Nat}:g∈Aa val B↔ ∃p∈B,g∈CW val p:=by simp[Aa]
theorem Aj(val:Val)(p:Nat×Bk)(B:Bx):Aa val (p::B)=CW val p++Aa val B:=by simp[Aa]
theorem AI(A B:Bx):AK (A++B)=AK A++AK B:=by simp[AK]
theorem BZ{val val':Val}{B:Bx}(h:∀n∈AK B,val' n=val n):Aa val' B=Aa val B:=by
 induction B with
 |nil=>rfl
 |cons p B ih=>
  have h1:val' p.1=val p.1:=h p.1 (by simp[AK])
  have h2:=ih fun n hn=>h n (by simp only[AK,List.map_cons,mc];exact .inr hn)
  have h3:CW val' p=CW val p:=by simp only[CW,BE,h1]
  rw[Aj,Aj,h3,h2]
theorem BO{val:Val}{p:Nat×Bk}{g:Nat}(h:BE val p=some g):vblk (val p.1)=some g/\p.2.isOld=false:=by unfold BE at h;split at h;cases h;rename_i ho;exact⟨h,by simpa using ho⟩
theorem ER{val:Val}{n:Nat}{b:Bk}{g:Nat}(h:vblk (val n)=some g)(ho:b.isOld=false):BE val (n,b)=some g:=by simp[BE,ho,h]
theorem Ar{val:Val}{n:Nat}{b:Bk}{g:Nat}(h:vblk (val n)=some g)(ho:b.isOld=false):g∈CW val (n,b):=ZR (ER h ho)

def BW(n:Nat):Bx->Bool
 |[]=>false
 |p::B=>p.1==n||p.2.has n||BW n B

theorem BP{n:Nat}:∀{B:Bx},BW n B=false->∀p∈B,p.1≠n/\p.2.has n=false
 |[],_,p,hp=>by cases hp
 |q::B,hb,p,hp=>by
  simp only[BW,Bool.or_eq_false_iff,beq_eq_false_iff_ne]at hb;rcases mc.1 hp with rfl|hp
  exact⟨hb.1.1,hb.1.2⟩;exact BP hb.2 p hp

theorem B4{v:Value}{g:Nat}(h:v.ownBlock=some g):vblk v=some g:=by unfold Value.ownBlock at h;split at h;simpa[vblk]using h;cases h

theorem Kk{w w':World}{o e k:Nat}{v:Value}{n:Nat}{us:List Value}(hb:∀g,v.ownBlock=some g->w'.heap[g]? =w.heap[g]?)(hown:w.ownsRow o e k v n us):w'.ownsRow o e k v n us:=by
 refine⟨hown.1,?_⟩;rcases hown.2 with hn|⟨g,cap,cur,hv,hg0,hg,rest⟩
 exact .inl hn;exact .inr ⟨g,cap,cur,hv,hg0,(hb g (by rw[hv];rfl)).trans hg,rest⟩
theorem BA.stays{h w h' w' e}(s:Do h w h' w'):∀(xss:List (Option (List D))) (us:List Value),(∀u∈us,∀g,u.ownBlock=some g->w'.heap[g]? =w.heap[g]? /\h' g=h g)->BA h w e xss us->BA h' w' e xss us
 |[],_,_,hr=>hr
 |none::xss,us,hb,⟨u,us',e1,h1,h2⟩=>⟨u,us',e1,h1,BA.stays s xss us' (fun v hv=>hb v (by rw[e1];exact List.mem_cons_of_mem _ hv)) h2⟩
 |some xs::xss,us,hb,⟨u,us',vs,e1,⟨a,b,c⟩,h2⟩=>by
  have hu:=hb u (by rw[e1];exact List.mem_cons_self);exact⟨u,us',vs,e1,⟨Kk (fun g hg=>(hu g hg).1) a,Ah.stays s _ _ _ b,fun g hg=>by rw[(hu g hg).2];exact c g hg⟩,BA.stays s xss us' (fun v hv=>hb v (by rw[e1];exact List.mem_cons_of_mem _ hv)) h2⟩
theorem RKs.stays{h w h' w'}{val:Val}{outs:List (D×Nat)}(s:Do h w h' w'):∀(ks:List (Nat×D)) (us:List Value) (l:List MapEntry),RKs h w val outs ks us l->RKs h' w' val outs ks us l
 |[],_,_,hr=>hr
 |x::ks,us,l,⟨u,us',en,l',a,b,c,d,e1,e2,r⟩=>⟨u,us',en,l',a,b,c,RD.stays s _ _ d,e1,e2,RKs.stays s ks us' l' r⟩
theorem RB.stays{h w h' w' val n}{b:Bk}(s:Do h w h' w')(hbL:∀g,g∈CW val (n,b)->w'.heap[g]? =w.heap[g]? /\h' g=h g)(hr:RB h w val n b):RB h' w' val n b:=by
 have hb:∀g,BE val (n,b)=some g->w'.heap[g]? =w.heap[g]? /\h' g=h g:=fun g hg=>hbL g (ZR hg);cases b with
 |rows e xss=>
  obtain⟨v,us,hv,hv0,hr⟩:=hr
  refine⟨v,us,hv,hv0,BA.stays s _ _ (fun u hu g hg=>hbL g ?_) hr⟩
  simp only[CW,ma]
  right
  rw[hv]
  exact List.mem_filterMap.2 ⟨u,List.mem_cons_of_mem _ hu,hg⟩
 |mapR g clk ks outs=>
  obtain⟨b,l,us,hv,hg,hu,hk,h1,h2,h3,h0,ho⟩:=hr
  obtain⟨a1,a2⟩:=hb b (by rw[BE,hv];rfl)
  exact⟨b,l,us,hv,a1.trans hg,hu,RKs.stays s _ _ _ hk,h1,h2,h3,a2.trans h0,ho⟩
 |cells cs=>
  obtain⟨g,us,t,e,hg,hr,h1,h0⟩:=hr
  obtain⟨a1,a2⟩:=hb g (by rw[BE,e];rfl)
  exact⟨g,us,t,e,a1.trans hg,RAs.stays s _ _ _ hr,h1,a2.trans h0⟩
 |row e k xs=>
  obtain⟨us,hown,hrow,hh⟩:=hr
  refine⟨us,⟨hown.1,?_⟩,Ah.stays s _ _ _ hrow,fun g hg=>?_⟩
  rcases hown.2 with hn|⟨g,cap,cur,hv,hg0,hg,rest⟩
  exact .inl hn
  exact .inr ⟨g,cap,cur,hv,hg0,(hb g (by rw[BE,hv];rfl)).1.trans hg,rest⟩
  rw[(hb g (ER (B4 hg) rfl)).2]
  exact hh g hg
 |rw e k xs=>
  obtain⟨us,hown,hrow,hh⟩:=hr
  refine⟨us,⟨hown.1,?_⟩,Ah.stays s _ _ _ hrow,fun g hg=>?_⟩
  rcases hown.2 with hn|⟨g,cap,cur,hv,hg0,hg,rest⟩
  exact .inl hn
  exact .inr ⟨g,cap,cur,hv,hg0,(hb g (by rw[BE,hv];rfl)).1.trans hg,rest⟩
  rw[(hb g (ER (B4 hg) rfl)).2]
  exact hh g hg
 |old xs=>exact RD.stays s _ _ hr
 |dead=>trivial
 |fz cs=>
  obtain⟨g,us,hv,hr,hc⟩:=hr
  exact⟨g,us,hv,RDs.stays s _ _ hr,fun j v hj=>by obtain⟨c1,c2⟩:=hc j v hj;exact s.cell (a:=⟨g,j,none⟩) c1 c2⟩
 |buf sl e k xs=>
  obtain⟨g,us,hv,hl,hg,hrow,h0⟩:=hr
  obtain⟨a1,a2⟩:=hb g (by rw[BE,hv];cases sl<;>rfl)
  exact⟨g,us,hv,hl,a1.trans hg,Ah.stays s _ _ _ hrow,a2.trans h0⟩
 |vals as' us=>exact RAs.stays s _ _ _ hr
 |obj g o=>
  obtain⟨hv,hg,hd⟩:=hr
  exact⟨hv,(hb g (by rw[BE,hv];rfl)).1.trans hg,hd⟩
 |map clk es=>
  obtain⟨g,l,hv,hg,hr,h1,h2,h3,h0⟩:=hr
  obtain⟨a1,a2⟩:=hb g (by rw[BE,hv];rfl)
  exact⟨g,l,hv,a1.trans hg,REs.stays s _ _ hr,h1,h2,h3,a2.trans h0⟩
 |mapS es=>
  obtain⟨clk,es',⟨g,l,hv,hg,hr,h1,h2,h3,h0⟩,hp⟩:=hr
  obtain⟨a1,a2⟩:=hb g (by rw[BE,hv];rfl)
  exact⟨clk,es',⟨g,l,hv,a1.trans hg,REs.stays s _ _ hr,h1,h2,h3,a2.trans h0⟩,hp⟩
 |bag e k xs=>
  obtain⟨xs',us,hp,hown,hrow,hh⟩:=hr
  refine⟨xs',us,hp,⟨hown.1,?_⟩,Ah.stays s _ _ _ hrow,fun g hg=>?_⟩
  rcases hown.2 with hn|⟨g,cap,cur,hv,hg0,hg,rest⟩
  exact .inl hn
  exact .inr ⟨g,cap,cur,hv,hg0,(hb g (by rw[BE,hv];rfl)).1.trans hg,rest⟩
  rw[(hb g (ER (B4 hg) rfl)).2]
  exact hh g hg
 |mit m clk seen=>
  obtain⟨r,b,hv,hm,hg⟩:=hr
  exact⟨r,b,hv,hm,(hb r (by rw[BE,hv];rfl)).1.trans hg⟩
theorem RKs.congr{h w}{val val':Val}{outs:List (D×Nat)}(hv:∀x∈outs,val' x.2=val x.2):∀(ks:List (Nat×D)) (us:List Value) (l:List MapEntry),RKs h w val outs ks us l->RKs h w val' outs ks us l
 |[],_,_,hr=>hr
 |x::ks,us,l,⟨u,us',en,l',a,b,c,d,e1,e2,r⟩=>⟨u,us',en,l',a,b,c,d,fun m hm=>(e1 m hm).trans (hv _ hm).symm,e2,RKs.congr hv ks us' l' r⟩
theorem RKs.map{h w}{val val':Val}{ρ:Nat->Nat}{outs:List (D×Nat)}(hv:∀x∈outs,val' (ρ x.2)=val x.2):∀(ks:List (Nat×D)) (us:List Value) (l:List MapEntry),RKs h w val outs ks us l->RKs h w val' (outs.map fun x=>(x.1,ρ x.2)) ks us l
 |[],_,_,hr=>hr
 |x::ks,us,l,⟨u,us',en,l',a,b,c,d,e1,e2,r⟩=>⟨u,us',en,l',a,b,c,d,fun m hm=>by
  obtain⟨y,hy,e⟩:=mm.1 hm;simp only[pe]at e;obtain⟨e3,rfl⟩:=e;rw[hv y hy];exact e1 y.2 (by rw[<-e3];exact hy),fun hn=>e2 fun m hm=>hn _ (mm.2 ⟨_,hm,rfl⟩),RKs.map hv ks us' l' r⟩
theorem BA.blk{h w e}:∀(xss:List (Option (List D))) (us:List Value),BA h w e xss us->∀u∈us,∀g,u.ownBlock=some g->∃o,w.heap[g]? =some o/\aAy o=false
 |[],us,hr,u,hu,g,hg=>by rw[show us=[]from hr]at hu;cases hu
 |none::xss,us,⟨u0,us',e1,h1,h2⟩,u,hu,g,hg=>by
  rw[e1]at hu;rcases mc.1 hu with rfl|hu
  rw[h1]at hg;cases hg;exact BA.blk xss us' h2 u hu g hg
 |some xs::xss,us,⟨u0,us',vs,e1,⟨a,b,c⟩,h2⟩,u,hu,g,hg=>by
  rw[e1]at hu;rcases mc.1 hu with rfl|hu
  rcases a.2 with hn|⟨g',cap,cur,hv,hg0,hg',rest⟩
  rw[hn.1]at hg;cases hg;rw[hv]at hg;cases hg;exact⟨_,hg',rfl⟩;exact BA.blk xss us' h2 u hu g hg
theorem RB.upd{h w}{val val':Val}{m n:Nat}{b:Bk}(hv:∀m,m≠n->val' m=val m)(hm:m≠n)(hb:b.has n=false)(hr:RB h w val m b):RB h w val' m b:=by
 cases b with
 |rows e xss=>
  obtain⟨v,us,e1,hr⟩:=hr
  exact⟨v,us,(hv m hm).trans e1,hr⟩
 |mapR g clk ks outs=>
  obtain⟨b,l,us,e1,hg,hu,hk,r1,r2,r3,r4,ho⟩:=hr
  simp only[Bk.has,Bool.or_eq_false_iff,beq_eq_false_iff_ne,List.any_eq_false,beq_iff_eq]at hb
  exact⟨b,l,us,(hv m hm).trans e1,hg,(hv g hb.1).trans hu,RKs.congr (fun x hx=>hv _ (hb.2 x hx)) _ _ _ hk,r1,r2,r3,r4,fun x hx=>by rw[hv _ (hb.2 x hx)];exact ho x hx⟩
 |cells cs=>
  obtain⟨g,us,t,e,hg,hr,h1,h0⟩:=hr
  exact⟨g,us,t,(hv m hm).trans e,hg,RAs.upd hv cs us hb hr,h1,h0⟩
 |row e k xs=>
  obtain⟨us,hown,hrow,hh⟩:=hr
  rw[<-hv m hm]at hown hh
  exact⟨us,hown,hrow,hh⟩
 |rw e k xs=>
  obtain⟨us,hown,hrow,hh⟩:=hr
  rw[<-hv m hm]at hown hh
  exact⟨us,hown,hrow,hh⟩
 |old xs=>
  simp only[RB]at hr⊢
  rw[hv m hm]
  exact hr
 |fz cs=>
  obtain⟨g,us,e1,rest⟩:=hr
  exact⟨g,us,(hv m hm).trans e1,rest⟩
 |buf sl e k xs=>
  obtain⟨g,us,e1,rest⟩:=hr
  exact⟨g,us,(hv m hm).trans e1,rest⟩
 |vals as' us=>exact RAs.upd hv as' us hb hr
 |dead=>trivial
 |obj g o=>
  obtain⟨e1,rest⟩:=hr
  exact⟨(hv m hm).trans e1,rest⟩
 |map clk es=>
  obtain⟨g,l,e1,rest⟩:=hr
  exact⟨g,l,(hv m hm).trans e1,rest⟩
 |mapS es=>
  obtain⟨clk,es',⟨g,l,e1,rest⟩,hp⟩:=hr
  exact⟨clk,es',⟨g,l,(hv m hm).trans e1,rest⟩,hp⟩
 |bag e k xs=>
  obtain⟨xs',us,hp,hown,hrow,hh⟩:=hr
  rw[<-hv m hm]at hown hh
  exact⟨xs',us,hp,hown,hrow,hh⟩
 |mit k clk seen=>
  obtain⟨r,b,e1,e2,rest⟩:=hr
  have hk:k≠n:=fun e=>by subst e;simp[Bk.has]at hb
  exact⟨r,b,(hv m hm).trans e1,(hv k hk).trans e2,rest⟩

def An(val:Val)(n:Nat)(v:Value):Val:=fun m=>if m=n then v else val m
def Dz(h:Hw)(b:Nat)(k:Nat):Hw:=fun m=>if m=b then k else h m

theorem Dk(M:List Nat)(h:Hw)(w:World)(o:Obj)(k:Nat):BI M h w (Dz h w.heap.size k) (w.alloc o) where
 os:=rfl
 tape:=rfl
 output:=rfl
 size:=by simp
 cells:=fun b i v hi hc=>by rw[World.cell?_alloc_lt w o _ (by exact Cj hc)];exact hc
 mono:=fun b hb=>by simp[Dz,Nat.ne_of_lt hb]
 far:=fun b hb _=>⟨heap_alloc_old w o hb,by simp[Dz,Nat.ne_of_lt hb]⟩

theorem Inv.blk_lt{h w val B}(I:Inv h w val B):∀b∈Aa val B,b<w.heap.size:=by
 intro b hb;obtain⟨⟨n,bk⟩,hp,hb⟩:=Cd.1 hb;have hr:=I.rep _ hp;simp only[CW,ma,Option.mem_toList,Option.mem_def]at hb;rcases hb with hb|hb
 rotate_left;cases bk<;>simp only[List.not_mem_nil]at hb;obtain⟨v,us,e1,hv0,hr⟩:=hr;simp only at e1;rw[e1]at hb;obtain⟨u,hu,hg⟩:=List.mem_filterMap.1 hb;have hu:u∈us:=(mc.1 hu).resolve_left fun e=>by rw[e,hv0]at hg;cases hg
 obtain⟨o2,h1,h2⟩:=BA.blk _ _ hr u hu b hg;exact(Array.getElem?_eq_some_iff.1 h1).1;cases bk with
 |rows e xss=>
  obtain⟨v,us,e1,hr⟩:=hr
  simp only at e1
  simp[BE,e1,vblk]at hb
 |mapR g clk ks outs=>
  obtain⟨r,l,us,hv,hg,_⟩:=hr
  simp only at hv
  have hb2:=(BO hb).1
  simp only[hv,vblk,oe]at hb2
  subst hb2
  exact(Array.getElem?_eq_some_iff.1 hg).1
 |cells cs=>
  obtain⟨g,us,t,e,hg,_⟩:=hr
  simp only at e
  simp only[BE,e,vblk,oe,Bk.isOld,Bool.false_eq_true,if_false]at hb
  subst hb
  exact(Array.getElem?_eq_some_iff.1 hg).1
 |row e k xs=>
  obtain⟨us,hown,_⟩:=hr
  rcases hown.2 with⟨hv,_⟩|⟨g,cap,cur,hv,_,hg,_⟩
  simp only at hv;simp[BE,hv,vblk]at hb
  simp only at hv
  simp only[BE,hv,vblk,oe,Bk.isOld,Bool.false_eq_true,if_false]at hb
  subst hb
  exact(Array.getElem?_eq_some_iff.1 hg).1
 |rw e k xs=>
  obtain⟨us,hown,_⟩:=hr
  rcases hown.2 with⟨hv,_⟩|⟨g,cap,cur,hv,_,hg,_⟩
  simp only at hv;simp[BE,hv,vblk]at hb
  simp only at hv
  simp only[BE,hv,vblk,oe,Bk.isOld,Bool.false_eq_true,if_false]at hb
  subst hb
  exact(Array.getElem?_eq_some_iff.1 hg).1
 |old xs=>simp[BE,Bk.isOld]at hb
 |fz cs=>simp[BE,Bk.isOld]at hb
 |vals as' us=>simp[BE,Bk.isOld]at hb
 |dead=>simp[BE,Bk.isOld]at hb
 |buf sl e k xs=>
  obtain⟨g,us,hv,hl,hg,_⟩:=hr
  simp only at hv
  have hb2:=(BO hb).1
  simp only[hv]at hb2
  cases sl<;>(simp[vblk]at hb2;subst hb2;exact(Array.getElem?_eq_some_iff.1 hg).1)
 |obj g o=>
  obtain⟨hv,hg,_⟩:=hr
  simp only at hv hg
  have hb2:=(BO hb).1
  simp only[hv,vblk,oe]at hb2
  subst hb2
  exact(Array.getElem?_eq_some_iff.1 hg).1
 |map clk es=>
  obtain⟨g,l,hv,hg,_⟩:=hr
  simp only at hv
  have hb2:=(BO hb).1
  simp only[hv,vblk,oe]at hb2
  subst hb2
  exact(Array.getElem?_eq_some_iff.1 hg).1
 |mapS es=>
  obtain⟨clk,es',⟨g,l,hv,hg,_⟩,_⟩:=hr
  simp only at hv
  have hb2:=(BO hb).1
  simp only[hv,vblk,oe]at hb2
  subst hb2
  exact(Array.getElem?_eq_some_iff.1 hg).1
 |bag e k xs=>
  obtain⟨xs',us,_,hown,_⟩:=hr
  rcases hown.2 with⟨hv,_⟩|⟨g,cap,cur,hv,_,hg,_⟩
  simp only at hv;simp[BE,hv,vblk]at hb
  simp only at hv
  simp only[BE,hv,vblk,oe,Bk.isOld,Bool.false_eq_true,if_false]at hb
  subst hb
  exact(Array.getElem?_eq_some_iff.1 hg).1
 |mit m clk seen=>
  obtain⟨r,g,hv,_,hg⟩:=hr
  simp only at hv
  have hb2:=(BO hb).1
  simp only[hv,vblk,oe]at hb2
  subst hb2
  exact(Array.getElem?_eq_some_iff.1 hg).1
theorem Inv.blk_def{h w val B}(I:Inv h w val B):∀b∈Aa val B,∀o,w.heap[b]? =some o->aAy o=false:=by
 intro b hb o ho;obtain⟨⟨n,bk⟩,hp,hb⟩:=Cd.1 hb;have hr:=I.rep _ hp;simp only[CW,ma,Option.mem_toList,Option.mem_def]at hb;rcases hb with hb|hb
 rotate_left;cases bk<;>simp only[List.not_mem_nil]at hb;obtain⟨v,us,e1,hv0,hr⟩:=hr;simp only at e1;rw[e1]at hb;obtain⟨u,hu,hg⟩:=List.mem_filterMap.1 hb;have hu:u∈us:=(mc.1 hu).resolve_left fun e=>by rw[e,hv0]at hg;cases hg
 obtain⟨o2,h1,h2⟩:=BA.blk _ _ hr u hu b hg;rw[h1]at ho;cases ho;exact h2;cases bk with
 |rows e xss=>
  obtain⟨v,us,e1,hr⟩:=hr
  simp only at e1
  simp[BE,e1,vblk]at hb
 |mapR g clk ks outs=>
  obtain⟨r,l,us,hv,hg,_⟩:=hr
  simp only at hv
  have hb2:=(BO hb).1
  simp only[hv,vblk,oe]at hb2
  subst hb2
  rw[hg]at ho;cases ho;rfl
 |cells cs=>
  obtain⟨g,us,t,e,hg,_⟩:=hr
  simp only at e
  simp only[BE,e,vblk,oe,Bk.isOld,Bool.false_eq_true,if_false]at hb
  subst hb
  rw[hg]at ho;cases ho;rfl
 |row e k xs=>
  obtain⟨us,hown,_⟩:=hr
  rcases hown.2 with⟨hv,_⟩|⟨g,cap,cur,hv,_,hg,_⟩
  simp only at hv;simp[BE,hv,vblk]at hb
  simp only at hv
  simp only[BE,hv,vblk,oe,Bk.isOld,Bool.false_eq_true,if_false]at hb
  subst hb
  rw[hg]at ho;cases ho;rfl
 |rw e k xs=>
  obtain⟨us,hown,_⟩:=hr
  rcases hown.2 with⟨hv,_⟩|⟨g,cap,cur,hv,_,hg,_⟩
  simp only at hv;simp[BE,hv,vblk]at hb
  simp only at hv
  simp only[BE,hv,vblk,oe,Bk.isOld,Bool.false_eq_true,if_false]at hb
  subst hb
  rw[hg]at ho;cases ho;rfl
 |old xs=>simp[BE,Bk.isOld]at hb
 |fz cs=>simp[BE,Bk.isOld]at hb
 |vals as' us=>simp[BE,Bk.isOld]at hb
 |dead=>simp[BE,Bk.isOld]at hb
 |buf sl e k xs=>
  obtain⟨g,us,hv,hl,hg,_⟩:=hr
  simp only at hv
  have hb2:=(BO hb).1
  simp only[hv]at hb2
  cases sl<;>(simp[vblk]at hb2;subst hb2;rw[hg]at ho;cases ho;rfl)
 |obj g o'=>
  obtain⟨hv,hg,hd⟩:=hr
  simp only at hv hg
  have hb2:=(BO hb).1
  simp only[hv,vblk,oe]at hb2
  subst hb2
  rw[hg]at ho;cases ho;exact hd
 |map clk es=>
  obtain⟨g,l,hv,hg,_⟩:=hr
  simp only at hv
  have hb2:=(BO hb).1
  simp only[hv,vblk,oe]at hb2
  subst hb2
  rw[hg]at ho;cases ho;rfl
 |mapS es=>
  obtain⟨clk,es',⟨g,l,hv,hg,_⟩,_⟩:=hr
  simp only at hv
  have hb2:=(BO hb).1
  simp only[hv,vblk,oe]at hb2
  subst hb2
  rw[hg]at ho;cases ho;rfl
 |bag e k xs=>
  obtain⟨xs',us,_,hown,_⟩:=hr
  rcases hown.2 with⟨hv,_⟩|⟨g,cap,cur,hv,_,hg,_⟩
  simp only at hv;simp[BE,hv,vblk]at hb
  simp only at hv
  simp only[BE,hv,vblk,oe,Bk.isOld,Bool.false_eq_true,if_false]at hb
  subst hb
  rw[hg]at ho;cases ho;rfl
 |mit m clk seen=>
  obtain⟨r,g,hv,_,hg⟩:=hr
  simp only at hv
  have hb2:=(BO hb).1
  simp only[hv,vblk,oe]at hb2
  subst hb2
  rw[hg]at ho;cases ho;rfl
theorem Cg.keep'{val val':Val}{w w':World}{ds:List Deferred}{h h':Hw}{M:List Nat}(d:Cg val w ds)(hk:BI M h w h' w')(hM:∀b∈M,∀o,w.heap[b]? =some o->aAy o=false)(hv:val' bn=val bn):Cg val' w' ds:=by obtain⟨hs,Ds,e,hn,hd⟩:=d;refine⟨by unfold FJ at hs⊢;rw[hv];exact Nat.le_trans hs hk.size,Ds,e,hn,fun D hD=>?_⟩;obtain⟨h1,h2⟩:=hd D hD;refine⟨(hk.far D (Array.getElem?_eq_some_iff.1 h1).1 fun hm=>?_).1.trans h1,?_⟩;have:=hM D hm _ h1;cases this;unfold FJ at h2⊢;rw[hv];exact h2
theorem Cg.keep{val val':Val}{w w':World}{ds:List Deferred}{h h':Hw}{B:Bx}{M:List Nat}(d:Cg val w ds)(I:Inv h w val B)(hk:BI M h w h' w')(hM:∀b∈M,b∈Aa val B)(hv:val' bn=val bn):Cg val' w' ds:=
 d.keep' hk (fun b hb=>I.blk_def b (hM b hb)) hv
theorem Cg.val{val val':Val}{w:World}{ds:List Deferred}(d:Cg val w ds)(hv:val' bn=val bn):Cg val' w ds:=by obtain⟨hs,Ds,e,hn,hd⟩:=d;refine⟨by unfold FJ at hs⊢;rw[hv];exact hs,Ds,e,hn,fun D hD=>⟨(hd D hD).1,?_⟩⟩;have:=(hd D hD).2;unfold FJ at this⊢;rw[hv];exact this


def BG(B:Bx)(n:Nat)(b:Bk):Bx:=B.map fun p=>if p.1=n then(n,b)else p

theorem Bg{val:Val}:∀{B:Bx} {p q:Nat×Bk} {g:Nat},(Aa val B).Nodup->p∈B->q∈B->g∈CW val p->g∈CW val q->p=q
 |[],p,q,g,_,hp,_,_,_=>by cases hp
 |r::B,p,q,g,hn,hp,hq,h1,h2=>by
  have hin:∀{x:Nat×Bk},x∈B->g∈CW val x->g∈Aa val B:=fun{x} hx hv=>Cd.2 ⟨x,hx,hv⟩;rw[Aj,List.nodup_append]at hn;rcases mc.1 hp with hp2|hp2
  rcases mc.1 hq with hq2|hq2
  rw[hp2,hq2];rw[hp2]at h1;exact absurd rfl (hn.2.2 g h1 g (hin hq2 h2));rcases mc.1 hq with hq2|hq2
  rw[hq2]at h2;exact absurd rfl (hn.2.2 g h2 g (hin hp2 h1));exact Bg hn.2.1 hp2 hq2 h1 h2

theorem BD(B:Bx)(n:Nat)(b:Bk):AK (BG B n b)=AK B:=by simp only[AK,BG,List.map_map];apply List.map_congr_left;intro p _;simp only[Function.comp_apply];split;rename_i e;exact e.symm;rfl
theorem aNs{val:Val}{n:Nat}{b b':Bk}(h:b'.kd=b.kd):CW val (n,b')=CW val (n,b):=by unfold CW BE;cases b<;>cases b'<;>first|rfl|(exfalso;revert h;simp[Bk.kd,Bk.isOld];done)
theorem A6{val:Val}{n:Nat}{b:Bk}:∀{B:Bx},(∀b',(n,b')∈B->b'.kd=b.kd)->Aa val (BG B n b)=Aa val B
 |[],_=>rfl
 |p::B,ho=>by
  have ih:=A6 (val:=val) (b:=b) (B:=B) fun b' hb=>ho b' (List.mem_cons_of_mem _ hb);have e:CW val (if p.1=n then(n,b)else p)=CW val p:=by split;rename_i e;have h1:=ho p.2 (by rw[<-e];exact List.mem_cons_self);obtain⟨a,c⟩:=p;simp only at e h1;subst e;exact(aNs h1).symm;rfl
  show Aa val ((if p.1=n then(n,b)else p)::BG B n b)=_
  rw[Aj,Aj,e,ih]
theorem RV{val:Val}{n:Nat}{xs:List D}:∀{B:Bx},(Aa val (BG B n (.old xs))).Sublist (Aa val B)
 |[]=>.slnil
 |p::B=>by
  have ih:=RV (val:=val) (n:=n) (xs:=xs) (B:=B);show(Aa val ((if p.1=n then(n,.old xs)else p)::BG B n (.old xs))).Sublist _
  rw[Aj,Aj];split;have e:CW val (n,Bk.old xs)=[]:=rfl;rw[e,List.nil_append];exact ih.trans (List.sublist_append_right _ _);exact(List.Sublist.refl _).append ih
theorem Er{val:Val}{n:Nat}{b:Bk}(hb:CW val (n,b)=[]):∀{B:Bx},(Aa val (BG B n b)).Sublist (Aa val B)
 |[]=>.slnil
 |p::B=>by
  have ih:=Er (val:=val) (n:=n) (b:=b) hb (B:=B);show(Aa val ((if p.1=n then(n,b)else p)::BG B n b)).Sublist _
  rw[Aj,Aj];split;rw[hb,List.nil_append];exact ih.trans (List.sublist_append_right _ _);exact(List.Sublist.refl _).append ih
theorem QB{val:Val}{A B:Bx}(hs:A.Sublist B):(Aa val A).Sublist (Aa val B):=by
 induction hs with
 |slnil=>exact .slnil
 |cons a _ ih=>rw[Aj];exact ih.trans (List.sublist_append_right _ _)
 |cons_cons a _ ih=>rw[Aj,Aj];exact(List.Sublist.refl _).append ih
theorem BY{B:Bx}{n:Nat}{b:Bk}{p:Nat×Bk}(h:p∈BG B n b):p=(n,b)\/(p∈B/\p.1≠n):=by simp only[BG,mm]at h;obtain⟨q,hq,e⟩:=h;split at e;exact .inl e.symm;rename_i hne;subst e;exact .inr ⟨hq,hne⟩

theorem Bk.kd_one{b:Bk}(h:b.kd=1):b.isOld=false/\∀e xss,b≠ .rows e xss:=by cases b<;>first|(exfalso;revert h;simp[Bk.kd,Bk.isOld];done)|exact⟨rfl,fun _ _ h=>by cases h⟩
theorem CQ{val:Val}{n:Nat}{b:Bk}(h:b.kd=1):CW val (n,b)=(vblk (val n)).toList:=by obtain⟨k1,k2⟩:=Bk.kd_one h;unfold CW;rw[show BE val (n,b)=vblk (val n)from by simp[BE,k1]];cases b<;>first|exact List.append_nil _|exact absurd rfl (k2 _ _)
theorem Holds.add{s:St}{h h':Hw}{w w':World}{val:Val}{a:Act}(H:Holds s h w val a){n:Nat}(hn:n<up)(hE:AV n s.E=false)(hB:BW n s.B=false)
 {M:List Nat} (hk:BI M h w h' w') (hM:∀b∈Aa val s.all,b∉M) (hMd:∀b∈M,∀o,w.heap[b]? =some o->aAy o=false) (v:Value) (bk:Bk) (hvb:∀b,vblk v=some b->b∉Aa val s.all) (hold:bk.kd=1)
 (hrb:RB h' w' (An val n v) n bk):
 Holds {s with B:=(n,bk)::s.B} h' w' (An val n v) a/\Aa (An val n v) ((n,bk)::s.all)=(vblk v).toList++Aa val s.all:=by
 have hv:∀m,m≠n->An val n v m=val m:=fun m hm=>by simp[An,hm]
 have hap:∀p∈s.all,p.1≠n/\p.2.has n=false:=fun p hp=>by
  rcases ma.1 hp with hp|hp
  exact BP hB p hp;exact H.far n (.inl hn) p hp
 have hbl:Aa (An val n v) s.all=Aa val s.all:=BZ fun m hm=>by simp only[AK,mm]at hm;obtain⟨p,hp,rfl⟩:=hm;exact hv _ (hap p hp).1
 have hall:({s with B:=(n,bk)::s.B}:St).all=(n,bk)::s.all:=rfl
 have hblk:Aa (An val n v) ((n,bk)::s.all)=(vblk v).toList++Aa val s.all:=by
  rw[<-hbl];have e:CW (An val n v) (n,bk)=(vblk v).toList:=by obtain⟨k1,k2⟩:=Bk.kd_one hold;unfold CW;rw[show BE (An val n v) (n,bk)=vblk v from by simp[BE,k1,An]];cases bk<;>first|exact List.append_nil _|exact absurd rfl (k2 _ _)
  rw[Aj,e]
 refine⟨⟨RAs.upd hv _ _ hE (RAs.stays hk.stays _ _ _ H.e),⟨?_,?_,?_,H.inv.glob.stays hk.stays⟩,H.far,H.defs.keep' hk hMd (hv _ (by have:n<up:=hn;simp only[up]at this;simp only[bn];omega))⟩,hblk⟩
 intro p hp
 rw[hall]at hp
 rcases mc.1 hp with rfl|hp
 exact hrb
 refine RB.upd hv (hap p hp).1 (hap p hp).2 (RB.stays hk.stays (fun g hg=>?_) (H.inv.rep p hp))
 have hm:g∈Aa val s.all:=Cd.2 ⟨p,hp,hg⟩
 exact hk.far g (H.inv.blk_lt g hm) (hM g hm)
 rw[hall]
 simp only[AK,List.map_cons,List.nodup_cons]
 refine⟨fun hm=>?_,H.inv.nms⟩
 obtain⟨p,hp,he⟩:=mm.1 hm
 exact(hap p hp).1 he
 rw[hall,hblk]
 cases hvv:vblk v with
 |none=>simpa using H.inv.bks
 |some b=>
  simp only[Option.toList_some,List.singleton_append,List.nodup_cons]
  exact⟨hvb b hvv,H.inv.bks⟩

theorem BI.mono'{M M':List Nat}{h h' w w'}(k:BI M h w h' w')(hs:∀x∈M,x∈M'\/w.heap.size<=x):BI M' h w h' w':=
 ⟨k.os,k.tape,k.output,k.size,k.cells,k.mono,fun b hb hn=>k.far b hb fun hm=>by
  rcases hs b hm with h|h
  exact hn h;omega⟩

theorem BB{B:Bx}{n:Nat}{b b':Bk}(h:(AK B).Nodup)(h1:(n,b)∈B)(h2:(n,b')∈B):b=b':=by
 induction B with
 |nil=>cases h1
 |cons p B ih=>
  simp only[AK,List.map_cons,List.nodup_cons]at h
  rcases mc.1 h1 with e1|h1
  rcases mc.1 h2 with e2|h2
  rw[<-e1]at e2;injection e2 with _ e2;exact e2.symm
  exact absurd (by rw[<-e1];exact mm.2 ⟨_,h2,rfl⟩) h.1
  rcases mc.1 h2 with e2|h2
  exact absurd (by rw[<-e2];exact mm.2 ⟨_,h1,rfl⟩) h.1
  exact ih h.2 h1 h2

theorem Holds.old{s:St}{h w val a}(H:Holds s h w val a){n:Nat}{e k}{xs:List D}(hl:lk s.B n=some (.row e k xs)):
 Holds {s with B:=BG s.B n (.old xs)} h w val a/\(∀b∈Aa val ({s with B:=BG s.B n (.old xs)}:St).all,b∈Aa val s.all)/\
  ∀g,vblk (val n)=some g->g∉Aa val ({s with B:=BG s.B n (.old xs)}:St).all:=by
 have hmem:(n,Bk.row e k xs)∈s.all:=ml_ _ (Ag hl)
 have hdat:=RB.data (H.inv.rep _ hmem)
 have hsub:(Aa val ({s with B:=BG s.B n (.old xs)}:St).all).Sublist (Aa val s.all):=by simp only[St.all,AJ];exact RV.append (.refl _)
 have hnF:∀p∈s.F,p.1≠n:=fun p hp e=>by have hnd:=H.inv.nms;simp only[St.all,AI]at hnd;exact(List.nodup_append.1 hnd).2.2 n (mm.2 ⟨_,Ag hl,rfl⟩) n (mm.2 ⟨p,hp,e⟩) rfl
 refine⟨⟨H.e,⟨fun p hp=>?_,?_,H.inv.bks.sublist hsub,H.inv.glob⟩,H.far,H.defs⟩,fun b hb=>hsub.subset hb,fun g hg hin=>?_⟩
 rcases ma.1 hp with hp|hp
 rcases BY hp with rfl|⟨hp,_⟩
 exact hdat
 exact H.inv.rep p (ml_ _ hp)
 exact H.inv.rep p (mr_ _ hp)
 have:=H.inv.nms
 simpa only[St.all,AI,BD]using this
 obtain⟨p,hp,hpg⟩:=Cd.1 hin
 have key:∀q∈s.all,q.1≠n->g∈CW val q->False:=fun q hq hne hqg=>by have:=Bg H.inv.bks hq hmem hqg (Ar hg rfl);rw[this]at hne;exact hne rfl
 rcases ma.1 hp with hp|hp
 rcases BY hp with rfl|⟨hp,hne⟩
 rw[show CW val (n,Bk.old xs)=[]from rfl]at hpg;cases hpg
 exact key p (ml_ _ hp) hne hpg
 exact key p (mr_ _ hp) (hnF p hp) hpg

theorem Inv.blk_mem{val:Val}{B:Bx}{p:Nat×Bk}{g:Nat}(hp:p∈B)(hg:g∈CW val p):g∈Aa val B:=Cd.2 ⟨p,hp,hg⟩

theorem Holds.fresh{s:St}{h:Hw}{w:World}{val:Val}{a:Act}(H:Holds s h w val a){n:Nat}(hn:n<up)(hE:AV n s.E=false)(hB:BW n s.B=false)
 (o:Obj) (v:Value) (k:Nat) (bk:Bk) (hvb:vblk v=some w.heap.size) (hold:bk.kd=1) (hrb:RB (Dz h w.heap.size k) (w.alloc o) (An val n v) n bk):
 Holds {s with B:=(n,bk)::s.B} (Dz h w.heap.size k) (w.alloc o) (An val n v) a/\
 Nx s h w val {s with B:=(n,bk)::s.B} (Dz h w.heap.size k) (w.alloc o) (An val n v):=by
 have hk:=Dk [] h w o k
 obtain⟨h1,h2⟩:=H.add hn hE hB hk (fun _ _ hm=>by cases hm) (fun _ hm=>by cases hm) v bk (fun b hb hin=>by
  rw[hvb]at hb;injection hb with hb
  have:=H.inv.blk_lt b hin;omega) hold hrb
 refine⟨h1,⟨Dk _ h w o k,fun m hm=>?_,fun b hb=>?_⟩⟩
 have:m≠n:=Nat.ne_of_gt (Nat.lt_of_lt_of_le hn (Ic hm))
 simp[An,this]
 have hb':b∈Aa (An val n v) ((n,bk)::s.all):=hb
 rw[h2,hvb]at hb'
 rcases ma.1 hb' with hb'|hb'
 simp at hb';subst hb';exact .inr (Nat.le_refl _)
 exact .inl hb'

inductive Ed where
 |add (n:Nat) (b:Bk)
 |chg (n:Nat) (b:Bk)
def Cq(n:Nat)(b:Bk):Bx->Bx
 |[]=> [(n,b)]
 |p::B=>if Nat.ble n p.1 then(n,b)::p::B else p::Cq n b B
theorem Bp(n:Nat)(b:Bk):∀B:Bx,(Cq n b B).Perm ((n,b)::B)
 |[]=>.refl _
 |p::B=>by
  simp only[Cq];split;exact .refl _;exact(List.Perm.cons p (Bp n b B)).trans (.swap _ _ _)
theorem Inv.perm{h w val}{B B':Bx}(hp:B.Perm B')(I:Inv h w val B):Inv h w val B':=
 ⟨fun p hm=>I.rep p (hp.mem_iff.2 hm),(hp.map _).nodup_iff.1 I.nms,(List.Perm.flatMap_right _ hp).nodup_iff.1 I.bks,I.glob⟩
theorem Holds.perm{s:St}{B:Bx}{h w val a}(hp:s.B.Perm B)(H:Holds s h w val a):Holds {s with B:=B} h w val a:=
 ⟨H.e,H.inv.perm (hp.append_right _),H.far,H.defs⟩
theorem Nx.perm{s s':St}{B:Bx}{h w val h' w' val'}(hp:s'.B.Perm B)(n:Nx s h w val s' h' w' val'):Nx s h w val {s' with B:=B} h' w' val':=
 ⟨n.keep,n.vals,fun b hb=>n.new b ((List.Perm.flatMap_right (CW val') (hp.append_right s'.F)).mem_iff.2 hb)⟩
theorem Holds.ins{E:List A}{B F:Bx}{d:Nat}{b:Bk}{h w val a}(H:Holds ⟨E,(d,b)::B,F⟩ h w val a):Holds ⟨E,Cq d b B,F⟩ h w val a:=
 Holds.perm (s:=⟨E,(d,b)::B,F⟩) (Bp d b B).symm H
theorem Nx.ins{s:St}{E:List A}{B F:Bx}{d:Nat}{b:Bk}{h w val h' w' val'}(n:Nx s h w val ⟨E,(d,b)::B,F⟩ h' w' val'):Nx s h w val ⟨E,Cq d b B,F⟩ h' w' val':=
 Nx.perm (s':=⟨E,(d,b)::B,F⟩) (Bp d b B).symm n
def Al(B:Bx):Ed->Bx
 | .add n b=>Cq n b B
 | .chg n b=>BG B n b
def St.edit(s:St)(es:List Ed):St:={s with B:=es.foldl Al s.B}

def EM(P:Program)(o:Oper)(s:St)(Φ:Prop)(r:A)(s':St):Prop:=
 Φ->∀h w val a,Holds s h w val a->∀(K:Act->World->Prop) (Q:Exit->Act->World->Prop),
  (∀h' w' val' u,RA h' w' val' r u->Holds s' h' w' val' a->Nx s h w val s' h' w' val'->K (a.put o.dst u) w')->o.wp P a w K Q

theorem AQ{P:Program}{o:Oper}{a:Act}{w w':World}{K:Act->World->Prop}{Q:Exit->Act->World->Prop}{u:Value}
 (h:(execOp a.eval o).run P w=.ok (.value u) w') (hK:K (a.put o.dst u) w'):o.wp P a w K Q:=by
 unfold Oper.wp
 rw[h]
 exact hK
theorem Be{P:Program}{o:Oper}{a:Act}{w w':World}{K:Act->World->Prop}{Q:Exit->Act->World->Prop}
 (h:(execOp a.eval o).run P w=.ok .skip w') (hK:K (a.put o.dst undef) w'):o.wp P a w K Q:=by
 unfold Oper.wp
 rw[h]
 exact hK

theorem aOk{P:Program}{o:Oper}{s:St}{wt:W}{Φ:Cn}{r:A}(he:Nl P o s.ev (fun x=>s.look (s.ev x)) wt=some (Φ,r)):EM P o s Φ.ok r s:=by intro hΦ h w val a H K Q hK;obtain⟨u,h1,h2⟩:=aIk (ρ:=a.eval) (fun x=>H.ev x) (fun x=>H.look (H.ev x)) he hΦ;exact AQ h1 (hK h w val u h2 H (Nx.refl s h w val rfl))

def R5(P:Program)(o:Oper)(s:St)(wt:W):Option (Cn×A):=
 match o.op with
 | .load t x=>match s.ev x with
  | .box n off=>match lk s.B n with
   |some (.cells cs)=>(Hv P t cs off).map fun v=>HV v wt
   |some (.fz cs)=>(Hv P t (cs.map .d) off).map fun v=>HV v wt
   |_=>none
  |_=>none
 |_=>none
theorem aIh{P:Program}{o:Oper}{s:St}{wt:W}{Φ:Cn}{r:A}(he:R5 P o s wt=some (Φ,r)):EM P o s Φ.ok r s:=by
 intro hΦ h w val a H K Q hK;unfold R5 at he;split at he;rename_i t x ho;split at he;rename_i n off hx;split at he;rename_i cs hl;simp only[om]at he;obtain⟨v,hv,he⟩:=he;have hx':=H.ev x;rw[hx]at hx';simp only[RA]at hx';obtain⟨b,e1,e2⟩:=hx';have hb:=H.inv.rep (n,.cells cs) (ml_ _ (Ag hl));obtain⟨g,us,ty,e3,hg,hr,h1,_⟩:=hb;simp only at e3;rw[e1]at e3;cases e3;obtain⟨u,g1,g2⟩:=Dl (P:=P) (a:=⟨b,0,none⟩) hv hr h1 (fun j v hj=>by rw[Addr.add_lit,Nat.zero_add,cell_of_row w b j ⟨us⟩ ty (0,0) hg];simpa using hj)
 rw[Addr.add_lit,Nat.zero_add]at g1;refine AQ (u:=u) (w':=w) ?_ (hK h w val u (CZ he hΦ g2) H (Nx.refl s h w val rfl));simp[execOp,ho,e2,Instr.loadAt,Instr.sureAddr,g1];rename_i cs hl;simp only[om]at he;obtain⟨v,hv,he⟩:=he;have hx':=H.ev x;rw[hx]at hx';simp only[RA]at hx';obtain⟨b,e1,e2⟩:=hx';have hb:=H.inv.rep (n,.fz cs) (ml_ _ (Ag hl));obtain⟨g,us,e3,hr,hc⟩:=hb;simp only at e3;rw[e1]at e3;cases e3;obtain⟨u,g1,g2⟩:=Dl (P:=P) (val:=val) (a:=⟨b,0,none⟩) hv (DB hr) hr.one (fun j v hj=>by rw[Addr.add_lit,Nat.zero_add];exact(hc j v hj).1)
 rw[Addr.add_lit,Nat.zero_add]at g1;refine AQ (u:=u) (w':=w) ?_ (hK h w val u (CZ he hΦ g2) H (Nx.refl s h w val rfl));simp[execOp,ho,e2,Instr.loadAt,Instr.sureAddr,g1];cases he;cases he;cases he

def aKs:Value->A
 | .slice none 0 0=>.nil
 |x=>.d (.v x)
theorem Jc{h w val}:∀(l:List Value),(∀x∈l,x.oneCell'=true)->RAs h w val (l.map aKs) l
 |[],_=>by simp[RAs]
 |x::l,hl=>by
  simp only[List.map_cons,RAs];refine⟨x,l,rfl,?_,Jc l fun y hy=>hl y (by simp[hy])⟩;unfold aKs;split;simp[RA];simp[RA,RD,hl x (by simp)]
theorem Hh(n:Nat):∀l:List Value,AV n (l.map aKs)=false
 |[]=>rfl
 |x::l=>by
  simp only[List.map_cons,AV,Hh n l,Bool.or_false];unfold aKs;split<;>rfl
def aKj(P:Program)(o:Oper)(s:St):Option (A×List Ed):=
 match o.dst with
 |none=>none
 |some d=>
  if d<up&& !AV d s.E&& !BW d s.B then
   match o.op with
   | .alloc t=>match (P.info? t).bind (·.zero)with
    |some z=>if z.cells.toList.all (·.oneCell')then some (.box d 0,[.add d (.cells (z.cells.toList.map aKs))])else none
    |none=>none
   | .box _ x=>match (s.ev x).cells with
    |some cs=>if AV d cs then none else some (.box d 0,[.add d (.cells cs)])
    |none=>none
   |_=>none
  else none

theorem QC{P:Program}{o:Oper}{s:St}{h:Hw}{w:World}{val:Val}{a:Act}{K:Act->World->Prop}{Q:Exit->Act->World->Prop}{d:Nat}{t:TypeId}{z:Value}{cs:List A}
 (H:Holds s h w val a) (hd:d<up) (hE:AV d s.E=false) (hB:BW d s.B=false) (hcs:AV d cs=false)
 (hz:RAs h w val cs z.cells.toList) (hz1:∀c∈z.cells.toList,c.oneCell'=true)
 (hrun:(execOp a.eval o).run P w=.ok (.value (.pointer (some ⟨w.heap.size,0,none⟩))) (w.alloc (.cells z.cells t)))
 (hK:∀h' w' val' u,RA h' w' val' (.box d 0) u->Holds (s.edit [.add d (.cells cs)]) h' w' val' a->Nx s h w val (s.edit [.add d (.cells cs)]) h' w' val'->K (a.put o.dst u) w'):o.wp P a w K Q:=by
 have hv:∀m,m≠d->An val d (.pointer (some ⟨w.heap.size,0,none⟩)) m=val m:=fun m hm=>by simp[An,hm]
 have hvd:An val d (.pointer (some ⟨w.heap.size,0,none⟩)) d=.pointer (some ⟨w.heap.size,0,none⟩):=by simp[An]
 have hk:=Dk (Aa val s.all) h w (.cells z.cells t) 0
 obtain⟨h1,h2⟩:=H.fresh hd hE hB (.cells z.cells t) (.pointer (some ⟨w.heap.size,0,none⟩)) 0 (.cells cs) rfl rfl
  ⟨w.heap.size,z.cells.toList,t,hvd,heap_alloc_new w _,RAs.upd hv _ _ hcs (RAs.stays hk.stays _ _ _ hz),hz1,by simp[Dz]⟩
 exact AQ hrun (hK _ _ _ _ (by simp only[RA];exact⟨_,hvd,rfl⟩) h1.ins h2.ins)

theorem aNb{P:Program}{o:Oper}{s:St}{r:A}{es:List Ed}(he:aKj P o s=some (r,es)):EM P o s True r (s.edit es):=by intro _ h w val a H K Q hK;unfold aKj at he;split at he;cases he;rename_i d hd;split at he;rename_i hc;simp only[ba,decide_eq_true_eq,Bool.not_eq_true']at hc;split at he;rename_i t ho;split at he;rename_i z hz;split at he;rename_i hcs;simp only[oe,pe]at he;obtain⟨rfl,rfl⟩:=he;have hz1:∀c∈z.cells.toList,c.oneCell'=true:=fun c hc=>(List.all_eq_true.1 hcs) c hc;refine QC (t:=t) H hc.1.1 hc.1.2 hc.2 (Hh d _) (Jc _ hz1) hz1 ?_ hK;simp only[Option.bind_eq_some_iff]at hz;obtain⟨i,hi,hz⟩:=hz;simp[execOp,ho,Instr.alloc,zeroValue,typeInfo,hi,hz,newVar,newRow];cases he;cases he;rename_i t x ho;split at he;rename_i cs hcs;split at he;cases he;rename_i hh;simp only[oe,pe]at he;obtain⟨rfl,rfl⟩:=he;have hz':=A.cells_ok hcs (H.ev x);refine QC (t:=t) H hc.1.1 hc.1.2 hc.2 (by simpa using hh) hz'.1 hz'.2 ?_ hK;simp[execOp,ho,Instr.box,newVar,newRow];cases he;cases he;cases he

theorem EK{h:Hw}{w:World}{g:Nat}{M:List Nat}{cs cs':Array Value}{t:TypeId}(hg:w.heap[g]? =some (.cells cs t (0,0)))(h0:h g=0)(hM:g∈M):BI M h w h (w.setRow g cs') where
 os:=rfl
 tape:=rfl
 output:=rfl
 size:=by simp
 cells:=fun b i v hi hc=>by
  have hne:b≠g:=fun e=>by subst e;omega
  rw[World.cell?_of_block (w:=w) (a:=⟨b,i,none⟩) (setRow_other w g b _ hne)];exact hc
 mono:=fun _ _=>Nat.le_refl _
 far:=fun b _ hn=>⟨setRow_other w g b _ fun e=>hn (e▸hM),rfl⟩

def EQ(P:Program)(o:Oper)(s:St):Option (List Ed):=
 match o.op with
 | .store t x y=>match s.ev x with
  | .box n off=>match lk s.B n,(s.ev y).cells with
   |some (.cells cs),some vs=>if(P.info? t).isSome&&vs.length==P.cellsOf t&&Nat.ble (off+vs.length) cs.length then some [.chg n (.cells (cs.take off++vs++cs.drop (off+vs.length)))]else none
   |_,_=>none
  |_=>none
 |_=>none
theorem LR{P:Program}{o:Oper}{s:St}{es:List Ed}(he:EQ P o s=some es):EM P o s True .any (s.edit es):=by
 intro _ h w val a H K Q hK;unfold EQ at he;split at he;rename_i t x y ho;split at he;rename_i n off hx;split at he;rename_i cs vs hl hv;split at he;rename_i hc;simp only[ba,beq_iff_eq,Nat.ble_eq]at hc;simp only[oe]at he;have hx':=H.ev x;rw[hx]at hx';simp only[RA]at hx';obtain⟨g,e1,e2⟩:=hx';have hmem:(n,Bk.cells cs)∈s.all:=ml_ _ (Ag hl);obtain⟨g',us,ty,e3,hg,hr,h1,h0⟩:=H.inv.rep _ hmem;simp only at e3;rw[e1]at e3;cases e3;have hy:=A.cells_ok hv (H.ev y);have hlen:us.length=cs.length:=hr.length;have hvl:(a.eval y).cells.toList.length=vs.length:=hy.1.length;have hst:=run_storeCells_at P g off ty (a.eval y).cells.toList 0 ⟨us⟩ w hg (by simp only[Nat.add_zero];rw[hvl];simp only[List.size_toArray];omega) hy.2;simp only[Nat.add_zero]at hst;have hgM:g∈Aa val s.all:=by exact Inv.blk_mem hmem (Ar (by simp only[e1,vblk]) rfl)
 have hk:BI (Aa val s.all) h w h (w.setRow g (us.take off++(a.eval y).cells.toList++us.drop (off+(a.eval y).cells.toList.length)).toArray):=EK hg h0 hgM;have hsame:∀b',(n,b')∈s.B->b'.kd=(Bk.cells (cs.take off++vs++cs.drop (off+vs.length))).kd:=fun b' hb'=>by have:=BB H.inv.nms (ml_ _ hb') hmem;rw[this];rfl
 refine Be (w':=w.setRow g (us.take off++(a.eval y).cells.toList++us.drop (off+(a.eval y).cells.toList.length)).toArray) ?_ ?_;have hsz:(a.eval y).cells.size=P.cellsOf t:=by have:=hvl;simp at this;omega
 simp only[execOp,ho,Sem.run_bind,Instr.storeAt,e2,Instr.sureAddr,Sem.run_pure,Result.andThen_ok,storeVar,Aw hc.1.1,hsz,ne_eq,not_true_eq_false,if_false,hst];refine hK h _ val undef (by simp[RA]) ?_ ⟨hk,fun _ _=>rfl,fun b hb=>.inl ?_⟩;subst he;refine⟨RAs.stays hk.stays _ _ _ H.e,⟨?_,?_,?_,H.inv.glob.stays hk.stays⟩,H.far,H.defs.keep H.inv hk (fun b hb=>hb) rfl⟩;intro p hp;rcases ma.1 hp with hp|hp
 rcases BY hp with rfl|⟨hp,hne⟩
 refine⟨g,_,ty,e1,setRow_heap w g _ _ ty _ hg,?_,?_,h0⟩;refine RAs.stays hk.stays _ _ _ (((hr.take off).append hy.1).append ?_);rw[hvl];exact hr.drop _;intro u hu;rcases ma.1 hu with hu|hu
 rcases ma.1 hu with hu|hu
 exact h1 u (List.mem_of_mem_take hu);exact hy.2 u hu;exact h1 u (List.mem_of_mem_drop hu);refine RB.stays hk.stays (fun b hb=>⟨setRow_other w g b _ fun e=>?_,rfl⟩) (H.inv.rep p (ml_ _ hp));subst e;have:=Bg H.inv.bks (ml_ _ hp) hmem hb (Ar (by simp only[e1,vblk]) rfl);rw[this]at hne;exact hne rfl;refine RB.stays hk.stays (fun b hb=>⟨setRow_other w g b _ fun e=>?_,rfl⟩) (H.inv.rep p (mr_ _ hp));subst e;have e4:=Bg H.inv.bks (mr_ _ hp) hmem hb (Ar (by simp only[e1,vblk]) rfl);have hnd:=H.inv.nms;simp only[St.all,AI]at hnd;have m1:n∈AK s.B:=by simp only[AK,mm];exact⟨_,Ag hl,rfl⟩
 have m2:n∈AK s.F:=by simp only[AK,mm];exact⟨p,hp,by rw[e4]⟩
 exact(List.nodup_append.1 hnd).2.2 n m1 n m2 rfl;have:=H.inv.nms;simpa only[St.all,St.edit,List.foldl_cons,List.foldl_nil,Al,AI,BD]using this;have:=H.inv.bks;simpa only[St.all,St.edit,List.foldl_cons,List.foldl_nil,Al,AJ,A6 hsame]using this;subst he;simpa only[St.all,St.edit,List.foldl_cons,List.foldl_nil,Al,AJ,A6 hsame]using hb;cases he;cases he;cases he;cases he


section
variable {P:Program} (w:World)
theorem C9(t ty e:TypeId)(i:TypeInfo)(z:Value)(ht:P.underlying t=some (.slice e))(hi:P.info? e=some i)(hz:i.zero=some z)
 (hzs:z.cells.size=i.size)
 (v:Value) (n:Nat) (xs:List Value) (hown:w.ownsRow 0 e i.size v n xs)
 (a:Addr) (m c:Nat) (news:List Value) (hl:news.length=m*i.size) (hnews:∀j u,news[j]? =some u->w.cell? (a.add j)=some u) (h1:∀u∈news,u.oneCell'=true)
 (h63:n+m<=maxLen) (hbytes:(n+m)*i.bytes<=140737488355328):
 ∃v' w',(Builtin.append_ #[t,t] ty #[v,.slice (some a) m c]).run P w=.ok v' w'/\w'.ownsRow 0 e i.size v' (n+m) (xs++news)/\
  ((v'.ownBlock=v.ownBlock/\w.grownBy w' v.ownBlock)\/(v'.ownBlock=some w.heap.size/\w.grownBy w' none)):=by
 have hsmall:n+m<=9223372036854775807:=by simp only[maxLen]at h63;omega
 have hlen:(xs++news).length=(n+m)*i.size:=by rw[List.length_append,hown.1,hl,Nat.add_mul]
 have grown:∀(old:Nat),old<n+m->
  (w.drew.alloc (.cells (xs.toArray++news.toArray++Builtin.zeroCells z.cells (grownCap w (n+m) old e-(n+m))) e)).ownsRow 0 e i.size
   (.slice (some ⟨w.heap.size,0,none⟩) (n+m) (grownCap w (n+m) old e)) (n+m) (xs++news)/\
  w.grownBy (w.drew.alloc (.cells (xs.toArray++news.toArray++Builtin.zeroCells z.cells (grownCap w (n+m) old e-(n+m))) e)) none:=by
  intro old ho
  have hge:=grownCap_ge w (n+m) old e
  have hcm:grownCap w (n+m) old e<=maxLen:=grownCap_le_maxLen w (n+m) old e h63
  refine⟨⟨hlen,.inr ⟨w.heap.size,_,_,rfl,Nat.zero_le _,heap_alloc_new w.drew _,hge,hcm,?_,?_⟩⟩,⟨rfl,rfl,rfl,by simp,fun k hk _=>heap_alloc_old w.drew _ hk⟩⟩
  simp only[Array.size_append,List.size_toArray,size_zeroCells,hzs,hown.1,hl,<-Nat.add_mul]
  congr 1
  omega
  simp only[Array.toList_append,List.append_assoc]
  rw[<-List.append_assoc,<-hlen]
  exact List.take_left
 rcases hown.2 with⟨rfl,rfl⟩|⟨g,cap,cur,rfl,hbg,hg,hnc,hcm,hcs,htake⟩
 have hx:xs=[]:=List.eq_nil_of_length_eq_zero (by simpa using hown.1)
 subst hx
 by_cases hm:m=0
 subst hm
 have hn:news=[]:=List.eq_nil_of_length_eq_zero (by simpa using hl)
 subst hn
 refine⟨.slice none 0 0,w,?_,World.ownsRow_nil w 0 e i.size,.inl ⟨rfl,⟨rfl,rfl,rfl,Nat.le_refl _,fun _ _ _=>rfl⟩⟩⟩
 simp[Builtin.append_,run_underlying ht,sizeOf,typeInfo,hi,Builtin.lenOf,Builtin.firstCells,loadCells,loadCellsFrom]
 have hr:=run_append_nil (P:=P) w t ty e i z ht hi hz a m c news hl hnews (by omega) (by omega) (by have hb:=hbytes;simp only[Nat.zero_add]at hb;omega)
 have hgr:=grown 0 (by omega)
 simp only[Nat.zero_add,List.nil_append,Array.empty_append]at hgr⊢
 exact⟨_,_,hr,hgr.1,.inr ⟨rfl,hgr.2⟩⟩
 by_cases hroom:n+m<=cap
 have hfit:n*i.size+news.length<=cur.size:=by rw[hl,hcs,<-Nat.add_mul];exact Nat.mul_le_mul_right _ hroom
 have hr:=run_append_room (P:=P) w t ty e i ht hi g n cap cur hg a m c news hl hnews h1 hroom hfit
 refine⟨_,_,hr,⟨hlen,.inr ⟨g,cap,_,rfl,hbg,setRow_heap w g cur _ e _ hg,hroom,hcm,?_,?_⟩⟩,.inl ⟨rfl,⟨rfl,rfl,rfl,by simp,fun k _ hk=>setRow_other w g k _ (fun e=>hk (by simp[Value.ownBlock,e]))⟩⟩⟩
 simp only[List.size_toArray,List.length_append,List.length_take,List.length_drop,Array.length_toList]
 omega
 rw[htake,<-hlen]
 exact List.take_left
 have holds:∀j u,xs[j]? =some u->w.cell? ((⟨g,0,none⟩:Addr).add j)=some u:=hown.cells (g:=g) rfl
 have hr:=run_append_grow (P:=P) w t ty e i z ht hi hz ⟨g,0,none⟩ n cap xs hown.1 holds a m c news hl hnews (by omega) (by omega) (growslice_fits (by omega) hbytes)
 have hgr:=grown cap (by omega)
 exact⟨_,_,hr,hgr.1,.inr ⟨rfl,hgr.2⟩⟩

theorem DY(t ty e:TypeId)(i:TypeInfo)(ht:P.underlying t=some (.slice e))(hi:P.info? e=some i)
 (v:Value) (n:Nat) (xs:List Value) (hown:w.ownsRow 0 e i.size v n xs) (c:Nat):(Builtin.append_ #[t,t] ty #[v,.slice none 0 c]).run P w=.ok v w:=by
 rcases hown.2 with⟨rfl,rfl⟩|⟨g,cap,cur,rfl,_,_,hnc,_⟩
 simp[Builtin.append_,run_underlying ht,sizeOf,typeInfo,hi,Builtin.lenOf,Builtin.firstCells]
 simp[Builtin.append_,run_underlying ht,sizeOf,typeInfo,hi,Builtin.lenOf,Builtin.firstCells,hnc,storeCells]
end

theorem Bq{w:World}{b e k v n us}(h:w.ownsRow b e k v n us):∃ad l c,v=.slice ad l c:=by
 rcases h.2 with⟨rfl,_⟩|⟨g,cap,cur,rfl,_⟩
 exact⟨_,_,_,rfl⟩;exact⟨_,_,_,rfl⟩

theorem BV{w:World}{b e k v n us}(h:w.ownsRow b e k v n us):vblk v=v.ownBlock:=by obtain⟨ad,l,c,rfl⟩:=Bq h;cases ad<;>rfl

theorem HN{P:Program}{s1:St}{h:Hw}{w:World}{val:Val}{a:Act}{d:Nat}{t ty e:TypeId}{k by_:Nat}{xs ys:List D}{v u:Value}{us:List Value}{M:List Nat}
 (H:Holds s1 h w val a) (hd:d<up) (hE:AV d s1.E=false) (hB:BW d s1.B=false)
 (ht:P.underlying t=some (.slice e)) (hi:(P.info? e).map (fun i=>(i.size,i.bytes,i.zero.map (·.cells.size)))=some (k,by_,some k))
 (hown:w.ownsRow 0 e k v xs.length us) (hrow:Ah h w k xs us) (hh:∀g,v.ownBlock=some g->h g=xs.length*k) (hfar:∀g,v.ownBlock=some g->g∉Aa val s1.all)
 (hM:∀g,v.ownBlock=some g->g∈M) (hMs:∀b∈Aa val s1.all,b∈M)
 (hy:RD h w (.sl ys) u) (hk:∀y∈ys,y.nc=k) (h63:xs.length+ys.length<=maxLen) (hbytes:(xs.length+ys.length)*by_<=140737488355328):
 ∃v' w' h',(Builtin.append_ #[t,t] ty #[v,u]).run P w=.ok v' w'/\BI M h w h' w'/\
  Holds {s1 with B:=(d,.row e k (xs++ys))::s1.B} h' w' (An val d v') a/\
  (∀b∈Aa (An val d v') ((d,Bk.row e k (xs++ys))::s1.all),b∈M\/w.heap.size<=b)/\∃ad l c,v'=.slice ad l c:=by
 simp only[om,pe]at hi
 obtain⟨i,hi,hsz,hby,z,hz,hzs⟩:=hi
 subst hsz;subst hby
 have hv0:∀m,m≠d->∀v',An val d v' m=val m:=fun m hm v'=>by simp[An,hm]
 have hvd:∀v',An val d v' d=v':=fun v'=>by simp[An]
 obtain⟨ad,cap,k',vs,rfl,hl,hm,hyrow,hc⟩:=by simpa only[RD]using hy
 have hvs:vs.length=ys.length*i.size/\Ah h w i.size ys vs:=by
  cases ys with
  |nil=>
   have:vs=[]:=by simpa[Ah]using hyrow
   subst this;exact⟨by simp,by simp[Ah]⟩
  |cons y ys=>
   have e1:=hk y (by simp)
   have e2:=hyrow.mk y (by simp)
   have:k'=i.size:=by omega
   subst this
   exact⟨hyrow.length,hyrow⟩
 have key:∀v' w',w'.ownsRow 0 e i.size v' (xs.length+ys.length) (us++vs)->
  ((v'.ownBlock=v.ownBlock/\w.grownBy w' v.ownBlock)\/(v'.ownBlock=some w.heap.size/\w.grownBy w' none))->
  ∃h',BI M h w h' w'/\Holds {s1 with B:=(d,.row e i.size (xs++ys))::s1.B} h' w' (An val d v') a/\
   (∀b∈Aa (An val d v') ((d,Bk.row e i.size (xs++ys))::s1.all),b∈M\/w.heap.size<=b)/\∃ad l c,v'=.slice ad l c:=by
  intro v' w' hown' hcase
  --the new marks
  let h':Hw:=fun b=>if v'.ownBlock=some b then(xs.length+ys.length)*i.size else h b
  have hgrow:w.grownBy w' v.ownBlock:=by
   rcases hcase with⟨_,hg⟩|⟨_,hg⟩
   exact hg;exact⟨hg.os,hg.tape,hg.output,hg.size,fun b hb _=>hg.block b hb (by simp)⟩
  have hblk:∀b,b<w.heap.size->v'.ownBlock=some b->v.ownBlock=some b:=by
   intro b hb hvb;rcases hcase with⟨he,_⟩|⟨he,_⟩
   rw[<-he];exact hvb;rw[he]at hvb;injection hvb with hvb;omega
  have hkeep0:BI v.ownBlock.toList h w h' w':=by
   refine⟨hgrow.os,hgrow.tape,hgrow.output,hgrow.size,fun b j x hj hcx=>?_,fun b hb=>?_,fun b hb hn=>?_⟩;by_cases hvb:some b=v.ownBlock;rcases hcase with⟨he,hg⟩|⟨he,hg⟩
   --in place:the first cells are as' they were
   have hj':j<us.length:=by rw[hown.1,<-hh b hvb.symm];exact hj
   have c1:=hown.cells (g:=b) hvb.symm j us[j] (List.getElem?_eq_getElem hj');have c2:=hown'.cells (g:=b) (he.trans hvb.symm) j us[j] (by rw[List.getElem?_append_left hj',List.getElem?_eq_getElem hj']);have hadd:(⟨b,0,none⟩:Addr).add j=⟨b,j,none⟩:=by rw[Addr.add_lit,Nat.zero_add]
   rw[hadd]at c1 c2;rw[c1]at hcx;cases hcx;exact c2;rw[World.cell?_of_block (w:=w) (a:=⟨b,j,none⟩) (hg.block b (Cj hcx) (by simp))];exact hcx;rw[World.cell?_of_block (w:=w) (a:=⟨b,j,none⟩) (hgrow.block b (Cj hcx) hvb)];exact hcx;show h b<=if v'.ownBlock=some b then _ else h b
   split;rename_i hvb;rw[hh b (hblk b hb hvb)];exact Nat.mul_le_mul_right _ (Nat.le_add_right _ _);exact Nat.le_refl _;have hn':some b≠v.ownBlock:=fun e=>hn (by rw[<-e];simp);refine⟨hgrow.block b hb hn',?_⟩;show(if v'.ownBlock=some b then _ else h b)=h b
   rw[if_neg fun hvb=>hn' (hblk b hb hvb).symm]
  have hkeep:BI M h w h' w':=hkeep0.mono' fun x hx=>by
   cases hvo:v.ownBlock with
   |none=>simp[hvo]at hx
   |some g=>simp[hvo]at hx;subst hx;exact .inl (hM _ hvo)
  have hvbv:vblk v'=v'.ownBlock:=BV hown'
  have hrb:RB h' w' (An val d v') d (.row e i.size (xs++ys)):=by
   refine⟨us++vs,?_,Ah.append (Ah.stays hkeep0.stays _ _ _ hrow) (Ah.stays hkeep0.stays _ _ _ hvs.2),fun g hg=>?_⟩;rw[hvd,List.length_append];exact hown';rw[hvd]at hg;show(if v'.ownBlock=some g then _ else h g)=_
   rw[if_pos hg,List.length_append]
  have hnotin:∀b,vblk v'=some b->b∉Aa val s1.all:=by
   intro b hb hin;rw[hvbv]at hb;rcases hcase with⟨he,_⟩|⟨he,_⟩
   exact hfar b (by rw[<-he];exact hb) hin;rw[he]at hb;injection hb with hb
   have:=H.inv.blk_lt b hin;omega
  obtain⟨h1,h2⟩:=H.add hd hE hB hkeep0 (fun b hb hm=>by
   cases hvo:v.ownBlock with
   |none=>simp[hvo]at hm
   |some g=>simp[hvo]at hm;subst hm;exact hfar _ hvo hb) (fun b hb o ho=>by
   rcases hown.2 with⟨hv,_⟩|⟨g,cap,cur,hv,_,hg,_⟩
   rw[hv]at hb;simp[Value.ownBlock]at hb;rw[hv]at hb;simp[Value.ownBlock]at hb;subst hb;rw[hg]at ho;cases ho;rfl) v' (.row e i.size (xs++ys)) hnotin rfl hrb
  refine⟨h',hkeep,h1,fun b hb=>?_,Bq hown'⟩
  rw[h2]at hb
  rcases ma.1 hb with hb|hb
  rw[hvbv]at hb
  simp at hb
  rcases hcase with⟨he,_⟩|⟨he,_⟩
  exact .inl (hM b (by rw[<-he];exact hb))
  rw[he]at hb;injection hb with hb;exact .inr (by omega)
  exact .inl (hMs b hb)
 cases ad with
 |none=>
  have h0:ys=[]:=by
   cases ys with
   |nil=>rfl
   |cons y ys=>obtain⟨x,hx,_⟩:=hc (by simp);cases hx
  subst h0
  have hvs0:vs=[]:=List.eq_nil_of_length_eq_zero (by simpa using hvs.1)
  subst hvs0
  have hr:=DY (P:=P) w t ty e i ht hi v xs.length us hown cap
  obtain⟨h',k1,k2,k3,k4⟩:=key v w (by simpa using hown) (.inl ⟨rfl,⟨rfl,rfl,rfl,Nat.le_refl _,fun _ _ _=>rfl⟩⟩)
  exact⟨v,w,h',hr,k1,k2,k3,k4⟩
 |some ad=>
  have hcell:∀j x,vs[j]? =some x->w.cell? (ad.add j)=some x:=by
   intro j x hj;rcases Nat.eq_zero_or_pos ys.length with h0|h0
   have:vs=[]:=List.eq_nil_of_length_eq_zero (by rw[hvs.1,h0,Nat.zero_mul]);subst this;simp at hj;obtain⟨a',ha,hcell⟩:=hc h0;cases ha;exact(hcell j x hj).1
  obtain⟨v',w',hr,ho,hcase⟩:=C9 (P:=P) w t ty e i z ht hi hz hzs v xs.length us hown ad ys.length cap vs hvs.1 hcell hvs.2.one h63 hbytes
  obtain⟨h',k1,k2,k3,k4⟩:=key v' w' ho hcase
  exact⟨v',w',h',hr,k1,k2,k3,k4⟩

theorem Dh{d n:Nat}{b:Bk}:∀{B:Bx},BW d B=false->b.has d=false->BW d (BG B n b)=false
 |[],_,_=>rfl
 |p::B,h,hb=>by
  simp only[BW,Bool.or_eq_false_iff,beq_eq_false_iff_ne]at h;have ih:=Dh (n:=n) h.2 hb;simp only[BG,List.map_cons]at ih⊢;simp only[BW,Bool.or_eq_false_iff,beq_eq_false_iff_ne];refine⟨?_,ih⟩;split;rename_i e;exact⟨by rw[<-e];exact h.1.1,hb⟩;exact h.1

def K4(d:Unit->List D):W->List D
 | .sl zs=>zs
 |_=>d ()
def C1(P:Program)(o:Oper)(s:St)(wt:W):Option (Cn×A×List Ed):=
 match o.dst,o.op with
 |some d,.call c=>match c.callee,c.args.toList,c.argTypes.toList with
  | .builtin .append,[x,y],[t,t']=>
   if t=t' then
    match Ck P t,s.look (s.ev y)with
    |some e,.d (.sl ys)=>
     match P.info? e with
     |some i=>if i.bytes !=0&&(i.zero.map (·.cells.size))==some i.size then
      match s.ev x with
      | .nil=>if d<up&& !AV d s.E&& !BW d s.B then
       some (.both (.nc ys i.size) (.fits [] ys i.bytes),.row d,[.add d (.row e i.size ys)])else none
      | .row n=>match lk s.B n with
       |some (.row e' k xs)=>if e'=e/\k=i.size/\d<up/\AV d s.E=false/\BW d s.B=false then
        some (.both (.nc ys i.size) (.both (.fits xs ys i.bytes) (.app xs ys (K4 (fun _=>xs++ys) wt))),.row d,[.chg n (.old xs),.add d (.row e i.size (K4 (fun _=>xs++ys) wt))])else none
       |_=>none
      |_=>none
      else none
     |none=>none
    |_,_=>none
   else none
  |_,_,_=>none
 |_,_=>none

theorem R0{P:Program}{o:Oper}{s:St}{es:List Ed}{wt:W}{Φ:Cn}{r:A}(he:C1 P o s wt=some (Φ,r,es)):EM P o s Φ.ok r (s.edit es):=by
 intro hΦ h w val a H K Q hK;unfold C1 at he;split at he;rename_i d c hd ho;obtain⟨callee,args,argTypes⟩:=c;simp only at he;split at he;rename_i x y t t' hargs htys;obtain⟨args⟩:=args;obtain⟨argTypes⟩:=argTypes;simp only at hargs htys;subst hargs;subst htys;split at he;rename_i htt;subst htt;split at he;rename_i e ys hel hy;obtain⟨hu,hI,hC⟩:=CN hel;have hy':=H.look (H.ev y);rw[hy]at hy';simp only[RA]at hy';split at he;rename_i i hi;split at he;rename_i hc;simp only[ba,bne_iff_ne,beq_iff_eq]at hc;have hinfo:(P.info? e).map (fun i=>(i.size,i.bytes,i.zero.map (·.cells.size)))=some (i.size,i.bytes,some i.size):=by simp[hi,hc.2]
 have h63:∀n:Nat,n*i.bytes<=140737488355328->n<=maxLen:=fun n hn=>by have:n<=n*i.bytes:=Nat.le_mul_of_pos_right _ (Nat.pos_of_ne_zero hc.1);simp only[maxLen];omega
 split at he;rename_i hx;split at he;rename_i hcc;simp only[ba,decide_eq_true_eq,Bool.not_eq_true']at hcc;simp only[oe,pe]at he;obtain⟨rfl,rfl,rfl⟩:=he;simp only[Cn.ok]at hΦ;have hx':=H.ev x;rw[hx]at hx';simp only[RA]at hx';obtain⟨v',w',h',hr,k1,k2,k3,ad,l,cc,k4⟩:=HN (P:=P) (ty:=o.type) (xs:=[]) (us:=[]) (v:=.slice none 0 0) (M:=Aa val s.all) H hcc.1.1 hcc.1.2 hcc.2 hu hinfo
  (World.ownsRow_nil w 0 e i.size) (by simp[Ah]) (by simp[Value.ownBlock]) (by simp[Value.ownBlock]) (by simp[Value.ownBlock]) (fun b hb=>hb) hy' hΦ.1 (by simpa using h63 _ hΦ.2) (by simpa using hΦ.2)
 refine AQ (u:=v') (w':=w') ?_ (hK h' w' _ v' (by simp only[RA];exact⟨by simp[An],.inl ⟨ad,l,cc,k4⟩⟩) k2.ins (Nx.ins ⟨k1,fun n hn=>by have:n≠d:=Nat.ne_of_gt (Nat.lt_of_lt_of_le hcc.1.1 (Ic hn));simp[An,this],k3⟩));simp[execOp,ho,resolve,invoke,builtin,hx',hr];cases he;rename_i n hx;split at he;rename_i e' k xs hl;split at he;rename_i hcc;obtain⟨rfl,rfl,c1,c2,c3⟩:=hcc;simp only[oe,pe]at he;obtain⟨rfl,rfl,rfl⟩:=he;simp only[Cn.ok]at hΦ;obtain⟨hΦ1,hΦ2,hΦ3⟩:=hΦ;have hΦ:=And.intro hΦ1 hΦ2;rw[<-hΦ3]at hK;have hx':=H.ev x;rw[hx]at hx';simp only[RA]at hx';have hmem:(n,Bk.row e' i.size xs)∈s.all:=ml_ _ (Ag hl);have hrb:=H.inv.rep _ hmem;obtain⟨us,hown,hrow,hh⟩:=hrb;obtain⟨hdrop,hsub,hnot⟩:=H.old hl;obtain⟨v',w',h',hr,k1,k2,k3,ad,l,cc,k4⟩:=HN (P:=P) (ty:=o.type) (v:=val n) (M:=Aa val s.all) hdrop c1 c2 (Dh c3 rfl) hu hinfo
  hown hrow hh (fun g hg=>hnot g (B4 hg)) (fun g hg=>Inv.blk_mem hmem (Ar (B4 hg) rfl)) hsub hy' hΦ.1 (h63 _ hΦ.2) hΦ.2
 refine AQ (u:=v') (w':=w') ?_ (hK h' w' _ v' (by simp only[RA];exact⟨by simp[An],.inl ⟨ad,l,cc,k4⟩⟩) k2.ins (Nx.ins ⟨k1,fun m hm=>by have:m≠d:=Nat.ne_of_gt (Nat.lt_of_lt_of_le c1 (Ic hm));simp[An,this],k3⟩));simp[execOp,ho,resolve,invoke,builtin,hx'.1,hr];cases he;cases he;cases he;cases he;cases he;cases he;cases he;cases he;cases he

theorem Lh(off:Nat):∀(l:List Value) (k:Nat) (us:List Value),off+k+l.length<=us.length->
 (l.zipIdx k).foldl (fun(cs:Array Value) (p:Value×Nat)=>cs.setIfInBounds (off+p.2) p.1) ⟨us⟩=⟨us.take (off+k)++l++us.drop (off+k+l.length)⟩
 |[],k,us,_=>by simp
 |v::l,k,us,hl=>by
  simp only[List.length_cons]at hl;simp only[List.zipIdx_cons,List.foldl_cons];rw[List.setIfInBounds_toArray,Lh off l (k+1) (us.set (off+k) v) (by simp;omega)];have e:=list_seg_step us (off+k) v l (by omega);simp only[List.length_cons];rw[show off+(k+1)=off+k+1 from by omega,e]
theorem Ma(c:Array Value)(off:Nat)(us:List Value)(h:off+c.size<=us.length):
 (c.zipIdx).foldl (fun(cs:Array Value) (p:Value×Nat)=>cs.setIfInBounds (off+p.2) p.1) ⟨us⟩=⟨us.take off++c.toList++us.drop (off+c.size)⟩:=by
 have:=Lh off c.toList 0 us (by simpa using h)
 rw[<-Array.foldl_toList]
 simp only[Array.toList_zipIdx]
 simpa using this

theorem Lf{place:Nat->Option (Nat×Nat)}{i off size:Nat}{v:Value}{rest:List (Nat×Value)}{us:List Value}(hp:place i=some (off,size))(hs:v.cells.size=size)(hl:off+size<=us.length):
 Instr.fill place ⟨us⟩ ((i,v)::rest)=Instr.fill place ⟨us.take off++v.cells.toList++us.drop (off+size)⟩ rest:=by
 have e:=Ma v.cells off us (by omega)
 rw[hs]at e
 simp only[Instr.fill,hp,hs,ne_eq,not_true_eq_false,List.size_toArray,decide_false,Bool.false_or,decide_eq_true_eq]
 rw[if_neg (by omega),e]

theorem QN(size:Nat):∀(vals:List Value) (i:Nat) (us:List Value),(∀v∈vals,v.cells.size=size)->i*size+vals.length*size<=us.length->
 Instr.fill (fun i=>some (i*size,size)) ⟨us⟩ ((List.range' i vals.length).zip vals)=some ⟨us.take (i*size)++vals.flatMap (·.cells.toList)++us.drop (i*size+vals.length*size)⟩
 |[],i,us,_,_=>by simp[Instr.fill]
 |v::vals,i,us,hv,hl=>by
  simp only[List.length_cons,Nat.add_mul,Nat.one_mul]at hl;have hvs:=hv v (by simp);simp only[List.length_cons,List.range'_succ,List.zip_cons_cons];rw[Lf (off:=i*size) (size:=size) rfl hvs (by omega)];have hlen:(us.take (i*size)++v.cells.toList++us.drop (i*size+size)).length=us.length:=by simp[hvs];omega
  rw[QN size vals (i+1) _ (fun u hu=>hv u (by simp[hu])) (by rw[hlen,Nat.add_mul];omega)];congr 2;have e1:(i+1)*size=i*size+size:=by rw[Nat.add_mul];omega
  have e2:(List.take (i*size) us++v.cells.toList).length=i*size+size:=by simp[hvs];omega
  rw[e1,List.take_append_of_le_length (by omega),List.take_of_length_le (by omega)];rw[List.drop_append,List.drop_eq_nil_of_le (as:=List.take (i*size) us++v.cells.toList) (by omega),e2,List.nil_append,List.drop_drop];simp only[List.flatMap_cons,List.append_assoc];congr 4;simp only[Nat.add_mul];omega

theorem TB{h w}{k:Nat}:∀{xs:List D} {us:List Value},us.length=xs.length->(∀(i:Nat) x u,xs[i]? =some x->us[i]? =some u->RD h w x u)->(∀x∈xs,x.nc=k)->Ah h w k xs (us.flatMap (·.cells.toList))
 |[],us,hl,_,_=>by have:us=[]:=List.eq_nil_of_length_eq_zero (by simpa using hl);subst this;simp[Ah]
 |x::xs,[],hl,_,_=>by simp at hl
 |x::xs,u::us,hl,hr,hk=>by
  simp only[List.flatMap_cons,Ah];have h1:=hr 0 x u (by simp) (by simp);exact⟨u,_,rfl,by rw[RD.size h1];exact hk x (by simp),hk x (by simp),h1,(RD.cells h1).2,
   TB (by simpa using hl) (fun i y v hy hv=>hr (i+1) y v (by simpa using hy) (by simpa using hv)) fun y hy=>hk y (by simp[hy])⟩

def toD:A->Option D
 | .d x=>some x
 | .nil=>some (.sl [])
 | .agg cs=>(IO cs).map .agg
 | .clo f [] []=>some (.v (.func f #[] #[]))
 |_=>none
theorem Bm{h w val}{a:A}{x:D}{u:Value}(he:toD a=some x)(hr:RA h w val a u):RD h w x u:=by
 cases a with
 |d y=>simp only[toD,oe]at he;subst he;simpa only[RA]using hr
 |nil=>simp only[toD,oe]at he;subst he;simp only[RA]at hr;rw[hr];exact Id h w
 |agg cs=>
  simp only[toD,om]at he
  obtain⟨xs,h1,rfl⟩:=he
  simp only[RA]at hr
  obtain⟨us,rfl,h2,h3⟩:=hr
  simp only[RD]
  exact⟨us,rfl,KB h1 h2 h3⟩
 |clo f fs cs=>
  cases fs with
  |cons a l=>simp[toD]at he
  |nil=>
   cases cs with
   |cons a l=>simp[toD]at he
   |nil=>
    simp only[toD,oe]at he
    subst he
    simp only[RA,RAs]at hr
    obtain⟨us,vs,e,rfl,rfl⟩:=hr
    simp[RD,e,Value.oneCell']
 |_=>simp[toD]at he
def St.deep(s:St):A->A
 | .agg cs=>.agg (cs.map s.look)
 |a=>s.look a
theorem Holds.looks{s:St}{h w val}{a:Act}(H:Holds s h w val a):∀{cs:List A} {us:List Value},RAs h w val cs us->RAs h w val (cs.map s.look) us
 |[],us,hr=>hr
 |c::cs,us,hr=>by
  simp only[RAs,List.map_cons]at hr⊢;obtain⟨u,us',e,h1,h2⟩:=hr;exact⟨u,us',e,H.look h1,H.looks h2⟩
theorem Holds.deep{s:St}{h w val}{a:Act}(H:Holds s h w val a){x:A}{u:Value}(hr:RA h w val x u):RA h w val (s.deep x) u:=by unfold St.deep;split;simp only[RA]at hr⊢;obtain⟨us,e,h1,h2⟩:=hr;exact⟨us,e,H.looks h1,h2⟩;exact H.look hr
def aCw(s:St):List Operand->Option (List D)
 |[]=>some []
 |x::l=>match toD (s.deep (s.ev x)),aCw s l with
  |some y,some ys=>some (y::ys)
  |_,_=>none
theorem aCf{s:St}{h w val a}(H:Holds s h w val a):∀{l:List Operand} {xs:List D},aCw s l=some xs->xs.length=l.length/\∀(i:Nat) x u,xs[i]? =some x->(l.map a.eval)[i]? =some u->RD h w x u
 |[],xs,he=>by simp[aCw]at he;subst he;simp
 |o::l,xs,he=>by
  simp only[aCw]at he;split at he;rename_i y ys hy hys;simp only[oe]at he;subst he;obtain⟨h1,h2⟩:=aCf H hys;refine⟨by simp[h1],fun i x u hx hu=>?_⟩;cases i with
  |zero=>simp at hx hu;subst hx;subst hu;exact Bm hy (H.deep (H.ev o))
  |succ i=>simp at hx hu;exact h2 i x u hx (by simpa using hu)
  cases he

def bAe(b:Bool)(e:TypeId)(k:Nat)(xs:List D):Bk:=match b with
 |true=>.rw e k xs
 |false=>.row e k xs
def Bn(P:Program)(o:Oper)(s:St)(b:Bool):Option (Cn×A×List Ed):=
 match o.dst,o.op with
 |some d,.buildSlice t len parts=>
  match Ck P t with
  |some e=>match P.info? e with
   |some i=>if(i.zero.map (·.cells.size))==some i.size&&parts.toList.map (·.1)==List.range len&&Nat.ble (len*i.size) 16777216&&d<up&& !AV d s.E&& !BW d s.B then
    match aCw s (parts.toList.map (·.2))with
    |some xs=>some (.nc xs i.size,.row d,[.add d (bAe b e i.size xs)])
    |none=>none
    else none
   |none=>none
  |none=>none
 |_,_=>none

theorem MC{parts:List (Nat×Operand)}{len:Nat}(h:parts.map (·.1)=List.range len)(f:Operand->Value):
 parts.map (fun p=>(p.1,f p.2))=(List.range' 0 (parts.map (fun p=>f p.2)).length).zip (parts.map (fun p=>f p.2)):=by
 have hl:parts.length=len:=by simpa using congrArg List.length h
 rw[<-List.zip_map' (f:=fun p:Nat×Operand=>p.1) (g:=fun p:Nat×Operand=>f p.2),h,List.length_map,hl,List.range_eq_range']

theorem IN{P:Program}{o:Oper}{s:St}{b:Bool}{es:List Ed}{Φ:Cn}{r:A}(he:Bn P o s b=some (Φ,r,es)):EM P o s Φ.ok r (s.edit es):=by
 intro hΦ h w val a H K Q hK;unfold Bn at he;split at he;rename_i d t len parts hd ho;split at he;rename_i e hel;obtain⟨hu,hI,hC⟩:=CN hel;split at he;rename_i i hi;split at he;rename_i hc;simp only[ba,beq_iff_eq,Nat.ble_eq,decide_eq_true_eq,Bool.not_eq_true',om]at hc;obtain⟨⟨⟨⟨⟨⟨z,hz,hzs⟩,hparts⟩,hlen⟩,hdu⟩,hE⟩,hB⟩:=hc;split at he;rename_i xs hxs;simp only[oe,pe]at he;obtain⟨rfl,rfl,rfl⟩:=he;simp only[Cn.ok]at hΦ;obtain⟨hxl,hxr⟩:=aCf H hxs;have hpl:parts.toList.length=len:=by simpa using congrArg List.length hparts
 have hisz:0<i.size:=Nat.pos_of_ne_zero (by
  have:P.cellsOf e=i.size:=by simp[Program.cellsOf,hi]
  omega)
 let vals:=parts.toList.map fun p=>a.eval p.2;have hvl:vals.length=len:=by simp[vals];simpa using hpl
 have hvs:∀v∈vals,v.cells.size=i.size:=by
  intro v hv;obtain⟨j,hj,rfl⟩:=List.mem_iff_getElem.1 hv;have hj':j<xs.length:=by rw[hxl];simpa[vals]using hj
  have:=hxr j xs[j] vals[j] (List.getElem?_eq_getElem hj') (by rw[List.getElem?_eq_getElem (by simpa[vals]using hj)];simp[vals]);rw[RD.size this];exact hΦ _ (List.getElem_mem hj')
 have hrow:=TB (h:=h) (w:=w) (k:=i.size) (xs:=xs) (us:=vals) (by rw[hvl,hxl];simpa using hpl.symm) (fun j x u hx hu=>hxr j x u hx (by simpa[vals]using hu)) hΦ;have hcl:=Ah.length hrow;have hxlen:xs.length=len:=by rw[hxl];simpa using hpl
 have hrun:(execOp a.eval o).run P w=.ok (.value (.slice (some ⟨w.heap.size,0,none⟩) len len)) (w.alloc (.cells ⟨vals.flatMap (·.cells.toList)⟩ e)):=by
  have hf:=QN i.size vals 0 ((List.range (len*i.size)).map (z.cells[· % z.cells.size]!)) hvs (by simp[hvl])
  have hr:=MC hparts a.eval;simp only[Nat.zero_mul,List.take_zero,List.nil_append,Nat.zero_add,hvl]at hf;rw[List.drop_eq_nil_of_le (by simp),List.append_nil]at hf;have hmap:(parts.map fun p=>(p.1,a.eval p.2)).toList=(List.range' 0 len).zip vals:=by simp only[Array.toList_map];rw[hr];simp[vals,hpl]
  have harr:(Array.range (len*i.size)).map (z.cells[· % z.cells.size]!)=⟨(List.range (len*i.size)).map (z.cells[· % z.cells.size]!)⟩:=by apply Array.ext';simp[Array.toList_range]
  have h24:¬(len*i.size>2^24):=by omega
  by_cases h0:len*i.size=0;have hl0:len=0:=by
   rcases Nat.mul_eq_zero.1 h0 with h|h
   exact h;omega
  subst hl0;have hv0:vals=[]:=List.eq_nil_of_length_eq_zero hvl;have hp0:parts= #[]:=by apply Array.ext';exact List.eq_nil_of_length_eq_zero hpl
  subst hp0;simp only[execOp,ho,Sem.run_bind,Instr.buildSlice,run_underlying hu,Result.andThen_ok,Aw hI,Nat.zero_mul,if_neg (show¬(0>2^24) by omega),Sem.run_pure,if_true];simp[Instr.fill,newRow,hv0,vals,Array.range_zero'];have hsz:P.cellsOf e=i.size:=by simp[Program.cellsOf,hi]
  simp only[execOp,ho,Sem.run_bind,Instr.buildSlice,run_underlying hu,Result.andThen_ok,Aw hI,hsz,if_neg h24,Sem.run_pure,if_neg h0,zeroValue,typeInfo,run_program,hi,hz];rw[hmap,harr,hf];simp[newRow]
 have hk:=Dk (Aa val s.all) h w (.cells ⟨vals.flatMap (·.cells.toList)⟩ e) (if b then 0 else len*i.size)
 have hvd:An val d (.slice (some ⟨w.heap.size,0,none⟩) len len) d=.slice (some ⟨w.heap.size,0,none⟩) len len:=by simp[An]
 obtain⟨h1,h2⟩:=H.fresh hdu hE hB (.cells ⟨vals.flatMap (·.cells.toList)⟩ e) (.slice (some ⟨w.heap.size,0,none⟩) len len) (if b then 0 else len*i.size) (bAe b e i.size xs) rfl (by cases b<;>rfl) (by
  have hg1:∀g,(An val d (.slice (some ⟨w.heap.size,0,none⟩) len len) d).ownBlock=some g->Dz h w.heap.size (if b then 0 else len*i.size) g=if b then 0 else xs.length*i.size:=fun g hg=>by rw[hvd]at hg;simp only[Value.ownBlock,oe]at hg;subst hg;simp[Dz,hxlen]
  have hown:(w.alloc (.cells ⟨vals.flatMap (·.cells.toList)⟩ e)).ownsRow 0 e i.size (An val d (.slice (some ⟨w.heap.size,0,none⟩) len len) d) xs.length (vals.flatMap (·.cells.toList)):=by
   rw[hvd,hxlen];exact World.ownsRow_lit w ⟨vals.flatMap (·.cells.toList)⟩ len (Nat.zero_le _) (by have:len<=len*i.size:=Nat.le_mul_of_pos_right _ hisz;simp only[maxLen];omega) (by simp only[List.size_toArray];rw[hcl,hxlen])
  cases b with
  |true=>exact⟨_,hown,Ah.stays hk.stays _ _ _ hrow,hg1⟩
  |false=>exact⟨_,hown,Ah.stays hk.stays _ _ _ hrow,hg1⟩)
 exact AQ hrun (hK _ _ _ _ (by simp only[RA];exact⟨hvd.symm,hnd.sl _ _ _⟩) h1.ins h2.ins);cases he;cases he;cases he;cases he;cases he

def N0(place:Nat->Option (Nat×Nat)):List (Nat×A)->List A->Option (List A)
 |[],cs=>some cs
 |(i,a)::l,cs=>match place i,a.cells with
  |some (off,size),some vs=>if vs.length==size&&Nat.ble (off+size) cs.length then N0 place l (cs.take off++vs++cs.drop (off+size))else none
  |_,_=>none
theorem QM{h w val}{place:Nat->Option (Nat×Nat)}{ev:Operand->A}{ρ:Operand->Value}(hev:∀x,RA h w val (ev x) (ρ x)):
 ∀(l:List (Nat×Operand)) {cs cs':List A} {us:List Value},N0 place (l.map fun p=>(p.1,ev p.2)) cs=some cs'->RAs h w val cs us->(∀u∈us,u.oneCell'=true)->
  ∃us',Instr.fill place ⟨us⟩ (l.map fun p=>(p.1,ρ p.2))=some ⟨us'⟩/\RAs h w val cs' us'/\∀u∈us',u.oneCell'=true
 |[],cs,cs',us,he,hr,h1=>by
  simp only[List.map_nil,N0,oe]at he;subst he;exact⟨us,rfl,hr,h1⟩
 |(i,x)::l,cs,cs',us,he,hr,h1=>by
  simp only[List.map_cons,N0]at he;split at he;rename_i off size vs hp hv;split at he;rename_i hc;simp only[ba,beq_iff_eq,Nat.ble_eq]at hc;have hx:=A.cells_ok hv (hev x);have hvl:(ρ x).cells.toList.length=vs.length:=hx.1.length;have hvs:(ρ x).cells.size=size:=by have:=hvl;simp at this;omega
  have hlen:us.length=cs.length:=hr.length;simp only[List.map_cons];rw[Lf hp hvs (by omega)];refine QM hev l he (((hr.take off).append hx.1).append (hr.drop _)) fun u hu=>?_;rcases ma.1 hu with hu|hu
  rcases ma.1 hu with hu|hu
  exact h1 u (List.mem_of_mem_take hu);exact hx.2 u hu;exact h1 u (List.mem_of_mem_drop hu);cases he;cases he
def aBu(b:Bool)(cs:List A):A:=match b with
 |true=>.agg cs
 |false=>aT7 cs
theorem aJl{h w val}{b:Bool}{cs:List A}{us:List Value}(hr:RAs h w val cs us)(h1:∀u∈us,u.oneCell'=true):RA h w val (aBu b cs) (.agg ⟨us⟩):=by
 cases b with
 |true=>simp only[aBu,RA];exact⟨us,rfl,hr,h1⟩
 |false=>exact OM hr h1
def I6(P:Program)(o:Oper)(ev:Operand->A)(b:Bool):Option A:=
 match o.op with
 | .build t parts=>match P.info? t,P.underlying t with
  |some it,some (.struct fs)=>match it.zero,fs.toList.mapM (fun f=>(P.info? f.type).map fun i=>(f.offset,i.size))with
   |some z,some places=>if z.cells.toList.all (·.oneCell')then(N0 (places.toArray[·]?) (parts.toList.map fun p=>(p.1,ev p.2)) (z.cells.toList.map aKs)).map (aBu b)else none
   |_,_=>none
  |some it,some (.array _ e)=>match it.zero,P.info? e with
   |some z,some ie=>if z.cells.toList.all (·.oneCell')then(N0 (fun i=>some (i*ie.size,ie.size)) (parts.toList.map fun p=>(p.1,ev p.2)) (z.cells.toList.map aKs)).map (aBu b)else none
   |_,_=>none
  |_,_=>none
 |_=>none
theorem YT{P:Program}{o:Oper}{s:St}{b:Bool}{r:A}(he:I6 P o (fun x=>s.look (s.ev x)) b=some r):EM P o s True r s:=by
 intro _ h w val a H K Q hK;unfold I6 at he;split at he;rename_i t parts ho;have hmap:(parts.map fun(i,x)=>(i,a.eval x)).toList=parts.toList.map fun p=>(p.1,a.eval p.2):=by simp
 have key:∀(z:Value) (place:Nat->Option (Nat×Nat)),(z.cells.toList.all (·.oneCell'))=true->(∀cells,Instr.fill place z.cells (parts.toList.map fun p=>(p.1,a.eval p.2))=some cells->P.built t (parts.map fun(i,x)=>(i,a.eval x)).toList=some cells)->
  (N0 place (parts.toList.map fun p=>(p.1,s.look (s.ev p.2))) (z.cells.toList.map aKs)).map (aBu b)=some r->o.wp P a w K Q:=by
  intro z place hz hb hr
  simp only[om]at hr
  obtain⟨cs',hf,rfl⟩:=hr
  have hz1:∀c∈z.cells.toList,c.oneCell'=true:=fun c hc=>(List.all_eq_true.1 hz) c hc
  obtain⟨us',g1,g2,g3⟩:=QM (ev:=fun x=>s.look (s.ev x)) (fun x=>H.look (H.ev x)) parts.toList hf (Jc (h:=h) (w:=w) (val:=val) _ hz1) hz1
  have hrun:=run_build (P:=P) w t (parts.map fun(i,x)=>(i,a.eval x)) ⟨us'⟩ (hb _ g1)
  refine AQ (u:=.agg ⟨us'⟩) (w':=w) ?_ (hK h w val _ (aJl g2 g3) H (Nx.refl s h w val rfl))
  simp only[execOp,ho,Sem.run_bind,hrun,Result.andThen_ok,Sem.run_pure]
 split at he;rename_i it fs hi hu;split at he;rename_i z places hz hp;split at he;rename_i hc;refine key z _ hc (fun cells hcells=>?_) he;unfold Program.built;simp only[hi,hu,hz,hp,hmap];exact hcells;cases he;cases he;rename_i it n e hi hu;split at he;rename_i z ie hz hie;split at he;rename_i hc;refine key z _ hc (fun cells hcells=>?_) he;unfold Program.built;simp only[hi,hu,hz,hie,hmap];exact hcells;cases he;cases he;cases he;cases he
theorem Fg{P:Program}{s1:St}{h:Hw}{w:World}{val:Val}{a:Act}{d:Nat}{t ty e:TypeId}{k by_:Nat}{xs ys:List D}{v u:Value}{us:List Value}{M:List Nat}
 (H:Holds s1 h w val a) (hd:d<up) (hE:AV d s1.E=false) (hB:BW d s1.B=false)
 (ht:P.underlying t=some (.slice e)) (hi:(P.info? e).map (fun i=>(i.size,i.bytes,i.zero.map (·.cells.size)))=some (k,by_,some k))
 (hown:w.ownsRow 0 e k v xs.length us) (hrow:Ah h w k xs us) (hh:∀g,v.ownBlock=some g->h g=0) (hfar:∀g,v.ownBlock=some g->g∉Aa val s1.all)
 (hM:∀g,v.ownBlock=some g->g∈M) (hMs:∀b∈Aa val s1.all,b∈M)
 (hy:RD h w (.sl ys) u) (hk:∀y∈ys,y.nc=k) (h63:xs.length+ys.length<=maxLen) (hbytes:(xs.length+ys.length)*by_<=140737488355328):
 ∃v' w' h',(Builtin.append_ #[t,t] ty #[v,u]).run P w=.ok v' w'/\BI M h w h' w'/\
  Holds {s1 with B:=(d,.rw e k (xs++ys))::s1.B} h' w' (An val d v') a/\
  (∀b∈Aa (An val d v') ((d,Bk.rw e k (xs++ys))::s1.all),b∈M\/w.heap.size<=b)/\∃ad l c,v'=.slice ad l c:=by
 simp only[om,pe]at hi
 obtain⟨i,hi,hsz,hby,z,hz,hzs⟩:=hi
 subst hsz;subst hby
 have hv0:∀m,m≠d->∀v',An val d v' m=val m:=fun m hm v'=>by simp[An,hm]
 have hvd:∀v',An val d v' d=v':=fun v'=>by simp[An]
 obtain⟨ad,cap,k',vs,rfl,hl,hm,hyrow,hc⟩:=by simpa only[RD]using hy
 have hvs:vs.length=ys.length*i.size/\Ah h w i.size ys vs:=by
  cases ys with
  |nil=>
   have:vs=[]:=by simpa[Ah]using hyrow
   subst this;exact⟨by simp,by simp[Ah]⟩
  |cons y ys=>
   have e1:=hk y (by simp)
   have e2:=hyrow.mk y (by simp)
   have:k'=i.size:=by omega
   subst this
   exact⟨hyrow.length,hyrow⟩
 have key:∀v' w',w'.ownsRow 0 e i.size v' (xs.length+ys.length) (us++vs)->
  ((v'.ownBlock=v.ownBlock/\w.grownBy w' v.ownBlock)\/(v'.ownBlock=some w.heap.size/\w.grownBy w' none))->
  ∃h',BI M h w h' w'/\Holds {s1 with B:=(d,.rw e i.size (xs++ys))::s1.B} h' w' (An val d v') a/\
   (∀b∈Aa (An val d v') ((d,Bk.rw e i.size (xs++ys))::s1.all),b∈M\/w.heap.size<=b)/\∃ad l c,v'=.slice ad l c:=by
  intro v' w' hown' hcase
  --the new marks
  let h':Hw:=fun b=>if v'.ownBlock=some b then 0 else h b
  have hgrow:w.grownBy w' v.ownBlock:=by
   rcases hcase with⟨_,hg⟩|⟨_,hg⟩
   exact hg;exact⟨hg.os,hg.tape,hg.output,hg.size,fun b hb _=>hg.block b hb (by simp)⟩
  have hblk:∀b,b<w.heap.size->v'.ownBlock=some b->v.ownBlock=some b:=by
   intro b hb hvb;rcases hcase with⟨he,_⟩|⟨he,_⟩
   rw[<-he];exact hvb;rw[he]at hvb;injection hvb with hvb;omega
  have hkeep0:BI v.ownBlock.toList h w h' w':=by
   refine⟨hgrow.os,hgrow.tape,hgrow.output,hgrow.size,fun b j x hj hcx=>?_,fun b hb=>?_,fun b hb hn=>?_⟩;by_cases hvb:some b=v.ownBlock;rw[hh b hvb.symm]at hj;exact absurd hj (Nat.not_lt_zero _);rw[World.cell?_of_block (w:=w) (a:=⟨b,j,none⟩) (hgrow.block b (Cj hcx) hvb)];exact hcx;show h b<=if v'.ownBlock=some b then _ else h b
   split;rename_i hvb;rw[hh b (hblk b hb hvb)];exact Nat.le_refl _;exact Nat.le_refl _;have hn':some b≠v.ownBlock:=fun e=>hn (by rw[<-e];simp);refine⟨hgrow.block b hb hn',?_⟩;show(if v'.ownBlock=some b then _ else h b)=h b
   rw[if_neg fun hvb=>hn' (hblk b hb hvb).symm]
  have hkeep:BI M h w h' w':=hkeep0.mono' fun x hx=>by
   cases hvo:v.ownBlock with
   |none=>simp[hvo]at hx
   |some g=>simp[hvo]at hx;subst hx;exact .inl (hM _ hvo)
  have hvbv:vblk v'=v'.ownBlock:=BV hown'
  have hrb:RB h' w' (An val d v') d (.rw e i.size (xs++ys)):=by
   refine⟨us++vs,?_,Ah.append (Ah.stays hkeep0.stays _ _ _ hrow) (Ah.stays hkeep0.stays _ _ _ hvs.2),fun g hg=>?_⟩;rw[hvd,List.length_append];exact hown';rw[hvd]at hg;show(if v'.ownBlock=some g then _ else h g)=_
   rw[if_pos hg]
  have hnotin:∀b,vblk v'=some b->b∉Aa val s1.all:=by
   intro b hb hin;rw[hvbv]at hb;rcases hcase with⟨he,_⟩|⟨he,_⟩
   exact hfar b (by rw[<-he];exact hb) hin;rw[he]at hb;injection hb with hb
   have:=H.inv.blk_lt b hin;omega
  obtain⟨h1,h2⟩:=H.add hd hE hB hkeep0 (fun b hb hm=>by
   cases hvo:v.ownBlock with
   |none=>simp[hvo]at hm
   |some g=>simp[hvo]at hm;subst hm;exact hfar _ hvo hb) (fun b hb o ho=>by
   rcases hown.2 with⟨hv,_⟩|⟨g,cap,cur,hv,_,hg,_⟩
   rw[hv]at hb;simp[Value.ownBlock]at hb;rw[hv]at hb;simp[Value.ownBlock]at hb;subst hb;rw[hg]at ho;cases ho;rfl) v' (.rw e i.size (xs++ys)) hnotin rfl hrb
  refine⟨h',hkeep,h1,fun b hb=>?_,Bq hown'⟩
  rw[h2]at hb
  rcases ma.1 hb with hb|hb
  rw[hvbv]at hb
  simp at hb
  rcases hcase with⟨he,_⟩|⟨he,_⟩
  exact .inl (hM b (by rw[<-he];exact hb))
  rw[he]at hb;injection hb with hb;exact .inr (by omega)
  exact .inl (hMs b hb)
 cases ad with
 |none=>
  have h0:ys=[]:=by
   cases ys with
   |nil=>rfl
   |cons y ys=>obtain⟨x,hx,_⟩:=hc (by simp);cases hx
  subst h0
  have hvs0:vs=[]:=List.eq_nil_of_length_eq_zero (by simpa using hvs.1)
  subst hvs0
  have hr:=DY (P:=P) w t ty e i ht hi v xs.length us hown cap
  obtain⟨h',k1,k2,k3,k4⟩:=key v w (by simpa using hown) (.inl ⟨rfl,⟨rfl,rfl,rfl,Nat.le_refl _,fun _ _ _=>rfl⟩⟩)
  exact⟨v,w,h',hr,k1,k2,k3,k4⟩
 |some ad=>
  have hcell:∀j x,vs[j]? =some x->w.cell? (ad.add j)=some x:=by
   intro j x hj;rcases Nat.eq_zero_or_pos ys.length with h0|h0
   have:vs=[]:=List.eq_nil_of_length_eq_zero (by rw[hvs.1,h0,Nat.zero_mul]);subst this;simp at hj;obtain⟨a',ha,hcell⟩:=hc h0;cases ha;exact(hcell j x hj).1
  obtain⟨v',w',hr,ho,hcase⟩:=C9 (P:=P) w t ty e i z ht hi hz hzs v xs.length us hown ad ys.length cap vs hvs.1 hcell hvs.2.one h63 hbytes
  obtain⟨h',k1,k2,k3,k4⟩:=key v' w' ho hcase
  exact⟨v',w',h',hr,k1,k2,k3,k4⟩


def OR(s:St):A->Option (Nat×Option (TypeId×Nat)×List D)
 | .nil=>some (0,none,[])
 | .row n=>match lk s.B n with
  |some (.rw e k xs)=>some (n,some (e,k),xs)
  |some (.row e k [])=>some (n,some (e,k),[])
  |_=>none
 |_=>none
def Cu(P:Program)(o:Oper)(s:St)(zs:List D):Option (Cn×A×List Ed):=
 match o.dst,o.op with
 |some d,.call c=>match c.callee,c.args.toList,c.argTypes.toList with
  | .builtin .append,[x,y],[t,t']=>
   if t=t' then
    match Ck P t,s.look (s.ev y)with
    |some e,.d (.sl ys)=>
     match P.info? e with
     |some i=>if i.bytes !=0&&(i.zero.map (·.cells.size))==some i.size&&d<up&& !AV d s.E&& !BW d s.B then
      match OR s (s.ev x)with
      |some (_,none,_)=>some (.both (.nc ys i.size) (.fits [] ys i.bytes),.row d,[.add d (.rw e i.size ys)])
      |some (n,some (e',k),xs)=>if e'=e/\k=i.size then
       some (.both (.nc ys i.size) (.both (.fits xs ys i.bytes) (.app xs ys zs)),.row d,[.chg n .dead,.add d (.rw e i.size zs)])else none
      |none=>none
      else none
     |none=>none
    |_,_=>none
   else none
  |_,_,_=>none
 |_,_=>none
theorem Holds.dead{s:St}{h w val a}(H:Holds s h w val a){n:Nat}{b:Bk}(hl:lk s.B n=some b)(ho:b.isOld=false){g:Nat}(hv:vblk (val n)=some g):
 Holds {s with B:=BG s.B n .dead} h w val a/\(∀x∈Aa val {s with B:=BG s.B n .dead}.all,x∈Aa val s.all)/\g∉Aa val {s with B:=BG s.B n .dead}.all:=by
 have hmem:(n,b)∈s.all:=ml_ _ (Ag hl)
 have hsub:(Aa val {s with B:=BG s.B n .dead}.all).Sublist (Aa val s.all):=by show(Aa val (BG s.B n .dead++s.F)).Sublist (Aa val (s.B++s.F));rw[AJ,AJ];refine List.Sublist.append ?_ (List.Sublist.refl _);exact Er rfl
 refine⟨⟨H.e,⟨fun p hp=>?_,?_,H.inv.bks.sublist hsub,(by first|exact H.inv.glob.stays hk.stays|exact H.inv.glob|exact I.glob|exact I.glob.stays k.stays|exact H.inv.glob.stays k.stays|exact hI.glob|exact hInv.glob|exact hI0.glob|exact hIX.glob|exact H'.inv.glob|exact hI.glob.stays hk.stays|exact H1.inv.glob|exact hIR.glob|exact H.glob|exact hI.glob.stays k.stays|exact h.inv.glob|exact H2.inv.glob|exact hI'.glob)⟩,H.far,H.defs⟩,fun x hx=>hsub.subset hx,fun hg=>?_⟩
 rcases ma.1 hp with hp|hp
 rcases BY hp with rfl|⟨hp,_⟩
 trivial
 exact H.inv.rep p (ml_ _ hp)
 exact H.inv.rep p (mr_ _ hp)
 have:=H.inv.nms
 simpa only[St.all,AI,BD]using this
 obtain⟨p,hp,hb⟩:=Cd.1 hg
 rcases ma.1 hp with hp|hp
 rcases BY hp with rfl|⟨hp,hne⟩
 rw[show CW val (n,Bk.dead)=[]from rfl]at hb;cases hb
 have:=Bg H.inv.bks (ml_ _ hp) hmem hb (Ar hv ho)
 rw[this]at hne
 exact hne rfl
 have e4:=Bg H.inv.bks (mr_ _ hp) hmem hb (Ar hv ho)
 have hnd:=H.inv.nms
 simp only[St.all,AI]at hnd
 have m1:n∈AK s.B:=by simp only[AK,mm];exact⟨_,Ag hl,rfl⟩
 have m2:n∈AK s.F:=by simp only[AK,mm];exact⟨p,hp,by rw[e4]⟩
 exact(List.nodup_append.1 hnd).2.2 n m1 n m2 rfl
theorem Holds.dead'{s:St}{h w val a}(H:Holds s h w val a){n:Nat}{b:Bk}(hl:lk s.B n=some b)(ho:b.isOld=false):
 Holds {s with B:=BG s.B n .dead} h w val a/\(∀x∈Aa val {s with B:=BG s.B n .dead}.all,x∈Aa val s.all)/\∀g,vblk (val n)=some g->g∉Aa val {s with B:=BG s.B n .dead}.all:=by
 cases hv:vblk (val n)with
 |some g=>
  obtain⟨h1,h2,h3⟩:=H.dead hl ho hv
  exact⟨h1,h2,fun g' e=>by cases e;exact h3⟩
 |none=>
  have hbl:(Aa val (BG s.B n .dead)).Sublist (Aa val s.B):=Er rfl
  refine⟨⟨H.e,⟨fun p hp=>?_,?_,?_,(by first|exact H.inv.glob.stays hk.stays|exact H.inv.glob|exact I.glob|exact I.glob.stays k.stays|exact H.inv.glob.stays k.stays|exact hI.glob|exact hInv.glob|exact hI0.glob|exact hIX.glob|exact H'.inv.glob|exact hI.glob.stays hk.stays|exact H1.inv.glob|exact hIR.glob|exact H.glob|exact hI.glob.stays k.stays|exact h.inv.glob|exact H2.inv.glob|exact hI'.glob)⟩,H.far,H.defs⟩,fun x hx=>?_,fun g e=>by cases e⟩
  rcases ma.1 hp with hp|hp
  rcases BY hp with rfl|⟨hp,_⟩
  trivial
  exact H.inv.rep p (ml_ _ hp)
  exact H.inv.rep p (mr_ _ hp)
  have:=H.inv.nms
  simpa only[St.all,AI,BD]using this
  have:=H.inv.bks
  simp only[St.all,AJ]at this⊢
  exact this.sublist (hbl.append (List.Sublist.refl _))
  simp only[St.all,AJ]at hx⊢
  exact(hbl.append (List.Sublist.refl _)).subset hx
theorem aB8{s:St}{x:A}{n:Nat}{e k}{xs:List D}(h:OR s x=some (n,some (e,k),xs)):x=.row n/\∃b,lk s.B n=some b/\b.isOld=false/\
 ∀{h w val a},Holds s h w val a->∃us,w.ownsRow 0 e k (val n) xs.length us/\Ah h w k xs us/\∀g,(val n).ownBlock=some g->h g=0:=by
 unfold OR at h
 split at h
 simp at h
 split at h
 rename_i e' k' xs' hl
 simp only[oe,pe]at h
 obtain⟨rfl,⟨rfl,rfl⟩,rfl⟩:=h
 exact⟨rfl,_,hl,rfl,fun H=>H.inv.rep _ (ml_ _ (Ag hl))⟩
 rename_i e' k' hl
 simp only[oe,pe]at h
 obtain⟨rfl,⟨rfl,rfl⟩,rfl⟩:=h
 refine⟨rfl,_,hl,rfl,fun H=>?_⟩
 obtain⟨us,a,b,c⟩:=H.inv.rep _ (ml_ _ (Ag hl))
 exact⟨us,a,b,fun g hg=>by simpa using c g hg⟩
 cases h
 cases h
theorem NY{P:Program}{o:Oper}{s:St}{es:List Ed}{zs:List D}{Φ:Cn}{r:A}(he:Cu P o s zs=some (Φ,r,es)):EM P o s Φ.ok r (s.edit es):=by
 intro hΦ h w val a H K Q hK;unfold Cu at he;split at he;rename_i d c hd ho;obtain⟨callee,args,argTypes⟩:=c;simp only at he;split at he;rename_i x y t t' hargs htys;obtain⟨args⟩:=args;obtain⟨argTypes⟩:=argTypes;simp only at hargs htys;subst hargs;subst htys;split at he;rename_i htt;subst htt;split at he;rename_i e ys hel hy;obtain⟨hu,hI,hC⟩:=CN hel;have hy':=H.look (H.ev y);rw[hy]at hy';simp only[RA]at hy';split at he;rename_i i hi;split at he;rename_i hc;simp only[ba,bne_iff_ne,beq_iff_eq,decide_eq_true_eq,Bool.not_eq_true']at hc;obtain⟨⟨⟨⟨c0,cz⟩,c1⟩,c2⟩,c3⟩:=hc;have hinfo:(P.info? e).map (fun i=>(i.size,i.bytes,i.zero.map (·.cells.size)))=some (i.size,i.bytes,some i.size):=by simp[hi,cz]
 have h63:∀n:Nat,n*i.bytes<=140737488355328->n<=maxLen:=fun n hn=>by have:n<=n*i.bytes:=Nat.le_mul_of_pos_right _ (Nat.pos_of_ne_zero c0);simp only[maxLen];omega
 split at he;rename_i n0 xs0 hx;simp only[oe,pe]at he;obtain⟨rfl,rfl,rfl⟩:=he;simp only[Cn.ok]at hΦ;have hx':=H.ev x;have hnil:s.ev x=.nil:=by unfold OR at hx;split at hx;rename_i h1;exact h1;split at hx<;>simp at hx;cases hx
 rw[hnil]at hx';simp only[RA]at hx';obtain⟨v',w',h',hr,k1,k2,k3,ad,l,cc,k4⟩:=Fg (P:=P) (ty:=o.type) (xs:=[]) (us:=[]) (v:=.slice none 0 0) (M:=Aa val s.all) H c1 c2 c3 hu hinfo
  (World.ownsRow_nil w 0 e i.size) (by simp[Ah]) (by simp[Value.ownBlock]) (by simp[Value.ownBlock]) (by simp[Value.ownBlock]) (fun b hb=>hb) hy' hΦ.1 (by simpa using h63 _ hΦ.2) (by simpa using hΦ.2)
 refine AQ (u:=v') (w':=w') ?_ (hK h' w' _ v' (by simp only[RA];exact⟨by simp[An],.inl ⟨ad,l,cc,k4⟩⟩) k2.ins (Nx.ins ⟨k1,fun n hn=>by have:n≠d:=Nat.ne_of_gt (Nat.lt_of_lt_of_le c1 (Ic hn));simp[An,this],k3⟩));simp[execOp,ho,resolve,invoke,builtin,hx',hr];rename_i n e' k xs hx;split at he;rename_i hcc;obtain⟨rfl,rfl⟩:=hcc;simp only[oe,pe]at he;obtain⟨rfl,rfl,rfl⟩:=he;simp only[Cn.ok]at hΦ;obtain⟨hΦ1,hΦ2,hΦ3⟩:=hΦ;rw[<-hΦ3]at hK;obtain⟨hxe,b,hl,hbo,hown⟩:=aB8 hx;obtain⟨us,hown,hrow,hh⟩:=hown H;have hx':=H.ev x;rw[hxe]at hx';simp only[RA]at hx';have hmem:(n,b)∈s.all:=ml_ _ (Ag hl);obtain⟨hdrop,hsub,hnot⟩:=H.dead' hl hbo;obtain⟨v',w',h',hr,k1,k2,k3,ad,l,cc,k4⟩:=Fg (P:=P) (ty:=o.type) (v:=val n) (M:=Aa val s.all) hdrop c1 c2 (Dh c3 rfl) hu hinfo
  hown hrow hh (fun g hg=>hnot g (B4 hg)) (fun g hg=>Inv.blk_mem hmem (Ar (B4 hg) hbo)) hsub hy' hΦ1 (h63 _ hΦ2) hΦ2
 refine AQ (u:=v') (w':=w') ?_ (hK h' w' _ v' (by simp only[RA];exact⟨by simp[An],.inl ⟨ad,l,cc,k4⟩⟩) k2.ins (Nx.ins ⟨k1,fun m hm=>by have:m≠d:=Nat.ne_of_gt (Nat.lt_of_lt_of_le c1 (Ic hm));simp[An,this],k3⟩));simp[execOp,ho,resolve,invoke,builtin,hx'.1,hr];cases he;cases he;cases he;cases he;cases he;cases he;cases he;cases he

theorem Ah.set{h:Hw}{w:World}{k:Nat}{y:D}{v:Value}(hy:RD h w y v)(hs:v.cells.size=k)(hn:y.nc=k)(h1:∀c∈v.cells.toList,c.oneCell'=true):
 ∀{xs:List D} {us:List Value} {i:Nat},Ah h w k xs us->i<xs.length->Ah h w k (xs.set i y) (us.take (i*k)++v.cells.toList++us.drop (i*k+k))
 |[],us,i,_,hi=>by simp at hi
 |x::xs,us,i,hr,hi=>by
  simp only[Ah]at hr;obtain⟨u,us',rfl,a1,a2,a3,a4,a5⟩:=hr;have hl:u.cells.toList.length=k:=by simpa using a1
  cases i with
  |zero=>
   simp only[List.set_cons_zero,Ah,Nat.zero_mul,List.take_zero,List.nil_append,Nat.zero_add]
   refine⟨v,us',?_,hs,hn,hy,h1,a5⟩
   rw[<-hl,List.drop_left]
  |succ i=>
   have ih:=Ah.set hy hs hn h1 (i:=i) a5 (by simpa using hi)
   simp only[List.set_cons_succ,Ah]
   refine⟨u,_,?_,a1,a2,a3,a4,ih⟩
   have e1:(u.cells.toList++us').take ((i+1)*k)=u.cells.toList++us'.take (i*k):=by rw[List.take_append,List.take_of_length_le (by rw[hl,Nat.add_mul];omega)];congr 2;rw[hl,Nat.add_mul];omega
   have e2:(u.cells.toList++us').drop ((i+1)*k+k)=us'.drop (i*k+k):=by rw[List.drop_append,List.drop_eq_nil_of_le (by rw[hl,Nat.add_mul];omega),List.nil_append];congr 1;rw[hl,Nat.add_mul];omega
   rw[e1,e2]
   simp only[List.append_assoc]

theorem ZU{s:St}{h:Hw}{w:World}{val:Val}{a:Act}(H:Holds s h w val a){n:Nat}{sl:Bool}{e:TypeId}{k:Nat}{xs ys:List D}{g:Nat}{us us':List Value}
 (hl:lk s.B n=some (.buf sl e k xs)) (hv:val n=(if sl then .slice (some ⟨g,0,none⟩) xs.length xs.length else .pointer (some ⟨g,0,none⟩))) (hm:xs.length<=maxLen)
 (hg:w.heap[g]? =some (.cells ⟨us⟩ e (0,0))) (h0:h g=0) (hlen:ys.length=xs.length) (hr:Ah h w k ys us'):
 Holds {s with B:=BG s.B n (.buf sl e k ys)} h (w.setRow g us'.toArray) val a/\Nx s h w val {s with B:=BG s.B n (.buf sl e k ys)} h (w.setRow g us'.toArray) val:=by
 have hmem:(n,Bk.buf sl e k xs)∈s.all:=ml_ _ (Ag hl)
 have hvb:vblk (val n)=some g:=by rw[hv];cases sl<;>rfl
 have hgM:g∈Aa val s.all:=Inv.blk_mem hmem (Ar hvb rfl)
 have hk:BI (Aa val s.all) h w h (w.setRow g us'.toArray):=EK hg h0 hgM
 have hsame:∀b',(n,b')∈s.B->b'.kd=(Bk.buf sl e k ys).kd:=fun b' hb'=>by have:=BB H.inv.nms (ml_ _ hb') hmem;rw[this];rfl
 refine⟨⟨RAs.stays hk.stays _ _ _ H.e,⟨?_,?_,?_,(by first|exact H.inv.glob.stays hk.stays|exact H.inv.glob|exact I.glob|exact I.glob.stays k.stays|exact H.inv.glob.stays k.stays|exact hI.glob|exact hInv.glob|exact hI0.glob|exact hIX.glob|exact H'.inv.glob|exact hI.glob.stays hk.stays|exact H1.inv.glob|exact hIR.glob|exact H.glob|exact hI.glob.stays k.stays|exact h.inv.glob|exact H2.inv.glob|exact hI'.glob)⟩,H.far,H.defs.keep H.inv hk (fun b hb=>hb) rfl⟩,⟨hk,fun _ _=>rfl,fun b hb=>.inl ?_⟩⟩
 intro p hp
 rcases ma.1 hp with hp|hp
 rcases BY hp with rfl|⟨hp,hne⟩
 refine⟨g,us',by rw[hlen];exact hv,by rw[hlen];exact hm,setRow_heap w g _ _ e _ hg,Ah.stays hk.stays _ _ _ hr,h0⟩
 refine RB.stays hk.stays (fun b hb=>⟨setRow_other w g b _ fun e=>?_,rfl⟩) (H.inv.rep p (ml_ _ hp))
 subst e
 have:=Bg H.inv.bks (ml_ _ hp) hmem hb (Ar hvb rfl)
 rw[this]at hne
 exact hne rfl
 refine RB.stays hk.stays (fun b hb=>⟨setRow_other w g b _ fun e=>?_,rfl⟩) (H.inv.rep p (mr_ _ hp))
 subst e
 have e4:=Bg H.inv.bks (mr_ _ hp) hmem hb (Ar hvb rfl)
 have hnd:=H.inv.nms
 simp only[St.all,AI]at hnd
 have m1:n∈AK s.B:=by simp only[AK,mm];exact⟨_,Ag hl,rfl⟩
 have m2:n∈AK s.F:=by simp only[AK,mm];exact⟨p,hp,by rw[e4]⟩
 exact(List.nodup_append.1 hnd).2.2 n m1 n m2 rfl
 have:=H.inv.nms
 simpa only[St.all,AI,BD]using this
 have:=H.inv.bks
 simpa only[St.all,AJ,A6 hsame]using this
 simpa only[St.all,AJ,A6 hsame]using hb

theorem ZT{s:St}{h:Hw}{w:World}{val:Val}{a:Act}(H:Holds s h w val a){n:Nat}{e:TypeId}{k:Nat}{xs:List D}(hl:lk s.B n=some (.buf true e k xs)):
 ∃h',Holds {s with B:=BG s.B n (.row e k xs)} h' w val a/\Nx s h w val {s with B:=BG s.B n (.row e k xs)} h' w val:=by
 have hmem:(n,Bk.buf true e k xs)∈s.all:=ml_ _ (Ag hl)
 obtain⟨g,us,hv,hm,hg,hrow,h0⟩:=H.inv.rep _ hmem
 simp only[if_true]at hv
 have hvb:vblk (val n)=some g:=by rw[hv];rfl
 have hgM:g∈Aa val s.all:=Inv.blk_mem hmem (Ar hvb rfl)
 have hlen:=Ah.length hrow
 have hk:BI (Aa val s.all) h w (Dz h g (xs.length*k)) w:=by refine⟨rfl,rfl,rfl,Nat.le_refl _,fun _ _ _ _ hc=>hc,fun b _=>?_,fun b _ hn=>⟨rfl,?_⟩⟩;simp only[Dz];split;rename_i e;subst e;omega;exact Nat.le_refl _;have hne:b≠g:=fun hh=>hn (hh▸hgM);simp only[Dz,hne,if_false]
 have hsame:∀b',(n,b')∈s.B->b'.kd=(Bk.row e k xs).kd:=fun b' hb'=>by have:=BB H.inv.nms (ml_ _ hb') hmem;rw[this];rfl
 refine⟨Dz h g (xs.length*k),⟨RAs.stays hk.stays _ _ _ H.e,⟨?_,?_,?_,(by first|exact H.inv.glob.stays hk.stays|exact H.inv.glob|exact I.glob|exact I.glob.stays k.stays|exact H.inv.glob.stays k.stays|exact hI.glob|exact hInv.glob|exact hI0.glob|exact hIX.glob|exact H'.inv.glob|exact hI.glob.stays hk.stays|exact H1.inv.glob|exact hIR.glob|exact H.glob|exact hI.glob.stays k.stays|exact h.inv.glob|exact H2.inv.glob|exact hI'.glob)⟩,H.far,H.defs⟩,⟨hk,fun _ _=>rfl,fun b hb=>.inl ?_⟩⟩
 intro p hp
 rcases ma.1 hp with hp|hp
 rcases BY hp with rfl|⟨hp,hne⟩
 refine⟨us,⟨hlen,.inr ⟨g,xs.length,⟨us⟩,hv,Nat.zero_le _,hg,Nat.le_refl _,hm,by simpa using hlen,?_⟩⟩,Ah.stays hk.stays _ _ _ hrow,fun g' hg'=>?_⟩
 rw[<-hlen];simp
 simp only[hv,Value.ownBlock,oe]at hg'
 subst hg'
 simp[Dz]
 refine RB.stays hk.stays (fun b hb=>⟨rfl,?_⟩) (H.inv.rep p (ml_ _ hp))
 have hbg:b≠g:=fun hh=>by subst hh;have:=Bg H.inv.bks (ml_ _ hp) hmem hb (Ar hvb rfl);rw[this]at hne;exact hne rfl
 simp only[Dz,hbg,if_false]
 refine RB.stays hk.stays (fun b hb=>⟨rfl,?_⟩) (H.inv.rep p (mr_ _ hp))
 have hbg:b≠g:=fun hh=>by
  subst hh;have e4:=Bg H.inv.bks (mr_ _ hp) hmem hb (Ar hvb rfl);have hnd:=H.inv.nms;simp only[St.all,AI]at hnd;have m1:n∈AK s.B:=by simp only[AK,mm];exact⟨_,Ag hl,rfl⟩
  have m2:n∈AK s.F:=by simp only[AK,mm];exact⟨p,hp,by rw[e4]⟩
  exact(List.nodup_append.1 hnd).2.2 n m1 n m2 rfl
 simp only[Dz,hbg,if_false]
 have:=H.inv.nms
 simpa only[St.all,AI,BD]using this
 have:=H.inv.bks
 simpa only[St.all,AJ,A6 hsame]using this
 simpa only[St.all,AJ,A6 hsame]using hb

def Cp:Value->D
 | .agg cs=>.agg (cs.toList.map C3)
 |x=>C3 x
theorem Jd{h w}{z:Value}(h1:∀x∈z.cells.toList,x.oneCell'=true):RD h w (Cp z) z:=by unfold Cp;split;rename_i cs;simp only[RD];exact⟨cs.toList,rfl,Mf cs.toList h1⟩;rename_i x hx;refine Et h w _ (h1 _ ?_);cases z<;>first|exact absurd rfl (hx _)|simp[Value.cells]
theorem Oe{h w}:∀(l:List Value),(∀x∈l,x.oneCell'=true)->Ah h w 1 (l.map C3) l
 |[],_=>by simp[Ah]
 |x::l,hl=>by
  have h1:=hl x (by simp);have hc:x.cells= #[x]:=by cases x<;>first|rfl|(simp[Value.oneCell']at h1)
  simp only[List.map_cons,Ah];refine⟨x,l,by simp[hc],by simp[hc],?_,Et h w x h1,by simpa[hc]using h1,Oe l fun y hy=>hl y (by simp[hy])⟩;unfold C3;split<;>rfl
theorem IS(z:Array Value)(n:Nat)(hz:0<z.size):(madeCells z ((n+1)*z.size)).toList=(madeCells z (n*z.size)).toList++z.toList:=by unfold madeCells;simp only[Array.toList_map,Array.toList_range];rw[Nat.add_mul,Nat.one_mul,List.range_add,List.map_append];congr 1;apply List.ext_getElem?;intro i;simp only[List.map_map,List.getElem?_map,List.getElem?_range,Function.comp_apply];by_cases hi:i<z.size;rw[List.getElem?_range hi];simp[Nat.add_mod,Nat.mod_eq_of_lt hi,hi];rw[List.getElem?_eq_none (by simpa using hi),List.getElem?_eq_none (by simpa using hi)];rfl
theorem GD{h w}{z:Value}(h1:∀x∈z.cells.toList,x.oneCell'=true)(hz:0<z.cells.size)(hn:(Cp z).nc=z.cells.size):∀n:Nat,Ah h w z.cells.size (List.replicate n (Cp z)) (madeCells z.cells (n*z.cells.size)).toList
 |0=>by simp[Ah,madeCells]
 |n+1=>by
  rw[IS _ _ hz,List.replicate_succ'];refine Ah.append (GD h1 hz hn n) ?_;simp only[Ah];exact⟨z,[],by simp,rfl,hn,Jd h1,h1,rfl⟩

def aZx(P:Program)(t:TypeId):Bool:=
 match P.underlying t with
 |some (.array _ _)=>true
 |_=>false
def Ff(P:Program)(o:Oper)(s:St)(wt:W):Option (Cn×A×List Ed):=
 match o.dst,o.op with
 |some d,.alloc t=>match (P.info? t).bind (·.zero)with
  |some z=>if z.cells.toList.all (·.oneCell')&&Nat.ble z.cells.size 16777216&&d<up&& !AV d s.E&& !BW d s.B then
   some (.t,.box d 0,[.add d (.buf false t 1 (z.cells.toList.map C3))])else none
  |none=>none
 |some d,.makeSlice t l c=>match Ck P t,s.ev l,s.ev c with
  |some e,.d (.v (.int _ n)),.d (.v (.int _ n'))=>match P.info? e with
   |some i=>match i.zero with
    |some z=>if i.bytes !=0&&z.cells.size==i.size&&i.size !=0&&z.cells.toList.all (·.oneCell')&&(Cp z).nc==z.cells.size&&d<up&& !AV d s.E&& !BW d s.B then
     some (.both (.le 0 n) (.both (.le n n') (.both (.le n' n) (.both (.fits [] (List.replicate n.toNat (Cp z)) i.bytes) (.app [] (List.replicate n.toNat (Cp z)) (K4 (fun _=>List.replicate n.toNat (Cp z)) wt))))),
      .row d,[.add d (.buf true e i.size (K4 (fun _=>List.replicate n.toNat (Cp z)) wt))])else none
    |none=>none
   |none=>none
  |_,_,_=>none
 |_,_=>none
theorem YS{P:Program}{o:Oper}{s:St}{wt:W}{Φ:Cn}{r:A}{es:List Ed}(he:Ff P o s wt=some (Φ,r,es)):EM P o s Φ.ok r (s.edit es):=by
 intro hΦ h w val a H K Q hK;unfold Ff at he;split at he;rename_i d t hd ho;split at he;rename_i z hz;split at he;rename_i hc;simp only[ba,decide_eq_true_eq,Bool.not_eq_true',Nat.ble_eq]at hc;obtain⟨⟨⟨⟨c1,c2⟩,c3⟩,c4⟩,c5⟩:=hc;simp only[oe,pe]at he;obtain⟨rfl,rfl,rfl⟩:=he;have h1:∀c∈z.cells.toList,c.oneCell'=true:=fun c hc=>(List.all_eq_true.1 c1) c hc;have hvd:An val d (.pointer (some ⟨w.heap.size,0,none⟩)) d=.pointer (some ⟨w.heap.size,0,none⟩):=by simp[An]
 obtain⟨f1,f2⟩:=H.fresh c3 c4 c5 (.cells z.cells t) (.pointer (some ⟨w.heap.size,0,none⟩)) 0 (.buf false t 1 (z.cells.toList.map C3)) rfl rfl (by refine⟨w.heap.size,z.cells.toList,by rw[hvd];rfl,by simp[maxLen];omega,by exact heap_alloc_new w _,Oe _ h1,by simp[Dz]⟩)
 refine AQ (u:=.pointer (some ⟨w.heap.size,0,none⟩)) (w':=w.alloc (.cells z.cells t)) ?_ (hK _ _ _ _ (by simp only[RA];exact⟨_,hvd,rfl⟩) f1.ins f2.ins);simp only[Option.bind_eq_some_iff]at hz;obtain⟨i,hi,hz⟩:=hz;simp[execOp,ho,Instr.alloc,zeroValue,typeInfo,hi,hz,newVar,newRow];cases he;cases he;rename_i d t l c hd ho;split at he;rename_i e k n k' n' hel hn hn';split at he;rename_i i hi;split at he;rename_i z hz;split at he;rename_i hc;simp only[ba,decide_eq_true_eq,Bool.not_eq_true',bne_iff_ne,ne_eq,beq_iff_eq]at hc;obtain⟨⟨⟨⟨⟨⟨⟨c1,c2⟩,c3⟩,c4⟩,c5⟩,c6⟩,c7⟩,c8⟩:=hc;simp only[oe,pe]at he;obtain⟨rfl,rfl,rfl⟩:=he;simp only[Cn.ok]at hΦ;obtain⟨p1,p2,p3,p4,p5⟩:=hΦ;obtain rfl:n=n':=Int.le_antisymm p2 p3;obtain⟨hu,_,_⟩:=CN hel;have h1:∀c∈z.cells.toList,c.oneCell'=true:=fun c hc=>(List.all_eq_true.1 c4) c hc;have el:=H.ev l;rw[hn]at el;simp only[RA,RD]at el;have ec:=H.ev c;rw[hn']at ec;simp only[RA,RD]at ec;have e0:K4 (fun _=>List.replicate n.toNat (Cp z)) wt=List.replicate n.toNat (Cp z):=by rw[<-p5];rfl
 rw[e0]at hK;simp only[List.length_nil,Nat.zero_add,List.length_replicate]at p4;have hb1:1<=i.bytes:=Nat.pos_of_ne_zero c1;have hnb:n.toNat<=140737488355328:=Nat.le_trans (Nat.le_mul_of_pos_right _ hb1) p4;have hrun:=run_make (P:=P) w t e i z hu hi hz k k' n n p1 (Int.le_refl _) (by
  have:((n.toNat*i.bytes:Nat):Int)<=140737488355328:=by omega
  rw[Int.natCast_mul,Int.toNat_of_nonneg p1,Int.mul_comm]at this;omega) (by omega)
 have hvd:An val d (.slice (some ⟨w.heap.size,0,none⟩) n.toNat n.toNat) d=.slice (some ⟨w.heap.size,0,none⟩) n.toNat n.toNat:=by simp[An]
 obtain⟨f1,f2⟩:=H.fresh c6 c7 c8 (.cells (madeCells z.cells (n.toNat*i.size)) e) (.slice (some ⟨w.heap.size,0,none⟩) n.toNat n.toNat) 0 (.buf true e i.size (List.replicate n.toNat (Cp z))) rfl rfl (by refine⟨w.heap.size,(madeCells z.cells (n.toNat*i.size)).toList,by rw[hvd];simp,by simp[maxLen];omega,by exact heap_alloc_new w _,?_,by simp[Dz]⟩;rw[<-c2];exact GD h1 (by rw[c2];exact Nat.pos_of_ne_zero c3) c5 _)
 refine AQ (u:=.slice (some ⟨w.heap.size,0,none⟩) n.toNat n.toNat) (w':=w.alloc (.cells (madeCells z.cells (n.toNat*i.size)) e)) ?_ (hK _ _ _ _ (by simp only[RA];exact⟨hvd.symm,hnd.sl _ _ _⟩) f1.ins f2.ins);simp[execOp,ho,el.1,ec.1,hrun];cases he;cases he;cases he;cases he;cases he

def HR(s:St)(x:A):Option (Nat×Bool×TypeId×Nat×List D):=
 match x with
 | .box n 0=>match lk s.B n with
  |some (.buf false e k xs)=>some (n,false,e,k,xs)
  |_=>none
 | .row n=>match lk s.B n with
  |some (.buf true e k xs)=>some (n,true,e,k,xs)
  |_=>none
 |_=>none
theorem Df{s:St}{h w val}{a:Act}(H:Holds s h w val a){x:A}{u:Value}(hr:RA h w val x u){n sl e k xs}(hb:HR s x=some (n,sl,e,k,xs)):
 lk s.B n=some (.buf sl e k xs)/\∃g us,val n=(if sl then .slice (some ⟨g,0,none⟩) xs.length xs.length else .pointer (some ⟨g,0,none⟩))/\xs.length<=maxLen/\
  w.heap[g]? =some (.cells ⟨us⟩ e (0,0))/\Ah h w k xs us/\h g=0/\u=(if sl then .slice (some ⟨g,0,none⟩) xs.length xs.length else .pointer (some ⟨g,0,none⟩)):=by
 unfold HR at hb
 split at hb
 rename_i m
 split at hb
 rename_i e' k' xs' hl
 simp only[oe,pe]at hb
 obtain⟨rfl,rfl,rfl,rfl,rfl⟩:=hb
 obtain⟨g,us,r1,r2,r3,r4,r5⟩:=H.inv.rep _ (ml_ _ (Ag hl))
 refine⟨hl,g,us,r1,r2,r3,r4,r5,?_⟩
 simp only[RA]at hr
 obtain⟨b,q1,q2⟩:=hr
 simp only at r1
 rw[q1]at r1
 simp at r1
 subst r1
 simpa using q2
 cases hb
 rename_i m
 split at hb
 rename_i e' k' xs' hl
 simp only[oe,pe]at hb
 obtain⟨rfl,rfl,rfl,rfl,rfl⟩:=hb
 obtain⟨g,us,r1,r2,r3,r4,r5⟩:=H.inv.rep _ (ml_ _ (Ag hl))
 refine⟨hl,g,us,r1,r2,r3,r4,r5,?_⟩
 simp only[RA]at hr
 rw[hr.1]
 exact r1
 cases hb
 cases hb

def I5(P:Program)(o:Oper)(s:St)(wt:W):Option (Cn×A×List Ed):=
 match o.op with
 | .indexAddr t x i=>match HR s (s.ev x),s.ev i,P.underlying t with
  |some (n,true,_,k,xs),.d (.v (.int _ i)),some (.slice e)=>if(P.info? e).isSome&&P.cellsOf e==k then some (.both (.le 0 i) (.le (i+1) xs.length),.ep n k i.toNat 0,[])else none
  |some (n,false,_,k,_),.d (.v (.int _ i)),some (.array m e)=>if(P.info? e).isSome&&P.cellsOf e==k&&Nat.blt 1 m then some (.both (.le 0 i) (.le (i+1) (m:Int)),.ep n k i.toNat 0,[])else none
  |_,_,_=>none
 | .load t x=>match s.ev x,wt with
  | .ep n k i off,.el y=>match lk s.B n with
   |some (.buf _ _ k' xs)=>if k'=k then(Hv P t (y.cells.map .d) off).map fun v=>(.elem xs i y,v,[])else none
   |_=>none
  |_,_=>none
 | .store t x y=>match s.ev x,toD (s.look (s.ev y))with
  | .ep n k i 0,some yd=>match lk s.B n with
   |some (.buf sl e k' xs)=>if k'=k/\(P.info? t).isSome=true/\P.cellsOf t=k/\yd.nc=k then
    some (.both (.le (i+1) xs.length) (.upd xs i yd (K4 (fun _=>xs.set i yd) wt)),.any,[.chg n (.buf sl e k (K4 (fun _=>xs.set i yd) wt))])else none
   |_=>none
  |_,_=>none
 | .slice t x none none none=>match HR s (s.ev x),P.underlying t with
  |some (n,false,_,k,_),some (.array m e)=>if(P.info? e).isSome&&Nat.ble m 16777216 then some (.t,.bsl n 0 m,[])else none
  |_,_=>none
 | .call c=>match c.callee,c.args.toList,c.argTypes.toList with
  | .builtin .len,[x],[t]=>match P.underlying t,HR s (s.ev x)with
   |some (.slice _),some (_,true,_,_,xs)=>(fun p=>(p.1,p.2,[]))<$>some (IU .i64 (.len xs) (fun _=>xs.length) wt)
   |_,_=>none
  |_,_,_=>none
 | .move x=>match HR s (s.ev x)with
  |some (n,true,e,k,xs)=>match wt with
   | .frz=>some (.t,.row n,[.chg n (.row e k xs)])
   |_=>some (.t,.row n,[])
  |_=>none
 |_=>none
theorem Ah.one_cells{h w k}{val:Val}{xs:List D}{us:List Value}(hr:Ah h w k xs us){i:Nat}{y:D}(hy:xs[i]? =some y):
 RAs h w val (y.cells.map .d) ((us.drop (i*k)).take k)/\(∀u∈(us.drop (i*k)).take k,u.oneCell'=true):=by
 obtain⟨u,a1,a2,a3,a4⟩:=hr.get _ _ hy
 have e:(us.drop (i*k)).take k=u.cells.toList:=by apply List.ext_getElem?;intro j;by_cases hj:j<k;rw[List.getElem?_take_of_lt hj,List.getElem?_drop,a4 j hj];simp;rw[List.getElem?_eq_none (by simp;omega),List.getElem?_eq_none (by simp[a2];omega)]
 rw[e]
 exact⟨DB a1.cells.1,a1.cells.2⟩
theorem YR{P:Program}{o:Oper}{s:St}{wt:W}{Φ:Cn}{r:A}{es:List Ed}(he:I5 P o s wt=some (Φ,r,es)):EM P o s Φ.ok r (s.edit es):=by
 intro hΦ h w val a H K Q hK;unfold I5 at he;split at he;rename_i t x i ho;split at he;rename_i n e0 k xs ki i' e hb hi hu;split at he;rename_i hc;simp only[ba,beq_iff_eq]at hc;simp only[oe,pe]at he;obtain⟨rfl,rfl,rfl⟩:=he;simp only[Cn.ok]at hΦ;obtain⟨hl,g,us,r1,r2,r3,r4,r5,r6⟩:=Df H (H.ev x) hb;simp only[if_true]at r1 r6;have hi':=H.ev i;rw[hi]at hi';simp only[RA,RD]at hi';refine AQ (u:=.pointer (some ⟨g,i'.toNat*k+0,none⟩)) (w':=w) ?_ (hK h w val _ (by simp only[RA];exact⟨g,by rw[r1];rfl,rfl⟩) H (Nx.refl s h w val rfl));have hlt:i'<(xs.length:Int):=by omega
 simp[execOp,ho,r6,hi'.1,Instr.indexAt,Sem.run_bind,run_underlying hu,asIntOf,hΦ.1,hlt,Aw hc.1,Addr.add_lit,hc.2];cases he;rename_i n e0 k xs ki i' m e hb hi hu;split at he;rename_i hc;simp only[ba,beq_iff_eq,Nat.blt_eq]at hc;simp only[oe,pe]at he;obtain⟨rfl,rfl,rfl⟩:=he;simp only[Cn.ok]at hΦ;obtain⟨hl,g,us,r1,r2,r3,r4,r5,r6⟩:=Df H (H.ev x) hb;simp only[Bool.false_eq_true,if_false]at r1 r6;have hi':=H.ev i;rw[hi]at hi';simp only[RA,RD]at hi';refine AQ (u:=.pointer (some ⟨g,i'.toNat*k+0,none⟩)) (w':=w) ?_ (hK h w val _ (by simp only[RA];exact⟨g,by rw[r1];rfl,rfl⟩) H (Nx.refl s h w val rfl));have hlt:i'<(m:Int):=by omega
 simp[execOp,ho,r6,hi'.1,Instr.indexAt,Sem.run_bind,run_underlying hu,asIntOf,hΦ.1,hlt,Aw hc.1.1,Addr.add_lit,hc.1.2,Instr.sureAddr];cases he;cases he;rename_i t x ho;split at he;rename_i n k i off y hx;split at he;rename_i sl e k' xs hl;split at he;rename_i hk;subst hk;simp only[om,pe]at he;obtain⟨v,hv,rfl,rfl,rfl⟩:=he;simp only[Cn.ok,Int.toNat_natCast]at hΦ;obtain⟨g,us,r1,r2,r3,r4,r5⟩:=H.inv.rep _ (ml_ _ (Ag hl));have hx':=H.ev x;rw[hx]at hx';simp only[RA]at hx';obtain⟨b,q1,q2⟩:=hx';have hbg:b=g:=by rw[r1]at q1;cases sl<;>(simp[vblk]at q1;exact q1.symm)
 subst hbg;obtain⟨c1,c2⟩:=Ah.one_cells (val:=val) r4 hΦ.2;obtain⟨u,g1,g2⟩:=Dl (P:=P) (a:=⟨b,i*k',none⟩) hv c1 c2 (fun j v hj=>by rw[Addr.add_lit,cell_of_row w b _ ⟨us⟩ e (0,0) r3];rw[List.getElem?_take]at hj;split at hj;rw[List.getElem?_drop]at hj;simpa using hj;cases hj)
 rw[Addr.add_lit]at g1;refine AQ (u:=u) (w':=w) ?_ (hK h w val u g2 H (Nx.refl s h w val rfl));simp[execOp,ho,q2,Instr.loadAt,Instr.sureAddr,g1];cases he;cases he;cases he;rename_i t x y ho;split at he;rename_i n k i yd hx hy;split at he;rename_i sl e k' xs hl;split at he;rename_i hc;obtain⟨hk,hI,hC,hn⟩:=hc;subst hk;simp only[oe,pe]at he;obtain⟨rfl,rfl,rfl⟩:=he;simp only[Cn.ok]at hΦ;obtain⟨p1,p2⟩:=hΦ;have e0:K4 (fun _=>xs.set i yd) wt=xs.set i yd:=p2.symm;rw[e0]at hK;obtain⟨g,us,r1,r2,r3,r4,r5⟩:=H.inv.rep _ (ml_ _ (Ag hl));have hx':=H.ev x;rw[hx]at hx';simp only[RA]at hx';obtain⟨b,q1,q2⟩:=hx';have hbg:b=g:=by rw[r1]at q1;cases sl<;>(simp[vblk]at q1;exact q1.symm)
 subst hbg;have hy':=Bm hy (H.look (H.ev y));have hcs:=hy'.cells;have hsz:(a.eval y).cells.size=k':=by rw[RD.size hy',hn]
 have hlt:i<xs.length:=by omega
 have hul:=Ah.length r4;have hle:i*k'+k'<=us.length:=by rw[hul];have:=Nat.mul_le_mul_right k' (show i+1<=xs.length from hlt);rw[Nat.add_mul]at this;omega
 have hst:=run_storeCells_at P b (i*k') e (a.eval y).cells.toList 0 ⟨us⟩ w r3 (by simp only[Nat.add_zero,Array.length_toList,hsz];simpa using hle) hcs.2;simp only[Nat.add_zero,Array.length_toList,hsz]at hst;obtain⟨f1,f2⟩:=ZU H hl r1 r2 r3 r5 (by simp) (Ah.set hy' hsz hn hcs.2 r4 hlt);refine Be (w':=w.setRow b (us.take (i*k')++(a.eval y).cells.toList++us.drop (i*k'+k')).toArray) ?_ (hK h _ val undef (by simp[RA]) f1 f2);have hnn:¬(a.eval y).cells.size≠P.cellsOf t:=by rw[hsz,hC];simp
 simp only[execOp,ho,Sem.run_bind,Instr.storeAt,q2,Instr.sureAddr,Sem.run_pure,Result.andThen_ok,storeVar,Aw hI,hnn,if_false,Nat.add_zero,hst];cases he;cases he;cases he;rename_i t x ho;split at he;rename_i n e0 k xs m e hb hu;split at he;rename_i hc;simp only[ba,Nat.ble_eq]at hc;simp only[oe,pe]at he;obtain⟨rfl,rfl,rfl⟩:=he;obtain⟨hl,g,us,r1,r2,r3,r4,r5,r6⟩:=Df H (H.ev x) hb;simp only[Bool.false_eq_true,if_false]at r1 r6;refine AQ (u:=.slice (some ⟨g,0,none⟩) m m) (w':=w) ?_ (hK h w val _ (by simp only[RA];exact⟨g,m,r1,rfl,Nat.le_refl _,by simp[maxLen];omega⟩) H (Nx.refl s h w val rfl));simp[execOp,ho,r6,Instr.sliceAt,Sem.run_bind,run_underlying hu,Instr.sureAddr,Instr.sliceBounds,Aw hc.1,Addr.add_lit];cases he;cases he;rename_i c ho;obtain⟨callee,⟨args⟩,⟨tys⟩⟩:=c;simp only at he;split at he;rename_i x t;split at he;rename_i e n e0 k xs hu hb;simp only[Option.map_eq_map,Option.map_some,oe,pe]at he;obtain⟨h1,h2,rfl⟩:=he;obtain⟨hl,g,us,r1,r2,r3,r4,r5,r6⟩:=Df H (H.ev x) hb;simp only[if_true]at r1 r6;have hr:RA h w val r (.int .i64 xs.length):=Bi (wt:=wt) (f:=.len xs) (v:=fun _=>(xs.length:Int)) (fun n hn=>hn) (Prod.ext h1 h2) hΦ;refine AQ (u:=.int .i64 xs.length) (w':=w) ?_ (hK h w val _ hr H (Nx.refl s h w val rfl));have h63:IntKind.i64.wrap (xs.length:Int)=xs.length:=IntWalk.i64_in _ ⟨by omega,by simp[maxLen]at r2;omega⟩;have hq:P.underlying t=some (.slice (P.elem t)):=by simp[Program.elem,hu]
 simp[execOp,ho,resolve,invoke,builtin,r6,run_len_slice w t o.type (some ⟨g,0,none⟩) xs.length xs.length hq,goInt,h63];cases he;cases he;rename_i x ho;split at he;rename_i n e k xs hb;obtain⟨hl,g,us,r1,r2,r3,r4,r5,r6⟩:=Df H (H.ev x) hb;simp only[if_true]at r1 r6;split at he;simp only[oe,pe]at he;obtain⟨rfl,rfl,rfl⟩:=he;obtain⟨h',f1,f2⟩:=ZT H hl;exact AQ (u:=a.eval x) (w':=w) (by simp[execOp,ho]) (hK h' w val _ (by simp only[RA];exact⟨by rw[r6,r1],.inl ⟨_,_,_,r6⟩⟩) f1 f2);simp only[oe,pe]at he;obtain⟨rfl,rfl,rfl⟩:=he;exact AQ (u:=a.eval x) (w':=w) (by simp[execOp,ho]) (hK h w val _ (by simp only[RA];exact⟨by rw[r6,r1],.inl ⟨_,_,_,r6⟩⟩) H (Nx.refl s h w val rfl));cases he;cases he

def HW(xs ys:List D):List D:=ys.take xs.length++xs.drop ys.length
def FK(s:St)(n:Nat)(y:Operand):Option (List D×Cn):=
 match s.look (s.ev y)with
 | .d (.sl ys)=>some (ys,.nc ys 1)
 | .bsl m 0 l=>match lk s.B m with
  |some (.buf _ _ 1 ys)=>if m=n then none else some (ys,.len ys l)
  |_=>none
 |_=>none
def De(P:Program)(o:Oper)(s:St)(wt:W):Option (Cn×A×List Ed):=
 match o.op with
 | .call c=>match c.callee,c.args.toList,c.argTypes.toList with
  | .builtin .copy,[x,y],[t,_]=>match HR s (s.ev x),Ck P t with
   |some (n,true,e,1,xs),some el=>match FK s n y with
    |some (ys,Φ)=>if P.cellsOf el=1 then
     some (.both Φ (.app (ys.take xs.length) (xs.drop ys.length) (K4 (fun _=>HW xs ys) wt)),it .i64 ((min ys.length xs.length:Nat):Int),[.chg n (.buf true e 1 (K4 (fun _=>HW xs ys) wt))])else none
    |none=>none
   |_,_=>none
  |_,_,_=>none
 |_=>none
theorem Ah.len1{h w}{xs:List D}{us:List Value}{k:Nat}(hr:Ah h w k xs us)(hn:∀y∈xs,y.nc=1):Ah h w 1 xs us:=by
 cases xs with
 |nil=>simpa[Ah]using hr
 |cons x xs=>
  have h1:=hr.mk x (by simp)
  rw[hn x (by simp)]at h1
  subst h1
  exact hr
theorem SM{s:St}{h w val}{a:Act}(H:Holds s h w val a){n:Nat}{y:Operand}{ys:List D}{Φ:Cn}(he:FK s n y=some (ys,Φ))(hΦ:Φ.ok):
 ∃ad cap us,a.eval y=.slice ad ys.length cap/\Ah h w 1 ys us/\(0<ys.length->∃b,ad=some b/\∀j v,us[j]? =some v->w.cell? (b.add j)=some v):=by
 unfold FK at he
 have hy:=H.look (H.ev y)
 split at he
 rename_i zs hz
 simp only[oe,pe]at he
 obtain⟨rfl,rfl⟩:=he
 rw[hz]at hy
 simp only[RA,RD]at hy
 obtain⟨ad,cap,k,us,e1,_,_,hr,hc⟩:=hy
 refine⟨ad,cap,us,e1,Ah.len1 hr hΦ,fun h0=>?_⟩
 obtain⟨b,hb,hc⟩:=hc h0
 exact⟨b,hb,fun j v hj=>(hc j v hj).1⟩
 rename_i m l hz
 split at he
 rename_i sl e zs hl
 split at he
 cases he
 simp only[oe,pe]at he
 obtain⟨rfl,rfl⟩:=he
 rw[hz]at hy
 simp only[RA]at hy
 obtain⟨b,c,q1,q2,_⟩:=hy
 simp only[Cn.ok]at hΦ
 obtain⟨g,us,r1,r2,r3,r4,r5⟩:=H.inv.rep _ (ml_ _ (Ag hl))
 simp only at r1
 rw[q1]at r1
 have hbg:b=g:=by cases sl<;>simp at r1;exact r1
 subst hbg
 refine⟨some ⟨b,0,none⟩,c,us,by rw[q2];congr 1;omega,r4,fun _=>⟨_,rfl,fun j v hj=>?_⟩⟩
 rw[Addr.add_lit,Nat.zero_add,cell_of_row w b j ⟨us⟩ e (0,0) r3]
 simpa using hj
 cases he
 cases he
theorem Na{P:Program}{o:Oper}{s:St}{wt:W}{Φ:Cn}{r:A}{es:List Ed}(he:De P o s wt=some (Φ,r,es)):EM P o s Φ.ok r (s.edit es):=by
 intro hΦ h w val a H K Q hK;unfold De at he;split at he;rename_i c ho;obtain⟨callee,⟨args⟩,⟨tys⟩⟩:=c;simp only at he;split at he;rename_i x y t t';split at he;rename_i n e xs el hb hel;split at he;rename_i ys Φ' hsrc;split at he;rename_i hk;simp only[oe,pe]at he;obtain⟨rfl,rfl,rfl⟩:=he;simp only[Cn.ok]at hΦ;obtain⟨p1,p2⟩:=hΦ;have e0:K4 (fun _=>HW xs ys) wt=HW xs ys:=p2.symm;rw[e0]at hK;obtain⟨hl,g,us,r1,r2,r3,r4,r5,r6⟩:=Df H (H.ev x) hb;simp only[if_true]at r1 r6;obtain⟨ad,cap,us2,e1,hr2,hc2⟩:=SM H hsrc p1;obtain⟨hu,hI,_⟩:=CN hel;have hsz:(P.info? el).map (·.size)=some 1:=by
  unfold Program.cellsOf at hk;cases hq:P.info? el with
  |none=>simp[hq]at hI
  |some i=>simp[hq]at hk⊢;exact hk
 have hl1:us.length=xs.length:=by simpa using Ah.length r4
 have hl2:us2.length=ys.length:=by simpa using Ah.length hr2
 have hlen:(HW xs ys).length=xs.length:=by simp[HW];omega
 have hrr:Ah h w 1 (HW xs ys) (us2.take xs.length++us.drop ys.length):=by have a1:=hr2.take xs.length;have a2:=r4.drop ys.length;rw[Nat.mul_one]at a1 a2;exact a1.append a2
 obtain⟨f1,f2⟩:=ZU H hl r1 r2 r3 r5 hlen hrr;refine AQ (u:=.int .i64 ((min ys.length xs.length:Nat):Int)) (w':=w.setRow g (us2.take xs.length++us.drop ys.length).toArray) ?_ (hK h _ val _ (aC2 _ _) f1 f2);have hrun:(Builtin.copy_ #[t,t'] o.type #[a.eval x,a.eval y]).run P w=.ok (goInt ((Nat.min ys.length xs.length:Nat):Int)) (w.setRow g (us2.take xs.length++us.drop ys.length).toArray):=by
  rw[r6,e1];by_cases hz:Nat.min ys.length xs.length=0;have h1:=run_copy_none (P:=P) w t t' o.type el (some ⟨g,0,none⟩) ad xs.length xs.length ys.length cap hu hsz hz;rw[h1];have e2:us2.take xs.length++us.drop ys.length=us:=by
   rcases Nat.eq_zero_or_pos ys.length with h0|h0
   have:us2=[]:=List.eq_nil_of_length_eq_zero (by omega);rw[this,h0];simp;have hx0:xs.length=0:=by simp[Nat.min_def]at hz;split at hz<;>omega
   have:us=[]:=List.eq_nil_of_length_eq_zero (by omega);rw[this,hx0];simp
  rw[e2,setRow_self w g us.toArray e (0,0) r3];rw[hz];rfl;have hpos:0<ys.length:=by
   rcases Nat.eq_zero_or_pos ys.length with h0|h0
   exact absurd (by rw[h0];exact Nat.zero_min _) hz;exact h0
  obtain⟨b,rfl,hcell⟩:=hc2 hpos;have hcl:(us2.take xs.length).length=Nat.min ys.length xs.length:=by rw[List.length_take,hl2,Nat.min_comm]
  have h1:=run_copy_row (P:=P) w t t' o.type el g 0 xs.length xs.length b ys.length cap ⟨us⟩ e (us2.take xs.length) hu hsz r3 hcl
   (fun j v hj=>hcell j v (by rw[List.getElem?_take]at hj;split at hj;exact hj;cases hj)) (by rw[hcl];simp[hl1];exact Nat.min_le_right _ _) (fun v hv=>hr2.one v (List.mem_of_mem_take hv))
  rw[h1,hcl];have e3:us.drop (Nat.min ys.length xs.length)=us.drop ys.length:=by
   rcases Nat.le_total ys.length xs.length with hh|hh
   have:Nat.min ys.length xs.length=ys.length:=Nat.min_eq_left hh;rw[this];have:Nat.min ys.length xs.length=xs.length:=Nat.min_eq_right hh;rw[this,List.drop_eq_nil_of_le (by omega),List.drop_eq_nil_of_le (by omega)]
  simp only[List.take_zero,List.nil_append,Nat.zero_add,e3]
 have hg:goInt ((Nat.min ys.length xs.length:Nat):Int)=.int .i64 ((min ys.length xs.length:Nat):Int):=rfl;rw[<-hg];simp[execOp,ho,resolve,invoke,builtin,hrun];cases he;cases he;cases he;cases he;cases he

def aO3(P:Program)(o:Oper)(s:St)(wt:W):Option (Cn×A×List Ed):=
 match o.op with
 | .binOp op t x y _=>match P.underlying t,s.ev y,s.ev x,s.look (s.ev x)with
  |some (.slice _),.nil,.nil,_=>match op with
   | .eql=>some (.t,bo true,[])
   | .neq=>some (.t,bo false,[])
   |_=>none
  |some (.slice _),.nil,_,.d (.sl xs)=>match op,wt with
   | .eql,.bit false=>some (.nonnil xs,bo false,[])
   | .neq,.bit true=>some (.nonnil xs,bo true,[])
   | .eql,_=>some (.t,.ub,[])
   | .neq,_=>some (.t,.ub,[])
   |_,_=>none
  |_,_,_,_=>none
 |_=>none
theorem Bs{op:BinOp}{t:TypeId}{x y:Operand}{a:Option Addr}{n c:Nat}{v:Value}:eqGuard op t x y (.slice a n c) v=pure ():=by cases op<;>rfl
theorem aNh{P:Program}{o:Oper}{s:St}{wt:W}{Φ:Cn}{r:A}{es:List Ed}(he:aO3 P o s wt=some (Φ,r,es)):EM P o s Φ.ok r (s.edit es):=by intro hΦ h w val a H K Q hK;unfold aO3 at he;split at he;rename_i op t x y yt ho;split at he;rename_i e hu hy hx;have ey:=H.ev y;rw[hy]at ey;simp only[RA]at ey;have ex:=H.ev x;rw[hx]at ex;simp only[RA]at ex;split at he;simp only[oe,pe]at he;obtain⟨rfl,rfl,rfl⟩:=he;exact AQ (u:=.bool true) (w':=w) (by simp[execOp,ho,ex,ey,Bs,Lib.run_eql_slice_nil w t e none 0 0 0 0 hu]) (hK h w val _ (by simp[bo,RA,RD,Value.oneCell']) H (Nx.refl s h w val rfl));simp only[oe,pe]at he;obtain⟨rfl,rfl,rfl⟩:=he;exact AQ (u:=.bool false) (w':=w) (by simp[execOp,ho,ex,ey,Bs,run_neq_slice_nil_any w t e none 0 0 0 0 hu]) (hK h w val _ (by simp[bo,RA,RD,Value.oneCell']) H (Nx.refl s h w val rfl));cases he;rename_i e xs hu hy hx _;have ey:=H.ev y;rw[hy]at ey;simp only[RA]at ey;have ex:=H.look (H.ev x);rw[hx]at ex;simp only[RA,RD]at ex;obtain⟨ad,cap,k,us,ex,hl,hm,hr,hc⟩:=ex;split at he;simp only[oe,pe]at he;obtain⟨rfl,rfl,rfl⟩:=he;simp only[Cn.ok]at hΦ;obtain⟨b,rfl,_⟩:=hc (List.length_pos_iff.2 hΦ);exact AQ (u:=.bool false) (w':=w) (by simp[execOp,ho,ex,ey,Bs,Lib.run_eql_slice_nil w t e (some b) xs.length cap 0 0 hu]) (hK h w val _ (by simp[bo,RA,RD,Value.oneCell']) H (Nx.refl s h w val rfl));simp only[oe,pe]at he;obtain⟨rfl,rfl,rfl⟩:=he;simp only[Cn.ok]at hΦ;obtain⟨b,rfl,_⟩:=hc (List.length_pos_iff.2 hΦ);exact AQ (u:=.bool true) (w':=w) (by simp[execOp,ho,ex,ey,Bs,run_neq_slice_nil_any w t e (some b) xs.length cap 0 0 hu]) (hK h w val _ (by simp[bo,RA,RD,Value.oneCell']) H (Nx.refl s h w val rfl));simp only[oe,pe]at he;obtain⟨rfl,rfl,rfl⟩:=he;exact AQ (u:=.bool ad.isNone) (w':=w) (by simp[execOp,ho,ex,ey,Bs,Lib.run_eql_slice_nil w t e ad xs.length cap 0 0 hu]) (hK h w val _ (by simp only[RA];exact⟨_,rfl⟩) H (Nx.refl s h w val rfl));simp only[oe,pe]at he;obtain⟨rfl,rfl,rfl⟩:=he;exact AQ (u:=.bool (!ad.isNone)) (w':=w) (by simp[execOp,ho,ex,ey,Bs,run_neq_slice_nil_any w t e ad xs.length cap 0 0 hu]) (hK h w val _ (by simp only[RA];exact⟨_,rfl⟩) H (Nx.refl s h w val rfl));cases he;cases he;cases he

def aJ4(s:St):List A->Option (List D)
 |[]=>some []
 |c::l=>match toD (s.look c),aJ4 s l with
  |some y,some ys=>some (y::ys)
  |_,_=>none
theorem aCe{s:St}{h w val}{a:Act}(H:Holds s h w val a):∀{cs:List A} {us:List Value} {xs:List D},aJ4 s cs=some xs->RAs h w val cs us->(∀u∈us,u.oneCell'=true)->RDs h w xs us
 |[],us,xs,he,hr,_=>by
  simp only[aJ4,oe]at he;subst he;simpa only[RAs,RDs]using hr
 |c::cs,us,xs,he,hr,h1=>by
  simp only[aJ4]at he;split at he;rename_i y ys hy hys;simp only[oe]at he;subst he;simp only[RAs]at hr;obtain⟨u,us',rfl,g1,g2⟩:=hr;simp only[RDs];exact⟨u,us',rfl,Bm hy (H.look g1),h1 u (by simp),aCe H hys g2 fun v hv=>h1 v (by simp[hv])⟩;cases he
theorem aIo{val:Val}{n:Nat}{b:Bk}(ho:b.isOld=true):CW val (n,b)=[]:=by cases b<;>first|rfl|cases ho
theorem aJ7{val:Val}{n:Nat}{b:Bk}(ho:b.isOld=true){B:Bx}:(Aa val (BG B n b)).Sublist (Aa val B):=Er (aIo ho)
theorem aNu{s:St}{h:Hw}{w:World}{val:Val}{a:Act}(H:Holds s h w val a){n:Nat}{cs:List A}{xs:List D}(hl:lk s.B n=some (.cells cs))(hx:aJ4 s cs=some xs):
 ∃h',Holds {s with B:=BG s.B n (.fz xs)} h' w val a/\Nx s h w val {s with B:=BG s.B n (.fz xs)} h' w val:=by
 have hmem:(n,Bk.cells cs)∈s.all:=ml_ _ (Ag hl)
 obtain⟨g,us,ty,hv,hg,hr,h1,h0⟩:=H.inv.rep _ hmem
 simp only at hv
 have hvb:vblk (val n)=some g:=by rw[hv];rfl
 have hgM:g∈Aa val s.all:=Inv.blk_mem hmem (Ar hvb rfl)
 have hd:=aCe H hx hr h1
 have hk:BI (Aa val s.all) h w (Dz h g us.length) w:=by refine⟨rfl,rfl,rfl,Nat.le_refl _,fun _ _ _ _ hc=>hc,fun b _=>?_,fun b _ hn=>⟨rfl,?_⟩⟩;simp only[Dz];split;rename_i e;subst e;omega;exact Nat.le_refl _;have hne:b≠g:=fun hh=>hn (hh▸hgM);simp only[Dz,hne,if_false]
 have hsub:(Aa val ({s with B:=BG s.B n (.fz xs)}:St).all).Sublist (Aa val s.all):=by simp only[St.all,AJ];exact(aJ7 rfl).append (.refl _)
 refine⟨Dz h g us.length,⟨RAs.stays hk.stays _ _ _ H.e,⟨?_,?_,H.inv.bks.sublist hsub,(by first|exact H.inv.glob.stays hk.stays|exact H.inv.glob|exact I.glob|exact I.glob.stays k.stays|exact H.inv.glob.stays k.stays|exact hI.glob|exact hInv.glob|exact hI0.glob|exact hIX.glob|exact H'.inv.glob|exact hI.glob.stays hk.stays|exact H1.inv.glob|exact hIR.glob|exact H.glob|exact hI.glob.stays k.stays|exact h.inv.glob|exact H2.inv.glob|exact hI'.glob)⟩,H.far,H.defs⟩,⟨hk,fun _ _=>rfl,fun b hb=>.inl (hsub.subset hb)⟩⟩
 have other:∀p∈s.all,p.1≠n->RB (Dz h g us.length) w val p.1 p.2:=by
  intro p hp hne;refine RB.stays hk.stays (fun b hb=>⟨rfl,?_⟩) (H.inv.rep p hp);have hbg:b≠g:=fun hh=>by subst hh;have:=Bg H.inv.bks hp hmem hb (Ar hvb rfl);rw[this]at hne;exact hne rfl
  simp only[Dz,hbg,if_false]
 intro p hp
 rcases ma.1 hp with hp|hp
 rcases BY hp with rfl|⟨hp,hne⟩
 refine⟨g,us,hv,RDs.stays hk.stays _ _ hd,fun j v hj=>⟨?_,?_⟩⟩
 rw[cell_of_row w g j ⟨us⟩ ty (0,0) hg];simpa using hj
 simp only[Dz,if_true];exact(List.getElem?_eq_some_iff.1 hj).1
 exact other p (ml_ _ hp) hne
 refine other p (mr_ _ hp) fun e=>?_
 have hnd:=H.inv.nms
 simp only[St.all,AI]at hnd
 have m1:n∈AK s.B:=by simp only[AK,mm];exact⟨_,Ag hl,rfl⟩
 have m2:n∈AK s.F:=by simp only[AK,mm];exact⟨p,hp,e⟩
 exact(List.nodup_append.1 hnd).2.2 n m1 n m2 rfl
 have:=H.inv.nms
 simpa only[St.all,AI,BD]using this
def R1(o:Oper)(s:St):Option A:=
 match o.op with
 | .box _ x=>match toD (s.look (s.ev x))with
  |some y=>some (.eptr y.cells)
  |none=>none
 |_=>none
theorem aIc{P:Program}{o:Oper}{s:St}{r:A}(he:R1 o s=some r):EM P o s True r s:=by
 intro _ h w val a H K Q hK;unfold R1 at he;split at he;rename_i t x ho;split at he;rename_i y hy;simp only[oe]at he;subst he;have hr:=Bm hy (H.look (H.ev x));have hcs:=hr.cells;have hkn:=Dk [] h w (.cells (a.eval x).cells t) (a.eval x).cells.size;have hk:=Dk (Aa val s.all) h w (.cells (a.eval x).cells t) (a.eval x).cells.size;refine AQ (u:=.pointer (some ⟨w.heap.size,0,none⟩)) (w':=w.alloc (.cells (a.eval x).cells t)) ?_ (hK (Dz h w.heap.size (a.eval x).cells.size) _ val _ ?_ ?_ ?_);simp[execOp,ho,Instr.box,newVar,newRow];simp only[RA];refine⟨_,(a.eval x).cells.toList,rfl,RDs.stays hk.stays _ _ hcs.1,fun j v hj=>?_⟩;rw[Addr.add_lit,Nat.zero_add];refine⟨?_,?_⟩;rw[cell_of_row _ w.heap.size j (a.eval x).cells t (0,0) (heap_alloc_new w _)];simpa using hj;simp only[Dz,if_true];have:=(List.getElem?_eq_some_iff.1 hj).1;simpa using this;refine⟨RAs.stays hk.stays _ _ _ H.e,⟨fun p hp=>RB.stays hk.stays (fun b hb=>?_) (H.inv.rep p hp),H.inv.nms,H.inv.bks,(by first|exact H.inv.glob.stays hk.stays|exact H.inv.glob|exact I.glob|exact I.glob.stays k.stays|exact H.inv.glob.stays k.stays|exact hI.glob|exact hInv.glob|exact hI0.glob|exact hIX.glob|exact H'.inv.glob|exact hI.glob.stays hk.stays|exact H1.inv.glob|exact hIR.glob|exact H.glob|exact hI.glob.stays k.stays|exact h.inv.glob|exact H2.inv.glob|exact hI'.glob)⟩,H.far,H.defs.keep H.inv hkn (fun b hb=>by cases hb) rfl⟩
 exact hkn.far b (H.inv.blk_lt b (Inv.blk_mem hp hb)) (by simp);exact⟨hk,fun _ _=>rfl,fun b hb=>.inl hb⟩;cases he;cases he
def FI(P:Program)(o:Oper)(s:St):Option (List Ed):=
 match EQ P o s with
 |some [.chg n (.cells cs)]=>match IO cs with
  |some xs=>some [.chg n (.fz xs)]
  |_=>none
 |_=>none
theorem IB{s:St}:∀{cs:List A} {xs:List D},IO cs=some xs->aJ4 s cs=some xs
 |[],xs,h=>by simpa only[IO,aJ4]using h
 | .d x::cs,xs,h=>by
  simp only[IO,om]at h;obtain⟨ys,h1,rfl⟩:=h;simp only[aJ4,St.look,toD,IB h1]
 | .nil::cs,xs,h=>by
  simp only[IO,om]at h;obtain⟨ys,h1,rfl⟩:=h;simp only[aJ4,St.look,toD,IB h1]
theorem Fl{B:Bx}{n:Nat}{b b0:Bk}(h:lk B n=some b0):lk (BG B n b) n=some b:=by
 induction B with
 |nil=>simp[lk]at h
 |cons p B ih=>
  by_cases hp:p.1=n
  simp[lk,BG,hp]
  have h2:lk B n=some b0:=by simpa[lk,hp]using h
  have:=ih h2
  simpa[lk,BG,hp]using this
theorem ZM{P:Program}{o:Oper}{s:St}{n:Nat}{cs:List A}(h:EQ P o s=some [.chg n (.cells cs)]):∃b,lk s.B n=some b:=by unfold EQ at h;split at h;split at h;split at h;rename_i hl _;split at h;simp only[oe,List.cons.injEq,Ed.chg.injEq,and_true]at h;obtain⟨rfl,_⟩:=h;exact⟨_,hl⟩;cases h;cases h;cases h;cases h
theorem aCm(B:Bx)(n:Nat)(b b':Bk):BG (BG B n b) n b'=BG B n b':=by simp only[BG,List.map_map];apply List.map_congr_left;intro p _;simp only[Function.comp_apply];split;simp;rename_i h;simp[h]
theorem SF{P:Program}{o:Oper}{s:St}{es:List Ed}(he:FI P o s=some es):EM P o s True .any (s.edit es):=by
 intro hΦ h w val a H K Q hK;unfold FI at he;split at he;rename_i n cs hst;split at he;rename_i xs hx;simp only[oe]at he;subst he;obtain⟨b0,hb0⟩:=ZM hst;refine LR hst trivial h w val a H K Q fun h1 w1 v1 u hr H1 n1=>?_;obtain⟨h2,H2,n2⟩:=aNu H1 (n:=n) (cs:=cs) (Fl hb0) (IB hx);have e:({s.edit [.chg n (.cells cs)]with B:=BG (s.edit [.chg n (.cells cs)]).B n (.fz xs)}:St)=s.edit [.chg n (.fz xs)]:=by simp only[St.edit,List.foldl_cons,List.foldl_nil,Al,aCm]
 rw[e]at H2 n2;exact hK h2 w1 v1 u (by simp[RA]) H2 (n1.trans n2);cases he;cases he
def aCu(s:St)(x:A):Option (Nat×TypeId×Nat×List D):=
 match x with
 | .row n=>match lk s.B n with
  |some (.rw e k xs)=>some (n,e,k,xs)
  |_=>none
 |_=>none
def aSw(s:St)(x:A):Bool:=(aCu s x).isSome
theorem Kt{s:St}{h w val}{a:Act}(H:Holds s h w val a){x:A}{u:Value}(hr:RA h w val x u){n e k xs}(hb:aCu s x=some (n,e,k,xs)):
 lk s.B n=some (.rw e k xs)/\u=val n/\∃us,w.ownsRow 0 e k (val n) xs.length us/\Ah h w k xs us/\∀g,(val n).ownBlock=some g->h g=0:=by
 unfold aCu at hb
 split at hb
 rename_i m
 split at hb
 rename_i e' k' xs' hl
 simp only[oe,pe]at hb
 obtain⟨rfl,rfl,rfl,rfl⟩:=hb
 simp only[RA]at hr
 exact⟨hl,hr.1,H.inv.rep _ (ml_ _ (Ag hl))⟩
 cases hb
 cases hb
theorem F9{s:St}{h w val}{a:Act}(H:Holds s h w val a){n e k xs}(hl:lk s.B n=some (.rw e k xs))(h0:0<xs.length):
 ∃g cap us,val n=.slice (some ⟨g,0,none⟩) xs.length cap/\w.heap[g]? =some (.cells ⟨us⟩ e (0,0))/\xs.length<=cap/\cap<=maxLen/\us.length=cap*k/\Ah h w k xs (us.take (xs.length*k))/\h g=0:=by
 obtain⟨vs,ho,hrow,hh⟩:=H.inv.rep _ (ml_ _ (Ag hl))
 rcases ho.2 with⟨_,hz⟩|⟨g,cap,cur,hv,_,hg,hn,hm,hs,ht⟩
 omega
 refine⟨g,cap,cur.toList,hv,by simpa using hg,hn,hm,by simpa using hs,by rw[ht];exact hrow,hh g ?_⟩
 simp only at hv
 rw[hv];rfl

theorem aCa{s:St}{h:Hw}{w:World}{val:Val}{a:Act}(H:Holds s h w val a){n:Nat}{e:TypeId}{k:Nat}{xs ys:List D}{g cap:Nat}{us us':List Value}
 (hl:lk s.B n=some (.rw e k xs)) (hv:val n=.slice (some ⟨g,0,none⟩) xs.length cap) (hg:w.heap[g]? =some (.cells ⟨us⟩ e (0,0))) (hn:xs.length<=cap) (hm:cap<=maxLen) (h0:h g=0)
 (hs:us'.length=cap*k) (hlen:ys.length=xs.length) (hr:Ah h w k ys (us'.take (xs.length*k))):
 Holds {s with B:=BG s.B n (.rw e k ys)} h (w.setRow g us'.toArray) val a/\Nx s h w val {s with B:=BG s.B n (.rw e k ys)} h (w.setRow g us'.toArray) val:=by
 have hmem:(n,Bk.rw e k xs)∈s.all:=ml_ _ (Ag hl)
 have hvb:vblk (val n)=some g:=by rw[hv];rfl
 have hgM:g∈Aa val s.all:=Inv.blk_mem hmem (Ar hvb rfl)
 have hk:BI (Aa val s.all) h w h (w.setRow g us'.toArray):=EK hg h0 hgM
 have hsame:∀b',(n,b')∈s.B->b'.kd=(Bk.rw e k ys).kd:=fun b' hb'=>by have:=BB H.inv.nms (ml_ _ hb') hmem;rw[this];rfl
 refine⟨⟨RAs.stays hk.stays _ _ _ H.e,⟨?_,?_,?_,(by first|exact H.inv.glob.stays hk.stays|exact H.inv.glob|exact I.glob|exact I.glob.stays k.stays|exact H.inv.glob.stays k.stays|exact hI.glob|exact hInv.glob|exact hI0.glob|exact hIX.glob|exact H'.inv.glob|exact hI.glob.stays hk.stays|exact H1.inv.glob|exact hIR.glob|exact H.glob|exact hI.glob.stays k.stays|exact h.inv.glob|exact H2.inv.glob|exact hI'.glob)⟩,H.far,H.defs.keep H.inv hk (fun b hb=>hb) rfl⟩,⟨hk,fun _ _=>rfl,fun b hb=>.inl ?_⟩⟩
 intro p hp
 rcases ma.1 hp with hp|hp
 rcases BY hp with rfl|⟨hp,hne⟩
 refine⟨us'.take (xs.length*k),⟨by have:=Ah.length hr;rw[hlen]at this⊢;exact this,.inr ⟨g,cap,us'.toArray,by rw[hlen];exact hv,Nat.zero_le _,setRow_heap w g _ _ e _ hg,by rw[hlen];exact hn,hm,by simpa using hs,by rw[hlen]⟩⟩,Ah.stays hk.stays _ _ _ hr,fun g' hg'=>?_⟩
 simp only[hv,Value.ownBlock,oe]at hg'
 subst hg';exact h0
 refine RB.stays hk.stays (fun b hb=>⟨setRow_other w g b _ fun e=>?_,rfl⟩) (H.inv.rep p (ml_ _ hp))
 subst e
 have:=Bg H.inv.bks (ml_ _ hp) hmem hb (Ar hvb rfl)
 rw[this]at hne
 exact hne rfl
 refine RB.stays hk.stays (fun b hb=>⟨setRow_other w g b _ fun e=>?_,rfl⟩) (H.inv.rep p (mr_ _ hp))
 subst e
 have e4:=Bg H.inv.bks (mr_ _ hp) hmem hb (Ar hvb rfl)
 have hnd:=H.inv.nms
 simp only[St.all,AI]at hnd
 have m1:n∈AK s.B:=by simp only[AK,mm];exact⟨_,Ag hl,rfl⟩
 have m2:n∈AK s.F:=by simp only[AK,mm];exact⟨p,hp,by rw[e4]⟩
 exact(List.nodup_append.1 hnd).2.2 n m1 n m2 rfl
 have:=H.inv.nms
 simpa only[St.all,AI,BD]using this
 have:=H.inv.bks
 simpa only[St.all,AJ,A6 hsame]using this
 simpa only[St.all,AJ,A6 hsame]using hb

def SD(P:Program)(o:Oper)(s:St)(wt:W):Option (Cn×A×List Ed):=
 match o.op with
 | .indexAddr t x i=>match aCu s (s.ev x),s.ev i,P.underlying t with
  |some (n,_,k,xs),.d (.v (.int _ i)),some (.slice e)=>if(P.info? e).isSome&&P.cellsOf e==k then some (.both (.le 0 i) (.le (i+1) xs.length),.ep n k i.toNat 0,[])else none
  |_,_,_=>none
 | .load t x=>match s.ev x,wt with
  | .ep n k i off,.el y=>match lk s.B n with
   |some (.rw _ k' xs)=>if k'=k then(Hv P t (y.cells.map .d) off).map fun v=>(.elem xs i y,v,[])else none
   |_=>none
  |_,_=>none
 | .store t x y=>match s.ev x,toD (s.look (s.ev y))with
  | .ep n k i 0,some yd=>match lk s.B n with
   |some (.rw e k' xs)=>if k'=k/\(P.info? t).isSome=true/\P.cellsOf t=k/\yd.nc=k then
    some (.both (.le (i+1) xs.length) (.upd xs i yd (K4 (fun _=>xs.set i yd) wt)),.any,[.chg n (.rw e k (K4 (fun _=>xs.set i yd) wt))])else none
   |_=>none
  |_,_=>none
 | .call c=>match c.callee,c.args.toList,c.argTypes.toList with
  | .builtin .len,[x],[t]=>match P.underlying t,aCu s (s.ev x)with
   |some (.slice _),some (_,_,_,xs)=>(fun p=>(p.1,p.2,[]))<$>some (IU .i64 (.len xs) (fun _=>xs.length) wt)
   |_,_=>none
  |_,_,_=>none
 |_=>none
theorem aIm{P:Program}{o:Oper}{s:St}{wt:W}{Φ:Cn}{r:A}{es:List Ed}(he:SD P o s wt=some (Φ,r,es)):EM P o s Φ.ok r (s.edit es):=by
 intro hΦ h w val a H K Q hK;unfold SD at he;split at he;rename_i t x i ho;split at he;rename_i n e0 k xs ki i' e hb hi hu;split at he;rename_i hc;simp only[ba,beq_iff_eq]at hc;simp only[oe,pe]at he;obtain⟨rfl,rfl,rfl⟩:=he;simp only[Cn.ok]at hΦ;obtain⟨hl,hu1,_⟩:=Kt H (H.ev x) hb;obtain⟨g,cap,us,r1,r3,r4,r5,r6,r7,r8⟩:=F9 H hl (by omega);have hi':=H.ev i;rw[hi]at hi';simp only[RA,RD]at hi';rw[r1]at hu1;refine AQ (u:=.pointer (some ⟨g,i'.toNat*k+0,none⟩)) (w':=w) ?_ (hK h w val _ (by simp only[RA];exact⟨g,by rw[r1];rfl,rfl⟩) H (Nx.refl s h w val rfl));have hlt:i'<(xs.length:Int):=by omega
 simp[execOp,ho,hu1,hi'.1,Instr.indexAt,Sem.run_bind,run_underlying hu,asIntOf,hΦ.1,hlt,Aw hc.1,Addr.add_lit,hc.2];cases he;cases he;rename_i t x ho;split at he;rename_i n k i off y hx;split at he;rename_i e k' xs hl;split at he;rename_i hk;subst hk;simp only[om,pe]at he;obtain⟨v,hv,rfl,rfl,rfl⟩:=he;simp only[Cn.ok,Int.toNat_natCast]at hΦ;have hlt:i<xs.length:=(List.getElem?_eq_some_iff.1 hΦ.2).1;obtain⟨g,cap,us,r1,r3,r4,r5,r6,r7,r8⟩:=F9 H hl (by omega);have hx':=H.ev x;rw[hx]at hx';simp only[RA]at hx';obtain⟨b,q1,q2⟩:=hx';have hbg:b=g:=by rw[r1]at q1;simp[vblk]at q1;exact q1.symm
 subst hbg;obtain⟨c1,c2⟩:=Ah.one_cells (val:=val) r7 hΦ.2;obtain⟨u,g1,g2⟩:=Dl (P:=P) (a:=⟨b,i*k',none⟩) hv c1 c2 (fun j v hj=>by rw[Addr.add_lit,cell_of_row w b _ ⟨us⟩ e (0,0) r3];rw[List.getElem?_take]at hj;split at hj;rw[List.getElem?_drop,List.getElem?_take]at hj;split at hj;simpa using hj;cases hj;cases hj)
 rw[Addr.add_lit]at g1;refine AQ (u:=u) (w':=w) ?_ (hK h w val u g2 H (Nx.refl s h w val rfl));simp[execOp,ho,q2,Instr.loadAt,Instr.sureAddr,g1];cases he;cases he;cases he;rename_i t x y ho;split at he;rename_i n k i yd hx hy;split at he;rename_i e k' xs hl;split at he;rename_i hc;obtain⟨hk,hI,hC,hn⟩:=hc;subst hk;simp only[oe,pe]at he;obtain⟨rfl,rfl,rfl⟩:=he;simp only[Cn.ok]at hΦ;obtain⟨p1,p2⟩:=hΦ;have e0:K4 (fun _=>xs.set i yd) wt=xs.set i yd:=p2.symm;rw[e0]at hK;have hlt:i<xs.length:=by omega
 obtain⟨g,cap,us,r1,r3,r4,r5,r6,r7,r8⟩:=F9 H hl (by omega);have hx':=H.ev x;rw[hx]at hx';simp only[RA]at hx';obtain⟨b,q1,q2⟩:=hx';have hbg:b=g:=by rw[r1]at q1;simp[vblk]at q1;exact q1.symm
 subst hbg;have hy':=Bm hy (H.look (H.ev y));have hcs:=hy'.cells;have hsz:(a.eval y).cells.size=k':=by rw[RD.size hy',hn]
 have hle:i*k'+k'<=xs.length*k':=by have:=Nat.mul_le_mul_right k' (show i+1<=xs.length from hlt);rw[Nat.add_mul]at this;omega
 have hle2:xs.length*k'<=cap*k':=Nat.mul_le_mul_right k' r4;have hst:=run_storeCells_at P b (i*k') e (a.eval y).cells.toList 0 ⟨us⟩ w r3 (by simp only[Nat.add_zero,Array.length_toList,hsz];simp;omega) hcs.2;simp only[Nat.add_zero,Array.length_toList,hsz]at hst;have hrow:=Ah.set hy' hsz hn hcs.2 r7 hlt;have et:(us.take (i*k')++(a.eval y).cells.toList++us.drop (i*k'+k')).take (xs.length*k')=(us.take (xs.length*k')).take (i*k')++(a.eval y).cells.toList++(us.take (xs.length*k')).drop (i*k'+k'):=by rw[List.take_append,List.take_of_length_le (by simp[hsz];omega),List.take_take,Nat.min_eq_left (by omega),List.drop_take];congr 2;simp[hsz];omega
 rw[<-et]at hrow;obtain⟨f1,f2⟩:=aCa H hl r1 r3 r4 r5 r8 (us':=us.take (i*k')++(a.eval y).cells.toList++us.drop (i*k'+k')) (by simp[hsz];omega) (by simp) hrow;refine Be (w':=w.setRow b (us.take (i*k')++(a.eval y).cells.toList++us.drop (i*k'+k')).toArray) ?_ (hK h _ val undef (by simp[RA]) f1 f2);have hnn:¬(a.eval y).cells.size≠P.cellsOf t:=by rw[hsz,hC];simp
 simp only[execOp,ho,Sem.run_bind,Instr.storeAt,q2,Instr.sureAddr,Sem.run_pure,Result.andThen_ok,storeVar,Aw hI,hnn,if_false,Nat.add_zero,hst];cases he;cases he;cases he;rename_i c ho;obtain⟨callee,⟨args⟩,⟨tys⟩⟩:=c;simp only at he;split at he;rename_i x t;split at he;rename_i e n e0 k xs hu hb;simp only[Option.map_eq_map,Option.map_some,oe,pe]at he;obtain⟨h1,h2,rfl⟩:=he;obtain⟨hl,hu1,us,ho1,_,_⟩:=Kt H (H.ev x) hb;have hr:RA h w val r (.int .i64 xs.length):=Bi (wt:=wt) (f:=.len xs) (v:=fun _=>(xs.length:Int)) (fun n hn=>hn) (Prod.ext h1 h2) hΦ;refine AQ (u:=.int .i64 xs.length) (w':=w) ?_ (hK h w val _ hr H (Nx.refl s h w val rfl));have hq:P.underlying t=some (.slice (P.elem t)):=by simp[Program.elem,hu]
 obtain⟨ad,cap,hv,hle⟩:∃ad cap,val n=.slice ad xs.length cap/\xs.length<=maxLen:=by
  rcases ho1.2 with⟨hv,hz⟩|⟨g,cap,cur,hv,_,_,hn,hm,_⟩
  exact⟨none,0,by rw[hv,hz],by omega⟩;exact⟨_,cap,hv,Nat.le_trans hn hm⟩
 have h63:IntKind.i64.wrap (xs.length:Int)=xs.length:=IntWalk.i64_in _ ⟨by omega,by simp[maxLen]at hle;omega⟩;simp[execOp,ho,resolve,invoke,builtin,hu1,hv,run_len_slice w t o.type ad xs.length cap hq,goInt,h63];cases he;cases he;cases he
theorem aJo{us us0 yc:List Value}{p k off m N:Nat}(h0:us0.length=k)(hm:yc.length=m)(ho:off+m<=k)(hN:p+k<=N)(hel:∀j,j<k->us[p+j]? =us0[j]?):
 (us.take (p+off)++yc++us.drop (p+off+m)).take N=(us.take N).take p++(us0.take off++yc++us0.drop (off+m))++(us.take N).drop (p+k):=by
 have hlen:0<k->p+k<=us.length:=fun hk=>by have:=hel (k-1) (by omega);rw[List.getElem?_eq_getElem (show k-1<us0.length by omega)]at this;have:=(List.getElem?_eq_some_iff.1 this).1;omega
 have e0:(us.drop p).take k=us0:=by apply List.ext_getElem?;intro j;by_cases hj:j<k;rw[List.getElem?_take,if_pos hj,List.getElem?_drop,hel j hj];rw[List.getElem?_eq_none (by simp;omega),List.getElem?_eq_none (by omega)]
 by_cases hk:k=0
 subst hk
 have h1:us0=[]:=List.length_eq_zero_iff.1 h0
 have h2:yc=[]:=List.length_eq_zero_iff.1 (by omega)
 have h3:off=0:=by omega
 have h4:m=0:=by omega
 subst h1;subst h2;subst h3;subst h4
 simp only[Nat.add_zero,List.append_nil,List.take_nil,List.drop_nil,List.take_append_drop]
 have hl:=hlen (by omega)
 obtain⟨A,R,e1,hA⟩:∃A R,us=A++(us0++R)/\A.length=p:=by refine⟨us.take p,us.drop (p+k),?_,by simp;omega⟩;rw[<-e0,<-List.drop_drop,List.take_append_drop,List.take_append_drop]
 have t1:us.take (p+off)=A++us0.take off:=by
  have a1:p+off-A.length=off:=by omega
  have a2:off-us0.length=0:=by omega
  rw[e1,List.take_append,List.take_of_length_le (l:=A) (by omega),List.take_append,a1,a2,List.take_zero,List.append_nil]
 have t2:us.drop (p+off+m)=us0.drop (off+m)++R:=by
  rw[e1,List.drop_append,List.drop_eq_nil_of_le (by omega),List.nil_append,List.drop_append];have a1:p+off+m-A.length=off+m:=by omega
  have a2:off+m-us0.length=0:=by omega
  rw[a1,a2,List.drop_zero]
 have t3:us.take N=A++(us0++R.take (N-p-k)):=by
  rw[e1,List.take_append,List.take_of_length_le (by omega),List.take_append,List.take_of_length_le (l:=us0) (by omega)];have a1:N-A.length-us0.length=N-p-k:=by omega
  rw[a1]
 rw[t1,t2,t3]
 have r1:(A++(us0++R.take (N-p-k))).take p=A:=by rw[<-hA,List.take_left]
 have r2:(A++(us0++R.take (N-p-k))).drop (p+k)=R.take (N-p-k):=by rw[<-List.append_assoc,show p+k=(A++us0).length by simp[hA,h0],List.drop_left]
 rw[r1,r2]
 have l1:(A++us0.take off++yc++us0.drop (off+m)).length=p+k:=by simp[hA,h0,hm];omega
 have e5:A++us0.take off++yc++(us0.drop (off+m)++R)=(A++us0.take off++yc++us0.drop (off+m))++R:=by simp only[List.append_assoc]
 rw[e5,List.take_append,List.take_of_length_le (by omega),l1,Nat.sub_sub]
 simp only[List.append_assoc]
def aO4(P:Program)(o:Oper)(s:St)(y0:D)(zs:List D):Option (Cn×A×List Ed):=
 match o.op with
 | .store t x y=>match s.ev x,toD (s.look (s.ev y)),y0 with
  | .ep n k i off,some yd,.agg cs=>match lk s.B n with
   |some (.rw e k' xs)=>if k'=k/\(P.info? t).isSome=true/\P.cellsOf t=yd.nc/\off+yd.nc<=k/\cs.length=k then
    some (.both (.elem xs i (.agg cs)) (.upd xs i (.agg (cs.take off++yd.cells++cs.drop (off+yd.nc))) zs),.any,[.chg n (.rw e k zs)])else none
   |_=>none
  |_,_,_=>none
 |_=>none
theorem aNk{P:Program}{o:Oper}{s:St}{y0:D}{zs:List D}{Φ:Cn}{r:A}{es:List Ed}(he:aO4 P o s y0 zs=some (Φ,r,es)):EM P o s Φ.ok r (s.edit es):=by
 intro hΦ h w val a H K Q hK;unfold aO4 at he;split at he;rename_i t x y ho;split at he;rename_i n k i off yd cs hx hy;split at he;rename_i e k' xs hl;split at he;rename_i hc;obtain⟨hk,hI,hC,hoff,hcs0⟩:=hc;subst hk;simp only[oe,pe]at he;obtain⟨rfl,rfl,rfl⟩:=he;simp only[Cn.ok,Int.toNat_natCast]at hΦ;obtain⟨⟨_,p1⟩,p2⟩:=hΦ;subst p2;have hlt:i<xs.length:=(List.getElem?_eq_some_iff.1 p1).1;obtain⟨g,cap,us,r1,r3,r4,r5,r6,r7,r8⟩:=F9 H hl (by omega);have hx':=H.ev x;rw[hx]at hx';simp only[RA]at hx';obtain⟨b,q1,q2⟩:=hx';have hbg:b=g:=by rw[r1]at q1;simp[vblk]at q1;exact q1.symm
 subst hbg;have hy':=Bm hy (H.look (H.ev y));have hcs:=hy'.cells;have hsz:(a.eval y).cells.size=yd.nc:=RD.size hy';have hsl:(a.eval y).cells.toList.length=yd.nc:=by simpa using hsz
 obtain⟨u,a1,a2,a3,a4⟩:=Ah.get r7 i (.agg cs) p1;simp only[RD]at a1;obtain⟨us0,rfl,b1⟩:=a1;have h0:us0.length=k':=by simpa[Value.cells]using a2
 have hle:i*k'+k'<=xs.length*k':=by have:=Nat.mul_le_mul_right k' (show i+1<=xs.length from hlt);rw[Nat.add_mul]at this;omega
 have hle2:xs.length*k'<=cap*k':=Nat.mul_le_mul_right k' r4;have hst:=run_storeCells_at P b (i*k'+off) e (a.eval y).cells.toList 0 ⟨us⟩ w r3 (by simp only[Nat.add_zero,Array.length_toList,hsz];simp;omega) hcs.2;simp only[Nat.add_zero,Array.length_toList,hsz]at hst;have hnew:RDs h w (cs.take off++yd.cells++cs.drop (off+yd.nc)) (us0.take off++(a.eval y).cells.toList++us0.drop (off+yd.nc)):=((b1.take off).append hcs.1).append (b1.drop _);have hnc:(D.agg (cs.take off++yd.cells++cs.drop (off+yd.nc))).nc=k':=by have hyn:yd.cells.length=yd.nc:=rfl;show(cs.take off++yd.cells++cs.drop (off+yd.nc)).length=k';rw[List.length_append,List.length_append,List.length_take,List.length_drop,hyn];omega
 have hrow:Ah h w k' (xs.set i (.agg (cs.take off++yd.cells++cs.drop (off+yd.nc)))) ((us.take (xs.length*k')).take (i*k')++(us0.take off++(a.eval y).cells.toList++us0.drop (off+yd.nc))++(us.take (xs.length*k')).drop (i*k'+k')):=Ah.set (y:=.agg (cs.take off++yd.cells++cs.drop (off+yd.nc))) (v:=.agg ⟨us0.take off++(a.eval y).cells.toList++us0.drop (off+yd.nc)⟩) (k:=k') (i:=i)
  (by simp only[RD];exact⟨_,rfl,hnew⟩) (by show(us0.take off++(a.eval y).cells.toList++us0.drop (off+yd.nc)).length=k';rw[List.length_append,List.length_append,List.length_take,List.length_drop,hsl];omega) hnc (by intro c hc;exact hnew.one c hc) r7 hlt
 have hel:∀j,j<k'->us[i*k'+j]? =us0[j]? :=fun j hj=>by have:=a4 j hj;rw[List.getElem?_take,if_pos (by omega)]at this;simpa[Value.cells]using this
 have et:=aJo (us:=us) (yc:=(a.eval y).cells.toList) (p:=i*k') (N:=xs.length*k') h0 hsl hoff hle hel;rw[<-et]at hrow;obtain⟨f1,f2⟩:=aCa H hl r1 r3 r4 r5 r8 (us':=us.take (i*k'+off)++(a.eval y).cells.toList++us.drop (i*k'+off+yd.nc)) (by simp[hsz];omega) (by simp) hrow;refine Be (w':=w.setRow b (us.take (i*k'+off)++(a.eval y).cells.toList++us.drop (i*k'+off+yd.nc)).toArray) ?_ (hK h _ val undef (by simp[RA]) f1 f2);have hnn:¬(a.eval y).cells.size≠P.cellsOf t:=by rw[hsz,hC];simp
 simp only[execOp,ho,Sem.run_bind,Instr.storeAt,q2,Instr.sureAddr,Sem.run_pure,Result.andThen_ok,storeVar,Aw hI,hnn,if_false,hst];cases he;cases he;cases he;cases he
def aSv:Operand->Bool
 | .global _=>true
 |_=>false
def aOv(l:List UInt8):D:=.v (.string ⟨⟨l⟩⟩)
def aNe(P:Program)(o:Oper):Option A:=
 match o.op with
 | .slice t (.global 0) none none none=>match P.underlying t with
  |some (.array m e)=>if(P.info? e).isSome&&(P.cellsOf e==1&&Nat.beq m By.length)then some (.d (.sl (By.map aOv)))else none
  |_=>none
 |_=>none
theorem Ie{h:Hw}{w:World}:∀l:List (List UInt8),Ah h w 1 (l.map aOv) (l.map fun c=>.string ⟨⟨c⟩⟩)
 |[]=>by simp only[List.map_nil,Ah]
 |c::l=>by
  simp only[List.map_cons,Ah,aOv];exact⟨.string ⟨⟨c⟩⟩,l.map fun c=>.string ⟨⟨c⟩⟩,rfl,rfl,rfl,by simp only[RD];exact⟨trivial,rfl⟩,by simp[Value.cells,Value.oneCell'],Ie l⟩
theorem aIf{P:Program}{o:Oper}{s:St}{r:A}(he:aNe P o=some r):EM P o s True r (s.edit []):=by intro _ h w val a H K Q hK;unfold aNe at he;split at he;rename_i t ho;split at he;rename_i m e hu;split at he;rename_i hc;simp only[ba,beq_iff_eq,Nat.beq_eq]at hc;obtain⟨hc1,hc2,rfl⟩:=hc;simp only[oe]at he;subst he;refine AQ (u:=.slice (some ⟨0,0,none⟩) By.length By.length) (w':=w) ?_ (hK h w val _ ?_ H (Nx.refl s h w val rfl));have e0:a.eval (.global 0)=.pointer (some ⟨0,0,none⟩):=rfl;simp[execOp,ho,e0,Instr.sliceAt,Sem.run_bind,run_underlying hu,Instr.sureAddr,Instr.sliceBounds,Aw hc1,Addr.add_lit];simp only[RA,RD];refine⟨some ⟨0,0,none⟩,By.length,1,By.map fun c=>.string ⟨⟨c⟩⟩,by rw[List.length_map],by rw[List.length_map];exact Nat.le_refl _,by decide,Ie _,fun _=>⟨_,rfl,fun j v hj=>?_⟩⟩;rw[List.getElem?_map,om]at hj;obtain⟨c,hc,rfl⟩:=hj;obtain⟨h1,h2⟩:=H.inv.glob j c hc;rw[Addr.add_lit,Nat.zero_add];simp only[Nat.zero_add];exact⟨h1,h2⟩;cases he;cases he;cases he
end Go.Ac
