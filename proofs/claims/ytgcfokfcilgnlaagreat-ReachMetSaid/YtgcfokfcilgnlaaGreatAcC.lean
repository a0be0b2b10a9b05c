/- Own work: how calls of the model run over plain data. -/
import Derived.Test.YtgcfokfcilgnlaaGreatAcB
import Derived.KernelRfl
import Derived.IntWalk
import Derived.Shelf.SlLaysN
import Derived.Shelf.RegionOpenPlain
import Derived.WalkKit
import Derived.Deep.LoopGhost
import Derived.Deep.RegionLaw
import Derived.Lib.Walk
import Derived.Lib.SliceRun
import Derived.Sort.WalkB12
import Derived.Shelf.Spec.SlicesInsertGrow
import Derived.Shelf.SlicesE.Clone
import Derived.Shelf.Spec.SlicesGrow
import Derived.Shelf.SlicesE.Compact
import Derived.Lib.OwnBridge
import Derived.ProofKit
import Derived.OpenShut
import Derived.JoinedCond
import Derived.Carry
set_option linter.unusedVariables false
set_option linter.unusedSimpArgs false
namespace Go.Ac

structure Lw where
 path:List Nat
 wk:List Ws
 e:Ex
 s:St

def MJ(lw:List Lw)(p:List Nat)(s:St):Option (Option (Ob×Ex×St)):=
 match lw.find? fun q=>q.path==p with
 |some q=>some (match wks q.wk s with
  |some s1=>some (.loop p s1 q.e q.s,q.e,q.s)
  |none=>none)
 |none=>none
def aAi(ops:Array Oper)(s:St):St:=
 match ops.toList with
 |o::_=>match o.dst,o.op with
  |some d,.alloc _=>if Co d s.B then{s with E:=OJ (fun i=>i !=d) 0 s.E,B:=s.B.filter fun p=>p.1 !=d}else s
  |_,_=>s
 |[]=>s
theorem aAj(ops:Array Oper)(s:St):Wk s (aAi ops s):=by unfold aAi;split;split;split;exact(Wk.mask _ s).trans (Wk.drop _ _);exact Wk.refl s;exact Wk.refl s;exact Wk.refl s
def D0(P:Program)(ws:List (Nat×W))(lw:List Lw):List Nat->Code->St->Option (Ob×Ex×St)
 |_,.skip,s=>some (.c .t,.normal,s)
 |_,.label _,s=>some (.c .t,.normal,s)
 |_,.region _ ops d,s=>match Nr P ops d ws (aAi ops s)with
  |some (Φ,s')=>some (Φ,.normal,s')
  |none=>none
 |p,.seq a b,s=>match MJ lw p s with
  |some r=>r
  |none=>match D0 P ws lw (0::p) a s with
   |some (Φ,.normal,s1)=>match D0 P ws lw (1::p) b s1 with
    |some (Ψ,e,s2)=>some (Φ.and Ψ,e,s2)
    |none=>none
   |r=>r
 |p,.cond c a b,s=>match MJ lw p s with
  |some r=>r
  |none=>match s.ev c with
   | .d (.v (.bool true))=>D0 P ws lw (0::p) a s
   | .d (.v (.bool false))=>D0 P ws lw (1::p) b s
   |_=>none
 |p,.block id b,s=>match MJ lw p s with
  |some r=>r
  |none=>match D0 P ws lw (0::p) b s with
   |some (Φ,.exit j,s')=>if j=id then some (Φ,.normal,s')else some (Φ,.exit j,s')
   |r=>r
 |p,.loop _,s=>match MJ lw p s with
  |some r=>r
  |none=>none
 |p,.rangeFunc _ _ _ _,s=>match MJ lw p s with
  |some r=>r
  |none=>none
 |p,.scope b,s=>match MJ lw p s with
  |some r=>r
  |none=>D0 P ws lw (0::p) b s
 |_,.exit id,s=>some (.c .t,.exit id,s)
 |_,.ret,s=>some (.c .t,.ret,s)
 |_,_,_=>none

def Fg(P:Program)(rd:Option Nat)(root:Code):Lp:=fun p s e s'=>AC P rd (Ax root p) s fun e1 s1=>e1=e/\s1=s'

theorem AC.done{P:Program}{rd:Option Nat}{c:Code}{s:St}{Ψ:Ex->St->Prop}{e:Ex}(hw:∀a w Q,Q e.toExit a w->c.wpIn (fc rd) 0 P Q a w)(h:Ψ e s):AC P rd c s Ψ:=
 fun h' w val a H Q hQ=>hw a w Q (hQ e s h' w val a h H (Nx.refl s h' w val rfl))
theorem AC.mono{P:Program}{rd:Option Nat}{c:Code}{s:St}{Ψ Ψ':Ex->St->Prop}(h:AC P rd c s Ψ)(hp:∀e s1,Ψ e s1->Ψ' e s1):AC P rd c s Ψ':=
 h.post fun e s1 hΨ=>⟨s1,Wk.refl _,hp e s1 hΨ⟩

theorem FN{P:Program}{rd:Option Nat}{root:Code}{lw:List Lw}{p:List Nat}{c:Code}{s s':St}{Φ:Ob}{e:Ex}{r:Option (Ob×Ex×St)}(hp:Ax root p=c)(hc:MJ lw p s=some r)(he:r=some (Φ,e,s'))(hΦ:Φ.ok P (Fg P rd root)):AC P rd c s fun e1 s1=>e1=e/\s1=s':=by unfold MJ at hc;split at hc;rename_i q hq;simp only[oe]at hc;rw[he]at hc;split at hc;rename_i s1 hs1;simp only[oe,pe]at hc;obtain⟨rfl,rfl,rfl⟩:=hc;have h2:AC P rd (Ax root p) s1 fun e1 s1=>e1=q.e/\s1=q.s:=hΦ;rw[hp]at h2;exact AC.wk (Kl hs1) h2;cases hc;cases hc

theorem HY{P:Program}{rd:Option Nat}{root:Code}{ws:List (Nat×W)}{lw:List Lw}(hm:P.follows .mixedOrders=true):∀(c:Code) (p:List Nat) (s s':St) (Φ:Ob) (e:Ex),Ax root p=c->
 D0 P ws lw p c s=some (Φ,e,s')->Φ.ok P (Fg P rd root)->AC P rd c s fun e1 s1=>e1=e/\s1=s':=by
 intro c
 induction c with
 |skip=>
  intro p s s' Φ e _ he _
  simp only[D0,oe,pe]at he
  obtain⟨_,rfl,rfl⟩:=he
  exact AC.done (e:=.normal) (fun a w Q=>wpIn_skip) ⟨rfl,rfl⟩
 |label l=>
  intro p s s' Φ e _ he _
  simp only[D0,oe,pe]at he
  obtain⟨_,rfl,rfl⟩:=he
  exact AC.done (e:=.normal) (fun a w Q=>wpIn_label) ⟨rfl,rfl⟩
 |exit id=>
  intro p s s' Φ e _ he _
  simp only[D0,oe,pe]at he
  obtain⟨_,rfl,rfl⟩:=he
  exact AC.done (e:=.exit id) (fun a w Q=>wpIn_exit) ⟨rfl,rfl⟩
 |ret=>
  intro p s s' Φ e _ he _
  simp only[D0,oe,pe]at he
  obtain⟨_,rfl,rfl⟩:=he
  exact AC.done (e:=.ret) (fun a w Q=>wpIn_ret) ⟨rfl,rfl⟩
 |region id ops d=>
  intro p s s' Φ e _ he hΦ
  simp only[D0]at he
  split at he
  rename_i Φ' s1 hr
  simp only[oe,pe]at he
  obtain⟨rfl,rfl,rfl⟩:=he
  exact AC.wk (aAj ops s) fun h w val a H Q hQ=>RL hm hr hΦ H fun h' w' val' a' H' n'=>hQ .normal _ h' w' val' a' ⟨rfl,rfl⟩ H' n'
  cases he
 |seq x y ihx ihy=>
  intro p s s' Φ e hp he hΦ
  simp only[D0]at he
  have hpx:Ax root (0::p)=x:=by simp only[Ax,hp,MG]
  have hpy:Ax root (1::p)=y:=by simp only[Ax,hp,MG]
  split at he
  rename_i hcut;exact FN hp hcut he hΦ
  split at he
  rename_i Φ1 s1 h1
  split at he
  rename_i Ψ e2 s2 h2
  simp only[oe,pe]at he
  obtain⟨rfl,rfl,rfl⟩:=he
  obtain⟨o1,o2⟩:=Ob.and_ok hΦ
  refine AC.seq ((ihx _ _ _ _ _ hpx h1 o1).mono ?_)
  rintro e1 s1' ⟨rfl,rfl⟩
  exact ihy _ _ _ _ _ hpy h2 o2
  cases he
  rename_i hne
  refine AC.seq ((ihx _ _ _ _ _ hpx he hΦ).mono ?_)
  rintro e1 s1' ⟨rfl,rfl⟩
  cases e1 with
  |normal=>exact absurd he (hne _ _)
  |exit id=>exact⟨rfl,rfl⟩
  |ret=>exact⟨rfl,rfl⟩
 |cond c x y ihx ihy=>
  intro p s s' Φ e hp he hΦ
  simp only[D0]at he
  have hpx:Ax root (0::p)=x:=by simp only[Ax,hp,MG]
  have hpy:Ax root (1::p)=y:=by simp only[Ax,hp,MG]
  split at he
  rename_i hcut;exact FN hp hcut he hΦ
  split at he
  rename_i hc
  exact AC.cond (b:=true) hc (ihx _ _ _ _ _ hpx he hΦ)
  rename_i hc
  exact AC.cond (b:=false) hc (ihy _ _ _ _ _ hpy he hΦ)
  cases he
 |block id b ih=>
  intro p s s' Φ e hp he hΦ
  simp only[D0]at he
  have hpb:Ax root (0::p)=b:=by simp only[Ax,hp,MG]
  split at he
  rename_i hcut;exact FN hp hcut he hΦ
  split at he
  rename_i Φ1 j s1 h1
  split at he
  rename_i hj
  simp only[oe,pe]at he
  obtain⟨rfl,rfl,rfl⟩:=he
  refine AC.block ((ih _ _ _ _ _ hpb h1 hΦ).mono ?_)
  rintro e1 s1' ⟨rfl,rfl⟩
  simp[hj]
  rename_i hj
  simp only[oe,pe]at he
  obtain⟨rfl,rfl,rfl⟩:=he
  refine AC.block ((ih _ _ _ _ _ hpb h1 hΦ).mono ?_)
  rintro e1 s1' ⟨rfl,rfl⟩
  simp[hj]
  rename_i hne
  refine AC.block ((ih _ _ _ _ _ hpb he hΦ).mono ?_)
  rintro e1 s1' ⟨rfl,rfl⟩
  cases e1 with
  |normal=>exact⟨rfl,rfl⟩
  |exit id=>exact absurd he (hne _ _ _)
  |ret=>exact⟨rfl,rfl⟩
 |loop b ih=>
  intro p s s' Φ e hp he hΦ
  simp only[D0]at he
  split at he
  rename_i hcut;exact FN hp hcut he hΦ
  cases he
 |rangeFunc f params assign body _ _=>
  intro p s s' Φ e hp he hΦ
  simp only[D0]at he
  split at he
  rename_i hcut;exact FN hp hcut he hΦ
  cases he
 |scope b ih=>
  intro p s s' Φ e hp he hΦ
  simp only[D0]at he
  have hpb:Ax root (0::p)=b:=by simp only[Ax,hp,MG]
  split at he
  rename_i hcut;exact FN hp hcut he hΦ
  exact AC.scope (ih _ _ _ _ _ hpb he hΦ)
 |goto l=>intro p s s' Φ e _ he _;simp only[D0]at he;cases he
 |refuse why=>intro p s s' Φ e _ he _;simp only[D0]at he;cases he

def ZE:Code->Bool
 | .loop _=>true
 |_=>false
def Rn(tmps:Array Value):ResultVar->Sem Value
 | .tmp t=>pure (tmps.getD t undef)
 | .cell a t=>do loadVar t (<-asAddr (tmps.getD a undef))
def rvA(P:Program)(s:St):ResultVar->Option A
 | .tmp t=>some (s.look (s.E.getD t .any))
 | .cell t ty=>match s.E.getD t .any with
  | .box n off=>match lk s.B n with
   |some (.cells cs)=>(Jg P ty cs off).map s.look
   |_=>none
  |_=>none
def aTk(P:Program)(s:St):List ResultVar->Option (List A)
 |[]=>some []
 |x::l=>match rvA P s x,aTk P s l with
  |some a,some as'=>some (a::as')
  |_,_=>none
def My(P:Program)(s:St)(rs:List ResultVar):Option A:=
 match aTk P s rs with
 |some [a]=>some a
 |some as'=>some (.tup as')
 |none=>none
theorem aTj{P:Program}{s:St}{h w val}{a:Act}(H:AU s h w val a){x:ResultVar}{r:A}(he:rvA P s x=some r):∃u,(Rn a.tmps x).run P w=.ok u w/\RA h w val r u:=by
 cases x with
 |tmp t=>
  simp only[rvA,oe]at he
  subst he
  exact⟨a.tmps.getD t undef,by simp[Rn],H.look (H.ev (.tmp t))⟩
 |cell t ty=>
  simp only[rvA]at he
  split at he
  rename_i n off hx
  split at he
  rename_i cs hl
  simp only[om]at he
  obtain⟨v,hv,rfl⟩:=he
  have hx':=H.ev (.tmp t)
  simp only[St.ev,hx,RA]at hx'
  obtain⟨b,e1,e2⟩:=hx'
  have hb:=H.inv.rep (n,.cells cs) (ml _ (Ak hl))
  obtain⟨g,us,tt,e3,hg,hr,h1,_⟩:=hb
  simp only at e3
  rw[e1]at e3
  cases e3
  obtain⟨u,g1,g2⟩:=FT (P:=P) (a:=⟨b,0,none⟩) hv hr h1 (fun j v hj=>by rw[Addr.add_lit,Nat.zero_add,cell_of_row w b j ⟨us⟩ tt (0,0) hg];simpa using hj)
  rw[Addr.add_lit,Nat.zero_add]at g1
  refine⟨u,?_,H.look g2⟩
  have e2':a.tmps.getD t undef=.pointer (some ⟨b,off,none⟩):=e2
  simp[Rn,e2',asAddr,g1]
  cases he
  cases he
theorem OV{P:Program}{s:St}{h w val}{a:Act}(H:AU s h w val a):∀{l:List ResultVar} {as':List A},aTk P s l=some as'->∃us,(l.mapM (Rn a.tmps)).run P w=.ok us w/\RAs h w val as' us
 |[],as',he=>by simp only[aTk,oe]at he;subst he;exact⟨[],by simp,by simp[RAs]⟩
 |x::l,as',he=>by
  simp only[aTk]at he;split at he;rename_i r as' h1 h2;simp only[oe]at he;subst he;obtain⟨u,g1,g2⟩:=aTj H h1;obtain⟨us,g3,g4⟩:=OV H h2;exact⟨u::us,by simp[List.mapM_cons,g1,g3],by simp only[RAs];exact⟨u,us,rfl,g2,g4⟩⟩;cases he
theorem P0{P:Program}{s:St}{h w val}{a:Act}(H:AU s h w val a){fn:Func}{r:A}(he:My P s fn.results.toList=some r):∃u,(results fn a.tmps).run P w=.ok u w/\RA h w val r u:=by
 unfold My at he;have hres:∀us,(fn.results.toList.mapM (Rn a.tmps)).run P w=.ok us w->(results fn a.tmps).run P w=.ok (if hs:us.toArray.size=1 then us.toArray[0]else .tuple us.toArray) w:=by
  intro us hus;have e:results fn a.tmps=(do let vs<-fn.results.mapM (Rn a.tmps);pure (if h:vs.size=1 then vs[0]else .tuple vs)):=by unfold results;congr 1
  rw[e,Array.mapM_eq_mapM_toList];simp[hus]
 split at he;rename_i r' hr;simp only[oe]at he;subst he;obtain⟨us,g1,g2⟩:=OV H hr;simp only[RAs]at g2;obtain⟨u,us',rfl,g3,rfl⟩:=g2;exact⟨u,by rw[hres _ g1];simp,g3⟩;rename_i as' hne hr;simp only[oe]at he;subst he;obtain⟨us,g1,g2⟩:=OV H hr;have hl:=g2.length;have:us.length≠1:=by
  intro e;match as',hne,hl with
  |[],_,hl=>simp at hl;rw[hl]at e;simp at e
  |[x],hne,_=>exact hne x rfl
  |_::_::_,_,hl=>simp at hl;omega
 exact⟨.tuple ⟨us⟩,by rw[hres _ g1];simp[this],by simp only[RA];exact⟨us,rfl,g2⟩⟩;cases he

def XP(P:Program)(f:FuncId)(ws:List (Nat×W))(lw:List Lw)(wk:List Ws)(args:List A)(F0:Bx):Option (Ob×A×Bx):=
 match P.funcs[f]? with
 |some fn=>match fn.body with
  |some c=>if Jz args then
   match D0 P ws lw [] c ⟨args++List.replicate (fn.ntmps-args.length) (.tup []),[],F0⟩with
   |some (Φ,.ret,s')=>(wks wk s').bind fun s2=>(My P s2 fn.results.toList).map fun r=>(Φ,r,s2.F)
   |some (Φ,.normal,s')=>(wks wk s').bind fun s2=>(My P s2 fn.results.toList).map fun r=>(Φ,r,s2.F)
   |_=>none
   else none
  |_=>none
 |none=>none
theorem Ly{h w val}(n:Nat):RAs h w val (List.replicate n (.tup [])) (List.replicate n undef):=by
 induction n with
 |zero=>simp[RAs]
 |succ n ih=>simp only[List.replicate_succ,RAs];exact⟨undef,_,rfl,Km,ih⟩

def EP(P:Program)(f:FuncId):Code:=((P.funcs[f]?).bind (·.body)).getD .skip

theorem Nu{w:World}{D:Nat}{o o':Obj}(hD:w.heap[D]? =some o)(ho:o.isCells=false){b i:Nat}{v:Value}(hc:w.cell? ⟨b,i,none⟩=some v):(w.putObj D o').cell? ⟨b,i,none⟩=some v:=by
 by_cases h:b=D;subst h;unfold World.cell? at hc;simp only[hD]at hc;cases o<;>simp_all [Obj.isCells];unfold World.cell? at hc⊢;have:(w.putObj D o').heap[b]? =w.heap[b]? :=by simp[World.putObj,Array.getElem?_setIfInBounds,Ne.symm h]
 simp only[this];exact hc
theorem JV{M:List Nat}{h:Hw}{w:World}{D:Nat}{o o':Obj}(hD:w.heap[D]? =some o)(ho:o.isCells=false)(hM:D∈M):Cf M h w h (w.putObj D o') where
 os:=rfl
 tape:=rfl
 output:=rfl
 size:=by simp[World.putObj]
 cells:=fun b i v _ hc=>Nu hD ho hc
 mono:=fun _ _=>Nat.le_refl _
 far:=fun b _ hn=>⟨by have:b≠D:=fun e=>hn (e▸hM);simp[World.putObj,Array.getElem?_setIfInBounds,Ne.symm this],rfl⟩
theorem AU.shut{s:St}{h:Hw}{w:World}{val:Val}{a:Act}{D:Nat}{o':Obj}(H:AU s h w val a)(hD:w.heap[D]? =some (.deferred (some []))):AU s h (w.putObj D o') val {a with defers:=[]}:=by have hk:Cf [D] h w h (w.putObj D o'):=JV hD rfl (by simp);refine⟨RAs.stays hk.stays _ _ _ H.e,⟨fun p hp=>RB.stays hk.stays (fun g hg=>?_) (H.inv.rep p hp),H.inv.nms,H.inv.bks⟩,H.far,EH.nil (Nat.le_trans H.defs.1 hk.size)⟩;have hgm:=Inv.blk_mem hp hg;refine hk.far g (H.inv.blk_lt g hgm) fun hin=>?_;simp only[List.mem_singleton]at hin;subst hin;have:=H.inv.blk_def g hgm _ hD;cases this
theorem OC{P:Program}{fn:Func}{R:Ending->World->Prop}{s:St}{h:Hw}{val:Val}{tmps:Array Value}:∀(Ds:List Nat) (w:World) (a:Act),a.tmps=tmps->AU s h w val a->Ds.Nodup->(∀D∈Ds,w.heap[D]? =some (.deferred (some [])))->
 (∀w' a',a'.tmps=tmps->AU s h w' val a'->Cf Ds h w h w'->∃v,(results fn tmps).run P w'=.ok v w'/\R (.returned v) w')->LeavesInM (fc none) 0 P fn tmps R (Ds.map fun D=>{target:=.collected D,args:= #[]}) .returning w
 |[],w,a,ha,H,_,_,hR=>hR w a ha H (Cf.refl _ _ _)
 |D::Ds,w,a,ha,H,hn,hd,hR=>by
  have hD:=hd D (.head _);obtain⟨hn1,hn2⟩:=List.nodup_cons.1 hn;refine⟨by simp,.inl ⟨D,_,rfl,run_takeDeferred hD,?_⟩⟩;refine OC Ds (w.putObj D (.deferred none)) {a with defers:=[]} ha (H.shut hD) hn2 (fun D' hD'=>?_) fun w' a' ha' H' hk=>?_
  have h1:=hd D' (.tail _ hD');have hne:D≠D':=fun e=>hn1 (e▸hD');simpa[World.putObj,Array.getElem?_setIfInBounds,hne]using h1;refine hR w' a' ha' H' ((JV hD rfl (by simp)).trans (hk.mono' fun x hx=>.inl (List.mem_cons_of_mem _ hx)) fun b hb=>.inl hb)

theorem PM{P:Program}{f:FuncId}{ws:List (Nat×W)}{lw:List Lw}{wk:List Ws}{args:List A}{F0 F':Bx}{Φ:Ob}{r:A}(hm:P.follows .mixedOrders=true)
 (he:XP P f ws lw wk args F0=some (Φ,r,F')) (hΦ:Φ.ok P (Fg P none (EP P f))) (hb:r.bare=true) (hF0:Far F0) (hcl:∀p∈F',∀m,p.2.has m=true->m∈AP F'):
 ∀h w val vs,Inv h w val F0->RAs h w val args vs->Calls P f ⟨vs⟩ w fun e w'=>∃h' val' u,e=.returned u/\Inv h' w' val' F'/\RA h' w' val' r u/\Cf (Ae val F0) h w h' w'/\(∀n,n∉AP F'->val' n=val n)/\∀b∈Ae val' F',b∈Ae val F0\/w.heap.size<=b:=by
 intro h w val vs hInv hargs
 unfold XP at he
 split at he
 ·rename_i fn hfn
  split at he
  ·rename_i c hc
   split at he
   case isFalse=>cases he
   rename_i hbare
   have hroot:EP P f=c:=by simp[EP,hfn,hc]
   rw[hroot]at hΦ
   have hn:vs.length=args.length:=hargs.length
   let val0:Val:=BB val bn (.int .i64 (w.heap.size:Int))
   have hv0:∀m,m≠bn->val0 m=val m:=fun m hm=>by simp[val0,BB,hm]
   have hI0:Inv h w val0 F0:=⟨fun p hp=>RB.upd hv0 (hF0 bn (.inr (rfl)) p hp).1 (hF0 bn (.inr (rfl)) p hp).2 (hInv.rep p hp),hInv.nms,by
    rw[Cl fun m hm=>hv0 m fun e=>by obtain⟨p,hp,e2⟩:=mm.1 hm;exact(hF0 bn (.inr (rfl)) p hp).1 (e2.trans e)]
    exact hInv.bks⟩
   have hblk0:Ae val0 F0=Ae val F0:=Cl fun m hm=>hv0 m fun e=>by obtain⟨p,hp,e2⟩:=mm.1 hm;exact(hF0 bn (.inr (rfl)) p hp).1 (e2.trans e)
   have H:AU ⟨args++List.replicate (fn.ntmps-args.length) (.tup []),[],F0⟩ h w val0 {tmps:=⟨vs⟩++Array.replicate (fn.ntmps-vs.length) undef,defers:=[]}:=by refine⟨?_,hI0,hF0,EH.nil (by simp[Gy,val0,BB])⟩;simp only[Array.toList_append,Array.toList_replicate];rw[hn];exact(RAs.bare _ _ hbare hargs).append (Ly _)
   have key:∀(e:Ex) (s':St),(e=.ret\/e=.normal)->D0 P ws lw [] c ⟨args++List.replicate (fn.ntmps-args.length) (.tup []),[],F0⟩=some (Φ,e,s')->((wks wk s').bind fun s2=>(My P s2 fn.results.toList).map fun r=>(Φ,r,s2.F))=some (Φ,r,F')->
    Calls P f ⟨vs⟩ w fun e w'=>∃h' val' u,e=.returned u/\Inv h' w' val' F'/\RA h' w' val' r u/\Cf (Ae val F0) h w h' w'/\(∀n,n∉AP F'->val' n=val n)/\∀b∈Ae val' F',b∈Ae val F0\/w.heap.size<=b:=by
    intro e s' hor hrun hr
    refine callsIn_wide.1 (callsIn_of_wp_marks (F:=.wide) (n:=0) hfn hc trivial ?_)
    refine HY (rd:=none) hm c [] _ s' Φ e rfl hrun hΦ h w val0 _ H _ ?_
    rintro e1 s1 h1 w1 v1 a1 ⟨rfl,rfl⟩ H1 n1
    simp only[Option.bind_eq_some_iff,om,pe,true_and]at hr
    obtain⟨s2,hwk,r2,hr,rfl,rfl⟩:=hr
    obtain⟨h2,v2,H2,n2⟩:=Kl hwk _ _ _ _ H1
    have n3:=n1.trans n2
    obtain⟨_,Ds,eD,hDn,hD⟩:=H2.defs
    have hbd:Gy v2=w.heap.size:=by unfold Gy;rw[n3.vals bn (by decide)];simp[val0,BB]
    have hL:LeavesInM (fc none) 0 P fn a1.tmps (fun e w'=>∃h' val' u,e=.returned u/\Inv h' w' val' s2.F/\RA h' w' val' r2 u/\Cf (Ae val F0) h w h' w'/\(∀n,n∉AP s2.F->val' n=val n)/\∀b∈Ae val' s2.F,b∈Ae val F0\/w.heap.size<=b) a1.defers .returning w1:=by
     rw[eD];refine OC Ds w1 a1 rfl H2 hDn (fun D hD1=>(hD D hD1).1) fun w' a' ha' H' hk=>?_;obtain⟨u,g1,g2⟩:=P0 H' hr;rw[ha']at g1;let v3:Val:=fun n=>if n∈AP s2.F then v2 n else val n
     have hfar:∀p∈s2.F,(∀m,m=p.1\/p.2.has m=true->v3 m=v2 m):=fun p hp m hm=>if_pos (by
      rcases hm with rfl|hm
      exact mm.2 ⟨p,hp,rfl⟩;exact hcl p hp m hm)
     have hbF:Ae v3 s2.F=Ae v2 s2.F:=Cl fun m hm=>if_pos hm;have hIR:=Inv.right H'.inv;refine⟨u,g1,h2,v3,u,rfl,⟨fun p hp=>RB.congr (hfar p hp p.1 (.inl rfl)) (fun m hm=>hfar p hp m (.inr hm)) (hIR.rep p hp),hIR.nms,by rw[hbF];exact hIR.bks⟩,RA.bare _ _ hb g2,?_,fun n hn=>if_neg hn,fun b hb=>?_⟩;have hK:=n3.keep.trans hk fun x hx=>.inr (by rw[<-hbd];exact(hD x hx).2);have hall:Ae val0 (⟨args++List.replicate (fn.ntmps-args.length) (.tup []),[],F0⟩:St).all=Ae val F0:=hblk0;rw[hall]at hK;exact hK;rw[hbF]at hb;have:=n3.new b (by show b∈Ae v2 (s2.B++s2.F);rw[AO];exact mr _ hb);rw[<-hblk0];exact this
    rcases hor with rfl|rfl
    exact hL
    exact hL
   split at he
   rename_i Φ' s' hrun
   have:Φ'=Φ:=by simp only[Option.bind_eq_some_iff,om,pe]at he;obtain⟨_,_,_,_,h,_⟩:=he;exact h
   subst this
   exact key .ret s' (.inl rfl) hrun he
   rename_i Φ' s' hrun
   have:Φ'=Φ:=by simp only[Option.bind_eq_some_iff,om,pe]at he;obtain⟨_,_,_,_,h,_⟩:=he;exact h
   subst this
   exact key .normal s' (.inr rfl) hrun he
   cases he
  cases he
 cases he
def aXp(P:Program)(f:FuncId)(ws:List (Nat×W))(lw:List Lw)(wk:List Ws)(args:List A):Option (Ob×A):=(XP P f ws lw wk args []).bind fun p=>match p.2.2 with
 |[]=>some (p.1,p.2.1)
 |_=>none
theorem aO4{P:Program}{f:FuncId}{ws:List (Nat×W)}{lw:List Lw}{wk:List Ws}{args:List A}{Φ:Ob}{r:A}(hm:P.follows .mixedOrders=true)
 (he:aXp P f ws lw wk args=some (Φ,r)) (hΦ:Φ.ok P (Fg P none (EP P f))) (hb:r.bare=true):AL P f args [] r []:=by
 unfold aXp at he
 simp only[Option.bind_eq_some_iff]at he
 obtain⟨⟨Φ',r',F'⟩,h1,he⟩:=he
 simp only at he
 split at he
 simp only[oe,pe]at he
 obtain⟨rfl,rfl⟩:=he
 intro h w val vs hI hargs
 refine(PM hm h1 hΦ hb (fun _ _ _ h=>by cases h) (fun _ h=>by cases h) h w val vs hI hargs).mono fun e w' hh=>?_
 obtain⟨h',val',u,rfl,hI',hr,hk,hv,hn⟩:=hh
 exact⟨h',val',u,rfl,hI',hr,hk,fun n _=>hv n (by simp[AP]),hn⟩
 cases he
theorem RF{P:Program}{f:FuncId}{ws:List (Nat×W)}{lw:List Lw}{wk:List Ws}{args:List A}{F0 F':Bx}{Φ:Ob}{r:A}(hm:P.follows .mixedOrders=true)
 (he:XP P f ws lw wk args F0=some (Φ,r,F')) (hΦ:Φ.ok P (Fg P none (EP P f))) (hb:r.bare=true) (hF0:Far F0) (hcl:∀p∈F',∀m,p.2.has m=true->m∈AP F'):Lu P f args F0 r F':=
 fun h w val vs hI hargs=>PM hm he hΦ hb hF0 hcl h w val vs hI hargs

end Go.Ac
namespace Go.Ac
def vx:Nat:=997
mutual
def A.fix:A->Bool
 | .box _ _=>true
 | .row _=>true
 | .clo _ fs cs=>aLp fs&&aLp cs
 | .agg cs=>aLp cs
 | .tup cs=>aLp cs
 | .d _=>true
 | .eptr _=>true
 | .nil=>true
 |_=>false
def aLp:List A->Bool
 |[]=>true
 |a::as'=>a.fix&&aLp as'
end
mutual
theorem RA.det{h w h' w'}{val val':Val}:∀(a:A) (u:Value),a.fix=true->RA h w val a u->RA h' w' val' a u->∀n,a.has n=true->val' n=val n
 | .box m off,u,_,h1,h2,n,hn=>by
  simp only[A.has,beq_iff_eq]at hn;subst hn;simp only[RA]at h1 h2;obtain⟨b,e1,e2⟩:=h1;obtain⟨b',e3,e4⟩:=h2;rw[e2]at e4;cases e4;rw[e1,e3]
 | .row m,u,_,h1,h2,n,hn=>by
  simp only[A.has,beq_iff_eq]at hn;subst hn;simp only[RA]at h1 h2;rw[<-h1.1,<-h2.1]
 | .clo f fs cs,u,hf,h1,h2,n,hn=>by
  simp only[A.fix,ba]at hf;simp only[RA]at h1 h2;obtain⟨x,y,e,a1,a2⟩:=h1;obtain⟨x',y',e',b1,b2⟩:=h2;rw[e]at e';cases e';simp only[A.has,Bool.or_eq_true]at hn;rcases hn with hn|hn
  exact RAs.det fs x hf.1 a1 b1 n hn;exact RAs.det cs y hf.2 a2 b2 n hn
 | .agg cs,u,hf,h1,h2,n,hn=>by
  simp only[A.fix]at hf;simp only[RA]at h1 h2;obtain⟨x,e,a1,_⟩:=h1;obtain⟨x',e',b1,_⟩:=h2;rw[e]at e';cases e';exact RAs.det cs x hf a1 b1 n (by simpa only[A.has]using hn)
 | .tup cs,u,hf,h1,h2,n,hn=>by
  simp only[A.fix]at hf;simp only[RA]at h1 h2;obtain⟨x,e,a1⟩:=h1;obtain⟨x',e',b1⟩:=h2;rw[e]at e';cases e';exact RAs.det cs x hf a1 b1 n (by simpa only[A.has]using hn)
 | .d _,u,_,_,_,n,hn=>by simp[A.has]at hn
 | .eptr _,u,_,_,_,n,hn=>by simp[A.has]at hn
 | .nil,u,_,_,_,n,hn=>by simp[A.has]at hn
 | .bsl _ _ _,u,hf,_,_,n,hn=>by simp[A.fix]at hf
 | .ep _ _ _ _,u,hf,_,_,n,hn=>by simp[A.fix]at hf
 | .ub,u,hf,_,_,n,hn=>by simp[A.fix]at hf
 | .opq _,u,hf,_,_,n,hn=>by simp[A.fix]at hf
 | .any,u,hf,_,_,n,hn=>by simp[A.fix]at hf
theorem RAs.det{h w h' w'}{val val':Val}:∀(as':List A) (us:List Value),aLp as'=true->RAs h w val as' us->RAs h' w' val' as' us->∀n,AX n as'=true->val' n=val n
 |[],us,_,_,_,n,hn=>by simp[AX]at hn
 |a::as',us,hf,h1,h2,n,hn=>by
  simp only[aLp,ba]at hf;simp only[RAs]at h1 h2;obtain⟨u,us',rfl,a1,a2⟩:=h1;obtain⟨u',us2,e,b1,b2⟩:=h2;cases e;simp only[AX,Bool.or_eq_true]at hn;rcases hn with hn|hn
  exact RA.det a u hf.1 a1 b1 n hn;exact RAs.det as' us' hf.2 a2 b2 n hn
end
def JW(args:List A)(ks:List Nat):List A:=ks.map fun i=>args.getD i .any
def aJd(P:Program)(f:FuncId)(ws:List (Nat×W))(lw:List Lw)(wk:List Ws)(args:List A)(X:Bx)(ks:List Nat)(us:List Value):Option (Ob×A×Bx):=
 match P.funcs[f]? with
 |some fn=>match fn.body with
  |some c=>match D0 P ws lw [] c ⟨args++List.replicate (fn.ntmps-args.length) (.tup []),X++[(vx,.vals (JW args ks) us)],[]⟩with
   |some (Φ,.ret,s')=>(wks wk s').bind fun s2=>(My P s2 fn.results.toList).map fun r=>(Φ,r,s2.B)
   |some (Φ,.normal,s')=>(wks wk s').bind fun s2=>(My P s2 fn.results.toList).map fun r=>(Φ,r,s2.B)
   |_=>none
  |_=>none
 |none=>none
def aK1(args:List A)(X:Bx)(ks:List Nat)(r:A)(X':Bx):Bool:=
 aTv args&&aX4 X&&CO (fun n=>Nat.blt n vx) (AP X)&&CO (fun i=>Nat.blt i args.length) ks&&aLp (JW args ks)&&
 aKg r (AP X')&&X'.all (fun p=>aLi p.2 (AP X'))&&CO (fun n=> !BZ n (AP X)||AX n (JW args ks)) (AP X')
theorem Oc{h w}{val:Val}{args:List A}{vs:List Value}(hr:RAs h w val args vs):∀(ks:List Nat),CO (fun i=>Nat.blt i args.length) ks=true->RAs h w val (JW args ks) (ks.map fun i=>vs.getD i undef)
 |[],_=>by simp[JW,RAs]
 |i::ks,hk=>by
  simp only[CO,ba,Nat.blt_eq]at hk;simp only[JW,List.map_cons,RAs];refine⟨_,_,rfl,?_,Oc hr ks hk.2⟩;obtain⟨u,hu,h1⟩:=RAs.get hr i _ (List.getElem?_eq_getElem hk.1);simp only[List.getD,hu,List.getElem?_eq_getElem hk.1,Option.getD_some];exact h1
theorem aJe{P:Program}{f:FuncId}{ws:List Value->List (Nat×W)}{lw:List Value->List Lw}{wk:List Value->List Ws}{args:List A}{X X':Bx}{ks:List Nat}{Φ:List Value->Ob}{r:A}(hm:P.follows .mixedOrders=true)
 (he:∀us,aJd P f (ws us) (lw us) (wk us) args X ks us=some (Φ us,r,X'++[(vx,.vals (JW args ks) us)])) (hΦ:∀us,(Φ us).ok P (Fg P none (EP P f))) (hx:aK1 args X ks r X'=true):AL P f args X r X':=by
 intro h w val vs hInv hargs
 simp only[aK1,ba]at hx
 obtain⟨⟨⟨⟨⟨⟨⟨x1,x2⟩,x3⟩,x4⟩,x5⟩,x6⟩,x7⟩,x8⟩:=hx
 let us0:=ks.map fun i=>vs.getD i undef
 replace he:=he us0
 replace hΦ:=hΦ us0
 unfold aJd at he
 split at he
 rename_i fn hfn
 split at he
 rename_i c hc
 have hroot:EP P f=c:=by simp[EP,hfn,hc]
 rw[hroot]at hΦ
 have hn:vs.length=args.length:=hargs.length
 let val0:Val:=BB val bn (.int .i64 (w.heap.size:Int))
 have hv0:∀m,m≠bn->val0 m=val m:=fun m hm=>by simp[val0,BB,hm]
 have hlt:∀m,m<up->m≠bn:=fun m hm e=>by subst e;simp only[up,bn]at hm;omega
 have hX1:∀p∈X,val0 p.1=val p.1:=fun p hp=>hv0 _ (hlt _ (OE x2 hp).1)
 have hblk0:Ae val0 X=Ae val X:=Cl fun m hm=>by obtain⟨p,hp,e2⟩:=mm.1 hm;rw[<-e2];exact hX1 p hp
 have hI0:Inv h w val0 X:=⟨fun p hp=>RB.congr (hX1 p hp) (fun m hm=>hv0 m (hlt m ((OE x2 hp).2 m hm))) (hInv.rep p hp),hInv.nms,by rw[hblk0];exact hInv.bks⟩
 have hargs0:RAs h w val0 args vs:=RAs.congr _ _ (fun n hn=>hv0 n (hlt n (ZK x1 n hn))) hargs
 have hkept0:RAs h w val0 (JW args ks) us0:=Oc hargs0 ks x4
 have hbv:∀(v:Val) (Y:Bx) (as':List A) (us:List Value),Ae v (Y++[(vx,Bk.vals as' us)])=Ae v Y:=fun v Y as' us=>by rw[AO];have:Ae v [(vx,Bk.vals as' us)]=[]:=rfl;rw[this,List.append_nil]
 have hvxX:vx∉AP X:=fun hm=>by have:=BQ x3 vx hm;simp at this
 have H:AU ⟨args++List.replicate (fn.ntmps-args.length) (.tup []),X++[(vx,.vals (JW args ks) us0)],[]⟩ h w val0 {tmps:=⟨vs⟩++Array.replicate (fn.ntmps-vs.length) undef,defers:=[]}:=by
  refine⟨?_,?_,(fun _ _ p hp=>by cases hp),EH.nil (by simp[Gy,val0,BB])⟩;simp only[Array.toList_append,Array.toList_replicate];rw[hn];exact hargs0.append (Ly _);show Inv h w val0 ((X++[(vx,.vals (JW args ks) us0)])++[]);rw[List.append_nil];refine⟨fun p hp=>?_,?_,by rw[hbv];exact hI0.bks⟩;rcases ma.1 hp with hp|hp
  exact hI0.rep p hp;simp only[List.mem_singleton]at hp;subst hp;exact hkept0;rw[AM];refine List.nodup_append.2 ⟨hI0.nms,by simp[AP],fun x hx y hy e=>?_⟩;simp only[AP,List.map_cons,List.map_nil,List.mem_singleton]at hy;subst hy;subst e;exact hvxX hx
 have key:∀(e:Ex) (s':St),(e=.ret\/e=.normal)->D0 P (ws us0) (lw us0) [] c ⟨args++List.replicate (fn.ntmps-args.length) (.tup []),X++[(vx,.vals (JW args ks) us0)],[]⟩=some (Φ us0,e,s')->
  ((wks (wk us0) s').bind fun s2=>(My P s2 fn.results.toList).map fun r=>(Φ us0,r,s2.B))=some (Φ us0,r,X'++[(vx,.vals (JW args ks) us0)])->
  Calls P f ⟨vs⟩ w fun e w'=>∃h' val' u,e=.returned u/\Inv h' w' val' X'/\RA h' w' val' r u/\Cf (Ae val X) h w h' w'/\(∀n,(n∈AP X'->n∈AP X)->val' n=val n)/\∀b∈Ae val' X',b∈Ae val X\/w.heap.size<=b:=by
  intro e s' hor hrun hr
  refine callsIn_wide.1 (callsIn_of_wp_marks (F:=.wide) (n:=0) hfn hc trivial ?_)
  refine HY (rd:=none) hm c [] _ s' (Φ us0) e rfl hrun hΦ h w val0 _ H _ ?_
  rintro e1 s1 h1 w1 v1 a1 ⟨rfl,rfl⟩ H1 n1
  simp only[Option.bind_eq_some_iff,om,pe,true_and]at hr
  obtain⟨s2,hwk,r2,hr,rfl,hB2⟩:=hr
  obtain⟨h2,v2,H2,n2⟩:=Kl hwk _ _ _ _ H1
  have n3:=n1.trans n2
  obtain⟨_,Ds,eD,hDn,hD⟩:=H2.defs
  have hbd:Gy v2=w.heap.size:=by unfold Gy;rw[n3.vals bn (by decide)];simp[val0,BB]
  have hall:Ae val0 (⟨args++List.replicate (fn.ntmps-args.length) (.tup []),X++[(vx,.vals (JW args ks) us0)],[]⟩:St).all=Ae val X:=by show Ae val0 ((X++[(vx,.vals (JW args ks) us0)])++[])=_;rw[List.append_nil,hbv,hblk0]
  have hL:LeavesInM (fc none) 0 P fn a1.tmps (fun e w'=>∃h' val' u,e=.returned u/\Inv h' w' val' X'/\RA h' w' val' r2 u/\Cf (Ae val X) h w h' w'/\(∀n,(n∈AP X'->n∈AP X)->val' n=val n)/\∀b∈Ae val' X',b∈Ae val X\/w.heap.size<=b) a1.defers .returning w1:=by
   rw[eD];refine OC Ds w1 a1 rfl H2 hDn (fun D hD1=>(hD D hD1).1) fun w' a' ha' H' hk=>?_;obtain⟨u,g1,g2⟩:=P0 H' hr;rw[ha']at g1;let v3:Val:=fun n=>if n∈AP X' then v2 n else val n
   have hv3:∀n∈AP X',v3 n=v2 n:=fun n hn=>if_pos hn;have hIB:Inv h2 w' v2 (X'++[(vx,.vals (JW args ks) us0)]):=by rw[<-hB2];have:=H'.inv;unfold St.all at this;exact Inv.sub (List.sublist_append_left _ _) this
   have hkept2:RAs h2 w' v2 (JW args ks) us0:=hIB.rep (vx,.vals (JW args ks) us0) (mr _ (.head _));have hsame:∀n,n∈AP X'->n∈AP X->v2 n=val n:=fun n hn hnX=>by
    have h8:=BQ x8 n hn;simp only[Bool.or_eq_true,Bool.not_eq_true']at h8;rcases h8 with h8|h8
    exact absurd hnX (C9 h8);rw[RAs.det _ _ x5 hkept0 hkept2 n h8];obtain⟨p,hp,e2⟩:=mm.1 hnX;rw[<-e2];exact hX1 p hp
   have hbX:Ae v3 X'=Ae v2 X':=Cl fun m hm=>hv3 m hm;have hIX:Inv h2 w' v2 X':=Inv.sub (List.sublist_append_left _ _) hIB;refine⟨u,g1,h2,v3,u,rfl,⟨fun p hp=>RB.congr (hv3 _ (mm.2 ⟨p,hp,rfl⟩)) (fun m hm=>hv3 m (YA ((List.all_eq_true.1 x7) p hp) m hm)) (hIX.rep p hp),hIX.nms,by rw[hbX];exact hIX.bks⟩,
    RA.congr _ _ (fun n hn=>hv3 n (Pu x6 n hn)) g2,?_,fun n hn=>?_,fun b hb=>?_⟩
   have hK:=n3.keep.trans hk fun x hx=>.inr (by rw[<-hbd];exact(hD x hx).2);rw[hall]at hK;exact hK;show(if n∈AP X' then v2 n else val n)=val n
   split;rename_i hin;exact hsame n hin (hn hin);rfl;rw[hbX]at hb;have hb2:b∈Ae v2 s2.all:=by show b∈Ae v2 (s2.B++s2.F);rw[AO,hB2,hbv];exact ml _ hb
   have:=n3.new b hb2;rw[hall]at this;exact this
  rcases hor with rfl|rfl
  exact hL
  exact hL
 split at he
 rename_i Φ' s' hrun
 have:Φ'=Φ us0:=by simp only[Option.bind_eq_some_iff,om,pe]at he;obtain⟨_,_,_,_,h,_⟩:=he;exact h
 subst this
 exact key .ret s' (.inl rfl) hrun he
 rename_i Φ' s' hrun
 have:Φ'=Φ us0:=by simp only[Option.bind_eq_some_iff,om,pe]at he;obtain⟨_,_,_,_,h,_⟩:=he;exact h
 subst this
 exact key .normal s' (.inr rfl) hrun he
 cases he
 cases he
 cases he
end Go.Ac
namespace Go.Ac

def Cn.okK:Cn->Prop->Prop
 | .t,k=>k
 | .both a b,k=>a.okK (b.okK k)
 |o,k=>o.ok/\k
def Ob.okK(P:Program)(L:Lp):Ob->Prop->Prop
 | .c x,k=>x.okK k
 | .both a b,k=>a.okK P L (b.okK P L k)
 |o,k=>o.ok P L/\k
theorem Cn.okK_iff:∀(x:Cn) (k:Prop),x.okK k↔x.ok/\k:=by
 intro x;induction x with
 |both a b iha ihb=>intro k;simp only[Cn.okK,iha,ihb,Cn.ok,and_assoc]
 |t=>intro k;simp[Cn.okK,Cn.ok]
 |_=>intro k;exact Iff.rfl
theorem Ob.okK_iff{P:Program}{L:Lp}:∀(x:Ob) (k:Prop),x.okK P L k↔x.ok P L/\k:=by
 intro x;induction x with
 |both a b iha ihb=>intro k;simp only[Ob.okK,iha,ihb,Ob.ok,and_assoc]
 |c x=>intro k;exact Cn.okK_iff x k
 |_=>intro k;exact Iff.rfl

def Arr(P:Program)(rd:Option Nat)(root:Code)(q:List Nat)(s:St)(e:Ex)(s':St):Prop:=
 AC P rd (Ax root q) s fun e1 s1=>e1=e/\Wk s1 s'
theorem Arr.lp{P:Program}{rd:Option Nat}{root:Code}{q:List Nat}{s s':St}{e:Ex}(h:Arr P rd root q s e s'):Fg P rd root q s e s':=
 AC.post h fun _ _ hh=>⟨s',hh.2,hh.1,rfl⟩
def Rt(P:Program)(rd:Option Nat)(root:Code)(ws:List (Nat×W))(lw:List Lw)(q:List Nat)(l:List Ws)(s:St)(e:Ex)(s':St):Prop:=
 match D0 P ws lw q (Ax root q) s with
 |some (Φ,e1,s1)=>match wks l s1 with
  |some s2=>Φ.okK P (Fg P rd root) True/\(e1=e/\s2=s')
  |none=>False
 |none=>False
theorem Rt.arr{P:Program}{rd:Option Nat}{root:Code}{ws:List (Nat×W)}{lw:List Lw}{q:List Nat}{l:List Ws}{s s':St}{e:Ex}(hm:P.follows .mixedOrders=true)
 (h:Rt P rd root ws lw q l s e s'):Arr P rd root q s e s':=by
 unfold Rt at h
 split at h
 rename_i Φ e1 s1 h1
 split at h
 rename_i s2 h2
 obtain⟨hΦ,rfl,rfl⟩:=h
 have hΦ:=((Ob.okK_iff _ _).1 hΦ).1
 exact(HY hm _ _ _ _ _ _ rfl h1 hΦ).mono fun e1 s1' hh=>⟨hh.1,by rw[hh.2];exact Kl h2⟩
 exact h.elim
 exact h.elim
def aBw(P:Program)(f:FuncId)(ws:List (Nat×W))(lw:List Lw)(wk:List Ws)(args:List A)(r:A):Prop:=
 match aXp P f ws lw wk args with
 |some (Φ,r')=>Φ.okK P (Fg P none (EP P f)) True/\(r'=r/\r.bare=true)
 |none=>False
theorem aBw.call{P:Program}{f:FuncId}{ws:List (Nat×W)}{lw:List Lw}{wk:List Ws}{args:List A}{r:A}(hm:P.follows .mixedOrders=true)(h:aBw P f ws lw wk args r):AL P f args [] r []:=by unfold aBw at h;split at h;rename_i Φ r' h1;obtain⟨hΦ,rfl,hb⟩:=h;exact aO4 hm h1 ((Ob.okK_iff _ _).1 hΦ).1 hb;exact h.elim
def aK6(P:Program)(f:FuncId)(ws:List (Nat×W))(lw:List Lw)(wk:List Ws)(args:List A)(X:Bx)(ks:List Nat)(us:List Value)(r:A)(X':Bx):Prop:=
 match aJd P f ws lw wk args X ks us with
 |some (Φ,r',X'')=>Φ.okK P (Fg P none (EP P f)) True/\(r'=r/\X''=X'++[(vx,.vals (JW args ks) us)]/\aK1 args X ks r X'=true)
 |none=>False
theorem aK6.call{P:Program}{f:FuncId}{ws:List Value->List (Nat×W)}{lw:List Value->List Lw}{wk:List Value->List Ws}{args:List A}{X:Bx}{ks:List Nat}{r:A}{X':Bx}(hm:P.follows .mixedOrders=true)
 (h:∀us,aK6 P f (ws us) (lw us) (wk us) args X ks us r X'):AL P f args X r X':=by
 have h2:∀us,∃Φ:Ob,aJd P f (ws us) (lw us) (wk us) args X ks us=some (Φ,r,X'++[(vx,.vals (JW args ks) us)])/\Φ.ok P (Fg P none (EP P f))/\aK1 args X ks r X'=true:=by intro us;have:=h us;unfold aK6 at this;split at this;rename_i Φ r' X'' h1;obtain⟨hΦ,rfl,rfl,hx⟩:=this;exact⟨Φ,h1,((Ob.okK_iff _ _).1 hΦ).1,hx⟩;exact this.elim
 exact aJe (ws:=ws) (lw:=lw) (wk:=wk) (Φ:=fun us=>Classical.choose (h2 us)) hm (fun us=>(Classical.choose_spec (h2 us)).1) (fun us=>(Classical.choose_spec (h2 us)).2.1) (h2 []).choose_spec.2.2
def aK5(P:Program)(f:FuncId)(ws:List (Nat×W))(lw:List Lw)(wk:List Ws)(args:List A)(F0:Bx)(r:A)(F':Bx):Prop:=
 match XP P f ws lw wk args F0 with
 |some (Φ,r',F'')=>Φ.okK P (Fg P none (EP P f)) True/\(r'=r/\F''=F'/\r.bare=true)
 |none=>False
theorem aK5.call{P:Program}{f:FuncId}{ws:List (Nat×W)}{lw:List Lw}{wk:List Ws}{args:List A}{F0 F':Bx}{r:A}(hm:P.follows .mixedOrders=true)(hF0:Far F0)(hcl:∀p∈F',∀m,p.2.has m=true->m∈AP F')
 (h:aK5 P f ws lw wk args F0 r F'):Lu P f args F0 r F':=by
 unfold aK5 at h
 split at h
 rename_i Φ r' F'' h1
 obtain⟨hΦ,rfl,rfl,hb⟩:=h
 exact RF hm h1 ((Ob.okK_iff _ _).1 hΦ).1 hb hF0 hcl
 exact h.elim
attribute [irreducible] Rt aBw aK6 aK5
theorem GI{P:Program}{rd:Option Nat}{root:Code}(hm:P.follows .mixedOrders=true)(ws:List (Nat×W))(lw:List Lw){q:List Nat}(l:List Ws){s s':St}{e:Ex}{p:Prop}(h:p)
 (he:(p/\(e=e/\s'=s'))=Rt P rd root ws lw q l s e s'):Arr P rd root q s e s':=Rt.arr (ws:=ws) (lw:=lw) (l:=l) hm (he.mp ⟨h,rfl,rfl⟩)
theorem aAl{P:Program}{f:FuncId}(hm:P.follows .mixedOrders=true)(ws:List (Nat×W))(lw:List Lw)(wk:List Ws){args:List A}{r:A}{p:Prop}(h:p)
 (he:(p/\(r=r/\true=true))=aBw P f ws lw wk args r):AL P f args [] r []:=aBw.call (ws:=ws) (lw:=lw) (wk:=wk) hm (he.mp ⟨h,rfl,rfl⟩)

theorem aAm{P:Program}{f:FuncId}(hm:P.follows .mixedOrders=true)(ws:List (Nat×W))(lw:List Lw)(wk:List Ws){args:List A}{F0 F':Bx}{r:A}(hF0:Far F0)(hcl:∀p∈F',∀m,p.2.has m=true->m∈AP F'){p:Prop}(h:p)
 (he:(p/\(r=r/\F'=F'/\true=true))=aK5 P f ws lw wk args F0 r F'):Lu P f args F0 r F':=aK5.call (ws:=ws) (lw:=lw) (wk:=wk) hm hF0 hcl (he.mp ⟨h,rfl,rfl,rfl⟩)

section
variable {σ τ:Type}
def itE(step:σ->Option (σ⊕τ)):Nat->σ->Option τ
 |0,_=>none
 |n+1,s=>match step s with
  |none=>none
  |some (.inl s')=>itE step n s'
  |some (.inr t)=>some t
theorem LT{step:σ->Option (σ⊕τ)}:∀{n m:Nat} {s:σ} {t:τ},n<=m->itE step n s=some t->itE step m s=some t
 |0,_,s,t,_,h=>by simp[itE]at h
 |n+1,0,s,t,hle,h=>by omega
 |n+1,m+1,s,t,hle,h=>by
  simp only[itE]at h⊢;split at h;cases h;exact LT (Nat.le_of_succ_le_succ hle) h;exact h
open Classical in
noncomputable def AQ(step:σ->Option (σ⊕τ))(s:σ):Option τ:=
 if h:∃t,∃n,itE step n s=some t then some (Classical.choose h)else none
theorem GB{step:σ->Option (σ⊕τ)}{s:σ}{t:τ}:AQ step s=some t↔ ∃n,itE step n s=some t:=by unfold AQ;constructor;intro h;split at h;rename_i hh;simp only[oe]at h;rw[<-h];exact Classical.choose_spec hh;cases h;rintro⟨n,hn⟩;have hh:∃t,∃n,itE step n s=some t:=⟨t,n,hn⟩;rw[dif_pos hh];obtain⟨m,hm⟩:=Classical.choose_spec hh;have h1:=LT (Nat.le_max_left n m) hn;have h2:=LT (Nat.le_max_right n m) hm;rw[h1]at h2;exact h2.symm
def CY(o:Option (σ⊕τ))(k:σ->Option τ):Option τ:=match o with
 |none=>none
 |some (.inl s)=>k s
 |some (.inr t)=>some t
theorem Al(step:σ->Option (σ⊕τ))(s:σ):AQ step s=CY (step s) (AQ step):=by
 apply Option.ext;intro t;rw[GB];unfold CY;cases hs:step s with
 |none=>
  constructor
  rintro⟨n,hn⟩
  cases n with
  |zero=>simp[itE]at hn
  |succ n=>simp[itE,hs]at hn
  intro h;simp at h
 |some x=>
  cases x with
  |inl s'=>
   simp only
   rw[GB]
   constructor
   rintro⟨n,hn⟩
   cases n with
   |zero=>simp[itE]at hn
   |succ n=>exact⟨n,by simpa[itE,hs]using hn⟩
   rintro⟨n,hn⟩
   exact⟨n+1,by simpa[itE,hs]using hn⟩
  |inr t'=>
   constructor
   rintro⟨n,hn⟩
   cases n with
   |zero=>simp[itE]at hn
   |succ n=>simpa[itE,hs]using hn
   intro h
   exact⟨1,by simpa[itE,hs]using h⟩
end

theorem aJ7{P:Program}{rd:Option Nat}{root:Code}{p:List Nat}(hl:ZE (Ax root p)=true){σ τ:Type}{step:σ->Option (σ⊕τ)}{I:σ->St}{O:τ->Ex×St}(hO:∀t,(O t).1≠ .normal)
 (hn:∀s s',step s=some (.inl s')->Arr P rd root (0::p) (I s) .normal (I s')) (hx:∀s t,step s=some (.inr t)->Arr P rd root (0::p) (I s) (O t).1 (O t).2)
 {s:σ} {t:τ} (h:AQ step s=some t):Fg P rd root p (I s) (O t).1 (O t).2:=by
 obtain⟨n,hn0⟩:=GB.1 h
 unfold Fg
 have hc:Ax root p=.loop (Ax root (0::p)):=by
  cases h:Ax root p with
  |loop b=>simp only[Ax,h,MG]
  |_=>rw[h]at hl;cases hl
 rw[hc]
 have hloop:=AC.loop (P:=P) (rd:=rd) (c:=Ax root (0::p)) (ι:={x:σ×Nat//itE step x.2 x.1=some t}) (fun x=>I x.1.1) (fun x=>x.1.2) (fun _ e s=>e=(O t).1/\Wk s (O t).2) ?_ ⟨(s,n),hn0⟩
 exact hloop.post fun e s1 hh=>⟨(O t).2,hh.2,hh.1,rfl⟩
 rintro⟨⟨s,n⟩,hi⟩
 cases n with
 |zero=>simp[itE]at hi
 |succ n=>
  simp only[itE]at hi
  split at hi
  cases hi
  rename_i s' hs
  refine AC.mono (hn s s' hs) ?_
  rintro e s1 ⟨rfl,hw⟩
  exact⟨⟨(s',n),hi⟩,Nat.lt_succ_self n,hw,fun e s hh=>hh⟩
  rename_i t' hs
  simp only[oe]at hi
  subst hi
  refine AC.mono (hx s t' hs) ?_
  rintro e s1 ⟨rfl,hw⟩
  cases he:(O t').1 with
  |normal=>exact absurd he (hO t')
  |exit id=>exact⟨rfl,hw⟩
  |ret=>exact⟨rfl,hw⟩

def rR{σ τ:Type}(I:σ->St)(O:τ->Ex×St):σ⊕τ->Ex×St
 | .inl s=>(.normal,I s)
 | .inr t=>O t
theorem ZI{P:Program}{rd:Option Nat}{root:Code}{p:List Nat}{σ τ:Type}{step:σ->Option (σ⊕τ)}(I:σ->St)(O:τ->Ex×St)(hl:ZE (Ax root p)=true)(hO:∀t,(O t).1≠ .normal)
 (hr:∀s o,step s=some o->Arr P rd root (0::p) (I s) (rR I O o).1 (rR I O o).2)
 {s:σ} {t:τ} (h:AQ step s=some t):Fg P rd root p (I s) (O t).1 (O t).2:=
 aJ7 hl hO (fun s s' h=>hr s (.inl s') h) (fun s t h=>hr s (.inr t) h) h

section
variable {α β:Type}
def AE(c:Bool)(a b:Option β):Option β:=match c with
 |true=>a
 |false=>b
def AY(p:Prop) [Decidable p](k:Option β):Option β:=if p then k else none
def AW(xs:List α)(i:Int)(k:α->Option β):Option β:=if 0<=i then(match xs[i.toNat]? with
 |some x=>k x
 |none=>none)else none
def AJ(x:Option α)(k:α->Option β):Option β:=match x with
 |some a=>k a
 |none=>none
theorem iS{c:Bool}{a b:Option β}{r:β}(h:AE c a b=some r):(c=true/\a=some r)\/(c=false/\b=some r):=by cases c;exact .inr ⟨rfl,h⟩;exact .inl ⟨rfl,h⟩
theorem Bz{a b:Option β}{r:β}(h:AE true a b=some r):a=some r:=h
theorem By{a b:Option β}{r:β}(h:AE false a b=some r):b=some r:=h
theorem cS{p:Prop} [Decidable p]{k:Option β}{r:β}(h:AY p k=some r):p/\k=some r:=by unfold AY at h;split at h;exact⟨‹_›,h⟩;cases h
theorem xS{xs:List α}{i:Int}{k:α->Option β}{r:β}(h:AW xs i k=some r):∃x,(0<=i/\xs[i.toNat]? =some x)/\k x=some r:=by unfold AW at h;split at h;split at h;exact⟨_,⟨‹_›,‹_›⟩,h⟩;cases h;cases h
theorem bS{x:Option α}{k:α->Option β}{r:β}(h:AJ x k=some r):∃a,x=some a/\k a=some r:=by
 cases x with
 |none=>cases h
 |some a=>exact⟨a,rfl,h⟩
end
end Go.Ac
namespace Go.Ac
def D.i(k:IntKind)(n:Int):D:=.v (.int k n)
def D.b(b:Bool):D:=.v (.bool b)
def D.s(l:List UInt8):D:=.v (.string ⟨⟨l⟩⟩)
def D.l{α:Type}(f:α->D)(xs:List α):D:=.sl (xs.map f)
def aSn(x:D):List A:=x.cells.map .d
def sp:Nat->Nat->List (Nat×A)->List A
 |0,_,_=> []
 |n+1,i,[]=>.any::sp n (i+1) []
 |n+1,i,(j,a)::l=>if Nat.beq j i then a::sp n (i+1) l else .any::sp n (i+1) ((j,a)::l)
class Dp{α:Type}(f:α->D)(k:outParam Nat):Prop where
 h:∀x,(f x).nc=k
instance (k:IntKind):Dp (D.i k) 1:=⟨fun _=>rfl⟩
instance :Dp D.b 1:=⟨fun _=>rfl⟩
instance :Dp D.s 1:=⟨fun _=>rfl⟩
instance :Dp Ny 1:=⟨fun _=>rfl⟩
instance {α:Type} (f:α->D):Dp (D.l f) 1:=⟨fun _=>rfl⟩

section
variable {α β:Type}
theorem Ap(f:α->D){k:Nat} [Dp f k](l:List α):∀y∈l.map f,y.nc=k:=by intro y hy;obtain⟨x,_,rfl⟩:=mm.1 hy;exact Dp.h x
theorem aJs(f:α->D){xs:List α}{i:Int}{x:α}(h:0<=i/\xs[i.toNat]? =some x):0<=i/\(xs.map f)[i.toNat]? =some (f x):=
 ⟨h.1,by rw[List.getElem?_map,h.2];rfl⟩
theorem Ee(f:α->D)(xs:List α):((xs.map f).length:Int)=(xs.length:Int):=by rw[List.length_map]
theorem CU(l:List UInt8):((ByteArray.mk ⟨l⟩).size:Int)=(l.length:Int):=rfl
theorem Gz{l:List UInt8}{i:Int}{x:UInt8}(h:0<=i/\l[i.toNat]? =some x):0<=i/\∃c:UInt8,(ByteArray.mk ⟨l⟩).data.toList[i.toNat]? =some c/\(c.toNat:Int)=(x.toNat:Int):=
 ⟨h.1,x,h.2,rfl⟩
def fit(a b n:Nat):Prop:=(a+b)*n<=140737488355328
instance (a b n:Nat):Decidable (fit a b n):=inferInstanceAs (Decidable (_<=_))
theorem Av(f:α->D){xs ys:List α}{n:Nat}(h:fit xs.length ys.length n):((xs.map f).length+(ys.map f).length)*n<=140737488355328:=by rw[List.length_map,List.length_map];exact h
theorem Au(f:α->D)(xs ys:List α):xs.map f++ys.map f=(xs++ys).map f:=(List.map_append).symm
def sub(xs:List α)(l h:Int):List α:=(xs.take h.toNat).drop l.toNat
theorem F4(f:α->D){k:Nat} [Dp f k]{xs:List α}{l h:Int}(hh:0<=l/\l<=h/\h<=xs.length):
 0<=l/\l<=(some h).getD ((xs.map f).length:Int)/\(some h).getD ((xs.map f).length:Int)<=((xs.map f).length:Int)/\(∀y∈xs.map f,y.nc=k)/\
  ((xs.map f).take ((some h).getD ((xs.map f).length:Int)).toNat).drop l.toNat=(sub xs l h).map f:=by
 refine⟨hh.1,hh.2.1,by rw[List.length_map];exact hh.2.2,Ap f xs,?_⟩
 simp only[Option.getD_some,sub,List.map_drop,List.map_take]
theorem F3(f:α->D){k:Nat} [Dp f k]{xs:List α}{l:Int}(hh:0<=l/\l<=(xs.length:Int)/\(xs.length:Int)<=xs.length):
 0<=l/\l<=(none:Option Int).getD ((xs.map f).length:Int)/\(none:Option Int).getD ((xs.map f).length:Int)<=((xs.map f).length:Int)/\(∀y∈xs.map f,y.nc=k)/\
  ((xs.map f).take ((none:Option Int).getD ((xs.map f).length:Int)).toNat).drop l.toNat=(sub xs l (xs.length:Int)).map f:=by
 refine⟨hh.1,by simp only[Option.getD_none,List.length_map];exact hh.2.1,Int.le_refl _,Ap f xs,?_⟩
 simp only[Option.getD_none,sub,List.map_drop,List.map_take,List.length_map,Int.toNat_natCast]
theorem Jn{a b:List UInt8}(h:a.length+b.length<=9223372036854775807):(ByteArray.mk ⟨a⟩).size+(ByteArray.mk ⟨b⟩).size<=9223372036854775807/\ByteArray.mk ⟨a⟩++ByteArray.mk ⟨b⟩=⟨⟨a++b⟩⟩:=by refine⟨h,?_⟩;apply ByteArray.ext;simp
def u8w(n:Int):UInt8:=UInt8.ofNat (n % 256).toNat
theorem aL6(n:Int):IntKind.u8.wrap n=((u8w n).toNat:Int):=by
 have h:IntKind.u8.wrap n=n % 256:=by simp[IntKind.wrap,IntKind.signed,IntKind.bits]
 rw[h];unfold u8w;rw[UInt8.toNat_ofNat'];omega
theorem Oa(c:UInt8):IntKind.i64.wrap (c.toNat:Int)=(c.toNat:Int):=by have:=c.toNat_lt;exact IntWalk.i64_in _ ⟨by omega,by omega⟩
def aTw(a b:Int):Int:=if a<b then b else a
def CH{γ:Type}(o:α⊕β)(f:α->Option γ)(g:β->Option γ):Option γ:=match o with
 | .inl a=>f a
 | .inr b=>g b
theorem AK{γ:Type}{o:α⊕β}{f:α->Option γ}{g:β->Option γ}{r:γ}(h:CH o f g=some r):(∃a,o=.inl a/\f a=some r)\/(∃b,o=.inr b/\g b=some r):=by
 cases o with
 |inl a=>exact .inl ⟨a,rfl,h⟩
 |inr b=>exact .inr ⟨b,rfl,h⟩
end
def isN:Ex->Bool
 | .normal=>true
 |_=>false
theorem Pg{e:Ex}(h:isN e=false):e≠ .normal:=by intro hh;rw[hh]at h;cases h
end Go.Ac
namespace Go.Ac
section
variable {α:Type}
theorem AH(f:α->D){xs:List α}{i:Int}{x:α}(h:0<=i/\xs[i.toNat]? =some x):0<=(i.toNat:Int)/\(xs.map f)[(i.toNat:Int).toNat]? =some (f x):=
 ⟨by omega,by rw[Int.toNat_natCast,List.getElem?_map,h.2];rfl⟩
theorem AF(f:α->D){xs:List α}{i:Int}(h:i+1<=(xs.length:Int)):i+1<=((xs.map f).length:Int):=by rw[List.length_map];exact h
theorem A9(f:α->D){xs:List α}{i:Int}(h:0<=i/\i+1<=(xs.length:Int)):(i.toNat:Int)+1<=((xs.map f).length:Int):=by rw[List.length_map];omega
theorem AT(f:α->D)(xs:List α)(i:Int)(x:α):(xs.map f).set i.toNat (f x)=(xs.set i.toNat x).map f:=by rw[List.map_set]
theorem aS1(f:α->D)(n:Int)(x:α):([]:List D)++List.replicate n.toNat (f x)=(List.replicate n.toNat x).map f:=by rw[List.map_replicate];rfl
theorem aS2(f:α->D){n:Int}(x:α){b:Nat}(h:fit 0 n.toNat b):(([]:List D).length+(List.replicate n.toNat (f x)).length)*b<=140737488355328:=by rw[List.length_replicate];exact h
end
end Go.Ac
namespace Go.Ac
end Go.Ac
namespace Go.Ac
theorem ai{a b:Prop}(h:a)(k:b):a/\b:=⟨h,k⟩
theorem ti:True:=trivial
theorem aSs{α:Type}(f:α->D)(l:List α)(i:Int):(l.map f).take i.toNat++[]=(l.take i.toNat).map f:=by simp
theorem aX3{α:Type}(f:α->D){l:List α}{i:Int}(h:i<=(l.length:Int)):i<=((l.map f).length:Int):=by rw[List.length_map];exact h
theorem si{α:Type}{a b:α}(h:some a=some b):a=b:=Option.some.inj h
section
variable {α β γ σ τ:Type}
theorem AI(a b:Option β):AE true a b=a:=rfl
theorem AG(a b:Option β):AE false a b=b:=rfl
theorem BE(c:Bool)(a b:Option β):AE c a b=if c=true then a else b:=by cases c<;>rfl
theorem AB(x:α)(k:α->Option β):AJ (some x) k=k x:=rfl
theorem Aw{p:Prop} [Decidable p](h:p)(k:Option β):AY p k=k:=if_pos h
theorem CR(a:α)(f:α->Option γ)(g:β->Option γ):CH (.inl a) f g=f a:=rfl
theorem ED(b:β)(f:α->Option γ)(g:β->Option γ):CH (.inr b) f g=g b:=rfl
theorem BF(s:σ)(k:σ->Option τ):CY (some (.inl s)) k=k s:=rfl
theorem Ad(t:τ)(k:σ->Option τ):CY (some (.inr t)) k=some t:=rfl
theorem AN{xs:List α}{n:Nat}{x:α}(h:xs[n]? =some x)(k:α->Option β):AW xs (n:Int) k=k x:=by simp[AW,h]
theorem YX{x:α}{xs:List α}(k:α->Option β):AW (x::xs) 0 k=k x:=by simp[AW]
theorem aLs{x y:α}{xs:List α}(k:α->Option β):AW (x::y::xs) 1 k=k y:=by simp[AW]
theorem aJ8{step:σ->Option (σ⊕τ)}(I:σ->Prop)(μ:σ->Nat)(spec:σ->τ)
 (h:∀s,I s->step s=some (.inr (spec s))\/∃s',step s=some (.inl s')/\I s'/\μ s'<μ s/\spec s'=spec s):∀s,I s->AQ step s=some (spec s):=by
 have key:∀n s,μ s<n->I s->AQ step s=some (spec s):=by
  intro n;induction n with
  |zero=>intro s hs;omega
  |succ n ih=>
   intro s hs hI
   rw[Al]
   rcases h s hI with h1|⟨s',h1,h2,h3,h4⟩
   rw[h1];rfl
   rw[h1,BF,ih s' (by omega) h2,h4]
 exact fun s hI=>key (μ s+1) s (by omega) hI
theorem BC{step:σ->Option (σ⊕τ)}(I:σ->Prop)(μ:σ->Nat)(Q:τ->Prop)
 (h:∀s,I s->(∃t,step s=some (.inr t)/\Q t)\/∃s',step s=some (.inl s')/\I s'/\μ s'<μ s):∀s,I s->∃t,AQ step s=some t/\Q t:=by
 have key:∀n s,μ s<n->I s->∃t,AQ step s=some t/\Q t:=by
  intro n;induction n with
  |zero=>intro s hs;omega
  |succ n ih=>
   intro s hs hI
   rw[Al]
   rcases h s hI with⟨t,h1,h2⟩|⟨s',h1,h2,h3⟩
   exact⟨t,by rw[h1];rfl,h2⟩
   rw[h1,BF];exact ih s' (by omega) h2
 exact fun s hI=>key (μ s+1) s (by omega) hI
end
theorem L8{a b:Int}(h1: -9223372036854775808<=a+b)(h2:a+b<=9223372036854775807):AA .add .i64 a b=a+b:=IntWalk.i64_in _ ⟨h1,h2⟩
theorem aAx{a b:Int}(h1: -9223372036854775808<=a-b)(h2:a-b<=9223372036854775807):AA .sub .i64 a b=a-b:=IntWalk.i64_in _ ⟨h1,h2⟩
theorem aS4{a b:Int}(h1: -9223372036854775808<=a*b)(h2:a*b<=9223372036854775807):AA .mul .i64 a b=a*b:=IntWalk.i64_in _ ⟨h1,h2⟩
theorem M5{n:Nat}(h:n<9223372036854775807):AA .add .i64 (n:Int) 1=((n+1:Nat):Int):=by rw[L8 (by omega) (by omega)];rfl
theorem aQn{a:Int}(h1: -9223372036854775808<=a)(h2:a<=9223372036854775807):IntKind.wrap .i64 a=a:=IntWalk.i64_in _ ⟨h1,h2⟩
theorem aTq(a:Int):IntKind.wrap .u64 a=a % 18446744073709551616:=by simp[IntKind.wrap,IntKind.signed,IntKind.bits]
theorem B0{a b n:Nat}(h:a+b<=1073741824)(hn:n<=131072):fit a b n:=by unfold fit;exact Nat.le_trans (Nat.mul_le_mul h hn) (by decide)
theorem aA9{n:Nat}(h:n<256):(u8w (n:Int)).toNat=n:=by
 have:=aL6 (n:Int);have h2:IntKind.u8.wrap (n:Int)=n:=by simp[IntKind.wrap,IntKind.signed,IntKind.bits];omega
 rw[h2]at this;omega
theorem AZ{α:Type}{l:List α}{i:Nat}(h:i<l.length):∃x,l[i]? =some x/\l.drop i=x::l.drop (i+1):=
 ⟨_,List.getElem?_eq_getElem h,List.drop_eq_getElem_cons h⟩
theorem aA0{α:Type}(xs:List α)(l h:Nat):sub xs (l:Int) (h:Int)=(xs.take h).drop l:=by simp[sub]
theorem aAz{α:Type}(xs:List α)(l:Nat):sub xs (l:Int) (xs.length:Int)=xs.drop l:=by simp[sub]
end Go.Ac
namespace Go.Ac
theorem KN(n:Nat)(h:n<18446744073709551616):(BitVec.ofInt 64 (n:Int)).toNat=n:=by simp[BitVec.toNat_ofInt];omega
theorem Aq{n:Nat}(h:n<18446744073709551616):IntKind.wrap .u64 (n:Int)=n:=by rw[aTq];omega
theorem aY5{n m:Nat}(hn:n<18446744073709551616)(hm:m<18446744073709551616):AA .xor .u64 (n:Int) (m:Int)=((n^^^m:Nat):Int):=by have h:n^^^m<2^64:=Nat.xor_lt_two_pow (by simpa using hn) (by simpa using hm);show IntKind.wrap .u64 (((BitVec.ofInt 64 (n:Int))^^^(BitVec.ofInt 64 (m:Int))).toNat:Int)=_;rw[BitVec.toNat_xor,KN n hn,KN m hm];exact Aq (by simpa using h)
theorem orU{n m:Nat}(hn:n<18446744073709551616)(hm:m<18446744073709551616):AA .or .u64 (n:Int) (m:Int)=((n|||m:Nat):Int):=by have h:n|||m<2^64:=Nat.or_lt_two_pow (by simpa using hn) (by simpa using hm);show IntKind.wrap .u64 (((BitVec.ofInt 64 (n:Int))|||(BitVec.ofInt 64 (m:Int))).toNat:Int)=_;rw[BitVec.toNat_or,KN n hn,KN m hm];exact Aq (by simpa using h)
theorem aTs{n m:Nat}(hn:n<18446744073709551616)(hm:m<18446744073709551616):AA .and .u64 (n:Int) (m:Int)=((n&&&m:Nat):Int):=by have h:n&&&m<2^64:=Nat.and_lt_two_pow _ (by simpa using hm);show IntKind.wrap .u64 (((BitVec.ofInt 64 (n:Int))&&&(BitVec.ofInt 64 (m:Int))).toNat:Int)=_;rw[BitVec.toNat_and,KN n hn,KN m hm];exact Aq (by simpa using h)
theorem aT0{n k:Nat}(hk:k<=64):AA .shr .u64 (n:Int) (k:Int)=((n/2^k:Nat):Int):=by show Int.fdiv (n:Int) (2^(min (k:Int).toNat 64))=_;rw[Int.toNat_natCast,Nat.min_eq_left hk];rw[Int.fdiv_eq_ediv_of_nonneg _ (Int.pow_nonneg (by decide))];rw[Int.natCast_ediv,Int.natCast_pow];rfl
theorem aYy{n k:Nat}(hk:k<=64):AA .shl .u64 (n:Int) (k:Int)=((n*2^k % 18446744073709551616:Nat):Int):=by show IntKind.wrap .u64 ((n:Int)*2^(min (k:Int).toNat 64))=_;rw[Int.toNat_natCast,Nat.min_eq_left hk,aTq,Int.natCast_emod,Int.natCast_mul,Int.natCast_pow];rfl
end Go.Ac
namespace Go.Ac
def cj:List Prop->Prop->Prop
 |[],k=>k
 |q::Q,k=>cj Q (q/\k)
theorem YJ:∀(Q:List Prop) (k:Prop),cj Q k↔cj Q True/\k
 |[],k=>by simp[cj]
 |q::Q,k=>by
  simp only[cj];rw[YJ Q (q/\k),YJ Q (q/\True)];exact⟨fun h=>⟨⟨h.1,h.2.1,trivial⟩,h.2.2⟩,fun h=>⟨h.1.1,h.1.2.1,h.2⟩⟩
theorem aPj{q:Prop}{Q:List Prop}(h:q)(k:cj Q True):cj (q::Q) True:=(YJ Q (q/\True)).2 ⟨k,h,trivial⟩
section
variable {β γ δ:Type} {ws:List (Nat×W)} {lw:List Lw} {Q:List Prop} {G:β->Prop} {o:β}
def Gl(ws:List (Nat×W))(lw:List Lw)(Q:List Prop)(G:β->Prop)(o:β):Prop:=cj Q True->G o
def aAt:List A->Nat->List Nat
 |[],_=> []
 | .any::l,i=>aAt l (i+1)
 |_::l,i=>i::aAt l (i+1)
def lvS(s:St):List Ws:=[.live (aAt s.E 0),.keep (s.B.map (·.1))]
def aYx:Nat->Nat->List Nat
 |0,_=> []
 |f+1,n=>if Nat.ble n 1 then []else(n % 2)::aYx f (n/2)
abbrev pth(n:Nat):List Nat:=aYx 64 n
theorem g0(h:Gl [] [] [] G o):G o:=h trivial
theorem gW(n:Nat)(w:W)(c:Gl ((n,w)::ws) lw Q G o):Gl ws lw Q G o:=c
theorem gQ{q:Prop}(h:q)(c:Gl ws lw (q::Q) G o):Gl ws lw Q G o:=fun k=>c (aPj h k)
theorem gG(n:Nat)(w:W){q:Prop}(h:q)(c:Gl ((n,w)::ws) lw (q::Q) G o):Gl ws lw Q G o:=gQ h c
theorem gT(n:Nat){q:Prop}(h:q)(c:Gl ((n,.bit true)::ws) lw (q::Q) G o):Gl ws lw Q G o:=gQ h c
theorem gF(n:Nat){q:Prop}(h:q)(c:Gl ((n,.bit false)::ws) lw (q::Q) G o):Gl ws lw Q G o:=gQ h c
theorem gN(n:Nat)(f:γ->D)(xs:List γ)(c:Gl ((n,.int (xs.length:Int))::ws) lw ((((xs.map f).length:Int)=(xs.length:Int))::Q) G o):Gl ws lw Q G o:=gQ (Ee f xs) c
theorem gC(n:Nat){P:Program}{f:FuncId}{args:List A}{r:A}(h:AL P f args [] r [])(c:Gl ((n,.ret r)::ws) lw (AL P f args [] r []::Q) G o):Gl ws lw Q G o:=gQ h c
theorem gL(wk:List Ws){P:Program}{rd:Option Nat}{root:Code}{p:List Nat}{s:St}{e:Ex}{s':St}(h:Fg P rd root p s e s')(c:Gl ws (⟨p,wk,e,s'⟩::lw) (Fg P rd root p s e s'::Q) G o):Gl ws lw Q G o:=gQ h c
theorem gl{P:Program}{rd:Option Nat}{root:Code}{p:List Nat}{s:St}{e:Ex}{s':St}(h:Fg P rd root p s e s')(c:Gl ws (⟨p,lvS s,e,s'⟩::lw) (Fg P rd root p s e s'::Q) G o):Gl ws lw Q G o:=gQ h c
theorem iB(n:Nat){b:Bool}{x y:Option δ}{r:δ}(h:AE b x y=some r)(A1:x=some r->Gl ((n,.bit true)::ws) lw ((b=true)::Q) G o)(A2:y=some r->Gl ((n,.bit false)::ws) lw ((b=false)::Q) G o):Gl ws lw Q G o:=by
 rcases iS h with⟨h1,h2⟩|⟨h1,h2⟩
 exact gQ h1 (A1 h2);exact gQ h1 (A2 h2)
theorem xX(n:Nat)(f:γ->D){xs:List γ}{i:Int}{k:γ->Option δ}{r:δ}(h:AW xs i k=some r)(c:∀x,k x=some r->Gl ((n,.el (f x))::ws) lw ((0<=i/\(xs.map f)[i.toNat]? =some (f x))::Q) G o):Gl ws lw Q G o:=by obtain⟨x,h1,h2⟩:=xS h;exact gQ (aJs f h1) (c x h2)
end
abbrev lv(a b:List Nat):List Ws:=[.live a,.keep b]
section
variable {β:Type} {ws:List (Nat×W)} {lw:List Lw} {Q:List Prop} {o v:β} {P:Program} {rd:Option Nat} {root:Code} {q:List Nat} {s:St} {f:FuncId} {args:List A}
theorem lB_(hm:P.follows .mixedOrders=true)(h:some v=some o)(l:List Ws){E:β->Ex}{S:β->St}
 (he:(cj Q True/\(E v=E v/\S v=S v))=Rt P rd root ws lw q l s (E v) (S v)):Gl ws lw Q (fun o=>Arr P rd root q s (E o) (S o)) o:=by
 cases si h
 exact fun k=>GI hm ws lw l k he
theorem lP_(hm:P.follows .mixedOrders=true)(h:some v=some o)(l:List Ws){E:β->Ex}{S:β->St}
 (he:(cj Q True/\(E v=E v/\S v=S v))=Rt P rd root ws lw q l s (E v) (S v)):Gl ws lw Q (fun o=>Fg P rd root q s (E o) (S o)) o:=by
 cases si h
 exact fun k=>(GI hm ws lw l k he).lp
theorem lF_(hm:P.follows .mixedOrders=true)(h:some v=some o)(l:List Ws){R:β->A}
 (he:(cj Q True/\(R v=R v/\true=true))=aBw P f ws lw l args (R v)):Gl ws lw Q (fun o=>AL P f args [] (R o) []) o:=by
 cases si h
 exact fun k=>aAl hm ws lw l k he
theorem lI_(hm:P.follows .mixedOrders=true){F0:Bx}(hF:Far F0){r:A}{F:β->Bx}(hc:∀f,∀p∈F f,∀m,p.2.has m=true->m∈AP (F f))(h:some v=some o)(l:List Ws)
 (he:(cj Q True/\(r=r/\F v=F v/\true=true))=aK5 P f ws lw l args F0 r (F v)):Gl ws lw Q (fun o=>Lu P f args F0 r (F o)) o:=by
 cases si h
 exact fun k=>aAm hm ws lw l hF (hc _) k he
def XG(P:Program)(f:FuncId)(args:List A)(X:Bx)(ks:List Nat)(us:List Value)(r:A)(X':Bx):Prop:=∃ws lw wk,aK6 P f ws lw wk args X ks us r X'
theorem XG.call{X:Bx}{ks:List Nat}{r:A}{X':Bx}(hm:P.follows .mixedOrders=true)(h:∀us,XG P f args X ks us r X'):AL P f args X r X':=by refine aK6.call (ws:=fun us=>(h us).choose) (lw:=fun us=>(h us).choose_spec.choose) (wk:=fun us=>(h us).choose_spec.choose_spec.choose) hm fun us=>(h us).choose_spec.choose_spec.choose_spec
theorem lX_{X:Bx}{ks:List Nat}{us:List Value}(h:some v=some o)(l:List Ws){R:β->A}{X':β->Bx}
 (he:(cj Q True/\(R v=R v/\X' v++[(vx,.vals (JW args ks) us)]=X' v++[(vx,.vals (JW args ks) us)]/\true=true))=aK6 P f ws lw l args X ks us (R v) (X' v)):Gl ws lw Q (fun o=>XG P f args X ks us (R o) (X' o)) o:=by
 cases si h
 exact fun k=>⟨ws,lw,l,he.mp ⟨k,rfl,rfl,rfl⟩⟩
end
section
variable {σ τ:Type} {P:Program} {rd:Option Nat} {root:Code} {p:List Nat} {step:σ->Option (σ⊕τ)}
theorem lL(I:σ->St)(O:τ->Ex×St)(s:σ)(hr:∀s o,step s=some o->Gl [] [] [] (fun o=>Arr P rd root (0::p) (I s) (rR I O o).1 (rR I O o).2) o)
 {t:τ} (h:AQ step s=some t) (hl:ZE (Ax root p)=true:=by kernel_rfl) (hO:∀t,isN (O t).1=false:=by intro t;first|rfl|(rcases t with _|_<;>rfl)|(rcases t with _|_|_<;>rfl)|(rcases t with _|_|_|_<;>rfl)|(rcases t with _|_|_|_|_<;>rfl)):Fg P rd root p (I s) (O t).1 (O t).2:=
 ZI I O hl (fun t=>Pg (hO t)) (fun s o h=>hr s o h trivial) h
end
end Go.Ac
namespace Go.Ac
open Go.Proofs Go.Shelf Go.RowKit Go.Lib Go.Sort

def Cj(w:World)(b:Nat)(e:TypeId)(cur:List Value):Prop:=w.heap[b]? =some (.cells ⟨cur⟩ e (0,0))
section
variable {w:World} {b:Nat} {e:TypeId} {cur:List Value}
theorem Cj.cell(h:Cj w b e cur)(j:Nat):w.cell? ⟨b,j,none⟩=cur[j]? :=by rw[cell_of_row w b j ⟨cur⟩ e (0,0) h];simp
theorem Cj.thawed(h:Cj w b e cur)(j:Nat):w.frozen? ⟨b,j,none⟩=false:=by unfold World.frozen?;rw[show w.heap[b]? =_ from h];simp
theorem Cj.shape(h:Cj w b e cur):w.shape? b=some (e,cur.length):=by unfold World.shape?;rw[show w.heap[b]? =_ from h];simp
theorem Cj.lt(h:Cj w b e cur):b<w.heap.size:=(Array.getElem?_eq_some_iff.1 h).1
theorem Cj.drew(h:Cj w b e cur):Cj w.drew b e cur:=h
theorem Cj.set1(h:Cj w b e cur)(o:Nat)(v:Value):Cj (w.setCell ⟨b,o,none⟩ v) b e (cur.set o v):=by unfold Cj at h⊢;simp[World.setCell,Array.getElem?_modify,h]
end
theorem Cj.set{b:Nat}{e:TypeId}:∀(vs:List Value) {w:World} {cur:List Value} (o:Nat),Cj w b e cur->o+vs.length<=cur.length->
 Cj (w.setCells b o vs) b e (cur.take o++vs++cur.drop (o+vs.length))
 |[],w,cur,o,h,hl=>by simpa[World.setCells]using h
 |v::vs,w,cur,o,h,hl=>by
  rw[World.setCells];have hl':o+1+vs.length<=cur.length:=by simpa[Nat.add_assoc,Nat.add_comm,Nat.add_left_comm]using hl
  have h1:=Cj.set vs (o+1) (h.set1 o v) (by simpa using hl');have e1:(cur.set o v).take (o+1)=cur.take o++[v]:=by rw[List.take_set,List.take_succ_eq_append_getElem (by omega),List.set_append_right _ _ (by simp;omega)];simp[Nat.min_eq_left (show o<=cur.length by omega)]
  have e2:(cur.set o v).drop (o+1+vs.length)=cur.drop (o+(v::vs).length):=by rw[List.drop_set_of_lt (by omega)];congr 1;simp;omega
  rw[e1,e2]at h1;simpa using h1
theorem DH(b:Nat):∀(vs:List Value) (o:Nat) (w:World),(w.setCells b o vs).os=w.os/\(w.setCells b o vs).tape=w.tape/\(w.setCells b o vs).output=w.output/\
 (w.setCells b o vs).heap.size=w.heap.size/\∀x,x≠b->(w.setCells b o vs).heap[x]? =w.heap[x]?
 |[],o,w=>⟨rfl,rfl,rfl,rfl,fun _ _=>rfl⟩
 |v::vs,o,w=>by
  rw[World.setCells];obtain⟨a1,a2,a3,a4,a5⟩:=DH b vs (o+1) (w.setCell ⟨b,o,none⟩ v);refine⟨a1,a2,a3,a4.trans (World.size_setCell _ _ _),fun x hx=>(a5 x hx).trans ?_⟩;simp[World.setCell,Array.getElem?_modify,Ne.symm hx]

theorem EC(z:Array Value)(n:Nat):(Builtin.zeroCells z n).toList.length=n*z.size:=by simp[Builtin.zeroCells]
structure aBg(P:Program)(t e:TypeId)(i:TypeInfo)(z:Value):Prop where
 ht:P.underlying t=some (.slice e)
 hi:P.info? e=some i
 hz:i.zero=some z
 hzs:z.cells.size=i.size
 h1:∀v∈z.cells,v.oneCell'=true

end Go.Ac
namespace Go.Ac
open Go.Proofs Go.Shelf Go.RowKit Go.Lib Go.Sort

theorem Em{X:Bx}{m:Nat}{e:TypeId}{k:Nat}{ys:List D}{h:Hw}{w:World}{val:Val}{v v':Value}{w':World}{us':List Value}
 (hm:m∉AP X) (hh:∀g,v.ownBlock=some g->h g=0) (hM:∀g,v.ownBlock=some g->g∈Ae val X)
 (hown':w'.ownsRow 0 e k v' ys.length us') (hrow':Am h w k ys us')
 (hcase:∀g,v'.ownBlock=some g->v.ownBlock=some g\/w.heap.size<=g) (hgrow:w.grownBy w' v.ownBlock):
 ∃h' val' u,Ending.returned v'=.returned u/\Inv h' w' val' [(m,.rw e k ys)]/\RA h' w' val' (.row m) u/\Cf (Ae val X) h w h' w'/\
  (∀n,(n∈AP [(m,Bk.rw e k ys)]->n∈AP X)->val' n=val n)/\∀b∈Ae val' [(m,.rw e k ys)],b∈Ae val X\/w.heap.size<=b:=by
 let h':Hw:=fun b=>if v'.ownBlock=some b then 0 else h b
 have hvm:BB val m v' m=v':=by simp[BB]
 have hkeep0:Cf v.ownBlock.toList h w h' w':=by
  refine⟨hgrow.os,hgrow.tape,hgrow.output,hgrow.size,fun b j x hj hcx=>?_,fun b hb=>?_,fun b hb hn=>?_⟩;by_cases hvb:some b=v.ownBlock;rw[hh b hvb.symm]at hj;exact absurd hj (Nat.not_lt_zero _);rw[World.cell?_of_block (w:=w) (a:=⟨b,j,none⟩) (hgrow.block b (Fo hcx) hvb)];exact hcx;show h b<=if v'.ownBlock=some b then _ else h b
  split;rename_i hvb;rcases hcase b hvb with h1|h1
  rw[hh b h1];exact Nat.le_refl _;omega;exact Nat.le_refl _;have hn':some b≠v.ownBlock:=fun e=>hn (by rw[<-e];simp);refine⟨hgrow.block b hb hn',?_⟩;show(if v'.ownBlock=some b then _ else h b)=h b
  rw[if_neg fun hvb=>?_];rcases hcase b hvb with h1|h1
  exact hn' h1.symm;omega
 have hkeep:Cf (Ae val X) h w h' w':=hkeep0.mono' fun x hx=>by
  cases hvo:v.ownBlock with
  |none=>simp[hvo]at hx
  |some g=>simp[hvo]at hx;subst hx;exact .inl (hM _ hvo)
 have hvbv:C6 v'=v'.ownBlock:=C7 hown'
 have hlen:us'.length=ys.length*k:=Am.length hrow'
 have hbl:Ae (BB val m v') [(m,.rw e k ys)]=v'.ownBlock.toList:=by unfold Ae Ai;simp only[List.filterMap_cons,List.filterMap_nil,Bk.isOld,hvm,hvbv];cases v'.ownBlock<;>rfl
 refine⟨h',BB val m v',v',rfl,⟨?_,by simp[AP],?_⟩,?_,hkeep,?_,?_⟩
 intro p hp
 simp only[List.mem_singleton]at hp
 subst hp
 refine⟨us',by rw[hvm];exact hown',Am.stays hkeep0.stays _ _ _ hrow',fun g hg=>?_⟩
 rw[hvm]at hg
 show(if v'.ownBlock=some g then _ else h g)=_
 rw[if_pos hg]
 rw[hbl];cases v'.ownBlock<;>simp
 simp only[RA,hvm]
 exact⟨trivial,.inl (Cz hown')⟩
 intro n hn
 by_cases e:n=m
 subst e;exact absurd (hn (by simp[AP])) hm
 simp[BB,e]
 intro b hb
 rw[hbl]at hb
 have hb':v'.ownBlock=some b:=by cases hq:v'.ownBlock with
  |none=>rw[hq]at hb;simp at hb
  |some g=>rw[hq]at hb;simp at hb;rw[hb]
 rcases hcase b hb' with h1|h1
 exact .inl (hM b h1)
 exact .inr h1

theorem Lf{P:Program}{t e:TypeId}{k by_:Nat}(ht:P.underlying t=some (.slice e))
 (hq:(P.info? e).map (fun i=>(i.size,i.bytes,i.zero.map (·.cells.size),i.zero.map (fun z=>z.cells.all (·.oneCell'))))=some (k,by_,some k,some true)):
 ∃i z,aBg P t e i z/\i.size=k/\i.bytes=by_:=by
 simp only[om,pe]at hq
 obtain⟨i,hi,h1,h2,⟨z,hz,hzs⟩,⟨z',hz',hza⟩⟩:=hq
 rw[hz]at hz'
 cases hz'
 refine⟨i,z,⟨ht,hi,hz,hzs.trans h1.symm,fun v hv=>?_⟩,h1,h2⟩
 rw[Array.all_eq_true']at hza
 exact hza v hv
end Go.Ac
namespace Go.Ac
open Go.Proofs Go.Shelf Go.RowKit Go.Lib Go.Sort
section
variable {P:Program} {ρ:Ren}
theorem FZ(w:World)(dT sT ty elem:TypeId)(b o dLen dCap:Nat)(a:Addr)(sLen sCap:Nat)(cs:List Value)(i:TypeInfo)
 (hu:P.underlying dT=some (.slice elem)) (hi:P.info? elem=some i) (hn:cs.length=Nat.min sLen dLen*i.size)
 (hsrc:∀j v,cs[j]? =some v->w.cell? (a.add j)=some v) (hc:∀j,j<cs.length->(w.cell? ⟨b,o+j,none⟩).isSome=true) (hf:∀j,j<cs.length->w.frozen? ⟨b,o+j,none⟩=false) (h1:∀v∈cs,v.oneCell'=true):
 (Builtin.copy_ #[dT,sT] ty #[.slice (some ⟨b,o,none⟩) dLen dCap,.slice (some a) sLen sCap]).run P w=.ok (goInt (Nat.min sLen dLen)) (w.setCells b o cs):=by
 have hl:=run_firstCells_some (P:=P) w i.size (Nat.min sLen dLen) a sLen sCap cs (by omega) hsrc
 have hst:=run_storeCells_cells (P:=P) b o cs 0 w (by simpa using hc) (by simpa using hf) h1
 simp[Builtin.copy_,run_underlying hu,Builtin.lenOf,sizeOf,typeInfo,hi,hl,hst]

set_option maxHeartbeats 4000000 in
set_option maxRecDepth 100000 in
theorem YZ{e:TypeId}{i0:TypeInfo}{z:Value}(mixed:P.follows .mixedOrders=true)(FB:Bears P (ρ.f 22) (Body2.n22 ρ))
 (t3:P.underlying (ρ.t 3)=some (.int .i64)) (t4:P.underlying (ρ.t 4)=some .bool) (T:aBg P (ρ.t 24) e i0 z) (w:World) (ad:Option Addr) (n cap:Nat) (us:List Value) (a:Addr) (m vc:Nat) (vs:List Value)
 (hown:w.ownsRow 0 e i0.size (.slice ad n cap) n us) (hm:0<m) (hvl:vs.length=m*i0.size) (hvs:∀j u,vs[j]? =some u->w.cell? (a.add j)=some u) (h1v:∀u∈vs,u.oneCell'=true)
 (h63:n+m<=maxLen) (hbytes:(n+m)*i0.bytes<=140737488355328):
 Calls P (ρ.f 22) #[.slice ad n cap,.int .i64 n,.slice (some a) m vc] w fun ex w'=>∃v',ex=.returned v'/\w'.ownsRow 0 e i0.size v' (n+m) (us++vs)/\
  (((v'.ownBlock=(Value.slice ad n cap).ownBlock/\w.grownBy w' (Value.slice ad n cap).ownBlock)\/(v'.ownBlock=some w.heap.size/\w.grownBy w' none))):=by
 have t24:=T.ht
 have a24:∀w,(isAgg (ρ.t 24)).run P w=.ok false w:=fun w=>Aj (by simp[Cc,t24]) w
 have a3:∀w,(isAgg (ρ.t 3)).run P w=.ok false w:=fun w=>Aj (by simp[Cc,t3]) w
 have a4:∀w,(isAgg (ρ.t 4)).run P w=.ok false w:=fun w=>Aj (by simp[Cc,t4]) w
 have z9:∀w,(Go.sizeOf e).run P w=.ok i0.size w:=fun w=>by simp[sizeOf,typeInfo,T.hi]
 have hz1:¬((m:Int)=0):=by omega
 have hn:n<=cap:=by
  rcases hown.2 with⟨h,h0⟩|⟨g,cap',cur,h,_,_,h1,_⟩
  omega;cases h;exact h1
 obtain⟨v',w',hr,ho,hcase⟩:=Eh (P:=P) w (ρ.t 24) (ρ.t 24) e i0 z t24 T.hi T.hz T.hzs (.slice ad n cap) n us hown a m vc vs hvl hvs h1v h63 hbytes
 obtain⟨PQ,hPQ⟩:∃PQ:Value->World->Prop,∀a b,PQ a b↔(b.ownsRow 0 e i0.size a (n+m) (us++vs)/\
  (((a.ownBlock=(Value.slice ad n cap).ownBlock/\w.grownBy b (Value.slice ad n cap).ownBlock)\/(a.ownBlock=some w.heap.size/\w.grownBy b none)))):=⟨_,fun _ _=>Iff.rfl⟩
 have hX:Hid (PQ v' w'):=(hPQ _ _).2 ⟨ho,hcase⟩
 have hr':Hid ((Builtin.append_ #[ρ.t 24,ρ.t 24] (ρ.t 24) #[.slice ad n cap,.slice (some a) m vc]).run P w=.ok v' w'):=hr
 suffices h:Calls P (ρ.f 22) #[.slice ad n cap,.int .i64 n,.slice (some a) m vc] w fun ex w'=>∃v',ex=.returned v'/\PQ v' w' from
  h.mono fun ex w' ⟨v',h1,h2⟩=>⟨v',h1,(hPQ _ _).1 h2⟩
 have hnil:ad=none->n=0:=by
  intro h;subst h;rcases hown.2 with⟨_,h0⟩|⟨g,cap',cur,h,_⟩
  exact h0;cases h
 clear hr ho hcase hown hvs h1v hvl hPQ h63 hbytes T
 obtain⟨_,_,FG⟩:=FB
 go_enter FG,Body2.n22_ntmps ρ
 cases ad with
 |none=>
  have h0:=hnil rfl
  subst h0
  go_wp2_with (at_builtin;refine Lib.wpList_append_run _ rfl _ _ _ _ rfl _ _ rfl rfl _ _ hr'.out ?_)
  go_ret
  exact⟨_,rfl,hX.out⟩
 |some a=>
  obtain⟨ab,ao,asp⟩:=a
  go_wp2_with (at_builtin;refine Lib.wpList_append_run _ rfl _ _ _ _ rfl _ _ rfl rfl _ _ hr'.out ?_)
  all_goals (go_ret;exact⟨_,rfl,hX.out⟩)

set_option maxHeartbeats 4000000 in
set_option maxRecDepth 100000 in
theorem aJ2{e:TypeId}{i0:TypeInfo}{z:Value}(mixed:P.follows .mixedOrders=true)(FB:Bears P (ρ.f 22) (Body2.n22 ρ))
 (t3:P.underlying (ρ.t 3)=some (.int .i64)) (t4:P.underlying (ρ.t 4)=some .bool) (T:aBg P (ρ.t 24) e i0 z)
 (hox:∀args w,(callFunc (ρ.f 29) args).run P w=((Extern.SlicesOverlaps.overlaps #[ρ.t 24,ρ.t 24] #[ρ.t 4] args).run P w).andThen fun v w=>.ok (.value v) w)
 (w:World) (b n c i:Nat) (cur us:List Value) (va:Addr) (m vc:Nat) (vs vcur:List Value) (ve:TypeId)
 (hr:Cj w b e cur) (hcur:cur.length=c*i0.size) (htk:cur.take (n*i0.size)=us) (hone:∀u∈us,u.oneCell'=true)
 (hv:Cj w va.block ve vcur) (hvb:va.block≠b) (hk0:0<i0.size)
 (hi:i<n) (hm:0<m) (hroom:n+m<=c) (hc63:c<=9223372036854775807)
 (hvl:vs.length=m*i0.size) (hvs:∀j u,vs[j]? =some u->w.cell? (va.add j)=some u) (h1v:∀u∈vs,u.oneCell'=true):
 Calls P (ρ.f 22) #[.slice (some ⟨b,0,none⟩) n c,.int .i64 i,.slice (some va) m vc] w fun ex w'=>
  ex=.returned (.slice (some ⟨b,0,none⟩) (n+m) c)/\w'=(w.drew.setCells b ((i+m)*i0.size) (us.drop (i*i0.size))).setCells b (i*i0.size) vs:=by
 have t24:=T.ht
 obtain⟨k,hk⟩:∃k,k=i0.size:=⟨_,rfl⟩
 have a24:∀w,(isAgg (ρ.t 24)).run P w=.ok false w:=fun w=>Aj (by simp[Cc,t24]) w
 have a3:∀w,(isAgg (ρ.t 3)).run P w=.ok false w:=fun w=>Aj (by simp[Cc,t3]) w
 have a4:∀w,(isAgg (ρ.t 4)).run P w=.ok false w:=fun w=>Aj (by simp[Cc,t4]) w
 have z9:∀w,(Go.sizeOf e).run P w=.ok k w:=fun w=>by simp[sizeOf,typeInfo,T.hi,hk]
 have hz1:¬((m:Int)=0):=by omega
 have hz2:¬((i:Int)=(n:Int)):=by omega
 rw[<-hk]at hcur htk hvl hk0⊢
 have hcl:cur.length=c*k:=hcur
 have hnk:n*k+m*k<=c*k:=by rw[<-Nat.add_mul];exact Nat.mul_le_mul_right k hroom
 have husl:us.length=n*k:=by rw[<-htk,List.length_take];omega
 have hik:i*k<=n*k:=Nat.mul_le_mul_right k (by omega)
 have hcell:∀j u,us[j]? =some u->w.cell? ⟨b,j,none⟩=some u:=by intro j u hu;rw[hr.cell];rw[<-htk,List.getElem?_take]at hu;split at hu;exact hu;cases hu
 have hov:∀lb cb,(callFunc (ρ.f 29) #[.slice (some va) m vc,.slice (some ⟨b,(i+m)*k,none⟩) lb cb]).run P w=.ok (.value (.bool false)) w:=fun lb cb=>by rw[hox,Lib.run_overlaps_apart w (ρ.t 24) (ρ.t 4) e t24 k z9 va ⟨b,(i+m)*k,none⟩ m vc lb cb hvb ve e vcur.length cur.length hv.shape hr.shape (by rw[hcl];exact Nat.ne_of_gt (Nat.mul_pos (by omega) hk0)) (by unfold World.frozen?;rw[show w.heap[va.block]? =_ from hv];simp) (hv.thawed _)];rfl
 have hw1:IntKind.i64.wrap ((i:Int)+(m:Int))=(i:Int)+(m:Int):=by rw[IntKind.wrap_i64];omega
 have hb1:(0:Int)<=(i:Int)+(m:Int):=by omega
 have hin:i<=n:=by omega
 have htn:((i:Int)+(m:Int)).toNat=i+m:=by omega
 have hb2:¬(c=i+m):=by omega
 have hb3:(i:Int)<=(n:Int)+(m:Int):=by omega
 have hb4:¬(c=i):=by omega
 have hdl:(us.drop (i*k)).length=(n-i)*k:=by rw[List.length_drop,husl,Nat.sub_mul]
 have e1:(i+m)*k=i*k+m*k:=Nat.add_mul _ _ _
 have e2:(n-i)*k=n*k-i*k:=Nat.sub_mul _ _ _
 have hmin1:Nat.min (n+m-i) (n+m-(i+m))=n-i:=by simp only[Nat.min_def];split<;>omega
 have hmin2:Nat.min m (n+m-i)=m:=by simp only[Nat.min_def];split<;>omega
 have hcp1:∀ty dc sc,(Builtin.copy_ #[(ρ.t 24),(ρ.t 24)] ty #[.slice (some ⟨b,(i+m)*k,none⟩) (n+m-(i+m)) dc,.slice (some ⟨b,i*k,none⟩) (n+m-i) sc]).run P w.drew=.ok (goInt ((n-i:Nat):Int)) (w.drew.setCells b ((i+m)*k) (us.drop (i*k))):=fun ty dc sc=>by
  have h:=FZ (P:=P) w.drew (ρ.t 24) (ρ.t 24) ty e b ((i+m)*k) (n+m-(i+m)) dc ⟨b,i*k,none⟩ (n+m-i) sc (us.drop (i*k)) i0 t24 T.hi (by rw[hdl,hmin1,hk])
   (fun j v hj=>by rw[Addr.add_lit];exact hcell (i*k+j) v (by rwa [List.getElem?_drop]at hj))
   (fun j hj=>by rw[hdl]at hj;rw[hr.drew.cell,List.getElem?_eq_getElem (by omega)];rfl) (fun j hj=>hr.drew.thawed _) (fun v hv=>hone v (List.mem_of_mem_drop hv))
  rw[hmin1]at h;exact h
 obtain⟨W1,hW1⟩:∃W1,W1=w.drew.setCells b ((i+m)*k) (us.drop (i*k)):=⟨_,rfl⟩
 obtain⟨cur1,hR1,hc1⟩:∃cur1,Cj W1 b e cur1/\cur1.length=c*k:=by refine⟨_,by rw[hW1];exact Cj.set _ _ hr.drew (by omega),?_⟩;simp only[List.length_append,List.length_take,List.length_drop];omega
 have hcp2:∀(W:World),(∀x,W.cell? x=W1.cell? x)->(∀x,W.frozen? x=W1.frozen? x)->∀ty dc,(Builtin.copy_ #[(ρ.t 24),(ρ.t 24)] ty #[.slice (some ⟨b,i*k,none⟩) (n+m-i) dc,.slice (some va) m vc]).run P W=.ok (goInt m) (W.setCells b (i*k) vs):=fun W hWc hWf ty dc=>by
  have h:=FZ (P:=P) W (ρ.t 24) (ρ.t 24) ty e b (i*k) (n+m-i) dc va m vc vs i0 t24 T.hi (by rw[hvl,hmin2,hk])
   (fun j v hj=>by rw[hWc,hW1,World.cell?_setCells_out b _ _ _ _ (fun h _=>absurd (by rw[<-h,Cy]) hvb)];exact hvs j v hj)
   (fun j hj=>by rw[hvl]at hj;rw[hWc,hR1.cell,List.getElem?_eq_getElem (by omega)];rfl) (fun j hj=>by rw[hWf,hR1.thawed]) h1v
  rw[hmin2]at h;exact h
 rw[<-hW1]at hcp1
 have X:Hid (W1=w.drew.setCells b ((i+m)*k) (us.drop (i*k))):=hW1
 clear hR1 hc1 hcell hr hv hone hvs h1v hvl hcur hcl htk husl hdl hk hW1 e1 e2 hmin1 hmin2 hnk hik T hox
 obtain⟨_,_,FG⟩:=FB
 go_enter FG,Body2.n22_ntmps ρ
 go_wp2_with (simp only[hov])
 go_region_law_o (refine step_copy_runI rfl _ _ (ρ.t 24) (ρ.t 24) rfl _ _ (by simp[Act.eval,Act.put]) (by simp[Act.eval,Act.put]) (hcp1 _ _ _) ?_)
 go_wp2_with (at_builtin;refine wpList_copy_runI _ rfl _ _ (ρ.t 24) (ρ.t 24) rfl _ _ rfl rfl (hcp2 _ (fun _=>rfl) (fun _=>rfl) _ _) ?_)
 go_ret
 exact⟨rfl,by rw[X.out]⟩

set_option maxHeartbeats 4000000 in
set_option maxRecDepth 100000 in
theorem aJ1{e:TypeId}{i0:TypeInfo}{z:Value}(mixed:P.follows .mixedOrders=true)(FB:Bears P (ρ.f 22) (Body2.n22 ρ))
 (t3:P.underlying (ρ.t 3)=some (.int .i64)) (t4:P.underlying (ρ.t 4)=some .bool) (T:aBg P (ρ.t 24) e i0 z)
 (w:World) (b n c i:Nat) (cur us:List Value) (va:Addr) (m vc:Nat) (vs:List Value)
 (hr:Cj w b e cur) (hcur:cur.length=c*i0.size) (htk:cur.take (n*i0.size)=us) (hone:∀u∈us,u.oneCell'=true)
 (hvb:va.block<w.heap.size) (hk0:0<i0.size)
 (hi:i<n) (hm:0<m) (hnc:n<=c) (hroom:c<n+m) (hbig:(n+m)*i0.bytes<=140737488355328) (h63:n+m<=maxLen)
 (hvl:vs.length=m*i0.size) (hvs:∀j u,vs[j]? =some u->w.cell? (va.add j)=some u) (h1v:∀u∈vs,u.oneCell'=true):
 Calls P (ρ.f 22) #[.slice (some ⟨b,0,none⟩) n c,.int .i64 i,.slice (some va) m vc] w fun ex w'=>
  ex=.returned (.slice (some ⟨w.heap.size,0,none⟩) (n+m) (grownCap w (n+m) c e))/\
  w'=(((w.alloc (.cells ((us.take (i*i0.size)).toArray++Builtin.zeroCells z.cells (n+m-i)++Builtin.zeroCells z.cells (grownCap w (n+m) c e-(n+m))) e)).drew.setCells w.heap.size (i*i0.size) vs).drew).setCells w.heap.size ((i+m)*i0.size) (us.drop (i*i0.size)):=by
 have t24:=T.ht
 obtain⟨k,hk⟩:∃k,k=i0.size:=⟨_,rfl⟩
 have a24:∀w,(isAgg (ρ.t 24)).run P w=.ok false w:=fun w=>Aj (by simp[Cc,t24]) w
 have a3:∀w,(isAgg (ρ.t 3)).run P w=.ok false w:=fun w=>Aj (by simp[Cc,t3]) w
 have a4:∀w,(isAgg (ρ.t 4)).run P w=.ok false w:=fun w=>Aj (by simp[Cc,t4]) w
 have z9:∀w,(Go.sizeOf e).run P w=.ok k w:=fun w=>by simp[sizeOf,typeInfo,T.hi,hk]
 have h63':n+m<=9223372036854775807:=Nat.le_trans h63 (by decide)
 have hz1:¬((m:Int)=0):=by omega
 have hz2:¬((i:Int)=(n:Int)):=by omega
 have hz3:(c:Int)<(n:Int)+(m:Int):=by omega
 have hkk:(n:Int)+(m:Int)-(i:Int)=((n+m-i:Nat):Int):=by omega
 have hik:i+(n+m-i)=n+m:=by omega
 have hzs:=T.hzs
 have hcur0:=hcur
 rw[<-hk]at hcur htk hvl hk0 hzs⊢
 have hnk:n*k<=c*k:=Nat.mul_le_mul_right k hnc
 have husl:us.length=n*k:=by rw[<-htk,List.length_take];omega
 have hikn:i*k<=n*k:=Nat.mul_le_mul_right k (by omega)
 have hcell:∀j u,us[j]? =some u->w.cell? ⟨b,j,none⟩=some u:=by intro j u hu;rw[hr.cell];rw[<-htk,List.getElem?_take]at hu;split at hu;exact hu;cases hu
 have hbw:b<w.heap.size:=hr.lt
 have hold:(Builtin.firstCells i0.size i (.slice (some ⟨b,0,none⟩) i c)).run P w.drew=.ok (us.take (i*k)).toArray w.drew:=by
  rw[<-hk];exact run_firstCells_some w.drew k i ⟨b,0,none⟩ i c (us.take (i*k)) (by rw[List.length_take];omega) (fun j v hj=>by rw[Addr.add_lit,Nat.zero_add];rw[List.getElem?_take]at hj;split at hj;exact hcell j v hj;cases hj)
 have hrz:∀ty,(Builtin.append_ #[(ρ.t 24),(ρ.t 3)] ty #[.slice (some ⟨b,0,none⟩) i c,.int .i64 ((n:Int)+(m:Int)-(i:Int))]).run P w=
  .ok (.slice (some ⟨w.heap.size,0,none⟩) (n+m) (grownCap w (n+m) c e)) (w.drew.alloc (.cells ((us.take (i*k)).toArray++Builtin.zeroCells z.cells (n+m-i)++Builtin.zeroCells z.cells (grownCap w (n+m) c e-(n+m))) e)):=fun ty=>by
  have hb0:(n+m-i)*i0.bytes<=(n+m)*i0.bytes:=Nat.mul_le_mul_right _ (by omega)
  have h:=Lib.run_append_grow_zeros w (ρ.t 24) (ρ.t 3) ty e i0 z .i64 .i64 t24 t3 T.hi T.hz (some ⟨b,0,none⟩) i c (us.take (i*k)) hold (n+m-i) (by omega) (by omega) (by omega) (by omega) (by omega) (by rw[hik];exact growslice_fits hroom hbig)
  rw[hik]at h
  rw[hkk]
  exact h
 obtain⟨G,hG⟩:∃G,G=grownCap w (n+m) c e:=⟨_,rfl⟩
 obtain⟨ROW,hROW⟩:∃ROW:Array Value,ROW=(us.take (i*k)).toArray++Builtin.zeroCells z.cells (n+m-i)++Builtin.zeroCells z.cells (G-(n+m)):=⟨_,rfl⟩
 rw[<-hG]at hrz⊢
 rw[<-hROW]at hrz⊢
 have e1:(i+m)*k=i*k+m*k:=Nat.add_mul _ _ _
 have e2:(n-i)*k=n*k-i*k:=Nat.sub_mul _ _ _
 have e3:(n+m)*k=n*k+m*k:=Nat.add_mul _ _ _
 have e4:(n+m-i)*k=(n+m)*k-i*k:=Nat.sub_mul _ _ _
 have hRl:(n+m)*k<=ROW.size:=by
  rw[hROW];have z1:(Builtin.zeroCells z.cells (n+m-i)).size=(n+m-i)*k:=by rw[<-hzs];exact EC _ _
  simp only[Array.size_append,List.size_toArray,List.length_take,z1];omega
 obtain⟨W1,hW1⟩:∃W1,W1=w.drew.alloc (.cells ROW e):=⟨_,rfl⟩
 rw[<-hW1]at hrz
 have hR1:Cj W1 w.heap.size e ROW.toList:=by rw[hW1];unfold Cj;simpa using heap_alloc_new w.drew (.cells ROW e)
 have hOb:∀x v,w.cell? x=some v->W1.cell? x=some v:=fun x v h=>by rw[hW1];exact Lib.cell?_alloc_some _ h
 have hmin1:Nat.min (n-i) (n+m-(i+m))=n-i:=by simp only[Nat.min_def];split<;>omega
 have hmin2:Nat.min m (n+m-i)=m:=by simp only[Nat.min_def];split<;>omega
 have hcpA:∀(W:World),(∀x,W.cell? x=W1.cell? x)->(∀x,W.frozen? x=W1.frozen? x)->∀ty dc,(Builtin.copy_ #[(ρ.t 24),(ρ.t 24)] ty #[.slice (some ⟨w.heap.size,i*k,none⟩) (n+m-i) dc,.slice (some va) m vc]).run P W=.ok (goInt m) (W.setCells w.heap.size (i*k) vs):=fun W hWc hWf ty dc=>by
  have h:=FZ (P:=P) W (ρ.t 24) (ρ.t 24) ty e w.heap.size (i*k) (n+m-i) dc va m vc vs i0 t24 T.hi (by rw[hvl,hmin2,hk])
   (fun j v hj=>by rw[hWc];exact hOb _ v (hvs j v hj))
   (fun j hj=>by rw[hvl]at hj;rw[hWc,hR1.cell,List.getElem?_eq_getElem (by rw[Array.length_toList];omega)];rfl) (fun j hj=>by rw[hWf];exact hR1.thawed _) h1v
  rw[hmin2]at h;exact h
 have hGn:n+m<=G:=by rw[hG];exact grownCap_ge w _ _ _
 have hG63:G<=9223372036854775807:=by have:=grownCap_le_maxLen w (n+m) c e h63;rw[<-hG]at this;exact Nat.le_trans this (by decide)
 have hGi:¬(G=i):=by omega
 have hGim:¬(G=i+m):=by omega
 have hci:¬(c=i):=by omega
 have hdl:(us.drop (i*k)).length=(n-i)*k:=by rw[List.length_drop,husl,Nat.sub_mul]
 obtain⟨cur2,hR2,hc2⟩:∃cur2,Cj (W1.setCells w.heap.size (i*k) vs) w.heap.size e cur2/\cur2.length=ROW.size:=by refine⟨_,Cj.set _ _ hR1 (by rw[hvl,Array.length_toList];omega),?_⟩;simp only[List.length_append,List.length_take,List.length_drop,Array.length_toList,hvl];omega
 have hcpB:∀(W:World),(∀x,W.cell? x=(W1.setCells w.heap.size (i*k) vs).cell? x)->(∀x,W.frozen? x=(W1.setCells w.heap.size (i*k) vs).frozen? x)->∀ty dc sc,(Builtin.copy_ #[(ρ.t 24),(ρ.t 24)] ty #[.slice (some ⟨w.heap.size,(i+m)*k,none⟩) (n+m-(i+m)) dc,.slice (some ⟨b,i*k,none⟩) (n-i) sc]).run P W=.ok (goInt ((n-i:Nat):Int)) (W.setCells w.heap.size ((i+m)*k) (us.drop (i*k))):=fun W hWc hWf ty dc sc=>by
  have h:=FZ (P:=P) W (ρ.t 24) (ρ.t 24) ty e w.heap.size ((i+m)*k) (n+m-(i+m)) dc ⟨b,i*k,none⟩ (n-i) sc (us.drop (i*k)) i0 t24 T.hi (by rw[hdl,hmin1,hk])
   (fun j v hj=>by rw[Addr.add_lit,hWc,World.cell?_setCells_out _ _ _ _ _ (fun h _=>absurd h (show b≠w.heap.size by omega))];exact hOb _ v (hcell (i*k+j) v (by rwa [List.getElem?_drop]at hj)))
   (fun j hj=>by rw[hdl]at hj;rw[hWc,hR2.cell,List.getElem?_eq_getElem (by omega)];rfl)
   (fun j hj=>by rw[hWf];exact hR2.thawed _) (fun v hv=>hone v (List.mem_of_mem_drop hv))
  rw[hmin1]at h;exact h
 clear hR1 hR2 hc2
 subst hW1
 have hE1:∀x,((w.alloc (.cells ROW e)).drew).cell? x=(w.drew.alloc (.cells ROW e)).cell? x:=fun x=>rfl
 have hE2:∀x,((w.alloc (.cells ROW e)).drew).frozen? x=(w.drew.alloc (.cells ROW e)).frozen? x:=fun x=>rfl
 have hF1:∀x,(((w.alloc (.cells ROW e)).drew.setCells w.heap.size (i*k) vs).drew).cell? x=((w.drew.alloc (.cells ROW e)).setCells w.heap.size (i*k) vs).cell? x:=fun x=>rfl
 have hF2:∀x,(((w.alloc (.cells ROW e)).drew.setCells w.heap.size (i*k) vs).drew).frozen? x=((w.drew.alloc (.cells ROW e)).setCells w.heap.size (i*k) vs).frozen? x:=fun x=>rfl
 have hw1:IntKind.i64.wrap ((i:Int)+(m:Int))=(i:Int)+(m:Int):=by rw[IntKind.wrap_i64];omega
 have hb1:(0:Int)<=(i:Int)+(m:Int):=by omega
 have hin:i<=n:=by omega
 have htn:((i:Int)+(m:Int)).toNat=i+m:=by omega
 have hb3:(i:Int)<=(n:Int):=by omega
 clear hcell hr hone hvs h1v hvl hcur htk husl hdl hk e1 e2 e3 e4 hmin1 hmin2 hnk hikn T hkk hik hold hROW hG hRl hOb hcur0 hbw hvb hzs
 obtain⟨_,_,FG⟩:=FB
 go_enter FG,Body2.n22_ntmps ρ
 go_wp2_with (first
  |(at_builtin;refine Lib.wpList_append_run _ rfl _ _ _ _ rfl _ _ rfl rfl _ _ (hrz _) ?_)
  |(at_builtin;refine wpList_copy_runI _ rfl _ _ (ρ.t 24) (ρ.t 24) rfl _ _ rfl rfl (hcpA _ hE1 hE2 _ _) ?_)
  |(at_builtin;refine wpList_copy_runI _ rfl _ _ (ρ.t 24) (ρ.t 24) rfl _ _ rfl rfl (hcpB _ (fun _=>rfl) (fun _=>rfl) _ _ _) ?_))
 go_region_law_o (refine step_copy_runI rfl _ _ (ρ.t 24) (ρ.t 24) rfl (.slice (some ⟨w.heap.size,(i+m)*k,none⟩) (n+m-(i+m)) (G-(i+m))) (.slice (some ⟨b,i*k,none⟩) (n-i) (c-i)) (by simp[Act.eval,Act.put]) (by simp[Act.eval,Act.put]) (hcpB _ hF1 hF2 (ρ.t 3) (G-(i+m)) (c-i)) ?_)
 go_wp2
 go_ret
 exact⟨rfl,rfl⟩
end
end Go.Ac
namespace Go.Ac
open Go.Proofs Go.Shelf Go.RowKit Go.Lib Go.Sort
section
variable {P:Program} {ρ:Ren}
theorem aMb{e:TypeId}{i0:TypeInfo}{z:Value}(mixed:P.follows .mixedOrders=true)(FB:Bears P (ρ.f 22) (Body2.n22 ρ))
 (t3:P.underlying (ρ.t 3)=some (.int .i64)) (t4:P.underlying (ρ.t 4)=some .bool) (T:aBg P (ρ.t 24) e i0 z) (hk0:0<i0.size)
 (hox:∀args w,(callFunc (ρ.f 29) args).run P w=((Extern.SlicesOverlaps.overlaps #[ρ.t 24,ρ.t 24] #[ρ.t 4] args).run P w).andThen fun v w=>.ok (.value v) w)
 (xs ys:List D) (i:Nat) (hi:i<=xs.length) (hy:0<ys.length) (h63:xs.length+ys.length<=maxLen) (hbytes:(xs.length+ys.length)*i0.bytes<=140737488355328):
 AL P (ρ.f 22) [.row 0,.d (.v (.int .i64 i)),.row 1] [(0,.rw e i0.size xs),(1,.row e i0.size ys)] (.row 2) [(2,.rw e i0.size (xs.take i++ys++xs.drop i))]:=by
 intro h w val vs hI hA
 simp only[RAs,RA,RD]at hA
 obtain⟨_,_,rfl,⟨rfl,_⟩,_,_,rfl,⟨rfl,_⟩,_,_,rfl,⟨rfl,_⟩,rfl⟩:=hA
 obtain⟨us,hown,hrow,hh⟩:=hI.rep (0,.rw e i0.size xs) (by simp)
 obtain⟨ws,hown2,hrow2,hh2⟩:=hI.rep (1,.row e i0.size ys) (by simp)
 have hlen:=Am.length hrow
 have hlen2:=Am.length hrow2
 obtain⟨k,hk⟩:∃k,k=i0.size:=⟨_,rfl⟩
 have e5:(xs.take i++ys++xs.drop i).length=xs.length+ys.length:=by simp only[List.length_append,List.length_take,List.length_drop];omega
 rcases hown2.2 with⟨hv2,h0⟩|⟨g2,cap2,cur2,hv2,_,hg2,hn2,hc2,hcs2,htk2⟩
 omega
 simp only at hv2
 have hM:∀g,(val 0).ownBlock=some g->g∈Ae val [(0,Bk.rw e i0.size xs),(1,.row e i0.size ys)]:=by
  intro g hg;have hb:Ai val (0,Bk.rw e i0.size xs)=some g:=by simp[Ai,Bk.isOld,C7 hown,hg]
  unfold Ae;rw[List.filterMap_cons,hb];exact List.mem_cons_self
 have hne:∀g,(val 0).ownBlock=some g->g2≠g:=by
  intro g hg q;subst q;have hb:=hI.bks;have hv0:C6 (val 0)=some g2:=(C7 hown).trans hg;have b0:Ai val (0,Bk.rw e i0.size xs)=some g2:=by simp[Ai,Bk.isOld,hv0]
  have b1:Ai val (1,Bk.row e i0.size ys)=some g2:=by simp[Ai,Bk.isOld,hv2,C6]
  unfold Ae at hb;rw[List.filterMap_cons,b0,List.filterMap_cons,b1]at hb;simp at hb
 have hR2:Cj w g2 e cur2.toList:=by unfold Cj;simpa using hg2
 have hws:∀j u,ws[j]? =some u->w.cell? ((⟨g2,0,none⟩:Addr).add j)=some u:=fun j u hu=>by rw[hv2]at hown2;exact hown2.cells (g:=g2) rfl j u hu
 have hone2:=Am.one hrow2
 have hone:=Am.one hrow
 have hrow3:Am h w i0.size (xs.take i++ys++xs.drop i) (us.take (i*i0.size)++ws++us.drop (i*i0.size)):=Am.append (Am.append (Am.take i hrow) hrow2) (Am.drop i hrow)
 have hgo:∀v' w',w'.ownsRow 0 e i0.size v' (xs.take i++ys++xs.drop i).length (us.take (i*i0.size)++ws++us.drop (i*i0.size))->(∀g,v'.ownBlock=some g->(val 0).ownBlock=some g\/w.heap.size<=g)->w.grownBy w' (val 0).ownBlock->_:=
  fun v' w' h1 h2 h3=>Em (X:=[(0,Bk.rw e i0.size xs),(1,.row e i0.size ys)]) (m:=2) (by simp[AP]) hh hM h1 hrow3 h2 h3
 rw[hv2]
 by_cases hend:i=xs.length
 subst hend
 obtain⟨ad,ln,cp,hv⟩:=Cz hown
 have hln:ln=xs.length:=by
  rcases hown.2 with⟨h1,h0⟩|⟨g,cap,cur,h1,_⟩
  simp only at h1;rw[hv]at h1;cases h1;exact h0.symm;simp only at h1;rw[hv]at h1;cases h1;rfl
 subst hln
 simp only at hv
 rw[hv]
 refine(YZ mixed FB t3 t4 T w ad xs.length cp us ⟨g2,0,none⟩ ys.length cap2 ws (by rw[<-hv];exact hown) hy hlen2 hws hone2 h63 hbytes).mono ?_
 rintro ex w' ⟨v',rfl,ho,hcase⟩
 have e1:xs.take xs.length++ys++xs.drop xs.length=xs++ys:=by simp
 have e2:us.take (xs.length*i0.size)++ws++us.drop (xs.length*i0.size)=us++ws:=by rw[<-hlen];simp
 rw[e1,e2]at hgo
 rw[e1]
 refine hgo v' w' (by rw[List.length_append];exact ho) (fun g hg=>?_) ?_
 rcases hcase with⟨h1,_⟩|⟨h1,_⟩
 rw[h1,<-hv]at hg;exact .inl hg
 rw[h1]at hg;cases hg;exact .inr (Nat.le_refl _)
 rcases hcase with⟨_,h1⟩|⟨_,h1⟩
 rw[hv];exact h1
 exact⟨h1.os,h1.tape,h1.output,h1.size,fun b hb _=>h1.block b hb (by simp)⟩
 have hlt:i<xs.length:=by omega
 rcases hown.2 with⟨hv,h0⟩|⟨g,cap,cur,hv,_,hg,hn,hc,hcs,htk⟩
 omega
 simp only at hv
 rw[hv]
 have hR:Cj w g e cur.toList:=by unfold Cj;simpa using hg
 have hg2g:g2≠g:=hne g (by rw[hv];rfl)
 have m1:xs.length*k<=cap*k:=Nat.mul_le_mul_right k hn
 have m2:(i+ys.length)*k=i*k+ys.length*k:=Nat.add_mul _ _ _
 have m4:i*k<=xs.length*k:=Nat.mul_le_mul_right k hi
 have hcl:cur.toList.length=cap*k:=by rw[hk];simpa using hcs
 have l1:(us.drop (i*k)).length=xs.length*k-i*k:=by rw[List.length_drop,hlen,hk]
 by_cases hroom:xs.length+ys.length<=cap
 refine(aJ2 mixed FB t3 t4 T hox w g xs.length cap i cur.toList us ⟨g2,0,none⟩ ys.length cap2 ws cur2.toList e hR (by simpa using hcs) htk hone hR2 hg2g hk0 hlt hy hroom (Nat.le_trans hc (by decide)) hlen2 hws hone2).mono ?_
 rintro ex w' ⟨rfl,rfl⟩
 rw[<-hk]at hlen hlen2 hcs htk hgo⊢
 have m3:(xs.length+ys.length)*k<=cap*k:=Nat.mul_le_mul_right k hroom
 have m5:(xs.length+ys.length)*k=xs.length*k+ys.length*k:=Nat.add_mul _ _ _
 have hR1:=Cj.set (us.drop (i*k)) ((i+ys.length)*k) hR.drew (by rw[l1];omega)
 have hR3:=Cj.set ws (i*k) hR1 (by simp only[List.length_append,List.length_take,List.length_drop];omega)
 refine hgo _ _ ?_ (fun g' hg'=>.inl (by rw[hv];exact hg')) ?_
 rw[e5]
 refine⟨by simp only[List.length_append,List.length_take,l1];rw[Nat.min_eq_left (by omega)];omega,.inr ⟨g,cap,_,rfl,Nat.zero_le _,hR3,hroom,hc,?_,?_⟩⟩
 simp only[List.size_toArray,List.length_append,List.length_take,List.length_drop]
 omega
 simp only
 have a1:(cur.toList.take ((i+ys.length)*k)++us.drop (i*k)++cur.toList.drop ((i+ys.length)*k+(us.drop (i*k)).length)).take (i*k)=us.take (i*k):=by rw[List.append_assoc,List.take_append_of_le_length (by rw[List.length_take];omega),List.take_take,Nat.min_eq_left (by omega),<-htk,List.take_take,Nat.min_eq_left (by omega)]
 have a2:(cur.toList.take ((i+ys.length)*k)++us.drop (i*k)++cur.toList.drop ((i+ys.length)*k+(us.drop (i*k)).length)).drop (i*k+ws.length)=us.drop (i*k)++cur.toList.drop ((i+ys.length)*k+(us.drop (i*k)).length):=by rw[List.append_assoc,show i*k+ws.length=(cur.toList.take ((i+ys.length)*k)).length by rw[List.length_take];omega,List.drop_left]
 rw[a1,a2,<-List.append_assoc,List.take_append_of_le_length (by simp only[List.length_append,List.length_take,l1];omega),List.take_of_length_le (by simp only[List.length_append,List.length_take,l1];omega)]
 rw[hv]
 obtain⟨a1,a2,a3,a4,a5⟩:=DH g (us.drop (i*k)) ((i+ys.length)*k) w.drew
 obtain⟨b1,b2,b3,b4,b5⟩:=DH g ws (i*k) (w.drew.setCells g ((i+ys.length)*k) (us.drop (i*k)))
 refine⟨b1.trans a1,b2.trans a2,b3.trans a3,Nat.le_of_eq (b4.trans a4).symm,fun x hx hne=>?_⟩
 have hne':x≠g:=fun q=>hne (by rw[q];rfl)
 exact(b5 x hne').trans (a5 x hne')
 refine(aJ1 mixed FB t3 t4 T w g xs.length cap i cur.toList us ⟨g2,0,none⟩ ys.length cap2 ws hR (by simpa using hcs) htk hone hR2.lt hk0 hlt hy hn (by omega) hbytes h63 hlen2 hws hone2).mono ?_
 rintro ex w' ⟨rfl,rfl⟩
 have hzs:=T.hzs
 rw[<-hk]at hlen hlen2 hcs htk hgo hzs⊢
 obtain⟨G,hG⟩:∃G,G=grownCap w (xs.length+ys.length) cap e:=⟨_,rfl⟩
 have hGn:xs.length+ys.length<=G:=by rw[hG];exact grownCap_ge w _ _ _
 have hGm:G<=maxLen:=by rw[hG];exact grownCap_le_maxLen w _ _ e h63
 rw[<-hG]
 obtain⟨ROW,hROW⟩:∃ROW:Array Value,ROW=(us.take (i*k)).toArray++Builtin.zeroCells z.cells (xs.length+ys.length-i)++Builtin.zeroCells z.cells (G-(xs.length+ys.length)):=⟨_,rfl⟩
 rw[<-hROW]
 have z1:∀n,(Builtin.zeroCells z.cells n).size=n*k:=fun n=>by rw[<-hzs];exact EC _ _
 have m5:(xs.length+ys.length)*k=xs.length*k+ys.length*k:=Nat.add_mul _ _ _
 have m6:(xs.length+ys.length-i)*k=(xs.length+ys.length)*k-i*k:=Nat.sub_mul _ _ _
 have m7:(G-(xs.length+ys.length))*k=G*k-(xs.length+ys.length)*k:=Nat.sub_mul _ _ _
 have m8:(xs.length+ys.length)*k<=G*k:=Nat.mul_le_mul_right k hGn
 have hRl:ROW.toList.length=G*k:=by rw[hROW];simp only[Array.length_toList,Array.size_append,List.size_toArray,List.length_take,z1];omega
 have hRt:ROW.toList.take (i*k)=us.take (i*k):=by rw[hROW];simp only[Array.toList_append,List.append_assoc];rw[List.take_append_of_le_length (by rw[List.length_take];omega),List.take_take,Nat.min_self]
 have hR0:Cj ((w.alloc (.cells ROW e)).drew) w.heap.size e ROW.toList:=by unfold Cj;exact heap_alloc_new w (.cells ROW e)
 have hR1:=(Cj.set ws (i*k) hR0 (by omega)).drew
 have hR3:=Cj.set (us.drop (i*k)) ((i+ys.length)*k) hR1 (by simp only[List.length_append,List.length_take,List.length_drop];omega)
 refine hgo _ _ ?_ (fun g' hg'=>.inr (by simp[Value.ownBlock]at hg';omega)) ?_
 rw[e5]
 refine⟨by simp only[List.length_append,List.length_take,l1];rw[Nat.min_eq_left (by omega)];omega,.inr ⟨w.heap.size,G,_,rfl,Nat.zero_le _,hR3,hGn,hGm,?_,?_⟩⟩
 simp only[List.size_toArray,List.length_append,List.length_take,List.length_drop]
 omega
 simp only
 have a1:(ROW.toList.take (i*k)++ws++ROW.toList.drop (i*k+ws.length)).take ((i+ys.length)*k)=us.take (i*k)++ws:=by rw[hRt,List.take_append_of_le_length (by simp only[List.length_append,List.length_take];omega),List.take_of_length_le (by simp only[List.length_append,List.length_take];omega)]
 rw[a1,List.take_append_of_le_length (by simp only[List.length_append,List.length_take,l1];omega),List.take_of_length_le (by simp only[List.length_append,List.length_take,l1];omega)]
 rw[hv]
 obtain⟨a1,a2,a3,a4,a5⟩:=DH w.heap.size ws (i*k) (w.alloc (.cells ROW e)).drew
 obtain⟨b1,b2,b3,b4,b5⟩:=DH w.heap.size (us.drop (i*k)) ((i+ys.length)*k) (((w.alloc (.cells ROW e)).drew.setCells w.heap.size (i*k) ws).drew)
 have hsz:w.heap.size<=(w.alloc (.cells ROW e)).heap.size:=by simp
 refine⟨b1.trans a1,b2.trans a2,b3.trans a3,by rw[b4];exact Nat.le_trans hsz (Nat.le_of_eq a4.symm),fun x hx hne=>?_⟩
 have hne':x≠w.heap.size:=by omega
 exact(b5 x hne').trans ((a5 x hne').trans (heap_alloc_old w _ hx))
end
def aTt{α:Type}(by_:Nat)(i:Int)(xs ys:List α):Option (List α):=
 if 0<=i/\i<=xs.length/\0<ys.length/\fit xs.length ys.length by_ then some (xs.take i.toNat++ys++xs.drop i.toNat)else none
theorem aPz{P:Program}{ρ:Ren}{e:TypeId}{k by_ fi:Nat}{α:Type}(f:α->D)(mixed:P.follows .mixedOrders=true)(hfi:ρ.f 22=fi)(FB:Bears P (ρ.f 22) (Body2.n22 ρ))
 (t3:P.underlying (ρ.t 3)=some (.int .i64)) (t4:P.underlying (ρ.t 4)=some .bool) (ht:P.underlying (ρ.t 24)=some (.slice e))
 (hq:(P.info? e).map (fun i=>(i.size,i.bytes,i.zero.map (·.cells.size),i.zero.map (fun z=>z.cells.all (·.oneCell'))))=some (k,by_,some k,some true))
 (hk0:0<k) (hby:0<by_)
 (hox:∀args w,(callFunc (ρ.f 29) args).run P w=((Extern.SlicesOverlaps.overlaps #[ρ.t 24,ρ.t 24] #[ρ.t 4] args).run P w).andThen fun v w=>.ok (.value v) w)
 (i:Int) (xs ys r:List α) (h:aTt by_ i xs ys=some r):AL P fi [.row 0,.d (D.i .i64 i),.row 1] [(0,.rw e k (xs.map f)),(1,.row e k (ys.map f))] (.row 2) [(2,.rw e k (r.map f))]:=by
 obtain⟨i0,z,T,rfl,rfl⟩:=Lf ht hq
 unfold aTt at h
 split at h
 rename_i hc
 obtain rfl:=Option.some.inj h
 obtain⟨n,rfl⟩:=Int.eq_ofNat_of_zero_le hc.1
 subst hfi
 have hf:=hc.2.2.2
 unfold fit at hf
 have h63:xs.length+ys.length<=maxLen:=by have:xs.length+ys.length<=(xs.length+ys.length)*i0.bytes:=Nat.le_mul_of_pos_right _ hby;exact Nat.le_trans (Nat.le_trans this hf) (by decide)
 have:=aMb mixed FB t3 t4 T hk0 hox (xs.map f) (ys.map f) n (by rw[List.length_map];omega) (by rw[List.length_map];exact hc.2.2.1) (by simpa using h63) (by simpa using hf)
 simpa[List.map_take,List.map_drop,D.i]using this
 cases h
end Go.Ac
namespace Go.Ac
open Go.Proofs Go.Shelf Go.RowKit Go.Lib
theorem CV{P:Program}{t:TypeId}{n:Nat}(h:(P.info? t).map (·.size)=some n)(w:World):(Go.sizeOf t).run P w=.ok n w:=by simp only[om]at h;obtain⟨i,hi,rfl⟩:=h;simp[sizeOf,typeInfo,hi]
theorem Dx{P:Program}{t:TypeId}{z:Value}(h:(P.info? t).map (·.zero)=some (some z))(w:World):(zeroValue t).run P w=.ok z w:=by simp only[om]at h;obtain⟨i,hi,hz⟩:=h;simp[zeroValue,typeInfo,hi,hz]
section
variable {P:Program} {ρ:Ren}
set_option maxHeartbeats 2000000 in
set_option maxRecDepth 100000 in
theorem RV(L:SlLaysE0.n41 P ρ){i0:TypeInfo}{z:Value}(T:aBg P (ρ.t 22) (ρ.t 23) i0 z)(hsz:0<i0.size)(ad:Addr)(n c:Nat)(news:List Value)(w:World)(hl:news.length=n*i0.size)(hn:n<=maxLen)(hbig:n*i0.bytes<=140737488355328)
 (hc:∀j u,news[j]? =some u->w.cell? (ad.add j)=some u) (h1:∀u∈news,u.oneCell'=true):
 Calls P (ρ.f 41) #[.slice (some ad) n c] w fun e w'=>∃v',e=.returned v'/\w'.ownsRow w.heap.size (ρ.t 23) i0.size v' n news/\Below w.heap.size w w':=by
 have z23:∀w,(Go.sizeOf (ρ.t 23)).run P w=.ok i0.size w:=fun w=>by simp[sizeOf,typeInfo,T.hi]
 have mixed:=L.mixed;have t4:=L.t4;have a4:=L.a4;have z4:=L.z4;have v4:=L.v4;have t22:=L.t22;have a22:=L.a22;have z22:=L.z22;have v22:=L.v22
 have q22:∀(w:World) (a:Option Addr) (n c n' c':Nat),(binOp .eql (ρ.t 22) (.slice a n c) (.slice none n' c')).run P w=.ok (.bool a.isNone) w:=fun w a n c n' c'=>Lib.run_eql_slice_nil w _ _ a n c n' c' L.t22
 have u22:∀w,Sem.run P (underlying (ρ.t 22)) w=.ok (TypeDesc.slice (ρ.t 23)) w:=run_underlying t22
 have A:Aside (∀j u,news[j]? =some u->w.cell? (ad.add j)=some u):=hc
 have hi:=T.hi;have hz0:=T.hz;have hzs:=T.hzs
 clear hc T
 obtain⟨b,off,sp⟩:=ad
 obtain⟨_,_,FG⟩:=L.f41
 go_enter FG,SlBodyN.n41_ntmps ρ
 go_wp2_with (at_builtin;refine wpList_append_own _ rfl _ _ (ρ.t 22) rfl w.heap.size (ρ.t 23) i0 z i0.size i0.bytes t22 hi hz0 rfl rfl hzs hsz _ _ _ rfl (World.ownsRow_made w #[] 0 (Nat.le_refl _) (Nat.zero_le _) (by simp)) ⟨b,off,sp⟩ n c news rfl ?qc1 ?qc2 ?qc3 ?qc4 ?qc5 ?qc6 ?_)
 case qc1=>exact hl
 case qc2=>
  intro j u hj
  exact Lib.cell?_alloc_some _ (A.out j u hj)
 case qc3=>exact h1
 case qc4=>rw[Nat.zero_add];exact hn
 case qc5=>rw[Nat.zero_add];exact hbig
 case qc6=>simp
 intro v' w1 hown hgrow hnil
 go_wp2
 go_ret
 refine⟨v',rfl,by simpa using hown,?_⟩
 exact((Below.refl _ w).alloc (Nat.le_refl _) _).grown hgrow (by simp) (by intro k hk;simp[Value.ownBlock]at hk;omega)

end
def PY{α:Type}(by_:Nat)(l:List α):Option (List α):=if fit 0 l.length by_ then some l else none
theorem aSq{P:Program}{ρ:Ren}(mixed:P.follows .mixedOrders=true)(FB:Bears P (ρ.f 41) (SlBodyN.n41 ρ))(t4:P.underlying (ρ.t 4)=some .bool)(ht:P.underlying (ρ.t 22)=some (.slice (ρ.t 23)))
 (z4:(P.info? (ρ.t 4)).map (·.size)=some 1) (v4:(P.info? (ρ.t 4)).map (·.zero)=some (some (.bool false))) (z22:(P.info? (ρ.t 22)).map (·.size)=some 1) (v22:(P.info? (ρ.t 22)).map (·.zero)=some (some (.slice none 0 0))):SlLaysE0.n41 P ρ:=
 ⟨mixed,FB,t4,fun w=>Aj (by simp[Cc,t4]) w,CV z4,Dx v4,ht,fun w=>Aj (by simp[Cc,ht]) w,CV z22,Dx v22⟩
end Go.Ac
namespace Go.Ac
open Go.Proofs Go.Shelf Go.RowKit Go.Lib Go.Sort
section
variable {P:Program} {ρ:Ren}
theorem P7{e:TypeId}{i0:TypeInfo}{z:Value}(mixed:P.follows .mixedOrders=true)(FB:Bears P (ρ.f 22) (Body2.n22 ρ))
 (t3:P.underlying (ρ.t 3)=some (.int .i64)) (t4:P.underlying (ρ.t 4)=some .bool) (T:aBg P (ρ.t 24) e i0 z)
 (ys:List D) (hy:0<ys.length) (h63:ys.length<=maxLen) (hbytes:ys.length*i0.bytes<=140737488355328):
 AL P (ρ.f 22) [.nil,.d (.v (.int .i64 ((0:Nat):Int))),.row 0] [(0,.row e i0.size ys)] (.row 1) [(1,.rw e i0.size ys)]:=by
 intro h w val vs hI hA
 simp only[RAs,RA,RD]at hA
 obtain⟨_,_,rfl,rfl,_,_,rfl,⟨rfl,_⟩,_,_,rfl,⟨rfl,_⟩,rfl⟩:=hA
 obtain⟨ws,hown2,hrow2,hh2⟩:=hI.rep (0,.row e i0.size ys) (by simp)
 have hlen2:=Am.length hrow2
 rcases hown2.2 with⟨hv2,h0⟩|⟨g2,cap2,cur2,hv2,_,hg2,hn2,hc2,hcs2,htk2⟩
 omega
 simp only at hv2
 have hws:∀j u,ws[j]? =some u->w.cell? ((⟨g2,0,none⟩:Addr).add j)=some u:=fun j u hu=>by rw[hv2]at hown2;exact hown2.cells (g:=g2) rfl j u hu
 rw[hv2]
 refine(YZ mixed FB t3 t4 T w none 0 0 [] ⟨g2,0,none⟩ ys.length cap2 ws (World.ownsRow_nil _ _ _ _) hy hlen2 hws (Am.one hrow2) (by omega) (by simpa using hbytes)).mono ?_
 rintro ex w' ⟨v',rfl,ho,hcase⟩
 refine Em (X:=[(0,Bk.row e i0.size ys)]) (m:=1) (v:=.slice none 0 0) (by simp[AP]) (by simp[Value.ownBlock]) (by simp[Value.ownBlock]) (by simpa using ho) hrow2 (fun g hg=>?_) ?_
 rcases hcase with⟨h1,_⟩|⟨h1,_⟩
 rw[h1]at hg;simp[Value.ownBlock]at hg
 rw[h1]at hg;cases hg;exact .inr (Nat.le_refl _)
 rcases hcase with⟨_,h1⟩|⟨_,h1⟩
 exact h1
 exact⟨h1.os,h1.tape,h1.output,h1.size,fun b hb _=>h1.block b hb (by simp)⟩
end
def aTu{α:Type}(by_:Nat)(i:Int)(ys:List α):Option (List α):=
 if i=0/\0<ys.length/\fit 0 ys.length by_ then some ys else none
theorem aP0{P:Program}{ρ:Ren}{e:TypeId}{k by_ fi:Nat}{α:Type}(f:α->D)(mixed:P.follows .mixedOrders=true)(hfi:ρ.f 22=fi)(FB:Bears P (ρ.f 22) (Body2.n22 ρ))
 (t3:P.underlying (ρ.t 3)=some (.int .i64)) (t4:P.underlying (ρ.t 4)=some .bool) (ht:P.underlying (ρ.t 24)=some (.slice e))
 (hq:(P.info? e).map (fun i=>(i.size,i.bytes,i.zero.map (·.cells.size),i.zero.map (fun z=>z.cells.all (·.oneCell'))))=some (k,by_,some k,some true)) (hby:0<by_)
 (i:Int) (ys r:List α) (h:aTu by_ i ys=some r):AL P fi [.nil,.d (D.i .i64 i),.row 0] [(0,.row e k (ys.map f))] (.row 1) [(1,.rw e k (r.map f))]:=by
 obtain⟨i0,z,T,rfl,rfl⟩:=Lf ht hq
 unfold aTu at h
 split at h
 rename_i hc
 obtain⟨rfl,hy,hf⟩:=hc
 obtain rfl:=Option.some.inj h
 subst hfi
 unfold fit at hf
 rw[Nat.zero_add]at hf
 have h63:ys.length<=maxLen:=by have:ys.length<=ys.length*i0.bytes:=Nat.le_mul_of_pos_right _ hby;exact Nat.le_trans (Nat.le_trans this hf) (by decide)
 exact P7 mixed FB t3 t4 T (ys.map f) (by rw[List.length_map];exact hy) (by simpa using h63) (by simpa using hf)
 cases h
end Go.Ac
namespace Go.Ac
open Go.Proofs Go.Shelf Go.RowKit Go.Lib
section
variable {P:Program} {ρ:Ren}
theorem MH(L:SlLaysE0.n41 P ρ){i0:TypeInfo}{z:Value}(T:aBg P (ρ.t 22) (ρ.t 23) i0 z)(hsz:0<i0.size){h:Hw}{w:World}{xs:List D}{u:Value}{us:List Value}
 (hown:w.ownsRow 0 (ρ.t 23) i0.size u xs.length us) (hrow:Am h w i0.size xs us) (hbig:xs.length*i0.bytes<=140737488355328):
 Calls P (ρ.f 41) #[u] w fun e w'=>∃v' us,e=.returned v'/\w'.ownsRow 0 (ρ.t 23) i0.size v' xs.length us/\Am h w i0.size xs us/\(∀g,v'.ownBlock=some g->w.heap.size<=g)/\w.grownBy w' none:=by
 obtain⟨hlen,hcase⟩:=hown
 rcases hcase with⟨rfl,h0⟩|⟨g,cap,cur,rfl,_,hg,hn,hc,hcs,htk⟩
 have hxs:xs=[]:=List.eq_nil_of_length_eq_zero h0
 subst hxs
 refine(AnyE.slices_Clone_nil L _ _ w).mono ?_
 rintro e w' ⟨rfl,rfl⟩
 exact⟨_,[],rfl,World.ownsRow_nil _ _ _ _,by simp[Am],by simp[Value.ownBlock],⟨rfl,rfl,rfl,Nat.le_refl _,fun _ _ _=>rfl⟩⟩
 have hcell:∀j x,us[j]? =some x->w.cell? ((⟨g,0,none⟩:Addr).add j)=some x:=by
  intro j x hj;rw[<-htk,List.getElem?_take]at hj;split at hj;have e:(⟨g,0,none⟩:Addr).add j=⟨g,j,none⟩:=by cases j<;>simp[Addr.add]
  rw[e];simp only[World.cell?,hg];simpa using hj;cases hj
 refine(RV L T hsz ⟨g,0,none⟩ xs.length cap us w hlen (Nat.le_trans hn hc) hbig hcell hrow.one).mono ?_
 rintro e w' ⟨v',rfl,hown',hB⟩
 refine⟨v',us,rfl,⟨hown'.1,?_⟩,hrow,fun g hg=>(hown'.lt g hg).1,⟨hB.os,hB.tape,hB.output,hB.size,fun b hb _=>hB.block b hb⟩⟩
 rcases hown'.2 with h0|⟨g,cap,cur,e1,_,e3⟩
 exact .inl h0
 exact .inr ⟨g,cap,cur,e1,Nat.zero_le _,e3⟩
theorem aBj(L:SlLaysE0.n41 P ρ){i0:TypeInfo}{z:Value}(T:aBg P (ρ.t 22) (ρ.t 23) i0 z)(hsz:0<i0.size)(xs:List D)(hbig:xs.length*i0.bytes<=140737488355328):
 AL P (ρ.f 41) [.row 0] [(0,.rw (ρ.t 23) i0.size xs)] (.row 1) [(0,.rw (ρ.t 23) i0.size xs),(1,.rw (ρ.t 23) i0.size xs)]:=by
 intro h w val vs hI hA
 simp only[RAs,RA]at hA
 obtain⟨u,_,rfl,⟨hu,_⟩,rfl⟩:=hA
 obtain⟨us0,hown0,hrow0,hh0⟩:=hI.rep (0,.rw (ρ.t 23) i0.size xs) (by simp)
 simp only at hown0
 subst hu
 refine(MH L T hsz hown0 hrow0 hbig).mono ?_
 rintro e w' ⟨v',us,rfl,hown,hrow,hnew,hgrow⟩
 let h':Hw:=fun b=>if v'.ownBlock=some b then 0 else h b
 have hkeep:Cf [] h w h' w':=by
  refine⟨hgrow.os,hgrow.tape,hgrow.output,hgrow.size,fun b j x hj hcx=>?_,fun b hb=>?_,fun b hb hn=>?_⟩;rw[World.cell?_of_block (w:=w) (a:=⟨b,j,none⟩) (hgrow.block b (Fo hcx) (by simp))];exact hcx;show h b<=if v'.ownBlock=some b then _ else h b
  split;rename_i hvb;have:=hnew b hvb;omega;exact Nat.le_refl _;refine⟨hgrow.block b hb (by simp),?_⟩;show(if v'.ownBlock=some b then _ else h b)=h b
  rw[if_neg fun hvb=>by have:=hnew b hvb;omega]
 have hq:=hI.quiet hkeep
 have hv0:BB val 1 v' 0=val 0:=by simp[BB]
 have hv1:BB val 1 v' 1=v':=by simp[BB]
 have hvb:C6 v'=v'.ownBlock:=C7 hown
 have hbl:∀b,b∈Ae val [(0,Bk.rw (ρ.t 23) i0.size xs)]->b<w.heap.size:=fun b hb=>hI.blk_lt b hb
 have hb2:Ae (BB val 1 v') [(0,Bk.rw (ρ.t 23) i0.size xs),(1,.rw (ρ.t 23) i0.size xs)]=Ae val [(0,Bk.rw (ρ.t 23) i0.size xs)]++v'.ownBlock.toList:=by unfold Ae Ai;simp only[List.filterMap_cons,List.filterMap_nil,Bk.isOld,hv0,hv1,hvb];cases C6 (val 0)<;>cases v'.ownBlock<;>rfl
 refine⟨h',BB val 1 v',v',rfl,⟨?_,by simp[AP],?_⟩,?_,hkeep.mono' (fun x hx=>(by cases hx)),?_,?_⟩
 intro p hp
 simp only[mc,List.not_mem_nil,or_false]at hp
 rcases hp with rfl|rfl
 obtain⟨us2,a,b,c⟩:=hq.rep (0,.rw (ρ.t 23) i0.size xs) (by simp)
 exact⟨us2,by rw[hv0];exact a,b,by rw[hv0];exact c⟩
 refine⟨us,by rw[hv1];exact hown,Am.stays hkeep.stays _ _ _ hrow,fun g hg=>?_⟩
 rw[hv1]at hg
 show(if v'.ownBlock=some g then _ else h g)=_
 rw[if_pos hg]
 rw[hb2]
 refine List.nodup_append.2 ⟨hI.bks,by cases v'.ownBlock<;>simp,fun a ha b hb=>?_⟩
 have h1:=hbl a ha
 have h2:=hnew b (by simpa using hb)
 omega
 simp only[RA,hv1]
 exact⟨trivial,.inl (Cz hown)⟩
 intro n hn
 by_cases e:n=1
 subst e;exact absurd (hn (by simp[AP])) (by simp[AP])
 simp[BB,e]
 intro b hb
 rw[hb2]at hb
 rcases ma.1 hb with hb|hb
 exact .inl hb
 exact .inr (hnew b (by simpa using hb))
end
theorem YL{P:Program}{ρ:Ren}{e:TypeId}{k by_ fi:Nat}{α:Type}(f:α->D)(hfi:ρ.f 41=fi)(he:ρ.t 23=e)(L:SlLaysE0.n41 P ρ)
 (hq:(P.info? (ρ.t 23)).map (fun i=>(i.size,i.bytes,i.zero.map (·.cells.size),i.zero.map (fun z=>z.cells.all (·.oneCell'))))=some (k,by_,some k,some true)) (hk0:0<k)
 (l r:List α) (h:PY by_ l=some r):AL P fi [.row 0] [(0,.rw e k (l.map f))] (.row 1) [(0,.rw e k (l.map f)),(1,.rw e k (r.map f))]:=by
 obtain⟨i,z,T,rfl,rfl⟩:=Lf L.t22 hq
 unfold PY at h
 split at h
 rename_i hc
 obtain rfl:=Option.some.inj h
 subst hfi;subst he
 exact aBj L T hk0 (l.map f) (by unfold fit at hc;simpa using hc)
 cases h
end Go.Ac
namespace Go.Ac
open Go.Proofs Go.Shelf Go.RowKit Go.Lib
section
variable {P:Program} {ρ:Ren}
theorem aQy(L:Lays8.n4 P ρ){i0:TypeInfo}{z:Value}(T:aBg P (ρ.t 22) (ρ.t 25) i0 z)(hsz:0<i0.size)(n:Nat)(hbig:n*i0.bytes<=140737488355328)(h63:n<=4611686018427387904):
 AL P (ρ.f 4) [.nil,.d (.v (.int .i64 n))] [] (.row 0) [(0,.rw (ρ.t 25) i0.size [])]:=by
 intro h w val vs hI hA
 simp only[RAs,RA,RD]at hA
 obtain⟨_,_,rfl,rfl,_,_,rfl,⟨rfl,_⟩,rfl⟩:=hA
 rcases Nat.eq_zero_or_pos n with h0|h0
 subst h0
 refine(Any8.slices_Grow_room L none 0 0 0 w (Nat.le_refl _) (by decide) (by decide) (by decide)).mono ?_
 rintro e w' ⟨rfl,rfl⟩
 exact Em (X:=[]) (v:=.slice none 0 0) (us':=[]) (by simp[AP]) (by simp[Value.ownBlock]) (by simp[Value.ownBlock]) (World.ownsRow_nil _ _ _ _) (by simp[Am]) (by simp[Value.ownBlock]) ⟨rfl,rfl,rfl,Nat.le_refl _,fun _ _ _=>rfl⟩
 refine(Any8.slices_Grow_grow L i0 z T.hi T.hz hsz none 0 0 n [] w (Nat.le_refl _) (by omega) (by simpa using hbig) (by omega) (by simp) (fun _=>rfl) (fun a h=>by cases h)).mono ?_
 rintro e w' ⟨rfl,rfl⟩
 have hG:=grownCap_ge w (0+n) 0 (ρ.t 25)
 have hG2:=grownCap_le_maxLen w (0+n) 0 (ρ.t 25) (by unfold maxLen;omega)
 generalize grownCap w (0+n) 0 (ρ.t 25)=G at hG hG2
 refine Em (X:=[]) (v:=.slice none 0 0) (us':=[]) (by simp[AP]) (by simp[Value.ownBlock]) (by simp[Value.ownBlock]) ⟨by simp,.inr ⟨w.heap.size,G,(#[]:Array Value)++Builtin.zeroCells z.cells (0+n-0)++Builtin.zeroCells z.cells (G-(0+n)),rfl,Nat.zero_le _,?_,Nat.zero_le _,hG2,?_,by simp⟩⟩ (by simp[Am]) ?_ ?_
 have:=World.alloc_heap_new w.drew (.cells ((#[]:Array Value)++Builtin.zeroCells z.cells (0+n-0)++Builtin.zeroCells z.cells (G-(0+n))) (ρ.t 25))
 simpa using this
 have e1:∀m,(Builtin.zeroCells z.cells m).size=m*i0.size:=fun m=>by have:=EC z.cells m;rw[T.hzs]at this;simpa using this
 simp only[Array.size_append,e1,List.size_toArray,List.length_nil,Nat.zero_add]
 rw[<-Nat.add_mul]
 congr 1
 omega
 intro g hg
 simp only[Value.ownBlock,oe]at hg
 exact .inr (by omega)
 refine⟨rfl,rfl,rfl,by simp,fun b hb _=>?_⟩
 exact heap_alloc_old w.drew _ (by simpa using hb)
end
theorem aXv{P:Program}{ρ:Ren}(mixed:P.follows .mixedOrders=true)(FB:Bears P (ρ.f 4) (Body8.n4 ρ))(t0:P.underlying (ρ.t 0)=some (.tuple #[]))(t3:P.underlying (ρ.t 3)=some (.int .i64))(t4:P.underlying (ρ.t 4)=some .bool)
 (t9:P.underlying (ρ.t 9)=some .string) (t20:P.underlying (ρ.t 20)=some (.interface #[])) (t22:P.underlying (ρ.t 22)=some (.slice (ρ.t 25)))
 (z0:(P.info? (ρ.t 0)).map (·.size)=some 1) (z3:(P.info? (ρ.t 3)).map (·.size)=some 1) (z4:(P.info? (ρ.t 4)).map (·.size)=some 1) (z9:(P.info? (ρ.t 9)).map (·.size)=some 1) (z20:(P.info? (ρ.t 20)).map (·.size)=some 1) (z22:(P.info? (ρ.t 22)).map (·.size)=some 1)
 (v0:(P.info? (ρ.t 0)).map (·.zero)=some (some (.tuple #[]))) (v3:(P.info? (ρ.t 3)).map (·.zero)=some (some (.int .i64 0))) (v4:(P.info? (ρ.t 4)).map (·.zero)=some (some (.bool false))) (v9:(P.info? (ρ.t 9)).map (·.zero)=some (some (.string ⟨#[]⟩)))
 (v20:(P.info? (ρ.t 20)).map (·.zero)=some (some .nilIface)) (v22:(P.info? (ρ.t 22)).map (·.zero)=some (some (.slice none 0 0))):Lays8.n4 P ρ:=
 ⟨mixed,FB,t0,fun w=>Aj (by simp[Cc,t0]) w,CV z0,Dx v0,t3,fun w=>Aj (by simp[Cc,t3]) w,CV z3,Dx v3,t4,fun w=>Aj (by simp[Cc,t4]) w,CV z4,Dx v4,
  t9,fun w=>Aj (by simp[Cc,t9]) w,CV z9,Dx v9,t20,fun w=>Aj (by simp[Cc,t20]) w,CV z20,Dx v20,t22,fun w=>Aj (by simp[Cc,t22]) w,CV z22,Dx v22⟩
def aJw{α:Type}(by_:Nat)(n:Int):Option (List α):=if 0<=n/\n*by_<=140737488355328/\n<=4611686018427387904 then some []else none
theorem aJx{P:Program}{ρ:Ren}{e:TypeId}{k by_ fi:Nat}{α:Type}(f:α->D)(hfi:ρ.f 4=fi)(he:ρ.t 25=e)(L:Lays8.n4 P ρ)
 (hq:(P.info? (ρ.t 25)).map (fun i=>(i.size,i.bytes,i.zero.map (·.cells.size),i.zero.map (fun z=>z.cells.all (·.oneCell'))))=some (k,by_,some k,some true)) (hk0:0<k)
 (n:Int) (r:List α) (h:aJw by_ n=some r):AL P fi [.nil,.d (D.i .i64 n)] [] (.row 0) [(0,.rw e k (r.map f))]:=by
 obtain⟨i,z,T,rfl,rfl⟩:=Lf L.t22 hq
 unfold aJw at h
 split at h
 rename_i hc
 obtain rfl:=Option.some.inj h
 subst hfi;subst he
 obtain⟨m,rfl⟩:∃m:Nat,n=(m:Int):=⟨n.toNat,by omega⟩
 exact aQy L T hk0 m (by have:=hc.2.1;rw[<-Int.natCast_mul]at this;omega) (by have:=hc.2.2;omega)
 cases h
end Go.Ac
namespace Go.Ac
open Go.MapKept
structure MP(K V:Type) where
 clk:Nat
 es:List (Nat×K×V)
section
variable {K V:Type}
def MP.dl(fk:K->D)(fv:V->D)(m:MP K V):List (Nat×D×D):=m.es.map fun x=>(x.1,fk x.2.1,fv x.2.2)
def G8:MP K V:=⟨0,[]⟩
structure P9(P:Program)(kt:TypeId)(fk:K->D):Prop where
 ok:∀a,KOk P kt (fk a)
 inj:∀a b,fk a=fk b->a=b
variable {P:Program} {kt:TypeId} {fk:K->D} {fv:V->D}
abbrev dl(fk:K->D)(fv:V->D)(l:List (Nat×K×V)):List (Nat×D×D):=l.map fun x=>(x.1,fk x.2.1,fv x.2.2)
theorem aPp(T:P9 P kt fk)(l:List (Nat×K×V)):∀x∈dl fk fv l,KOk P kt x.2.1:=fun x hx=>by obtain⟨y,_,rfl⟩:=mm.1 hx;exact T.ok _
def aQh(st:Int)(v:V):List (Nat×K×V)->List (Nat×K×V)
 |[]=> []
 |x::xs=>if(x.1:Int)=st then(x.1,x.2.1,v)::xs else x::aQh st v xs
def Ri(m:MP K V)(st:Int)(v:V):MP K V:=⟨m.clk,aQh st v m.es⟩
def aKd(m:MP K V)(st:Int):Bool:=m.es.any fun x=>decide ((x.1:Int)=st)
theorem aAw(st:Int)(v:V):∀l:List (Nat×K×V),(l.any fun x=>decide ((x.1:Int)=st))=true->aT3 (dl fk fv l) st (fv v) (dl fk fv (aQh st v l))
 |[],h=>by simp at h
 |x::xs,h=>by
  rw[aQh];split;rename_i e;exact⟨[],x.1,fk x.2.1,fv x.2.2,dl fk fv xs,e.symm,rfl,by simp,rfl⟩;rename_i e;have h':(xs.any fun x=>decide ((x.1:Int)=st))=true:=by simpa[e]using h
  obtain⟨pre,s,kd,v0,post,h1,h2,h3,h4⟩:=aAw st v xs h';refine⟨(x.1,fk x.2.1,fv x.2.2)::pre,s,kd,v0,post,h1,by rw[List.cons_append,<-h2];rfl,fun y hy=>?_,by rw[List.cons_append,<-h4];rfl⟩;rcases mc.1 hy with rfl|hy
  exact fun e2=>e (by rw[h1];simp only at e2;omega);exact h3 y hy
theorem aP6(fk:K->D)(fv:V->D)(m:MP K V)(st:Int)(v:V)(h:aKd m st=true):aT3 (MP.dl fk fv m) st (fv v) (MP.dl fk fv (Ri m st v)):=aAw st v m.es h
variable [DecidableEq K]
def Lr(z:V)(k:K):List (Nat×K×V)->V×Bool
 |[]=>(z,false)
 |x::xs=>if x.2.1=k then(x.2.2,true)else Lr z k xs
def NE(clk:Nat)(k:K)(v:V):List (Nat×K×V)->Nat×List (Nat×K×V)
 |[]=>(clk+1,[(clk,k,v)])
 |x::xs=>if x.2.1=k then(clk,(x.1,x.2.1,v)::xs)else((NE clk k v xs).1,x::(NE clk k v xs).2)
def KV(clk:Nat)(z:V)(k:K):List (Nat×K×V)->(Nat×List (Nat×K×V))×V×Nat
 |[]=>((clk+1,[(clk,k,z)]),z,clk)
 |x::xs=>if x.2.1=k then((clk,x::xs),x.2.2,x.1)else(((KV clk z k xs).1.1,x::(KV clk z k xs).1.2),(KV clk z k xs).2)
def J4(z:V)(m:MP K V)(k:K):V×Bool:=Lr z k m.es
def Eg(m:MP K V)(k:K)(v:V):MP K V:=⟨(NE m.clk k v m.es).1,(NE m.clk k v m.es).2⟩
def G7(z:V)(m:MP K V)(k:K):MP K V:=⟨(KV m.clk z k m.es).1.1,(KV m.clk z k m.es).1.2⟩
def aYw(z:V)(m:MP K V)(k:K):V:=(KV m.clk z k m.es).2.1
def OM(z:V)(m:MP K V)(k:K):Nat:=(KV m.clk z k m.es).2.2
theorem YT(T:P9 P kt fk)(z:V)(k:K):∀l:List (Nat×K×V),((Lr z k l).2=true/\∃(pre:List (Nat×D×D)) (s:Nat) (post:List (Nat×D×D)),dl fk fv l=pre++(s,fk k,fv (Lr z k l).1)::post/\∀x∈pre,x.2.1≠fk k)\/((Lr z k l).2=false/\fv (Lr z k l).1=fv z/\∀x∈dl fk fv l,x.2.1≠fk k)
 |[]=>.inr ⟨rfl,rfl,by simp⟩
 |x::xs=>by
  rw[Lr];split;rename_i h;exact .inl ⟨rfl,[],x.1,dl fk fv xs,by rw[<-h];rfl,by simp⟩;rename_i h;have hne:fk x.2.1≠fk k:=fun e=>h (T.inj _ _ e);rcases YT T z k xs with⟨h1,pre,s,post,h2,h3⟩|⟨h1,h2,h3⟩
  refine .inl ⟨h1,(x.1,fk x.2.1,fv x.2.2)::pre,s,post,by rw[List.cons_append,<-h2];rfl,fun y hy=>?_⟩;rcases mc.1 hy with rfl|hy
  exact hne;exact h3 y hy;refine .inr ⟨h1,h2,fun y hy=>?_⟩;rcases mc.1 hy with rfl|hy
  exact hne;exact h3 y hy
theorem aP5(T:P9 P kt fk)(fv:V->D)(z:V)(m:MP K V)(k:K):aYr P kt (fv z) (MP.dl fk fv m) (fk k) (fv (J4 z m k).1) (J4 z m k).2:=⟨aPp T m.es,T.ok k,YT T z k m.es⟩
theorem aAb(T:P9 P kt fk)(clk:Nat)(k:K)(v:V):∀l:List (Nat×K×V),((NE clk k v l).1=clk/\∃(pre:List (Nat×D×D)) (s:Nat) (v0:D) (post:List (Nat×D×D)),dl fk fv l=pre++(s,fk k,v0)::post/\(∀x∈pre,x.2.1≠fk k)/\dl fk fv (NE clk k v l).2=pre++(s,fk k,fv v)::post)\/((NE clk k v l).1=clk+1/\dl fk fv (NE clk k v l).2=dl fk fv l++[(clk,fk k,fv v)]/\∀x∈dl fk fv l,x.2.1≠fk k)
 |[]=>.inr ⟨rfl,rfl,by simp⟩
 |x::xs=>by
  rw[NE];split;rename_i h;exact .inl ⟨rfl,[],x.1,fv x.2.2,dl fk fv xs,by rw[<-h];rfl,by simp,by rw[<-h];rfl⟩;rename_i h;have hne:fk x.2.1≠fk k:=fun e=>h (T.inj _ _ e);rcases aAb T clk k v xs with⟨h1,pre,s,v0,post,h2,h3,h4⟩|⟨h1,h2,h3⟩
  refine .inl ⟨h1,(x.1,fk x.2.1,fv x.2.2)::pre,s,v0,post,by rw[List.cons_append,<-h2];rfl,fun y hy=>?_,by rw[List.cons_append,<-h4];rfl⟩;rcases mc.1 hy with rfl|hy
  exact hne;exact h3 y hy;refine .inr ⟨h1,?_,fun y hy=>?_⟩;show(x.1,fk x.2.1,fv x.2.2)::dl fk fv (NE clk k v xs).2=_;rw[h2];rfl;rcases mc.1 hy with rfl|hy
  exact hne;exact h3 y hy
theorem ZO(T:P9 P kt fk)(fv:V->D)(m:MP K V)(k:K)(v:V):aQ6 P kt (MP.dl fk fv m) (fk k) (fv v) m.clk (MP.dl fk fv (Eg m k v)) (Eg m k v).clk:=⟨aPp T m.es,T.ok k,aAb T m.clk k v m.es⟩
theorem YP(T:P9 P kt fk)(clk:Nat)(z:V)(k:K):∀l:List (Nat×K×V),((KV clk z k l).1.1=clk/\dl fk fv (KV clk z k l).1.2=dl fk fv l/\∃(pre post:List (Nat×D×D)),dl fk fv l=pre++((KV clk z k l).2.2,fk k,fv (KV clk z k l).2.1)::post/\∀x∈pre,x.2.1≠fk k)\/((KV clk z k l).1.1=clk+1/\(KV clk z k l).2.2=clk/\fv (KV clk z k l).2.1=fv z/\dl fk fv (KV clk z k l).1.2=dl fk fv l++[(clk,fk k,fv z)]/\∀x∈dl fk fv l,x.2.1≠fk k)
 |[]=>.inr ⟨rfl,rfl,rfl,rfl,by simp⟩
 |x::xs=>by
  rw[KV];split;rename_i h;exact .inl ⟨rfl,rfl,[],dl fk fv xs,by rw[<-h];rfl,by simp⟩;rename_i h;have hne:fk x.2.1≠fk k:=fun e=>h (T.inj _ _ e);rcases YP T clk z k xs with⟨h1,h0,pre,post,h2,h3⟩|⟨h1,h2,h3,h4,h5⟩
  refine .inl ⟨h1,?_,(x.1,fk x.2.1,fv x.2.2)::pre,post,by rw[List.cons_append,<-h2];rfl,fun y hy=>?_⟩;show(x.1,fk x.2.1,fv x.2.2)::dl fk fv (KV clk z k xs).1.2=_;rw[h0];rfl;rcases mc.1 hy with rfl|hy
  exact hne;exact h3 y hy;refine .inr ⟨h1,h2,h3,?_,fun y hy=>?_⟩;show(x.1,fk x.2.1,fv x.2.2)::dl fk fv (KV clk z k xs).1.2=_;rw[h4];rfl;rcases mc.1 hy with rfl|hy
  exact hne;exact h5 y hy
theorem aP4(T:P9 P kt fk)(fv:V->D)(z:V)(m:MP K V)(k:K)(h:OM z m k<=4611686018427387904):aYq P kt (fv z) (MP.dl fk fv m) (fk k) m.clk (MP.dl fk fv (G7 z m k)) (G7 z m k).clk (fv (aYw z m k)) (OM z m k):=⟨aPp T m.es,T.ok k,h,YP T m.clk z k m.es⟩
end
theorem aLt{P:Program}{kt:TypeId}{k:IntKind}(hu:P.underlying kt=some (.int k)):P9 P kt (D.i k):=⟨fun a=>⟨.int k a,rfl,.inl ⟨.int k,hu,rfl⟩⟩,fun a b e=>by simpa[D.i]using e⟩
end Go.Ac
namespace Go.Ac
theorem aAh{s:St}{n:Nat}{b b':Bk}(hl:lk s.B n=some b)(ho:b'.isOld=b.isOld){h w val a}(H:AU s h w val a)(hr:RB h w val n b'):AU {s with B:=Bu s.B n b'} h w val a/\Nx s h w val {s with B:=Bu s.B n b'} h w val:=by
 have hmem:(n,b)∈s.all:=ml _ (Ak hl);have hsame:∀b2,(n,b2)∈s.B->b2.isOld=b'.isOld:=fun b2 hb2=>by rw[BV H.inv.nms (ml _ hb2) hmem,ho]
 refine⟨⟨H.e,⟨fun p hp=>?_,?_,?_⟩,H.far,H.defs⟩,⟨Cf.refl _ _ _,fun _ _=>rfl,fun b hb=>.inl ?_⟩⟩;rcases ma.1 hp with hp|hp
 rcases CN hp with rfl|⟨hp,hne⟩
 exact hr;exact H.inv.rep p (ml _ hp);exact H.inv.rep p (mr _ hp);have:=H.inv.nms;simpa only[St.all,AM,BS]using this;have:=H.inv.bks;simpa only[St.all,AO,BA hsame]using this;simpa only[St.all,AO,BA hsame]using hb
theorem AC.exact{P:Program}{rd:Option Nat}{c:Code}{s:St}{Ψ:Ex->St->Prop}{n:Nat}{S:List (D×D)}(hl:lk s.B n=some (.mapS S))
 (h:∀clk es,(es.map (·.2)).Perm S->(es.map (·.1)).Nodup->(es.map (·.2.1)).Nodup->AC P rd c {s with B:=Bu s.B n (.map clk es)} Ψ):AC P rd c s Ψ:=by
 intro h' w val a H Q hQ
 obtain⟨clk,es,hm,hp⟩:=H.inv.rep _ (ml _ (Ak hl))
 obtain⟨H',n'⟩:=aAh hl (b':=.map clk es) rfl H hm
 obtain⟨b,l,_,_,_,_,h5,h6,_⟩:=hm
 exact h clk es hp h5 h6 h' w val a H' Q fun e s2 h2 w2 v2 a2 hΨ H2 n2=>hQ e s2 h2 w2 v2 a2 hΨ H2 (n'.trans n2)
theorem Wk.setm{s:St}{n clk:Nat}{es:List (Nat×D×D)}{S:List (D×D)}(hl:lk s.B n=some (.map clk es))(hp:(es.map (·.2)).Perm S):Wk s {s with B:=Bu s.B n (.mapS S)}:=
 Wk.redesc hl rfl fun _ _ _ _ _ hr=>⟨clk,es,hr,hp⟩
theorem Wk.permS{s:St}{n:Nat}{S S':List (D×D)}(hl:lk s.B n=some (.mapS S))(hp:S.Perm S'):Wk s {s with B:=Bu s.B n (.mapS S')}:=
 Wk.redesc hl rfl fun _ _ _ _ _ hr=>by obtain⟨clk,es,hm,h⟩:=hr;exact⟨clk,es,hm,h.trans hp⟩
theorem Wk.bagw{s:St}{n:Nat}{e:TypeId}{k:Nat}{xs ys:List D}(hl:lk s.B n=some (.rw e k xs))(hp:xs.Perm ys):Wk s {s with B:=Bu s.B n (.bag e k ys)}:=
 Wk.redesc hl rfl fun _ _ _ _ _ hr=>by obtain⟨us,a,b,c⟩:=hr;exact⟨xs,us,hp,a,b,c⟩
def ACN(P:Program)(rd:Option Nat)(ops:Array Oper)(rest:Code)(s:St)(Ψ:Ex->St->Prop):Prop:=
 ∀h w val a,AU s h w val a->∀Q:Exit->Act->World->Prop,
  (∀e s' h' w' val' a',Ψ e s'->AU s' h' w' val' a'->Nx s h w val s' h' w' val'->Q e.toExit a' w')->wpOpsIn (fc rd) 0 P ops (Exit.then (rest.wpIn (fc rd) 0 P Q) Q) (List.range' 1 (ops.size-1)) a w
theorem ACN.run{P:Program}{rd:Option Nat}{ops:Array Oper}{rest:Code}{s s1:St}{ws:List (Nat×W)}{Φ:Ob}{L:Lp}{Ψ:Ex->St->Prop}(h1:aJj P ops ws (ops.toList.drop 1) s=some (Φ,s1))(hΦ:Φ.ok P L)(h2:AC P rd rest s1 Ψ):ACN P rd ops rest s Ψ:=by
 intro h w val a H Q hQ;have hlen:(ops.toList.drop 1).length=ops.size-1:=by simp
 rw[<-hlen];refine LH (ops.toList.drop 1) 1 s s1 Φ (fun j=>by simp[List.getElem?_drop,Nat.add_comm]) h1 hΦ h w val a H fun h' w' val' a' H' n'=>?_;exact h2 h' w' val' a' H' Q fun e s2 h2 w2 v2 a2 hΨ H2 n2=>hQ e s2 h2 w2 v2 a2 hΨ H2 (n'.trans n2)
theorem ACN.post{P:Program}{rd:Option Nat}{ops:Array Oper}{rest:Code}{s:St}{Ψ Ψ':Ex->St->Prop}(h:ACN P rd ops rest s Ψ)(hp:∀e s1,Ψ e s1->Ψ' e s1):ACN P rd ops rest s Ψ':=
 fun h' w val a H Q hQ=>h h' w val a H Q fun e s1 h1 w1 v1 a1 hΨ H1 n1=>hQ e s1 h1 w1 v1 a1 (hp e s1 hΨ) H1 n1
theorem AC.next{P:Program}{rd:Option Nat}{id:Nat}{ops:Array Oper}{rest:Code}{s:St}{Ψ:Ex->St->Prop}{o:Oper}{it:Operand}{t d n clk:Nat}{es:List (Nat×D×D)}{seen:List Nat}
 (ho:ops[0]? =some o) (hop:o.op=.next it false) (hg:o.guard=none) (hd:o.dst=some t) (hit:s.ev it=.box d 0) (h1:lk s.B d=some (.mit n clk seen)) (h2:lk s.B n=some (.map clk es))
 (hA:(es.map (·.1)).Nodup->∀e∈es,e.1∉seen->ACN P rd ops rest ({s with B:=Bu s.B d (.mit n clk (seen++[e.1]))}.put (some t) (.tup [bo true,.d e.2.1,.d e.2.2])) Ψ)
 (hB:(es.map (·.1)).Nodup->(∀e∈es,e.1∈seen)->ACN P rd ops rest (s.put (some t) (.tup [bo false])) Ψ):AC P rd (.seq (.region id ops false) rest) s Ψ:=by
 intro h w val a H Q hQ
 refine wpIn_seq (wpIn_region ?_)
 have hsz:0<ops.size:=(Array.getElem?_eq_some_iff.1 ho).1
 rw[List.range_eq_range',show ops.size=ops.size-1+1 by omega,List.range'_succ,wpOpsIn_cons]
 obtain⟨r,b,e1,e2,e3⟩:=H.inv.rep _ (ml _ (Ak h1))
 obtain⟨b',l,g1,g2,g3,g4,g5,g6,g7⟩:=H.inv.rep _ (ml _ (Ak h2))
 simp only at e1 e2 g1
 have hb:b=b':=by rw[e2]at g1;cases g1;rfl
 subst hb
 have hi:=H.ev it
 rw[hit]at hi
 simp only[RA]at hi
 obtain⟨r',i1,i2⟩:=hi
 have hr':r'=r:=by rw[e1]at i1;cases i1;rfl
 subst hr'
 unfold wpOpIn
 rw[ho]
 have hw:Region.wanted o (yielded ops a.tmps)=true:=by unfold Region.wanted;rw[hg]
 simp only[hw,if_true]
 have hnd:E8 o.op=true:=by rw[hop];rfl
 refine DV hnd ?_
 have hborn:=REs.born g3
 rcases run_next_at (P:=P) w o.type r' b clk clk ⟨seen⟩ ⟨l⟩ clk e3 g2 (fun x hx=>by obtain⟨y,hy,q,_⟩:=REs.mem g3 x hx;rw[q];exact g4 y hy) (Nat.le_refl _)with⟨h0,hrun⟩|⟨e,he,w1,hw1,hrun⟩
 refine AR (u:=.tuple #[.bool false]) (w':=w) (by simp[execOp,hop,i2,hrun]) ?_
 have hall:∀e∈es,e.1∈seen:=fun x hx=>by
  obtain⟨e,he,q,_⟩:=REs.mem' g3 x hx;have hz:(leftOf ⟨l⟩ ⟨seen⟩).toList=[]:=by have:(leftOf ⟨l⟩ ⟨seen⟩)= #[]:=Array.eq_empty_of_size_eq_zero h0;rw[this]
  cases hc:decide (x.1∈seen)with
  |true=>exact of_decide_eq_true hc
  |false=>
   exfalso
   have:e∈(leftOf ⟨l⟩ ⟨seen⟩).toList:=by unfold leftOf;simp only[Array.toList_filter,List.mem_filter];refine⟨he,?_⟩;have hns:x.1∉seen:=of_decide_eq_false hc;simp[q,hns]
   rw[hz]at this;simp at this
 have hR:RA h w val (.tup [bo false]) (.tuple #[.bool false]):=by simp only[RA,RAs,bo];exact⟨[.bool false],rfl,.bool false,[],rfl,by simp[RD,Value.oneCell'],rfl⟩
 have H':=H.put o.dst hR
 rw[hd]at H'
 have:=hB g5 hall h w val _ H' Q fun e2 s2 h2 w2 v2 a2 hΨ H2 n2=>hQ e2 s2 h2 w2 v2 a2 hΨ H2 (((Nx.refl s h w val rfl).put (some t) _).trans n2)
 rw[hd];exact this
 have hel:e∈l/\e.born∉seen:=by unfold leftOf at he;simp only[Array.toList_filter,List.mem_filter]at he;refine⟨he.1,?_⟩;simpa using he.2
 obtain⟨x,hx,q1,q2,q3⟩:=REs.mem g3 e hel.1
 have hkM:∀M,Cf M h w h w1:=fun M=>by
  rcases hw1 with rfl|rfl
  exact Cf.refl _ _ _;exact Cf.drew M h w
 have hk1:Cf [] h w h w1:=hkM []
 have hh1:w1.heap=w.heap:=by rcases hw1 with rfl|rfl<;>rfl
 have H1:=H.quiet hk1
 have hvb:C6 (val d)=some r':=by rw[e1];rfl
 obtain⟨f1,f2⟩:=aPf H1 h1 rfl (bk':=.mit n clk (seen++[x.1])) (o0:=.mapIter (some b) clk ⟨seen⟩ clk) (o':=.mapIter (some b) clk ⟨seen++[x.1]⟩ clk) rfl hvb (by rw[hh1];exact e3) (by simp)
  ⟨r',b,e1,e2,MY (by rw[hh1];exact e3)⟩
 refine AR (u:=.tuple #[.bool true,e.key,e.val]) (w':={w1 with heap:=w1.heap.setIfInBounds r' (.mapIter (some b) clk ⟨seen++[x.1]⟩ clk)}) ?_ ?_
 simp only[execOp,hop,i2,Sem.run_bind,hrun,Result.andThen_ok,Sem.run_pure]
 have:(⟨seen⟩:Array Nat).push e.born=⟨seen++[x.1]⟩:=by rw[ZQ,q1]
 rw[this];rfl
 have hst:=f2.keep.stays
 have hR:RA h {w1 with heap:=w1.heap.setIfInBounds r' (.mapIter (some b) clk ⟨seen++[x.1]⟩ clk)} val (.tup [bo true,.d x.2.1,.d x.2.2]) (.tuple #[.bool true,e.key,e.val]):=by simp only[RA,RAs,bo];exact⟨[.bool true,e.key,e.val],rfl,.bool true,[e.key,e.val],rfl,by simp[RD,Value.oneCell'],e.key,[e.val],rfl,RD.stays hst _ _ (RD.stays hk1.stays _ _ q2),e.val,[],rfl,RD.stays hst _ _ (RD.stays hk1.stays _ _ q3),rfl⟩
 have H':=f1.put o.dst hR
 rw[hd]at H'
 have hn1:Nx s h w val {s with B:=Bu s.B d (.mit n clk (seen++[x.1]))} h {w1 with heap:=w1.heap.setIfInBounds r' (.mapIter (some b) clk ⟨seen++[x.1]⟩ clk)} val:=
  Nx.trans (s1:=s) ⟨hkM _,fun _ _=>rfl,fun b hb=>.inl hb⟩ f2
 have:=hA g5 x hx (by rw[<-q1];exact hel.2) h _ val _ H' Q fun e2 s2 h2 w2 v2 a2 hΨ H2 n2=>hQ e2 s2 h2 w2 v2 a2 hΨ H2 ((hn1.put (some t) _).trans n2)
 rw[hd];exact this
end Go.Ac
namespace Go.Ac
section
variable {α σ τ:Type}
def Ej(step:α->σ->Option σ):σ->List α->Option σ
 |s,[]=>some s
 |s,x::l=>AJ (step x s) fun s'=>Ej step s' l
theorem EV(step:α->σ->Option σ):∀(l m:List α) (s:σ),Ej step s (l++m)=AJ (Ej step s l) fun s'=>Ej step s' m
 |[],m,s=>rfl
 |x::l,m,s=>by
  simp only[List.cons_append,Ej];cases step x s with
  |none=>rfl
  |some s'=>exact EV step l m s'
open Classical in
noncomputable def F5(c:σ->τ)(xs:List α)(step:α->σ->Option σ)(s:σ):Option τ:=
 if h:∃r,∀p:List α,p.Perm xs->∃s',Ej step s p=some s'/\c s'=r then some (Classical.choose h)else none
theorem N4{c:σ->τ}{xs:List α}{step:α->σ->Option σ}{s:σ}{r:τ}(h:F5 c xs step s=some r):∀p:List α,p.Perm xs->∃s',Ej step s p=some s'/\c s'=r:=by unfold F5 at h;split at h;rename_i hh;have:=Classical.choose_spec hh;simp only[oe]at h;rw[h]at this;exact this;cases h
theorem MN{c:σ->τ}{xs:List α}{step:α->σ->Option σ}{s:σ}{r:τ}(h:∀p:List α,p.Perm xs->∃s',Ej step s p=some s'/\c s'=r):F5 c xs step s=some r:=by have hh:∃r,∀p:List α,p.Perm xs->∃s',Ej step s p=some s'/\c s'=r:=⟨r,h⟩;unfold F5;rw[dif_pos hh];obtain⟨s1,h1,h2⟩:=Classical.choose_spec hh xs (List.Perm.refl _);obtain⟨s2,h3,h4⟩:=h xs (List.Perm.refl _);rw[h1,oe]at h3;rw[<-h2,<-h4,h3]
open Classical in
noncomputable def bagE(f:List α->Option τ)(xs:List α):Option τ:=
 if h:∃r,∀p:List α,p.Perm xs->f p=some r then some (Classical.choose h)else none
theorem XZ{f:List α->Option τ}{xs:List α}{r:τ}(h:bagE f xs=some r):∀p:List α,p.Perm xs->f p=some r:=by unfold bagE at h;split at h;rename_i hh;have:=Classical.choose_spec hh;simp only[oe]at h;rw[h]at this;exact this;cases h
theorem aPe{f:List α->Option τ}{xs:List α}{r:τ}(h:∀p:List α,p.Perm xs->f p=some r):bagE f xs=some r:=by have hh:∃r,∀p:List α,p.Perm xs->f p=some r:=⟨r,h⟩;unfold bagE;rw[dif_pos hh,<-Classical.choose_spec hh xs (List.Perm.refl _),h xs (List.Perm.refl _)]
end
theorem HM{α β:Type}(f:α->β):∀{l:List β} {S:List α},l.Perm (S.map f)->∃T:List α,T.Perm S/\l=T.map f:=by
 intro l S h;generalize hm:S.map f=m at h;induction h generalizing S with
 |nil=>
  cases S with
  |nil=>exact⟨[],List.Perm.refl _,rfl⟩
  |cons a S=>cases hm
 | @cons x l1 l2 h ih=>
  cases S with
  |nil=>cases hm
  |cons a S=>
   rw[List.map_cons,List.cons.injEq]at hm
   obtain⟨T,h1,h2⟩:=ih hm.2
   exact⟨a::T,h1.cons a,by rw[List.map_cons,hm.1,h2]⟩
 |swap x y l=>
  cases S with
  |nil=>cases hm
  |cons a S=>
   cases S with
   |nil=>cases hm
   |cons b S=>
    simp only[List.map_cons,List.cons.injEq]at hm
    exact⟨b::a::S,List.Perm.swap a b S,by rw[List.map_cons,List.map_cons,hm.1,hm.2.1,hm.2.2]⟩
 |trans h1 h2 ih1 ih2=>
  obtain⟨T2,p2,e2⟩:=ih2 hm
  obtain⟨T1,p1,e1⟩:=ih1 e2.symm
  exact⟨T1,p1.trans p2,e1⟩
section
variable {K V:Type}
abbrev ms(fk:K->D)(fv:V->D)(S:List (K×V)):List (D×D):=S.map fun x=>(fk x.1,fv x.2)
theorem aSt{fk:K->D}{fv:V->D}{S:List (K×V)}{es:List (Nat×D×D)}(h:(es.map (·.2)).Perm (ms fk fv S)):∃es':List (Nat×K×V),es=dl fk fv es'/\(es'.map (·.2)).Perm S:=by
 obtain⟨T,hT,he⟩:=HM _ h;refine⟨(es.map (·.1)).zip T,?_,?_⟩
 have hl:es.length=T.length:=by simpa using congrArg List.length he
 clear h hT;induction es generalizing T with
 |nil=>cases T with
  |nil=>rfl
  |cons a T=>cases hl
 |cons e es ih=>
  cases T with
  |nil=>cases hl
  |cons a T=>
   simp only[List.map_cons,List.cons.injEq]at he
   simp only[List.map_cons,List.zip_cons_cons,dl,List.cons.injEq]
   exact⟨by rw[<-he.1],ih T he.2 (by simpa using hl)⟩
 have hl:es.length=T.length:=by simpa using congrArg List.length he
 have:((es.map (·.1)).zip T).map (·.2)=T:=List.map_snd_zip (by simp[hl])
 rw[this];exact hT
theorem Arr.exact{P:Program}{rd:Option Nat}{root:Code}{q:List Nat}{s s':St}{e:Ex}(n:Nat){fk:K->D}{fv:V->D}{S:List (K×V)}(hl:lk s.B n=some (.mapS (ms fk fv S)))
 (h:∀(clk:Nat) (es:List (Nat×K×V)),(es.map (·.2)).Perm S->Arr P rd root q {s with B:=Bu s.B n (.map clk (dl fk fv es))} e s'):Arr P rd root q s e s':=by
 refine AC.exact hl fun clk es hp _ _=>?_
 obtain⟨es',rfl,hp'⟩:=aSt hp
 exact h clk es' hp'
theorem Arr.setm{P:Program}{rd:Option Nat}{root:Code}{q:List Nat}{s s':St}{e:Ex}(n:Nat){fk:K->D}{fv:V->D}{S:List (K×V)}{clk:Nat}{es:List (Nat×K×V)}(hp:(es.map (·.2)).Perm S)
 (hl:lk (Bu s'.B n (.map clk (dl fk fv es))) n=some (.map clk (dl fk fv es))) (hu:Bu s'.B n (.mapS (ms fk fv S))=s'.B)
 (h:Arr P rd root q s e {s' with B:=Bu s'.B n (.map clk (dl fk fv es))}):Arr P rd root q s e s':=by
 refine AC.mono h fun e1 s1 hh=>⟨hh.1,hh.2.trans ?_⟩
 have:=Wk.setm (s:={s' with B:=Bu s'.B n (.map clk (dl fk fv es))}) (S:=ms fk fv S) hl (by simpa[dl,ms,Function.comp_def]using hp.map fun x:K×V=>(fk x.1,fv x.2))
 simp only[NC,hu]at this
 exact this
end
def Rh:Code->Array Oper
 | .loop (.seq (.region _ ops _) _)=>ops
 |_=> #[]
def aQs(P:Program)(rd:Option Nat)(root:Code)(ws:List (Nat×W))(lw:List Lw)(q:List Nat)(l:List Ws)(s:St)(e:Ex)(s':St):Prop:=
 match aJj P (Rh (Ax root q)) ws ((Rh (Ax root q)).toList.drop 1) s with
 |some (Φ0,s0)=>match D0 P ws lw (1::0::q) (Ax root (1::0::q)) s0 with
  |some (Φ,e1,s1)=>match wks l s1 with
   |some s2=>Φ0.okK P (Fg P rd root) (Φ.okK P (Fg P rd root) True)/\(e1=e/\s2=s')
   |none=>False
  |none=>False
 |none=>False
theorem aQs.acn{P:Program}{rd:Option Nat}{root:Code}{ws:List (Nat×W)}{lw:List Lw}{q:List Nat}{l:List Ws}{s s':St}{e:Ex}(hm:P.follows .mixedOrders=true)
 (h:aQs P rd root ws lw q l s e s'):ACN P rd (Rh (Ax root q)) (Ax root (1::0::q)) s fun e1 s1=>e1=e/\Wk s1 s':=by
 unfold aQs at h
 split at h
 rename_i Φ0 s0 h0
 split at h
 rename_i Φ e1 s1 h1
 split at h
 rename_i s2 h2
 obtain⟨hΦ,rfl,rfl⟩:=h
 have hΦ0:=(Ob.okK_iff _ _).1 hΦ
 have hΦ1:=((Ob.okK_iff _ _).1 hΦ0.2).1
 exact ACN.run h0 hΦ0.1 ((HY hm _ _ _ _ _ _ rfl h1 hΦ1).mono fun e1 s1' hh=>⟨hh.1,by rw[hh.2];exact Kl h2⟩)
 exact h.elim
 exact h.elim
 exact h.elim
attribute [irreducible] aQs
def NH(P:Program)(rd:Option Nat)(root:Code)(q:List Nat)(s:St)(Ψ:Ex->St->Prop):Prop:=ACN P rd (Rh (Ax root q)) (Ax root (1::0::q)) s Ψ
theorem NH.wk{P:Program}{rd:Option Nat}{root:Code}{q:List Nat}{s s1 s2:St}{e:Ex}(h:NH P rd root q s fun e1 s'=>e1=e/\Wk s' s1)(hw:Wk s1 s2):NH P rd root q s fun e1 s'=>e1=e/\Wk s' s2:=
 ACN.post h fun _ _ hh=>⟨hh.1,hh.2.trans hw⟩
def aX5(x t:Nat):Code->Bool
 | .loop (.seq (.region _ ops false) _)=>match ops[0]? with
  |some o=>match o.op,o.guard,o.dst with
   | .next (.tmp y) false,none,some d=>Nat.beq y x&&Nat.beq d t
   |_,_,_=>false
  |none=>false
 |_=>false
theorem ZL{root:Code}{p:List Nat}{x t:Nat}(h:aX5 x t (Ax root p)=true):∃(i:Nat) (o:Oper),Ax root p=.loop (.seq (.region i (Rh (Ax root p)) false) (Ax root (1::0::p)))/\
 (Rh (Ax root p))[0]? =some o/\o.op=.next (.tmp x) false/\o.guard=none/\o.dst=some t:=by
 have hcd:Ax root (1::0::p)=Ax (Ax root p) [1,0]:=rfl
 rw[hcd]
 generalize Ax root p=c at h⊢
 unfold aX5 at h
 split at h
 rename_i i ops rest
 split at h
 rename_i o ho
 split at h
 rename_i y d h1 h2 h3
 simp only[ba]at h
 have e1:=Nat.eq_of_beq_eq_true h.1
 have e2:=Nat.eq_of_beq_eq_true h.2
 subst e1;subst e2
 exact⟨i,o,rfl,ho,h1,h2,h3⟩
 cases h
 cases h
 cases h
theorem FY{P:Program}{rd:Option Nat}{root:Code}(hm:P.follows .mixedOrders=true)(ws:List (Nat×W))(lw:List Lw){q:List Nat}(l:List Ws){s s':St}{e:Ex}{p:Prop}(h:p)
 (he:(p/\(e=e/\s'=s'))=aQs P rd root ws lw q l s e s'):NH P rd root q s fun e1 s1=>e1=e/\Wk s1 s':=aQs.acn (ws:=ws) (lw:=lw) (l:=l) hm (he.mp ⟨h,rfl,rfl⟩)
theorem OL{K V:Type}{fk:K->D}{fv:V->D}{clk:Nat}{es:List (Nat×K×V)}{sn:List Nat}{st:Nat}{k:K}{v:V}(h:(st,k,v)∈es):aYp clk clk (dl fk fv es) (sn++[st]) (fk k) (fv v):=
 ⟨rfl,sn,st,rfl,mm.2 ⟨_,h,rfl⟩⟩
theorem OH{P:Program}{rd:Option Nat}{root:Code}{p:List Nat}{K V σ τ:Type}{fk:K->D}{fv:V->D}(x t d n clk:Nat)(es:List (Nat×K×V)){S:List (K×V)}
 {c:σ->τ} {step:K×V->σ->Option σ} {s0:σ} {r:τ} (J:List Nat->σ->St) (O:τ->Ex×St) (hk:aX5 x t (Ax root p)=true)
 (hO:(O r).1≠ .normal)
 (hit:∀sn a,(J sn a).ev (.tmp x)=.box d 0) (h1:∀sn a,lk (J sn a).B d=some (.mit n clk sn)) (h2:∀sn a,lk (J sn a).B n=some (.map clk (dl fk fv es)))
 (hp:(es.map (·.2)).Perm S)
 (hA:∀sn a k v st a',(st,k,v)∈es->step (k,v) a=some a'->NH P rd root p ({J sn a with B:=Bu (J sn a).B d (.mit n clk (sn++[st]))}.put (some t) (.tup [bo true,.d (fk k),.d (fv v)])) fun e s1=>e=.normal/\Wk s1 (J (sn++[st]) a'))
 (hB:∀sn a,c a=r->NH P rd root p ((J sn a).put (some t) (.tup [bo false])) fun e s1=>e=(O r).1/\Wk s1 (O r).2)
 (h:F5 c S step s0=some r):Fg P rd root p (J [] s0) (O r).1 (O r).2:=by
 have hx:=N4 h
 obtain⟨i0,o,hc,ho,hop,hg,hd⟩:=ZL hk
 suffices hs:AC P rd (Ax root p) (J [] s0) fun e1 s1=>e1=(O r).1/\Wk s1 (O r).2 from
  AC.post hs fun _ _ hh=>⟨(O r).2,hh.2,hh.1,rfl⟩
 rw[hc]
 let ι:={x:List (Nat×K×V)×σ//(∃rest,(x.1++rest).Perm es)/\Ej step s0 (x.1.map (·.2))=some x.2}
 refine AC.loop (ι:=ι) (fun i=>J (i.1.1.map (·.1)) i.1.2) (fun i=>es.length-i.1.1.length) (fun _ e1 s1=>e1=(O r).1/\Wk s1 (O r).2) ?_ ⟨([],s0),⟨es,List.Perm.refl _⟩,rfl⟩
 rintro⟨⟨done,a⟩,⟨rest,hr⟩,hf⟩
 simp only at hf
 have hb:dl fk fv es=es.map fun x=>(x.1,fk x.2.1,fv x.2.2):=rfl
 have hb1:(dl fk fv es).map (·.1)=es.map (·.1):=by simp[dl,Function.comp_def]
 refine AC.next ho hop hg hd (hit _ _) (h1 _ _) (h2 _ _) ?_ ?_
 intro hn e he hns
 obtain⟨⟨st,k,v⟩,hm,rfl⟩:=mm.1 he
 simp only at hns⊢
 have hm':(st,k,v)∈rest:=by
  rcases ma.1 (hr.mem_iff.2 hm)with h|h
  exact absurd (mm.2 ⟨_,h,rfl⟩) hns;exact h
 obtain⟨r1,r2,rfl⟩:=List.append_of_mem hm'
 have hr2:((done++[(st,k,v)])++(r1++r2)).Perm es:=by refine List.Perm.trans ?_ hr;rw[List.append_assoc];exact List.Perm.append_left done (show((st,k,v)::(r1++r2)).Perm (r1++(st,k,v)::r2)from List.perm_middle.symm)
 obtain⟨a2,ha2,_⟩:=hx _ ((hr2.map (·.2)).trans hp)
 rw[List.map_append,EV,List.map_append,EV,hf]at ha2
 simp only[AJ,List.map_cons,List.map_nil,Ej]at ha2
 cases hs:step (k,v) a with
 |none=>rw[hs]at ha2;cases ha2
 |some a'=>
  refine ACN.post (hA _ a k v st a' hm hs) ?_
  rintro e1 s1 ⟨rfl,hw⟩
  refine⟨⟨(done++[(st,k,v)],a'),⟨_,hr2⟩,?_⟩,?_,?_,fun _ _ x=>x⟩
  simp only[List.map_append,EV,hf,AJ,List.map_cons,List.map_nil,Ej,hs]
  have:=hr2.length_eq
  simp only[List.length_append,List.length_cons,List.length_nil]at this⊢
  omega
  simpa only[List.map_append,List.map_cons,List.map_nil]using hw
 intro hn hall
 have hrest:rest=[]:=by
  cases rest with
  |nil=>rfl
  |cons x rest=>
   exfalso
   have hxm:x∈es:=hr.mem_iff.1 (by simp)
   have hseen:x.1∈done.map (·.1):=hall (x.1,fk x.2.1,fv x.2.2) (mm.2 ⟨x,hxm,rfl⟩)
   rw[hb1]at hn
   have hn2:=(hr.map (·.1)).nodup_iff.2 hn
   rw[List.map_append,List.nodup_append]at hn2
   exact hn2.2.2 _ hseen _ (by simp) rfl
 subst hrest
 rw[List.append_nil]at hr
 obtain⟨a2,ha2,hc2⟩:=hx _ ((hr.map (·.2)).trans hp)
 rw[hf,oe]at ha2
 subst ha2
 refine ACN.post (hB _ a hc2) ?_
 rintro e1 s1 ⟨h1,hw⟩
 subst h1
 cases he:(O r).1 with
 |normal=>exact absurd he hO
 |exit id=>exact⟨rfl,hw⟩
 |ret=>exact⟨rfl,hw⟩
end Go.Ac
namespace Go.Ac
open Go.MapKept
section
variable {K V:Type} {P:Program} {kt:TypeId} {fk:K->D} {fv:V->D}
theorem aS3(T:P9 P kt fk)(S:List (K×V)):∀x∈ms fk fv S,KOk P kt x.1:=fun x hx=>by obtain⟨y,_,rfl⟩:=mm.1 hx;exact T.ok _
variable [DecidableEq K]
def GH(k:K)(v:V):List (K×V)->List (K×V)
 |[]=> [(k,v)]
 |x::xs=>if x.1=k then(k,v)::xs else x::GH k v xs
def Nz(k:K):List (K×V)->List (K×V)
 |[]=> []
 |x::xs=>if x.1=k then xs else x::Nz k xs
theorem Kg(T:P9 P kt fk)(fv:V->D)(k:K)(v:V):∀S:List (K×V),(∃(pre:List (D×D)) (v0:D) (post:List (D×D)),ms fk fv S=pre++(fk k,v0)::post/\ms fk fv (GH k v S)=pre++(fk k,fv v)::post)\/(ms fk fv (GH k v S)=ms fk fv S++[(fk k,fv v)]/\∀x∈ms fk fv S,x.1≠fk k)
 |[]=>.inr ⟨rfl,by simp[ms]⟩
 |x::xs=>by
  rw[GH];split;rename_i h;exact .inl ⟨[],fv x.2,ms fk fv xs,by rw[<-h];rfl,rfl⟩;rename_i h;have hne:fk x.1≠fk k:=fun e=>h (T.inj _ _ e);rcases Kg T fv k v xs with⟨pre,v0,post,h1,h2⟩|⟨h1,h2⟩
  exact .inl ⟨(fk x.1,fv x.2)::pre,v0,post,by rw[List.cons_append,<-h1];rfl,by rw[List.cons_append,<-h2];rfl⟩;refine .inr ⟨by rw[ms,List.map_cons,<-ms,h1];rfl,fun y hy=>?_⟩;rcases mc.1 hy with rfl|hy
  exact hne;exact h2 y hy
theorem KT(T:P9 P kt fk)(fv:V->D)(k:K):∀S:List (K×V),(∃(pre:List (D×D)) (v0:D) (post:List (D×D)),ms fk fv S=pre++(fk k,v0)::post/\ms fk fv (Nz k S)=pre++post)\/(ms fk fv (Nz k S)=ms fk fv S/\∀x∈ms fk fv S,x.1≠fk k)
 |[]=>.inr ⟨rfl,by simp[ms]⟩
 |x::xs=>by
  rw[Nz];split;rename_i h;exact .inl ⟨[],fv x.2,ms fk fv xs,by rw[<-h];rfl,rfl⟩;rename_i h;have hne:fk x.1≠fk k:=fun e=>h (T.inj _ _ e);rcases KT T fv k xs with⟨pre,v0,post,h1,h2⟩|⟨h1,h2⟩
  exact .inl ⟨(fk x.1,fv x.2)::pre,v0,post,by rw[List.cons_append,<-h1];rfl,by rw[List.cons_append,<-h2];rfl⟩;refine .inr ⟨by rw[ms,List.map_cons,<-ms,h1];rfl,fun y hy=>?_⟩;rcases mc.1 hy with rfl|hy
  exact hne;exact h2 y hy
theorem OT(T:P9 P kt fk)(fv:V->D)(S:List (K×V))(k:K)(v:V):R1 P kt (ms fk fv S) (fk k) (fv v) (ms fk fv (GH k v S)):=⟨aS3 T S,T.ok k,Kg T fv k v S⟩
theorem aPo(T:P9 P kt fk)(fv:V->D)(S:List (K×V))(k:K):aMc P kt (ms fk fv S) (fk k) (ms fk fv (Nz k S)):=⟨aS3 T S,T.ok k,KT T fv k S⟩
end
section
variable {α:Type}
def Mc(le:α->α->Bool)(x:α):List α->List α
 |[]=> [x]
 |y::l=>match le x y with
  |true=>x::y::l
  |false=>y::Mc le x l
def M3(le:α->α->Bool):List α->List α
 |[]=> []
 |x::l=>Mc le x (M3 le l)
theorem G4(le:α->α->Bool)(x:α):∀l,(Mc le x l).Perm (x::l)
 |[]=>List.Perm.refl _
 |y::l=>by
  rw[Mc];split;exact List.Perm.refl _;exact((G4 le x l).cons y).trans (List.Perm.swap x y l)
theorem Fu(le:α->α->Bool):∀l,(M3 le l).Perm l
 |[]=>List.Perm.refl _
 |x::l=>(G4 le x _).trans ((Fu le l).cons x)
def aJ5{V:Type}(S:List (Int×V)):List (Int×V):=M3 (fun a b=>decide (a.1<=b.1)) S
def aKo(xs:List Int):List Int:=M3 (fun a b=>decide (a<=b)) xs
theorem F7{V:Type}(S:List (Int×V)):(aJ5 S).Perm S:=Fu _ S
theorem EN(xs:List Int):(aKo xs).Perm xs:=Fu _ xs
theorem Wk.canS{V:Type}{s s':St}(n:Nat){fk:Int->D}{fv:V->D}{S:List (Int×V)}(hl:lk s.B n=some (.mapS (ms fk fv S)))(hs:{s with B:=Bu s.B n (.mapS (ms fk fv (aJ5 S)))}=s'):Wk s s':=
 hs▸Wk.permS hl ((F7 S).symm.map _)
theorem Wk.canB{α:Type}{s s':St}(n:Nat){e k:Nat}{fd:α->D}{xs ys:List α}(hp:xs.Perm ys)(hl:lk s.B n=some (.rw e k (xs.map fd)))(hs:{s with B:=Bu s.B n (.bag e k (ys.map fd))}=s'):Wk s s':=
 hs▸Wk.bagw hl (hp.map _)
end
theorem AL.bag{α:Type}{P:Program}{f:FuncId}{e k:Nat}{fd:α->D}{xs:List α}{r:A}{X':Bx}(h:∀ys:List α,ys.Perm xs->AL P f [.row 0] [(0,.rw e k (ys.map fd))] r X'):AL P f [.row 0] [(0,.bag e k (xs.map fd))] r X':=by intro hh w val vs H hr;obtain⟨ys,us,hp,h1,h2,h3⟩:=H.rep _ (List.mem_singleton.2 rfl);obtain⟨zs,hz,rfl⟩:=HM _ hp;refine h zs hz hh w val vs ⟨fun p hp=>?_,H.nms,H.bks⟩ hr;rw[List.mem_singleton.1 hp];exact⟨us,h1,h2,h3⟩
theorem AL.bagE{α τ:Type}{P:Program}{f:FuncId}{e k:Nat}{fd:α->D}{xs:List α}{F:List α->Option τ}{R:τ->A}{X':τ->Bx}(hF:∀(ys:List α) (r:τ),F ys=some r->AL P f [.row 0] [(0,.rw e k (ys.map fd))] (R r) (X' r))(r:τ)(h:Ac.bagE F xs=some r):AL P f [.row 0] [(0,.bag e k (xs.map fd))] (R r) (X' r):=
 AL.bag fun ys hp=>hF ys r (XZ h ys hp)
end Go.Ac
namespace Go.Ac
open Go.Proofs Go.Shelf Go.RowKit Go.Lib Go.Sort
theorem Lz{h:Hw}{w:World}{k:IntKind}:∀{xs:List Int} {us:List Value},Am h w 1 (xs.map (D.i k)) us->us=xs.map (Value.int k)
 |[],us,hr=>by simpa only[List.map_nil,Am]using hr
 |x::xs,us,hr=>by
  simp only[List.map_cons,Am,D.i]at hr;obtain⟨u,us',rfl,_,_,hd,_,hr'⟩:=hr;simp only[RD]at hd;obtain⟨rfl,_⟩:=hd;rw[Lz hr'];rfl
theorem Md{h:Hw}{w:World}{k:IntKind}:∀(xs:List Int),Am h w 1 (xs.map (D.i k)) (xs.map (Value.int k))
 |[]=>by simp only[List.map_nil,Am]
 |x::xs=>by
  simp only[List.map_cons,Am,D.i];exact⟨.int k x,xs.map (Value.int k),rfl,rfl,rfl,by simp only[RD];exact⟨trivial,rfl⟩,by simp[Value.cells,Value.oneCell'],Md xs⟩
def cpE(xs:List Int):List Int:=compactUpTo xs.toArray xs.length
theorem J1{α:Type} [Inhabited α] [DecidableEq α](d:Array α)(m:Nat):(compactUpTo d m).length<=m:=by unfold compactUpTo;rw[List.length_map];exact Nat.le_trans (List.length_filter_le _ _) (by simp)
section
variable {P:Program} {ρ:Ren}
set_option maxHeartbeats 4000000 in
set_option maxRecDepth 1000000 in
theorem aSr(L:SlLaysE.n43 P ρ)(w:World):Calls P (ρ.f 43) #[.slice none 0 0] w fun e w'=>e=.returned (.slice none 0 0)/\w'=w:=by have mixed:=L.mixed;have t0:=L.t0;have a0:=L.a0;have z0:=L.z0;have v0:=L.v0;have t3:=L.t3;have a3:=L.a3;have z3:=L.z3;have v3:=L.v3;have t4:=L.t4;have a4:=L.a4;have z4:=L.z4;have v4:=L.v4;have t22:=L.t22;have a22:=L.a22;have z22:=L.z22;have v22:=L.v22;have a23:=L.a23;have z23:=L.z23;obtain⟨_,_,FG⟩:=L.f43;go_enter FG,SlBodyN.n43_ntmps ρ;go_wp2;all_goals (go_ret;exact⟨rfl,rfl⟩)
theorem aBk{k:IntKind}(L:SlLaysE.n43 P ρ)(v23:∀w,(zeroValue (ρ.t 23)).run P w=.ok (.int k 0) w)(xs:List Int):
 AL P (ρ.f 43) [.row 0] [(0,.rw (ρ.t 23) 1 (xs.map (D.i k)))] (.row 1) [(1,.rw (ρ.t 23) 1 ((cpE xs).map (D.i k)))]:=by
 intro h w val vs hI hA
 simp only[RAs,RA]at hA
 obtain⟨u,_,rfl,⟨hu,_⟩,rfl⟩:=hA
 obtain⟨us,hown,hrow,hh⟩:=hI.rep (0,.rw (ρ.t 23) 1 (xs.map (D.i k))) (by simp)
 have hus:=Lz hrow
 simp only at hown
 subst hu
 rw[List.length_map]at hown
 have hM:∀g,(val 0).ownBlock=some g->g∈Ae val [(0,Bk.rw (ρ.t 23) 1 (xs.map (D.i k)))]:=by intro g hg;simp[Ae,Ai,Bk.isOld,C7 hown,hg]
 have hgo:∀v' w',w'.ownsRow 0 (ρ.t 23) 1 v' ((cpE xs).map (D.i k)).length ((cpE xs).map (Value.int k))->v'.ownBlock=(val 0).ownBlock->w.grownBy w' (val 0).ownBlock->
  ∃h' val' u,Ending.returned v'=.returned u/\Inv h' w' val' [(1,.rw (ρ.t 23) 1 ((cpE xs).map (D.i k)))]/\RA h' w' val' (.row 1) u/\Cf (Ae val [(0,.rw (ρ.t 23) 1 (xs.map (D.i k)))]) h w h' w'/\
  (∀n,(n∈AP [(1,Bk.rw (ρ.t 23) 1 ((cpE xs).map (D.i k)))]->n∈AP [(0,Bk.rw (ρ.t 23) 1 (xs.map (D.i k)))])->val' n=val n)/\∀b∈Ae val' [(1,.rw (ρ.t 23) 1 ((cpE xs).map (D.i k)))],b∈Ae val [(0,.rw (ρ.t 23) 1 (xs.map (D.i k)))]\/w.heap.size<=b:=
  fun v' w' h1 h2 h3=>Em (by simp[AP]) hh hM h1 (Md _) (fun g hg=>.inl (by rw[<-h2];exact hg)) h3
 rw[hus]at hown
 by_cases hv:val 0=.slice none 0 0
 have hx:xs=[]:=by
  rcases hown.2 with⟨_,h0⟩|⟨g,cap,cur,e1,_⟩
  exact List.eq_nil_of_length_eq_zero h0;rw[hv]at e1;cases e1
 subst hx
 rw[hv]at hown hgo⊢
 refine(aSr L w).mono ?_
 rintro ex w' ⟨rfl,rfl⟩
 exact hgo _ _ hown rfl ⟨rfl,rfl,rfl,Nat.le_refl _,fun _ _ _=>rfl⟩
 obtain⟨g,cap,e1,_,hgl,hn,hc,_,hH⟩:=holds_of_ownsRow hown hv
 rw[e1]at hown hgo⊢
 have hc':=AnyE.slices_Compact L (Value.int k) (fun _=>rfl) (EqlAt.intD P _ k) (NeqAt.intD P _ k) 0 v23 g 0 cap xs.toArray w hH (by simp;exact Nat.le_trans (Nat.le_trans hn hc) (by decide)) (by simpa using hn)
 simp only[List.size_toArray]at hc'
 refine hc'.mono ?_
 rintro ex w' ⟨rfl,q,rfl⟩
 have hle:(cpE xs).length<=xs.length:=J1 _ _
 have ho:=ownsRow_putRow (q:=q) (k:=(cpE xs).length) (ys:=cpE xs++List.replicate (xs.length-(cpE xs).length) 0) hown (by simp;omega) hle
 rw[List.take_left]at ho
 refine hgo _ _ (by rw[List.length_map];exact ho) rfl ⟨rfl,rfl,rfl,by simp[Sort.ahead],fun b hb hne=>?_⟩
 have:g≠b:=fun e=>hne (by rw[e];rfl)
 simp[putRow,mapBlock,Sort.ahead,Array.getElem?_modify,this]
end
theorem aJo{P:Program}{ρ:Ren}{k:IntKind}(mixed:P.follows .mixedOrders=true)(FB:Bears P (ρ.f 43) (SlBodyN.n43 ρ))(t0:P.underlying (ρ.t 0)=some (.tuple #[]))(t3:P.underlying (ρ.t 3)=some (.int .i64))(t4:P.underlying (ρ.t 4)=some .bool)
 (t22:P.underlying (ρ.t 22)=some (.slice (ρ.t 23))) (t23:P.underlying (ρ.t 23)=some (.int k))
 (z0:(P.info? (ρ.t 0)).map (·.size)=some 1) (z3:(P.info? (ρ.t 3)).map (·.size)=some 1) (z4:(P.info? (ρ.t 4)).map (·.size)=some 1) (z22:(P.info? (ρ.t 22)).map (·.size)=some 1) (z23:(P.info? (ρ.t 23)).map (·.size)=some 1)
 (v0:(P.info? (ρ.t 0)).map (·.zero)=some (some (.tuple #[]))) (v3:(P.info? (ρ.t 3)).map (·.zero)=some (some (.int .i64 0))) (v4:(P.info? (ρ.t 4)).map (·.zero)=some (some (.bool false))) (v22:(P.info? (ρ.t 22)).map (·.zero)=some (some (.slice none 0 0))):SlLaysE.n43 P ρ:=
 ⟨mixed,FB,t0,fun w=>Aj (by simp[Cc,t0]) w,CV z0,Dx v0,t3,fun w=>Aj (by simp[Cc,t3]) w,CV z3,Dx v3,t4,fun w=>Aj (by simp[Cc,t4]) w,CV z4,Dx v4,
  t22,fun w=>Aj (by simp[Cc,t22]) w,CV z22,Dx v22,fun w=>Aj (by simp[Cc,t23]) w,CV z23⟩
def LO(xs:List Int):Option (List Int):=some (cpE xs)
theorem Nw{P:Program}{ρ:Ren}{e:TypeId}{fi:Nat}{k:IntKind}(hfi:ρ.f 43=fi)(he:ρ.t 23=e)(L:SlLaysE.n43 P ρ)(v23:(P.info? (ρ.t 23)).map (·.zero)=some (some (.int k 0)))(l r:List Int)(h:LO l=some r):
 AL P fi [.row 0] [(0,.rw e 1 (l.map (D.i k)))] (.row 1) [(1,.rw e 1 (r.map (D.i k)))]:=by
 obtain rfl:=Option.some.inj h
 subst hfi;subst he
 exact aBk L (Dx v23) l
end Go.Ac
namespace Go.Ac
section
variable {α β σ τ:Type}
def Lt(body:Nat->β->α->β⊕τ)(fin:β->τ):Nat->List α->β->τ
 |_,[],w=>fin w
 |i,x::xs,w=>match body i w x with
  | .inl w'=>Lt body fin (i+1) xs w'
  | .inr t=>t
theorem E7{step:σ->Option (σ⊕τ)}(l:List α)(mk:Nat->β->σ)(body:Nat->β->α->β⊕τ)(fin:β->τ)(I:Nat->β->Prop)
 (h1:∀i x w,l[i]? =some x->I i w->step (mk i w)=some (match body i w x with| .inl w'=>.inl (mk (i+1) w')| .inr t=>.inr t)/\∀w',body i w x=.inl w'->I (i+1) w')
 (h2:∀w,I l.length w->step (mk l.length w)=some (.inr (fin w))):∀(n i:Nat) (w:β),l.length-i<n->i<=l.length->I i w->AQ step (mk i w)=some (Lt body fin i (l.drop i) w):=by
 intro n
 induction n with
 |zero=>intro i w h;omega
 |succ n ih=>
  intro i w hn hi hI
  rw[Al]
  by_cases he:i=l.length
  subst he
  rw[h2 w hI,Ad,List.drop_length]
  rfl
  obtain⟨x,hx,hd⟩:=AZ (l:=l) (i:=i) (by omega)
  obtain⟨a1,a2⟩:=h1 i x w hx hI
  rw[a1,hd,Lt]
  cases hb:body i w x with
  |inl w'=>simp only[BF];exact ih (i+1) w' (by omega) (by omega) (a2 w' hb)
  |inr t=>simp only[Ad]
theorem aJ9{step:Int->Option (Int⊕τ)}(l:List α)(p:α->Bool)(t f:τ)
 (h1:∀(i:Nat) x,l[i]? =some x->step i=some (if p x=true then .inl ((i+1:Nat):Int)else .inr f)) (h2:step l.length=some (.inr t)) (i:Nat) (hi:i<=l.length):
 AQ step i=some (if(l.drop i).all p=true then t else f):=by
 rw[E7 l (fun i (_:Unit)=>(i:Int)) (fun _ _ x=>if p x=true then .inl ()else .inr f) (fun _=>t) (fun _ _=>True) (fun i x w hx _=>⟨by rw[h1 i x hx];cases p x<;>rfl,fun _ _=>trivial⟩) (fun _ _=>h2) (l.length-i+1) i () (by omega) hi trivial]
 congr 1
 generalize l.drop i=l'
 clear h1 h2 hi
 revert i
 induction l' with
 |nil=>intro i;rfl
 |cons x xs ih=>
  intro i
  rw[Lt,List.all_cons]
  cases hp:p x with
  |true=>simp only[if_true,Bool.true_and];exact ih (i+1)
  |false=>simp
theorem Jb{step:Int->Option (Int⊕τ)}(l:List α)(p:α->Bool)(t f:τ)
 (h1:∀(i:Nat) x,l[i]? =some x->step i=some (if p x=true then .inl ((i+1:Nat):Int)else .inr f)) (h2:step l.length=some (.inr t)):
 AQ step 0=some (if l.all p=true then t else f):=by
 have h:=aJ9 l p t f h1 h2 0 (by omega)
 rw[List.drop_zero]at h
 exact h
def Ez(g:Nat->α->Option τ):Nat->Unit->α->Unit⊕τ:=fun i _ x=>match g i x with
 |none=>.inl ()
 |some t=>.inr t
theorem DG{step:Int->Option (Int⊕τ)}(l:List α)(g:Nat->α->Option τ)(t:τ)
 (h1:∀(i:Nat) x,l[i]? =some x->step i=some (match g i x with|none=>.inl ((i+1:Nat):Int)|some t=>.inr t)) (h2:step l.length=some (.inr t)):
 AQ step 0=some (Lt (Ez g) (fun _=>t) 0 l ()):=
 E7 l (fun i (_:Unit)=>(i:Int)) (Ez g) (fun _=>t) (fun _ _=>True)
  (fun i x w hx _=>⟨by rw[h1 i x hx];unfold Ez;cases g i x<;>rfl,fun _ _=>trivial⟩) (fun _ _=>h2) (l.length+1) 0 () (by omega) (by omega) trivial
theorem Dh(g:α->Option τ)(t:τ):∀(l:List α) (i:Nat),Lt (Ez fun _=>g) (fun _=>t) i l ()=(l.findSome? g).getD t
 |[],i=>rfl
 |x::xs,i=>by
  rw[Lt,List.findSome?_cons];cases hg:g x with
  |none=>
   have e:Ez (fun _=>g) i () x=.inl ():=by simp[Ez,hg]
   rw[e];exact Dh g t xs (i+1)
  |some y=>
   have e:Ez (fun _=>g) i () x=.inr y:=by simp[Ez,hg]
   rw[e];rfl
theorem HA(p:α->Bool):∀(l:List α) (i:Nat),Lt (Ez fun i x=>if p x=true then some (Sum.inr (i:Int):Unit⊕Int)else none) (fun _=>.inl ()) i l ()=if l.any p=true then .inr ((i+l.findIdx p:Nat):Int)else .inl ()
 |[],i=>rfl
 |x::xs,i=>by
  have ih:=HA p xs (i+1);rw[Lt,List.any_cons,List.findIdx_cons];cases hp:p x with
  |true=>simp[Ez,hp]
  |false=>
   have e:Ez (fun i x=>if p x=true then some (Sum.inr (i:Int):Unit⊕Int)else none) i () x=.inl ():=by simp[Ez,hp]
   rw[e]
   simp only[Bool.false_or,cond_false]
   rw[ih,Nat.add_assoc,Nat.add_comm 1]
theorem Dt{step:Int->Option (Int⊕(Unit⊕Int))}(l:List α)(p:α->Bool)
 (h1:∀(i:Nat) x,l[i]? =some x->step i=some (if p x=true then .inr (.inr (i:Int))else .inl ((i+1:Nat):Int))) (h2:step l.length=some (.inr (.inl ()))):
 AQ step 0=some (if l.any p=true then .inr ((l.findIdx p:Nat):Int)else .inl ()):=by
 rw[DG l (fun i x=>if p x=true then some (Sum.inr (i:Int):Unit⊕Int)else none) (.inl ()) (fun i x hx=>by rw[h1 i x hx];cases p x<;>rfl) h2,HA,Nat.zero_add]
theorem Ci{step:Int×β->Option (Int×β⊕τ)}(l:List α)(f:β->α->β)(fin:β->τ)(I:Nat->β->Prop)
 (h1:∀(i:Nat) x w,l[i]? =some x->I i w->step (i,w)=some (.inl (((i+1:Nat):Int),f w x))/\I (i+1) (f w x))
 (h2:∀w,I l.length w->step (l.length,w)=some (.inr (fin w))) (w:β) (h0:I 0 w):AQ step (0,w)=some (fin (l.foldl f w)):=by
 have h:=E7 (step:=step) l (fun i w=>((i:Int),w)) (fun _ w x=>(.inl (f w x):β⊕τ)) fin I (fun i x w hx hI=>⟨(h1 i x w hx hI).1,fun w' hw=>by cases hw;exact(h1 i x w hx hI).2⟩) h2 (l.length+1) 0 w (by omega) (by omega) h0
 rw[show((0:Int),w)=(((0:Nat):Int),w)from rfl,h,List.drop_zero]
 congr 1
 clear h h1 h2 h0
 generalize 0=i
 revert i w
 induction l with
 |nil=>intro w i;rfl
 |cons x xs ih=>intro w i;rw[Lt];exact ih _ _
theorem HJ(p:α->Bool):∀(l:List α) (w:List α),l.foldl (fun w x=>if p x=true then w++[x]else w) w=w++l.filter p
 |[],w=>by simp
 |x::xs,w=>by
  rw[List.foldl_cons,HJ p xs,List.filter_cons];cases p x<;>simp
theorem aQq{a:List α}{b:List β}{i:Nat}{z:α×β}(h:(a.zip b)[i]? =some z):a[i]? =some z.1/\b[i]? =some z.2:=by rw[List.getElem?_zip_eq_some]at h;exact h
theorem aP1(a b:Nat):decide ((a:Int)=(b:Int))=decide (a=b):=by
 by_cases h:a=b;simp[h];have:¬(a:Int)=(b:Int):=by omega
 simp[h,this]
end
theorem ZJ{τ:Type}{step:Int->Option (Int⊕τ)}(n i0:Nat)(P:Nat->Prop)(Q:τ->Prop)(hi:i0<=n)
 (h1:∀i:Nat,i0<=i->i<n->(step i=some (.inl ((i+1:Nat):Int))/\P i)\/∃t,step i=some (.inr t)/\Q t)
 (h2:(∀j,i0<=j->j<n->P j)->∃t,step n=some (.inr t)/\Q t):∃t,AQ step i0=some t/\Q t:=by
 refine BC (fun s=>∃i:Nat,s=(i:Int)/\i0<=i/\i<=n/\∀j,i0<=j->j<i->P j) (fun s=>(n-s).toNat) Q ?_ (i0:Int) ⟨i0,rfl,Nat.le_refl _,hi,fun j a b=>by omega⟩
 rintro s ⟨i,rfl,a,b,c⟩
 by_cases he:i=n
 subst he
 exact .inl (h2 c)
 rcases h1 i a (by omega)with⟨d,e⟩|d
 refine .inr ⟨_,d,⟨i+1,rfl,by omega,by omega,fun j f g=>?_⟩,by omega⟩
 rcases Nat.lt_or_ge j i with h|h
 exact c j f h
 have:j=i:=by omega
 subst this;exact e
 exact .inl d
theorem An{τ:Type}{step:Int->Option (Int⊕τ)}(n:Nat)(P:Nat->Prop)(Q:τ->Prop)
 (h1:∀i:Nat,i<n->(step i=some (.inl ((i+1:Nat):Int))/\P i)\/∃t,step i=some (.inr t)/\Q t)
 (h2:(∀j,j<n->P j)->∃t,step n=some (.inr t)/\Q t):∃t,AQ step 0=some t/\Q t:=
 ZJ (step:=step) n 0 P Q (Nat.zero_le _) (fun i _ hi=>h1 i hi) (fun h=>h2 fun j hj=>h j (Nat.zero_le _) hj)
section
variable {α β:Type} {Q:β->Prop} {a b:Option β}
theorem BT{p:Prop} [Decidable p](h1:p->∃r,a=some r/\Q r)(h2:¬p->∃r,b=some r/\Q r):∃r,AE (decide p) a b=some r/\Q r:=by by_cases h:p;simpa[AE,h]using h1 h;simpa[AE,h]using h2 h
theorem Df{p:Prop} [Decidable p](h1:¬p->∃r,a=some r/\Q r)(h2:p->∃r,b=some r/\Q r):∃r,AE (!decide p) a b=some r/\Q r:=by by_cases h:p;simpa[AE,h]using h2 h;simpa[AE,h]using h1 h
theorem Pa{c:Bool}(h1:c=true->∃r,a=some r/\Q r)(h2:c=false->∃r,b=some r/\Q r):∃r,AE c a b=some r/\Q r:=by cases c;exact h2 rfl;exact h1 rfl
theorem Ep{c:Bool}(h1:c=false->∃r,a=some r/\Q r)(h2:c=true->∃r,b=some r/\Q r):∃r,AE (!c) a b=some r/\Q r:=by cases c;exact h1 rfl;exact h2 rfl
theorem BY{e:Option α}{x:α}{k:α->Option β}(h:e=some x)(hk:∃r,k x=some r/\Q r):∃r,AJ e k=some r/\Q r:=by rw[h];exact hk
theorem Kk{e:Option β}(h:∃r,e=some r/\True):∃r,e=some r:=by obtain⟨r,h,_⟩:=h;exact⟨r,h⟩
end
theorem Ag{α:Type}{n:Nat}{l:List α}{x:α}(h:l[n]? =some x)(hl:l.length<=9223372036854775807):AA .add .i64 (n:Int) 1=((n+1:Nat):Int):=by have:=(List.getElem?_eq_some_iff.1 h).1;exact M5 (by omega)
theorem ltD{α:Type}{n:Nat}{l:List α}{x:α}(h:l[n]? =some x):decide ((n:Int)<(l.length:Int))=true:=by have:=(List.getElem?_eq_some_iff.1 h).1;simp;omega
theorem ltI(n:Nat):decide ((n:Int)<(n:Int))=false:=by simp
theorem Dj{β:Type}(p:Prop) [Decidable p](a b:Option β):AE (decide p) a b=if p then a else b:=by by_cases h:p<;>simp[h,AE]
theorem DX{α:Type}{n:Nat}{l:List α}{x:α}(h:l[n]? =some x):n<l.length:=(List.getElem?_eq_some_iff.1 h).1
end Go.Ac
namespace Go.Ac
end Go.Ac
namespace Go.Ac
open Go.ChangeShapes Go.WideShapes Go.ChangeAt Go.RowKit

def hOf(w:World):Hw:=fun b=>match w.heap[b]? with
 |some (.cells cs _ _)=>cs.size
 |_=>0
theorem aSw{w:World}{a:Addr}{v:Value}(h:w.cell? a=some v):a.off<hOf w a.block:=by
 have hs:=MF h;obtain⟨b,o,sp⟩:=a;simp only at hs;subst hs;unfold World.cell? at h;unfold hOf;simp only at h⊢;cases hb:w.heap[b]? with
 |none=>simp[hb]at h
 |some ob=>
  cases ob with
  |cells cs t fr=>
   simp[hb]at h
   exact(Array.getElem?_eq_some_iff.1 h).1
  |_=>simp[hb]at h
def CS{α:Type}(P:Program)(t:TypeId)(f:α->D)(R:α->Prop):Prop:=
 ∀{H:Type} (enc:TypeId×Value->H) (w:World) (sp:Nat->Bool) (held:Bool) (fuel:Nat) (cs:List Value) (x:DataW H×List MemPlace),DataW.trod enc P w 0 sp held fuel t cs=some x->
  ∃v:α,RDs (hOf w) w (f v).cells cs/\R v
theorem BH{P:Program}{t:TypeId}{k:IntKind}(ht:P.underlying t=some (.int k)):CS P t (D.i k) (fun n=>(Lit.int k n).wf=true):=by
 intro H enc w sp held fuel cs x h;cases fuel with
 |zero=>simp[DataW.trod]at h
 |succ fuel=>
  unfold DataW.trod at h
  rw[ht]at h
  match cs,h with
  |[.int k' n],h=>
   simp only at h
   split at h
   rename_i hc
   obtain⟨rfl,hw⟩:=hc
   exact⟨n,by simp only[D.i,D.cells,RDs,RD];exact⟨_,[],rfl,⟨rfl,rfl⟩,rfl,rfl⟩,hw⟩
   cases h
theorem FX{P:Program}{t:TypeId}(ht:P.underlying t=some .bool):CS P t D.b (fun _=>True):=by
 intro H enc w sp held fuel cs x h;cases fuel with
 |zero=>simp[DataW.trod]at h
 |succ fuel=>
  unfold DataW.trod at h
  rw[ht]at h
  match cs,h with
  |[.bool b],h=>exact⟨b,by simp only[D.b,D.cells,RDs,RD];exact⟨_,[],rfl,⟨rfl,rfl⟩,rfl,rfl⟩,trivial⟩
theorem DT{P:Program}{t:TypeId}(ht:P.underlying t=some .string):CS P t D.s (fun l=>l.length<=9223372036854775807):=by
 intro H enc w sp held fuel cs x h;cases fuel with
 |zero=>simp[DataW.trod]at h
 |succ fuel=>
  unfold DataW.trod at h
  rw[ht]at h
  match cs,h with
  |[.string s],h=>
   simp only at h
   split at h
   rename_i hc
   exact⟨s.data.toList,by simp only[D.s,D.cells,RDs,RD];exact⟨_,[],rfl,⟨rfl,rfl⟩,rfl,rfl⟩,by simpa[maxLen]using hc⟩
   cases h
theorem AV{h:Hw}{w:World}{A B:List D}{cs:List Value}{o k:Nat}(h1:RDs h w A ((cs.drop o).take k))(h2:RDs h w B (cs.drop (o+k))):RDs h w (A++B) (cs.drop o):=by have:=RDs.append h1 h2;rwa [<-List.drop_drop,List.take_append_drop]at this
theorem Jq{H:Type}{enc:TypeId×Value->H}{P:Program}{w:World}{sp:Nat->Bool}{held:Bool}{fuel:Nat}{cs:List Value}:∀{l:List Field} {xs:List (DataW H×List MemPlace)},
 l.mapM (fun f=>DataW.trod enc P w 0 sp held fuel f.type ((cs.drop f.offset).take (P.cellsOf f.type)))=some xs->∀f∈l,∃x,DataW.trod enc P w 0 sp held fuel f.type ((cs.drop f.offset).take (P.cellsOf f.type))=some x
 |[],xs,_,f,hf=>by cases hf
 |g::l,xs,h,f,hf=>by
  simp only[List.mapM_cons]at h;cases h1:DataW.trod enc P w 0 sp held fuel g.type ((cs.drop g.offset).take (P.cellsOf g.type))with
  |none=>simp[h1]at h
  |some y=>
   rcases mc.1 hf with rfl|hf
   exact⟨y,h1⟩
   cases h2:l.mapM (fun f=>DataW.trod enc P w 0 sp held fuel f.type ((cs.drop f.offset).take (P.cellsOf f.type)))with
   |none=>simp[h1,h2]at h
   |some ys=>exact Jq h2 f hf
theorem BU{P:Program}{t:TypeId}{fs:Array Field}{n:Nat}{α:Type}{f:α->D}{R:α->Prop}(ht:P.underlying t=some (.struct fs))(hn:P.cellsOf t=n)
 (key:∀{H:Type} (enc:TypeId×Value->H) (w:World) (sp:Nat->Bool) (held:Bool) (fuel:Nat) (cs:List Value),cs.length=n->
  (∀g∈fs.toList,∃x,DataW.trod enc P w 0 sp held fuel g.type ((cs.drop g.offset).take (P.cellsOf g.type))=some x)->∃v:α,RDs (hOf w) w (f v).cells cs/\R v):CS P t f R:=by
 intro H enc w sp held fuel cs x h
 cases fuel with
 |zero=>simp[DataW.trod]at h
 |succ fuel=>
  unfold DataW.trod at h
  rw[ht]at h
  simp only at h
  split at h
  rename_i hc
  simp only[om]at h
  obtain⟨xs,hx,_⟩:=h
  exact key enc w sp held fuel cs (by rw[hc,hn]) (Jq hx)
  cases h

theorem RU{w:World}{a:Addr}{n:Nat}{cs:List Value}(h:w.cells? 0 a n=some cs):cs.length=n/\∀j v,cs[j]? =some v->w.cell? (a.add j)=some v:=by
 unfold World.cells? at h;simp only[Nat.zero_le,if_true]at h;have key:∀(l:List Nat) (cs:List Value),l.mapM (fun i=>w.cell? (a.add i))=some cs->cs.length=l.length/\∀(j i:Nat) (v:Value),l[j]? =some i->cs[j]? =some v->w.cell? (a.add i)=some v:=by
  intro l;induction l with
  |nil=>intro cs h;simp at h;subst h;simp
  |cons x l ih=>
   intro cs h
   simp only[List.mapM_cons]at h
   cases h1:w.cell? (a.add x)with
   |none=>simp[h1]at h
   |some y=>
    cases h2:l.mapM (fun i=>w.cell? (a.add i))with
    |none=>simp[h1,h2]at h
    |some ys=>
     simp[h1,h2]at h
     subst h
     obtain⟨g1,g2⟩:=ih ys h2
     refine⟨by simp[g1],fun j i v hj hv=>?_⟩
     cases j with
     |zero=>simp at hj hv;subst hj;subst hv;exact h1
     |succ j=>exact g2 j i v (by simpa using hj) (by simpa using hv)
 obtain⟨h1,h2⟩:=key _ _ h;rw[List.length_range]at h1;refine⟨h1,fun j v hj=>h2 j j v ?_ hj⟩;have:j<n:=by rw[<-h1];exact(List.getElem?_eq_some_iff.1 hj).1
 rw[List.getElem?_range this]
theorem Nv{h:Hw}{w:World}{x:D}{cs:List Value}(hr:RDs h w x.cells cs):∃u:Value,u.cells.toList=cs/\RD h w x u:=by
 cases x with
 |agg l=>
  refine⟨.agg ⟨cs⟩,rfl,?_⟩
  simp only[RD]
  exact⟨cs,rfl,hr⟩
 |v x=>
  simp only[D.cells,RDs]at hr
  obtain⟨u,us',rfl,h1,h2,rfl⟩:=hr
  have hc:u.cells= #[u]:=by cases u<;>first|rfl|(simp[Value.oneCell']at h2)
  exact⟨u,by rw[hc],h1⟩
 |sl xs=>
  simp only[D.cells,RDs]at hr
  obtain⟨u,us',rfl,h1,h2,rfl⟩:=hr
  have hc:u.cells= #[u]:=by cases u<;>first|rfl|(simp[Value.oneCell']at h2)
  exact⟨u,by rw[hc],h1⟩
 |ptr xs=>
  simp only[D.cells,RDs]at hr
  obtain⟨u,us',rfl,h1,h2,rfl⟩:=hr
  have hc:u.cells= #[u]:=by cases u<;>first|rfl|(simp[Value.oneCell']at h2)
  exact⟨u,by rw[hc],h1⟩
theorem B1{P:Program}{t e:TypeId}{α:Type}{f:α->D}{R:α->Prop}{k:Nat} [hk:Dp f k](ht:P.underlying t=some (.slice e))(hc:P.cellsOf e=k)(he:CS P e f R):
 CS P t (D.l f) (fun l=>l.length<=9223372036854775807/\∀x∈l,R x):=by
 intro H enc w sp held fuel cs x h
 cases fuel with
 |zero=>simp[DataW.trod]at h
 |succ fuel=>
  unfold DataW.trod at h
  rw[ht]at h
  match cs,h with
  |[.slice none 0 0],_=>
   exact⟨[],by simp only[D.l,List.map_nil,D.cells,RDs];exact⟨_,[],rfl,KB _ _,rfl,rfl⟩,by simp⟩
  |[.slice (some a) len cap],h=>
   simp only at h
   split at h
   rename_i hh
   simp only[Option.bind_eq_some_iff]at h
   obtain⟨elems,hel,_⟩:=h
   have key:∀(n:Nat) (ys:List (DataW H×List MemPlace)),(List.range n).mapM (fun i=>(w.cells? 0 (a.add (i*P.cellsOf e)) (P.cellsOf e)).bind (DataW.trod enc P w 0 sp held fuel e))=some ys->
    ∃(vs:List α) (us:List Value),vs.length=n/\Am (hOf w) w k (vs.map f) us/\(∀x∈vs,R x)/\∀j v,us[j]? =some v->w.cell? (a.add j)=some v:=by
    intro n
    induction n with
    |zero=>intro ys _;exact⟨[],[],rfl,by simp[Am],by simp,by simp⟩
    |succ n ih=>
     intro ys h
     rw[List.range_succ,List.mapM_append]at h
     cases h1:(List.range n).mapM (fun i=>(w.cells? 0 (a.add (i*P.cellsOf e)) (P.cellsOf e)).bind (DataW.trod enc P w 0 sp held fuel e))with
     |none=>simp[h1]at h
     |some zs=>
      obtain⟨vs,us,g1,g2,g3,g4⟩:=ih zs h1
      cases h2:w.cells? 0 (a.add (n*P.cellsOf e)) (P.cellsOf e)with
      |none=>simp[h1,h2]at h
      |some cs'=>
       cases h3:DataW.trod enc P w 0 sp held fuel e cs' with
       |none=>simp[h1,h2,h3]at h
       |some y=>
        obtain⟨v,r1,r2⟩:=he enc w sp held fuel cs' y h3
        obtain⟨u,e1,r3⟩:=Nv r1
        obtain⟨c1,c2⟩:=RU h2
        have hul:=Am.length g2
        rw[List.length_map,g1]at hul
        have hn:(f v).nc=k:=Dp.h v
        refine⟨vs++[v],us++cs',by simp[g1],?_,?_,?_⟩
        rw[List.map_append]
        refine g2.append ?_
        simp only[List.map_cons,List.map_nil,Am]
        refine⟨u,[],by simp[e1],?_,hn,r3,?_,rfl⟩
        rw[RD.size r3,hn]
        exact(RD.cells r3).2
        intro x hx
        rcases ma.1 hx with hx|hx
        exact g3 x hx
        simp at hx;subst hx;exact r2
        intro j v' hj
        rcases Nat.lt_or_ge j us.length with hlt|hge
        rw[List.getElem?_append_left hlt]at hj
        exact g4 j v' hj
        rw[List.getElem?_append_right hge]at hj
        have:=c2 _ _ hj
        rw[JA,hul,hc]at this
        rw[show n*k+(j-n*k)=j by omega]at this
        exact this
   obtain⟨vs,us,g1,g2,g3,g4⟩:=key len elems hel
   refine⟨vs,?_,by rw[g1];have:=hh.2.1;have:=hh.2.2;simp[maxLen]at this;omega,g3⟩
   simp only[D.l,D.cells,RDs]
   refine⟨_,[],rfl,?_,rfl,rfl⟩
   simp only[RD]
   refine⟨some a,cap,k,us,by rw[List.length_map,g1],by rw[List.length_map,g1];exact hh.2.1,hh.2.2,g2,fun _=>⟨a,rfl,fun j v hj=>?_⟩⟩
   have:=g4 j v hj
   refine⟨this,?_⟩
   have h5:=aSw this
   rw[Cy,Eb]at h5
   exact h5
   cases h

theorem LJ{h h':Hw}{w w':World}(k:Cf [] h w h' w'):Below w.heap.size w w':=
 ⟨k.os,k.tape,k.output,k.size,fun b hb=>(k.far b hb (by simp)).1⟩
section
variable {H:Type} {enc:TypeId×Value->H} {P:Program}
theorem LY{f:Func}{s:ChangeSpec}{apart fresh handsOn again:Bool}{W W':World}{args:Array Value}{v:Value}{ds gs:List (DataW H)}{before pa pv:List MemPlace}
 (hW:DataW.Whole enc P f.params.toList s.vars apart W args.toList ds gs before)
 (hres:∀(b:Nat) (sp:Nat->Bool) (hd:Bool),DataW.TrodAll enc P W' b sp hd f.resultTypes.toList (v.resultList f.resultTypes.size) (s.fn H (ds++gs)).results [])
 (hargs:∀sp:Nat->Bool,(∀p∈before,sp p.block=true)->DataW.TrodAll enc P W' 0 sp true f.params.toList args.toList (s.fn H (ds++gs)).args pa)
 (hvars:∀sp:Nat->Bool,(∀p∈before,sp p.block=true)->DataW.TrodVars enc P W' sp s.vars (s.fn H (ds++gs)).vars pv)
 (hps:before=pa++pv) (hb:Below W.heap.size W W')
 (hok:∀(j:Nat) (t:TypeId) (r:Value),f.resultTypes[j]? =some t->(v.resultList f.resultTypes.size)[j]? =some r->Value.okWide P W' .any 0 t r):
 s.post enc P f apart fresh handsOn again W args v W':=by
 have hlt:∀p∈before,p.block<W.heap.size:=fun p hp=>hW.lt p hp
 have hold:∀p∈before,(fun b=>decide (b<W.heap.size)) p.block=true:=fun p hp=>by simpa using hlt p hp
 refine⟨ds,gs,before,[],pa,pv,hW,hres _ _ _,hargs _ hold,hvars _ hold,World.keptBut_mono (fun p hp=>⟨hp,?_⟩) (hb.frame (· ∈before)),fun _=>?_⟩
 rw[hps,ma]at hp
 exact Or.inr hp
 obtain⟨_,_,_,_,_,hz,hn⟩:=hW
 refine⟨hok,_,_,([]++pa)++pv,⟨[]++pa,pv,trodAll_append (hargs _ (fun _ _=>rfl)) (hres _ _ _),hvars _ (fun _ _=>rfl),rfl,?_,?_⟩,?_⟩
 intro b off hp
 have hin:MemPlace.cell b off∈before:=by rw[hps];simpa using hp
 rw[hb.frozen (hlt _ hin)]
 exact hz b off hin
 intro ha
 have:=hn ha
 rw[hps]at this
 simpa using this
 intro p hp _
 rw[hps]
 simpa using hp
end
theorem GN{H:Type}{enc:TypeId×Value->H}{P:Program}(hl:laidOutB P=true){W W':World}(hb:Below W.heap.size W W'):∀{ts:List TypeId} {vs:List Value} {ds:List (DataW H)} {ps:List MemPlace},
 (ts.all fun t=>P.readableRec t&&decide (t<P.types.size))=true->DataW.TrodAll enc P W 0 (fun _=>true) true ts vs ds ps->(∀x∈ps,x.block<W.heap.size)->∀sp:Nat->Bool,(∀p∈ps,sp p.block=true)->
 DataW.TrodAll enc P W' 0 sp true ts vs ds ps
 |[],[],[],ps,_,h,_,sp,_=>h
 |t::ts,v::vs,d::ds,ps,ht,h,hlt,sp,hsp=>by
  obtain⟨p,q,h1,h2,rfl⟩:=h;simp only[List.all_cons,ba,decide_eq_true_eq]at ht;exact⟨p,q,WideElems.Trod_stays hl ht.1.1 ht.1.2 h1 (fun x hx=>hb.same (hlt x (ml _ hx))) (fun x hx=>hsp x (ml _ hx)),
   GN hl hb ht.2 h2 (fun x hx=>hlt x (mr _ hx)) sp (fun x hx=>hsp x (mr _ hx)),rfl⟩
 |[],_::_,_,_,_,h,_,_,_=>h.elim
 |[],[],_::_,_,_,h,_,_,_=>h.elim
 |_::_,[],_,_,_,h,_,_,_=>h.elim
 |_::_,_::_,[],_,_,h,_,_,_=>h.elim
theorem Mf{P:Program}{F:FuncId}{f:Func}{s:ChangeSpec}{H:Type}{enc:TypeId×Value->H}{W:World}{args:Array Value}{ds gs:List (DataW H)}{before:List MemPlace}{tb:TypeId}
 (hl:laidOutB P=true) (hts:(f.params.toList.all fun t=>P.readableRec t&&decide (t<P.types.size))=true) (hr:f.resultTypes= #[tb]) (htb:P.underlying tb=some .bool) (hvs:s.vars=[])
 (hfn:∀ds:List (DataW H),ds.length=f.params.size->s.fn H ds={results:=[.lit (.bool true)],args:=ds,vars:=[]})
 (hW:DataW.Whole enc P f.params.toList s.vars false W args.toList ds gs before)
 (hcall:∃as':List A,RAs (hOf W) W (fun _=>.bool true) as' args.toList/\AL P F as' [] (bo true) []):
 Calls P F args W fun e W'=>∃v,e=.returned v/\s.post enc P f false true false false W args v W':=by
 have hW':=hW
 obtain⟨p,q,hA,hV,rfl,hfz,hnd⟩:=hW
 have hlt:∀x∈p++q,x.block<W.heap.size:=fun x hx=>hW'.lt x hx
 rw[hvs]at hV
 have hg:gs=[]/\q=[]:=by
  cases gs with
  |nil=>exact⟨rfl,by simpa[DataW.TrodVars]using hV⟩
  |cons g gs=>simp[DataW.TrodVars]at hV
 obtain⟨rfl,rfl⟩:=hg
 have hlen:∀{ts:List TypeId} {vs:List Value} {ds:List (DataW H)} {ps:List MemPlace},DataW.TrodAll enc P W 0 (fun _=>true) true ts vs ds ps->ds.length=ts.length:=by
  intro ts;induction ts with
  |nil=>
   intro vs ds ps h
   cases vs<;>cases ds<;>first|rfl|exact h.elim
  |cons t ts ih=>
   intro vs ds ps h
   cases vs<;>cases ds<;>first|exact h.elim|(obtain⟨_,_,_,h2,_⟩:=h;simp[ih h2])
 have hd:ds.length=f.params.size:=by rw[hlen hA];simp
 obtain⟨as',hra,hc⟩:=hcall
 refine(hc (hOf W) W (fun _=>.bool true) args.toList (Inv.nil _ _ _) hra).mono fun e W' hh=>?_
 obtain⟨h',val',u,rfl,_,hu,hk,_,_⟩:=hh
 have hb:=LJ hk
 simp only[bo,RA,RD]at hu
 obtain⟨rfl,_⟩:=hu
 have hsf:s.fn H (ds++[])={results:=[.lit (.bool true)],args:=ds,vars:=[]}:=by rw[List.append_nil];exact hfn ds hd
 simp only[List.append_nil]at hlt hW'
 refine⟨_,rfl,LY (pa:=p) (pv:=[]) (ds:=ds) (gs:=[]) (before:=p) hW' ?_ ?_ ?_ (by simp) hb ?_⟩
 intro b sp hd
 rw[hsf,hr]
 exact trodAll_mk1 (shut_bool htb _)
 intro sp hsp
 rw[hsf]
 exact GN hl hb hts hA hlt sp hsp
 intro sp _
 rw[hsf,hvs];rfl
 exact ok_one hr rfl (okWide_bool_mk htb _)

theorem LX{P:Program}{w:World}{base:Nat}{t:TypeId}{v:Value}(h:Value.okWide P w .any base t v)
 (ht:(match P.underlying t with|some (.int _)|some .bool|some .string|some (.slice _)=>true|_=>false)=true):∀cs,v≠ .agg cs:=by
 intro cs e
 subst e
 unfold Value.okWide at h
 split at ht<;>first|cases ht|skip
 all_goals (rename_i hu;simp only[hu,Cell.okWide,Cell.ok]at h)
theorem aPc{h:Hw}{w:World}{x:D}{v:Value}(hr:RDs h w x.cells v.cells.toList)(hx:∀c,x≠ .agg c)(hv:∀cs,v≠ .agg cs):RD h w x v:=by
 have e:v.cells= #[v]:=by cases v<;>first|rfl|exact absurd rfl (hv _)
 rw[e]at hr;have e2:x.cells=[x]:=by cases x<;>first|rfl|exact absurd rfl (hx _)
 rw[e2]at hr;simp only[RDs]at hr;obtain⟨u,us',h1,h2,_⟩:=hr;simp at h1;rw[h1.1];exact h2
theorem aPb{h:Hw}{w:World}{cs:List D}{v:Value}(hr:RDs h w cs v.cells.toList)(hv:∃us,v=.agg us):RD h w (.agg cs) v:=by obtain⟨us,rfl⟩:=hv;simp only[RD];exact⟨us.toList,rfl,hr⟩
theorem LA{P:Program}{w:World}{base:Nat}{t:TypeId}{v:Value}{fs:Array Field}(h:Value.okWide P w .any base t v)(ht:P.underlying t=some (.struct fs)):∃us,v=.agg us:=by unfold Value.okWide at h;rw[ht]at h;obtain⟨cs,rfl,_⟩:=h;exact⟨cs,rfl⟩
theorem MC{α:Type}{P:Program}{t:TypeId}{f:α->D}{R:α->Prop}(hR:CS P t f R){H:Type}{enc:TypeId×Value->H}{W:World}{v:Value}{d:DataW H}{p:List MemPlace}{base:Nat}{sp:Nat->Bool}
 (h:DataW.Trod enc P W 0 sp true t v d p) (hx:∀a c,f a≠ .agg c) (hok:Value.okWide P W .any base t v)
 (ht:(match P.underlying t with|some (.int _)|some .bool|some .string|some (.slice _)=>true|_=>false)=true):∃x:α,RD (hOf W) W (f x) v/\R x:=by
 obtain⟨fuel,h⟩:=h
 obtain⟨x,h1,h2⟩:=hR enc W _ _ _ _ _ h
 exact⟨x,aPc h1 (hx x) (LX hok ht),h2⟩
theorem RN{α:Type}{P:Program}{t:TypeId}{f:α->D}{R:α->Prop}(hR:CS P t f R){H:Type}{enc:TypeId×Value->H}{W:World}{v:Value}{d:DataW H}{p:List MemPlace}{base:Nat}{sp:Nat->Bool}{fs:Array Field}
 (h:DataW.Trod enc P W 0 sp true t v d p) (hx:∀a,∃c,f a=.agg c) (hok:Value.okWide P W .any base t v)
 (ht:P.underlying t=some (.struct fs)):∃x:α,RD (hOf W) W (f x) v/\R x:=by
 obtain⟨fuel,h⟩:=h
 obtain⟨x,h1,h2⟩:=hR enc W _ _ _ _ _ h
 obtain⟨c,hc⟩:=hx x
 refine⟨x,?_,h2⟩
 rw[hc]at h1⊢
 exact aPb h1 (LA hok ht)
end Go.Ac
namespace Go.Ac
theorem D7(k:IntKind)(n:Int):(D.i k n).cells=[D.i k n]:=rfl
theorem D6(b:Bool):(D.b b).cells=[D.b b]:=rfl
theorem D9(l:List UInt8):(D.s l).cells=[D.s l]:=rfl
theorem EA(c:UInt8):(Ny c).cells=[Ny c]:=rfl
theorem D8{α:Type}(f:α->D)(l:List α):(D.l f l).cells=[D.l f l]:=rfl
theorem Cg(l:List D):(D.agg l).cells=l:=rfl
end Go.Ac
