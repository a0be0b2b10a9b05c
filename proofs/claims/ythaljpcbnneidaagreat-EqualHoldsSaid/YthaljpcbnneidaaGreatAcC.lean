/- Own work: how calls of the model run over plain data. -/
import Derived.Test.YthaljpcbnneidaaGreatAcB
import Derived.KernelRfl
import Derived.IntWalk
import Derived.Shelf.SlLaysN
import Derived.Shelf.RegionOpenPlain
import Derived.WalkKit
import Derived.Deep.LoopGhost
import Derived.Deep.RegionLaw
import Derived.Lib.Walk
import Derived.Lib.SliceRun
import Derived.Sort.WalkB12
import Derived.Shelf.Spec.SlicesInsertGrow
import Derived.Shelf.SlicesE.Clone
import Derived.ProofKit
import Derived.OpenShut
import Derived.JoinedCond
import Derived.Carry
set_option linter.unusedVariables false
set_option linter.unusedSimpArgs false
namespace Go.Ac

structure Lw where
 path:List Nat
 wk:List Ws
 e:Ex
 s:St

def KT(lw:List Lw)(p:List Nat)(s:St):Option (Option (Ob×Ex×St)):=
 match lw.find? fun q=>q.path==p with
 |some q=>some (match wks q.wk s with
  |some s1=>some (.loop p s1 q.e q.s,q.e,q.s)
  |none=>none)
 |none=>none
def VO(ops:Array Oper)(s:St):St:=
 match ops.toList with
 |o::_=>match o.dst,o.op with
  |some d,.alloc _=>if Be d s.B then{s with E:=MM (fun i=>i !=d) 0 s.E,B:=s.B.filter fun p=>p.1 !=d}else s
  |_,_=>s
 |[]=>s
theorem VP(ops:Array Oper)(s:St):Wk s (VO ops s):=by unfold VO;split;split;split;exact(Wk.mask _ s).trans (Wk.drop _ _);exact Wk.refl s;exact Wk.refl s;exact Wk.refl s
def CK(P:Program)(ws:List (Nat×W))(lw:List Lw):List Nat->Code->St->Option (Ob×Ex×St)
 |_,.skip,s=>some (.c .t,.normal,s)
 |_,.label _,s=>some (.c .t,.normal,s)
 |_,.region _ ops d,s=>match Lx P ops d ws (VO ops s)with
  |some (Φ,s')=>some (Φ,.normal,s')
  |none=>none
 |p,.seq a b,s=>match KT lw p s with
  |some r=>r
  |none=>match CK P ws lw (0::p) a s with
   |some (Φ,.normal,s1)=>match CK P ws lw (1::p) b s1 with
    |some (Ψ,e,s2)=>some (Φ.and Ψ,e,s2)
    |none=>none
   |r=>r
 |p,.cond c a b,s=>match KT lw p s with
  |some r=>r
  |none=>match s.ev c with
   | .d (.v (.bool true))=>CK P ws lw (0::p) a s
   | .d (.v (.bool false))=>CK P ws lw (1::p) b s
   |_=>none
 |p,.block id b,s=>match KT lw p s with
  |some r=>r
  |none=>match CK P ws lw (0::p) b s with
   |some (Φ,.exit j,s')=>if j=id then some (Φ,.normal,s')else some (Φ,.exit j,s')
   |r=>r
 |p,.loop _,s=>match KT lw p s with
  |some r=>r
  |none=>none
 |p,.rangeFunc _ _ _ _,s=>match KT lw p s with
  |some r=>r
  |none=>none
 |p,.scope b,s=>match KT lw p s with
  |some r=>r
  |none=>CK P ws lw (0::p) b s
 |_,.exit id,s=>some (.c .t,.exit id,s)
 |_,.ret,s=>some (.c .t,.ret,s)
 |_,_,_=>none

def C6(P:Program)(rd:Option Nat)(root:Code):Lp:=fun p s e s'=>AC P rd (As root p) s fun e1 s1=>e1=e/\s1=s'

theorem AC.done{P:Program}{rd:Option Nat}{c:Code}{s:St}{Ψ:Ex->St->Prop}{e:Ex}(hw:∀a w Q,Q e.toExit a w->c.wpIn (fc rd) 0 P Q a w)(h:Ψ e s):AC P rd c s Ψ:=
 fun h' w val a H Q hQ=>hw a w Q (hQ e s h' w val a h H (Nx.refl s h' w val rfl))
theorem AC.mono{P:Program}{rd:Option Nat}{c:Code}{s:St}{Ψ Ψ':Ex->St->Prop}(h:AC P rd c s Ψ)(hp:∀e s1,Ψ e s1->Ψ' e s1):AC P rd c s Ψ':=
 h.post fun e s1 hΨ=>⟨s1,Wk.refl _,hp e s1 hΨ⟩

theorem Dz{P:Program}{rd:Option Nat}{root:Code}{lw:List Lw}{p:List Nat}{c:Code}{s s':St}{Φ:Ob}{e:Ex}{r:Option (Ob×Ex×St)}(hp:As root p=c)(hc:KT lw p s=some r)(he:r=some (Φ,e,s'))(hΦ:Φ.ok P (C6 P rd root)):AC P rd c s fun e1 s1=>e1=e/\s1=s':=by unfold KT at hc;split at hc;rename_i q hq;simp only[oe]at hc;rw[he]at hc;split at hc;rename_i s1 hs1;simp only[oe,pe]at hc;obtain⟨rfl,rfl,rfl⟩:=hc;have h2:AC P rd (As root p) s1 fun e1 s1=>e1=q.e/\s1=q.s:=hΦ;rw[hp]at h2;exact AC.wk (Ir hs1) h2;cases hc;cases hc

theorem JT{P:Program}{rd:Option Nat}{root:Code}{ws:List (Nat×W)}{lw:List Lw}(hm:P.follows .mixedOrders=true):∀(c:Code) (p:List Nat) (s s':St) (Φ:Ob) (e:Ex),As root p=c->
 CK P ws lw p c s=some (Φ,e,s')->Φ.ok P (C6 P rd root)->AC P rd c s fun e1 s1=>e1=e/\s1=s':=by
 intro c
 induction c with
 |skip=>
  intro p s s' Φ e _ he _
  simp only[CK,oe,pe]at he
  obtain⟨_,rfl,rfl⟩:=he
  exact AC.done (e:=.normal) (fun a w Q=>wpIn_skip) ⟨rfl,rfl⟩
 |label l=>
  intro p s s' Φ e _ he _
  simp only[CK,oe,pe]at he
  obtain⟨_,rfl,rfl⟩:=he
  exact AC.done (e:=.normal) (fun a w Q=>wpIn_label) ⟨rfl,rfl⟩
 |exit id=>
  intro p s s' Φ e _ he _
  simp only[CK,oe,pe]at he
  obtain⟨_,rfl,rfl⟩:=he
  exact AC.done (e:=.exit id) (fun a w Q=>wpIn_exit) ⟨rfl,rfl⟩
 |ret=>
  intro p s s' Φ e _ he _
  simp only[CK,oe,pe]at he
  obtain⟨_,rfl,rfl⟩:=he
  exact AC.done (e:=.ret) (fun a w Q=>wpIn_ret) ⟨rfl,rfl⟩
 |region id ops d=>
  intro p s s' Φ e _ he hΦ
  simp only[CK]at he
  split at he
  rename_i Φ' s1 hr
  simp only[oe,pe]at he
  obtain⟨rfl,rfl,rfl⟩:=he
  exact AC.wk (VP ops s) fun h w val a H Q hQ=>Ok hm hr hΦ H fun h' w' val' a' H' n'=>hQ .normal _ h' w' val' a' ⟨rfl,rfl⟩ H' n'
  cases he
 |seq x y ihx ihy=>
  intro p s s' Φ e hp he hΦ
  simp only[CK]at he
  have hpx:As root (0::p)=x:=by simp only[As,hp,Hz]
  have hpy:As root (1::p)=y:=by simp only[As,hp,Hz]
  split at he
  rename_i hcut;exact Dz hp hcut he hΦ
  split at he
  rename_i Φ1 s1 h1
  split at he
  rename_i Ψ e2 s2 h2
  simp only[oe,pe]at he
  obtain⟨rfl,rfl,rfl⟩:=he
  obtain⟨o1,o2⟩:=Ob.and_ok hΦ
  refine AC.seq ((ihx _ _ _ _ _ hpx h1 o1).mono ?_)
  rintro e1 s1' ⟨rfl,rfl⟩
  exact ihy _ _ _ _ _ hpy h2 o2
  cases he
  rename_i hne
  refine AC.seq ((ihx _ _ _ _ _ hpx he hΦ).mono ?_)
  rintro e1 s1' ⟨rfl,rfl⟩
  cases e1 with
  |normal=>exact absurd he (hne _ _)
  |exit id=>exact⟨rfl,rfl⟩
  |ret=>exact⟨rfl,rfl⟩
 |cond c x y ihx ihy=>
  intro p s s' Φ e hp he hΦ
  simp only[CK]at he
  have hpx:As root (0::p)=x:=by simp only[As,hp,Hz]
  have hpy:As root (1::p)=y:=by simp only[As,hp,Hz]
  split at he
  rename_i hcut;exact Dz hp hcut he hΦ
  split at he
  rename_i hc
  exact AC.cond (b:=true) hc (ihx _ _ _ _ _ hpx he hΦ)
  rename_i hc
  exact AC.cond (b:=false) hc (ihy _ _ _ _ _ hpy he hΦ)
  cases he
 |block id b ih=>
  intro p s s' Φ e hp he hΦ
  simp only[CK]at he
  have hpb:As root (0::p)=b:=by simp only[As,hp,Hz]
  split at he
  rename_i hcut;exact Dz hp hcut he hΦ
  split at he
  rename_i Φ1 j s1 h1
  split at he
  rename_i hj
  simp only[oe,pe]at he
  obtain⟨rfl,rfl,rfl⟩:=he
  refine AC.block ((ih _ _ _ _ _ hpb h1 hΦ).mono ?_)
  rintro e1 s1' ⟨rfl,rfl⟩
  simp[hj]
  rename_i hj
  simp only[oe,pe]at he
  obtain⟨rfl,rfl,rfl⟩:=he
  refine AC.block ((ih _ _ _ _ _ hpb h1 hΦ).mono ?_)
  rintro e1 s1' ⟨rfl,rfl⟩
  simp[hj]
  rename_i hne
  refine AC.block ((ih _ _ _ _ _ hpb he hΦ).mono ?_)
  rintro e1 s1' ⟨rfl,rfl⟩
  cases e1 with
  |normal=>exact⟨rfl,rfl⟩
  |exit id=>exact absurd he (hne _ _ _)
  |ret=>exact⟨rfl,rfl⟩
 |loop b ih=>
  intro p s s' Φ e hp he hΦ
  simp only[CK]at he
  split at he
  rename_i hcut;exact Dz hp hcut he hΦ
  cases he
 |rangeFunc f params assign body _ _=>
  intro p s s' Φ e hp he hΦ
  simp only[CK]at he
  split at he
  rename_i hcut;exact Dz hp hcut he hΦ
  cases he
 |scope b ih=>
  intro p s s' Φ e hp he hΦ
  simp only[CK]at he
  have hpb:As root (0::p)=b:=by simp only[As,hp,Hz]
  split at he
  rename_i hcut;exact Dz hp hcut he hΦ
  exact AC.scope (ih _ _ _ _ _ hpb he hΦ)
 |goto l=>intro p s s' Φ e _ he _;simp only[CK]at he;cases he
 |refuse why=>intro p s s' Φ e _ he _;simp only[CK]at he;cases he

def Uq:Code->Bool
 | .loop _=>true
 |_=>false
def O7(tmps:Array Value):ResultVar->Sem Value
 | .tmp t=>pure (tmps.getD t undef)
 | .cell a t=>do loadVar t (<-asAddr (tmps.getD a undef))
def rvA(P:Program)(s:St):ResultVar->Option A
 | .tmp t=>some (s.look (s.E.getD t .any))
 | .cell t ty=>match s.E.getD t .any with
  | .box n off=>match lk s.B n with
   |some (.cells cs)=>(HZ P ty cs off).map s.look
   |_=>none
  |_=>none
def aKv(P:Program)(s:St):List ResultVar->Option (List A)
 |[]=>some []
 |x::l=>match rvA P s x,aKv P s l with
  |some a,some as'=>some (a::as')
  |_,_=>none
def Kt(P:Program)(s:St)(rs:List ResultVar):Option A:=
 match aKv P s rs with
 |some [a]=>some a
 |some as'=>some (.tup as')
 |none=>none
theorem aKu{P:Program}{s:St}{h w val}{a:Act}(H:AS s h w val a){x:ResultVar}{r:A}(he:rvA P s x=some r):∃u,(O7 a.tmps x).run P w=.ok u w/\RA h w val r u:=by
 cases x with
 |tmp t=>
  simp only[rvA,oe]at he
  subst he
  exact⟨a.tmps.getD t undef,by simp[O7],H.look (H.ev (.tmp t))⟩
 |cell t ty=>
  simp only[rvA]at he
  split at he
  rename_i n off hx
  split at he
  rename_i cs hl
  simp only[om]at he
  obtain⟨v,hv,rfl⟩:=he
  have hx':=H.ev (.tmp t)
  simp only[St.ev,hx,RA]at hx'
  obtain⟨b,e1,e2⟩:=hx'
  have hb:=H.inv.rep (n,.cells cs) (ml _ (Aj hl))
  obtain⟨g,us,tt,e3,hg,hr,h1,_⟩:=hb
  simp only at e3
  rw[e1]at e3
  cases e3
  obtain⟨u,g1,g2⟩:=D4 (P:=P) (a:=⟨b,0,none⟩) hv hr h1 (fun j v hj=>by rw[Addr.add_lit,Nat.zero_add,cell_of_row w b j ⟨us⟩ tt (0,0) hg];simpa using hj)
  rw[Addr.add_lit,Nat.zero_add]at g1
  refine⟨u,?_,H.look g2⟩
  have e2':a.tmps.getD t undef=.pointer (some ⟨b,off,none⟩):=e2
  simp[O7,e2',asAddr,g1]
  cases he
  cases he
theorem MX{P:Program}{s:St}{h w val}{a:Act}(H:AS s h w val a):∀{l:List ResultVar} {as':List A},aKv P s l=some as'->∃us,(l.mapM (O7 a.tmps)).run P w=.ok us w/\RAs h w val as' us
 |[],as',he=>by simp only[aKv,oe]at he;subst he;exact⟨[],by simp,by simp[RAs]⟩
 |x::l,as',he=>by
  simp only[aKv]at he;split at he;rename_i r as' h1 h2;simp only[oe]at he;subst he;obtain⟨u,g1,g2⟩:=aKu H h1;obtain⟨us,g3,g4⟩:=MX H h2;exact⟨u::us,by simp[List.mapM_cons,g1,g3],by simp only[RAs];exact⟨u,us,rfl,g2,g4⟩⟩;cases he
theorem N5{P:Program}{s:St}{h w val}{a:Act}(H:AS s h w val a){fn:Func}{r:A}(he:Kt P s fn.results.toList=some r):∃u,(results fn a.tmps).run P w=.ok u w/\RA h w val r u:=by
 unfold Kt at he;have hres:∀us,(fn.results.toList.mapM (O7 a.tmps)).run P w=.ok us w->(results fn a.tmps).run P w=.ok (if hs:us.toArray.size=1 then us.toArray[0]else .tuple us.toArray) w:=by
  intro us hus;have e:results fn a.tmps=(do let vs<-fn.results.mapM (O7 a.tmps);pure (if h:vs.size=1 then vs[0]else .tuple vs)):=by unfold results;congr 1
  rw[e,Array.mapM_eq_mapM_toList];simp[hus]
 split at he;rename_i r' hr;simp only[oe]at he;subst he;obtain⟨us,g1,g2⟩:=MX H hr;simp only[RAs]at g2;obtain⟨u,us',rfl,g3,rfl⟩:=g2;exact⟨u,by rw[hres _ g1];simp,g3⟩;rename_i as' hne hr;simp only[oe]at he;subst he;obtain⟨us,g1,g2⟩:=MX H hr;have hl:=g2.length;have:us.length≠1:=by
  intro e;match as',hne,hl with
  |[],_,hl=>simp at hl;rw[hl]at e;simp at e
  |[x],hne,_=>exact hne x rfl
  |_::_::_,_,hl=>simp at hl;omega
 exact⟨.tuple ⟨us⟩,by rw[hres _ g1];simp[this],by simp only[RA];exact⟨us,rfl,g2⟩⟩;cases he

def T7(P:Program)(f:FuncId)(ws:List (Nat×W))(lw:List Lw)(wk:List Ws)(args:List A)(F0:Bx):Option (Ob×A×Bx):=
 match P.funcs[f]? with
 |some fn=>match fn.body with
  |some c=>if EL args then
   match CK P ws lw [] c ⟨args++List.replicate (fn.ntmps-args.length) (.tup []),[],F0⟩with
   |some (Φ,.ret,s')=>(wks wk s').bind fun s2=>(Kt P s2 fn.results.toList).map fun r=>(Φ,r,s2.F)
   |some (Φ,.normal,s')=>(wks wk s').bind fun s2=>(Kt P s2 fn.results.toList).map fun r=>(Φ,r,s2.F)
   |_=>none
   else none
  |_=>none
 |none=>none
theorem KB{h w val}(n:Nat):RAs h w val (List.replicate n (.tup [])) (List.replicate n undef):=by
 induction n with
 |zero=>simp[RAs]
 |succ n ih=>simp only[List.replicate_succ,RAs];exact⟨undef,_,rfl,Iv,ih⟩

def Cg(P:Program)(f:FuncId):Code:=((P.funcs[f]?).bind (·.body)).getD .skip

theorem L4{w:World}{D:Nat}{o o':Obj}(hD:w.heap[D]? =some o)(ho:o.isCells=false){b i:Nat}{v:Value}(hc:w.cell? ⟨b,i,none⟩=some v):(w.putObj D o').cell? ⟨b,i,none⟩=some v:=by
 by_cases h:b=D;subst h;unfold World.cell? at hc;simp only[hD]at hc;cases o<;>simp_all [Obj.isCells];unfold World.cell? at hc⊢;have:(w.putObj D o').heap[b]? =w.heap[b]? :=by simp[World.putObj,Array.getElem?_setIfInBounds,Ne.symm h]
 simp only[this];exact hc
theorem CC{M:List Nat}{h:Hw}{w:World}{D:Nat}{o o':Obj}(hD:w.heap[D]? =some o)(ho:o.isCells=false)(hM:D∈M):BS M h w h (w.putObj D o') where
 os:=rfl
 tape:=rfl
 output:=rfl
 size:=by simp[World.putObj]
 cells:=fun b i v _ hc=>L4 hD ho hc
 mono:=fun _ _=>Nat.le_refl _
 far:=fun b _ hn=>⟨by have:b≠D:=fun e=>hn (e▸hM);simp[World.putObj,Array.getElem?_setIfInBounds,Ne.symm this],rfl⟩
theorem AS.shut{s:St}{h:Hw}{w:World}{val:Val}{a:Act}{D:Nat}{o':Obj}(H:AS s h w val a)(hD:w.heap[D]? =some (.deferred (some []))):AS s h (w.putObj D o') val {a with defers:=[]}:=by have hk:BS [D] h w h (w.putObj D o'):=CC hD rfl (by simp);refine⟨RAs.stays hk.stays _ _ _ H.e,⟨fun p hp=>RB.stays hk.stays (fun g hg=>?_) (H.inv.rep p hp),H.inv.nms,H.inv.bks⟩,H.far,CW.nil (Nat.le_trans H.defs.1 hk.size)⟩;have hgm:=Inv.blk_mem hp hg;refine hk.far g (H.inv.blk_lt g hgm) fun hin=>?_;simp only[List.mem_singleton]at hin;subst hin;have:=H.inv.blk_def g hgm _ hD;cases this
theorem MG{P:Program}{fn:Func}{R:Ending->World->Prop}{s:St}{h:Hw}{val:Val}{tmps:Array Value}:∀(Ds:List Nat) (w:World) (a:Act),a.tmps=tmps->AS s h w val a->Ds.Nodup->(∀D∈Ds,w.heap[D]? =some (.deferred (some [])))->
 (∀w' a',a'.tmps=tmps->AS s h w' val a'->BS Ds h w h w'->∃v,(results fn tmps).run P w'=.ok v w'/\R (.returned v) w')->LeavesInM (fc none) 0 P fn tmps R (Ds.map fun D=>{target:=.collected D,args:= #[]}) .returning w
 |[],w,a,ha,H,_,_,hR=>hR w a ha H (BS.refl _ _ _)
 |D::Ds,w,a,ha,H,hn,hd,hR=>by
  have hD:=hd D (.head _);obtain⟨hn1,hn2⟩:=List.nodup_cons.1 hn;refine⟨by simp,.inl ⟨D,_,rfl,run_takeDeferred hD,?_⟩⟩;refine MG Ds (w.putObj D (.deferred none)) {a with defers:=[]} ha (H.shut hD) hn2 (fun D' hD'=>?_) fun w' a' ha' H' hk=>?_
  have h1:=hd D' (.tail _ hD');have hne:D≠D':=fun e=>hn1 (e▸hD');simpa[World.putObj,Array.getElem?_setIfInBounds,hne]using h1;refine hR w' a' ha' H' ((CC hD rfl (by simp)).trans (hk.mono' fun x hx=>.inl (List.mem_cons_of_mem _ hx)) fun b hb=>.inl hb)

theorem NK{P:Program}{f:FuncId}{ws:List (Nat×W)}{lw:List Lw}{wk:List Ws}{args:List A}{F0 F':Bx}{Φ:Ob}{r:A}(hm:P.follows .mixedOrders=true)
 (he:T7 P f ws lw wk args F0=some (Φ,r,F')) (hΦ:Φ.ok P (C6 P none (Cg P f))) (hb:r.bare=true) (hF0:Far F0) (hcl:∀p∈F',∀m,p.2.has m=true->m∈AI F'):
 ∀h w val vs,Inv h w val F0->RAs h w val args vs->Calls P f ⟨vs⟩ w fun e w'=>∃h' val' u,e=.returned u/\Inv h' w' val' F'/\RA h' w' val' r u/\BS (AV val F0) h w h' w'/\(∀n,n∉AI F'->val' n=val n)/\∀b∈AV val' F',b∈AV val F0\/w.heap.size<=b:=by
 intro h w val vs hInv hargs
 unfold T7 at he
 split at he
 ·rename_i fn hfn
  split at he
  ·rename_i c hc
   split at he
   case isFalse=>cases he
   rename_i hbare
   have hroot:Cg P f=c:=by simp[Cg,hfn,hc]
   rw[hroot]at hΦ
   have hn:vs.length=args.length:=hargs.length
   let val0:Val:=Ar val bn (.int .i64 (w.heap.size:Int))
   have hv0:∀m,m≠bn->val0 m=val m:=fun m hm=>by simp[val0,Ar,hm]
   have hI0:Inv h w val0 F0:=⟨fun p hp=>RB.upd hv0 (hF0 bn (.inr (rfl)) p hp).1 (hF0 bn (.inr (rfl)) p hp).2 (hInv.rep p hp),hInv.nms,by
    rw[A6 fun m hm=>hv0 m fun e=>by obtain⟨p,hp,e2⟩:=mm.1 hm;exact(hF0 bn (.inr (rfl)) p hp).1 (e2.trans e)]
    exact hInv.bks⟩
   have hblk0:AV val0 F0=AV val F0:=A6 fun m hm=>hv0 m fun e=>by obtain⟨p,hp,e2⟩:=mm.1 hm;exact(hF0 bn (.inr (rfl)) p hp).1 (e2.trans e)
   have H:AS ⟨args++List.replicate (fn.ntmps-args.length) (.tup []),[],F0⟩ h w val0 {tmps:=⟨vs⟩++Array.replicate (fn.ntmps-vs.length) undef,defers:=[]}:=by refine⟨?_,hI0,hF0,CW.nil (by simp[Df,val0,Ar])⟩;simp only[Array.toList_append,Array.toList_replicate];rw[hn];exact(RAs.bare _ _ hbare hargs).append (KB _)
   have key:∀(e:Ex) (s':St),(e=.ret\/e=.normal)->CK P ws lw [] c ⟨args++List.replicate (fn.ntmps-args.length) (.tup []),[],F0⟩=some (Φ,e,s')->((wks wk s').bind fun s2=>(Kt P s2 fn.results.toList).map fun r=>(Φ,r,s2.F))=some (Φ,r,F')->
    Calls P f ⟨vs⟩ w fun e w'=>∃h' val' u,e=.returned u/\Inv h' w' val' F'/\RA h' w' val' r u/\BS (AV val F0) h w h' w'/\(∀n,n∉AI F'->val' n=val n)/\∀b∈AV val' F',b∈AV val F0\/w.heap.size<=b:=by
    intro e s' hor hrun hr
    refine callsIn_wide.1 (callsIn_of_wp_marks (F:=.wide) (n:=0) hfn hc trivial ?_)
    refine JT (rd:=none) hm c [] _ s' Φ e rfl hrun hΦ h w val0 _ H _ ?_
    rintro e1 s1 h1 w1 v1 a1 ⟨rfl,rfl⟩ H1 n1
    simp only[Option.bind_eq_some_iff,om,pe,true_and]at hr
    obtain⟨s2,hwk,r2,hr,rfl,rfl⟩:=hr
    obtain⟨h2,v2,H2,n2⟩:=Ir hwk _ _ _ _ H1
    have n3:=n1.trans n2
    obtain⟨_,Ds,eD,hDn,hD⟩:=H2.defs
    have hbd:Df v2=w.heap.size:=by unfold Df;rw[n3.vals bn (by decide)];simp[val0,Ar]
    have hL:LeavesInM (fc none) 0 P fn a1.tmps (fun e w'=>∃h' val' u,e=.returned u/\Inv h' w' val' s2.F/\RA h' w' val' r2 u/\BS (AV val F0) h w h' w'/\(∀n,n∉AI s2.F->val' n=val n)/\∀b∈AV val' s2.F,b∈AV val F0\/w.heap.size<=b) a1.defers .returning w1:=by
     rw[eD];refine MG Ds w1 a1 rfl H2 hDn (fun D hD1=>(hD D hD1).1) fun w' a' ha' H' hk=>?_;obtain⟨u,g1,g2⟩:=N5 H' hr;rw[ha']at g1;let v3:Val:=fun n=>if n∈AI s2.F then v2 n else val n
     have hfar:∀p∈s2.F,(∀m,m=p.1\/p.2.has m=true->v3 m=v2 m):=fun p hp m hm=>if_pos (by
      rcases hm with rfl|hm
      exact mm.2 ⟨p,hp,rfl⟩;exact hcl p hp m hm)
     have hbF:AV v3 s2.F=AV v2 s2.F:=A6 fun m hm=>if_pos hm;have hIR:=Inv.right H'.inv;refine⟨u,g1,h2,v3,u,rfl,⟨fun p hp=>RB.congr (hfar p hp p.1 (.inl rfl)) (fun m hm=>hfar p hp m (.inr hm)) (hIR.rep p hp),hIR.nms,by rw[hbF];exact hIR.bks⟩,RA.bare _ _ hb g2,?_,fun n hn=>if_neg hn,fun b hb=>?_⟩;have hK:=n3.keep.trans hk fun x hx=>.inr (by rw[<-hbd];exact(hD x hx).2);have hall:AV val0 (⟨args++List.replicate (fn.ntmps-args.length) (.tup []),[],F0⟩:St).all=AV val F0:=hblk0;rw[hall]at hK;exact hK;rw[hbF]at hb;have:=n3.new b (by show b∈AV v2 (s2.B++s2.F);rw[AN];exact mr _ hb);rw[<-hblk0];exact this
    rcases hor with rfl|rfl
    exact hL
    exact hL
   split at he
   rename_i Φ' s' hrun
   have:Φ'=Φ:=by simp only[Option.bind_eq_some_iff,om,pe]at he;obtain⟨_,_,_,_,h,_⟩:=he;exact h
   subst this
   exact key .ret s' (.inl rfl) hrun he
   rename_i Φ' s' hrun
   have:Φ'=Φ:=by simp only[Option.bind_eq_some_iff,om,pe]at he;obtain⟨_,_,_,_,h,_⟩:=he;exact h
   subst this
   exact key .normal s' (.inr rfl) hrun he
   cases he
  cases he
 cases he
def aOx(P:Program)(f:FuncId)(ws:List (Nat×W))(lw:List Lw)(wk:List Ws)(args:List A):Option (Ob×A):=(T7 P f ws lw wk args []).bind fun p=>match p.2.2 with
 |[]=>some (p.1,p.2.1)
 |_=>none
theorem aGj{P:Program}{f:FuncId}{ws:List (Nat×W)}{lw:List Lw}{wk:List Ws}{args:List A}{Φ:Ob}{r:A}(hm:P.follows .mixedOrders=true)
 (he:aOx P f ws lw wk args=some (Φ,r)) (hΦ:Φ.ok P (C6 P none (Cg P f))) (hb:r.bare=true):AO P f args [] r []:=by
 unfold aOx at he
 simp only[Option.bind_eq_some_iff]at he
 obtain⟨⟨Φ',r',F'⟩,h1,he⟩:=he
 simp only at he
 split at he
 simp only[oe,pe]at he
 obtain⟨rfl,rfl⟩:=he
 intro h w val vs hI hargs
 refine(NK hm h1 hΦ hb (fun _ _ _ h=>by cases h) (fun _ h=>by cases h) h w val vs hI hargs).mono fun e w' hh=>?_
 obtain⟨h',val',u,rfl,hI',hr,hk,hv,hn⟩:=hh
 exact⟨h',val',u,rfl,hI',hr,hk,fun n _=>hv n (by simp[AI]),hn⟩
 cases he
theorem Oe{P:Program}{f:FuncId}{ws:List (Nat×W)}{lw:List Lw}{wk:List Ws}{args:List A}{F0 F':Bx}{Φ:Ob}{r:A}(hm:P.follows .mixedOrders=true)
 (he:T7 P f ws lw wk args F0=some (Φ,r,F')) (hΦ:Φ.ok P (C6 P none (Cg P f))) (hb:r.bare=true) (hF0:Far F0) (hcl:∀p∈F',∀m,p.2.has m=true->m∈AI F'):IE P f args F0 r F':=
 fun h w val vs hI hargs=>NK hm he hΦ hb hF0 hcl h w val vs hI hargs

end Go.Ac
namespace Go.Ac
def vx:Nat:=997
mutual
def A.fix:A->Bool
 | .box _ _=>true
 | .row _=>true
 | .clo _ fs cs=>aDz fs&&aDz cs
 | .agg cs=>aDz cs
 | .tup cs=>aDz cs
 | .d _=>true
 | .eptr _=>true
 | .nil=>true
 |_=>false
def aDz:List A->Bool
 |[]=>true
 |a::as'=>a.fix&&aDz as'
end
mutual
theorem RA.det{h w h' w'}{val val':Val}:∀(a:A) (u:Value),a.fix=true->RA h w val a u->RA h' w' val' a u->∀n,a.has n=true->val' n=val n
 | .box m off,u,_,h1,h2,n,hn=>by
  simp only[A.has,beq_iff_eq]at hn;subst hn;simp only[RA]at h1 h2;obtain⟨b,e1,e2⟩:=h1;obtain⟨b',e3,e4⟩:=h2;rw[e2]at e4;cases e4;rw[e1,e3]
 | .row m,u,_,h1,h2,n,hn=>by
  simp only[A.has,beq_iff_eq]at hn;subst hn;simp only[RA]at h1 h2;rw[<-h1.1,<-h2.1]
 | .clo f fs cs,u,hf,h1,h2,n,hn=>by
  simp only[A.fix,ba]at hf;simp only[RA]at h1 h2;obtain⟨x,y,e,a1,a2⟩:=h1;obtain⟨x',y',e',b1,b2⟩:=h2;rw[e]at e';cases e';simp only[A.has,Bool.or_eq_true]at hn;rcases hn with hn|hn
  exact RAs.det fs x hf.1 a1 b1 n hn;exact RAs.det cs y hf.2 a2 b2 n hn
 | .agg cs,u,hf,h1,h2,n,hn=>by
  simp only[A.fix]at hf;simp only[RA]at h1 h2;obtain⟨x,e,a1,_⟩:=h1;obtain⟨x',e',b1,_⟩:=h2;rw[e]at e';cases e';exact RAs.det cs x hf a1 b1 n (by simpa only[A.has]using hn)
 | .tup cs,u,hf,h1,h2,n,hn=>by
  simp only[A.fix]at hf;simp only[RA]at h1 h2;obtain⟨x,e,a1⟩:=h1;obtain⟨x',e',b1⟩:=h2;rw[e]at e';cases e';exact RAs.det cs x hf a1 b1 n (by simpa only[A.has]using hn)
 | .d _,u,_,_,_,n,hn=>by simp[A.has]at hn
 | .eptr _,u,_,_,_,n,hn=>by simp[A.has]at hn
 | .nil,u,_,_,_,n,hn=>by simp[A.has]at hn
 | .bsl _ _ _,u,hf,_,_,n,hn=>by simp[A.fix]at hf
 | .ep _ _ _ _,u,hf,_,_,n,hn=>by simp[A.fix]at hf
 | .ub,u,hf,_,_,n,hn=>by simp[A.fix]at hf
 | .opq _,u,hf,_,_,n,hn=>by simp[A.fix]at hf
 | .any,u,hf,_,_,n,hn=>by simp[A.fix]at hf
theorem RAs.det{h w h' w'}{val val':Val}:∀(as':List A) (us:List Value),aDz as'=true->RAs h w val as' us->RAs h' w' val' as' us->∀n,AR n as'=true->val' n=val n
 |[],us,_,_,_,n,hn=>by simp[AR]at hn
 |a::as',us,hf,h1,h2,n,hn=>by
  simp only[aDz,ba]at hf;simp only[RAs]at h1 h2;obtain⟨u,us',rfl,a1,a2⟩:=h1;obtain⟨u',us2,e,b1,b2⟩:=h2;cases e;simp only[AR,Bool.or_eq_true]at hn;rcases hn with hn|hn
  exact RA.det a u hf.1 a1 b1 n hn;exact RAs.det as' us' hf.2 a2 b2 n hn
end
def HO(args:List A)(ks:List Nat):List A:=ks.map fun i=>args.getD i .any
def aBh(P:Program)(f:FuncId)(ws:List (Nat×W))(lw:List Lw)(wk:List Ws)(args:List A)(X:Bx)(ks:List Nat)(us:List Value):Option (Ob×A×Bx):=
 match P.funcs[f]? with
 |some fn=>match fn.body with
  |some c=>match CK P ws lw [] c ⟨args++List.replicate (fn.ntmps-args.length) (.tup []),X++[(vx,.vals (HO args ks) us)],[]⟩with
   |some (Φ,.ret,s')=>(wks wk s').bind fun s2=>(Kt P s2 fn.results.toList).map fun r=>(Φ,r,s2.B)
   |some (Φ,.normal,s')=>(wks wk s').bind fun s2=>(Kt P s2 fn.results.toList).map fun r=>(Φ,r,s2.B)
   |_=>none
  |_=>none
 |none=>none
def aC8(args:List A)(X:Bx)(ks:List Nat)(r:A)(X':Bx):Bool:=
 aK7 args&&PJ X&&BH (fun n=>Nat.blt n vx) (AI X)&&BH (fun i=>Nat.blt i args.length) ks&&aDz (HO args ks)&&
 aCm r (AI X')&&X'.all (fun p=>aDp p.2 (AI X'))&&BH (fun n=> !Ax n (AI X)||AR n (HO args ks)) (AI X')
theorem Mc{h w}{val:Val}{args:List A}{vs:List Value}(hr:RAs h w val args vs):∀(ks:List Nat),BH (fun i=>Nat.blt i args.length) ks=true->RAs h w val (HO args ks) (ks.map fun i=>vs.getD i undef)
 |[],_=>by simp[HO,RAs]
 |i::ks,hk=>by
  simp only[BH,ba,Nat.blt_eq]at hk;simp only[HO,List.map_cons,RAs];refine⟨_,_,rfl,?_,Mc hr ks hk.2⟩;obtain⟨u,hu,h1⟩:=RAs.get hr i _ (List.getElem?_eq_getElem hk.1);simp only[List.getD,hu,List.getElem?_eq_getElem hk.1,Option.getD_some];exact h1
theorem aBi{P:Program}{f:FuncId}{ws:List Value->List (Nat×W)}{lw:List Value->List Lw}{wk:List Value->List Ws}{args:List A}{X X':Bx}{ks:List Nat}{Φ:List Value->Ob}{r:A}(hm:P.follows .mixedOrders=true)
 (he:∀us,aBh P f (ws us) (lw us) (wk us) args X ks us=some (Φ us,r,X'++[(vx,.vals (HO args ks) us)])) (hΦ:∀us,(Φ us).ok P (C6 P none (Cg P f))) (hx:aC8 args X ks r X'=true):AO P f args X r X':=by
 intro h w val vs hInv hargs
 simp only[aC8,ba]at hx
 obtain⟨⟨⟨⟨⟨⟨⟨x1,x2⟩,x3⟩,x4⟩,x5⟩,x6⟩,x7⟩,x8⟩:=hx
 let us0:=ks.map fun i=>vs.getD i undef
 replace he:=he us0
 replace hΦ:=hΦ us0
 unfold aBh at he
 split at he
 rename_i fn hfn
 split at he
 rename_i c hc
 have hroot:Cg P f=c:=by simp[Cg,hfn,hc]
 rw[hroot]at hΦ
 have hn:vs.length=args.length:=hargs.length
 let val0:Val:=Ar val bn (.int .i64 (w.heap.size:Int))
 have hv0:∀m,m≠bn->val0 m=val m:=fun m hm=>by simp[val0,Ar,hm]
 have hlt:∀m,m<up->m≠bn:=fun m hm e=>by subst e;simp only[up,bn]at hm;omega
 have hX1:∀p∈X,val0 p.1=val p.1:=fun p hp=>hv0 _ (hlt _ (Jm x2 hp).1)
 have hblk0:AV val0 X=AV val X:=A6 fun m hm=>by obtain⟨p,hp,e2⟩:=mm.1 hm;rw[<-e2];exact hX1 p hp
 have hI0:Inv h w val0 X:=⟨fun p hp=>RB.congr (hX1 p hp) (fun m hm=>hv0 m (hlt m ((Jm x2 hp).2 m hm))) (hInv.rep p hp),hInv.nms,by rw[hblk0];exact hInv.bks⟩
 have hargs0:RAs h w val0 args vs:=RAs.congr _ _ (fun n hn=>hv0 n (hlt n (Ux x1 n hn))) hargs
 have hkept0:RAs h w val0 (HO args ks) us0:=Mc hargs0 ks x4
 have hbv:∀(v:Val) (Y:Bx) (as':List A) (us:List Value),AV v (Y++[(vx,Bk.vals as' us)])=AV v Y:=fun v Y as' us=>by rw[AN];have:AV v [(vx,Bk.vals as' us)]=[]:=rfl;rw[this,List.append_nil]
 have hvxX:vx∉AI X:=fun hm=>by have:=Av x3 vx hm;simp at this
 have H:AS ⟨args++List.replicate (fn.ntmps-args.length) (.tup []),X++[(vx,.vals (HO args ks) us0)],[]⟩ h w val0 {tmps:=⟨vs⟩++Array.replicate (fn.ntmps-vs.length) undef,defers:=[]}:=by
  refine⟨?_,?_,(fun _ _ p hp=>by cases hp),CW.nil (by simp[Df,val0,Ar])⟩;simp only[Array.toList_append,Array.toList_replicate];rw[hn];exact hargs0.append (KB _);show Inv h w val0 ((X++[(vx,.vals (HO args ks) us0)])++[]);rw[List.append_nil];refine⟨fun p hp=>?_,?_,by rw[hbv];exact hI0.bks⟩;rcases ma.1 hp with hp|hp
  exact hI0.rep p hp;simp only[List.mem_singleton]at hp;subst hp;exact hkept0;rw[AJ];refine List.nodup_append.2 ⟨hI0.nms,by simp[AI],fun x hx y hy e=>?_⟩;simp only[AI,List.map_cons,List.map_nil,List.mem_singleton]at hy;subst hy;subst e;exact hvxX hx
 have key:∀(e:Ex) (s':St),(e=.ret\/e=.normal)->CK P (ws us0) (lw us0) [] c ⟨args++List.replicate (fn.ntmps-args.length) (.tup []),X++[(vx,.vals (HO args ks) us0)],[]⟩=some (Φ us0,e,s')->
  ((wks (wk us0) s').bind fun s2=>(Kt P s2 fn.results.toList).map fun r=>(Φ us0,r,s2.B))=some (Φ us0,r,X'++[(vx,.vals (HO args ks) us0)])->
  Calls P f ⟨vs⟩ w fun e w'=>∃h' val' u,e=.returned u/\Inv h' w' val' X'/\RA h' w' val' r u/\BS (AV val X) h w h' w'/\(∀n,(n∈AI X'->n∈AI X)->val' n=val n)/\∀b∈AV val' X',b∈AV val X\/w.heap.size<=b:=by
  intro e s' hor hrun hr
  refine callsIn_wide.1 (callsIn_of_wp_marks (F:=.wide) (n:=0) hfn hc trivial ?_)
  refine JT (rd:=none) hm c [] _ s' (Φ us0) e rfl hrun hΦ h w val0 _ H _ ?_
  rintro e1 s1 h1 w1 v1 a1 ⟨rfl,rfl⟩ H1 n1
  simp only[Option.bind_eq_some_iff,om,pe,true_and]at hr
  obtain⟨s2,hwk,r2,hr,rfl,hB2⟩:=hr
  obtain⟨h2,v2,H2,n2⟩:=Ir hwk _ _ _ _ H1
  have n3:=n1.trans n2
  obtain⟨_,Ds,eD,hDn,hD⟩:=H2.defs
  have hbd:Df v2=w.heap.size:=by unfold Df;rw[n3.vals bn (by decide)];simp[val0,Ar]
  have hall:AV val0 (⟨args++List.replicate (fn.ntmps-args.length) (.tup []),X++[(vx,.vals (HO args ks) us0)],[]⟩:St).all=AV val X:=by show AV val0 ((X++[(vx,.vals (HO args ks) us0)])++[])=_;rw[List.append_nil,hbv,hblk0]
  have hL:LeavesInM (fc none) 0 P fn a1.tmps (fun e w'=>∃h' val' u,e=.returned u/\Inv h' w' val' X'/\RA h' w' val' r2 u/\BS (AV val X) h w h' w'/\(∀n,(n∈AI X'->n∈AI X)->val' n=val n)/\∀b∈AV val' X',b∈AV val X\/w.heap.size<=b) a1.defers .returning w1:=by
   rw[eD];refine MG Ds w1 a1 rfl H2 hDn (fun D hD1=>(hD D hD1).1) fun w' a' ha' H' hk=>?_;obtain⟨u,g1,g2⟩:=N5 H' hr;rw[ha']at g1;let v3:Val:=fun n=>if n∈AI X' then v2 n else val n
   have hv3:∀n∈AI X',v3 n=v2 n:=fun n hn=>if_pos hn;have hIB:Inv h2 w' v2 (X'++[(vx,.vals (HO args ks) us0)]):=by rw[<-hB2];have:=H'.inv;unfold St.all at this;exact Inv.sub (List.sublist_append_left _ _) this
   have hkept2:RAs h2 w' v2 (HO args ks) us0:=hIB.rep (vx,.vals (HO args ks) us0) (mr _ (.head _));have hsame:∀n,n∈AI X'->n∈AI X->v2 n=val n:=fun n hn hnX=>by
    have h8:=Av x8 n hn;simp only[Bool.or_eq_true,Bool.not_eq_true']at h8;rcases h8 with h8|h8
    exact absurd hnX (BV h8);rw[RAs.det _ _ x5 hkept0 hkept2 n h8];obtain⟨p,hp,e2⟩:=mm.1 hnX;rw[<-e2];exact hX1 p hp
   have hbX:AV v3 X'=AV v2 X':=A6 fun m hm=>hv3 m hm;have hIX:Inv h2 w' v2 X':=Inv.sub (List.sublist_append_left _ _) hIB;refine⟨u,g1,h2,v3,u,rfl,⟨fun p hp=>RB.congr (hv3 _ (mm.2 ⟨p,hp,rfl⟩)) (fun m hm=>hv3 m (UK ((List.all_eq_true.1 x7) p hp) m hm)) (hIX.rep p hp),hIX.nms,by rw[hbX];exact hIX.bks⟩,
    RA.congr _ _ (fun n hn=>hv3 n (Nr x6 n hn)) g2,?_,fun n hn=>?_,fun b hb=>?_⟩
   have hK:=n3.keep.trans hk fun x hx=>.inr (by rw[<-hbd];exact(hD x hx).2);rw[hall]at hK;exact hK;show(if n∈AI X' then v2 n else val n)=val n
   split;rename_i hin;exact hsame n hin (hn hin);rfl;rw[hbX]at hb;have hb2:b∈AV v2 s2.all:=by show b∈AV v2 (s2.B++s2.F);rw[AN,hB2,hbv];exact ml _ hb
   have:=n3.new b hb2;rw[hall]at this;exact this
  rcases hor with rfl|rfl
  exact hL
  exact hL
 split at he
 rename_i Φ' s' hrun
 have:Φ'=Φ us0:=by simp only[Option.bind_eq_some_iff,om,pe]at he;obtain⟨_,_,_,_,h,_⟩:=he;exact h
 subst this
 exact key .ret s' (.inl rfl) hrun he
 rename_i Φ' s' hrun
 have:Φ'=Φ us0:=by simp only[Option.bind_eq_some_iff,om,pe]at he;obtain⟨_,_,_,_,h,_⟩:=he;exact h
 subst this
 exact key .normal s' (.inr rfl) hrun he
 cases he
 cases he
 cases he
end Go.Ac
namespace Go.Ac

def Cn.okK:Cn->Prop->Prop
 | .t,k=>k
 | .both a b,k=>a.okK (b.okK k)
 |o,k=>o.ok/\k
def Ob.okK(P:Program)(L:Lp):Ob->Prop->Prop
 | .c x,k=>x.okK k
 | .both a b,k=>a.okK P L (b.okK P L k)
 |o,k=>o.ok P L/\k
theorem Cn.okK_iff:∀(x:Cn) (k:Prop),x.okK k↔x.ok/\k:=by
 intro x;induction x with
 |both a b iha ihb=>intro k;simp only[Cn.okK,iha,ihb,Cn.ok,and_assoc]
 |t=>intro k;simp[Cn.okK,Cn.ok]
 |_=>intro k;exact Iff.rfl
theorem Ob.okK_iff{P:Program}{L:Lp}:∀(x:Ob) (k:Prop),x.okK P L k↔x.ok P L/\k:=by
 intro x;induction x with
 |both a b iha ihb=>intro k;simp only[Ob.okK,iha,ihb,Ob.ok,and_assoc]
 |c x=>intro k;exact Cn.okK_iff x k
 |_=>intro k;exact Iff.rfl

def Arr(P:Program)(rd:Option Nat)(root:Code)(q:List Nat)(s:St)(e:Ex)(s':St):Prop:=
 AC P rd (As root q) s fun e1 s1=>e1=e/\Wk s1 s'
theorem Arr.lp{P:Program}{rd:Option Nat}{root:Code}{q:List Nat}{s s':St}{e:Ex}(h:Arr P rd root q s e s'):C6 P rd root q s e s':=
 AC.post h fun _ _ hh=>⟨s',hh.2,hh.1,rfl⟩
def PF(P:Program)(rd:Option Nat)(root:Code)(ws:List (Nat×W))(lw:List Lw)(q:List Nat)(l:List Ws)(s:St)(e:Ex)(s':St):Prop:=
 match CK P ws lw q (As root q) s with
 |some (Φ,e1,s1)=>match wks l s1 with
  |some s2=>Φ.okK P (C6 P rd root) True/\(e1=e/\s2=s')
  |none=>False
 |none=>False
theorem PF.arr{P:Program}{rd:Option Nat}{root:Code}{ws:List (Nat×W)}{lw:List Lw}{q:List Nat}{l:List Ws}{s s':St}{e:Ex}(hm:P.follows .mixedOrders=true)
 (h:PF P rd root ws lw q l s e s'):Arr P rd root q s e s':=by
 unfold PF at h
 split at h
 rename_i Φ e1 s1 h1
 split at h
 rename_i s2 h2
 obtain⟨hΦ,rfl,rfl⟩:=h
 have hΦ:=((Ob.okK_iff _ _).1 hΦ).1
 exact(JT hm _ _ _ _ _ _ rfl h1 hΦ).mono fun e1 s1' hh=>⟨hh.1,by rw[hh.2];exact Ir h2⟩
 exact h.elim
 exact h.elim
def Vx(P:Program)(f:FuncId)(ws:List (Nat×W))(lw:List Lw)(wk:List Ws)(args:List A)(r:A):Prop:=
 match aOx P f ws lw wk args with
 |some (Φ,r')=>Φ.okK P (C6 P none (Cg P f)) True/\(r'=r/\r.bare=true)
 |none=>False
theorem Vx.call{P:Program}{f:FuncId}{ws:List (Nat×W)}{lw:List Lw}{wk:List Ws}{args:List A}{r:A}(hm:P.follows .mixedOrders=true)(h:Vx P f ws lw wk args r):AO P f args [] r []:=by unfold Vx at h;split at h;rename_i Φ r' h1;obtain⟨hΦ,rfl,hb⟩:=h;exact aGj hm h1 ((Ob.okK_iff _ _).1 hΦ).1 hb;exact h.elim
def aDe(P:Program)(f:FuncId)(ws:List (Nat×W))(lw:List Lw)(wk:List Ws)(args:List A)(X:Bx)(ks:List Nat)(us:List Value)(r:A)(X':Bx):Prop:=
 match aBh P f ws lw wk args X ks us with
 |some (Φ,r',X'')=>Φ.okK P (C6 P none (Cg P f)) True/\(r'=r/\X''=X'++[(vx,.vals (HO args ks) us)]/\aC8 args X ks r X'=true)
 |none=>False
theorem aDe.call{P:Program}{f:FuncId}{ws:List Value->List (Nat×W)}{lw:List Value->List Lw}{wk:List Value->List Ws}{args:List A}{X:Bx}{ks:List Nat}{r:A}{X':Bx}(hm:P.follows .mixedOrders=true)
 (h:∀us,aDe P f (ws us) (lw us) (wk us) args X ks us r X'):AO P f args X r X':=by
 have h2:∀us,∃Φ:Ob,aBh P f (ws us) (lw us) (wk us) args X ks us=some (Φ,r,X'++[(vx,.vals (HO args ks) us)])/\Φ.ok P (C6 P none (Cg P f))/\aC8 args X ks r X'=true:=by intro us;have:=h us;unfold aDe at this;split at this;rename_i Φ r' X'' h1;obtain⟨hΦ,rfl,rfl,hx⟩:=this;exact⟨Φ,h1,((Ob.okK_iff _ _).1 hΦ).1,hx⟩;exact this.elim
 exact aBi (ws:=ws) (lw:=lw) (wk:=wk) (Φ:=fun us=>Classical.choose (h2 us)) hm (fun us=>(Classical.choose_spec (h2 us)).1) (fun us=>(Classical.choose_spec (h2 us)).2.1) (h2 []).choose_spec.2.2
def aDd(P:Program)(f:FuncId)(ws:List (Nat×W))(lw:List Lw)(wk:List Ws)(args:List A)(F0:Bx)(r:A)(F':Bx):Prop:=
 match T7 P f ws lw wk args F0 with
 |some (Φ,r',F'')=>Φ.okK P (C6 P none (Cg P f)) True/\(r'=r/\F''=F'/\r.bare=true)
 |none=>False
theorem aDd.call{P:Program}{f:FuncId}{ws:List (Nat×W)}{lw:List Lw}{wk:List Ws}{args:List A}{F0 F':Bx}{r:A}(hm:P.follows .mixedOrders=true)(hF0:Far F0)(hcl:∀p∈F',∀m,p.2.has m=true->m∈AI F')
 (h:aDd P f ws lw wk args F0 r F'):IE P f args F0 r F':=by
 unfold aDd at h
 split at h
 rename_i Φ r' F'' h1
 obtain⟨hΦ,rfl,rfl,hb⟩:=h
 exact Oe hm h1 ((Ob.okK_iff _ _).1 hΦ).1 hb hF0 hcl
 exact h.elim
attribute [irreducible] PF Vx aDe aDd
theorem N6{P:Program}{rd:Option Nat}{root:Code}(hm:P.follows .mixedOrders=true)(ws:List (Nat×W))(lw:List Lw){q:List Nat}(l:List Ws){s s':St}{e:Ex}{p:Prop}(h:p)
 (he:(p/\(e=e/\s'=s'))=PF P rd root ws lw q l s e s'):Arr P rd root q s e s':=PF.arr (ws:=ws) (lw:=lw) (l:=l) hm (he.mp ⟨h,rfl,rfl⟩)
theorem VR{P:Program}{f:FuncId}(hm:P.follows .mixedOrders=true)(ws:List (Nat×W))(lw:List Lw)(wk:List Ws){args:List A}{r:A}{p:Prop}(h:p)
 (he:(p/\(r=r/\true=true))=Vx P f ws lw wk args r):AO P f args [] r []:=Vx.call (ws:=ws) (lw:=lw) (wk:=wk) hm (he.mp ⟨h,rfl,rfl⟩)

theorem VS{P:Program}{f:FuncId}(hm:P.follows .mixedOrders=true)(ws:List (Nat×W))(lw:List Lw)(wk:List Ws){args:List A}{F0 F':Bx}{r:A}(hF0:Far F0)(hcl:∀p∈F',∀m,p.2.has m=true->m∈AI F'){p:Prop}(h:p)
 (he:(p/\(r=r/\F'=F'/\true=true))=aDd P f ws lw wk args F0 r F'):IE P f args F0 r F':=aDd.call (ws:=ws) (lw:=lw) (wk:=wk) hm hF0 hcl (he.mp ⟨h,rfl,rfl,rfl⟩)

section
variable {σ τ:Type}
def itE(step:σ->Option (σ⊕τ)):Nat->σ->Option τ
 |0,_=>none
 |n+1,s=>match step s with
  |none=>none
  |some (.inl s')=>itE step n s'
  |some (.inr t)=>some t
theorem Jh{step:σ->Option (σ⊕τ)}:∀{n m:Nat} {s:σ} {t:τ},n<=m->itE step n s=some t->itE step m s=some t
 |0,_,s,t,_,h=>by simp[itE]at h
 |n+1,0,s,t,hle,h=>by omega
 |n+1,m+1,s,t,hle,h=>by
  simp only[itE]at h⊢;split at h;cases h;exact Jh (Nat.le_of_succ_le_succ hle) h;exact h
open Classical in
noncomputable def AU(step:σ->Option (σ⊕τ))(s:σ):Option τ:=
 if h:∃t,∃n,itE step n s=some t then some (Classical.choose h)else none
theorem Dj{step:σ->Option (σ⊕τ)}{s:σ}{t:τ}:AU step s=some t↔ ∃n,itE step n s=some t:=by unfold AU;constructor;intro h;split at h;rename_i hh;simp only[oe]at h;rw[<-h];exact Classical.choose_spec hh;cases h;rintro⟨n,hn⟩;have hh:∃t,∃n,itE step n s=some t:=⟨t,n,hn⟩;rw[dif_pos hh];obtain⟨m,hm⟩:=Classical.choose_spec hh;have h1:=Jh (Nat.le_max_left n m) hn;have h2:=Jh (Nat.le_max_right n m) hm;rw[h1]at h2;exact h2.symm
def BP(o:Option (σ⊕τ))(k:σ->Option τ):Option τ:=match o with
 |none=>none
 |some (.inl s)=>k s
 |some (.inr t)=>some t
theorem BG(step:σ->Option (σ⊕τ))(s:σ):AU step s=BP (step s) (AU step):=by
 apply Option.ext;intro t;rw[Dj];unfold BP;cases hs:step s with
 |none=>
  constructor
  rintro⟨n,hn⟩
  cases n with
  |zero=>simp[itE]at hn
  |succ n=>simp[itE,hs]at hn
  intro h;simp at h
 |some x=>
  cases x with
  |inl s'=>
   simp only
   rw[Dj]
   constructor
   rintro⟨n,hn⟩
   cases n with
   |zero=>simp[itE]at hn
   |succ n=>exact⟨n,by simpa[itE,hs]using hn⟩
   rintro⟨n,hn⟩
   exact⟨n+1,by simpa[itE,hs]using hn⟩
  |inr t'=>
   constructor
   rintro⟨n,hn⟩
   cases n with
   |zero=>simp[itE]at hn
   |succ n=>simpa[itE,hs]using hn
   intro h
   exact⟨1,by simpa[itE,hs]using h⟩
end

theorem aCe{P:Program}{rd:Option Nat}{root:Code}{p:List Nat}(hl:Uq (As root p)=true){σ τ:Type}{step:σ->Option (σ⊕τ)}{I:σ->St}{O:τ->Ex×St}(hO:∀t,(O t).1≠ .normal)
 (hn:∀s s',step s=some (.inl s')->Arr P rd root (0::p) (I s) .normal (I s')) (hx:∀s t,step s=some (.inr t)->Arr P rd root (0::p) (I s) (O t).1 (O t).2)
 {s:σ} {t:τ} (h:AU step s=some t):C6 P rd root p (I s) (O t).1 (O t).2:=by
 obtain⟨n,hn0⟩:=Dj.1 h
 unfold C6
 have hc:As root p=.loop (As root (0::p)):=by
  cases h:As root p with
  |loop b=>simp only[As,h,Hz]
  |_=>rw[h]at hl;cases hl
 rw[hc]
 have hloop:=AC.loop (P:=P) (rd:=rd) (c:=As root (0::p)) (ι:={x:σ×Nat//itE step x.2 x.1=some t}) (fun x=>I x.1.1) (fun x=>x.1.2) (fun _ e s=>e=(O t).1/\Wk s (O t).2) ?_ ⟨(s,n),hn0⟩
 exact hloop.post fun e s1 hh=>⟨(O t).2,hh.2,hh.1,rfl⟩
 rintro⟨⟨s,n⟩,hi⟩
 cases n with
 |zero=>simp[itE]at hi
 |succ n=>
  simp only[itE]at hi
  split at hi
  cases hi
  rename_i s' hs
  refine AC.mono (hn s s' hs) ?_
  rintro e s1 ⟨rfl,hw⟩
  exact⟨⟨(s',n),hi⟩,Nat.lt_succ_self n,hw,fun e s hh=>hh⟩
  rename_i t' hs
  simp only[oe]at hi
  subst hi
  refine AC.mono (hx s t' hs) ?_
  rintro e s1 ⟨rfl,hw⟩
  cases he:(O t').1 with
  |normal=>exact absurd he (hO t')
  |exit id=>exact⟨rfl,hw⟩
  |ret=>exact⟨rfl,hw⟩

def rR{σ τ:Type}(I:σ->St)(O:τ->Ex×St):σ⊕τ->Ex×St
 | .inl s=>(.normal,I s)
 | .inr t=>O t
theorem Uv{P:Program}{rd:Option Nat}{root:Code}{p:List Nat}{σ τ:Type}{step:σ->Option (σ⊕τ)}(I:σ->St)(O:τ->Ex×St)(hl:Uq (As root p)=true)(hO:∀t,(O t).1≠ .normal)
 (hr:∀s o,step s=some o->Arr P rd root (0::p) (I s) (rR I O o).1 (rR I O o).2)
 {s:σ} {t:τ} (h:AU step s=some t):C6 P rd root p (I s) (O t).1 (O t).2:=
 aCe hl hO (fun s s' h=>hr s (.inl s') h) (fun s t h=>hr s (.inr t) h) h

section
variable {α β:Type}
def AE(c:Bool)(a b:Option β):Option β:=match c with
 |true=>a
 |false=>b
def Ai(p:Prop) [Decidable p](k:Option β):Option β:=if p then k else none
def AW(xs:List α)(i:Int)(k:α->Option β):Option β:=if 0<=i then(match xs[i.toNat]? with
 |some x=>k x
 |none=>none)else none
def AG(x:Option α)(k:α->Option β):Option β:=match x with
 |some a=>k a
 |none=>none
theorem iS{c:Bool}{a b:Option β}{r:β}(h:AE c a b=some r):(c=true/\a=some r)\/(c=false/\b=some r):=by cases c;exact .inr ⟨rfl,h⟩;exact .inl ⟨rfl,h⟩
theorem Cz{a b:Option β}{r:β}(h:AE true a b=some r):a=some r:=h
theorem Cy{a b:Option β}{r:β}(h:AE false a b=some r):b=some r:=h
theorem cS{p:Prop} [Decidable p]{k:Option β}{r:β}(h:Ai p k=some r):p/\k=some r:=by unfold Ai at h;split at h;exact⟨‹_›,h⟩;cases h
theorem xS{xs:List α}{i:Int}{k:α->Option β}{r:β}(h:AW xs i k=some r):∃x,(0<=i/\xs[i.toNat]? =some x)/\k x=some r:=by unfold AW at h;split at h;split at h;exact⟨_,⟨‹_›,‹_›⟩,h⟩;cases h;cases h
theorem bS{x:Option α}{k:α->Option β}{r:β}(h:AG x k=some r):∃a,x=some a/\k a=some r:=by
 cases x with
 |none=>cases h
 |some a=>exact⟨a,rfl,h⟩
end
end Go.Ac
namespace Go.Ac
def D.i(k:IntKind)(n:Int):D:=.v (.int k n)
def D.b(b:Bool):D:=.v (.bool b)
def D.s(l:List UInt8):D:=.v (.string ⟨⟨l⟩⟩)
def D.l{α:Type}(f:α->D)(xs:List α):D:=.sl (xs.map f)
def aKd(x:D):List A:=x.cells.map .d
def sp:Nat->Nat->List (Nat×A)->List A
 |0,_,_=> []
 |n+1,i,[]=>.any::sp n (i+1) []
 |n+1,i,(j,a)::l=>if Nat.beq j i then a::sp n (i+1) l else .any::sp n (i+1) ((j,a)::l)
class Bp{α:Type}(f:α->D)(k:outParam Nat):Prop where
 h:∀x,(f x).nc=k
instance (k:IntKind):Bp (D.i k) 1:=⟨fun _=>rfl⟩
instance :Bp D.b 1:=⟨fun _=>rfl⟩
instance :Bp D.s 1:=⟨fun _=>rfl⟩
instance :Bp L7 1:=⟨fun _=>rfl⟩
instance {α:Type} (f:α->D):Bp (D.l f) 1:=⟨fun _=>rfl⟩

section
variable {α β:Type}
theorem AY(f:α->D){k:Nat} [Bp f k](l:List α):∀y∈l.map f,y.nc=k:=by intro y hy;obtain⟨x,_,rfl⟩:=mm.1 hy;exact Bp.h x
theorem aBy(f:α->D){xs:List α}{i:Int}{x:α}(h:0<=i/\xs[i.toNat]? =some x):0<=i/\(xs.map f)[i.toNat]? =some (f x):=
 ⟨h.1,by rw[List.getElem?_map,h.2];rfl⟩
theorem FI(f:α->D)(xs:List α):((xs.map f).length:Int)=(xs.length:Int):=by rw[List.length_map]
theorem BO(l:List UInt8):((ByteArray.mk ⟨l⟩).size:Int)=(l.length:Int):=rfl
theorem G9{l:List UInt8}{i:Int}{x:UInt8}(h:0<=i/\l[i.toNat]? =some x):0<=i/\∃c:UInt8,(ByteArray.mk ⟨l⟩).data.toList[i.toNat]? =some c/\(c.toNat:Int)=(x.toNat:Int):=
 ⟨h.1,x,h.2,rfl⟩
def fit(a b n:Nat):Prop:=(a+b)*n<=140737488355328
instance (a b n:Nat):Decidable (fit a b n):=inferInstanceAs (Decidable (_<=_))
theorem Ab(f:α->D){xs ys:List α}{n:Nat}(h:fit xs.length ys.length n):((xs.map f).length+(ys.map f).length)*n<=140737488355328:=by rw[List.length_map,List.length_map];exact h
theorem AZ(f:α->D)(xs ys:List α):xs.map f++ys.map f=(xs++ys).map f:=(List.map_append).symm
def sub(xs:List α)(l h:Int):List α:=(xs.take h.toNat).drop l.toNat
theorem DS(f:α->D){k:Nat} [Bp f k]{xs:List α}{l h:Int}(hh:0<=l/\l<=h/\h<=xs.length):
 0<=l/\l<=(some h).getD ((xs.map f).length:Int)/\(some h).getD ((xs.map f).length:Int)<=((xs.map f).length:Int)/\(∀y∈xs.map f,y.nc=k)/\
  ((xs.map f).take ((some h).getD ((xs.map f).length:Int)).toNat).drop l.toNat=(sub xs l h).map f:=by
 refine⟨hh.1,hh.2.1,by rw[List.length_map];exact hh.2.2,AY f xs,?_⟩
 simp only[Option.getD_some,sub,List.map_drop,List.map_take]
theorem DR(f:α->D){k:Nat} [Bp f k]{xs:List α}{l:Int}(hh:0<=l/\l<=(xs.length:Int)/\(xs.length:Int)<=xs.length):
 0<=l/\l<=(none:Option Int).getD ((xs.map f).length:Int)/\(none:Option Int).getD ((xs.map f).length:Int)<=((xs.map f).length:Int)/\(∀y∈xs.map f,y.nc=k)/\
  ((xs.map f).take ((none:Option Int).getD ((xs.map f).length:Int)).toNat).drop l.toNat=(sub xs l (xs.length:Int)).map f:=by
 refine⟨hh.1,by simp only[Option.getD_none,List.length_map];exact hh.2.1,Int.le_refl _,AY f xs,?_⟩
 simp only[Option.getD_none,sub,List.map_drop,List.map_take,List.length_map,Int.toNat_natCast]
theorem J0{a b:List UInt8}(h:a.length+b.length<=9223372036854775807):(ByteArray.mk ⟨a⟩).size+(ByteArray.mk ⟨b⟩).size<=9223372036854775807/\ByteArray.mk ⟨a⟩++ByteArray.mk ⟨b⟩=⟨⟨a++b⟩⟩:=by refine⟨h,?_⟩;apply ByteArray.ext;simp
def VA(a b:Int):Int:=if a<b then b else a
def Ay{γ:Type}(o:α⊕β)(f:α->Option γ)(g:β->Option γ):Option γ:=match o with
 | .inl a=>f a
 | .inr b=>g b
theorem AM{γ:Type}{o:α⊕β}{f:α->Option γ}{g:β->Option γ}{r:γ}(h:Ay o f g=some r):(∃a,o=.inl a/\f a=some r)\/(∃b,o=.inr b/\g b=some r):=by
 cases o with
 |inl a=>exact .inl ⟨a,rfl,h⟩
 |inr b=>exact .inr ⟨b,rfl,h⟩
end
def isN:Ex->Bool
 | .normal=>true
 |_=>false
theorem aKj{e:Ex}(h:isN e=false):e≠ .normal:=by intro hh;rw[hh]at h;cases h
end Go.Ac
namespace Go.Ac
section
variable {α:Type}
theorem Dh(f:α->D){xs:List α}{i:Int}{x:α}(h:0<=i/\xs[i.toNat]? =some x):0<=(i.toNat:Int)/\(xs.map f)[(i.toNat:Int).toNat]? =some (f x):=
 ⟨by omega,by rw[Int.toNat_natCast,List.getElem?_map,h.2];rfl⟩
theorem DJ(f:α->D){xs:List α}{i:Int}(h:i+1<=(xs.length:Int)):i+1<=((xs.map f).length:Int):=by rw[List.length_map];exact h
theorem Us(f:α->D){xs:List α}{i:Int}(h:0<=i/\i+1<=(xs.length:Int)):(i.toNat:Int)+1<=((xs.map f).length:Int):=by rw[List.length_map];omega
theorem Hq(f:α->D)(xs:List α)(i:Int)(x:α):(xs.map f).set i.toNat (f x)=(xs.set i.toNat x).map f:=by rw[List.map_set]
theorem aD3(f:α->D)(n:Int)(x:α):([]:List D)++List.replicate n.toNat (f x)=(List.replicate n.toNat x).map f:=by rw[List.map_replicate];rfl
theorem aD4(f:α->D){n:Int}(x:α){b:Nat}(h:fit 0 n.toNat b):(([]:List D).length+(List.replicate n.toNat (f x)).length)*b<=140737488355328:=by rw[List.length_replicate];exact h
end
end Go.Ac
namespace Go.Ac
section
variable {φ β:Type}
def Vp(x:Option (φ×Bool))(a b:φ->Option β):Option β:=match x with
 |some (f,true)=>a f
 |some (f,false)=>b f
 |none=>none
theorem Hr{x:Option (φ×Bool)}{a b:φ->Option β}{r:β}(h:Vp x a b=some r):(∃f,x=some (f,true)/\a f=some r)\/(∃f,x=some (f,false)/\b f=some r):=by unfold Vp at h;split at h;exact .inl ⟨_,rfl,h⟩;exact .inr ⟨_,rfl,h⟩;cases h
end
end Go.Ac
namespace Go.Ac
theorem ti:True:=trivial
theorem si{α:Type}{a b:α}(h:some a=some b):a=b:=Option.some.inj h
section
variable {α β γ σ τ:Type}
theorem AH(a b:Option β):AE true a b=a:=rfl
theorem AF(a b:Option β):AE false a b=b:=rfl
theorem A8(c:Bool)(a b:Option β):AE c a b=if c=true then a else b:=by cases c<;>rfl
theorem AD(x:α)(k:α->Option β):AG (some x) k=k x:=rfl
theorem An{p:Prop} [Decidable p](h:p)(k:Option β):Ai p k=k:=if_pos h
theorem Bo(a:α)(f:α->Option γ)(g:β->Option γ):Ay (.inl a) f g=f a:=rfl
theorem C5(b:β)(f:α->Option γ)(g:β->Option γ):Ay (.inr b) f g=g b:=rfl
theorem Cm(s:σ)(k:σ->Option τ):BP (some (.inl s)) k=k s:=rfl
theorem CE(t:τ)(k:σ->Option τ):BP (some (.inr t)) k=some t:=rfl
theorem AK{xs:List α}{n:Nat}{x:α}(h:xs[n]? =some x)(k:α->Option β):AW xs (n:Int) k=k x:=by simp[AW,h]
theorem aKi{x:α}{xs:List α}(k:α->Option β):AW (x::xs) 0 k=k x:=by simp[AW]
theorem Am{step:σ->Option (σ⊕τ)}(I:σ->Prop)(μ:σ->Nat)(Q:τ->Prop)
 (h:∀s,I s->(∃t,step s=some (.inr t)/\Q t)\/∃s',step s=some (.inl s')/\I s'/\μ s'<μ s):∀s,I s->∃t,AU step s=some t/\Q t:=by
 have key:∀n s,μ s<n->I s->∃t,AU step s=some t/\Q t:=by
  intro n;induction n with
  |zero=>intro s hs;omega
  |succ n ih=>
   intro s hs hI
   rw[BG]
   rcases h s hI with⟨t,h1,h2⟩|⟨s',h1,h2,h3⟩
   exact⟨t,by rw[h1];rfl,h2⟩
   rw[h1,Cm];exact ih s' (by omega) h2
 exact fun s hI=>key (μ s+1) s (by omega) hI
end
theorem aDk{a b:Int}(h1: -9223372036854775808<=a+b)(h2:a+b<=9223372036854775807):AB .add .i64 a b=a+b:=IntWalk.i64_in _ ⟨h1,h2⟩
theorem aEf{a b:Int}(h1: -9223372036854775808<=a-b)(h2:a-b<=9223372036854775807):AB .sub .i64 a b=a-b:=IntWalk.i64_in _ ⟨h1,h2⟩
theorem J1{n:Nat}(h:n<9223372036854775807):AB .add .i64 (n:Int) 1=((n+1:Nat):Int):=by rw[aDk (by omega) (by omega)];rfl
theorem aO6{a:Int}(h1: -9223372036854775808<=a)(h2:a<=9223372036854775807):IntKind.wrap .i64 a=a:=IntWalk.i64_in _ ⟨h1,h2⟩
theorem aO7(a:Int):IntKind.wrap .u64 a=a % 18446744073709551616:=by simp[IntKind.wrap,IntKind.signed,IntKind.bits]
theorem HI{a b n:Nat}(h:a+b<=1073741824)(hn:n<=131072):fit a b n:=by unfold fit;exact Nat.le_trans (Nat.mul_le_mul h hn) (by decide)
theorem AP{α:Type}{l:List α}{i:Nat}(h:i<l.length):∃x,l[i]? =some x/\l.drop i=x::l.drop (i+1):=
 ⟨_,List.getElem?_eq_getElem h,List.drop_eq_getElem_cons h⟩
theorem aHi{α:Type}(xs:List α)(l h:Nat):sub xs (l:Int) (h:Int)=(xs.take h).drop l:=by simp[sub]
theorem aHh{α:Type}(xs:List α)(l:Nat):sub xs (l:Int) (xs.length:Int)=xs.drop l:=by simp[sub]
end Go.Ac
namespace Go.Ac
theorem NR(n:Nat)(h:n<18446744073709551616):(BitVec.ofInt 64 (n:Int)).toNat=n:=by simp[BitVec.toNat_ofInt];omega
theorem A4{n:Nat}(h:n<18446744073709551616):IntKind.wrap .u64 (n:Int)=n:=by rw[aO7];omega
theorem orU{n m:Nat}(hn:n<18446744073709551616)(hm:m<18446744073709551616):AB .or .u64 (n:Int) (m:Int)=((n|||m:Nat):Int):=by have h:n|||m<2^64:=Nat.or_lt_two_pow (by simpa using hn) (by simpa using hm);show IntKind.wrap .u64 (((BitVec.ofInt 64 (n:Int))|||(BitVec.ofInt 64 (m:Int))).toNat:Int)=_;rw[BitVec.toNat_or,NR n hn,NR m hm];exact A4 (by simpa using h)
theorem aPp{n m:Nat}(hn:n<18446744073709551616)(hm:m<18446744073709551616):AB .and .u64 (n:Int) (m:Int)=((n&&&m:Nat):Int):=by have h:n&&&m<2^64:=Nat.and_lt_two_pow _ (by simpa using hm);show IntKind.wrap .u64 (((BitVec.ofInt 64 (n:Int))&&&(BitVec.ofInt 64 (m:Int))).toNat:Int)=_;rw[BitVec.toNat_and,NR n hn,NR m hm];exact A4 (by simpa using h)
theorem aPs{n k:Nat}(hk:k<=64):AB .shr .u64 (n:Int) (k:Int)=((n/2^k:Nat):Int):=by show Int.fdiv (n:Int) (2^(min (k:Int).toNat 64))=_;rw[Int.toNat_natCast,Nat.min_eq_left hk];rw[Int.fdiv_eq_ediv_of_nonneg _ (Int.pow_nonneg (by decide))];rw[Int.natCast_ediv,Int.natCast_pow];rfl
end Go.Ac
namespace Go.Ac
def cj:List Prop->Prop->Prop
 |[],k=>k
 |q::Q,k=>cj Q (q/\k)
theorem US:∀(Q:List Prop) (k:Prop),cj Q k↔cj Q True/\k
 |[],k=>by simp[cj]
 |q::Q,k=>by
  simp only[cj];rw[US Q (q/\k),US Q (q/\True)];exact⟨fun h=>⟨⟨h.1,h.2.1,trivial⟩,h.2.2⟩,fun h=>⟨h.1.1,h.1.2.1,h.2⟩⟩
theorem aGv{q:Prop}{Q:List Prop}(h:q)(k:cj Q True):cj (q::Q) True:=(US Q (q/\True)).2 ⟨k,h,trivial⟩
section
variable {β γ δ:Type} {ws:List (Nat×W)} {lw:List Lw} {Q:List Prop} {G:β->Prop} {o:β}
def Gl(ws:List (Nat×W))(lw:List Lw)(Q:List Prop)(G:β->Prop)(o:β):Prop:=cj Q True->G o
def VY:List A->Nat->List Nat
 |[],_=> []
 | .any::l,i=>VY l (i+1)
 |_::l,i=>i::VY l (i+1)
def lvS(s:St):List Ws:=[.live (VY s.E 0),.keep (s.B.map (·.1))]
def aPg:Nat->Nat->List Nat
 |0,_=> []
 |f+1,n=>if Nat.ble n 1 then []else(n % 2)::aPg f (n/2)
abbrev pth(n:Nat):List Nat:=aPg 64 n
theorem g0(h:Gl [] [] [] G o):G o:=h trivial
theorem gW(n:Nat)(w:W)(c:Gl ((n,w)::ws) lw Q G o):Gl ws lw Q G o:=c
theorem gQ{q:Prop}(h:q)(c:Gl ws lw (q::Q) G o):Gl ws lw Q G o:=fun k=>c (aGv h k)
theorem gG(n:Nat)(w:W){q:Prop}(h:q)(c:Gl ((n,w)::ws) lw (q::Q) G o):Gl ws lw Q G o:=gQ h c
theorem gT(n:Nat){q:Prop}(h:q)(c:Gl ((n,.bit true)::ws) lw (q::Q) G o):Gl ws lw Q G o:=gQ h c
theorem gF(n:Nat){q:Prop}(h:q)(c:Gl ((n,.bit false)::ws) lw (q::Q) G o):Gl ws lw Q G o:=gQ h c
theorem gN(n:Nat)(f:γ->D)(xs:List γ)(c:Gl ((n,.int (xs.length:Int))::ws) lw ((((xs.map f).length:Int)=(xs.length:Int))::Q) G o):Gl ws lw Q G o:=gQ (FI f xs) c
theorem gC(n:Nat){P:Program}{f:FuncId}{args:List A}{r:A}(h:AO P f args [] r [])(c:Gl ((n,.ret r)::ws) lw (AO P f args [] r []::Q) G o):Gl ws lw Q G o:=gQ h c
theorem gL(wk:List Ws){P:Program}{rd:Option Nat}{root:Code}{p:List Nat}{s:St}{e:Ex}{s':St}(h:C6 P rd root p s e s')(c:Gl ws (⟨p,wk,e,s'⟩::lw) (C6 P rd root p s e s'::Q) G o):Gl ws lw Q G o:=gQ h c
theorem gl{P:Program}{rd:Option Nat}{root:Code}{p:List Nat}{s:St}{e:Ex}{s':St}(h:C6 P rd root p s e s')(c:Gl ws (⟨p,lvS s,e,s'⟩::lw) (C6 P rd root p s e s'::Q) G o):Gl ws lw Q G o:=gQ h c
theorem iB(n:Nat){b:Bool}{x y:Option δ}{r:δ}(h:AE b x y=some r)(A1:x=some r->Gl ((n,.bit true)::ws) lw ((b=true)::Q) G o)(A2:y=some r->Gl ((n,.bit false)::ws) lw ((b=false)::Q) G o):Gl ws lw Q G o:=by
 rcases iS h with⟨h1,h2⟩|⟨h1,h2⟩
 exact gQ h1 (A1 h2);exact gQ h1 (A2 h2)
theorem xX(n:Nat)(f:γ->D){xs:List γ}{i:Int}{k:γ->Option δ}{r:δ}(h:AW xs i k=some r)(c:∀x,k x=some r->Gl ((n,.el (f x))::ws) lw ((0<=i/\(xs.map f)[i.toNat]? =some (f x))::Q) G o):Gl ws lw Q G o:=by obtain⟨x,h1,h2⟩:=xS h;exact gQ (aBy f h1) (c x h2)
end
abbrev lv(a b:List Nat):List Ws:=[.live a,.keep b]
section
variable {β:Type} {ws:List (Nat×W)} {lw:List Lw} {Q:List Prop} {o v:β} {P:Program} {rd:Option Nat} {root:Code} {q:List Nat} {s:St} {f:FuncId} {args:List A}
theorem lB_(hm:P.follows .mixedOrders=true)(h:some v=some o)(l:List Ws){E:β->Ex}{S:β->St}
 (he:(cj Q True/\(E v=E v/\S v=S v))=PF P rd root ws lw q l s (E v) (S v)):Gl ws lw Q (fun o=>Arr P rd root q s (E o) (S o)) o:=by
 cases si h
 exact fun k=>N6 hm ws lw l k he
theorem lP_(hm:P.follows .mixedOrders=true)(h:some v=some o)(l:List Ws){E:β->Ex}{S:β->St}
 (he:(cj Q True/\(E v=E v/\S v=S v))=PF P rd root ws lw q l s (E v) (S v)):Gl ws lw Q (fun o=>C6 P rd root q s (E o) (S o)) o:=by
 cases si h
 exact fun k=>(N6 hm ws lw l k he).lp
theorem lF_(hm:P.follows .mixedOrders=true)(h:some v=some o)(l:List Ws){R:β->A}
 (he:(cj Q True/\(R v=R v/\true=true))=Vx P f ws lw l args (R v)):Gl ws lw Q (fun o=>AO P f args [] (R o) []) o:=by
 cases si h
 exact fun k=>VR hm ws lw l k he
theorem lI_(hm:P.follows .mixedOrders=true){F0:Bx}(hF:Far F0){r:A}{F:β->Bx}(hc:∀f,∀p∈F f,∀m,p.2.has m=true->m∈AI (F f))(h:some v=some o)(l:List Ws)
 (he:(cj Q True/\(r=r/\F v=F v/\true=true))=aDd P f ws lw l args F0 r (F v)):Gl ws lw Q (fun o=>IE P f args F0 r (F o)) o:=by
 cases si h
 exact fun k=>VS hm ws lw l hF (hc _) k he
def XG(P:Program)(f:FuncId)(args:List A)(X:Bx)(ks:List Nat)(us:List Value)(r:A)(X':Bx):Prop:=∃ws lw wk,aDe P f ws lw wk args X ks us r X'
theorem XG.call{X:Bx}{ks:List Nat}{r:A}{X':Bx}(hm:P.follows .mixedOrders=true)(h:∀us,XG P f args X ks us r X'):AO P f args X r X':=by refine aDe.call (ws:=fun us=>(h us).choose) (lw:=fun us=>(h us).choose_spec.choose) (wk:=fun us=>(h us).choose_spec.choose_spec.choose) hm fun us=>(h us).choose_spec.choose_spec.choose_spec
theorem lX_{X:Bx}{ks:List Nat}{us:List Value}(h:some v=some o)(l:List Ws){R:β->A}{X':β->Bx}
 (he:(cj Q True/\(R v=R v/\X' v++[(vx,.vals (HO args ks) us)]=X' v++[(vx,.vals (HO args ks) us)]/\true=true))=aDe P f ws lw l args X ks us (R v) (X' v)):Gl ws lw Q (fun o=>XG P f args X ks us (R o) (X' o)) o:=by
 cases si h
 exact fun k=>⟨ws,lw,l,he.mp ⟨k,rfl,rfl,rfl⟩⟩
end
section
variable {σ τ:Type} {P:Program} {rd:Option Nat} {root:Code} {p:List Nat} {step:σ->Option (σ⊕τ)}
theorem lL(I:σ->St)(O:τ->Ex×St)(s:σ)(hr:∀s o,step s=some o->Gl [] [] [] (fun o=>Arr P rd root (0::p) (I s) (rR I O o).1 (rR I O o).2) o)
 {t:τ} (h:AU step s=some t) (hl:Uq (As root p)=true:=by kernel_rfl) (hO:∀t,isN (O t).1=false:=by intro t;first|rfl|(rcases t with _|_<;>rfl)|(rcases t with _|_|_<;>rfl)|(rcases t with _|_|_|_<;>rfl)|(rcases t with _|_|_|_|_<;>rfl)):C6 P rd root p (I s) (O t).1 (O t).2:=
 Uv I O hl (fun t=>aKj (hO t)) (fun s o h=>hr s o h trivial) h
end
end Go.Ac
namespace Go.Ac
set_option maxRecDepth 4000
def sh(n:Nat):Nat:=if n<up then n+up else if n<996000 then n+4000 else n+4001
def shi(n:Nat):Nat:=if n<up+up then n-up else if n<1000000 then n-4000 else n-4001
theorem OA(n:Nat):(n<1000/\sh n=n+1000)\/(1000<=n/\n<996000/\sh n=n+4000)\/(996000<=n/\sh n=n+4001):=by unfold sh up;by_cases h1:n<1000;exact .inl ⟨h1,if_pos h1⟩;by_cases h2:n<996000;exact .inr (.inl ⟨by omega,h2,by rw[if_neg h1,if_pos h2]⟩);exact .inr (.inr ⟨by omega,by rw[if_neg h1,if_neg h2]⟩)
theorem OB(n:Nat):shi (sh n)=n:=by
 unfold shi up;rcases OA n with⟨h,e⟩|⟨h,h2,e⟩|⟨h,e⟩<;>rw[e]
 rw[if_pos (by omega)];omega;rw[if_neg (by omega),if_pos (by omega)];omega;rw[if_neg (by omega),if_neg (by omega)];omega
theorem aKw{n m:Nat}(h:sh n=sh m):n=m:=by rw[<-OB n,h,OB]
theorem aCw(n:Nat):up<=sh n/\sh n≠1000000/\sh n≠3000:=by unfold up;rcases OA n with⟨h,e⟩|⟨h,h2,e⟩|⟨h,e⟩<;>rw[e]<;>omega
mutual
theorem aEq{h w}{val:Val}{ρ:Nat->Nat}:∀(a:A) (l:List Nat),a.nms=some l->∀(u:Value),RA h w val (a.mapN ρ) u↔RA h w (fun n=>val (ρ n)) a u
 | .d _,_,_,u=>by simp only[A.mapN,RA]
 | .eptr _,_,_,u=>by simp only[A.mapN,RA]
 | .nil,_,_,u=>by simp only[A.mapN,RA]
 | .ub,_,_,u=>by simp only[A.mapN,RA]
 | .any,_,_,u=>by simp only[A.mapN,RA]
 | .box _ _,_,_,u=>by simp only[A.mapN,RA]
 | .bsl _ _ _,_,_,u=>by simp only[A.mapN,RA]
 | .ep _ _ _ _,_,_,u=>by simp only[A.mapN,RA]
 | .row _,_,_,u=>by simp only[A.mapN,RA]
 | .opq a,l,h,u=>by simp[A.nms]at h
 | .clo f fs cs,l,h,u=>by
  simp only[A.nms]at h;split at h;rename_i x y hx hy;simp only[A.mapN,RA,Cu fs x hx,Cu cs y hy];cases h
 | .agg cs,l,h,u=>by simp only[A.mapN,RA,Cu cs l (by simpa only[A.nms]using h)]
 | .tup cs,l,h,u=>by simp only[A.mapN,RA,Cu cs l (by simpa only[A.nms]using h)]
theorem Cu{h w}{val:Val}{ρ:Nat->Nat}:∀(as':List A) (l:List Nat),Hs as'=some l->∀(us:List Value),RAs h w val (Bw ρ as') us↔RAs h w (fun n=>val (ρ n)) as' us
 |[],_,_,us=>by simp only[Bw,RAs]
 |a::as',l,h,us=>by
  simp only[Hs]at h;split at h;rename_i x y hx hy;simp only[Bw,RAs,aEq a x hx,Cu as' y hy];cases h
end
theorem Ix{h w}{val:Val}{ρ:Nat->Nat}(n:Nat){b:Bk}{l:List Nat}(hb:b.nms=some l):RB h w val (ρ n) (b.mapN ρ)↔RB h w (fun n=>val (ρ n)) n b:=by
 cases b with
 |cells cs=>simp only[Bk.mapN,RB,Cu cs l hb]
 |vals as' us=>simp only[Bk.mapN,RB,Cu as' l hb]
 |_=>simp only[Bk.mapN,RB]
mutual
theorem A.nms_mapN{ρ:Nat->Nat}:∀(a:A) (l:List Nat),a.nms=some l->(a.mapN ρ).nms=some (l.map ρ)
 | .d _,l,h=>by simp only[A.nms]at h;cases h;rfl
 | .eptr _,l,h=>by simp only[A.nms]at h;cases h;rfl
 | .nil,l,h=>by simp only[A.nms]at h;cases h;rfl
 | .ub,l,h=>by simp only[A.nms]at h;cases h;rfl
 | .any,l,h=>by simp only[A.nms]at h;cases h;rfl
 | .box _ _,l,h=>by simp only[A.nms]at h;cases h;rfl
 | .bsl _ _ _,l,h=>by simp only[A.nms]at h;cases h;rfl
 | .ep _ _ _ _,l,h=>by simp only[A.nms]at h;cases h;rfl
 | .row _,l,h=>by simp only[A.nms]at h;cases h;rfl
 | .opq a,l,h=>by simp[A.nms]at h
 | .clo f fs cs,l,h=>by
  simp only[A.nms]at h;split at h;rename_i x y hx hy;cases h;simp only[A.mapN,A.nms,Co fs x hx,Co cs y hy,List.map_append];cases h
 | .agg cs,l,h=>by simp only[A.mapN,A.nms];exact Co cs l (by simpa only[A.nms]using h)
 | .tup cs,l,h=>by simp only[A.mapN,A.nms];exact Co cs l (by simpa only[A.nms]using h)
theorem Co{ρ:Nat->Nat}:∀(as':List A) (l:List Nat),Hs as'=some l->Hs (Bw ρ as')=some (l.map ρ)
 |[],l,h=>by simp only[Hs]at h;cases h;rfl
 |a::as',l,h=>by
  simp only[Hs]at h;split at h;rename_i x y hx hy;cases h;simp only[Bw,Hs,A.nms_mapN a x hx,Co as' y hy,List.map_append];cases h
end
theorem Bk.nms_mapN{ρ:Nat->Nat}{b:Bk}{l:List Nat}(h:b.nms=some l):∃l',(b.mapN ρ).nms=some l':=by
 cases b with
 |cells cs=>exact⟨_,Co cs l h⟩
 |vals as' us=>exact⟨_,Co as' l h⟩
 |_=>exact⟨_,rfl⟩
mutual
theorem A.has_mapN{ρ:Nat->Nat}:∀(a:A) (l:List Nat),a.nms=some l->∀m,(a.mapN ρ).has m=true->∃n,a.has n=true/\ρ n=m
 | .d _,l,h,m,hm=>by simp[A.mapN,A.has]at hm
 | .eptr _,l,h,m,hm=>by simp[A.mapN,A.has]at hm
 | .nil,l,h,m,hm=>by simp[A.mapN,A.has]at hm
 | .ub,l,h,m,hm=>by simp[A.mapN,A.has]at hm
 | .any,l,h,m,hm=>by simp[A.mapN,A.has]at hm
 | .box k off,l,h,m,hm=>⟨k,by simp[A.has],by simp only[A.mapN,A.has]at hm;simpa using hm⟩
 | .bsl k off j,l,h,m,hm=>⟨k,by simp[A.has],by simp only[A.mapN,A.has]at hm;simpa using hm⟩
 | .ep k a i off,l,h,m,hm=>⟨k,by simp[A.has],by simp only[A.mapN,A.has]at hm;simpa using hm⟩
 | .row k,l,h,m,hm=>⟨k,by simp[A.has],by simp only[A.mapN,A.has]at hm;simpa using hm⟩
 | .opq a,l,h,m,hm=>by simp[A.nms]at h
 | .clo f fs cs,l,h,m,hm=>by
  simp only[A.nms]at h;split at h;rename_i x y hx hy;simp only[A.mapN,A.has,Bool.or_eq_true]at hm⊢;rcases hm with hm|hm
  obtain⟨n,h1,h2⟩:=Ci fs x hx m hm;exact⟨n,.inl h1,h2⟩;obtain⟨n,h1,h2⟩:=Ci cs y hy m hm;exact⟨n,.inr h1,h2⟩;cases h
 | .agg cs,l,h,m,hm=>by simp only[A.mapN,A.has]at hm⊢;exact Ci cs l (by simpa only[A.nms]using h) m hm
 | .tup cs,l,h,m,hm=>by simp only[A.mapN,A.has]at hm⊢;exact Ci cs l (by simpa only[A.nms]using h) m hm
theorem Ci{ρ:Nat->Nat}:∀(as':List A) (l:List Nat),Hs as'=some l->∀m,AR m (Bw ρ as')=true->∃n,AR n as'=true/\ρ n=m
 |[],l,h,m,hm=>by simp[Bw,AR]at hm
 |a::as',l,h,m,hm=>by
  simp only[Hs]at h;split at h;rename_i x y hx hy;simp only[Bw,AR,Bool.or_eq_true]at hm⊢;rcases hm with hm|hm
  obtain⟨n,h1,h2⟩:=A.has_mapN a x hx m hm;exact⟨n,.inl h1,h2⟩;obtain⟨n,h1,h2⟩:=Ci as' y hy m hm;exact⟨n,.inr h1,h2⟩;cases h
end
theorem Bk.has_mapN{ρ:Nat->Nat}{b:Bk}{l:List Nat}(h:b.nms=some l)(m:Nat)(hm:(b.mapN ρ).has m=true):∃n,b.has n=true/\ρ n=m:=by
 cases b with
 |cells cs=>exact Ci cs l h m hm
 |vals as' us=>exact Ci as' l h m hm
 |mit k clk seen=>exact⟨k,by simp[Bk.has],by simpa[Bk.mapN,Bk.has]using hm⟩
 |_=>simp[Bk.mapN,Bk.has]at hm

def rn:Nat:=3000
def Nmd(B:Bx):Prop:=∀p∈B,∃l,p.2.nms=some l
def BU(l:Nat)(r:Loop)(B:Bx):Bx:=(rn,.obj l (.loop r))::B.map (Cq sh)
theorem CD{l:Nat}{r:Loop}{B:Bx}:AI (BU l r B)=rn::(AI B).map sh:=by have:=Bz sh B;show rn::AI (B.map (Cq sh))=_;rw[this]
theorem VE{l:Nat}{r:Loop}{B:Bx}(hB:Nmd B):Nmd (BU l r B):=by
 intro p hp;rcases mc.1 hp with rfl|hp
 exact⟨_,rfl⟩;obtain⟨q,hq,rfl⟩:=mm.1 hp;obtain⟨x,hx⟩:=hB q hq;exact Bk.nms_mapN hx
theorem Ud{l:Nat}{r:Loop}{B:Bx}(hB:Nmd B):Far (BU l r B):=by
 intro n hn p hp;have hne:∀m,sh m≠n:=fun m e=>by have:=aCw m;omega
 rcases mc.1 hp with rfl|hp
 refine⟨fun e=>?_,rfl⟩;simp only[rn]at e;simp only[up]at hn;omega;obtain⟨q,hq,rfl⟩:=mm.1 hp;refine⟨hne q.1,?_⟩;show(q.2.mapN sh).has n=false;cases hh:(q.2.mapN sh).has n with
 |false=>rfl
 |true=>
  exfalso
  obtain⟨k,hk⟩:=hB q hq
  obtain⟨m,h1,h3⟩:=Bk.has_mapN hk n hh
  exact hne m h3
theorem Cc{l:Nat}{r:Loop}{B:Bx}{val:Val}(hv:val rn=.pointer (some ⟨l,0,none⟩)):AV val (BU l r B)=l::AV (fun n=>val (sh n)) B:=by
 have h1:Ae val (rn,Bk.obj l (.loop r))=some l:=by rw[Ae,hv];rfl
 have h2:=De sh val B;unfold AV at h2⊢;simp only[BU,List.filterMap_cons,h1,h2]
theorem Jl{B:Bx}(h:PJ B=true):Nmd B:=fun p hp=>by have:=List.all_eq_true.1 h p hp;simp only[ba]at this;have h2:=this.2;split at h2;rename_i k hk;exact⟨k,hk⟩;cases h2
theorem MR{B F:Bx}(h1:Nmd B)(h2:Nmd F):Nmd (B++F):=fun p hp=>(ma.1 hp).elim (h1 p) (h2 p)
theorem aG7{B F:Bx}(hB:PJ B=true)(hF:Far F){p:Nat×Bk}(hp:p∈B++F):p.1≠bn/\∀m,p.2.has m=true->m≠bn:=by
 rcases ma.1 hp with hp|hp
 obtain⟨c1,c2⟩:=Jm hB hp;exact⟨fun e=>by rw[e]at c1;exact absurd c1 (by decide),fun m hm e=>by have:=c2 m hm;rw[e]at this;exact absurd this (by decide)⟩;obtain⟨c1,c2⟩:=hF bn (.inr rfl) p hp;exact⟨c1,fun m hm e=>by rw[e,c2]at hm;cases hm⟩
def aLa(F:Bx):Prop:=∀p∈F,∀m,p.2.has m=true->m∈AI F
structure FOk(F:Bx)(N:List Nat):Prop where
 far:Far F
 nmd:Nmd F
 cls:aLa F
 nms:AI F=N
theorem FOk.nil:FOk [] []:=⟨fun _ _ _ hq=>(by cases hq),fun _ hp=>(by cases hp),fun _ hp=>(by cases hp),rfl⟩
def L6(B:Bx):Bool:=B.all fun p=>match p.2.nms with
 |some l=>l.all fun n=>(AI B).contains n
 |none=>false
theorem NV{B:Bx}(h:L6 B=true){p:Nat×Bk}(hp:p∈B)(n:Nat)(hn:p.2.has n=true):n∈AI B:=by have:=List.all_eq_true.1 h p hp;split at this;rename_i l hl;have:=List.all_eq_true.1 this n (Bk.has_nms hl n hn);simpa using this;cases this
def FO:List A->List (Nat×A)->List A
 |E,[]=>E
 |E,(t,x)::l=>FO (E.set t x) l
theorem N9{h w}{val:Val}:∀(ps:List Nat) (xs:List A) (vs:List Value) (E:List A) (arr:Array Value),RAs h w val xs vs->RAs h w val E arr.toList->
 RAs h w val (FO E (ps.zip xs)) ((ps.zip vs).foldl (fun t p=>t.setIfInBounds p.1 p.2) arr).toList
 |[],xs,vs,E,arr,_,hE=>by simpa[FO]using hE
 |p::ps,[],vs,E,arr,hx,hE=>by
  simp only[RAs]at hx;subst hx;simpa[FO]using hE
 |p::ps,x::xs,vs,E,arr,hx,hE=>by
  simp only[RAs]at hx;obtain⟨u,us,rfl,h1,h2⟩:=hx;simp only[List.zip_cons_cons,FO,List.foldl_cons];refine N9 ps xs us (E.set p x) (arr.setIfInBounds p u) h2 ?_;have:=RAs.set hE p h1;simpa using this
def B8(r:Loop)(o:Option Code):Loop:={r with state:=if o.isNone then .ready else .done,pending:=o}
def DI:Ex->Option Code
 | .normal=>none
 | .exit id=>some (.exit id)
 | .ret=>some .ret
theorem AS.turn{s:St}{h:Hw}{w:World}{val:Val}{a:Act}{g:Nat}{o o':Obj}(H:AS s h w val a)(hg:w.heap[g]? =some o)(ho:o.isCells=false)(hd:Up o=false)(hn:g∉AV val s.all):AS s h (w.putObj g o') val a:=by
 have hk:BS [g] h w h (w.putObj g o'):=CC hg ho (by simp);refine⟨RAs.stays hk.stays _ _ _ H.e,⟨fun p hp=>RB.stays hk.stays (fun b hb=>?_) (H.inv.rep p hp),H.inv.nms,H.inv.bks⟩,H.far,H.defs.keep' hk (fun b hb o2 ho2=>?_) rfl⟩;have hbm:=Inv.blk_mem hp hb;exact hk.far b (H.inv.blk_lt b hbm) fun hin=>by simp only[List.mem_singleton]at hin;exact hn (hin▸hbm)
 simp only[List.mem_singleton]at hb;subst hb;rw[hg]at ho2;cases ho2;exact hd
end Go.Ac
namespace Go.Ac
theorem aDo{P:Program}{l:Nat}{r:Loop}{E:List A}{B B' F F':Bx}{xs:List A}{e:Ex}(M:St)(E1:List A)
 (hps:xs.length=r.params.size) (hxs:EL xs=true) (hB:PJ B=true) (hB':PJ B'=true) (hcl:L6 B'=true) (hn:AI B'=AI B)
 (hF:Far F) (hF':Far F') (hFm:Nmd F) (hFm':Nmd F') (hFc':aLa F') (hFn:AI F'=AI F)
 (hvs:∃k,(k,Bk.vals E r.tmps.toList)∈B)
 (h1:AC P (some l) r.assign ⟨FO E (r.params.toList.zip xs),B,F⟩ fun e s=>e=.normal/\s=M)
 (h2:AC P (some l) r.body M fun e1 s1=>e1=e/\s1=⟨E1,B',F'⟩):
 Fw P l xs (BU l (B8 r none) (B++F)) (.d (D.b (isN e))) (BU l (B8 r (DI e)) (B'++F')):=by
 intro h w val vs hI hargs
 have hnn:AI (B'++F')=AI (B++F):=by rw[AJ,AJ,hn,hFn]
 have hNm:=MR (Jl hB) hFm
 have hNm':=MR (Jl hB') hFm'
 have hcl':∀p∈B'++F',∀m,p.2.has m=true->m∈AI (B'++F'):=fun p hp m hm=>by
  rw[AJ];rcases ma.1 hp with h|h
  exact ml _ (NV hcl h m hm);exact mr _ (hFc' p h m hm)
 obtain⟨hvrn,hrec,_⟩:val rn=.pointer (some ⟨l,0,none⟩)/\w.heap[l]? =some (.loop (B8 r none))/\_:=hI.rep (rn,.obj l _) (.head _)
 have hlw:l<w.heap.size:=(Array.getElem?_eq_some_iff.1 hrec).1
 let vr:Val:=fun n=>if n=bn then .tuple #[]else val (sh n)
 have hvr:∀n,n≠bn->vr n=val (sh n):=fun n hn=>if_neg hn
 have hblkB:AV vr (B++F)=AV (fun n=>val (sh n)) (B++F):=A6 fun n hn=>by obtain⟨p,hp,rfl⟩:=mm.1 hn;exact hvr _ (aG7 hB hF hp).1
 have hbks:=hI.bks
 rw[Cc hvrn,<-hblkB]at hbks
 obtain⟨hlB,hbB⟩:=List.nodup_cons.1 hbks
 have hIB:Inv h w vr (B++F):=by refine⟨fun p hp=>?_,?_,hbB⟩;obtain⟨c1,c2⟩:=aG7 hB hF hp;obtain⟨k,hk⟩:=hNm p hp;exact RB.congr (hvr _ c1) (fun m hm=>hvr m (c2 m hm)) ((Ix p.1 hk).1 (hI.rep (Cq sh p) (.tail _ (mm.2 ⟨p,hp,rfl⟩))));have:=hI.nms;rw[CD]at this;exact Bm _ (List.nodup_cons.1 this).2
 obtain⟨k,hk⟩:=hvs
 have hE:RAs h w vr E r.tmps.toList:=hIB.rep _ (ml _ hk)
 have hargs':RAs h w vr xs vs:=RAs.bare _ _ hxs hargs
 refine⟨_,_,_,_,run_yield hrec (by have:=hargs.length;simp only[List.size_toArray];exact this.trans hps),?_⟩
 refine roundIn_of_wpIn trivial ?_
 have H0:AS ⟨FO E (r.params.toList.zip xs),B,F⟩ h w vr {tmps:=((B8 r none).params.zip ⟨vs⟩).foldl (fun tmps (t,a)=>tmps.setIfInBounds t a) (B8 r none).tmps,defers:=[]}:=by
  refine⟨?_,hIB,hF,CW.nil (by have:vr bn=.tuple #[]:=if_pos rfl;simp[Df,this])⟩;have:=N9 r.params.toList xs vs E r.tmps hargs' hE;have e:((B8 r none).params.zip ⟨vs⟩).foldl (fun tmps (t,a)=>tmps.setIfInBounds t a) (B8 r none).tmps=(r.params.toList.zip vs).foldl (fun t p=>t.setIfInBounds p.1 p.2) r.tmps:=by rw[<-Array.foldl_toList,Array.toList_zip];rfl
  rw[e];exact this
 refine h1 h w vr _ H0 _ ?_
 rintro e1 s1 hh1 w1 v1 a1 ⟨rfl,rfl⟩ H1 n1
 have n1k:BS (AV vr (B++F)) h w hh1 w1:=n1.keep
 have hl1:w1.heap[l]? =some (.loop (B8 r none)):=(n1k.far l hlw hlB).1.trans hrec
 have hlM:l∉AV v1 s1.all:=fun hm=>by
  rcases n1.new l hm with h3|h3
  exact hlB h3;omega
 refine⟨_,run_beginRound hl1 rfl,?_⟩
 have HM:=H1.turn (o':=.loop {B8 r none with state:=.busy}) hl1 rfl rfl hlM
 refine h2 _ _ _ _ HM _ ?_
 rintro e2 s2 hh2 w2 v2 a2 ⟨rfl,rfl⟩ H2 n2
 have hl1s:l<w1.heap.size:=(Array.getElem?_eq_some_iff.1 hl1).1
 have hl2:w2.heap[l]? =some (.loop {B8 r none with state:=.busy}):=(n2.keep.far l (by simpa[World.putObj]using hl1s) hlM).1.trans (World.putObj_heap_same hl1s)
 have hlB':l∉AV v2 (B'++F'):=fun hm=>by
  have:l∈AV v2 (⟨E1,B',F'⟩:St).all:=hm;rcases n2.new l this with h3|h3
  exact hlM h3;simp[World.putObj]at h3;omega
 have H3:=H2.turn (o':=.loop (B8 r (DI e2))) hl2 rfl rfl hlB'
 have hend:∀jump,jump=DI e2->∃v w',(Instr.endRound l jump).run P w2=.ok v w'/\∃h' val' u,Ending.returned v=.returned u/\Inv h' w' val' (BU l (B8 r (DI e2)) (B'++F'))/\RA h' w' val' (.d (D.b (isN e2))) u/\
  BS (AV val (BU l (B8 r none) (B++F))) h w h' w'/\(∀n,n∉AI (BU l (B8 r (DI e2)) (B'++F'))->val' n=val n)/\∀b∈AV val' (BU l (B8 r (DI e2)) (B'++F')),b∈AV val (BU l (B8 r none) (B++F))\/w.heap.size<=b:=by
  rintro jump rfl
  refine⟨_,_,run_endRound (DI e2) hl2,hh2,fun n=>if n∈(AI (B'++F')).map sh then v2 (shi n)else val n,_,rfl,?_⟩
  have hv3:∀n∈AI (B'++F'),(fun n=>if n∈(AI (B'++F')).map sh then v2 (shi n)else val n) (sh n)=v2 n:=fun n hn=>by have hm2:sh n∈(AI (B'++F')).map sh:=mm.2 ⟨n,hn,rfl⟩;simp only[if_pos hm2,OB]
  have hrn:(fun n=>if n∈(AI (B'++F')).map sh then v2 (shi n)else val n) rn=val rn:=if_neg fun hin=>by obtain⟨n,hn,e⟩:=mm.1 hin;exact(aCw n).2.2 e
  generalize hv:(fun n=>if n∈(AI (B'++F')).map sh then v2 (shi n)else val n)=val' at hv3 hrn
  have hbl:AV (fun n=>val' (sh n)) (B'++F')=AV v2 (B'++F'):=A6 fun n hn=>hv3 n hn
  have hblf:AV val' (BU l (B8 r (DI e2)) (B'++F'))=l::AV v2 (B'++F'):=by rw[Cc (hrn.trans hvrn),hbl]
  have hputw:∀o,(w2.putObj l o).heap[l]? =some o:=fun o=>World.putObj_heap_same (Array.getElem?_eq_some_iff.1 hl2).1
  refine⟨⟨fun p hp=>?_,?_,?_⟩,?_,?_,?_,?_⟩
  rcases mc.1 hp with rfl|hp
  exact⟨hrn.trans hvrn,hputw _,rfl⟩
  obtain⟨q,hq,rfl⟩:=mm.1 hp
  have hI3:Inv hh2 (w2.putObj l (.loop (B8 r (DI e2)))) v2 (B'++F'):=H3.inv
  obtain⟨k,hk⟩:=hNm' q hq
  exact(Ix q.1 hk).2 (RB.congr (hv3 _ (mm.2 ⟨q,hq,rfl⟩)) (fun m hm=>hv3 m (hcl' q hq m hm)) (hI3.rep q hq))
  have:=hI.nms
  rw[CD]at this⊢
  rw[hnn];exact this
  rw[hblf]
  exact List.nodup_cons.2 ⟨hlB',H3.inv.bks⟩
  simp only[RA,RD,D.b]
  refine⟨?_,rfl⟩
  cases e2<;>rfl
  have k3:BS [l] hh1 w1 hh1 (w1.putObj l (.loop {B8 r none with state:=.busy})):=CC hl1 rfl (by simp)
  have k4:=n2.keep
  have k5:BS [l] hh2 w2 hh2 (w2.putObj l (.loop (B8 r (DI e2)))):=CC hl2 rfl (by simp)
  rw[Cc hvrn,<-hblkB]
  have hl:∀x,x∈[l]->x∈l::AV vr (B++F):=fun x hx=>by simp at hx;simp[hx]
  have k6:BS (l::AV vr (B++F)) h w hh1 (w1.putObj l (.loop {B8 r none with state:=.busy})):=(n1k.mono' fun x hx=>.inl (List.mem_cons_of_mem _ hx)).trans k3 fun x hx=>.inl (hl x hx)
  have k7:=k6.trans k4 fun x hx=>by
   rcases n1.new x hx with h3|h3
   exact .inl (List.mem_cons_of_mem _ h3);exact .inr h3
  exact k7.trans k5 fun x hx=>.inl (hl x hx)
  intro n hnn
  rw[<-hv]
  refine if_neg fun hin=>hnn ?_
  rw[CD]
  exact List.mem_cons_of_mem _ hin
  intro b hb
  rw[hblf]at hb
  rw[Cc hvrn,<-hblkB]
  rcases mc.1 hb with rfl|hb
  exact .inl (List.mem_cons_self)
  have h4:b∈AV v2 (⟨E1,B',F'⟩:St).all:=hb
  rcases n2.new b h4 with h3|h3
  rcases n1.new b h3 with h5|h5
  exact .inl (List.mem_cons_of_mem _ h5)
  exact .inr h5
  have:=n1k.size
  simp[World.putObj]at h3
  exact .inr (by omega)
 cases e2 with
 |normal=>exact hend none rfl
 |exit id=>exact hend (some (.exit id)) rfl
 |ret=>exact hend (some .ret) rfl
end Go.Ac
namespace Go.Ac
def AIt(P:Program)(gf:FuncId)(cs:List A){ι φ:Type}(enc:ι->List A)(step:φ->ι->Option (φ×Bool))(f0 f1:φ):Prop:=
 ∀(l:Nat) (F:φ->Bx) (N:List Nat),(∀f,FOk (F f) N)->
  (∀f x r,step f x=some r->Fw P l (enc x) (F f) (.d (D.b r.2)) (F r.1))->
  ∃r,IE P gf (.d (.v (.func (.yield l) #[] #[]))::cs) (F f0) r (F f1)
def CP{σ τ ι:Type}(round:σ->ι->Option (σ⊕τ)):σ⊕τ->ι->Option ((σ⊕τ)×Bool)
 | .inr _,_=>none
 | .inl s,x=>match round s x with
  |some (.inl s')=>some (.inl s',true)
  |some (.inr t)=>some (.inr t,false)
  |none=>none
def vn:Nat:=998
theorem Hf{P:Program}{w:World}{a:Act}{g:Operand}{l:Nat}{gf:FuncId}{vs:List Value}(e:a.eval g=.func (.func gf) #[] ⟨vs⟩):
 (resolve a.eval (rangeCall g l) 0).run P w=.ok {target:=.fn (.func gf) ⟨vs⟩,args:= #[.func (.yield l) #[] #[]]} w:=by
 simp only[resolve,e]
 simp[go_sem]
theorem aKb{P:Program}{root:Code}{p:List Nat}{g:Operand}{ps:Array Tmp}{assign body:Code}(hc:As root p=.rangeFunc g ps assign body)
 {σ τ ι:Type} {E:List A} {BL FL:σ->Bx} {BT FT:τ->Bx} {X:τ->Ex} {enc:ι->List A} {round:σ->ι->Option (σ⊕τ)} {gf:FuncId} {cs:List A} {st0:σ} {fin:σ⊕τ}
 (hg:CH (St.ev ⟨E,BL st0,FL st0⟩ g)=some (gf,[],cs)) (hf:aB5 P gf=true) (hcs:EL cs=true)
 (henc:∀x,EL (enc x)=true/\(enc x).length=ps.size)
 (hlowL:∀s us,PJ ((vn,.vals E us)::BL s)=true/\L6 ((vn,.vals E us)::BL s)=true)
 (hlowT:∀t us,PJ ((vn,.vals E us)::BT t)=true/\L6 ((vn,.vals E us)::BT t)=true)
 (hnL:∀s,AI (BL s)=AI (BL st0)) (hnT:∀t,AI (BT t)=AI (BL st0)) (hvn:vn∉AI (BL st0)) (hX:∀t,isN (X t)=false)
 (hFL:∀s,FOk (FL s) (AI (FL st0))) (hFT:∀t,FOk (FT t) (AI (FL st0)))
 (hn:∀s x s',round s x=some (.inl s')->∀l us,∃M E1,AC P (some l) assign ⟨FO E (ps.toList.zip (enc x)),(vn,.vals E us)::BL s,FL s⟩ (fun e s1=>e=.normal/\s1=M)/\
  AC P (some l) body M fun e1 s1=>e1=.normal/\s1=⟨E1,(vn,.vals E us)::BL s',FL s'⟩)
 (hx:∀s x t,round s x=some (.inr t)->∀l us,∃M E1,AC P (some l) assign ⟨FO E (ps.toList.zip (enc x)),(vn,.vals E us)::BL s,FL s⟩ (fun e s1=>e=.normal/\s1=M)/\
  AC P (some l) body M fun e1 s1=>e1=X t/\s1=⟨E1,(vn,.vals E us)::BT t,FT t⟩)
 (hit:AIt P gf cs enc (CP round) (.inl st0) fin):
 AC P none (As root p) ⟨E,BL st0,FL st0⟩ fun e s=>match fin with
  | .inl s'=>e=.normal/\s=⟨E,BL s',FL s'⟩
  | .inr t=>e=X t/\s=⟨E,BT t,FT t⟩:=by
 intro h w val a H Q hQ
 rw[hc]
 refine wpIn_rangeFunc ?_
 intro fn _
 obtain⟨us0,vs,e1,hu0,hcv⟩:=DQ hg (H.ev g)
 simp only[RAs]at hu0
 subst hu0
 let rec0:Loop:={state:=.ready,pending:=none,fn,tmps:=a.tmps,params:=ps,assign,body,defers:=w.heap.size}
 let us:=a.tmps.toList
 let W1:=(w.alloc (.deferred (some []))).alloc (.loop rec0)
 let l:=w.heap.size+1
 --the frame
 let Bf:σ⊕τ->Bx:=fun f=>match f with
  | .inl s=>BL s
  | .inr t=>BT t
 let Ff:σ⊕τ->Bx:=fun f=>match f with
  | .inl s=>FL s
  | .inr t=>FT t
 let jf:σ⊕τ->Option Code:=fun f=>match f with
  | .inl _=>none
  | .inr t=>DI (X t)
 let Al:σ⊕τ->Bx:=fun f=>((vn,.vals E us)::Bf f)++Ff f
 let F:σ⊕τ->Bx:=fun f=>BU l (B8 rec0 (jf f)) (Al f)
 have hlow:∀f,PJ ((vn,.vals E us)::Bf f)=true/\L6 ((vn,.vals E us)::Bf f)=true:=fun f=>by
  cases f with
  |inl s=>exact hlowL s us
  |inr t=>exact hlowT t us
 have hFf:∀f,FOk (Ff f) (AI (FL st0)):=fun f=>by
  cases f with
  |inl s=>exact hFL s
  |inr t=>exact hFT t
 have hnB:∀f,AI (Bf f)=AI (BL st0):=fun f=>by
  cases f with
  |inl s=>exact hnL s
  |inr t=>exact hnT t
 have hnA:∀f,AI (Al f)=vn::AI (BL st0)++AI (FL st0):=fun f=>by show AI (((vn,.vals E us)::Bf f)++Ff f)=_;rw[AJ,(hFf f).nms];show vn::AI (Bf f)++_=_;rw[hnB]
 have hNm:∀f,Nmd (Al f):=fun f=>MR (Jl (hlow f).1) (hFf f).nmd
 have hclA:∀f,∀q∈Al f,∀m,q.2.has m=true->m∈AI (Al f):=fun f q hq m hm=>by
  show m∈AI (((vn,.vals E us)::Bf f)++Ff f);rw[AJ];rcases ma.1 hq with h|h
  exact ml _ (NV (hlow f).2 h m hm);exact mr _ ((hFf f).cls q h m hm)
 have hnbn:∀f,∀q∈Al f,q.1≠bn/\∀m,q.2.has m=true->m≠bn:=fun f q hq=>aG7 (hlow f).1 (hFf f).far hq
 have hnF:∀f,AI (F f)=rn::(vn::AI (BL st0)++AI (FL st0)).map sh:=fun f=>by show AI (BU _ _ _)=_;rw[CD,hnA]
 have hclF:∀f,aLa (F f):=by
  intro f q hq m hm;rcases mc.1 hq with rfl|hq
  simp[Bk.has]at hm;obtain⟨q',hq',rfl⟩:=mm.1 hq;obtain⟨k,hk⟩:=hNm f q' hq';obtain⟨n,h3,h4⟩:=Bk.has_mapN hk m hm;show m∈AI (BU _ _ _);rw[CD];exact List.mem_cons_of_mem _ (mm.2 ⟨n,hclA f q' hq' n h3,h4⟩)
 have hY:∀f x r,CP round f x=some r->Fw P l (enc x) (F f) (.d (D.b r.2)) (F r.1):=by
  intro f x r hr;cases f with
  |inr t=>simp[CP]at hr
  |inl s=>
   simp only[CP]at hr
   have hnn:∀f',AI ((vn,Bk.vals E us)::Bf f')=AI ((vn,Bk.vals E us)::BL s):=fun f'=>by show vn::AI (Bf f')=vn::AI (BL s);rw[hnB,hnL s]
   have hfn:∀f',AI (Ff f')=AI (FL s):=fun f'=>by rw[(hFf f').nms,(hFL s).nms]
   have o1:=hFf (.inl s)
   split at hr
   rename_i s' hs
   simp only[oe]at hr
   subst hr
   obtain⟨M,E1,g1,g2⟩:=hn s x s' hs l us
   have o2:=hFf (.inl s')
   exact aDo (r:=rec0) (e:=.normal) M E1 (henc x).2 (henc x).1 (hlow (.inl s)).1 (hlow (.inl s')).1 (hlow (.inl s')).2 (hnn (.inl s')) o1.far o2.far o1.nmd o2.nmd o2.cls (hfn (.inl s')) ⟨vn,.head _⟩ g1 g2
   rename_i t hs
   simp only[oe]at hr
   subst hr
   obtain⟨M,E1,g1,g2⟩:=hx s x t hs l us
   have o2:=hFf (.inr t)
   have:=aDo (r:=rec0) (e:=X t) M E1 (henc x).2 (henc x).1 (hlow (.inl s)).1 (hlow (.inr t)).1 (hlow (.inr t)).2 (hnn (.inr t)) o1.far o2.far o1.nmd o2.nmd o2.cls (hfn (.inr t)) ⟨vn,.head _⟩ g1 g2
   rw[hX t]at this
   exact this
   cases hr
 obtain⟨r,hcall⟩:=hit l F _ (fun f=>⟨Ud (hNm f),VE (hNm f),hclF f,hnF f⟩) hY
 --the record and the block are laid
 let h1:Hw:=ES (ES h w.heap.size 0) (w.alloc (.deferred (some []))).heap.size 0
 have k1:BS [] h w h1 W1:=(C0 [] h w (.deferred (some [])) 0).trans (C0 [] _ (w.alloc (.deferred (some []))) (.loop rec0) 0) (fun x hx=>by cases hx)
 have hsz1:W1.heap.size=w.heap.size+2:=by simp[W1]
 have hlW:W1.heap[l]? =some (.loop rec0):=by have:=World.alloc_heap_new (w.alloc (.deferred (some []))) (.loop rec0);rwa [World.size_alloc]at this
 have hDW:W1.heap[w.heap.size]? =some (.deferred (some [])):=(heap_alloc_old (w.alloc (.deferred (some []))) (.loop rec0) (by simp)).trans (World.alloc_heap_new w _)
 let vF:Val:=fun n=>if n=rn then .pointer (some ⟨l,0,none⟩)else val (shi n)
 have hvrn:vF rn=.pointer (some ⟨l,0,none⟩):=if_pos rfl
 have hvsh:∀n,vF (sh n)=val n:=fun n=>by
  show(if sh n=rn then _ else val (shi (sh n)))=_
  rw[if_neg (show sh n≠rn from(aCw n).2.2),OB]
 have hBL:Inv h w val (BL st0++FL st0):=H.inv
 have hIB:Inv h1 W1 val (Al (.inl st0)):=by
  refine⟨fun q hq=>?_,?_,?_⟩;rcases mc.1 hq with rfl|hq
  exact RAs.stays k1.stays _ _ _ H.e;exact(hBL.quiet k1).rep q hq;refine List.nodup_cons.2 ⟨?_,hBL.nms⟩;show vn∉AI (BL st0++FL st0);rw[AJ];intro hin;rcases ma.1 hin with h|h
  exact hvn h;obtain⟨q,hq,e⟩:=mm.1 h;exact((hFL st0).far vn (.inl (by decide)) q hq).1 e;exact hBL.bks
 have hblF0:AV vF (F (.inl st0))=l::AV val (BL st0++FL st0):=by show AV vF (BU _ _ _)=_;rw[Cc hvrn];congr 1;show AV (fun n=>vF (sh n)) (((vn,Bk.vals E us)::BL st0)++FL st0)=_;have:AV (fun n=>vF (sh n)) (((vn,Bk.vals E us)::BL st0)++FL st0)=AV (fun n=>vF (sh n)) (BL st0++FL st0):=rfl;rw[this];exact A6 fun n hn=>hvsh n
 have hltB:∀b∈AV val (BL st0++FL st0),b<w.heap.size:=hBL.blk_lt
 have hIF:Inv h1 W1 vF (F (.inl st0)):=by
  refine⟨fun q hq=>?_,?_,?_⟩;rcases mc.1 hq with rfl|hq
  exact⟨hvrn,hlW,rfl⟩;obtain⟨q',hq',rfl⟩:=mm.1 hq;obtain⟨k,hk⟩:=hNm (.inl st0) q' hq';exact(Ix q'.1 hk).2 (RB.congr (hvsh _) (fun m _=>hvsh m) (hIB.rep q' hq'));show(AI (BU _ _ _)).Nodup;rw[CD];refine List.nodup_cons.2 ⟨fun hin=>?_,C3 (fun x hx y hy e=>aKw e) hIB.nms⟩;obtain⟨n,hn,e⟩:=mm.1 hin;exact(aCw n).2.2 e;rw[hblF0];exact List.nodup_cons.2 ⟨fun hin=>by have:=hltB l hin;simp only[l]at this;omega,hBL.bks⟩
 have hargs:RAs h1 W1 vF (.d (.v (.func (.yield l) #[] #[]))::cs) (.func (.yield l) #[] #[]::vs):=by simp only[RAs];exact⟨_,_,rfl,by simp[RA,RD,Value.oneCell'],RAs.bare _ _ hcs (RAs.stays k1.stays _ _ _ hcv)⟩
 have hC:=hcall h1 W1 vF _ hIF hargs
 refine⟨l,[{target:=.collected w.heap.size,args:= #[]}],W1,{target:=.fn (.func gf) ⟨vs⟩,args:= #[.func (.yield l) #[] #[]]},W1,gf,#[.func (.yield l) #[] #[]]++⟨vs⟩,W1,?_,Hf e1,fun _ _=>trivial,?_,Fr none,?_⟩
 exact run_enterLoop_outer _ _ _ _ _
 simp[invoke,go_sem,Fg hf]
 have he:(#[.func (.yield l) #[] #[]]++⟨vs⟩:Array Value)=⟨.func (.yield l) #[] #[]::vs⟩:=by apply Array.ext';simp
 rw[he]
 refine(IT hC).mono ?_
 rintro e w' ⟨h',val',u,rfl,hI',hr,hk,hv,hnew⟩
 obtain⟨hvl,hl',_⟩:val' rn=.pointer (some ⟨l,0,none⟩)/\w'.heap[l]? =some (.loop (B8 rec0 (jf fin)))/\_:=hI'.rep (rn,.obj l (.loop (B8 rec0 (jf fin)))) (.head _)
 refine⟨_,_,run_endLoop hl' (by simp only[B8];split<;>exact fun e=>by cases e),?_⟩
 generalize hW4:w'.putObj l (.loop {B8 rec0 (jf fin)with state:=.exhausted})=W4
 have k5:BS [l] h' w' h' W4:=by rw[<-hW4];exact CC hl' rfl (by simp)
 have kT:BS (AV val (BL st0++FL st0)) h w h' W4:=by
  rw[hblF0]at hk;have k6:BS (AV val (BL st0++FL st0)) h w h1 W1:=k1.mono' fun x hx=>by cases hx
  have hle:∀x,x=l->w.heap.size<=x:=fun x e=>by rw[e];simp only[l];omega
  have k7:=k6.trans hk fun x hx=>by
   rcases mc.1 hx with e|hx
   exact .inr (hle x e);exact .inl hx
  exact k7.trans k5 fun x hx=>.inr (hle x (by simpa using hx))
 let v2:Val:=fun n=>if n=bn then val n else val' (sh n)
 have hv2:∀n,n≠bn->v2 n=val' (sh n):=fun n hn=>if_neg hn
 have hv2':v2 bn=val bn:=if_pos rfl
 have hlf:=hlow fin
 have hbf:=hI'.bks
 have ebf:AV val' (F fin)=l::AV v2 (Bf fin++Ff fin):=by
  show AV val' (BU _ _ _)=_;rw[Cc hvl];congr 1;have:AV (fun n=>val' (sh n)) (((vn,Bk.vals E us)::Bf fin)++Ff fin)=AV (fun n=>val' (sh n)) (Bf fin++Ff fin):=rfl;show AV (fun n=>val' (sh n)) (((vn,Bk.vals E us)::Bf fin)++Ff fin)=_;rw[this];exact(A6 fun n hn=>by obtain⟨q,hq,rfl⟩:=mm.1 hn;exact hv2 _ (hnbn fin q (.tail _ hq)).1).symm
 rw[ebf]at hbf
 obtain⟨hlb,hbb⟩:=List.nodup_cons.1 hbf
 have hIw:Inv h' w' v2 (Bf fin++Ff fin):=by refine⟨fun q hq=>?_,?_,hbb⟩;obtain⟨c1,c2⟩:=hnbn fin q (.tail _ hq);obtain⟨k,hk⟩:=hNm fin q (.tail _ hq);exact RB.congr (hv2 _ c1) (fun m hm=>hv2 m (c2 m hm)) ((Ix q.1 hk).1 (hI'.rep (Cq sh q) (.tail _ (mm.2 ⟨q,.tail _ hq,rfl⟩))));rw[AJ,hnB,(hFf fin).nms,<-AJ];exact hBL.nms
 have hE':RAs h' w' v2 E us:=by obtain⟨k,hk⟩:=hNm fin (vn,.vals E us) (.head _);have h3:RAs h' w' val' (Bw sh E) us:=hI'.rep (Cq sh (vn,.vals E us)) (.tail _ (.head _));exact RAs.congr _ _ (fun n hn=>hv2 n ((hnbn fin (vn,.vals E us) (.head _)).2 n hn)) ((Cu E k hk us).1 h3)
 have HF:AS ⟨E,Bf fin,Ff fin⟩ h' W4 v2 {a with defers:=[{target:=.collected w.heap.size,args:= #[]}]++a.defers}:=by
  refine⟨RAs.stays k5.stays _ _ _ hE',?_,(hFf fin).far,?_⟩;show Inv h' W4 v2 (Bf fin++Ff fin);refine⟨fun q hq=>RB.stays k5.stays (fun b hb=>?_) (hIw.rep q hq),hIw.nms,hIw.bks⟩;have hbm:=Inv.blk_mem hq hb;exact k5.far b (hIw.blk_lt b hbm) fun hin=>by simp only[List.mem_singleton]at hin;exact hlb (hin▸hbm)
  obtain⟨hb0,Ds,eD,hDn,hD⟩:=H.defs;have hbd:Df v2=Df val:=by unfold Df;rw[hv2']
  have hDlt:∀D∈Ds,D<w.heap.size:=fun D hm=>(Array.getElem?_eq_some_iff.1 (hD D hm).1).1;refine⟨by rw[hbd];exact Nat.le_trans hb0 kT.size,w.heap.size::Ds,by simp[eD],List.nodup_cons.2 ⟨fun hm=>Nat.lt_irrefl _ (hDlt _ hm),hDn⟩,fun D hm=>?_⟩;rcases mc.1 hm with rfl|hm
  refine⟨?_,by rw[hbd];exact hb0⟩;have hlt2:w.heap.size<W1.heap.size:=by omega
  have c1:=(hk.far _ hlt2 fun hin=>by
   rw[hblF0]at hin;rcases mc.1 hin with e|hin
   simp only[l]at e;omega;exact Nat.lt_irrefl _ (hltB _ hin)).1
  have c2:=(k5.far w.heap.size (Nat.lt_of_lt_of_le hlt2 hk.size) fun hin=>by simp only[List.mem_singleton,l]at hin;omega).1;exact c2.trans (c1.trans hDW);refine⟨(kT.far D (hDlt D hm) fun hin=>?_).1.trans (hD D hm).1,by rw[hbd];exact(hD D hm).2⟩;have:=hBL.blk_def D hin _ (hD D hm).1;cases this
 have NF:Nx ⟨E,BL st0,FL st0⟩ h w val ⟨E,Bf fin,Ff fin⟩ h' W4 v2:=by
  refine⟨kT,fun n hn=>by rw[show n=bn from hn];exact hv2',fun b hb=>?_⟩;have hb':b∈AV v2 (Bf fin++Ff fin):=hb;have h3:b∈AV val' (F fin):=by rw[ebf];exact List.mem_cons_of_mem _ hb'
  show b∈AV val (BL st0++FL st0)\/_;rcases hnew b h3 with h4|h4
  rw[hblF0]at h4;rcases mc.1 h4 with e|h4
  exact .inr (by rw[e];simp only[l];omega);exact .inl h4;exact .inr (by omega)
 cases hfin:fin with
 |inl s'=>
  subst hfin
  exact hQ .normal _ h' W4 v2 _ ⟨rfl,rfl⟩ HF NF
 |inr t=>
  subst hfin
  have hXt:=hX t
  cases hXe:X t with
  |normal=>rw[hXe]at hXt;cases hXt
  |exit id=>
   have:=hQ (.exit id) _ h' W4 v2 _ ⟨hXe.symm,rfl⟩ HF NF
   simp only[B8,jf,hXe,DI]
   exact wpIn_exit this
  |ret=>
   have:=hQ .ret _ h' W4 v2 _ ⟨hXe.symm,rfl⟩ HF NF
   simp only[B8,jf,hXe,DI]
   exact wpIn_ret this
end Go.Ac
namespace Go.Ac
theorem Dl{P:Program}{rd:Option Nat}{root:Code}{p:List Nat}{s s' t t':St}{e e':Ex}(h:C6 P rd root p s e t)(h1:s=s')(h2:e=e')(h3:t=t'):C6 P rd root p s' e' t':=by subst h1;subst h2;subst h3;exact h
theorem Wk.perm{E:List A}{B B' F:Bx}(hp:B.Perm B'):Wk ⟨E,B,F⟩ ⟨E,B',F⟩:=fun h w val a H=>
 ⟨h,val,AS.perm (s:=⟨E,B,F⟩) hp H,Nx.perm (s':=⟨E,B,F⟩) hp (Nx.refl _ h w val rfl)⟩
def rex{σ τ:Type}(X:τ->Ex):σ⊕τ->Ex
 | .inl _=>.normal
 | .inr t=>X t
def rbx{σ τ:Type}(BL:σ->Bx)(BT:τ->Bx):σ⊕τ->Bx
 | .inl s=>BL s
 | .inr t=>BT t
theorem N4{P:Program}{root:Code}{p:List Nat}{g:Operand}{ps:Array Tmp}{assign body:Code}(hc:As root p=.rangeFunc g ps assign body)
 {σ τ ι:Type} {E:List A} (BL:σ->Bx) (BT:τ->Bx) (FL:σ->Bx) (FT:τ->Bx) (X:τ->Ex) (enc:ι->List A) (round:σ->ι->Option (σ⊕τ)) {gf:FuncId} {cs:List A} {st0:σ} {fin:σ⊕τ}
 (hg:CH (St.ev ⟨E,BL st0,FL st0⟩ g)=some (gf,[],cs)) (hf:aB5 P gf=true) (hcs:EL cs=true)
 (henc:∀x,EL (enc x)=true/\(enc x).length=ps.size)
 (hlowL:∀s us,(PJ ((vn,.vals E us)::BL s)&&L6 ((vn,.vals E us)::BL s))=true)
 (hlowT:∀t us,(PJ ((vn,.vals E us)::BT t)&&L6 ((vn,.vals E us)::BT t))=true)
 (hnL:∀s,AI (BL s)=AI (BL st0)) (hnT:∀t,AI (BT t)=AI (BL st0)) (hvn:Ax vn (AI (BL st0))=false) (hX:∀t,isN (X t)=false)
 (hFL:∀s,FOk (FL s) (AI (FL st0))) (hFT:∀t,FOk (FT t) (AI (FL st0)))
 (hr:∀s x o,round s x=some o->∀l us,∃M E1,C6 P (some l) root (0::p) ⟨FO E (ps.toList.zip (enc x)),BL s++[(vn,.vals E us)],FL s⟩ .normal M/\
  C6 P (some l) root (1::p) M (rex X o) ⟨E1,rbx BL BT o++[(vn,.vals E us)],rbx FL FT o⟩)
 (hit:AIt P gf cs enc (CP round) (.inl st0) fin):
 C6 P none root p ⟨E,BL st0,FL st0⟩ (rex X fin) ⟨E,rbx BL BT fin,rbx FL FT fin⟩:=by
 have ha:As root (0::p)=assign:=by simp only[As,hc,Hz]
 have hb:As root (1::p)=body:=by simp only[As,hc,Hz]
 have hpm:∀(B:Bx) us,(B++[(vn,Bk.vals E us)]).Perm ((vn,.vals E us)::B):=fun B us=>List.perm_append_comm
 have key:∀s x o,round s x=some o->∀l us,∃M E1,AC P (some l) assign ⟨FO E (ps.toList.zip (enc x)),(vn,.vals E us)::BL s,FL s⟩ (fun e s1=>e=.normal/\s1=M)/\
  AC P (some l) body M fun e1 s1=>e1=rex X o/\s1=⟨E1,(vn,.vals E us)::rbx BL BT o,rbx FL FT o⟩:=by
  intro s x o ho l us
  obtain⟨M,E1,h1,h2⟩:=hr s x o ho l us
  refine⟨M,E1,?_,?_⟩
  unfold C6 at h1
  rw[ha]at h1
  exact AC.wk (Wk.perm (hpm (BL s) us).symm) h1
  unfold C6 at h2
  rw[hb]at h2
  exact h2.post fun e s1 hh=>⟨_,by rw[hh.2];exact Wk.perm (hpm _ us),hh.1,rfl⟩
 have hand:∀{a b:Bool},(a&&b)=true->a=true/\b=true:=fun h=>by simpa using h
 have:=aKb (P:=P) (root:=root) (p:=p) hc (BL:=BL) (BT:=BT) (FL:=FL) (FT:=FT) (X:=X) (enc:=enc) (round:=round) (st0:=st0) (fin:=fin) hg hf hcs henc (fun s us=>hand (hlowL s us)) (fun t us=>hand (hlowT t us)) hnL hnT
  (BV hvn) hX hFL hFT (fun s x s' h=>key s x _ h) (fun s x t h=>key s x _ h) hit
 unfold C6
 refine this.mono fun e s1 hh=>?_
 cases fin with
 |inl s'=>exact hh
 |inr t=>exact hh
end Go.Ac
namespace Go.Ac
theorem Fd{P:Program}{rd:Option Nat}{root:Code}{p:List Nat}{w:List Ws}{s s1 s':St}{e:Ex}(hw:wks w s=some s1)(h:C6 P rd root p s1 e s'):C6 P rd root p s e s':=AC.wk (Ir hw) h
end Go.Ac
namespace Go.Ac
open Go.Proofs Go.Shelf Go.RowKit Go.Lib Go.Sort

def Bb(w:World)(b:Nat)(e:TypeId)(cur:List Value):Prop:=w.heap[b]? =some (.cells ⟨cur⟩ e (0,0))
section
variable {w:World} {b:Nat} {e:TypeId} {cur:List Value}
theorem Bb.cell(h:Bb w b e cur)(j:Nat):w.cell? ⟨b,j,none⟩=cur[j]? :=by rw[cell_of_row w b j ⟨cur⟩ e (0,0) h];simp
theorem Bb.thawed(h:Bb w b e cur)(j:Nat):w.frozen? ⟨b,j,none⟩=false:=by unfold World.frozen?;rw[show w.heap[b]? =_ from h];simp
theorem Bb.shape(h:Bb w b e cur):w.shape? b=some (e,cur.length):=by unfold World.shape?;rw[show w.heap[b]? =_ from h];simp
theorem Bb.lt(h:Bb w b e cur):b<w.heap.size:=(Array.getElem?_eq_some_iff.1 h).1
theorem Bb.drew(h:Bb w b e cur):Bb w.drew b e cur:=h
theorem Bb.set1(h:Bb w b e cur)(o:Nat)(v:Value):Bb (w.setCell ⟨b,o,none⟩ v) b e (cur.set o v):=by unfold Bb at h⊢;simp[World.setCell,Array.getElem?_modify,h]
end
theorem Bb.set{b:Nat}{e:TypeId}:∀(vs:List Value) {w:World} {cur:List Value} (o:Nat),Bb w b e cur->o+vs.length<=cur.length->
 Bb (w.setCells b o vs) b e (cur.take o++vs++cur.drop (o+vs.length))
 |[],w,cur,o,h,hl=>by simpa[World.setCells]using h
 |v::vs,w,cur,o,h,hl=>by
  rw[World.setCells];have hl':o+1+vs.length<=cur.length:=by simpa[Nat.add_assoc,Nat.add_comm,Nat.add_left_comm]using hl
  have h1:=Bb.set vs (o+1) (h.set1 o v) (by simpa using hl');have e1:(cur.set o v).take (o+1)=cur.take o++[v]:=by rw[List.take_set,List.take_succ_eq_append_getElem (by omega),List.set_append_right _ _ (by simp;omega)];simp[Nat.min_eq_left (show o<=cur.length by omega)]
  have e2:(cur.set o v).drop (o+1+vs.length)=cur.drop (o+(v::vs).length):=by rw[List.drop_set_of_lt (by omega)];congr 1;simp;omega
  rw[e1,e2]at h1;simpa using h1
theorem Bu(b:Nat):∀(vs:List Value) (o:Nat) (w:World),(w.setCells b o vs).os=w.os/\(w.setCells b o vs).tape=w.tape/\(w.setCells b o vs).output=w.output/\
 (w.setCells b o vs).heap.size=w.heap.size/\∀x,x≠b->(w.setCells b o vs).heap[x]? =w.heap[x]?
 |[],o,w=>⟨rfl,rfl,rfl,rfl,fun _ _=>rfl⟩
 |v::vs,o,w=>by
  rw[World.setCells];obtain⟨a1,a2,a3,a4,a5⟩:=Bu b vs (o+1) (w.setCell ⟨b,o,none⟩ v);refine⟨a1,a2,a3,a4.trans (World.size_setCell _ _ _),fun x hx=>(a5 x hx).trans ?_⟩;simp[World.setCell,Array.getElem?_modify,Ne.symm hx]

theorem DW(z:Array Value)(n:Nat):(Builtin.zeroCells z n).toList.length=n*z.size:=by simp[Builtin.zeroCells]
structure Vl(P:Program)(t e:TypeId)(i:TypeInfo)(z:Value):Prop where
 ht:P.underlying t=some (.slice e)
 hi:P.info? e=some i
 hz:i.zero=some z
 hzs:z.cells.size=i.size
 h1:∀v∈z.cells,v.oneCell'=true

end Go.Ac
namespace Go.Ac
open Go.Proofs Go.Shelf Go.RowKit Go.Lib Go.Sort

theorem FN{X:Bx}{m:Nat}{e:TypeId}{k:Nat}{ys:List D}{h:Hw}{w:World}{val:Val}{v v':Value}{w':World}{us':List Value}
 (hm:m∉AI X) (hh:∀g,v.ownBlock=some g->h g=0) (hM:∀g,v.ownBlock=some g->g∈AV val X)
 (hown':w'.ownsRow 0 e k v' ys.length us') (hrow':Ah h w k ys us')
 (hcase:∀g,v'.ownBlock=some g->v.ownBlock=some g\/w.heap.size<=g) (hgrow:w.grownBy w' v.ownBlock):
 ∃h' val' u,Ending.returned v'=.returned u/\Inv h' w' val' [(m,.rw e k ys)]/\RA h' w' val' (.row m) u/\BS (AV val X) h w h' w'/\
  (∀n,(n∈AI [(m,Bk.rw e k ys)]->n∈AI X)->val' n=val n)/\∀b∈AV val' [(m,.rw e k ys)],b∈AV val X\/w.heap.size<=b:=by
 let h':Hw:=fun b=>if v'.ownBlock=some b then 0 else h b
 have hvm:Ar val m v' m=v':=by simp[Ar]
 have hkeep0:BS v.ownBlock.toList h w h' w':=by
  refine⟨hgrow.os,hgrow.tape,hgrow.output,hgrow.size,fun b j x hj hcx=>?_,fun b hb=>?_,fun b hb hn=>?_⟩;by_cases hvb:some b=v.ownBlock;rw[hh b hvb.symm]at hj;exact absurd hj (Nat.not_lt_zero _);rw[World.cell?_of_block (w:=w) (a:=⟨b,j,none⟩) (hgrow.block b (EM hcx) hvb)];exact hcx;show h b<=if v'.ownBlock=some b then _ else h b
  split;rename_i hvb;rcases hcase b hvb with h1|h1
  rw[hh b h1];exact Nat.le_refl _;omega;exact Nat.le_refl _;have hn':some b≠v.ownBlock:=fun e=>hn (by rw[<-e];simp);refine⟨hgrow.block b hb hn',?_⟩;show(if v'.ownBlock=some b then _ else h b)=h b
  rw[if_neg fun hvb=>?_];rcases hcase b hvb with h1|h1
  exact hn' h1.symm;omega
 have hkeep:BS (AV val X) h w h' w':=hkeep0.mono' fun x hx=>by
  cases hvo:v.ownBlock with
  |none=>simp[hvo]at hx
  |some g=>simp[hvo]at hx;subst hx;exact .inl (hM _ hvo)
 have hvbv:Bs v'=v'.ownBlock:=CF hown'
 have hlen:us'.length=ys.length*k:=Ah.length hrow'
 have hbl:AV (Ar val m v') [(m,.rw e k ys)]=v'.ownBlock.toList:=by unfold AV Ae;simp only[List.filterMap_cons,List.filterMap_nil,Bk.isOld,hvm,hvbv];cases v'.ownBlock<;>rfl
 refine⟨h',Ar val m v',v',rfl,⟨?_,by simp[AI],?_⟩,?_,hkeep,?_,?_⟩
 intro p hp
 simp only[List.mem_singleton]at hp
 subst hp
 refine⟨us',by rw[hvm];exact hown',Ah.stays hkeep0.stays _ _ _ hrow',fun g hg=>?_⟩
 rw[hvm]at hg
 show(if v'.ownBlock=some g then _ else h g)=_
 rw[if_pos hg]
 rw[hbl];cases v'.ownBlock<;>simp
 simp only[RA,hvm]
 exact⟨trivial,.inl (B0 hown')⟩
 intro n hn
 by_cases e:n=m
 subst e;exact absurd (hn (by simp[AI])) hm
 simp[Ar,e]
 intro b hb
 rw[hbl]at hb
 have hb':v'.ownBlock=some b:=by cases hq:v'.ownBlock with
  |none=>rw[hq]at hb;simp at hb
  |some g=>rw[hq]at hb;simp at hb;rw[hb]
 rcases hcase b hb' with h1|h1
 exact .inl (hM b h1)
 exact .inr h1

theorem Jw{P:Program}{t e:TypeId}{k by_:Nat}(ht:P.underlying t=some (.slice e))
 (hq:(P.info? e).map (fun i=>(i.size,i.bytes,i.zero.map (·.cells.size),i.zero.map (fun z=>z.cells.all (·.oneCell'))))=some (k,by_,some k,some true)):
 ∃i z,Vl P t e i z/\i.size=k/\i.bytes=by_:=by
 simp only[om,pe]at hq
 obtain⟨i,hi,h1,h2,⟨z,hz,hzs⟩,⟨z',hz',hza⟩⟩:=hq
 rw[hz]at hz'
 cases hz'
 refine⟨i,z,⟨ht,hi,hz,hzs.trans h1.symm,fun v hv=>?_⟩,h1,h2⟩
 rw[Array.all_eq_true']at hza
 exact hza v hv
end Go.Ac
namespace Go.Ac
open Go.Proofs Go.Shelf Go.RowKit Go.Lib Go.Sort
section
variable {P:Program} {ρ:Ren}
theorem D9(w:World)(dT sT ty elem:TypeId)(b o dLen dCap:Nat)(a:Addr)(sLen sCap:Nat)(cs:List Value)(i:TypeInfo)
 (hu:P.underlying dT=some (.slice elem)) (hi:P.info? elem=some i) (hn:cs.length=Nat.min sLen dLen*i.size)
 (hsrc:∀j v,cs[j]? =some v->w.cell? (a.add j)=some v) (hc:∀j,j<cs.length->(w.cell? ⟨b,o+j,none⟩).isSome=true) (hf:∀j,j<cs.length->w.frozen? ⟨b,o+j,none⟩=false) (h1:∀v∈cs,v.oneCell'=true):
 (Builtin.copy_ #[dT,sT] ty #[.slice (some ⟨b,o,none⟩) dLen dCap,.slice (some a) sLen sCap]).run P w=.ok (goInt (Nat.min sLen dLen)) (w.setCells b o cs):=by
 have hl:=run_firstCells_some (P:=P) w i.size (Nat.min sLen dLen) a sLen sCap cs (by omega) hsrc
 have hst:=run_storeCells_cells (P:=P) b o cs 0 w (by simpa using hc) (by simpa using hf) h1
 simp[Builtin.copy_,run_underlying hu,Builtin.lenOf,sizeOf,typeInfo,hi,hl,hst]

set_option maxHeartbeats 4000000 in
set_option maxRecDepth 100000 in
theorem Uk{e:TypeId}{i0:TypeInfo}{z:Value}(mixed:P.follows .mixedOrders=true)(FB:Bears P (ρ.f 22) (Body2.n22 ρ))
 (t3:P.underlying (ρ.t 3)=some (.int .i64)) (t4:P.underlying (ρ.t 4)=some .bool) (T:Vl P (ρ.t 24) e i0 z) (w:World) (ad:Option Addr) (n cap:Nat) (us:List Value) (a:Addr) (m vc:Nat) (vs:List Value)
 (hown:w.ownsRow 0 e i0.size (.slice ad n cap) n us) (hm:0<m) (hvl:vs.length=m*i0.size) (hvs:∀j u,vs[j]? =some u->w.cell? (a.add j)=some u) (h1v:∀u∈vs,u.oneCell'=true)
 (h63:n+m<=maxLen) (hbytes:(n+m)*i0.bytes<=140737488355328):
 Calls P (ρ.f 22) #[.slice ad n cap,.int .i64 n,.slice (some a) m vc] w fun ex w'=>∃v',ex=.returned v'/\w'.ownsRow 0 e i0.size v' (n+m) (us++vs)/\
  (((v'.ownBlock=(Value.slice ad n cap).ownBlock/\w.grownBy w' (Value.slice ad n cap).ownBlock)\/(v'.ownBlock=some w.heap.size/\w.grownBy w' none))):=by
 have t24:=T.ht
 have a24:∀w,(isAgg (ρ.t 24)).run P w=.ok false w:=fun w=>A0 (by simp[Cj,t24]) w
 have a3:∀w,(isAgg (ρ.t 3)).run P w=.ok false w:=fun w=>A0 (by simp[Cj,t3]) w
 have a4:∀w,(isAgg (ρ.t 4)).run P w=.ok false w:=fun w=>A0 (by simp[Cj,t4]) w
 have z9:∀w,(Go.sizeOf e).run P w=.ok i0.size w:=fun w=>by simp[sizeOf,typeInfo,T.hi]
 have hz1:¬((m:Int)=0):=by omega
 have hn:n<=cap:=by
  rcases hown.2 with⟨h,h0⟩|⟨g,cap',cur,h,_,_,h1,_⟩
  omega;cases h;exact h1
 obtain⟨v',w',hr,ho,hcase⟩:=DE (P:=P) w (ρ.t 24) (ρ.t 24) e i0 z t24 T.hi T.hz T.hzs (.slice ad n cap) n us hown a m vc vs hvl hvs h1v h63 hbytes
 obtain⟨PQ,hPQ⟩:∃PQ:Value->World->Prop,∀a b,PQ a b↔(b.ownsRow 0 e i0.size a (n+m) (us++vs)/\
  (((a.ownBlock=(Value.slice ad n cap).ownBlock/\w.grownBy b (Value.slice ad n cap).ownBlock)\/(a.ownBlock=some w.heap.size/\w.grownBy b none)))):=⟨_,fun _ _=>Iff.rfl⟩
 have hX:Hid (PQ v' w'):=(hPQ _ _).2 ⟨ho,hcase⟩
 have hr':Hid ((Builtin.append_ #[ρ.t 24,ρ.t 24] (ρ.t 24) #[.slice ad n cap,.slice (some a) m vc]).run P w=.ok v' w'):=hr
 suffices h:Calls P (ρ.f 22) #[.slice ad n cap,.int .i64 n,.slice (some a) m vc] w fun ex w'=>∃v',ex=.returned v'/\PQ v' w' from
  h.mono fun ex w' ⟨v',h1,h2⟩=>⟨v',h1,(hPQ _ _).1 h2⟩
 have hnil:ad=none->n=0:=by
  intro h;subst h;rcases hown.2 with⟨_,h0⟩|⟨g,cap',cur,h,_⟩
  exact h0;cases h
 clear hr ho hcase hown hvs h1v hvl hPQ h63 hbytes T
 obtain⟨_,_,FG⟩:=FB
 go_enter FG,Body2.n22_ntmps ρ
 cases ad with
 |none=>
  have h0:=hnil rfl
  subst h0
  go_wp2_with (at_builtin;refine Lib.wpList_append_run _ rfl _ _ _ _ rfl _ _ rfl rfl _ _ hr'.out ?_)
  go_ret
  exact⟨_,rfl,hX.out⟩
 |some a=>
  obtain⟨ab,ao,asp⟩:=a
  go_wp2_with (at_builtin;refine Lib.wpList_append_run _ rfl _ _ _ _ rfl _ _ rfl rfl _ _ hr'.out ?_)
  all_goals (go_ret;exact⟨_,rfl,hX.out⟩)

set_option maxHeartbeats 4000000 in
set_option maxRecDepth 100000 in
theorem aCb{e:TypeId}{i0:TypeInfo}{z:Value}(mixed:P.follows .mixedOrders=true)(FB:Bears P (ρ.f 22) (Body2.n22 ρ))
 (t3:P.underlying (ρ.t 3)=some (.int .i64)) (t4:P.underlying (ρ.t 4)=some .bool) (T:Vl P (ρ.t 24) e i0 z)
 (hox:∀args w,(callFunc (ρ.f 29) args).run P w=((Extern.SlicesOverlaps.overlaps #[ρ.t 24,ρ.t 24] #[ρ.t 4] args).run P w).andThen fun v w=>.ok (.value v) w)
 (w:World) (b n c i:Nat) (cur us:List Value) (va:Addr) (m vc:Nat) (vs vcur:List Value) (ve:TypeId)
 (hr:Bb w b e cur) (hcur:cur.length=c*i0.size) (htk:cur.take (n*i0.size)=us) (hone:∀u∈us,u.oneCell'=true)
 (hv:Bb w va.block ve vcur) (hvb:va.block≠b) (hk0:0<i0.size)
 (hi:i<n) (hm:0<m) (hroom:n+m<=c) (hc63:c<=9223372036854775807)
 (hvl:vs.length=m*i0.size) (hvs:∀j u,vs[j]? =some u->w.cell? (va.add j)=some u) (h1v:∀u∈vs,u.oneCell'=true):
 Calls P (ρ.f 22) #[.slice (some ⟨b,0,none⟩) n c,.int .i64 i,.slice (some va) m vc] w fun ex w'=>
  ex=.returned (.slice (some ⟨b,0,none⟩) (n+m) c)/\w'=(w.drew.setCells b ((i+m)*i0.size) (us.drop (i*i0.size))).setCells b (i*i0.size) vs:=by
 have t24:=T.ht
 obtain⟨k,hk⟩:∃k,k=i0.size:=⟨_,rfl⟩
 have a24:∀w,(isAgg (ρ.t 24)).run P w=.ok false w:=fun w=>A0 (by simp[Cj,t24]) w
 have a3:∀w,(isAgg (ρ.t 3)).run P w=.ok false w:=fun w=>A0 (by simp[Cj,t3]) w
 have a4:∀w,(isAgg (ρ.t 4)).run P w=.ok false w:=fun w=>A0 (by simp[Cj,t4]) w
 have z9:∀w,(Go.sizeOf e).run P w=.ok k w:=fun w=>by simp[sizeOf,typeInfo,T.hi,hk]
 have hz1:¬((m:Int)=0):=by omega
 have hz2:¬((i:Int)=(n:Int)):=by omega
 rw[<-hk]at hcur htk hvl hk0⊢
 have hcl:cur.length=c*k:=hcur
 have hnk:n*k+m*k<=c*k:=by rw[<-Nat.add_mul];exact Nat.mul_le_mul_right k hroom
 have husl:us.length=n*k:=by rw[<-htk,List.length_take];omega
 have hik:i*k<=n*k:=Nat.mul_le_mul_right k (by omega)
 have hcell:∀j u,us[j]? =some u->w.cell? ⟨b,j,none⟩=some u:=by intro j u hu;rw[hr.cell];rw[<-htk,List.getElem?_take]at hu;split at hu;exact hu;cases hu
 have hov:∀lb cb,(callFunc (ρ.f 29) #[.slice (some va) m vc,.slice (some ⟨b,(i+m)*k,none⟩) lb cb]).run P w=.ok (.value (.bool false)) w:=fun lb cb=>by rw[hox,Lib.run_overlaps_apart w (ρ.t 24) (ρ.t 4) e t24 k z9 va ⟨b,(i+m)*k,none⟩ m vc lb cb hvb ve e vcur.length cur.length hv.shape hr.shape (by rw[hcl];exact Nat.ne_of_gt (Nat.mul_pos (by omega) hk0)) (by unfold World.frozen?;rw[show w.heap[va.block]? =_ from hv];simp) (hv.thawed _)];rfl
 have hw1:IntKind.i64.wrap ((i:Int)+(m:Int))=(i:Int)+(m:Int):=by rw[IntKind.wrap_i64];omega
 have hb1:(0:Int)<=(i:Int)+(m:Int):=by omega
 have hin:i<=n:=by omega
 have htn:((i:Int)+(m:Int)).toNat=i+m:=by omega
 have hb2:¬(c=i+m):=by omega
 have hb3:(i:Int)<=(n:Int)+(m:Int):=by omega
 have hb4:¬(c=i):=by omega
 have hdl:(us.drop (i*k)).length=(n-i)*k:=by rw[List.length_drop,husl,Nat.sub_mul]
 have e1:(i+m)*k=i*k+m*k:=Nat.add_mul _ _ _
 have e2:(n-i)*k=n*k-i*k:=Nat.sub_mul _ _ _
 have hmin1:Nat.min (n+m-i) (n+m-(i+m))=n-i:=by simp only[Nat.min_def];split<;>omega
 have hmin2:Nat.min m (n+m-i)=m:=by simp only[Nat.min_def];split<;>omega
 have hcp1:∀ty dc sc,(Builtin.copy_ #[(ρ.t 24),(ρ.t 24)] ty #[.slice (some ⟨b,(i+m)*k,none⟩) (n+m-(i+m)) dc,.slice (some ⟨b,i*k,none⟩) (n+m-i) sc]).run P w.drew=.ok (goInt ((n-i:Nat):Int)) (w.drew.setCells b ((i+m)*k) (us.drop (i*k))):=fun ty dc sc=>by
  have h:=D9 (P:=P) w.drew (ρ.t 24) (ρ.t 24) ty e b ((i+m)*k) (n+m-(i+m)) dc ⟨b,i*k,none⟩ (n+m-i) sc (us.drop (i*k)) i0 t24 T.hi (by rw[hdl,hmin1,hk])
   (fun j v hj=>by rw[Addr.add_lit];exact hcell (i*k+j) v (by rwa [List.getElem?_drop]at hj))
   (fun j hj=>by rw[hdl]at hj;rw[hr.drew.cell,List.getElem?_eq_getElem (by omega)];rfl) (fun j hj=>hr.drew.thawed _) (fun v hv=>hone v (List.mem_of_mem_drop hv))
  rw[hmin1]at h;exact h
 obtain⟨W1,hW1⟩:∃W1,W1=w.drew.setCells b ((i+m)*k) (us.drop (i*k)):=⟨_,rfl⟩
 obtain⟨cur1,hR1,hc1⟩:∃cur1,Bb W1 b e cur1/\cur1.length=c*k:=by refine⟨_,by rw[hW1];exact Bb.set _ _ hr.drew (by omega),?_⟩;simp only[List.length_append,List.length_take,List.length_drop];omega
 have hcp2:∀(W:World),(∀x,W.cell? x=W1.cell? x)->(∀x,W.frozen? x=W1.frozen? x)->∀ty dc,(Builtin.copy_ #[(ρ.t 24),(ρ.t 24)] ty #[.slice (some ⟨b,i*k,none⟩) (n+m-i) dc,.slice (some va) m vc]).run P W=.ok (goInt m) (W.setCells b (i*k) vs):=fun W hWc hWf ty dc=>by
  have h:=D9 (P:=P) W (ρ.t 24) (ρ.t 24) ty e b (i*k) (n+m-i) dc va m vc vs i0 t24 T.hi (by rw[hvl,hmin2,hk])
   (fun j v hj=>by rw[hWc,hW1,World.cell?_setCells_out b _ _ _ _ (fun h _=>absurd (by rw[<-h,Bj]) hvb)];exact hvs j v hj)
   (fun j hj=>by rw[hvl]at hj;rw[hWc,hR1.cell,List.getElem?_eq_getElem (by omega)];rfl) (fun j hj=>by rw[hWf,hR1.thawed]) h1v
  rw[hmin2]at h;exact h
 rw[<-hW1]at hcp1
 have X:Hid (W1=w.drew.setCells b ((i+m)*k) (us.drop (i*k))):=hW1
 clear hR1 hc1 hcell hr hv hone hvs h1v hvl hcur hcl htk husl hdl hk hW1 e1 e2 hmin1 hmin2 hnk hik T hox
 obtain⟨_,_,FG⟩:=FB
 go_enter FG,Body2.n22_ntmps ρ
 go_wp2_with (simp only[hov])
 go_region_law_o (refine step_copy_runI rfl _ _ (ρ.t 24) (ρ.t 24) rfl _ _ (by simp[Act.eval,Act.put]) (by simp[Act.eval,Act.put]) (hcp1 _ _ _) ?_)
 go_wp2_with (at_builtin;refine wpList_copy_runI _ rfl _ _ (ρ.t 24) (ρ.t 24) rfl _ _ rfl rfl (hcp2 _ (fun _=>rfl) (fun _=>rfl) _ _) ?_)
 go_ret
 exact⟨rfl,by rw[X.out]⟩

set_option maxHeartbeats 4000000 in
set_option maxRecDepth 100000 in
theorem aCa{e:TypeId}{i0:TypeInfo}{z:Value}(mixed:P.follows .mixedOrders=true)(FB:Bears P (ρ.f 22) (Body2.n22 ρ))
 (t3:P.underlying (ρ.t 3)=some (.int .i64)) (t4:P.underlying (ρ.t 4)=some .bool) (T:Vl P (ρ.t 24) e i0 z)
 (w:World) (b n c i:Nat) (cur us:List Value) (va:Addr) (m vc:Nat) (vs:List Value)
 (hr:Bb w b e cur) (hcur:cur.length=c*i0.size) (htk:cur.take (n*i0.size)=us) (hone:∀u∈us,u.oneCell'=true)
 (hvb:va.block<w.heap.size) (hk0:0<i0.size)
 (hi:i<n) (hm:0<m) (hnc:n<=c) (hroom:c<n+m) (hbig:(n+m)*i0.bytes<=140737488355328) (h63:n+m<=maxLen)
 (hvl:vs.length=m*i0.size) (hvs:∀j u,vs[j]? =some u->w.cell? (va.add j)=some u) (h1v:∀u∈vs,u.oneCell'=true):
 Calls P (ρ.f 22) #[.slice (some ⟨b,0,none⟩) n c,.int .i64 i,.slice (some va) m vc] w fun ex w'=>
  ex=.returned (.slice (some ⟨w.heap.size,0,none⟩) (n+m) (grownCap w (n+m) c e))/\
  w'=(((w.alloc (.cells ((us.take (i*i0.size)).toArray++Builtin.zeroCells z.cells (n+m-i)++Builtin.zeroCells z.cells (grownCap w (n+m) c e-(n+m))) e)).drew.setCells w.heap.size (i*i0.size) vs).drew).setCells w.heap.size ((i+m)*i0.size) (us.drop (i*i0.size)):=by
 have t24:=T.ht
 obtain⟨k,hk⟩:∃k,k=i0.size:=⟨_,rfl⟩
 have a24:∀w,(isAgg (ρ.t 24)).run P w=.ok false w:=fun w=>A0 (by simp[Cj,t24]) w
 have a3:∀w,(isAgg (ρ.t 3)).run P w=.ok false w:=fun w=>A0 (by simp[Cj,t3]) w
 have a4:∀w,(isAgg (ρ.t 4)).run P w=.ok false w:=fun w=>A0 (by simp[Cj,t4]) w
 have z9:∀w,(Go.sizeOf e).run P w=.ok k w:=fun w=>by simp[sizeOf,typeInfo,T.hi,hk]
 have h63':n+m<=9223372036854775807:=Nat.le_trans h63 (by decide)
 have hz1:¬((m:Int)=0):=by omega
 have hz2:¬((i:Int)=(n:Int)):=by omega
 have hz3:(c:Int)<(n:Int)+(m:Int):=by omega
 have hkk:(n:Int)+(m:Int)-(i:Int)=((n+m-i:Nat):Int):=by omega
 have hik:i+(n+m-i)=n+m:=by omega
 have hzs:=T.hzs
 have hcur0:=hcur
 rw[<-hk]at hcur htk hvl hk0 hzs⊢
 have hnk:n*k<=c*k:=Nat.mul_le_mul_right k hnc
 have husl:us.length=n*k:=by rw[<-htk,List.length_take];omega
 have hikn:i*k<=n*k:=Nat.mul_le_mul_right k (by omega)
 have hcell:∀j u,us[j]? =some u->w.cell? ⟨b,j,none⟩=some u:=by intro j u hu;rw[hr.cell];rw[<-htk,List.getElem?_take]at hu;split at hu;exact hu;cases hu
 have hbw:b<w.heap.size:=hr.lt
 have hold:(Builtin.firstCells i0.size i (.slice (some ⟨b,0,none⟩) i c)).run P w.drew=.ok (us.take (i*k)).toArray w.drew:=by
  rw[<-hk];exact run_firstCells_some w.drew k i ⟨b,0,none⟩ i c (us.take (i*k)) (by rw[List.length_take];omega) (fun j v hj=>by rw[Addr.add_lit,Nat.zero_add];rw[List.getElem?_take]at hj;split at hj;exact hcell j v hj;cases hj)
 have hrz:∀ty,(Builtin.append_ #[(ρ.t 24),(ρ.t 3)] ty #[.slice (some ⟨b,0,none⟩) i c,.int .i64 ((n:Int)+(m:Int)-(i:Int))]).run P w=
  .ok (.slice (some ⟨w.heap.size,0,none⟩) (n+m) (grownCap w (n+m) c e)) (w.drew.alloc (.cells ((us.take (i*k)).toArray++Builtin.zeroCells z.cells (n+m-i)++Builtin.zeroCells z.cells (grownCap w (n+m) c e-(n+m))) e)):=fun ty=>by
  have hb0:(n+m-i)*i0.bytes<=(n+m)*i0.bytes:=Nat.mul_le_mul_right _ (by omega)
  have h:=Lib.run_append_grow_zeros w (ρ.t 24) (ρ.t 3) ty e i0 z .i64 .i64 t24 t3 T.hi T.hz (some ⟨b,0,none⟩) i c (us.take (i*k)) hold (n+m-i) (by omega) (by omega) (by omega) (by omega) (by omega) (by rw[hik];exact growslice_fits hroom hbig)
  rw[hik]at h
  rw[hkk]
  exact h
 obtain⟨G,hG⟩:∃G,G=grownCap w (n+m) c e:=⟨_,rfl⟩
 obtain⟨ROW,hROW⟩:∃ROW:Array Value,ROW=(us.take (i*k)).toArray++Builtin.zeroCells z.cells (n+m-i)++Builtin.zeroCells z.cells (G-(n+m)):=⟨_,rfl⟩
 rw[<-hG]at hrz⊢
 rw[<-hROW]at hrz⊢
 have e1:(i+m)*k=i*k+m*k:=Nat.add_mul _ _ _
 have e2:(n-i)*k=n*k-i*k:=Nat.sub_mul _ _ _
 have e3:(n+m)*k=n*k+m*k:=Nat.add_mul _ _ _
 have e4:(n+m-i)*k=(n+m)*k-i*k:=Nat.sub_mul _ _ _
 have hRl:(n+m)*k<=ROW.size:=by
  rw[hROW];have z1:(Builtin.zeroCells z.cells (n+m-i)).size=(n+m-i)*k:=by rw[<-hzs];exact DW _ _
  simp only[Array.size_append,List.size_toArray,List.length_take,z1];omega
 obtain⟨W1,hW1⟩:∃W1,W1=w.drew.alloc (.cells ROW e):=⟨_,rfl⟩
 rw[<-hW1]at hrz
 have hR1:Bb W1 w.heap.size e ROW.toList:=by rw[hW1];unfold Bb;simpa using heap_alloc_new w.drew (.cells ROW e)
 have hOb:∀x v,w.cell? x=some v->W1.cell? x=some v:=fun x v h=>by rw[hW1];exact Lib.cell?_alloc_some _ h
 have hmin1:Nat.min (n-i) (n+m-(i+m))=n-i:=by simp only[Nat.min_def];split<;>omega
 have hmin2:Nat.min m (n+m-i)=m:=by simp only[Nat.min_def];split<;>omega
 have hcpA:∀(W:World),(∀x,W.cell? x=W1.cell? x)->(∀x,W.frozen? x=W1.frozen? x)->∀ty dc,(Builtin.copy_ #[(ρ.t 24),(ρ.t 24)] ty #[.slice (some ⟨w.heap.size,i*k,none⟩) (n+m-i) dc,.slice (some va) m vc]).run P W=.ok (goInt m) (W.setCells w.heap.size (i*k) vs):=fun W hWc hWf ty dc=>by
  have h:=D9 (P:=P) W (ρ.t 24) (ρ.t 24) ty e w.heap.size (i*k) (n+m-i) dc va m vc vs i0 t24 T.hi (by rw[hvl,hmin2,hk])
   (fun j v hj=>by rw[hWc];exact hOb _ v (hvs j v hj))
   (fun j hj=>by rw[hvl]at hj;rw[hWc,hR1.cell,List.getElem?_eq_getElem (by rw[Array.length_toList];omega)];rfl) (fun j hj=>by rw[hWf];exact hR1.thawed _) h1v
  rw[hmin2]at h;exact h
 have hGn:n+m<=G:=by rw[hG];exact grownCap_ge w _ _ _
 have hG63:G<=9223372036854775807:=by have:=grownCap_le_maxLen w (n+m) c e h63;rw[<-hG]at this;exact Nat.le_trans this (by decide)
 have hGi:¬(G=i):=by omega
 have hGim:¬(G=i+m):=by omega
 have hci:¬(c=i):=by omega
 have hdl:(us.drop (i*k)).length=(n-i)*k:=by rw[List.length_drop,husl,Nat.sub_mul]
 obtain⟨cur2,hR2,hc2⟩:∃cur2,Bb (W1.setCells w.heap.size (i*k) vs) w.heap.size e cur2/\cur2.length=ROW.size:=by refine⟨_,Bb.set _ _ hR1 (by rw[hvl,Array.length_toList];omega),?_⟩;simp only[List.length_append,List.length_take,List.length_drop,Array.length_toList,hvl];omega
 have hcpB:∀(W:World),(∀x,W.cell? x=(W1.setCells w.heap.size (i*k) vs).cell? x)->(∀x,W.frozen? x=(W1.setCells w.heap.size (i*k) vs).frozen? x)->∀ty dc sc,(Builtin.copy_ #[(ρ.t 24),(ρ.t 24)] ty #[.slice (some ⟨w.heap.size,(i+m)*k,none⟩) (n+m-(i+m)) dc,.slice (some ⟨b,i*k,none⟩) (n-i) sc]).run P W=.ok (goInt ((n-i:Nat):Int)) (W.setCells w.heap.size ((i+m)*k) (us.drop (i*k))):=fun W hWc hWf ty dc sc=>by
  have h:=D9 (P:=P) W (ρ.t 24) (ρ.t 24) ty e w.heap.size ((i+m)*k) (n+m-(i+m)) dc ⟨b,i*k,none⟩ (n-i) sc (us.drop (i*k)) i0 t24 T.hi (by rw[hdl,hmin1,hk])
   (fun j v hj=>by rw[Addr.add_lit,hWc,World.cell?_setCells_out _ _ _ _ _ (fun h _=>absurd h (show b≠w.heap.size by omega))];exact hOb _ v (hcell (i*k+j) v (by rwa [List.getElem?_drop]at hj)))
   (fun j hj=>by rw[hdl]at hj;rw[hWc,hR2.cell,List.getElem?_eq_getElem (by omega)];rfl)
   (fun j hj=>by rw[hWf];exact hR2.thawed _) (fun v hv=>hone v (List.mem_of_mem_drop hv))
  rw[hmin1]at h;exact h
 clear hR1 hR2 hc2
 subst hW1
 have hE1:∀x,((w.alloc (.cells ROW e)).drew).cell? x=(w.drew.alloc (.cells ROW e)).cell? x:=fun x=>rfl
 have hE2:∀x,((w.alloc (.cells ROW e)).drew).frozen? x=(w.drew.alloc (.cells ROW e)).frozen? x:=fun x=>rfl
 have hF1:∀x,(((w.alloc (.cells ROW e)).drew.setCells w.heap.size (i*k) vs).drew).cell? x=((w.drew.alloc (.cells ROW e)).setCells w.heap.size (i*k) vs).cell? x:=fun x=>rfl
 have hF2:∀x,(((w.alloc (.cells ROW e)).drew.setCells w.heap.size (i*k) vs).drew).frozen? x=((w.drew.alloc (.cells ROW e)).setCells w.heap.size (i*k) vs).frozen? x:=fun x=>rfl
 have hw1:IntKind.i64.wrap ((i:Int)+(m:Int))=(i:Int)+(m:Int):=by rw[IntKind.wrap_i64];omega
 have hb1:(0:Int)<=(i:Int)+(m:Int):=by omega
 have hin:i<=n:=by omega
 have htn:((i:Int)+(m:Int)).toNat=i+m:=by omega
 have hb3:(i:Int)<=(n:Int):=by omega
 clear hcell hr hone hvs h1v hvl hcur htk husl hdl hk e1 e2 e3 e4 hmin1 hmin2 hnk hikn T hkk hik hold hROW hG hRl hOb hcur0 hbw hvb hzs
 obtain⟨_,_,FG⟩:=FB
 go_enter FG,Body2.n22_ntmps ρ
 go_wp2_with (first
  |(at_builtin;refine Lib.wpList_append_run _ rfl _ _ _ _ rfl _ _ rfl rfl _ _ (hrz _) ?_)
  |(at_builtin;refine wpList_copy_runI _ rfl _ _ (ρ.t 24) (ρ.t 24) rfl _ _ rfl rfl (hcpA _ hE1 hE2 _ _) ?_)
  |(at_builtin;refine wpList_copy_runI _ rfl _ _ (ρ.t 24) (ρ.t 24) rfl _ _ rfl rfl (hcpB _ (fun _=>rfl) (fun _=>rfl) _ _ _) ?_))
 go_region_law_o (refine step_copy_runI rfl _ _ (ρ.t 24) (ρ.t 24) rfl (.slice (some ⟨w.heap.size,(i+m)*k,none⟩) (n+m-(i+m)) (G-(i+m))) (.slice (some ⟨b,i*k,none⟩) (n-i) (c-i)) (by simp[Act.eval,Act.put]) (by simp[Act.eval,Act.put]) (hcpB _ hF1 hF2 (ρ.t 3) (G-(i+m)) (c-i)) ?_)
 go_wp2
 go_ret
 exact⟨rfl,rfl⟩
end
end Go.Ac
namespace Go.Ac
open Go.Proofs Go.Shelf Go.RowKit Go.Lib Go.Sort
section
variable {P:Program} {ρ:Ren}
theorem aEk{e:TypeId}{i0:TypeInfo}{z:Value}(mixed:P.follows .mixedOrders=true)(FB:Bears P (ρ.f 22) (Body2.n22 ρ))
 (t3:P.underlying (ρ.t 3)=some (.int .i64)) (t4:P.underlying (ρ.t 4)=some .bool) (T:Vl P (ρ.t 24) e i0 z) (hk0:0<i0.size)
 (hox:∀args w,(callFunc (ρ.f 29) args).run P w=((Extern.SlicesOverlaps.overlaps #[ρ.t 24,ρ.t 24] #[ρ.t 4] args).run P w).andThen fun v w=>.ok (.value v) w)
 (xs ys:List D) (i:Nat) (hi:i<=xs.length) (hy:0<ys.length) (h63:xs.length+ys.length<=maxLen) (hbytes:(xs.length+ys.length)*i0.bytes<=140737488355328):
 AO P (ρ.f 22) [.row 0,.d (.v (.int .i64 i)),.row 1] [(0,.rw e i0.size xs),(1,.row e i0.size ys)] (.row 2) [(2,.rw e i0.size (xs.take i++ys++xs.drop i))]:=by
 intro h w val vs hI hA
 simp only[RAs,RA,RD]at hA
 obtain⟨_,_,rfl,⟨rfl,_⟩,_,_,rfl,⟨rfl,_⟩,_,_,rfl,⟨rfl,_⟩,rfl⟩:=hA
 obtain⟨us,hown,hrow,hh⟩:=hI.rep (0,.rw e i0.size xs) (by simp)
 obtain⟨ws,hown2,hrow2,hh2⟩:=hI.rep (1,.row e i0.size ys) (by simp)
 have hlen:=Ah.length hrow
 have hlen2:=Ah.length hrow2
 obtain⟨k,hk⟩:∃k,k=i0.size:=⟨_,rfl⟩
 have e5:(xs.take i++ys++xs.drop i).length=xs.length+ys.length:=by simp only[List.length_append,List.length_take,List.length_drop];omega
 rcases hown2.2 with⟨hv2,h0⟩|⟨g2,cap2,cur2,hv2,_,hg2,hn2,hc2,hcs2,htk2⟩
 omega
 simp only at hv2
 have hM:∀g,(val 0).ownBlock=some g->g∈AV val [(0,Bk.rw e i0.size xs),(1,.row e i0.size ys)]:=by
  intro g hg;have hb:Ae val (0,Bk.rw e i0.size xs)=some g:=by simp[Ae,Bk.isOld,CF hown,hg]
  unfold AV;rw[List.filterMap_cons,hb];exact List.mem_cons_self
 have hne:∀g,(val 0).ownBlock=some g->g2≠g:=by
  intro g hg q;subst q;have hb:=hI.bks;have hv0:Bs (val 0)=some g2:=(CF hown).trans hg;have b0:Ae val (0,Bk.rw e i0.size xs)=some g2:=by simp[Ae,Bk.isOld,hv0]
  have b1:Ae val (1,Bk.row e i0.size ys)=some g2:=by simp[Ae,Bk.isOld,hv2,Bs]
  unfold AV at hb;rw[List.filterMap_cons,b0,List.filterMap_cons,b1]at hb;simp at hb
 have hR2:Bb w g2 e cur2.toList:=by unfold Bb;simpa using hg2
 have hws:∀j u,ws[j]? =some u->w.cell? ((⟨g2,0,none⟩:Addr).add j)=some u:=fun j u hu=>by rw[hv2]at hown2;exact hown2.cells (g:=g2) rfl j u hu
 have hone2:=Ah.one hrow2
 have hone:=Ah.one hrow
 have hrow3:Ah h w i0.size (xs.take i++ys++xs.drop i) (us.take (i*i0.size)++ws++us.drop (i*i0.size)):=Ah.append (Ah.append (Ah.take i hrow) hrow2) (Ah.drop i hrow)
 have hgo:∀v' w',w'.ownsRow 0 e i0.size v' (xs.take i++ys++xs.drop i).length (us.take (i*i0.size)++ws++us.drop (i*i0.size))->(∀g,v'.ownBlock=some g->(val 0).ownBlock=some g\/w.heap.size<=g)->w.grownBy w' (val 0).ownBlock->_:=
  fun v' w' h1 h2 h3=>FN (X:=[(0,Bk.rw e i0.size xs),(1,.row e i0.size ys)]) (m:=2) (by simp[AI]) hh hM h1 hrow3 h2 h3
 rw[hv2]
 by_cases hend:i=xs.length
 subst hend
 obtain⟨ad,ln,cp,hv⟩:=B0 hown
 have hln:ln=xs.length:=by
  rcases hown.2 with⟨h1,h0⟩|⟨g,cap,cur,h1,_⟩
  simp only at h1;rw[hv]at h1;cases h1;exact h0.symm;simp only at h1;rw[hv]at h1;cases h1;rfl
 subst hln
 simp only at hv
 rw[hv]
 refine(Uk mixed FB t3 t4 T w ad xs.length cp us ⟨g2,0,none⟩ ys.length cap2 ws (by rw[<-hv];exact hown) hy hlen2 hws hone2 h63 hbytes).mono ?_
 rintro ex w' ⟨v',rfl,ho,hcase⟩
 have e1:xs.take xs.length++ys++xs.drop xs.length=xs++ys:=by simp
 have e2:us.take (xs.length*i0.size)++ws++us.drop (xs.length*i0.size)=us++ws:=by rw[<-hlen];simp
 rw[e1,e2]at hgo
 rw[e1]
 refine hgo v' w' (by rw[List.length_append];exact ho) (fun g hg=>?_) ?_
 rcases hcase with⟨h1,_⟩|⟨h1,_⟩
 rw[h1,<-hv]at hg;exact .inl hg
 rw[h1]at hg;cases hg;exact .inr (Nat.le_refl _)
 rcases hcase with⟨_,h1⟩|⟨_,h1⟩
 rw[hv];exact h1
 exact⟨h1.os,h1.tape,h1.output,h1.size,fun b hb _=>h1.block b hb (by simp)⟩
 have hlt:i<xs.length:=by omega
 rcases hown.2 with⟨hv,h0⟩|⟨g,cap,cur,hv,_,hg,hn,hc,hcs,htk⟩
 omega
 simp only at hv
 rw[hv]
 have hR:Bb w g e cur.toList:=by unfold Bb;simpa using hg
 have hg2g:g2≠g:=hne g (by rw[hv];rfl)
 have m1:xs.length*k<=cap*k:=Nat.mul_le_mul_right k hn
 have m2:(i+ys.length)*k=i*k+ys.length*k:=Nat.add_mul _ _ _
 have m4:i*k<=xs.length*k:=Nat.mul_le_mul_right k hi
 have hcl:cur.toList.length=cap*k:=by rw[hk];simpa using hcs
 have l1:(us.drop (i*k)).length=xs.length*k-i*k:=by rw[List.length_drop,hlen,hk]
 by_cases hroom:xs.length+ys.length<=cap
 refine(aCb mixed FB t3 t4 T hox w g xs.length cap i cur.toList us ⟨g2,0,none⟩ ys.length cap2 ws cur2.toList e hR (by simpa using hcs) htk hone hR2 hg2g hk0 hlt hy hroom (Nat.le_trans hc (by decide)) hlen2 hws hone2).mono ?_
 rintro ex w' ⟨rfl,rfl⟩
 rw[<-hk]at hlen hlen2 hcs htk hgo⊢
 have m3:(xs.length+ys.length)*k<=cap*k:=Nat.mul_le_mul_right k hroom
 have m5:(xs.length+ys.length)*k=xs.length*k+ys.length*k:=Nat.add_mul _ _ _
 have hR1:=Bb.set (us.drop (i*k)) ((i+ys.length)*k) hR.drew (by rw[l1];omega)
 have hR3:=Bb.set ws (i*k) hR1 (by simp only[List.length_append,List.length_take,List.length_drop];omega)
 refine hgo _ _ ?_ (fun g' hg'=>.inl (by rw[hv];exact hg')) ?_
 rw[e5]
 refine⟨by simp only[List.length_append,List.length_take,l1];rw[Nat.min_eq_left (by omega)];omega,.inr ⟨g,cap,_,rfl,Nat.zero_le _,hR3,hroom,hc,?_,?_⟩⟩
 simp only[List.size_toArray,List.length_append,List.length_take,List.length_drop]
 omega
 simp only
 have a1:(cur.toList.take ((i+ys.length)*k)++us.drop (i*k)++cur.toList.drop ((i+ys.length)*k+(us.drop (i*k)).length)).take (i*k)=us.take (i*k):=by rw[List.append_assoc,List.take_append_of_le_length (by rw[List.length_take];omega),List.take_take,Nat.min_eq_left (by omega),<-htk,List.take_take,Nat.min_eq_left (by omega)]
 have a2:(cur.toList.take ((i+ys.length)*k)++us.drop (i*k)++cur.toList.drop ((i+ys.length)*k+(us.drop (i*k)).length)).drop (i*k+ws.length)=us.drop (i*k)++cur.toList.drop ((i+ys.length)*k+(us.drop (i*k)).length):=by rw[List.append_assoc,show i*k+ws.length=(cur.toList.take ((i+ys.length)*k)).length by rw[List.length_take];omega,List.drop_left]
 rw[a1,a2,<-List.append_assoc,List.take_append_of_le_length (by simp only[List.length_append,List.length_take,l1];omega),List.take_of_length_le (by simp only[List.length_append,List.length_take,l1];omega)]
 rw[hv]
 obtain⟨a1,a2,a3,a4,a5⟩:=Bu g (us.drop (i*k)) ((i+ys.length)*k) w.drew
 obtain⟨b1,b2,b3,b4,b5⟩:=Bu g ws (i*k) (w.drew.setCells g ((i+ys.length)*k) (us.drop (i*k)))
 refine⟨b1.trans a1,b2.trans a2,b3.trans a3,Nat.le_of_eq (b4.trans a4).symm,fun x hx hne=>?_⟩
 have hne':x≠g:=fun q=>hne (by rw[q];rfl)
 exact(b5 x hne').trans (a5 x hne')
 refine(aCa mixed FB t3 t4 T w g xs.length cap i cur.toList us ⟨g2,0,none⟩ ys.length cap2 ws hR (by simpa using hcs) htk hone hR2.lt hk0 hlt hy hn (by omega) hbytes h63 hlen2 hws hone2).mono ?_
 rintro ex w' ⟨rfl,rfl⟩
 have hzs:=T.hzs
 rw[<-hk]at hlen hlen2 hcs htk hgo hzs⊢
 obtain⟨G,hG⟩:∃G,G=grownCap w (xs.length+ys.length) cap e:=⟨_,rfl⟩
 have hGn:xs.length+ys.length<=G:=by rw[hG];exact grownCap_ge w _ _ _
 have hGm:G<=maxLen:=by rw[hG];exact grownCap_le_maxLen w _ _ e h63
 rw[<-hG]
 obtain⟨ROW,hROW⟩:∃ROW:Array Value,ROW=(us.take (i*k)).toArray++Builtin.zeroCells z.cells (xs.length+ys.length-i)++Builtin.zeroCells z.cells (G-(xs.length+ys.length)):=⟨_,rfl⟩
 rw[<-hROW]
 have z1:∀n,(Builtin.zeroCells z.cells n).size=n*k:=fun n=>by rw[<-hzs];exact DW _ _
 have m5:(xs.length+ys.length)*k=xs.length*k+ys.length*k:=Nat.add_mul _ _ _
 have m6:(xs.length+ys.length-i)*k=(xs.length+ys.length)*k-i*k:=Nat.sub_mul _ _ _
 have m7:(G-(xs.length+ys.length))*k=G*k-(xs.length+ys.length)*k:=Nat.sub_mul _ _ _
 have m8:(xs.length+ys.length)*k<=G*k:=Nat.mul_le_mul_right k hGn
 have hRl:ROW.toList.length=G*k:=by rw[hROW];simp only[Array.length_toList,Array.size_append,List.size_toArray,List.length_take,z1];omega
 have hRt:ROW.toList.take (i*k)=us.take (i*k):=by rw[hROW];simp only[Array.toList_append,List.append_assoc];rw[List.take_append_of_le_length (by rw[List.length_take];omega),List.take_take,Nat.min_self]
 have hR0:Bb ((w.alloc (.cells ROW e)).drew) w.heap.size e ROW.toList:=by unfold Bb;exact heap_alloc_new w (.cells ROW e)
 have hR1:=(Bb.set ws (i*k) hR0 (by omega)).drew
 have hR3:=Bb.set (us.drop (i*k)) ((i+ys.length)*k) hR1 (by simp only[List.length_append,List.length_take,List.length_drop];omega)
 refine hgo _ _ ?_ (fun g' hg'=>.inr (by simp[Value.ownBlock]at hg';omega)) ?_
 rw[e5]
 refine⟨by simp only[List.length_append,List.length_take,l1];rw[Nat.min_eq_left (by omega)];omega,.inr ⟨w.heap.size,G,_,rfl,Nat.zero_le _,hR3,hGn,hGm,?_,?_⟩⟩
 simp only[List.size_toArray,List.length_append,List.length_take,List.length_drop]
 omega
 simp only
 have a1:(ROW.toList.take (i*k)++ws++ROW.toList.drop (i*k+ws.length)).take ((i+ys.length)*k)=us.take (i*k)++ws:=by rw[hRt,List.take_append_of_le_length (by simp only[List.length_append,List.length_take];omega),List.take_of_length_le (by simp only[List.length_append,List.length_take];omega)]
 rw[a1,List.take_append_of_le_length (by simp only[List.length_append,List.length_take,l1];omega),List.take_of_length_le (by simp only[List.length_append,List.length_take,l1];omega)]
 rw[hv]
 obtain⟨a1,a2,a3,a4,a5⟩:=Bu w.heap.size ws (i*k) (w.alloc (.cells ROW e)).drew
 obtain⟨b1,b2,b3,b4,b5⟩:=Bu w.heap.size (us.drop (i*k)) ((i+ys.length)*k) (((w.alloc (.cells ROW e)).drew.setCells w.heap.size (i*k) ws).drew)
 have hsz:w.heap.size<=(w.alloc (.cells ROW e)).heap.size:=by simp
 refine⟨b1.trans a1,b2.trans a2,b3.trans a3,by rw[b4];exact Nat.le_trans hsz (Nat.le_of_eq a4.symm),fun x hx hne=>?_⟩
 have hne':x≠w.heap.size:=by omega
 exact(b5 x hne').trans ((a5 x hne').trans (heap_alloc_old w _ hx))
end
def aK6{α:Type}(by_:Nat)(i:Int)(xs ys:List α):Option (List α):=
 if 0<=i/\i<=xs.length/\0<ys.length/\fit xs.length ys.length by_ then some (xs.take i.toNat++ys++xs.drop i.toNat)else none
theorem aG0{P:Program}{ρ:Ren}{e:TypeId}{k by_ fi:Nat}{α:Type}(f:α->D)(mixed:P.follows .mixedOrders=true)(hfi:ρ.f 22=fi)(FB:Bears P (ρ.f 22) (Body2.n22 ρ))
 (t3:P.underlying (ρ.t 3)=some (.int .i64)) (t4:P.underlying (ρ.t 4)=some .bool) (ht:P.underlying (ρ.t 24)=some (.slice e))
 (hq:(P.info? e).map (fun i=>(i.size,i.bytes,i.zero.map (·.cells.size),i.zero.map (fun z=>z.cells.all (·.oneCell'))))=some (k,by_,some k,some true))
 (hk0:0<k) (hby:0<by_)
 (hox:∀args w,(callFunc (ρ.f 29) args).run P w=((Extern.SlicesOverlaps.overlaps #[ρ.t 24,ρ.t 24] #[ρ.t 4] args).run P w).andThen fun v w=>.ok (.value v) w)
 (i:Int) (xs ys r:List α) (h:aK6 by_ i xs ys=some r):AO P fi [.row 0,.d (D.i .i64 i),.row 1] [(0,.rw e k (xs.map f)),(1,.row e k (ys.map f))] (.row 2) [(2,.rw e k (r.map f))]:=by
 obtain⟨i0,z,T,rfl,rfl⟩:=Jw ht hq
 unfold aK6 at h
 split at h
 rename_i hc
 obtain rfl:=Option.some.inj h
 obtain⟨n,rfl⟩:=Int.eq_ofNat_of_zero_le hc.1
 subst hfi
 have hf:=hc.2.2.2
 unfold fit at hf
 have h63:xs.length+ys.length<=maxLen:=by have:xs.length+ys.length<=(xs.length+ys.length)*i0.bytes:=Nat.le_mul_of_pos_right _ hby;exact Nat.le_trans (Nat.le_trans this hf) (by decide)
 have:=aEk mixed FB t3 t4 T hk0 hox (xs.map f) (ys.map f) n (by rw[List.length_map];omega) (by rw[List.length_map];exact hc.2.2.1) (by simpa using h63) (by simpa using hf)
 simpa[List.map_take,List.map_drop,D.i]using this
 cases h
end Go.Ac
namespace Go.Ac
open Go.Proofs Go.Shelf Go.RowKit Go.Lib
theorem Kx{P:Program}{t:TypeId}{n:Nat}(h:(P.info? t).map (·.size)=some n)(w:World):(Go.sizeOf t).run P w=.ok n w:=by simp only[om]at h;obtain⟨i,hi,rfl⟩:=h;simp[sizeOf,typeInfo,hi]
theorem Vj{P:Program}{t:TypeId}{z:Value}(h:(P.info? t).map (·.zero)=some (some z))(w:World):(zeroValue t).run P w=.ok z w:=by simp only[om]at h;obtain⟨i,hi,hz⟩:=h;simp[zeroValue,typeInfo,hi,hz]
section
variable {P:Program} {ρ:Ren}
set_option maxHeartbeats 2000000 in
set_option maxRecDepth 100000 in
theorem Ov(L:SlLaysE0.n41 P ρ){i0:TypeInfo}{z:Value}(T:Vl P (ρ.t 22) (ρ.t 23) i0 z)(hsz:0<i0.size)(ad:Addr)(n c:Nat)(news:List Value)(w:World)(hl:news.length=n*i0.size)(hn:n<=maxLen)(hbig:n*i0.bytes<=140737488355328)
 (hc:∀j u,news[j]? =some u->w.cell? (ad.add j)=some u) (h1:∀u∈news,u.oneCell'=true):
 Calls P (ρ.f 41) #[.slice (some ad) n c] w fun e w'=>∃v',e=.returned v'/\w'.ownsRow w.heap.size (ρ.t 23) i0.size v' n news/\Below w.heap.size w w':=by
 have z23:∀w,(Go.sizeOf (ρ.t 23)).run P w=.ok i0.size w:=fun w=>by simp[sizeOf,typeInfo,T.hi]
 have mixed:=L.mixed;have t4:=L.t4;have a4:=L.a4;have z4:=L.z4;have v4:=L.v4;have t22:=L.t22;have a22:=L.a22;have z22:=L.z22;have v22:=L.v22
 have q22:∀(w:World) (a:Option Addr) (n c n' c':Nat),(binOp .eql (ρ.t 22) (.slice a n c) (.slice none n' c')).run P w=.ok (.bool a.isNone) w:=fun w a n c n' c'=>Lib.run_eql_slice_nil w _ _ a n c n' c' L.t22
 have u22:∀w,Sem.run P (underlying (ρ.t 22)) w=.ok (TypeDesc.slice (ρ.t 23)) w:=run_underlying t22
 have A:Aside (∀j u,news[j]? =some u->w.cell? (ad.add j)=some u):=hc
 have hi:=T.hi;have hz0:=T.hz;have hzs:=T.hzs
 clear hc T
 obtain⟨b,off,sp⟩:=ad
 obtain⟨_,_,FG⟩:=L.f41
 go_enter FG,SlBodyN.n41_ntmps ρ
 go_wp2_with (at_builtin;refine wpList_append_own _ rfl _ _ (ρ.t 22) rfl w.heap.size (ρ.t 23) i0 z i0.size i0.bytes t22 hi hz0 rfl rfl hzs hsz _ _ _ rfl (World.ownsRow_made w #[] 0 (Nat.le_refl _) (Nat.zero_le _) (by simp)) ⟨b,off,sp⟩ n c news rfl ?qc1 ?qc2 ?qc3 ?qc4 ?qc5 ?qc6 ?_)
 case qc1=>exact hl
 case qc2=>
  intro j u hj
  exact Lib.cell?_alloc_some _ (A.out j u hj)
 case qc3=>exact h1
 case qc4=>rw[Nat.zero_add];exact hn
 case qc5=>rw[Nat.zero_add];exact hbig
 case qc6=>simp
 intro v' w1 hown hgrow hnil
 go_wp2
 go_ret
 refine⟨v',rfl,by simpa using hown,?_⟩
 exact((Below.refl _ w).alloc (Nat.le_refl _) _).grown hgrow (by simp) (by intro k hk;simp[Value.ownBlock]at hk;omega)

theorem HA(L:SlLaysE0.n41 P ρ){i0:TypeInfo}{z:Value}(T:Vl P (ρ.t 22) (ρ.t 23) i0 z)(hsz:0<i0.size){h:Hw}{w:World}{xs:List D}{u:Value}
 (hx:RD h w (.sl xs) u) (hk:∀x∈xs,x.nc=i0.size) (hbig:xs.length*i0.bytes<=140737488355328):
 Calls P (ρ.f 41) #[u] w fun e w'=>∃v' us,e=.returned v'/\w'.ownsRow 0 (ρ.t 23) i0.size v' xs.length us/\Ah h w i0.size xs us/\(∀g,v'.ownBlock=some g->w.heap.size<=g)/\w.grownBy w' none:=by
 obtain⟨ad,cap,k',vs,rfl,hl,hm,hyrow,hc⟩:=by simpa only[RD]using hx
 have hvs:vs.length=xs.length*i0.size/\Ah h w i0.size xs vs:=by
  cases xs with
  |nil=>
   have:vs=[]:=by simpa[Ah]using hyrow
   subst this;exact⟨by simp,by simp[Ah]⟩
  |cons y ys=>
   have e1:=hk y (by simp)
   have e2:=hyrow.mk y (by simp)
   have:k'=i0.size:=by omega
   subst this
   exact⟨hyrow.length,hyrow⟩
 cases ad with
 |none=>
  have h0:xs=[]:=by
   cases xs with
   |nil=>rfl
   |cons y ys=>obtain⟨x,hx,_⟩:=hc (by simp);cases hx
  subst h0
  refine(AnyE.slices_Clone_nil L _ _ w).mono ?_
  rintro e w' ⟨rfl,rfl⟩
  exact⟨_,[],rfl,World.ownsRow_nil _ _ _ _,by simp[Ah],by simp[Value.ownBlock],⟨rfl,rfl,rfl,Nat.le_refl _,fun _ _ _=>rfl⟩⟩
 |some a=>
  have hcell:∀j x,vs[j]? =some x->w.cell? (a.add j)=some x:=by
   intro j x hj;rcases Nat.eq_zero_or_pos xs.length with h0|h0
   have:vs=[]:=List.eq_nil_of_length_eq_zero (by rw[hvs.1,h0,Nat.zero_mul]);subst this;simp at hj;obtain⟨a',ha,hcell⟩:=hc h0;cases ha;exact(hcell j x hj).1
  refine(Ov L T hsz a xs.length cap vs w hvs.1 (Nat.le_trans hl hm) hbig hcell hvs.2.one).mono ?_
  rintro e w' ⟨v',rfl,hown,hB⟩
  refine⟨v',vs,rfl,⟨hown.1,?_⟩,hvs.2,fun g hg=>(hown.lt g hg).1,⟨hB.os,hB.tape,hB.output,hB.size,fun b hb _=>hB.block b hb⟩⟩
  rcases hown.2 with h0|⟨g,cap,cur,e1,_,e3⟩
  exact .inl h0
  exact .inr ⟨g,cap,cur,e1,Nat.zero_le _,e3⟩

theorem aHp(L:SlLaysE0.n41 P ρ){i0:TypeInfo}{z:Value}(T:Vl P (ρ.t 22) (ρ.t 23) i0 z)(hsz:0<i0.size)(xs:List D)(hk:∀x∈xs,x.nc=i0.size)(hbig:xs.length*i0.bytes<=140737488355328):
 AO P (ρ.f 41) [.d (.sl xs)] [] (.row 0) [(0,.rw (ρ.t 23) i0.size xs)]:=by
 intro h w val vs hI hA
 simp only[RAs,RA]at hA
 obtain⟨u,_,rfl,hu,rfl⟩:=hA
 refine(HA L T hsz hu hk hbig).mono ?_
 rintro e w' ⟨v',us,rfl,hown,hrow,hnew,hgrow⟩
 exact FN (X:=[]) (v:=.slice none 0 0) (by simp[AI]) (by simp[Value.ownBlock]) (by simp[Value.ownBlock]) hown hrow (fun g hg=>.inr (hnew g hg)) hgrow

theorem aEj(L:SlLaysE0.n41 P ρ){i0:TypeInfo}{z:Value}(T:Vl P (ρ.t 22) (ρ.t 23) i0 z)(hsz:0<i0.size)(xs:List D)(hk:∀x∈xs,x.nc=i0.size)(hbig:xs.length*i0.bytes<=140737488355328):
 AO P (ρ.f 41) [.d (.sl xs)] [] (.d (.sl xs)) []:=by
 intro h w val vs hI hA
 simp only[RAs,RA]at hA
 obtain⟨u,_,rfl,hu,rfl⟩:=hA
 refine(HA L T hsz hu hk hbig).mono ?_
 rintro e w' ⟨v',us,rfl,hown,hrow,hnew,hgrow⟩
 let h':Hw:=fun b=>if v'.ownBlock=some b then xs.length*i0.size else h b
 have hkeep:BS (AV val []) h w h' w':=by
  refine⟨hgrow.os,hgrow.tape,hgrow.output,hgrow.size,fun b j x hj hcx=>?_,fun b hb=>?_,fun b hb hn=>?_⟩;rw[World.cell?_of_block (w:=w) (a:=⟨b,j,none⟩) (hgrow.block b (EM hcx) (by simp))];exact hcx;show h b<=if v'.ownBlock=some b then _ else h b
  split;rename_i hvb;have:=hnew b hvb;omega;exact Nat.le_refl _;refine⟨hgrow.block b hb (by simp),?_⟩;show(if v'.ownBlock=some b then _ else h b)=h b
  rw[if_neg fun hvb=>by have:=hnew b hvb;omega]
 have hrb:RB h' w' (Ar val 0 v') 0 (.row (ρ.t 23) i0.size xs):=by
  refine⟨us,by simpa[Ar]using hown,Ah.stays hkeep.stays _ _ _ hrow,fun g hg=>?_⟩;simp only[Ar]at hg;show(if v'.ownBlock=some g then _ else h g)=_
  rw[if_pos (by simpa using hg)]
 have hd:=RB.data hrb
 simp only[Ar,if_true]at hd
 exact⟨h',val,v',rfl,⟨by simp,by simp[AI],by simp[AV]⟩,by simpa only[RA]using hd,hkeep,fun _ _=>rfl,by simp[AV]⟩
end
def FY{α:Type}(by_:Nat)(l:List α):Option (List α):=if fit 0 l.length by_ then some l else none
theorem aDs{P:Program}{ρ:Ren}(mixed:P.follows .mixedOrders=true)(FB:Bears P (ρ.f 41) (SlBodyN.n41 ρ))(t4:P.underlying (ρ.t 4)=some .bool)(ht:P.underlying (ρ.t 22)=some (.slice (ρ.t 23)))
 (z4:(P.info? (ρ.t 4)).map (·.size)=some 1) (v4:(P.info? (ρ.t 4)).map (·.zero)=some (some (.bool false))) (z22:(P.info? (ρ.t 22)).map (·.size)=some 1) (v22:(P.info? (ρ.t 22)).map (·.zero)=some (some (.slice none 0 0))):SlLaysE0.n41 P ρ:=
 ⟨mixed,FB,t4,fun w=>A0 (by simp[Cj,t4]) w,Kx z4,Vj v4,ht,fun w=>A0 (by simp[Cj,ht]) w,Kx z22,Vj v22⟩
theorem Ou{P:Program}{ρ:Ren}{e:TypeId}{k by_ fi:Nat}{α:Type}(f:α->D) [Bp f k](hfi:ρ.f 41=fi)(he:ρ.t 23=e)(L:SlLaysE0.n41 P ρ)
 (hq:(P.info? (ρ.t 23)).map (fun i=>(i.size,i.bytes,i.zero.map (·.cells.size),i.zero.map (fun z=>z.cells.all (·.oneCell'))))=some (k,by_,some k,some true)) (hk0:0<k)
 (l r:List α) (h:FY by_ l=some r):AO P fi [.d (D.l f l)] [] (.row 0) [(0,.rw e k (r.map f))]:=by
 obtain⟨i,z,T,rfl,rfl⟩:=Jw L.t22 hq
 unfold FY at h
 split at h
 rename_i hc
 obtain rfl:=Option.some.inj h
 subst hfi;subst he
 exact aHp L T hk0 (l.map f) (by simp only[mm];rintro x ⟨y,_,rfl⟩;exact Bp.h y) (by unfold fit at hc;simpa using hc)
 cases h
theorem aBt{P:Program}{ρ:Ren}{k by_ fi:Nat}{α:Type}(f:α->D) [Bp f k](hfi:ρ.f 41=fi)(L:SlLaysE0.n41 P ρ)
 (hq:(P.info? (ρ.t 23)).map (fun i=>(i.size,i.bytes,i.zero.map (·.cells.size),i.zero.map (fun z=>z.cells.all (·.oneCell'))))=some (k,by_,some k,some true)) (hk0:0<k)
 (l r:List α) (h:FY by_ l=some r):AO P fi [.d (D.l f l)] [] (.d (D.l f r)) []:=by
 obtain⟨i,z,T,rfl,rfl⟩:=Jw L.t22 hq
 unfold FY at h
 split at h
 rename_i hc
 obtain rfl:=Option.some.inj h
 subst hfi
 exact aEj L T hk0 (l.map f) (by simp only[mm];rintro x ⟨y,_,rfl⟩;exact Bp.h y) (by unfold fit at hc;simpa using hc)
 cases h
end Go.Ac
namespace Go.Ac
open Go.Proofs Go.Shelf Go.RowKit Go.Lib Go.Sort
section
variable {P:Program} {ρ:Ren}
theorem OI{e:TypeId}{i0:TypeInfo}{z:Value}(mixed:P.follows .mixedOrders=true)(FB:Bears P (ρ.f 22) (Body2.n22 ρ))
 (t3:P.underlying (ρ.t 3)=some (.int .i64)) (t4:P.underlying (ρ.t 4)=some .bool) (T:Vl P (ρ.t 24) e i0 z)
 (ys:List D) (hy:0<ys.length) (h63:ys.length<=maxLen) (hbytes:ys.length*i0.bytes<=140737488355328):
 AO P (ρ.f 22) [.nil,.d (.v (.int .i64 ((0:Nat):Int))),.row 0] [(0,.row e i0.size ys)] (.row 1) [(1,.rw e i0.size ys)]:=by
 intro h w val vs hI hA
 simp only[RAs,RA,RD]at hA
 obtain⟨_,_,rfl,rfl,_,_,rfl,⟨rfl,_⟩,_,_,rfl,⟨rfl,_⟩,rfl⟩:=hA
 obtain⟨ws,hown2,hrow2,hh2⟩:=hI.rep (0,.row e i0.size ys) (by simp)
 have hlen2:=Ah.length hrow2
 rcases hown2.2 with⟨hv2,h0⟩|⟨g2,cap2,cur2,hv2,_,hg2,hn2,hc2,hcs2,htk2⟩
 omega
 simp only at hv2
 have hws:∀j u,ws[j]? =some u->w.cell? ((⟨g2,0,none⟩:Addr).add j)=some u:=fun j u hu=>by rw[hv2]at hown2;exact hown2.cells (g:=g2) rfl j u hu
 rw[hv2]
 refine(Uk mixed FB t3 t4 T w none 0 0 [] ⟨g2,0,none⟩ ys.length cap2 ws (World.ownsRow_nil _ _ _ _) hy hlen2 hws (Ah.one hrow2) (by omega) (by simpa using hbytes)).mono ?_
 rintro ex w' ⟨v',rfl,ho,hcase⟩
 refine FN (X:=[(0,Bk.row e i0.size ys)]) (m:=1) (v:=.slice none 0 0) (by simp[AI]) (by simp[Value.ownBlock]) (by simp[Value.ownBlock]) (by simpa using ho) hrow2 (fun g hg=>?_) ?_
 rcases hcase with⟨h1,_⟩|⟨h1,_⟩
 rw[h1]at hg;simp[Value.ownBlock]at hg
 rw[h1]at hg;cases hg;exact .inr (Nat.le_refl _)
 rcases hcase with⟨_,h1⟩|⟨_,h1⟩
 exact h1
 exact⟨h1.os,h1.tape,h1.output,h1.size,fun b hb _=>h1.block b hb (by simp)⟩
end
def aOz{α:Type}(by_:Nat)(i:Int)(ys:List α):Option (List α):=
 if i=0/\0<ys.length/\fit 0 ys.length by_ then some ys else none
theorem aG1{P:Program}{ρ:Ren}{e:TypeId}{k by_ fi:Nat}{α:Type}(f:α->D)(mixed:P.follows .mixedOrders=true)(hfi:ρ.f 22=fi)(FB:Bears P (ρ.f 22) (Body2.n22 ρ))
 (t3:P.underlying (ρ.t 3)=some (.int .i64)) (t4:P.underlying (ρ.t 4)=some .bool) (ht:P.underlying (ρ.t 24)=some (.slice e))
 (hq:(P.info? e).map (fun i=>(i.size,i.bytes,i.zero.map (·.cells.size),i.zero.map (fun z=>z.cells.all (·.oneCell'))))=some (k,by_,some k,some true)) (hby:0<by_)
 (i:Int) (ys r:List α) (h:aOz by_ i ys=some r):AO P fi [.nil,.d (D.i .i64 i),.row 0] [(0,.row e k (ys.map f))] (.row 1) [(1,.rw e k (r.map f))]:=by
 obtain⟨i0,z,T,rfl,rfl⟩:=Jw ht hq
 unfold aOz at h
 split at h
 rename_i hc
 obtain⟨rfl,hy,hf⟩:=hc
 obtain rfl:=Option.some.inj h
 subst hfi
 unfold fit at hf
 rw[Nat.zero_add]at hf
 have h63:ys.length<=maxLen:=by have:ys.length<=ys.length*i0.bytes:=Nat.le_mul_of_pos_right _ hby;exact Nat.le_trans (Nat.le_trans this hf) (by decide)
 exact OI mixed FB t3 t4 T (ys.map f) (by rw[List.length_map];exact hy) (by simpa using h63) (by simpa using hf)
 cases h
end Go.Ac
namespace Go.Ac
open Go.MapKept
structure MP(K V:Type) where
 clk:Nat
 es:List (Nat×K×V)
section
variable {K V:Type}
def MP.dl(fk:K->D)(fv:V->D)(m:MP K V):List (Nat×D×D):=m.es.map fun x=>(x.1,fk x.2.1,fv x.2.2)
def Ek:MP K V:=⟨0,[]⟩
structure aDb(P:Program)(kt:TypeId)(fk:K->D):Prop where
 ok:∀a,KOk P kt (fk a)
 inj:∀a b,fk a=fk b->a=b
variable {P:Program} {kt:TypeId} {fk:K->D} {fv:V->D}
abbrev dl(fk:K->D)(fv:V->D)(l:List (Nat×K×V)):List (Nat×D×D):=l.map fun x=>(x.1,fk x.2.1,fv x.2.2)
theorem aKg(T:aDb P kt fk)(l:List (Nat×K×V)):∀x∈dl fk fv l,KOk P kt x.2.1:=fun x hx=>by obtain⟨y,_,rfl⟩:=mm.1 hx;exact T.ok _
variable [DecidableEq K]
def K6(z:V)(k:K):List (Nat×K×V)->V×Bool
 |[]=>(z,false)
 |x::xs=>if x.2.1=k then(x.2.2,true)else K6 z k xs
def O5(clk:Nat)(k:K)(v:V):List (Nat×K×V)->Nat×List (Nat×K×V)
 |[]=>(clk+1,[(clk,k,v)])
 |x::xs=>if x.2.1=k then(clk,(x.1,x.2.1,v)::xs)else((O5 clk k v xs).1,x::(O5 clk k v xs).2)
def BC(z:V)(m:MP K V)(k:K):V×Bool:=K6 z k m.es
def Cs(m:MP K V)(k:K)(v:V):MP K V:=⟨(O5 m.clk k v m.es).1,(O5 m.clk k v m.es).2⟩
theorem Ue(T:aDb P kt fk)(z:V)(k:K):∀l:List (Nat×K×V),((K6 z k l).2=true/\∃(pre:List (Nat×D×D)) (s:Nat) (post:List (Nat×D×D)),dl fk fv l=pre++(s,fk k,fv (K6 z k l).1)::post/\∀x∈pre,x.2.1≠fk k)\/((K6 z k l).2=false/\fv (K6 z k l).1=fv z/\∀x∈dl fk fv l,x.2.1≠fk k)
 |[]=>.inr ⟨rfl,rfl,by simp⟩
 |x::xs=>by
  rw[K6];split;rename_i h;exact .inl ⟨rfl,[],x.1,dl fk fv xs,by rw[<-h];rfl,by simp⟩;rename_i h;have hne:fk x.2.1≠fk k:=fun e=>h (T.inj _ _ e);rcases Ue T z k xs with⟨h1,pre,s,post,h2,h3⟩|⟨h1,h2,h3⟩
  refine .inl ⟨h1,(x.1,fk x.2.1,fv x.2.2)::pre,s,post,by rw[List.cons_append,<-h2];rfl,fun y hy=>?_⟩;rcases mc.1 hy with rfl|hy
  exact hne;exact h3 y hy;refine .inr ⟨h1,h2,fun y hy=>?_⟩;rcases mc.1 hy with rfl|hy
  exact hne;exact h3 y hy
theorem HW(T:aDb P kt fk)(fv:V->D)(z:V)(m:MP K V)(k:K):aO9 P kt (fv z) (MP.dl fk fv m) (fk k) (fv (BC z m k).1) (BC z m k).2:=⟨aKg T m.es,T.ok k,Ue T z k m.es⟩
theorem VL(T:aDb P kt fk)(clk:Nat)(k:K)(v:V):∀l:List (Nat×K×V),((O5 clk k v l).1=clk/\∃(pre:List (Nat×D×D)) (s:Nat) (v0:D) (post:List (Nat×D×D)),dl fk fv l=pre++(s,fk k,v0)::post/\(∀x∈pre,x.2.1≠fk k)/\dl fk fv (O5 clk k v l).2=pre++(s,fk k,fv v)::post)\/((O5 clk k v l).1=clk+1/\dl fk fv (O5 clk k v l).2=dl fk fv l++[(clk,fk k,fv v)]/\∀x∈dl fk fv l,x.2.1≠fk k)
 |[]=>.inr ⟨rfl,rfl,by simp⟩
 |x::xs=>by
  rw[O5];split;rename_i h;exact .inl ⟨rfl,[],x.1,fv x.2.2,dl fk fv xs,by rw[<-h];rfl,by simp,by rw[<-h];rfl⟩;rename_i h;have hne:fk x.2.1≠fk k:=fun e=>h (T.inj _ _ e);rcases VL T clk k v xs with⟨h1,pre,s,v0,post,h2,h3,h4⟩|⟨h1,h2,h3⟩
  refine .inl ⟨h1,(x.1,fk x.2.1,fv x.2.2)::pre,s,v0,post,by rw[List.cons_append,<-h2];rfl,fun y hy=>?_,by rw[List.cons_append,<-h4];rfl⟩;rcases mc.1 hy with rfl|hy
  exact hne;exact h3 y hy;refine .inr ⟨h1,?_,fun y hy=>?_⟩;show(x.1,fk x.2.1,fv x.2.2)::dl fk fv (O5 clk k v xs).2=_;rw[h2];rfl;rcases mc.1 hy with rfl|hy
  exact hne;exact h3 y hy
theorem MO(T:aDb P kt fk)(fv:V->D)(m:MP K V)(k:K)(v:V):aHx P kt (MP.dl fk fv m) (fk k) (fv v) m.clk (MP.dl fk fv (Cs m k v)) (Cs m k v).clk:=⟨aKg T m.es,T.ok k,VL T m.clk k v m.es⟩
end
theorem aPf{P:Program}{kt:TypeId}{f1 f2:Field}{k1 k2:IntKind}{K:Type}{fk:K->D}{x y:K->Int}(hu:P.underlying kt=some (.struct #[f1,f2]))(hs:P.stoodInHeld kt=false)(h1:P.underlying f1.type=some (.int k1))(h2:P.underlying f2.type=some (.int k2))
 (n1:f1.name≠ "_") (n2:f2.name≠ "_") (o1:f1.offset=0) (o2:f2.offset=1) (hd:∀a,fk a=.agg [.v (.int k1 (x a)),.v (.int k2 (y a))]) (hi:∀a b,x a=x b->y a=y b->a=b):aDb P kt fk:=
 ⟨fun a=>⟨.agg #[.int k1 (x a),.int k2 (y a)],hd a,.inr ⟨_,_,hu,hs,rfl,_,_,rfl,n1,o1,⟨_,_,h1,rfl⟩,_,_,rfl,n2,o2,⟨_,_,h2,rfl⟩,rfl⟩⟩,fun a b e=>by rw[hd,hd]at e;simp only[D.agg.injEq,List.cons.injEq,D.v.injEq,Value.int.injEq,true_and,and_true]at e;exact hi a b e.1 e.2⟩
end Go.Ac
namespace Go.Ac
section
variable {α β σ τ:Type}
def Il(body:Nat->β->α->β⊕τ)(fin:β->τ):Nat->List α->β->τ
 |_,[],w=>fin w
 |i,x::xs,w=>match body i w x with
  | .inl w'=>Il body fin (i+1) xs w'
  | .inr t=>t
theorem DL{step:σ->Option (σ⊕τ)}(l:List α)(mk:Nat->β->σ)(body:Nat->β->α->β⊕τ)(fin:β->τ)(I:Nat->β->Prop)
 (h1:∀i x w,l[i]? =some x->I i w->step (mk i w)=some (match body i w x with| .inl w'=>.inl (mk (i+1) w')| .inr t=>.inr t)/\∀w',body i w x=.inl w'->I (i+1) w')
 (h2:∀w,I l.length w->step (mk l.length w)=some (.inr (fin w))):∀(n i:Nat) (w:β),l.length-i<n->i<=l.length->I i w->AU step (mk i w)=some (Il body fin i (l.drop i) w):=by
 intro n
 induction n with
 |zero=>intro i w h;omega
 |succ n ih=>
  intro i w hn hi hI
  rw[BG]
  by_cases he:i=l.length
  subst he
  rw[h2 w hI,CE,List.drop_length]
  rfl
  obtain⟨x,hx,hd⟩:=AP (l:=l) (i:=i) (by omega)
  obtain⟨a1,a2⟩:=h1 i x w hx hI
  rw[a1,hd,Il]
  cases hb:body i w x with
  |inl w'=>simp only[Cm];exact ih (i+1) w' (by omega) (by omega) (a2 w' hb)
  |inr t=>simp only[CE]
theorem aCf{step:Int->Option (Int⊕τ)}(l:List α)(p:α->Bool)(t f:τ)
 (h1:∀(i:Nat) x,l[i]? =some x->step i=some (if p x=true then .inl ((i+1:Nat):Int)else .inr f)) (h2:step l.length=some (.inr t)) (i:Nat) (hi:i<=l.length):
 AU step i=some (if(l.drop i).all p=true then t else f):=by
 rw[DL l (fun i (_:Unit)=>(i:Int)) (fun _ _ x=>if p x=true then .inl ()else .inr f) (fun _=>t) (fun _ _=>True) (fun i x w hx _=>⟨by rw[h1 i x hx];cases p x<;>rfl,fun _ _=>trivial⟩) (fun _ _=>h2) (l.length-i+1) i () (by omega) hi trivial]
 congr 1
 generalize l.drop i=l'
 clear h1 h2 hi
 revert i
 induction l' with
 |nil=>intro i;rfl
 |cons x xs ih=>
  intro i
  rw[Il,List.all_cons]
  cases hp:p x with
  |true=>simp only[if_true,Bool.true_and];exact ih (i+1)
  |false=>simp
theorem Bt{step:Int->Option (Int⊕τ)}(l:List α)(p:α->Bool)(t f:τ)
 (h1:∀(i:Nat) x,l[i]? =some x->step i=some (if p x=true then .inl ((i+1:Nat):Int)else .inr f)) (h2:step l.length=some (.inr t)):
 AU step 0=some (if l.all p=true then t else f):=by
 have h:=aCf l p t f h1 h2 0 (by omega)
 rw[List.drop_zero]at h
 exact h
def DC(g:Nat->α->Option τ):Nat->Unit->α->Unit⊕τ:=fun i _ x=>match g i x with
 |none=>.inl ()
 |some t=>.inr t
theorem Ck{step:Int->Option (Int⊕τ)}(l:List α)(g:Nat->α->Option τ)(t:τ)
 (h1:∀(i:Nat) x,l[i]? =some x->step i=some (match g i x with|none=>.inl ((i+1:Nat):Int)|some t=>.inr t)) (h2:step l.length=some (.inr t)):
 AU step 0=some (Il (DC g) (fun _=>t) 0 l ()):=
 DL l (fun i (_:Unit)=>(i:Int)) (DC g) (fun _=>t) (fun _ _=>True)
  (fun i x w hx _=>⟨by rw[h1 i x hx];unfold DC;cases g i x<;>rfl,fun _ _=>trivial⟩) (fun _ _=>h2) (l.length+1) 0 () (by omega) (by omega) trivial
theorem B6(g:α->Option τ)(t:τ):∀(l:List α) (i:Nat),Il (DC fun _=>g) (fun _=>t) i l ()=(l.findSome? g).getD t
 |[],i=>rfl
 |x::xs,i=>by
  rw[Il,List.findSome?_cons];cases hg:g x with
  |none=>
   have e:DC (fun _=>g) i () x=.inl ():=by simp[DC,hg]
   rw[e];exact B6 g t xs (i+1)
  |some y=>
   have e:DC (fun _=>g) i () x=.inr y:=by simp[DC,hg]
   rw[e];rfl
theorem Im(p:α->Bool):∀(l:List α) (i:Nat),Il (DC fun i x=>if p x=true then some (Sum.inr (i:Int):Unit⊕Int)else none) (fun _=>.inl ()) i l ()=if l.any p=true then .inr ((i+l.findIdx p:Nat):Int)else .inl ()
 |[],i=>rfl
 |x::xs,i=>by
  have ih:=Im p xs (i+1);rw[Il,List.any_cons,List.findIdx_cons];cases hp:p x with
  |true=>simp[DC,hp]
  |false=>
   have e:DC (fun i x=>if p x=true then some (Sum.inr (i:Int):Unit⊕Int)else none) i () x=.inl ():=by simp[DC,hp]
   rw[e]
   simp only[Bool.false_or,cond_false]
   rw[ih,Nat.add_assoc,Nat.add_comm 1]
theorem D6{step:Int->Option (Int⊕(Unit⊕Int))}(l:List α)(p:α->Bool)
 (h1:∀(i:Nat) x,l[i]? =some x->step i=some (if p x=true then .inr (.inr (i:Int))else .inl ((i+1:Nat):Int))) (h2:step l.length=some (.inr (.inl ()))):
 AU step 0=some (if l.any p=true then .inr ((l.findIdx p:Nat):Int)else .inl ()):=by
 rw[Ck l (fun i x=>if p x=true then some (Sum.inr (i:Int):Unit⊕Int)else none) (.inl ()) (fun i x hx=>by rw[h1 i x hx];cases p x<;>rfl) h2,Im,Nat.zero_add]
theorem Dk{step:Int×β->Option (Int×β⊕τ)}(l:List α)(f:β->α->β)(fin:β->τ)(I:Nat->β->Prop)
 (h1:∀(i:Nat) x w,l[i]? =some x->I i w->step (i,w)=some (.inl (((i+1:Nat):Int),f w x))/\I (i+1) (f w x))
 (h2:∀w,I l.length w->step (l.length,w)=some (.inr (fin w))) (w:β) (h0:I 0 w):AU step (0,w)=some (fin (l.foldl f w)):=by
 have h:=DL (step:=step) l (fun i w=>((i:Int),w)) (fun _ w x=>(.inl (f w x):β⊕τ)) fin I (fun i x w hx hI=>⟨(h1 i x w hx hI).1,fun w' hw=>by cases hw;exact(h1 i x w hx hI).2⟩) h2 (l.length+1) 0 w (by omega) (by omega) h0
 rw[show((0:Int),w)=(((0:Nat):Int),w)from rfl,h,List.drop_zero]
 congr 1
 clear h h1 h2 h0
 generalize 0=i
 revert i w
 induction l with
 |nil=>intro w i;rfl
 |cons x xs ih=>intro w i;rw[Il];exact ih _ _
theorem Fa(p:α->Bool):∀(l:List α) (w:List α),l.foldl (fun w x=>if p x=true then w++[x]else w) w=w++l.filter p
 |[],w=>by simp
 |x::xs,w=>by
  rw[List.foldl_cons,Fa p xs,List.filter_cons];cases p x<;>simp
theorem Ma{a:List α}{b:List β}{i:Nat}{z:α×β}(h:(a.zip b)[i]? =some z):a[i]? =some z.1/\b[i]? =some z.2:=by rw[List.getElem?_zip_eq_some]at h;exact h
theorem DM [DecidableEq α]:∀{a b:List α},a.length=b.length->(a.zip b).all (fun z=>decide (z.1=z.2))=decide (a=b)
 |[],[],_=>by simp
 |x::a,y::b,h=>by
  rw[List.zip_cons_cons,List.all_cons,DM (a:=a) (b:=b) (by simpa using h)];by_cases hx:x=y<;>by_cases hy:a=b<;>simp[hx,hy]
 |[],_::_,h=>by simp at h
 |_::_,[],h=>by simp at h
theorem MH(a b:Nat):decide ((a:Int)=(b:Int))=decide (a=b):=by
 by_cases h:a=b;simp[h];have:¬(a:Int)=(b:Int):=by omega
 simp[h,this]
end
theorem Uw{τ:Type}{step:Int->Option (Int⊕τ)}(n i0:Nat)(P:Nat->Prop)(Q:τ->Prop)(hi:i0<=n)
 (h1:∀i:Nat,i0<=i->i<n->(step i=some (.inl ((i+1:Nat):Int))/\P i)\/∃t,step i=some (.inr t)/\Q t)
 (h2:(∀j,i0<=j->j<n->P j)->∃t,step n=some (.inr t)/\Q t):∃t,AU step i0=some t/\Q t:=by
 refine Am (fun s=>∃i:Nat,s=(i:Int)/\i0<=i/\i<=n/\∀j,i0<=j->j<i->P j) (fun s=>(n-s).toNat) Q ?_ (i0:Int) ⟨i0,rfl,Nat.le_refl _,hi,fun j a b=>by omega⟩
 rintro s ⟨i,rfl,a,b,c⟩
 by_cases he:i=n
 subst he
 exact .inl (h2 c)
 rcases h1 i a (by omega)with⟨d,e⟩|d
 refine .inr ⟨_,d,⟨i+1,rfl,by omega,by omega,fun j f g=>?_⟩,by omega⟩
 rcases Nat.lt_or_ge j i with h|h
 exact c j f h
 have:j=i:=by omega
 subst this;exact e
 exact .inl d
theorem Af{τ:Type}{step:Int->Option (Int⊕τ)}(n:Nat)(P:Nat->Prop)(Q:τ->Prop)
 (h1:∀i:Nat,i<n->(step i=some (.inl ((i+1:Nat):Int))/\P i)\/∃t,step i=some (.inr t)/\Q t)
 (h2:(∀j,j<n->P j)->∃t,step n=some (.inr t)/\Q t):∃t,AU step 0=some t/\Q t:=
 Uw (step:=step) n 0 P Q (Nat.zero_le _) (fun i _ hi=>h1 i hi) (fun h=>h2 fun j hj=>h j (Nat.zero_le _) hj)
section
variable {α β:Type} {Q:β->Prop} {a b:Option β}
theorem A5{p:Prop} [Decidable p](h1:p->∃r,a=some r/\Q r)(h2:¬p->∃r,b=some r/\Q r):∃r,AE (decide p) a b=some r/\Q r:=by by_cases h:p;simpa[AE,h]using h1 h;simpa[AE,h]using h2 h
theorem B9{p:Prop} [Decidable p](h1:¬p->∃r,a=some r/\Q r)(h2:p->∃r,b=some r/\Q r):∃r,AE (!decide p) a b=some r/\Q r:=by by_cases h:p;simpa[AE,h]using h2 h;simpa[AE,h]using h1 h
theorem NX{c:Bool}(h1:c=true->∃r,a=some r/\Q r)(h2:c=false->∃r,b=some r/\Q r):∃r,AE c a b=some r/\Q r:=by cases c;exact h2 rfl;exact h1 rfl
theorem FA{c:Bool}(h1:c=false->∃r,a=some r/\Q r)(h2:c=true->∃r,b=some r/\Q r):∃r,AE (!c) a b=some r/\Q r:=by cases c;exact h1 rfl;exact h2 rfl
theorem BA{e:Option α}{x:α}{k:α->Option β}(h:e=some x)(hk:∃r,k x=some r/\Q r):∃r,AG e k=some r/\Q r:=by rw[h];exact hk
theorem Iq{e:Option β}(h:∃r,e=some r/\True):∃r,e=some r:=by obtain⟨r,h,_⟩:=h;exact⟨r,h⟩
end
theorem Ag{α:Type}{n:Nat}{l:List α}{x:α}(h:l[n]? =some x)(hl:l.length<=9223372036854775807):AB .add .i64 (n:Int) 1=((n+1:Nat):Int):=by have:=(List.getElem?_eq_some_iff.1 h).1;exact J1 (by omega)
theorem ltD{α:Type}{n:Nat}{l:List α}{x:α}(h:l[n]? =some x):decide ((n:Int)<(l.length:Int))=true:=by have:=(List.getElem?_eq_some_iff.1 h).1;simp;omega
theorem ltI(n:Nat):decide ((n:Int)<(n:Int))=false:=by simp
theorem Cr{β:Type}(p:Prop) [Decidable p](a b:Option β):AE (decide p) a b=if p then a else b:=by by_cases h:p<;>simp[h,AE]
theorem At{α:Type}{n:Nat}{l:List α}{x:α}(h:l[n]? =some x):n<l.length:=(List.getElem?_eq_some_iff.1 h).1
end Go.Ac
namespace Go.Ac
end Go.Ac
namespace Go.Ac
section
variable {K V:Type}
abbrev ms(fk:K->D)(fv:V->D)(S:List (K×V)):List (D×D):=S.map fun x=>(fk x.1,fv x.2)
end
def aKl:Code->Array Oper
 | .loop (.seq (.region _ ops _) _)=>ops
 |_=> #[]
def aPm(P:Program)(rd:Option Nat)(root:Code)(ws:List (Nat×W))(lw:List Lw)(q:List Nat)(l:List Ws)(s:St)(e:Ex)(s':St):Prop:=
 match aDn P (aKl (As root q)) ws ((aKl (As root q)).toList.drop 1) s with
 |some (Φ0,s0)=>match CK P ws lw (1::0::q) (As root (1::0::q)) s0 with
  |some (Φ,e1,s1)=>match wks l s1 with
   |some s2=>Φ0.okK P (C6 P rd root) (Φ.okK P (C6 P rd root) True)/\(e1=e/\s2=s')
   |none=>False
  |none=>False
 |none=>False
attribute [irreducible] aPm
end Go.Ac
namespace Go.Ac
open Go.MapKept
end Go.Ac
namespace Go.Ac
def Le{α:Type}(a b:Option α):Prop:=∀r,a=some r->b=some r
section
variable {α β γ σ τ:Type}
theorem Le.refl(a:Option α):Le a a:=fun _ h=>h
theorem AX{a b:Option α}{k k':α->Option β}(h:Le a b)(hk:∀x,Le (k x) (k' x)):Le (AG a k) (AG b k'):=fun r e=>by
 cases a with
 |none=>cases e
 |some x=>rw[h x rfl];exact hk x r e
theorem Ap{c:Bool}{a b a' b':Option β}(h1:Le a a')(h2:Le b b'):Le (AE c a b) (AE c a' b'):=by cases c;exact h2;exact h1
theorem E6{p:Prop} [Decidable p]{k k':Option β}(h:Le k k'):Le (Ai p k) (Ai p k'):=fun r e=>by unfold Ai at e⊢;split at e;rename_i hp;rw[if_pos hp];exact h r e;cases e
theorem Di{xs:List α}{i:Int}{k k':α->Option β}(h:∀x,Le (k x) (k' x)):Le (AW xs i k) (AW xs i k'):=fun r e=>by unfold AW at e⊢;split at e;rename_i hp;rw[if_pos hp];split at e;rename_i hx;exact h _ r e;cases e;cases e
theorem DF{o:α⊕β}{f f':α->Option γ}{g g':β->Option γ}(h1:∀x,Le (f x) (f' x))(h2:∀x,Le (g x) (g' x)):Le (Ay o f g) (Ay o f' g'):=by
 cases o with
 |inl x=>exact h1 x
 |inr x=>exact h2 x
theorem aD1{step step':σ->Option (σ⊕τ)}(h:∀s,Le (step s) (step' s)):∀(n:Nat) (s:σ),Le (itE step n s) (itE step' n s)
 |0,s=>Le.refl _
 |n+1,s=>fun r e=>by
  simp only[itE]at e⊢;split at e;cases e;rename_i s' hs;rw[h s _ hs];exact aD1 h n s' r e;rename_i t hs;rw[h s _ hs];exact e
theorem BD{step step':σ->Option (σ⊕τ)}(h:∀s,Le (step s) (step' s))(n:Nat)(s:σ):Le (itE step n s) (AU step' s):=fun r e=>Dj.2 ⟨n,aD1 h n s r e⟩
end
end Go.Ac
namespace Go.Ac
open Go.ChangeShapes Go.WideShapes Go.ChangeAt Go.RowKit

def hOf(w:World):Hw:=fun b=>match w.heap[b]? with
 |some (.cells cs _ _)=>cs.size
 |_=>0
theorem aKh{w:World}{a:Addr}{v:Value}(h:w.cell? a=some v):a.off<hOf w a.block:=by
 have hs:=KQ h;obtain⟨b,o,sp⟩:=a;simp only at hs;subst hs;unfold World.cell? at h;unfold hOf;simp only at h⊢;cases hb:w.heap[b]? with
 |none=>simp[hb]at h
 |some ob=>
  cases ob with
  |cells cs t fr=>
   simp[hb]at h
   exact(Array.getElem?_eq_some_iff.1 h).1
  |_=>simp[hb]at h
def BK{α:Type}(P:Program)(t:TypeId)(f:α->D)(R:α->Prop):Prop:=
 ∀{H:Type} (enc:TypeId×Value->H) (w:World) (sp:Nat->Bool) (held:Bool) (fuel:Nat) (cs:List Value) (x:DataW H×List MemPlace),DataW.trod enc P w 0 sp held fuel t cs=some x->
  ∃v:α,RDs (hOf w) w (f v).cells cs/\R v
theorem Az{P:Program}{t:TypeId}{k:IntKind}(ht:P.underlying t=some (.int k)):BK P t (D.i k) (fun n=>(Lit.int k n).wf=true):=by
 intro H enc w sp held fuel cs x h;cases fuel with
 |zero=>simp[DataW.trod]at h
 |succ fuel=>
  unfold DataW.trod at h
  rw[ht]at h
  match cs,h with
  |[.int k' n],h=>
   simp only at h
   split at h
   rename_i hc
   obtain⟨rfl,hw⟩:=hc
   exact⟨n,by simp only[D.i,D.cells,RDs,RD];exact⟨_,[],rfl,⟨rfl,rfl⟩,rfl,rfl⟩,hw⟩
   cases h
theorem D8{P:Program}{t:TypeId}(ht:P.underlying t=some .bool):BK P t D.b (fun _=>True):=by
 intro H enc w sp held fuel cs x h;cases fuel with
 |zero=>simp[DataW.trod]at h
 |succ fuel=>
  unfold DataW.trod at h
  rw[ht]at h
  match cs,h with
  |[.bool b],h=>exact⟨b,by simp only[D.b,D.cells,RDs,RD];exact⟨_,[],rfl,⟨rfl,rfl⟩,rfl,rfl⟩,trivial⟩
theorem Bn{P:Program}{t:TypeId}(ht:P.underlying t=some .string):BK P t D.s (fun l=>l.length<=9223372036854775807):=by
 intro H enc w sp held fuel cs x h;cases fuel with
 |zero=>simp[DataW.trod]at h
 |succ fuel=>
  unfold DataW.trod at h
  rw[ht]at h
  match cs,h with
  |[.string s],h=>
   simp only at h
   split at h
   rename_i hc
   exact⟨s.data.toList,by simp only[D.s,D.cells,RDs,RD];exact⟨_,[],rfl,⟨rfl,rfl⟩,rfl,rfl⟩,by simpa[maxLen]using hc⟩
   cases h
theorem AT{h:Hw}{w:World}{A B:List D}{cs:List Value}{o k:Nat}(h1:RDs h w A ((cs.drop o).take k))(h2:RDs h w B (cs.drop (o+k))):RDs h w (A++B) (cs.drop o):=by have:=RDs.append h1 h2;rwa [<-List.drop_drop,List.take_append_drop]at this
theorem Hn{H:Type}{enc:TypeId×Value->H}{P:Program}{w:World}{sp:Nat->Bool}{held:Bool}{fuel:Nat}{cs:List Value}:∀{l:List Field} {xs:List (DataW H×List MemPlace)},
 l.mapM (fun f=>DataW.trod enc P w 0 sp held fuel f.type ((cs.drop f.offset).take (P.cellsOf f.type)))=some xs->∀f∈l,∃x,DataW.trod enc P w 0 sp held fuel f.type ((cs.drop f.offset).take (P.cellsOf f.type))=some x
 |[],xs,_,f,hf=>by cases hf
 |g::l,xs,h,f,hf=>by
  simp only[List.mapM_cons]at h;cases h1:DataW.trod enc P w 0 sp held fuel g.type ((cs.drop g.offset).take (P.cellsOf g.type))with
  |none=>simp[h1]at h
  |some y=>
   rcases mc.1 hf with rfl|hf
   exact⟨y,h1⟩
   cases h2:l.mapM (fun f=>DataW.trod enc P w 0 sp held fuel f.type ((cs.drop f.offset).take (P.cellsOf f.type)))with
   |none=>simp[h1,h2]at h
   |some ys=>exact Hn h2 f hf
theorem Aw{P:Program}{t:TypeId}{fs:Array Field}{n:Nat}{α:Type}{f:α->D}{R:α->Prop}(ht:P.underlying t=some (.struct fs))(hn:P.cellsOf t=n)
 (key:∀{H:Type} (enc:TypeId×Value->H) (w:World) (sp:Nat->Bool) (held:Bool) (fuel:Nat) (cs:List Value),cs.length=n->
  (∀g∈fs.toList,∃x,DataW.trod enc P w 0 sp held fuel g.type ((cs.drop g.offset).take (P.cellsOf g.type))=some x)->∃v:α,RDs (hOf w) w (f v).cells cs/\R v):BK P t f R:=by
 intro H enc w sp held fuel cs x h
 cases fuel with
 |zero=>simp[DataW.trod]at h
 |succ fuel=>
  unfold DataW.trod at h
  rw[ht]at h
  simp only at h
  split at h
  rename_i hc
  simp only[om]at h
  obtain⟨xs,hx,_⟩:=h
  exact key enc w sp held fuel cs (by rw[hc,hn]) (Hn hx)
  cases h

theorem Ot{w:World}{a:Addr}{n:Nat}{cs:List Value}(h:w.cells? 0 a n=some cs):cs.length=n/\∀j v,cs[j]? =some v->w.cell? (a.add j)=some v:=by
 unfold World.cells? at h;simp only[Nat.zero_le,if_true]at h;have key:∀(l:List Nat) (cs:List Value),l.mapM (fun i=>w.cell? (a.add i))=some cs->cs.length=l.length/\∀(j i:Nat) (v:Value),l[j]? =some i->cs[j]? =some v->w.cell? (a.add i)=some v:=by
  intro l;induction l with
  |nil=>intro cs h;simp at h;subst h;simp
  |cons x l ih=>
   intro cs h
   simp only[List.mapM_cons]at h
   cases h1:w.cell? (a.add x)with
   |none=>simp[h1]at h
   |some y=>
    cases h2:l.mapM (fun i=>w.cell? (a.add i))with
    |none=>simp[h1,h2]at h
    |some ys=>
     simp[h1,h2]at h
     subst h
     obtain⟨g1,g2⟩:=ih ys h2
     refine⟨by simp[g1],fun j i v hj hv=>?_⟩
     cases j with
     |zero=>simp at hj hv;subst hj;subst hv;exact h1
     |succ j=>exact g2 j i v (by simpa using hj) (by simpa using hv)
 obtain⟨h1,h2⟩:=key _ _ h;rw[List.length_range]at h1;refine⟨h1,fun j v hj=>h2 j j v ?_ hj⟩;have:j<n:=by rw[<-h1];exact(List.getElem?_eq_some_iff.1 hj).1
 rw[List.getElem?_range this]
theorem L5{h:Hw}{w:World}{x:D}{cs:List Value}(hr:RDs h w x.cells cs):∃u:Value,u.cells.toList=cs/\RD h w x u:=by
 cases x with
 |agg l=>
  refine⟨.agg ⟨cs⟩,rfl,?_⟩
  simp only[RD]
  exact⟨cs,rfl,hr⟩
 |v x=>
  simp only[D.cells,RDs]at hr
  obtain⟨u,us',rfl,h1,h2,rfl⟩:=hr
  have hc:u.cells= #[u]:=by cases u<;>first|rfl|(simp[Value.oneCell']at h2)
  exact⟨u,by rw[hc],h1⟩
 |sl xs=>
  simp only[D.cells,RDs]at hr
  obtain⟨u,us',rfl,h1,h2,rfl⟩:=hr
  have hc:u.cells= #[u]:=by cases u<;>first|rfl|(simp[Value.oneCell']at h2)
  exact⟨u,by rw[hc],h1⟩
 |ptr xs=>
  simp only[D.cells,RDs]at hr
  obtain⟨u,us',rfl,h1,h2,rfl⟩:=hr
  have hc:u.cells= #[u]:=by cases u<;>first|rfl|(simp[Value.oneCell']at h2)
  exact⟨u,by rw[hc],h1⟩
theorem A9{P:Program}{t e:TypeId}{α:Type}{f:α->D}{R:α->Prop}{k:Nat} [hk:Bp f k](ht:P.underlying t=some (.slice e))(hc:P.cellsOf e=k)(he:BK P e f R):
 BK P t (D.l f) (fun l=>l.length<=9223372036854775807/\∀x∈l,R x):=by
 intro H enc w sp held fuel cs x h
 cases fuel with
 |zero=>simp[DataW.trod]at h
 |succ fuel=>
  unfold DataW.trod at h
  rw[ht]at h
  match cs,h with
  |[.slice none 0 0],_=>
   exact⟨[],by simp only[D.l,List.map_nil,D.cells,RDs];exact⟨_,[],rfl,IF _ _,rfl,rfl⟩,by simp⟩
  |[.slice (some a) len cap],h=>
   simp only at h
   split at h
   rename_i hh
   simp only[Option.bind_eq_some_iff]at h
   obtain⟨elems,hel,_⟩:=h
   have key:∀(n:Nat) (ys:List (DataW H×List MemPlace)),(List.range n).mapM (fun i=>(w.cells? 0 (a.add (i*P.cellsOf e)) (P.cellsOf e)).bind (DataW.trod enc P w 0 sp held fuel e))=some ys->
    ∃(vs:List α) (us:List Value),vs.length=n/\Ah (hOf w) w k (vs.map f) us/\(∀x∈vs,R x)/\∀j v,us[j]? =some v->w.cell? (a.add j)=some v:=by
    intro n
    induction n with
    |zero=>intro ys _;exact⟨[],[],rfl,by simp[Ah],by simp,by simp⟩
    |succ n ih=>
     intro ys h
     rw[List.range_succ,List.mapM_append]at h
     cases h1:(List.range n).mapM (fun i=>(w.cells? 0 (a.add (i*P.cellsOf e)) (P.cellsOf e)).bind (DataW.trod enc P w 0 sp held fuel e))with
     |none=>simp[h1]at h
     |some zs=>
      obtain⟨vs,us,g1,g2,g3,g4⟩:=ih zs h1
      cases h2:w.cells? 0 (a.add (n*P.cellsOf e)) (P.cellsOf e)with
      |none=>simp[h1,h2]at h
      |some cs'=>
       cases h3:DataW.trod enc P w 0 sp held fuel e cs' with
       |none=>simp[h1,h2,h3]at h
       |some y=>
        obtain⟨v,r1,r2⟩:=he enc w sp held fuel cs' y h3
        obtain⟨u,e1,r3⟩:=L5 r1
        obtain⟨c1,c2⟩:=Ot h2
        have hul:=Ah.length g2
        rw[List.length_map,g1]at hul
        have hn:(f v).nc=k:=Bp.h v
        refine⟨vs++[v],us++cs',by simp[g1],?_,?_,?_⟩
        rw[List.map_append]
        refine g2.append ?_
        simp only[List.map_cons,List.map_nil,Ah]
        refine⟨u,[],by simp[e1],?_,hn,r3,?_,rfl⟩
        rw[RD.size r3,hn]
        exact(RD.cells r3).2
        intro x hx
        rcases ma.1 hx with hx|hx
        exact g3 x hx
        simp at hx;subst hx;exact r2
        intro j v' hj
        rcases Nat.lt_or_ge j us.length with hlt|hge
        rw[List.getElem?_append_left hlt]at hj
        exact g4 j v' hj
        rw[List.getElem?_append_right hge]at hj
        have:=c2 _ _ hj
        rw[G1,hul,hc]at this
        rw[show n*k+(j-n*k)=j by omega]at this
        exact this
   obtain⟨vs,us,g1,g2,g3,g4⟩:=key len elems hel
   refine⟨vs,?_,by rw[g1];have:=hh.2.1;have:=hh.2.2;simp[maxLen]at this;omega,g3⟩
   simp only[D.l,D.cells,RDs]
   refine⟨_,[],rfl,?_,rfl,rfl⟩
   simp only[RD]
   refine⟨some a,cap,k,us,by rw[List.length_map,g1],by rw[List.length_map,g1];exact hh.2.1,hh.2.2,g2,fun _=>⟨a,rfl,fun j v hj=>?_⟩⟩
   have:=g4 j v hj
   refine⟨this,?_⟩
   have h5:=aKh this
   rw[Bj,DA]at h5
   exact h5
   cases h

theorem Ja{h h':Hw}{w w':World}(k:BS [] h w h' w'):Below w.heap.size w w':=
 ⟨k.os,k.tape,k.output,k.size,fun b hb=>(k.far b hb (by simp)).1⟩
section
variable {H:Type} {enc:TypeId×Value->H} {P:Program}
theorem Jq{f:Func}{s:ChangeSpec}{apart fresh handsOn again:Bool}{W W':World}{args:Array Value}{v:Value}{ds gs:List (DataW H)}{before pa pv:List MemPlace}
 (hW:DataW.Whole enc P f.params.toList s.vars apart W args.toList ds gs before)
 (hres:∀(b:Nat) (sp:Nat->Bool) (hd:Bool),DataW.TrodAll enc P W' b sp hd f.resultTypes.toList (v.resultList f.resultTypes.size) (s.fn H (ds++gs)).results [])
 (hargs:∀sp:Nat->Bool,(∀p∈before,sp p.block=true)->DataW.TrodAll enc P W' 0 sp true f.params.toList args.toList (s.fn H (ds++gs)).args pa)
 (hvars:∀sp:Nat->Bool,(∀p∈before,sp p.block=true)->DataW.TrodVars enc P W' sp s.vars (s.fn H (ds++gs)).vars pv)
 (hps:before=pa++pv) (hb:Below W.heap.size W W')
 (hok:∀(j:Nat) (t:TypeId) (r:Value),f.resultTypes[j]? =some t->(v.resultList f.resultTypes.size)[j]? =some r->Value.okWide P W' .any 0 t r):
 s.post enc P f apart fresh handsOn again W args v W':=by
 have hlt:∀p∈before,p.block<W.heap.size:=fun p hp=>hW.lt p hp
 have hold:∀p∈before,(fun b=>decide (b<W.heap.size)) p.block=true:=fun p hp=>by simpa using hlt p hp
 refine⟨ds,gs,before,[],pa,pv,hW,hres _ _ _,hargs _ hold,hvars _ hold,World.keptBut_mono (fun p hp=>⟨hp,?_⟩) (hb.frame (· ∈before)),fun _=>?_⟩
 rw[hps,ma]at hp
 exact Or.inr hp
 obtain⟨_,_,_,_,_,hz,hn⟩:=hW
 refine⟨hok,_,_,([]++pa)++pv,⟨[]++pa,pv,trodAll_append (hargs _ (fun _ _=>rfl)) (hres _ _ _),hvars _ (fun _ _=>rfl),rfl,?_,?_⟩,?_⟩
 intro b off hp
 have hin:MemPlace.cell b off∈before:=by rw[hps];simpa using hp
 rw[hb.frozen (hlt _ hin)]
 exact hz b off hin
 intro ha
 have:=hn ha
 rw[hps]at this
 simpa using this
 intro p hp _
 rw[hps]
 simpa using hp
end
theorem Ep{H:Type}{enc:TypeId×Value->H}{P:Program}(hl:laidOutB P=true){W W':World}(hb:Below W.heap.size W W'):∀{ts:List TypeId} {vs:List Value} {ds:List (DataW H)} {ps:List MemPlace},
 (ts.all fun t=>P.readableRec t&&decide (t<P.types.size))=true->DataW.TrodAll enc P W 0 (fun _=>true) true ts vs ds ps->(∀x∈ps,x.block<W.heap.size)->∀sp:Nat->Bool,(∀p∈ps,sp p.block=true)->
 DataW.TrodAll enc P W' 0 sp true ts vs ds ps
 |[],[],[],ps,_,h,_,sp,_=>h
 |t::ts,v::vs,d::ds,ps,ht,h,hlt,sp,hsp=>by
  obtain⟨p,q,h1,h2,rfl⟩:=h;simp only[List.all_cons,ba,decide_eq_true_eq]at ht;exact⟨p,q,WideElems.Trod_stays hl ht.1.1 ht.1.2 h1 (fun x hx=>hb.same (hlt x (ml _ hx))) (fun x hx=>hsp x (ml _ hx)),
   Ep hl hb ht.2 h2 (fun x hx=>hlt x (mr _ hx)) sp (fun x hx=>hsp x (mr _ hx)),rfl⟩
 |[],_::_,_,_,_,h,_,_,_=>h.elim
 |[],[],_::_,_,_,h,_,_,_=>h.elim
 |_::_,[],_,_,_,h,_,_,_=>h.elim
 |_::_,_::_,[],_,_,h,_,_,_=>h.elim
theorem Kg{P:Program}{F:FuncId}{f:Func}{s:ChangeSpec}{H:Type}{enc:TypeId×Value->H}{W:World}{args:Array Value}{ds gs:List (DataW H)}{before:List MemPlace}{tb:TypeId}
 (hl:laidOutB P=true) (hts:(f.params.toList.all fun t=>P.readableRec t&&decide (t<P.types.size))=true) (hr:f.resultTypes= #[tb]) (htb:P.underlying tb=some .bool) (hvs:s.vars=[])
 (hfn:∀ds:List (DataW H),ds.length=f.params.size->s.fn H ds={results:=[.lit (.bool true)],args:=ds,vars:=[]})
 (hW:DataW.Whole enc P f.params.toList s.vars false W args.toList ds gs before)
 (hcall:∃as':List A,RAs (hOf W) W (fun _=>.bool true) as' args.toList/\AO P F as' [] (bo true) []):
 Calls P F args W fun e W'=>∃v,e=.returned v/\s.post enc P f false true false false W args v W':=by
 have hW':=hW
 obtain⟨p,q,hA,hV,rfl,hfz,hnd⟩:=hW
 have hlt:∀x∈p++q,x.block<W.heap.size:=fun x hx=>hW'.lt x hx
 rw[hvs]at hV
 have hg:gs=[]/\q=[]:=by
  cases gs with
  |nil=>exact⟨rfl,by simpa[DataW.TrodVars]using hV⟩
  |cons g gs=>simp[DataW.TrodVars]at hV
 obtain⟨rfl,rfl⟩:=hg
 have hlen:∀{ts:List TypeId} {vs:List Value} {ds:List (DataW H)} {ps:List MemPlace},DataW.TrodAll enc P W 0 (fun _=>true) true ts vs ds ps->ds.length=ts.length:=by
  intro ts;induction ts with
  |nil=>
   intro vs ds ps h
   cases vs<;>cases ds<;>first|rfl|exact h.elim
  |cons t ts ih=>
   intro vs ds ps h
   cases vs<;>cases ds<;>first|exact h.elim|(obtain⟨_,_,_,h2,_⟩:=h;simp[ih h2])
 have hd:ds.length=f.params.size:=by rw[hlen hA];simp
 obtain⟨as',hra,hc⟩:=hcall
 refine(hc (hOf W) W (fun _=>.bool true) args.toList (Inv.nil _ _ _) hra).mono fun e W' hh=>?_
 obtain⟨h',val',u,rfl,_,hu,hk,_,_⟩:=hh
 have hb:=Ja hk
 simp only[bo,RA,RD]at hu
 obtain⟨rfl,_⟩:=hu
 have hsf:s.fn H (ds++[])={results:=[.lit (.bool true)],args:=ds,vars:=[]}:=by rw[List.append_nil];exact hfn ds hd
 simp only[List.append_nil]at hlt hW'
 refine⟨_,rfl,Jq (pa:=p) (pv:=[]) (ds:=ds) (gs:=[]) (before:=p) hW' ?_ ?_ ?_ (by simp) hb ?_⟩
 intro b sp hd
 rw[hsf,hr]
 exact trodAll_mk1 (shut_bool htb _)
 intro sp hsp
 rw[hsf]
 exact Ep hl hb hts hA hlt sp hsp
 intro sp _
 rw[hsf,hvs];rfl
 exact ok_one hr rfl (okWide_bool_mk htb _)

theorem Jp{P:Program}{w:World}{base:Nat}{t:TypeId}{v:Value}(h:Value.okWide P w .any base t v)
 (ht:(match P.underlying t with|some (.int _)|some .bool|some .string|some (.slice _)=>true|_=>false)=true):∀cs,v≠ .agg cs:=by
 intro cs e
 subst e
 unfold Value.okWide at h
 split at ht<;>first|cases ht|skip
 all_goals (rename_i hu;simp only[hu,Cell.okWide,Cell.ok]at h)
theorem aGq{h:Hw}{w:World}{x:D}{v:Value}(hr:RDs h w x.cells v.cells.toList)(hx:∀c,x≠ .agg c)(hv:∀cs,v≠ .agg cs):RD h w x v:=by
 have e:v.cells= #[v]:=by cases v<;>first|rfl|exact absurd rfl (hv _)
 rw[e]at hr;have e2:x.cells=[x]:=by cases x<;>first|rfl|exact absurd rfl (hx _)
 rw[e2]at hr;simp only[RDs]at hr;obtain⟨u,us',h1,h2,_⟩:=hr;simp at h1;rw[h1.1];exact h2
theorem aGp{h:Hw}{w:World}{cs:List D}{v:Value}(hr:RDs h w cs v.cells.toList)(hv:∃us,v=.agg us):RD h w (.agg cs) v:=by obtain⟨us,rfl⟩:=hv;simp only[RD];exact⟨us.toList,rfl,hr⟩
theorem JU{P:Program}{w:World}{base:Nat}{t:TypeId}{v:Value}{fs:Array Field}(h:Value.okWide P w .any base t v)(ht:P.underlying t=some (.struct fs)):∃us,v=.agg us:=by unfold Value.okWide at h;rw[ht]at h;obtain⟨cs,rfl,_⟩:=h;exact⟨cs,rfl⟩
theorem UC{α:Type}{P:Program}{t:TypeId}{f:α->D}{R:α->Prop}(hR:BK P t f R){H:Type}{enc:TypeId×Value->H}{W:World}{v:Value}{d:DataW H}{p:List MemPlace}{base:Nat}{sp:Nat->Bool}
 (h:DataW.Trod enc P W 0 sp true t v d p) (hx:∀a c,f a≠ .agg c) (hok:Value.okWide P W .any base t v)
 (ht:(match P.underlying t with|some (.int _)|some .bool|some .string|some (.slice _)=>true|_=>false)=true):∃x:α,RD (hOf W) W (f x) v/\R x:=by
 obtain⟨fuel,h⟩:=h
 obtain⟨x,h1,h2⟩:=hR enc W _ _ _ _ _ h
 exact⟨x,aGq h1 (hx x) (Jp hok ht),h2⟩
theorem IR{α:Type}{P:Program}{t:TypeId}{f:α->D}{R:α->Prop}(hR:BK P t f R){H:Type}{enc:TypeId×Value->H}{W:World}{v:Value}{d:DataW H}{p:List MemPlace}{base:Nat}{sp:Nat->Bool}{fs:Array Field}
 (h:DataW.Trod enc P W 0 sp true t v d p) (hx:∀a,∃c,f a=.agg c) (hok:Value.okWide P W .any base t v)
 (ht:P.underlying t=some (.struct fs)):∃x:α,RD (hOf W) W (f x) v/\R x:=by
 obtain⟨fuel,h⟩:=h
 obtain⟨x,h1,h2⟩:=hR enc W _ _ _ _ _ h
 obtain⟨c,hc⟩:=hx x
 refine⟨x,?_,h2⟩
 rw[hc]at h1⊢
 exact aGp h1 (JU hok ht)
end Go.Ac
namespace Go.Ac
theorem CR(k:IntKind)(n:Int):(D.i k n).cells=[D.i k n]:=rfl
theorem CQ(b:Bool):(D.b b).cells=[D.b b]:=rfl
theorem CT(l:List UInt8):(D.s l).cells=[D.s l]:=rfl
theorem CU(c:UInt8):(L7 c).cells=[L7 c]:=rfl
theorem CS{α:Type}(f:α->D)(l:List α):(D.l f l).cells=[D.l f l]:=rfl
theorem Ba(l:List D):(D.agg l).cells=l:=rfl
end Go.Ac
