/- Own work: how calls of the model run over plain data. -/
import Derived.Test.YtnjgfcpccmiglaaGreatDoorAcB
import Derived.Deep.LoopGhost
import Derived.ControlIn
import Derived.KernelRfl
import Derived.IntWalk
import Derived.Shelf.SlLaysN
import Derived.Shelf.RegionOpenPlain
import Derived.WalkKit
import Derived.Deep.RegionLaw
import Derived.Lib.Walk
import Derived.Lib.SliceRun
import Derived.Sort.WalkB12
import Derived.Shelf.Spec.SlicesInsertGrow
import Derived.Shelf.SlicesE.Clone
set_option linter.unusedVariables false
set_option linter.unusedSimpArgs false
namespace Go.Ac

def fresh(d:Nat)(s:St):Bool:=decide (d<up)&& !AV d s.E&& !BW d s.B

def xns:W->List Nat
 | .cx _ ρ0 _ _ _=>ρ0.map (·.2)
 | .lend ns _=>ns
 | .fzn m=> [m]
 | .mr g _ _ _ _=> [g]
 | .mb n g m _=> [n,g,m]
 | .mf n g _=> [n,g]
 |_=> []
def nns:W->List Nat
 | .cx _ _ ρ1 _ _=>ρ1.map (·.2)
 | .mkr g=> [g]
 |_=> []
structure D1(o:Oper)(s s':St):Prop where
 ev:∀x∈o.op.operands,s'.ev x=s.ev x
 bx:∀x∈o.op.operands,∀n,(s.ev x).has n=true->lk s'.B n=lk s.B n

theorem D1.look{o:Oper}{s s':St}(h:D1 o s s'):∀x∈o.op.operands,s'.look (s'.ev x)=s.look (s.ev x):=by
 intro x hx;rw[h.ev x hx];have hb:=h.bx x hx;cases hv:s.ev x with
 |row n=>rw[hv]at hb;simp only[St.look,hb n (by simp[A.has])]
 |box n off=>rw[hv]at hb;cases off<;>simp only[St.look,hb n (by simp[A.has])]
 |_=>simp only[St.look]

theorem L2{s s':St}{a:A}(hb:∀n,a.has n=true->lk s'.B n=lk s.B n):s'.look a=s.look a:=by
 cases a with
 |row n=>simp only[St.look,hb n (by simp[A.has])]
 |box n off=>cases off<;>simp only[St.look,hb n (by simp[A.has])]
 |_=>simp only[St.look]
theorem Ll{n:Nat}:∀{cs:List A} {c:A},c∈cs->c.has n=true->AV n cs=true
 |c::cs,x,hm,hn=>by
  simp only[AV,Bool.or_eq_true];rcases mc.1 hm with rfl|hm
  exact .inl hn;exact .inr (Ll hm hn)
theorem D1.deep{o:Oper}{s s':St}(h:D1 o s s'):∀x∈o.op.operands,s'.deep (s'.ev x)=s.deep (s.ev x):=by intro x hx;rw[h.ev x hx];have hb:=h.bx x hx;generalize s.ev x=a at hb;unfold St.deep;split;rename_i cs;congr 1;exact List.map_congr_left fun c hc=>L2 fun n hn=>hb n (by simp only[A.has];exact Ll hc hn);exact L2 hb
theorem SA{P:Program}{o:Oper}{ev ev' rd rd':Operand->A}{wt:W}(he:∀x∈o.op.operands,ev' x=ev x)(hr:∀x∈o.op.operands,rd' x=rd x):Nl P o ev' rd' wt=Nl P o ev rd wt:=by
 unfold Nl;cases ho:o.op<;>try rfl
 all_goals (rw[ho]at he hr;simp only[Op.operands]at he hr)
 case call c=>
  obtain⟨callee,args,tys⟩:=c
  have he':∀x∈args.toList,ev' x=ev x:=fun x hx=>he x (by simp only[Call.operands,Array.mem_append];exact .inr (Array.mem_toList_iff.1 hx))
  have hr':∀x∈args.toList,rd' x=rd x:=fun x hx=>hr x (by simp only[Call.operands,Array.mem_append];exact .inr (Array.mem_toList_iff.1 hx))
  revert he' hr'
  simp only
  generalize args.toList=l
  intro he' hr'
  split<;>first|rfl|(simp only[mc,List.not_mem_nil,or_false,forall_eq_or_imp,forall_eq]at he' hr';simp[he',hr'])
 case slice t x l h m=>
  have h1:ev' x=ev x:=he x (by simp)
  have h2:rd' x=rd x:=hr x (by simp)
  have h3:l.map ev'=l.map ev:=by
   cases l with
   |none=>rfl
   |some y=>simp only[Option.map_some];rw[he y (by simp)]
  have h4:h.map ev'=h.map ev:=by
   cases h with
   |none=>rfl
   |some y=>simp only[Option.map_some];rw[he y (by simp)]
  cases m<;>simp only[h2,h3,h4]
 case makeFunc fn first captured=>
  have h1:first.toList.map rd'=first.toList.map rd:=List.map_congr_left fun x hx=>hr x (by simp only[Array.mem_append];exact .inl (Array.mem_toList_iff.1 hx))
  have h2:captured.toList.map rd'=captured.toList.map rd:=List.map_congr_left fun x hx=>hr x (by simp only[Array.mem_append];exact .inr (Array.mem_toList_iff.1 hx))
  simp only[h1,h2]
 all_goals simp_all

theorem R6{P:Program}{o:Oper}{s s':St}{wt:W}(h:D1 o s s'):R5 P o s' wt=R5 P o s wt:=by
 unfold R5;cases ho:o.op<;>try rfl
 rename_i t x;have h1:=h.ev x (by rw[ho];simp[Op.operands]);have h2:=h.bx x (by rw[ho];simp[Op.operands]);simp only[h1];cases hv:s.ev x<;>simp only;rename_i n off;rw[hv]at h2;rw[h2 n (by simp[A.has])]
theorem HP{P:Program}{o:Oper}{s s':St}(h:D1 o s s'):EQ P o s'=EQ P o s:=by
 unfold EQ;cases ho:o.op<;>try rfl
 rename_i t x y;have h1:=h.ev x (by rw[ho];simp[Op.operands]);have h2:=h.bx x (by rw[ho];simp[Op.operands]);have h3:=h.ev y (by rw[ho];simp[Op.operands]);simp only[h1,h3];cases hv:s.ev x<;>simp only;rename_i n off;rw[hv]at h2;rw[h2 n (by simp[A.has])]
theorem Bb{d:Nat}{s:St}(h:fresh d s=true):d<up/\AV d s.E=false/\BW d s.B=false:=by simp only[fresh,ba,decide_eq_true_eq,Bool.not_eq_true']at h;exact⟨h.1.1,h.1.2,h.2⟩
theorem YQ{P:Program}{o:Oper}{s s':St}{z:A×List Ed}(h:D1 o s s')(hf:∀d,o.dst=some d->fresh d s'=true)(he:aKj P o s=some z):aKj P o s'=some z:=by
 unfold aKj at he⊢;split at he;cases he;rename_i d hd;obtain⟨f1,f2,f3⟩:=Bb (hf d hd);split at he;simp only[f1,f2,f3,decide_true,Bool.not_false,Bool.and_self,if_true];cases ho:o.op<;>simp only[ho]at he⊢ <;>try (cases he;done)
 exact he;rename_i t x;rw[h.ev x (by rw[ho];simp[Op.operands])];exact he;cases he
theorem MU{s s':St}:∀{l:List Operand},(∀x∈l,s'.deep (s'.ev x)=s.deep (s.ev x))->aCw s' l=aCw s l
 |[],_=>rfl
 |x::l,h=>by
  simp only[aCw];rw[h x (by simp),MU fun y hy=>h y (by simp[hy])]
theorem Fq{P:Program}{o:Oper}{s s':St}{b:Bool}{z:Cn×A×List Ed}(h:D1 o s s')(hf:∀d,o.dst=some d->fresh d s'=true)(he:Bn P o s b=some z):Bn P o s' b=some z:=by
 unfold Bn at he⊢;split at he;rename_i d t len parts hd ho;obtain⟨f1,f2,f3⟩:=Bb (hf d hd);skip;split at he;split at he;split at he;rename_i e he1 i hi hc;simp only[ba,decide_eq_true_eq,Bool.not_eq_true']at hc;have e1:aCw s' (parts.toList.map (·.2))=aCw s (parts.toList.map (·.2)):=MU fun x hx=>h.deep x (by rw[ho];simpa[Op.operands]using hx)
 simp only[f1,f2,f3,hc.1.1.1.1.1,hc.1.1.1.1.2,hc.1.1.1.2,decide_true,Bool.not_false,Bool.and_self,if_true,e1];exact he;cases he;cases he;cases he;cases he
theorem LM{P:Program}{o:Oper}{s s':St}{wt:W}{z:Cn×A×List Ed}(h:D1 o s s')(hf:∀d,o.dst=some d->fresh d s'=true)(he:C1 P o s wt=some z):C1 P o s' wt=some z:=by
 unfold C1 at he⊢;cases hd:o.dst with
 |none=>rw[hd]at he;simp only at he;cases he
 |some d=>
  obtain⟨f1,f2,f3⟩:=Bb (hf d hd)
  rw[hd]at he
  cases ho:o.op<;>rw[ho]at he<;>simp only at he⊢ <;>try (cases he;done)
  rename_i c
  obtain⟨callee,args,tys⟩:=c
  have hargs:∀x∈args.toList,x∈o.op.operands:=fun x hx=>by rw[ho];simp only[Op.operands,Call.operands,Array.mem_append];exact .inr (Array.mem_toList_iff.1 hx)
  simp only at he⊢
  split at he
  rename_i x y t t' ha ht
  rw[ha]at hargs
  have h1:=h.ev x (hargs x (by simp))
  have h2:=h.bx x (hargs x (by simp))
  have h3:=h.look y (hargs y (by simp))
  simp only[h1,h3]
  split at he
  split at he
  rename_i e ys he1 he2
  split at he
  rename_i i hi
  split at he
  rename_i hc
  rw[if_pos (by assumption)]
  skip
  rw[if_pos hc]
  split at he
  rename_i hx
  skip
  simp only[f1,f2,f3,decide_true,Bool.not_false,Bool.and_self,if_true]
  split at he
  exact he
  cases he
  rename_i n hx
  rw[hx]at h2
  skip
  simp only[h2 n (by simp[A.has])]
  split at he
  rename_i e' k xs hl
  split at he
  rename_i hcc
  skip
  rw[if_pos ⟨hcc.1,hcc.2.1,f1,f2,f3⟩]
  exact he
  cases he
  cases he
  cases he
  cases he
  cases he
  cases he
  cases he
  cases he
theorem Ng{P:Program}{o:Oper}{s s':St}{wt:W}(h:D1 o s s'):I8 P o s' wt=I8 P o s wt:=by
 unfold I8;cases ho:o.op<;>try rfl
 rename_i c;obtain⟨callee,args,tys⟩:=c;cases callee<;>try rfl
 rename_i g;have h1:=h.ev g (by rw[ho];simp[Op.operands,Call.operands]);have h2:args.toList.map (fun x=>s'.look (s'.ev x))=args.toList.map (fun x=>s.look (s.ev x)):=List.map_congr_left fun x hx=>h.look x (by rw[ho];simp only[Op.operands,Call.operands,Array.mem_append];exact .inr (Array.mem_toList_iff.1 hx))
 simp only[h1,h2]
theorem Fk{s s':St}{ns:List Nat}(h:∀n∈ns,lk s'.B n=lk s.B n)(n:Nat):EG s' ns n=EG s ns n:=by unfold EG;cases hn:BF n ns;rfl;simp only[if_true];rw[h n (At.1 hn)]
theorem JM{s s':St}{ns:List Nat}{bx bx':Nat->Option D}(h:∀n∈ns,lk s'.B n=lk s.B n)(hb:∀n,bx' n=bx n):∀(cs:List A),(∀n,AV n cs=true->n∈ns)->C5 s' ns bx' cs=C5 s ns bx cs
 |[],_=>rfl
 |c::cs,hc=>by
  have ih:=JM h hb cs fun n hn=>hc n (by simp[AV,hn]);cases c with
  |row n=>
   have hn:n∈ns:=hc n (by simp[AV,A.has])
   simp only[C5,Fk h,ih,St.look,h n hn]
  |box n off=>simp only[C5,hb,ih]
  |d x=>simp only[C5,ih]
  |nil=>simp only[C5,ih]
  |eptr x=>simp only[C5,ih]
  |clo f a b=>
   cases a with
   |nil=>cases b<;>simp only[C5,ih]
   |cons _ _=>simp only[C5]
  |_=>simp only[C5]
def DR(s:St)(ns:List Nat):Bool:=BT (fun n=>match lk s.B n with
 |some (.cells cs)=>JQ cs ns
 |_=>true) ns
theorem aBr{as':List A}{l:List Nat}(h:JQ as' l=true)(n:Nat)(hn:AV n as'=true):n∈l:=by unfold JQ at h;split at h;rename_i x hx;exact At.1 (A7 h n (Ca as' hx n hn));cases h
theorem JL{s s':St}{ns:List Nat}(h:∀n∈ns,lk s'.B n=lk s.B n)(hc:DR s ns=true):∀(k n:Nat),Ke s' ns k n=Ke s ns k n
 |0,_=>rfl
 |k+1,n=>by
  simp only[Ke];cases hn:BF n ns;rfl;simp only[if_true];have hm:=At.1 hn;rw[h n hm];cases hl:lk s.B n with
  |none=>rfl
  |some b=>
   cases b with
   |cells cs=>
    simp only
    have:=A7 hc n hm
    simp only[hl]at this
    exact JM h (fun m=>by rw[JL h hc k m]) cs (aBr this)
   |_=>rfl
mutual
theorem Sb{s s':St}{ns:List Nat}(h:∀n∈ns,lk s'.B n=lk s.B n)(hc:DR s ns=true):∀a:A,CC s' ns a=CC s ns a
 | .row n=>by simp only[CC,Fk h]
 | .box n off=>by simp only[CC,JL h hc]
 | .clo f a b=>by simp only[CC,DL h hc a,DL h hc b]
 | .d _=>by simp only[CC]
 | .bsl _ _ _=>by simp only[CC]
 | .ep _ _ _ _=>by simp only[CC]
 | .ub=>by simp only[CC]
 | .eptr _=>by simp only[CC]
 | .agg _=>by simp only[CC]
 | .tup _=>by simp only[CC]
 | .opq _=>by simp only[CC]
 | .nil=>by simp only[CC]
 | .any=>by simp only[CC]
theorem DL{s s':St}{ns:List Nat}(h:∀n∈ns,lk s'.B n=lk s.B n)(hc:DR s ns=true):∀as':List A,DD s' ns as'=DD s ns as'
 |[]=>rfl
 |a::as'=>by simp only[DD,Sb h hc a,DL h hc as']
end
theorem aKa{ρ0 ρ1:List (Nat×Nat)}{s s':St}{args:List A}{r:A}{X' raw:Bx}(hf:∀d∈ρ1.map (·.2),fresh d s'=true)(h:xOk ρ0 ρ1 s args r X' raw=true):xOk ρ0 ρ1 s' args r X' raw=true:=by
 simp only[xOk,ba]at h⊢;refine⟨h.1,?_⟩;have:∀l:List Nat,(∀d∈l,fresh d s'=true)->BT (fun n=>frs n s') l=true:=by
  intro l;induction l with
  |nil=>intro _;rfl
  |cons x l ih=>
   intro hl
   simp only[BT,ba]
   exact⟨hl x (.head _),ih fun d hd=>hl d (.tail _ hd)⟩
 exact this _ hf
theorem Dt{o:Oper}{s s':St}(h:D1 o s s'){callee:Operand}{args:Array Operand}{tys:Array TypeId}(ho:o.op=.call {callee:=.value callee,args,argTypes:=tys}):
 s'.ev callee=s.ev callee/\args.toList.map (fun x=>s'.look (s'.ev x))=args.toList.map (fun x=>s.look (s.ev x)):=
 ⟨h.ev callee (by rw[ho];simp[Op.operands,Call.operands]),List.map_congr_left fun x hx=>h.look x (by rw[ho];simp only[Op.operands,Call.operands,Array.mem_append];exact .inr (Array.mem_toList_iff.1 hx))⟩
theorem Nf{P:Program}{o:Oper}{s s':St}{wt:W}(h:D1 o s s')(hx:∀n∈xns wt,lk s'.B n=lk s.B n)(hc:∀ns r,wt=.lend ns r->DR s ns=true):I7 P o s' wt=I7 P o s wt:=by
 unfold I7;cases ho:o.op<;>try rfl
 rename_i c;obtain⟨callee,args,tys⟩:=c;cases callee<;>try rfl
 rename_i g;obtain⟨h1,h2⟩:=Dt h ho;simp only[h1,h2];cases Cv (s.ev g)with
 |none=>rfl
 |some p=>
  obtain⟨f,fs,cs⟩:=p
  cases wt<;>try rfl
  rename_i ns r
  have e:∀as',DD s' ns as'=DD s ns as':=DL (fun n hn=>hx n hn) (hc ns r rfl)
  simp only[e]
theorem Nh{P:Program}{o:Oper}{s s':St}{wt:W}{z:Ob×A×List Ed}(h:D1 o s s')(hx:∀n∈xns wt,lk s'.B n=lk s.B n)(hf:∀d∈nns wt,fresh d s'=true)(he:I9 P o s wt=some z):I9 P o s' wt=some z:=by
 unfold I9 at he⊢;cases ho:o.op<;>rw[ho]at he<;>try (cases he;done)
 rename_i c;obtain⟨callee,args,tys⟩:=c;cases callee<;>try (cases he;done)
 rename_i g;obtain⟨h1,h2⟩:=Dt h ho;have h3:∀bb:Bool,args.toList.map (fun x=>if bb=true then s'.ev x else s'.look (s'.ev x))=args.toList.map (fun x=>if bb=true then s.ev x else s.look (s.ev x)):=fun bb=>List.map_congr_left fun x hx=>by
  have hm:x∈o.op.operands:=by rw[ho];simp only[Op.operands,Call.operands,Array.mem_append];exact .inr (Array.mem_toList_iff.1 hx)
  rw[<-h.look x hm,h.ev x hm]
 simp only[h1]at he⊢;cases hg:Cv (s.ev g)with
 |none=>rw[hg]at he;cases he
 |some p=>
  obtain⟨f,fs,cs⟩:=p
  rw[hg]at he
  cases wt<;>try (cases he;done)
  rename_i bb ρ0 ρ1 r X'
  simp only[h3 bb]at he⊢
  have e:Ea s'.B ρ0=Ea s.B ρ0:=JO fun p hp=>hx p.2 (mm.2 ⟨p,hp,rfl⟩)
  rw[e]
  generalize args.toList.map (fun x=>if bb=true then s.ev x else s.look (s.ev x))=as' at he⊢
  split at he
  rename_i raw hraw
  split at he
  rename_i hb
  simp only[ba]at hb
  rw[if_pos (by simp only[ba];exact⟨hb.1,aKa hf hb.2⟩)]
  exact he
  cases he
  cases he
theorem Nd{P:Program}{o:Oper}{s s':St}{b:Bool}(h:D1 o s s'):I6 P o (fun x=>s'.look (s'.ev x)) b=I6 P o (fun x=>s.look (s.ev x)) b:=by
 unfold I6;cases ho:o.op<;>try rfl
 rename_i t parts;have h1:parts.toList.map (fun p=>(p.1,s'.look (s'.ev p.2)))=parts.toList.map (fun p=>(p.1,s.look (s.ev p.2))):=List.map_congr_left fun x hx=>by rw[h.look x.2 (by rw[ho];simp only[Op.operands,List.mem_toArray];exact mm.2 ⟨x,hx,rfl⟩)]
 simp only[h1]
theorem Dg{s s':St}{x:A}(hb:∀n,x.has n=true->lk s'.B n=lk s.B n):HR s' x=HR s x:=by
 unfold HR;cases x<;>try rfl
 rename_i n off;cases off<;>simp only[hb n (by simp[A.has])];rename_i n;simp only[hb n (by simp[A.has])]
theorem SX{s s':St}{x:A}(hb:∀n,x.has n=true->lk s'.B n=lk s.B n):N7 s' x=N7 s x:=by unfold N7;rw[Dg hb]
theorem H4{s s':St}{x:A}(hb:∀n,x.has n=true->lk s'.B n=lk s.B n):aCu s' x=aCu s x:=by
 unfold aCu;cases x<;>try rfl
 rename_i n;simp only[hb n (by simp[A.has])]
theorem aA1{s s':St}{x:A}(hb:∀n,x.has n=true->lk s'.B n=lk s.B n):aSw s' x=aSw s x:=by unfold aSw;rw[H4 hb]
theorem JP{s s':St}{x:A}(hb:∀n,x.has n=true->lk s'.B n=lk s.B n):Bv s' x=Bv s x:=by
 unfold Bv;cases x<;>try rfl
 rename_i n;simp only[hb n (by simp[A.has])]
theorem SY{s s':St}{x:A}(hb:∀n,x.has n=true->lk s'.B n=lk s.B n):aJa s' x=aJa s x:=by unfold aJa;rw[JP hb]
theorem Su{P:Program}{o:Oper}{s s':St}(h:D1 o s s'):Kw P s' o=Kw P s o:=by
 have hev:=h.ev;have hbx:=fun x hx=>SX (h.bx x hx);have hrw:=fun x hx=>aA1 (h.bx x hx);have hmp:=fun x hx=>SY (h.bx x hx);unfold Kw;cases ho:o.op<;>rw[ho]at hev hbx hrw hmp<;>simp only[Op.operands]at hev hbx hrw hmp<;>try rfl
 case load t x=>simp only[hev x (by simp)]
 case store t x y=>simp only[hev x (by simp)]
 case move x=>simp only[hev x (by simp),hbx x (by simp)]
 case indexAddr t x i=>simp only[hev x (by simp),hbx x (by simp),hrw x (by simp)]
 case slice t x l hh m=>
  cases l<;>cases hh<;>cases m<;>simp only[hev x (by simp),hbx x (by simp)]
 case binOp op t x y yt=>simp only[hev y (by simp)]
 case call c=>
  obtain⟨callee,⟨args⟩,tys⟩:=c
  cases callee<;>try rfl
  rename_i b
  cases b<;>try rfl
  simp only[Call.operands]at hev hbx hrw hmp
  match args with
  |[]=>rfl
  |[x]=>simp only[hev x (by simp),hbx x (by simp),hrw x (by simp),hmp x (by simp)]
  |x::y::l=>rfl
theorem Nc{P:Program}{o:Oper}{s s':St}{wt:W}{z:Cn×A×List Ed}(h:D1 o s s')(hf:∀d,o.dst=some d->fresh d s'=true)(he:Ff P o s wt=some z):Ff P o s' wt=some z:=by unfold Ff at he⊢;split at he;rename_i d t hd ho;obtain⟨f1,f2,f3⟩:=Bb (hf d hd);split at he;split at he;rename_i z hz hc;simp only[ba,decide_eq_true_eq,Bool.not_eq_true']at hc;simp only[hd,ho,f1,f2,f3,hc.1.1.1.1,hc.1.1.1.2,hz,decide_true,Bool.not_false,Bool.and_self,if_true];exact he;cases he;cases he;rename_i d t l c hd ho;obtain⟨f1,f2,f3⟩:=Bb (hf d hd);have h1:=h.ev l (by rw[ho];simp[Op.operands]);have h2:=h.ev c (by rw[ho];simp[Op.operands]);simp only[hd,ho,h1,h2];split at he;split at he;split at he;split at he;rename_i hc;simp only[ba,decide_eq_true_eq,Bool.not_eq_true']at hc;obtain⟨⟨⟨⟨⟨⟨⟨c1,c2⟩,c3⟩,c4⟩,c5⟩,c6⟩,c7⟩,c8⟩:=hc;simp only[c1,c2,c3,c4,c5,f1,f2,f3,decide_true,Bool.not_false,Bool.and_self,if_true];exact he;cases he;cases he;cases he;cases he;cases he
theorem DE{o:Oper}{s s':St}(h:D1 o s s'){x:Operand}(hx:x∈o.op.operands){n k i off:Nat}(he:s.ev x=.ep n k i off):lk s'.B n=lk s.B n:=
 h.bx x hx n (by rw[he];simp[A.has])
theorem NZ{P:Program}{o:Oper}{s s':St}{wt:W}(h:D1 o s s'):I5 P o s' wt=I5 P o s wt:=by
 have hev:=h.ev;have hbx:=fun x hx=>Dg (h.bx x hx);unfold I5;cases ho:o.op<;>try rfl
 case indexAddr t x i=>
  rw[ho]at hev hbx;simp only[Op.operands]at hev hbx
  simp only[hev x (by simp),hev i (by simp),hbx x (by simp)]
 case move x=>
  rw[ho]at hev hbx;simp only[Op.operands]at hev hbx
  simp only[hev x (by simp),hbx x (by simp)]
 case slice t x l hh m=>
  rw[ho]at hev hbx;simp only[Op.operands]at hev hbx
  cases l<;>cases hh<;>cases m<;>simp only[hev x (by simp),hbx x (by simp)]
 case load t x=>
  have h1:=h.ev x (by rw[ho];simp[Op.operands])
  simp only[h1]
  cases hx:s.ev x with
  |ep n k i off=>
   have hlk:=DE h (by rw[ho];simp[Op.operands]) hx
   cases wt<;>first|rfl|simp only[hlk]
  |_=>rfl
 case store t x y=>
  have h1:=h.ev x (by rw[ho];simp[Op.operands])
  have h2:=h.look y (by rw[ho];simp[Op.operands])
  simp only[h1,h2]
  cases hx:s.ev x with
  |ep n k i off=>
   have hlk:=DE h (by rw[ho];simp[Op.operands]) hx
   cases hy:toD (s.look (s.ev y))<;>cases off<;>first|rfl|simp only[hlk]
  |_=>rfl
 case call c=>
  obtain⟨callee,⟨args⟩,⟨tys⟩⟩:=c
  simp only
  split
  rename_i x t
  have h1:=h.ev x (by rw[ho];simp[Op.operands,Call.operands])
  have h2:=Dg (h.bx x (by rw[ho];simp[Op.operands,Call.operands]))
  simp only[h1,h2]
  rfl
theorem SE{P:Program}{o:Oper}{s s':St}{wt:W}(h:D1 o s s'):SD P o s' wt=SD P o s wt:=by
 have hev:=h.ev;have hbx:=fun x hx=>H4 (h.bx x hx);unfold SD;cases ho:o.op<;>try rfl
 case indexAddr t x i=>
  rw[ho]at hev hbx;simp only[Op.operands]at hev hbx
  simp only[hev x (by simp),hev i (by simp),hbx x (by simp)]
 case load t x=>
  have h1:=h.ev x (by rw[ho];simp[Op.operands])
  simp only[h1]
  cases hx:s.ev x with
  |ep n k i off=>
   have hlk:=DE h (by rw[ho];simp[Op.operands]) hx
   cases wt<;>first|rfl|simp only[hlk]
  |_=>rfl
 case store t x y=>
  have h1:=h.ev x (by rw[ho];simp[Op.operands])
  have h2:=h.look y (by rw[ho];simp[Op.operands])
  simp only[h1,h2]
  cases hx:s.ev x with
  |ep n k i off=>
   have hlk:=DE h (by rw[ho];simp[Op.operands]) hx
   cases hy:toD (s.look (s.ev y))<;>cases off<;>first|rfl|simp only[hlk]
  |_=>rfl
 case call c=>
  obtain⟨callee,⟨args⟩,⟨tys⟩⟩:=c
  simp only
  split
  rename_i x t
  have h1:=h.ev x (by rw[ho];simp[Op.operands,Call.operands])
  have h2:=H4 (h.bx x (by rw[ho];simp[Op.operands,Call.operands]))
  simp only[h1,h2]
  rfl
theorem J9{P:Program}{o:Oper}{s s':St}{wt:W}(h:D1 o s s'):De P o s' wt=De P o s wt:=by
 unfold De;cases ho:o.op<;>try rfl
 rename_i c;obtain⟨callee,⟨args⟩,⟨tys⟩⟩:=c;simp only;split;rename_i x y t t';have h1:=h.ev x (by rw[ho];simp[Op.operands,Call.operands]);have h2:=Dg (h.bx x (by rw[ho];simp[Op.operands,Call.operands]));have h3:=h.look y (by rw[ho];simp[Op.operands,Call.operands]);have h4:∀n,FK s' n y=FK s n y:=by
  intro n;unfold FK;rw[h3];cases hv:s.look (s.ev y)with
  |d x=>cases x<;>rfl
  |bsl m off l=>
   have hb:(s.ev y).has m=true:=by
    cases hz:s.ev y with
    |row n=>
     rw[hz]at hv
     simp only[St.look]at hv
     split at hv<;>cases hv
    |box n off=>
     rw[hz]at hv
     cases off<;>simp only[St.look]at hv
     split at hv<;>cases hv
     cases hv
    |bsl m' off' l'=>
     rw[hz]at hv
     simp only[St.look,A.bsl.injEq]at hv
     simp[A.has,hv.1]
    |_=>rw[hz]at hv;simp only[St.look]at hv;cases hv
   cases off<;>simp only[h.bx y (by rw[ho];simp[Op.operands,Call.operands]) m hb]
  |_=>rfl
 simp only[h1,h2,h4];rfl

def EF:Ed->Bool
 | .add _ _=>true
 |_=>false
theorem YP{P:Program}{o:Oper}{s:St}{p:A×List Ed}(he:aKj P o s=some p):p.2.any EF=true:=by unfold aKj at he;split at he;cases he;split at he;split at he;split at he;split at he;cases he;rfl;cases he;cases he;split at he;split at he;cases he;cases he;rfl;cases he;cases he;cases he
theorem LL{P:Program}{o:Oper}{s:St}{wt:W}{Φ:Cn}{r:A}{es:List Ed}(he:C1 P o s wt=some (Φ,r,es)):es.any EF=true:=by
 unfold C1 at he;repeat' split at he
 all_goals first
  |(cases he;done)
  |(simp only[oe,pe]at he;obtain⟨_,_,rfl⟩:=he;rfl)
theorem J7{P:Program}{o:Oper}{s:St}{zs:List D}{Φ:Cn}{r:A}{es:List Ed}(he:Cu P o s zs=some (Φ,r,es)):es.any EF=true:=by
 unfold Cu at he;repeat' split at he
 all_goals first
  |(cases he;done)
  |(simp only[oe,pe]at he;obtain⟨_,_,rfl⟩:=he;rfl)
theorem So{s s':St}{x:A}(hb:∀n,x.has n=true->lk s'.B n=lk s.B n):OR s' x=OR s x:=by
 unfold OR;cases x<;>try rfl
 rename_i n;simp only[hb n (by simp[A.has])]
theorem J8{P:Program}{o:Oper}{s s':St}{zs:List D}{z:Cn×A×List Ed}(h:D1 o s s')(hf:∀d,o.dst=some d->fresh d s'=true)(he:Cu P o s zs=some z):Cu P o s' zs=some z:=by
 unfold Cu at he⊢;cases hd:o.dst with
 |none=>rw[hd]at he;simp only at he;cases he
 |some d=>
  obtain⟨f1,f2,f3⟩:=Bb (hf d hd)
  rw[hd]at he
  cases ho:o.op<;>rw[ho]at he<;>simp only at he⊢ <;>try (cases he;done)
  rename_i c
  obtain⟨callee,args,tys⟩:=c
  have hargs:∀x∈args.toList,x∈o.op.operands:=fun x hx=>by rw[ho];simp only[Op.operands,Call.operands,Array.mem_append];exact .inr (Array.mem_toList_iff.1 hx)
  simp only at he⊢
  split at he
  rename_i x y t t' ha ht
  rw[ha]at hargs
  have h1:=h.ev x (hargs x (by simp))
  have h2:=So (h.bx x (hargs x (by simp)))
  have h3:=h.look y (hargs y (by simp))
  simp only[h1,h2,h3]
  split at he
  split at he
  rename_i e ys he1 he2
  split at he
  rename_i i hi
  split at he
  rename_i hc
  simp only[ba,decide_eq_true_eq,Bool.not_eq_true']at hc
  obtain⟨⟨⟨⟨c0,cz⟩,c1⟩,c2⟩,c3⟩:=hc
  rw[if_pos (by assumption)]
  rw[if_pos (by simp only[ba,decide_eq_true_eq,Bool.not_eq_true'];exact⟨⟨⟨⟨c0,cz⟩,f1⟩,f2⟩,f3⟩)]
  exact he
  cases he
  cases he
  cases he
  cases he
  cases he
theorem Fp{P:Program}{o:Oper}{s:St}{b:Bool}{Φ:Cn}{r:A}{es:List Ed}(he:Bn P o s b=some (Φ,r,es)):es.any EF=true:=by
 unfold Bn at he;repeat' split at he
 all_goals first
  |(cases he;done)
  |(simp only[oe,pe]at he;obtain⟨_,_,rfl⟩:=he;rfl)
theorem Nb{P:Program}{o:Oper}{s:St}{wt:W}{Φ:Cn}{r:A}{es:List Ed}(he:Ff P o s wt=some (Φ,r,es)):es.any EF=true:=by
 unfold Ff at he;repeat' split at he
 all_goals first
  |(cases he;done)
  |(simp only[oe,pe]at he;obtain⟨_,_,rfl⟩:=he;rfl)
theorem ZC{P:Program}{o:Oper}{s s':St}{wt:W}(h:D1 o s s'):aO3 P o s' wt=aO3 P o s wt:=by
 unfold aO3;cases ho:o.op<;>try rfl
 rename_i op t x y yt;have h1:=h.ev x (by rw[ho];simp[Op.operands]);have h2:=h.ev y (by rw[ho];simp[Op.operands]);have h3:=h.look x (by rw[ho];simp[Op.operands]);simp only[h1,h2]at h3⊢;simp only[h3]
theorem R2{o:Oper}{s s':St}(h:D1 o s s'):R1 o s'=R1 o s:=by
 unfold R1;cases ho:o.op<;>try rfl
 rename_i t x;have h3:=h.look x (by rw[ho];simp[Op.operands]);simp only[h3]
theorem ZB{P:Program}{o:Oper}{s s':St}{wt:W}{z:Cn×A×List Ed}(h:D1 o s s')(hf:z.2.2.any EF=true->∀d,o.dst=some d->fresh d s'=true)(he:aKl P o s wt=some z):aKl P o s' wt=some z:=by
 have hmp:=fun x hx=>JP (h.bx x hx);have hlk:=h.look;have hev:=h.ev;unfold aKl at he⊢;cases ho:o.op<;>rw[ho]at hmp hlk hev<;>simp only[ho]at he⊢ <;>try (exact he)
 case makeMap t r=>
  cases r with
  |some r=>exact he
  |none=>
   simp only at he⊢
   cases hd:o.dst with
   |none=>rw[hd]at he;exact he
   |some d=>
    rw[hd]at he
    simp only at he⊢
    split at he
    simp only[oe]at he
    obtain⟨f1,f2,f3⟩:=Bb (hf (by rw[<-he];rfl) d hd)
    simp only[f1,f2,f3,decide_true,Bool.not_false,Bool.and_self,if_true]
    rw[he]
    cases he
 case lookup t m k c=>
  simp only[Op.operands]at hmp hlk hev
  have e1:Bv s' (s'.ev m)=Bv s (s.ev m):=by rw[hev m (by simp)];exact hmp m (by simp)
  simp only[e1,hlk k (by simp)];exact he
 case mapUpdate t m k x=>
  simp only[Op.operands]at hmp hlk hev
  have e1:Bv s' (s'.ev m)=Bv s (s.ev m):=by rw[hev m (by simp)];exact hmp m (by simp)
  simp only[e1,hlk k (by simp),hlk x (by simp)];exact he
 case insert t m k x=>
  simp only[Op.operands]at hmp hlk hev
  have e1:Bv s' (s'.ev m)=Bv s (s.ev m):=by rw[hev m (by simp)];exact hmp m (by simp)
  simp only[e1,hlk k (by simp),hlk x (by simp)];exact he
 case mapEntry t m k=>
  simp only[Op.operands]at hmp hlk hev
  have e1:Bv s' (s'.ev m)=Bv s (s.ev m):=by rw[hev m (by simp)];exact hmp m (by simp)
  simp only[e1,hlk k (by simp)];exact he
 case entryStore t m st x=>
  simp only[Op.operands]at hmp hlk hev
  have e1:Bv s' (s'.ev m)=Bv s (s.ev m):=by rw[hev m (by simp)];exact hmp m (by simp)
  simp only[e1,hev st (by simp),hlk x (by simp)];exact he
 case call c=>
  obtain⟨callee,⟨args⟩,⟨tys⟩⟩:=c
  simp only[Op.operands,Call.operands]at hmp hlk hev
  simp only at he⊢
  split at he
  rename_i m k t t2
  have e1:Bv s' (s'.ev m)=Bv s (s.ev m):=by rw[hev m (by simp)];exact hmp m (by simp)
  simp only[e1,hlk k (by simp)];exact he
  rename_i m t
  have e1:Bv s' (s'.ev m)=Bv s (s.ev m):=by rw[hev m (by simp)];exact hmp m (by simp)
  simp only[e1];exact he
  rename_i m t
  have e1:Bv s' (s'.ev m)=Bv s (s.ev m):=by rw[hev m (by simp)];exact hmp m (by simp)
  simp only[e1];exact he
  cases he
theorem OF{s s':St}{x:A}(hb:∀n,x.has n=true->lk s'.B n=lk s.B n):Cm s' x=Cm s x:=by
 unfold Cm;cases x<;>try rfl
 rename_i n;simp only[hb n (by simp[A.has])]
theorem R9{P:Program}{o:Oper}{s s':St}{wt:W}{z:Cn×A×List Ed}(h:D1 o s s')(hf:z.2.2.any EF=true->∀d,o.dst=some d->fresh d s'=true)(he:KF P o s wt=some z):KF P o s' wt=some z:=by
 have hmp:=fun x hx=>OF (h.bx x hx);have hlk:=h.look;have hev:=h.ev;unfold KF at he⊢;cases ho:o.op<;>rw[ho]at hmp hlk hev<;>simp only[ho]at he⊢ <;>try (exact he)
 case makeMap t r=>
  cases r with
  |some r=>exact he
  |none=>
   simp only at he⊢
   cases hd:o.dst with
   |none=>rw[hd]at he;exact he
   |some d=>
    rw[hd]at he
    simp only at he⊢
    split at he
    simp only[oe]at he
    obtain⟨f1,f2,f3⟩:=Bb (hf (by rw[<-he];rfl) d hd)
    simp only[f1,f2,f3,decide_true,Bool.not_false,Bool.and_self,if_true]
    rw[he]
    cases he
 case mapUpdate t m k x=>
  simp only[Op.operands]at hmp hlk hev
  have e1:Cm s' (s'.ev m)=Cm s (s.ev m):=by rw[hev m (by simp)];exact hmp m (by simp)
  simp only[e1,hlk k (by simp),hlk x (by simp)];exact he
 case insert t m k x=>
  simp only[Op.operands]at hmp hlk hev
  have e1:Cm s' (s'.ev m)=Cm s (s.ev m):=by rw[hev m (by simp)];exact hmp m (by simp)
  simp only[e1,hlk k (by simp),hlk x (by simp)];exact he
 case call c=>
  obtain⟨callee,⟨args⟩,⟨tys⟩⟩:=c
  simp only[Op.operands,Call.operands]at hmp hlk hev
  simp only at he⊢
  split at he
  rename_i m k t t2
  have e1:Cm s' (s'.ev m)=Cm s (s.ev m):=by rw[hev m (by simp)];exact hmp m (by simp)
  simp only[e1,hlk k (by simp)];exact he
  cases he
theorem EH{s s':St}{g:Nat}{x:A}(hb:∀n,x.has n=true->lk s'.B n=lk s.B n)(hg:lk s'.B g=lk s.B g):CL s' g x=CL s g x:=by
 unfold CL;cases x<;>try rfl
 rename_i n;simp only[hb n (by simp[A.has]),hg]
theorem R8{P:Program}{o:Oper}{s s':St}{wt:W}{z:Cn×A×List Ed}(h:D1 o s s')(hx:∀n∈xns wt,lk s'.B n=lk s.B n)(hn:∀d∈nns wt,fresh d s'=true)
 (hf:z.2.2.any EF=true->∀d,o.dst=some d->fresh d s'=true) (he:KE P o s wt=some z):KE P o s' wt=some z:=by
 have hmp:=fun x hx g hg=>EH (g:=g) (h.bx x hx) hg
 have hlk:=h.look
 have hev:=h.ev
 have hbx:=h.bx
 unfold KE at he⊢
 cases ho:o.op<;>rw[ho]at hmp hlk hev hbx<;>simp only[ho]at he⊢ <;>try (exact he)
 case makeMap t r=>
  cases r with
  |some r=>exact he
  |none=>
   simp only at he⊢
   cases hd:o.dst with
   |none=>rw[hd]at he;exact he
   |some d=>
    rw[hd]at he
    cases wt with
    |mkr g=>
     simp only at he⊢
     split at he
     split at he
     split at he
     rename_i hc
     simp only[oe]at he
     have f1:=hf (by rw[<-he];rfl) d hd
     have f2:=hn g (by simp[nns])
     rw[if_pos (by simp only[ba]at hc⊢;exact⟨⟨f1,f2⟩,hc.2⟩),he]
     cases he
     cases he
     cases he
    |_=>cases he
 case lookup t m k c=>
  cases c with
  |true=>exact he
  |false=>
   simp only[Op.operands]at hmp hlk hev
   cases wt with
   |mr g clk ks xss xs=>
    have e1:CL s' g (s'.ev m)=CL s g (s.ev m):=by rw[hev m (by simp)];exact hmp m (by simp) g (hx g (by simp[xns]))
    simp only[e1,hlk k (by simp)]at he⊢
    split at he
    split at he
    split at he
    rename_i hd _ _ _ _ _ hc
    simp only[oe]at he
    have f1:=hf (by rw[<-he];rfl) _ hd
    rw[if_pos (show dfr _ s'=true from f1),he]
    cases he
    cases he
    cases he
   |_=>cases he
 case mapUpdate t m k x=>
  simp only[Op.operands]at hmp hlk hev hbx
  cases wt with
  |mr g clk ks xss xs=>
   have e1:CL s' g (s'.ev m)=CL s g (s.ev m):=by rw[hev m (by simp)];exact hmp m (by simp) g (hx g (by simp[xns]))
   have e2:=hev x (by simp)
   have e3:=hbx x (by simp)
   simp only[e1,hlk k (by simp),e2]at he⊢
   split at he
   rename_i q _ _ q1 q2 q3 q4
   rw[q3]at e3
   rw[e3 q (by simp[A.has])];exact he
   cases he
  |_=>cases he
 case insert t m k x=>
  simp only[Op.operands]at hmp hlk hev hbx
  cases wt with
  |mr g clk ks xss xs=>
   have e1:CL s' g (s'.ev m)=CL s g (s.ev m):=by rw[hev m (by simp)];exact hmp m (by simp) g (hx g (by simp[xns]))
   have e2:=hev x (by simp)
   have e3:=hbx x (by simp)
   simp only[e1,hlk k (by simp),e2]at he⊢
   split at he
   rename_i q _ _ q1 q2 q3 q4
   rw[q3]at e3
   rw[e3 q (by simp[A.has])];exact he
   cases he
  |_=>cases he
 case call c=>
  obtain⟨callee,⟨args⟩,⟨tys⟩⟩:=c
  simp only[Op.operands,Call.operands]at hmp hlk hev
  simp only at he⊢
  split at he
  rename_i m k t t2
  cases wt with
  |mr g clk ks xss xs=>
   have e1:CL s' g (s'.ev m)=CL s g (s.ev m):=by rw[hev m (by simp)];exact hmp m (by simp) g (hx g (by simp[xns]))
   simp only[e1,hlk k (by simp)]at he⊢;exact he
  |_=>cases he
  cases he
theorem R7{o:Oper}{s s':St}{wt:W}(h:D1 o s s')(hx:∀n∈xns wt,lk s'.B n=lk s.B n):KD o s' wt=KD o s wt:=by
 have hev:=h.ev;unfold KD;cases wt with
 |mb n g m xss=>
  have e1:L5 s' n g=L5 s n g:=by
   unfold L5;exact EH (fun k hk=>by simp only[A.has,beq_iff_eq]at hk;exact hx k (by simp[xns,hk])) (hx g (by simp[xns]))
  simp only[e1,hx m (by simp[xns])]
  cases ho:o.op with
  |assign x=>simp only[hev x (by rw[ho];simp[Op.operands])]
  |move x=>simp only[hev x (by rw[ho];simp[Op.operands])]
  |_=>rfl
 |mf n g es=>
  have e1:L5 s' n g=L5 s n g:=by
   unfold L5;exact EH (fun k hk=>by simp only[A.has,beq_iff_eq]at hk;exact hx k (by simp[xns,hk])) (hx g (by simp[xns]))
  simp only[e1]
  cases ho:o.op with
  |assign x=>simp only[hev x (by rw[ho];simp[Op.operands])]
  |move x=>simp only[hev x (by rw[ho];simp[Op.operands])]
  |_=>rfl
 |_=>rfl
theorem ZG{P:Program}{o:Oper}{s s':St}{y0:D}{zs:List D}(h:D1 o s s'):aO4 P o s' y0 zs=aO4 P o s y0 zs:=by
 unfold aO4;cases ho:o.op<;>try rfl
 rename_i t x y;have h1:=h.ev x (by rw[ho];simp[Op.operands]);have h2:=h.look y (by rw[ho];simp[Op.operands]);simp only[h1,h2];cases hx:s.ev x with
 |ep n k i off=>
  have hlk:=DE h (by rw[ho];simp[Op.operands]) hx
  cases hy:toD (s.look (s.ev y))<;>cases y0<;>first|rfl|simp only[hlk]
 |_=>rfl
theorem HM{P:Program}{o:Oper}{s s':St}{wt:W}{Φ:Ob}{r:A}{es:List Ed}(h:D1 o s s')(hx:∀n∈xns wt,lk s'.B n=lk s.B n)(hc:∀ns r,wt=.lend ns r->DR s ns=true)(hg:∀d∈nns wt,fresh d s'=true)(hf:es.any EF=true->∀d,o.dst=some d->fresh d s'=true)(he:DQ P o s wt (Kw P s o)=some (Φ,r,es)):DQ P o s' wt (Kw P s' o)=some (Φ,r,es):=by
 rw[Su h];generalize Kw P s o=k at he⊢;match k with
 |0=>
  have k3:((KD o s wt).map fun p=>(Ob.c p.1,p.2))=some (Φ,r,es)->((KD o s' wt).map fun p=>(Ob.c p.1,p.2))=some (Φ,r,es):=by intro he;rw[R7 h hx];exact he
  simp only[DQ]at he⊢
  cases wt with
  |mb _ _ _ _=>exact k3 he
  |mf _ _ _=>exact k3 he
  |_=>simp only at he⊢;rw[SA h.ev h.look];exact he
 |1=>simp only[DQ]at he⊢;rw[R6 h];exact he
 |2=>
  simp only[DQ]at he⊢
  split at he
  rw[R2 h];exact he
  simp only[om,pe]at he⊢
  obtain⟨p,h1,h2,h3,h4⟩:=he
  refine⟨p,YQ h (hf ?_) h1,h2,h3,h4⟩
  rw[<-h4]
  exact YP h1
 |3=>
  simp only[DQ]at he⊢
  have e:FI P o s'=FI P o s:=by unfold FI;rw[HP h]
  rw[HP h,e];exact he
 |4=>
  have key:∀wt',((C1 P o s wt').map fun p=>(Ob.c p.1,p.2))=some (Φ,r,es)->((C1 P o s' wt').map fun p=>(Ob.c p.1,p.2))=some (Φ,r,es):=by intro wt' he;simp only[om,pe]at he⊢;obtain⟨⟨Φ',r',es'⟩,h1,h2,h3⟩:=he;cases h3;exact⟨_,LM h (hf (LL h1)) h1,h2,rfl⟩
  simp only[DQ]at he⊢
  cases wt with
  |rwl zs=>
   simp only[om,pe]at he⊢
   obtain⟨⟨Φ',r',es'⟩,h1,h2,h3⟩:=he
   cases h3
   exact⟨_,J8 h (hf (J7 h1)) h1,h2,rfl⟩
  |_=>exact key _ he
 |5=>
  simp only[DQ,om,pe]at he⊢
  obtain⟨⟨Φ',r',es'⟩,h1,h2,h3⟩:=he
  cases h3
  exact⟨_,Fq h (hf (Fp h1)) h1,h2,rfl⟩
 |6=>
  simp only[DQ]at he⊢
  cases wt with
  |lend ns r=>simp only at he⊢;rw[Nf h hx hc];exact he
  |cx _ _ _ _ _=>exact Nh h hx hg he
  |_=>simp only at he⊢;rw[Ng h];exact he
 |7=>simp only[DQ]at he⊢;rw[Nd h];exact he
 |8=>
  simp only[DQ,om,pe]at he⊢
  obtain⟨⟨Φ',r',es'⟩,h1,h2,h3⟩:=he
  cases h3
  exact⟨_,Nc h (hf (Nb h1)) h1,h2,rfl⟩
 |9=>
  simp only[DQ]at he⊢
  cases wt with
  |prt y0 zs=>simp only at he⊢;rw[ZG h];exact he
  |_=>simp only at he⊢;rw[NZ h,SE h];exact he
 |10=>simp only[DQ]at he⊢;rw[J9 h];exact he
 |11=>simp only[DQ]at he⊢;rw[ZC h];exact he
 |12=>
  have k1:((aKl P o s wt).map fun p=>(Ob.c p.1,p.2))=some (Φ,r,es)->((aKl P o s' wt).map fun p=>(Ob.c p.1,p.2))=some (Φ,r,es):=by intro he;simp only[om,pe]at he⊢;obtain⟨⟨Φ',r',es'⟩,h1,h2,h3⟩:=he;cases h3;exact⟨_,ZB h hf h1,h2,rfl⟩
  have k2:((KF P o s wt).map fun p=>(Ob.c p.1,p.2))=some (Φ,r,es)->((KF P o s' wt).map fun p=>(Ob.c p.1,p.2))=some (Φ,r,es):=by intro he;simp only[om,pe]at he⊢;obtain⟨⟨Φ',r',es'⟩,h1,h2,h3⟩:=he;cases h3;exact⟨_,R9 h hf h1,h2,rfl⟩
  have k3:((KE P o s wt).map fun p=>(Ob.c p.1,p.2))=some (Φ,r,es)->((KE P o s' wt).map fun p=>(Ob.c p.1,p.2))=some (Φ,r,es):=by intro he;simp only[om,pe]at he⊢;obtain⟨⟨Φ',r',es'⟩,h1,h2,h3⟩:=he;cases h3;exact⟨_,R8 h hx hg hf h1,h2,rfl⟩
  simp only[DQ]at he⊢
  cases wt with
  |frz=>exact k2 he
  |ms S=>exact k2 he
  |mr _ _ _ _ _=>exact k3 he
  |mkr _=>exact k3 he
  |_=>exact k1 he
 |13=>exact he
 |k+14=>simp only[DQ]at he;cases he

theorem ZF{P:Program}{o:Oper}{s s':St}{wt:W}{Φ:Ob}{r:A}{es:List Ed}(h:D1 o s s')(hx:∀n∈xns wt,lk s'.B n=lk s.B n)(hc:∀ns r,wt=.lend ns r->DR s ns=true)(hg:∀d∈nns wt,fresh d s'=true)(hf:es.any EF=true->∀d,o.dst=some d->fresh d s'=true)(he:aNi P o s wt=some (Φ,r,es)):aNi P o s' wt=some (Φ,r,es):=by
 unfold aNi at he⊢;cases wt with
 |fzn m=>
  simp only at he⊢
  split at he
  rename_i Φ' r' h1
  have h2:=HM (es:=[]) h (fun n hn=>by cases hn) (fun ns r e=>by cases e) (fun d hd=>by cases hd) (fun hh=>by cases hh) h1
  rw[h2]
  simp only[hx m (.head _)]
  exact he
  cases he
 |rwz zs=>
  simp only at he⊢
  split at he
  rename_i Φ' d es' h1
  split at he
  rename_i d' e k xs hl
  split at he
  rename_i hdd
  simp only[oe,pe]at he
  obtain⟨rfl,rfl,rfl⟩:=he
  have h2:=HM (es:=es') h (fun n hn=>by cases hn) (fun ns r e=>by cases e) (fun d hd=>by cases hd) (fun hh=>hf (by rw[List.any_append,hh];rfl)) h1
  rw[h2]
  simp only[hl,hdd,if_true]
  cases he
  cases he
  cases he
 |_=>exact HM h hx hc hg hf he
end Go.Ac
namespace Go.Ac

structure Rc where
 dst:Option Tmp
 r:A
 es:List Ed
def Ed.name:Ed->Nat
 | .add n _=>n
 | .chg n _=>n
def Ed.bk:Ed->Bk
 | .add _ b=>b
 | .chg _ b=>b
def Rc.ap(c:Rc)(s:St):St:=(s.edit c.es).put c.dst c.r
def Rc.free(c:Rc)(d:Nat):Bool:= !c.r.has d&&c.es.all fun e=>e.name !=d&& !e.bk.has d
structure Dr where
 c:Rc
 ts:List Nat
 vs:List A
 ns:List Nat

theorem QD{n:Nat}:∀{B:Bx},(∀p∈B,p.1≠n/\p.2.has n=false)->BW n B=false
 |[],_=>rfl
 |p::B,h=>by
  simp only[BW,Bool.or_eq_false_iff,beq_eq_false_iff_ne];exact⟨h p (by simp),QD fun q hq=>h q (by simp[hq])⟩
theorem JK{n:Nat}{r:A}(hr:r.has n=false):∀(l:List A) (i:Nat),AV n l=false->AV n (l.set i r)=false
 |[],_,h=>h
 |a::l,0,h=>by
  simp only[AV,Bool.or_eq_false_iff,List.set_cons_zero]at h⊢;exact⟨hr,h.2⟩
 |a::l,i+1,h=>by
  simp only[AV,Bool.or_eq_false_iff,List.set_cons_succ]at h⊢;exact⟨h.1,JK hr l i h.2⟩
theorem KK{n:Nat}{B:Bx}{e:Ed}(hB:BW n B=false)(h1:e.name≠n)(h2:e.bk.has n=false):BW n (Al B e)=false:=by
 refine QD fun p hp=>?_;cases e with
 |add m b=>
  rcases mc.1 ((Bp m b B).mem_iff.1 hp)with rfl|hp
  exact⟨h1,h2⟩
  exact BP hB p hp
 |chg m b=>
  rcases BY hp with rfl|⟨hp,_⟩
  exact⟨h1,h2⟩
  exact BP hB p hp
theorem HS{n:Nat}:∀{es:List Ed} {B:Bx},BW n B=false->(es.all fun e=>e.name !=n&& !e.bk.has n)=true->BW n (es.foldl Al B)=false
 |[],B,hB,_=>hB
 |e::es,B,hB,h=>by
  simp only[List.all_cons,ba,bne_iff_ne,Bool.not_eq_true']at h;exact HS (B:=Al B e) (KK hB h.1.1 h.1.2) h.2
theorem Rc.fresh_ap{c:Rc}{d:Nat}{s:St}(h:fresh d s=true)(hc:c.free d=true):fresh d (c.ap s)=true:=by
 obtain⟨f1,f2,f3⟩:=Bb h;simp only[Rc.free,ba,Bool.not_eq_true']at hc;have h3:BW d (c.ap s).B=false:=by
  have:(c.ap s).B=c.es.foldl Al s.B:=by unfold Rc.ap;cases c.dst<;>rfl
  rw[this];exact HS f3 hc.2
 have h2:AV d (c.ap s).E=false:=by
  unfold Rc.ap;cases c.dst with
  |none=>exact f2
  |some t=>exact JK hc.1 _ _ f2
 simp only[fresh,f1,h2,h3,decide_true,Bool.not_false,Bool.and_self]

structure FP(ts:List Nat)(N:Nat->Bool)(s s':St):Prop where
 len:s'.E.length=s.E.length
 e:∀t∈ts,s'.E[t]? =s.E[t]?
 b:∀n,N n=true->lk s'.B n=lk s.B n
theorem FP.refl(ts N s):FP ts N s s:=⟨rfl,fun _ _=>rfl,fun _ _=>rfl⟩
theorem FP.symm{ts N s s'}(h:FP ts N s s'):FP ts N s' s:=⟨h.len.symm,fun t ht=>(h.e t ht).symm,fun n hn=>(h.b n hn).symm⟩
theorem FP.trans{ts N s s' s''}(h:FP ts N s s')(g:FP ts N s' s''):FP ts N s s'':=⟨g.len.trans h.len,fun t ht=>(g.e t ht).trans (h.e t ht),fun n hn=>(g.b n hn).trans (h.b n hn)⟩

theorem FU(p:Nat×Bk)(B:Bx)(n:Nat):lk (p::B) n=if p.1=n then some p.2 else lk B n:=by
 unfold lk;rw[List.find?_cons];by_cases h:p.1=n;simp[h];rw[if_neg h];have:(p.1==n)=false:=by simpa using h
 simp[this]
theorem Kh(m:Nat)(b:Bk)(n:Nat):∀B:Bx,lk (Cq m b B) n=if m=n then some b else lk B n
 |[]=>by simp[Cq,FU]
 |p::B=>by
  simp only[Cq];split;rw[FU];rename_i hle;rw[FU,Kh m b n B,FU];by_cases h1:p.1=n;rw[if_pos h1,if_pos h1];by_cases h2:m=n;exfalso;apply hle;subst h1;subst h2;exact Nat.ble_eq_true_of_le (Nat.le_refl _);rw[if_neg h2];rw[if_neg h1,if_neg h1]
theorem OB(m:Nat)(b:Bk)(n:Nat):∀B:Bx,lk (BG B m b) n=if m=n then(lk B n).map fun _=>b else lk B n
 |[]=>by simp[BG,lk]
 |p::B=>by
  have ih:=OB m b n B;simp only[BG,List.map_cons]at ih⊢;rw[FU,FU,ih];by_cases h1:p.1=m;rw[if_pos h1];by_cases h2:m=n;subst h2;simp[h1];have:¬p.1=n:=fun e=>h2 (h1.symm.trans e);simp only[h2,if_false,this];rw[if_neg h1];by_cases h2:m=n;subst h2;simp[h1];simp[h2]
theorem Ft{B B':Bx}{n:Nat}(e:Ed)(h:lk B' n=lk B n):lk (Al B' e) n=lk (Al B e) n:=by cases e<;>simp only[Al,Kh,OB,h]
theorem Fu{B:Bx}{n:Nat}{e:Ed}(h:e.name≠n):lk (Al B e) n=lk B n:=by cases e<;>simp only[Ed.name]at h<;>simp only[Al,Kh,OB,h,if_false]
theorem Dv{n:Nat}:∀(es:List Ed) {B B':Bx},lk B' n=lk B n->lk (es.foldl Al B') n=lk (es.foldl Al B) n
 |[],_,_,h=>h
 |e::es,_,_,h=>Dv es (Ft e h)
theorem Dw{n:Nat}:∀(es:List Ed) {B:Bx},(∀e∈es,e.name≠n)->lk (es.foldl Al B) n=lk B n
 |[],_,_=>rfl
 |e::es,B,h=>(Dw es (B:=Al B e) fun f hf=>h f (by simp[hf])).trans (Fu (h e (by simp)))

theorem Rc.ap_B(c:Rc)(s:St):(c.ap s).B=c.es.foldl Al s.B:=by unfold Rc.ap;cases c.dst<;>rfl
theorem FP.ap{ts N s s'}(c:Rc)(h:FP ts N s s'):FP ts N (c.ap s) (c.ap s'):=by
 refine⟨?_,?_,fun n hn=>?_⟩;unfold Rc.ap;cases c.dst with
 |none=>exact h.len
 |some d=>simp only[St.put,List.length_set,St.edit];exact h.len
 intro t ht;unfold Rc.ap;cases c.dst with
 |none=>exact h.e t ht
 |some d=>
  simp only[St.put,St.edit,List.getElem?_set,h.len,h.e t ht]
 rw[Rc.ap_B,Rc.ap_B];exact Dv _ (h.b n hn)
def N5(a:Rc)(b:Dr):Bool:=
 (match a.dst with|none=>true|some d=> !b.ts.contains d)&&a.es.all fun e=> !AV e.name b.vs
theorem FP.other{a:Rc}{b:Dr}(h:N5 a b=true)(s:St):FP b.ts (fun n=>AV n b.vs) s (a.ap s):=by
 simp only[N5,ba]at h;refine⟨?_,?_,fun n hn=>?_⟩;unfold Rc.ap;cases a.dst with
 |none=>rfl
 |some d=>simp only[St.put,List.length_set,St.edit]
 intro t ht;unfold Rc.ap;cases hd:a.dst with
 |none=>rfl
 |some d=>
  have h1:=h.1
  rw[hd]at h1
  simp only[Bool.not_eq_true',List.contains_eq_mem,decide_eq_false_iff_not]at h1
  have:d≠t:=fun e=>h1 (e▸ht)
  simp only[St.put,St.edit,List.getElem?_set,this,if_false]
 rw[Rc.ap_B];refine Dw _ fun e he hne=>?_;have:=List.all_eq_true.1 h.2 e he;rw[hne,hn]at this;cases this

def sig(fl:Nat->Bool):Nat->List Dr->St->St
 |_,[],s=>s
 |k,d::ds,s=>sig fl (k+1) ds (if fl k then d.c.ap s else s)

theorem aLi{b:Dr}{fl fl':Nat->Bool}:∀(ds:List Dr) (k:Nat) {s s':St},(∀i d,ds[i]? =some d->fl (k+i)≠fl' (k+i)->N5 d.c b=true)->
 FP b.ts (fun n=>AV n b.vs) s s'->FP b.ts (fun n=>AV n b.vs) (sig fl k ds s) (sig fl' k ds s')
 |[],_,_,_,_,h=>h
 |d::ds,k,s,s',hd,h=>by
  simp only[sig];refine aLi ds (k+1) (fun i d' hi hne=>hd (i+1) d' (by simpa using hi) (by simpa[Nat.add_assoc,Nat.add_comm 1 i]using hne)) ?_;have h0:=hd 0 d (by simp);simp only[Nat.add_zero]at h0;cases h1:fl k<;>cases h2:fl' k<;>simp only[if_true,Bool.false_eq_true,if_false];exact h;exact h.trans (FP.other (h0 (by simp[h1,h2])) s');exact(FP.other (h0 (by simp[h1,h2])) s).symm.trans h;exact h.ap d.c
theorem H7{fl:Nat->Bool}{n:Nat}:∀(ds:List Dr) (k:Nat) {s:St},(∀i d,ds[i]? =some d->fl (k+i)=true->d.c.free n=true)->fresh n s=true->fresh n (sig fl k ds s)=true
 |[],_,_,_,h=>h
 |d::ds,k,s,hd,h=>by
  simp only[sig];refine H7 ds (k+1) (fun i d' hi hne=>hd (i+1) d' (by simpa using hi) (by simpa[Nat.add_assoc,Nat.add_comm 1 i]using hne)) ?_;cases h1:fl k<;>simp only[if_true,Bool.false_eq_true,if_false];exact h;exact Rc.fresh_ap h (hd 0 d (by simp) (by simpa using h1))

theorem Ln{m n:Nat}(hne:m≠n)(b c:Bk):∀B:Bx,Cq m b (Cq n c B)=Cq n c (Cq m b B)
 |[]=>by
  simp only[Cq];rcases Nat.lt_or_gt_of_ne hne with h|h
  have h1:Nat.ble m n=true:=Nat.ble_eq_true_of_le (Nat.le_of_lt h);have h2:Nat.ble n m=false:=by
   cases hh:Nat.ble n m with
   |false=>rfl
   |true=>exact absurd (Nat.le_of_ble_eq_true hh) (Nat.not_le.2 h)
  simp[h1,h2];have h1:Nat.ble n m=true:=Nat.ble_eq_true_of_le (Nat.le_of_lt h);have h2:Nat.ble m n=false:=by
   cases hh:Nat.ble m n with
   |false=>rfl
   |true=>exact absurd (Nat.le_of_ble_eq_true hh) (Nat.not_le.2 h)
  simp[h1,h2]
 |p::B=>by
  have ih:=Ln hne b c B;have hb:∀x y:Nat,Nat.ble x y=true↔x<=y:=fun x y=>by simp
  simp only[Cq];by_cases h1:m<=p.1<;>by_cases h2:n<=p.1;rcases Nat.lt_or_gt_of_ne hne with h|h
  have:¬n<=m:=Nat.not_le.2 h;simp[Cq,h1,h2,Nat.le_of_lt h,this];have:¬m<=n:=Nat.not_le.2 h;simp[Cq,h1,h2,Nat.le_of_lt h,this];have:¬n<=m:=fun h=>h2 (Nat.le_trans h h1);simp[Cq,h1,h2,this];have:¬m<=n:=fun h=>h1 (Nat.le_trans h h2);simp[Cq,h1,h2,this];simp[Cq,h1,h2,ih]
theorem IE{m n:Nat}(hne:m≠n)(b c:Bk):∀B:Bx,BG (Cq n c B) m b=Cq n c (BG B m b)
 |[]=>by simp[Cq,BG,Ne.symm hne]
 |p::B=>by
  have ih:=IE hne b c B;have he:(if p.1=m then(m,b)else p).1=p.1:=by split<;>simp_all
  simp only[Cq,BG,List.map_cons,he]at ih⊢;split;simp only[List.map_cons,Ne.symm hne,if_false];simp only[List.map_cons,ih]
theorem aCl{m n:Nat}(hne:m≠n)(b c:Bk)(B:Bx):BG (BG B n c) m b=BG (BG B m b) n c:=by simp only[BG,List.map_map];apply List.map_congr_left;intro p _;simp only[Function.comp_apply];by_cases h1:p.1=n;have h2:¬p.1=m:=fun e=>hne (e.symm.trans h1);simp[h1,h2,Ne.symm hne];by_cases h2:p.1=m;simp[h1,h2,hne];simp[h1,h2]
theorem LQ{e f:Ed}(h:e.name≠f.name)(B:Bx):Al (Al B f) e=Al (Al B e) f:=by cases e<;>cases f<;>simp only[Ed.name]at h<;>simp only[Al];exact Ln h _ _ _;exact(IE (Ne.symm h) _ _ _).symm;exact IE h _ _ _;exact aCl h _ _ _
theorem HZ{e:Ed}:∀(fs:List Ed) (B:Bx),(∀f∈fs,e.name≠f.name)->Al (fs.foldl Al B) e=fs.foldl Al (Al B e)
 |[],_,_=>rfl
 |f::fs,B,h=>by
  simp only[List.foldl_cons];rw[HZ fs _ fun g hg=>h g (by simp[hg]),LQ (h f (by simp))]
theorem JG:∀(es fs:List Ed) (B:Bx),(∀e∈es,∀f∈fs,e.name≠f.name)->es.foldl Al (fs.foldl Al B)=fs.foldl Al (es.foldl Al B)
 |[],_,_,_=>rfl
 |e::es,fs,B,h=>by
  simp only[List.foldl_cons];rw[HZ fs B (h e (by simp)),JG es fs _ fun g hg=>h g (by simp[hg])]
def KM(a b:Rc):Bool:=
 (match a.dst,b.dst with|some x,some y=>x !=y|_,_=>true)&&a.es.all fun e=>b.es.all fun f=>e.name !=f.name
theorem aNj{a b:Rc}(h:KM a b=true)(s:St):a.ap (b.ap s)=b.ap (a.ap s):=by
 simp only[KM,ba]at h;have hB:a.es.foldl Al (b.es.foldl Al s.B)=b.es.foldl Al (a.es.foldl Al s.B):=JG _ _ _ fun e he f hf=>by have:=List.all_eq_true.1 (List.all_eq_true.1 h.2 e he) f hf;simpa using this
 obtain⟨da,ra,ea⟩:=a;obtain⟨db,rb,eb⟩:=b;simp only at h hB;cases da<;>cases db<;>simp only[Rc.ap,St.put,St.edit,hB];simp only[bne_iff_ne]at h;rw[List.set_comm _ _ (Ne.symm h.1)]
theorem aCb{fl:Nat->Bool}{c:Rc}:∀(ds:List Dr) (k:Nat) (s:St),(∀i d,ds[i]? =some d->fl (k+i)=true->KM d.c c=true)->sig fl k ds (c.ap s)=c.ap (sig fl k ds s)
 |[],_,_,_=>rfl
 |d::ds,k,s,h=>by
  simp only[sig];have h':∀i d,ds[i]? =some d->fl (k+1+i)=true->KM d.c c=true:=fun i d' hi hf=>h (i+1) d' (by simpa using hi) (by simpa[Nat.add_assoc,Nat.add_comm 1 i]using hf);cases h1:fl k<;>simp only[if_true,Bool.false_eq_true,if_false];exact aCb ds (k+1) s h';rw[aNj (h 0 d (by simp) (by simpa using h1)),aCb ds (k+1) _ h']
theorem JV{fl fl':Nat->Bool}{j:Nat}{dj:Dr}(hfl:∀i,fl' i=if i=j then true else fl i)(hj:fl j=false):∀(ds:List Dr) (k:Nat) (s:St),k<=j->ds[j-k]? =some dj->
 (∀i d,ds[i]? =some d->j<k+i->fl (k+i)=true->KM d.c dj.c=true)->sig fl' k ds s=dj.c.ap (sig fl k ds s)
 |[],_,_,_,h,_=>by simp at h
 |d::ds,k,s,hk,h,hc=>by
  simp only[sig];rcases Nat.eq_or_lt_of_le hk with rfl|hlt
  simp only[Nat.sub_self,List.getElem?_cons_zero,oe]at h;subst h;rw[hfl k,if_pos rfl,hj];simp only[if_true,Bool.false_eq_true,if_false];rw[<-aCb (fl:=fl) ds (k+1) s fun i d' hi hf=>hc (i+1) d' (by simpa using hi) (by omega) (by simpa[Nat.add_assoc,Nat.add_comm 1 i]using hf)];have:∀(ds:List Dr) (m:Nat) (s:St),k<m->sig fl' m ds s=sig fl m ds s:=by
   intro ds;induction ds with
   |nil=>intro m s _;rfl
   |cons d ds ih=>
    intro m s hm
    have hne:¬m=k:=by omega
    simp only[sig,hfl m,hne,if_false]
    exact ih (m+1) _ (by omega)
  exact this ds (k+1) _ (by omega);have hne:¬k=j:=by omega
  rw[hfl k,if_neg hne];refine JV hfl hj ds (k+1) _ hlt ?_ fun i d' hi hl hf=>hc (i+1) d' (by simpa using hi) (by omega) (by simpa[Nat.add_assoc,Nat.add_comm 1 i]using hf);have e:j-k=j-(k+1)+1:=by omega
  rw[e]at h;simpa using h
end Go.Ac
namespace Go.Ac

def aK7(T:List Nat)(o:Oper):Nat:=
 o.after.toList.foldl (fun m e=>if Region.binds .any e then m|||(1<<<e.on)|||T.getD e.on 0 else m) 0
theorem L7{T:List Nat}{i:Nat}:∀(l:List Edge) (m:Nat),(l.foldl (fun m e=>if Region.binds .any e then m|||(1<<<e.on)|||T.getD e.on 0 else m) m).testBit i=true->
 m.testBit i=true\/∃e∈l,Region.binds .any e=true/\(i=e.on\/(T.getD e.on 0).testBit i=true)
 |[],m,h=>.inl h
 |e::l,m,h=>by
  simp only[List.foldl_cons]at h;rcases L7 l _ h with h|⟨e',he,hb⟩
  split at h;rename_i hb;simp only[Nat.testBit_or,Bool.or_eq_true]at h;rcases h with(h|h)|h
  exact .inl h;rw[Nat.one_shiftLeft,Nat.testBit_two_pow]at h;simp only[decide_eq_true_eq]at h;exact .inr ⟨e,by simp,hb,.inl h.symm⟩;exact .inr ⟨e,by simp,hb,.inr h⟩;exact .inl h;exact .inr ⟨e',by simp[he],hb⟩
theorem OH{T:List Nat}{o:Oper}{i:Nat}(h:(aK7 T o).testBit i=true):∃e∈o.after,Region.binds .any e=true/\(i=e.on\/(T.getD e.on 0).testBit i=true):=by
 rcases L7 _ _ h with h|⟨e,he,hb⟩
 simp at h;exact⟨e,by simpa using he,hb⟩
def ET:List Oper->List Nat->List Nat
 |[],T=>T
 |o::l,T=>ET l (T++[aK7 T o])
def aT9(L:Nat->Bool)(T:List Nat):Prop:=∀j m i,T[j]? =some m->m.testBit i=true->L j=true->L i=true
theorem JE{L:Nat->Bool}:∀(l:List Oper) (T:List Nat),(∀j o,l[j]? =some o->L (T.length+j)=true->∀e∈o.after,Region.binds .any e=true->L e.on=true)->aT9 L T->aT9 L (ET l T)
 |[],T,_,h=>h
 |o::l,T,hl,h=>by
  simp only[ET];refine JE l _ (fun j o' hj hL=>hl (j+1) o' (by simpa using hj) (by simpa[Nat.add_assoc,Nat.add_comm 1 j]using hL)) ?_;intro j m i hj hb hL;rw[List.getElem?_append]at hj;split at hj;exact h j m i hj hb hL;rename_i hlt;have hj0:j=T.length:=by
   rcases Nat.lt_or_ge (j-T.length) 1 with h1|h1
   omega;rw[List.getElem?_eq_none (by simpa using h1)]at hj;cases hj
  subst hj0;simp only[Nat.sub_self,List.getElem?_cons_zero,oe]at hj;subst hj;obtain⟨e,he,hbd,hi⟩:=OH hb;have hon:=hl 0 o (by simp) (by simpa using hL) e he hbd;rcases hi with rfl|hi
  exact hon;cases ht:T[e.on]? with
  |none=>simp[List.getD,ht]at hi
  |some m=>simp only[List.getD,ht,Option.getD_some]at hi;exact h e.on m i ht hi hon
theorem LX:∀(l:List Oper) (T:List Nat),(ET l T).length=T.length+l.length
 |[],T=>by simp[ET]
 |o::l,T=>by simp only[ET,LX l,List.length_append,List.length_cons,List.length_nil];omega
def SG:Nat->List Oper->Bool
 |_,[]=>true
 |k,o::l=>o.after.toList.all (fun e=> !Region.binds .any e||decide (e.on<k))&&SG (k+1) l
theorem JB:∀(l:List Oper) (k:Nat),SG k l=true->∀j o,l[j]? =some o->∀e∈o.after,Region.binds .any e=true->e.on<k+j
 |[],_,_,j,o,h,_,_,_=>by simp at h
 |o'::l,k,hB,0,o,h,e,he,hb=>by
  simp only[List.getElem?_cons_zero,oe]at h;subst h;simp only[SG,ba]at hB;have:=List.all_eq_true.1 hB.1 e (by simpa using he);simp only[hb,Bool.not_true,Bool.false_or,decide_eq_true_eq]at this;simpa using this
 |o'::l,k,hB,j+1,o,h,e,he,hb=>by
  simp only[SG,ba]at hB;have:=JB l (k+1) hB.2 j o (by simpa using h) e he hb;omega

def amv(o:Oper)(s:St)(w:W):Option Nat:=
 match o.op,w with
 | .move (.tmp x),.no=>match s.E.getD x .any with
  | .row n=>some n
  |_=>none
 |_,_=>none
def Ld(P:Program)(ops:Array Oper)(ws:List (Nat×W))(s:St)(o:Oper):Option (Ob×Rc):=
 if DU o.op then
  match Hg ops s o with
  |some true=>match amv o s (wOf ws o)with
   |some n=>some (.c .t,⟨o.dst,.row n,[]⟩)
   |none=>match aNi P o s (wOf ws o)with
    |some (Φ,r,es)=>some (Φ,⟨o.dst,r,es⟩)
    |none=>none
  |some false=>some (.c .t,⟨o.dst,.tup [],[]⟩)
  |none=>none
 else none
theorem aIy{rd:Option Nat}{P:Program}{ops:Array Oper}{ws:List (Nat×W)}{s:St}{o:Oper}{L:Lp}{Φ:Ob}{c:Rc}(he:Ld P ops ws s o=some (Φ,c))(hΦ:Φ.ok P L)
 {h w val a} (H:Holds s h w val a) {i:Nat} (hi:ops[i]? =some o) {K:Act->World->Prop} {Q:Exit->Act->World->Prop}
 (hK:∀h' w' val' a',Holds (c.ap s) h' w' val' a'->Nx s h w val (c.ap s) h' w' val'->K a' w'):wpOpIn (fc rd) 0 P ops Q i K a w:=by
 unfold Ld at he
 split at he
 rename_i hnd
 split at he
 rename_i hg
 split at he
 rename_i n hm
 simp only[oe,pe]at he
 obtain⟨rfl,rfl⟩:=he
 unfold amv at hm
 split at hm
 rename_i x ho hw
 split at hm
 rename_i n' hx
 simp only[oe]at hm
 subst hm
 have hv:=H.ev (.tmp x)
 have hx':s.ev (.tmp x)=.row n':=hx
 rw[hx']at hv
 unfold wpOpIn
 rw[hi]
 simp only[CS hg H,if_true]
 refine CA hnd (AQ (u:=a.eval (.tmp x)) (w':=w) (by simp[execOp,ho]) ?_)
 exact hK h w val _ (H.put o.dst hv) ((Nx.refl s h w val rfl).put _ _)
 cases hm
 cases hm
 split at he
 rename_i Φ' r es ho
 simp only[oe,pe]at he
 obtain⟨rfl,rfl⟩:=he
 unfold wpOpIn
 rw[hi]
 simp only[CS hg H,if_true]
 exact CA hnd (ZE ho hΦ h w val a H K Q fun h' w' val' u hr H' hn=>hK h' w' val' _ (H'.put o.dst hr) (hn.put _ _))
 cases he
 rename_i hg
 simp only[oe,pe]at he
 obtain⟨rfl,rfl⟩:=he
 unfold wpOpIn
 rw[hi]
 simp only[CS hg H,Bool.false_eq_true,if_false]
 exact⟨fun _ _=>trivial,hK h w val _ (H.put o.dst Jb) ((Nx.refl s h w val rfl).put _ _)⟩
 cases he
 cases he

theorem FQ{n:Nat}{a:A}(h:a.has n=true):∀{l:List A},a∈l->AV n l=true
 |b::l,hm=>by
  simp only[AV,Bool.or_eq_true];rcases mc.1 hm with rfl|hm
  exact .inl h;exact .inr (FQ h hm)
theorem aN0(n:Nat)(v:Value):(cst v).has n=false:=by unfold cst;split;rfl;split<;>rfl;rfl;rfl
theorem FP.same{ops:Array Oper}{o:Oper}{s s':St}(h:FP (o.looksAt ops) (fun n=>AV n ((o.looksAt ops).map fun t=>s.E.getD t .any)) s s'):D1 o s s':=by
 have hin:∀t,Operand.tmp t∈o.op.operands->t∈o.looksAt ops:=fun t ht=>ml_ _ (List.mem_filterMap.2 ⟨.tmp t,by simpa using ht,rfl⟩);refine⟨fun x hx=>?_,fun x hx n hn=>?_⟩;cases x with
 |tmp t=>simp only[St.ev,List.getD,h.e t (hin t hx)]
 |const v=>rfl
 |global g=>rfl
 |func f=>rfl
 cases x with
 |tmp t=>exact h.b n (FQ hn (mm.2 ⟨t,hin t hx,rfl⟩))
 |const v=>simp only[St.ev,aN0]at hn;cases hn
 |global g=>simp[St.ev,A.has]at hn
 |func f=>simp[St.ev,A.has,AV]at hn
def aTp(ops:Array Oper)(ws:List (Nat×W))(s:St)(o:Oper):List A:=match amv o s (wOf ws o)with
 |some _=> []
 |none=>((o.looksAt ops).map fun t=>s.E.getD t .any)++(xns (wOf ws o)).map .row
theorem aIi{o:Oper}{s s':St}{w:W}(h:∀t,Operand.tmp t∈o.op.operands->s'.E[t]? =s.E[t]?):amv o s' w=amv o s w:=by unfold amv;split;rename_i x ho;have:s'.E[x]? =s.E[x]? :=h x (by rw[ho];simp[Op.operands]);simp only[List.getD,this];rfl
theorem DK{n:Nat}:∀(a b:List A),AV n (a++b)=(AV n a||AV n b)
 |[],b=>rfl
 |x::a,b=>by simp only[List.cons_append,AV,DK a b,Bool.or_assoc]
theorem FP.left{ts:List Nat}{a b:List A}{s s':St}(h:FP ts (fun n=>AV n (a++b)) s s'):FP ts (fun n=>AV n a) s s':=⟨h.len,h.e,fun n hn=>h.b n (by rw[DK,hn];rfl)⟩
theorem FP.xs{ts:List Nat}{a:List A}{l:List Nat}{s s':St}(h:FP ts (fun n=>AV n (a++l.map .row)) s s'):∀n∈l,lk s'.B n=lk s.B n:=fun n hn=>h.b n (by rw[DK];have:AV n (l.map A.row)=true:=FQ (a:=.row n) (by simp[A.has]) (mm.2 ⟨n,hn,rfl⟩);rw[this,Bool.or_true])
def aA6(s:St):W->Bool
 | .lend ns _=>DR s ns
 |_=>true
theorem SQ{P:Program}{ops:Array Oper}{ws:List (Nat×W)}{s s':St}{o:Oper}{Φ:Ob}{c:Rc}(he:Ld P ops ws s o=some (Φ,c))
 (h:FP (o.looksAt ops) (fun n=>AV n (aTp ops ws s o)) s s') (hc:aA6 s (wOf ws o)=true) (hn:∀d∈nns (wOf ws o),fresh d s'=true) (hf:c.es.any EF=true->∀d,o.dst=some d->fresh d s'=true):Ld P ops ws s' o=some (Φ,c):=by
 have hc':∀ns r,wOf ws o=.lend ns r->DR s ns=true:=fun ns r e=>by rw[e]at hc;exact hc
 have hin:∀t,Operand.tmp t∈o.op.operands->t∈o.looksAt ops:=fun t ht=>ml_ _ (List.mem_filterMap.2 ⟨.tmp t,by simpa using ht,rfl⟩)
 have hav:amv o s' (wOf ws o)=amv o s (wOf ws o):=aIi fun t ht=>h.e t (hin t ht)
 have hg:Hg ops s' o=Hg ops s o:=by
  unfold Hg;cases hg:o.guard with
  |none=>rfl
  |some g=>
   obtain⟨j,want⟩:=g
   simp only
   cases ht:(ops[j]?).bind (·.dst)with
   |none=>rfl
   |some t=>
    have:t∈o.looksAt ops:=mr_ _ (by simp[hg,ht])
    simp only[h.e t this]
 unfold Ld at he⊢
 rw[hg]
 split at he
 rename_i hnd
 rw[if_pos hnd]
 split at he
 split at he
 rename_i n hm
 rw[hav,hm]
 exact he
 rename_i hm
 rw[hav,hm]
 have hvs:aTp ops ws s o=((o.looksAt ops).map fun t=>s.E.getD t .any)++(xns (wOf ws o)).map .row:=by unfold aTp;rw[hm]
 rw[hvs]at h
 have hx:∀n∈xns (wOf ws o),lk s'.B n=lk s.B n:=FP.xs h
 have h2:=FP.left h
 split at he
 rename_i Φ' r es ho
 simp only[oe,pe]at he
 obtain⟨rfl,rfl⟩:=he
 simp only[ZF h2.same hx hc' hn hf ho]
 cases he
 exact he
 cases he
 cases he

def aKv(P:Program)(ops:Array Oper)(ws:List (Nat×W)):List Oper->St->Option (Ob×List Dr×St)
 |[],s=>some (.c .t,[],s)
 |o::l,s=>match Ld P ops ws s o with
  |some (Φ,c)=>if aA6 s (wOf ws o)then match aKv P ops ws l (c.ap s)with
   |some (Ψ,ds,s')=>some (Φ.and Ψ,⟨c,o.looksAt ops,aTp ops ws s o,nns (wOf ws o)⟩::ds,s')
   |none=>none
   else none
  |none=>none
def pre(ds:List Dr)(j:Nat)(s:St):St:=(ds.take j).foldl (fun s d=>d.c.ap s) s
theorem Lc{L:Lp}{P:Program}{ops:Array Oper}{ws:List (Nat×W)}:∀(l:List Oper) (s s':St) (Φ:Ob) (ds:List Dr),aKv P ops ws l s=some (Φ,ds,s')->Φ.ok P L->
 ds.length=l.length/\s'=pre ds l.length s/\∀j o,l[j]? =some o->∃d Φ',ds[j]? =some d/\Φ'.ok P L/\Ld P ops ws (pre ds j s) o=some (Φ',d.c)/\d.ts=o.looksAt ops/\d.vs=aTp ops ws (pre ds j s) o/\d.ns=nns (wOf ws o)/\aA6 (pre ds j s) (wOf ws o)=true
 |[],s,s',Φ,ds,he,_=>by
  simp only[aKv,oe,pe]at he;obtain⟨_,rfl,rfl⟩:=he;exact⟨rfl,rfl,fun j o h=>by simp at h⟩
 |o::l,s,s',Φ,ds,he,hΦ=>by
  simp only[aKv]at he;split at he
  ·rename_i Φ1 c h1;split at he;case isFalse=>cases he
   rename_i hlo;split at he;rename_i Ψ ds' s'' h2;simp only[oe,pe]at he;obtain⟨rfl,rfl,rfl⟩:=he;obtain⟨hΦ1,hΨ⟩:=Ob.and_ok hΦ;obtain⟨e1,e2,e3⟩:=Lc l _ _ _ _ h2 hΨ;refine⟨by simp[e1],by simpa[pre]using e2,fun j o' hj=>?_⟩;cases j with
   |zero=>
    simp only[List.getElem?_cons_zero,oe]at hj
    subst hj
    exact⟨_,Φ1,rfl,hΦ1,h1,rfl,rfl,rfl,hlo⟩
   |succ j=>
    obtain⟨d,Φ',f1,f2,f3,f4,f5,f6,f7⟩:=e3 j o' (by simpa using hj)
    exact⟨d,Φ',by simpa using f1,f2,f3,f4,f5,f6,f7⟩
   cases he
  cases he
theorem OO:∀(ds:List Dr) (k j:Nat) (s:St),pre ds j s=sig (fun i=>decide (i<k+j)) k ds s
 |[],k,j,s=>by simp[pre,sig]
 |d::ds,k,0,s=>by
  have:∀(ds:List Dr) (m:Nat) (s:St),k<=m->sig (fun i=>decide (i<k+0)) m ds s=s:=by
   intro ds;induction ds with
   |nil=>intro m s _;rfl
   |cons d ds ih=>
    intro m s hm
    have:¬m<k+0:=by omega
    simp only[sig,this,decide_false,Bool.false_eq_true,if_false]
    exact ih (m+1) s (by omega)
  rw[this _ k s (Nat.le_refl _)];simp[pre]
 |d::ds,k,j+1,s=>by
  have h:=OO ds (k+1) j (d.c.ap s);have e:k+1+j=k+(j+1):=by omega
  rw[e]at h;have:k<k+(j+1):=by omega
  simp only[sig,this,decide_true,if_true];rw[<-h];simp[pre]

def aLc(a b:Dr):Bool:=(!b.c.es.any EF||(match b.c.dst with|some d=>a.c.free d|none=>true))&&BT (fun d=>a.c.free d) b.ns
def Ht(ord:Bool)(a b:Dr):Bool:=aLc a b&&(ord||(N5 a.c b&&N5 b.c a&&KM a.c b.c&&KM b.c a.c&&aLc b a))
def aTi(m:Nat)(b:Dr):Nat->List Dr->Bool
 |_,[]=>true
 |i,a::ds=>Ht (m.testBit i) a b&&aTi m b (i+1) ds
def L9:List Nat->List Dr->List Dr->Bool
 |_,_,[]=>true
 |[],_,_=>false
 |m::T,before,b::ds=>aTi m b 0 before&&L9 T (before++[b]) ds
def aBo(s:St):List Dr->Bool
 |[]=>true
 |b::ds=>(!b.c.es.any EF||(match b.c.dst with|some d=>fresh d s|none=>true))&&BT (fun d=>fresh d s) b.ns&&aBo s ds
theorem MK{m:Nat}{b:Dr}:∀(ds:List Dr) (k:Nat),aTi m b k ds=true->∀i a,ds[i]? =some a->Ht (m.testBit (k+i)) a b=true
 |[],_,_,i,a,h=>by simp at h
 |a'::ds,k,hB,0,a,h=>by
  simp only[List.getElem?_cons_zero,oe]at h;subst h;simp only[aTi,ba]at hB;exact hB.1
 |a'::ds,k,hB,i+1,a,h=>by
  simp only[aTi,ba]at hB;have:=MK ds (k+1) hB.2 i a (by simpa using h);simpa[Nat.add_assoc,Nat.add_comm 1 i]using this
theorem Hu:∀(T:List Nat) (before ds:List Dr),L9 T before ds=true->∀j m b,T[j]? =some m->ds[j]? =some b->∀i a,i<before.length+j->(before++ds)[i]? =some a->Ht (m.testBit i) a b=true
 |[],_,_,_,j,m,b,h,_,_,_,_,_=>by simp at h
 |_::_,_,[],_,j,m,b,_,h,_,_,_,_=>by simp at h
 |m'::T,before,b'::ds,hB,0,m,b,hm,hb,i,a,hi,ha=>by
  simp only[List.getElem?_cons_zero,oe]at hm hb;subst hm;subst hb;simp only[L9,ba]at hB;have:before[i]? =some a:=by rwa [List.getElem?_append_left (by simpa using hi)]at ha
  simpa using MK before 0 hB.1 i a this
 |m'::T,before,b'::ds,hB,j+1,m,b,hm,hb,i,a,hi,ha=>by
  simp only[L9,ba]at hB;exact Hu T _ ds hB.2 j m b (by simpa using hm) (by simpa using hb) i a (by simp only[List.length_append,List.length_cons,List.length_nil];omega) (by simpa using ha)
theorem FV{s:St}:∀(ds:List Dr),aBo s ds=true->∀(i:Nat) (b:Dr),ds[i]? =some b->(b.c.es.any EF=true->∀d,b.c.dst=some d->fresh d s=true)/\∀d∈b.ns,fresh d s=true
 |[],_,i,b,h=>by simp at h
 |b'::ds,hB,0,b,h=>by
  simp only[List.getElem?_cons_zero,oe]at h;subst h;simp only[aBo,ba]at hB;exact⟨fun ha d hd=>by simpa[ha,hd]using hB.1.1,fun d hd=>A7 hB.1.2 d hd⟩
 |b'::ds,hB,i+1,b,h=>by
  simp only[aBo,ba]at hB;exact FV ds hB.2 i b (by simpa using h)
end Go.Ac
namespace Go.Ac

def aIw(ops:Array Oper)(s:St)(ds:List Dr):Bool:=
 SG 0 ops.toList&&L9 (ET ops.toList []) [] ds&&aBo s ds

theorem aTn{n i:Nat}{fl fl':Nat->Bool}(hfl:∀k,fl' k=if k=i then true else fl k)(hi:i<n)(h0:fl i=false):
 ((List.range n).filter fun k=> !fl' k).length<((List.range n).filter fun k=> !fl k).length:=by
 have e:(List.range n).filter (fun k=> !fl' k)=((List.range n).filter fun k=> !fl k).filter fun k=>k !=i:=by rw[List.filter_filter];apply List.filter_congr;intro k _;rw[hfl k];by_cases hk:k=i;simp[hk];simp[hk]
 rw[e,List.length_filter_lt_length_iff_exists]
 exact⟨i,List.mem_filter.2 ⟨List.mem_range.2 hi,by simp[h0]⟩,by simp⟩

structure EN(ops:Array Oper)(listed:Array Bool):Prop where
 size:listed.size=ops.size
 deps:∀j o,ops[j]? =some o->listed.getD j false=true->∀e∈o.after,Region.binds .any e=true->listed.getD e.on false=true

theorem Li{listed:Array Bool}{j:Nat}(hj:j<listed.size)(i:Nat):(listed.setIfInBounds j true).getD i false=if i=j then true else listed.getD i false:=by by_cases h:i=j;subst h;simp[hj];rw[if_neg h];simp only[Array.getD_eq_getD_getElem?];rw[Array.getElem?_setIfInBounds_ne (Ne.symm h)]

theorem EN.set{ops:Array Oper}{listed:Array Bool}(C:EN ops listed){j:Nat}(hj:j∈Region.ready .any ops listed):EN ops (listed.setIfInBounds j true):=by
 obtain⟨_,oj,hoj,hall⟩:=mem_ready.1 hj;have hlt:j<listed.size:=by rw[C.size];exact(Array.getElem?_eq_some_iff.1 hoj).1
 refine⟨by simp[C.size],fun i o ho hl e he hb=>?_⟩;rw[Li hlt]at hl⊢;split;rfl;split at hl;rename_i h2;subst h2;have:o=oj:=Option.some.inj (ho.symm.trans hoj);subst this;exact hall e he hb;exact C.deps i o ho hl e he hb
theorem EN.good{ops:Array Oper}{listed:Array Bool}(C:EN ops listed):aT9 (fun i=>listed.getD i false) (ET ops.toList []):=
 JE _ _ (fun j o hj hL e he hb=>C.deps j o (by simpa using hj) (by simpa using hL) e he hb) (fun j m i h=>by simp at h)

theorem R4{ops:Array Oper}{listed:Array Bool}(C:EN ops listed)(hb:SG 0 ops.toList=true)(hr:Region.ready .any ops listed=[]):∀j,j<ops.size->listed.getD j false=true:=by
 intro j;induction j using Nat.strongRecOn with
 |_ j ih=>
  intro hj
  cases hl:listed.getD j false with
  |true=>rfl
  |false=>
   exfalso
   have:j∈Region.ready .any ops listed:=mem_ready.2 ⟨by
    have:j<listed.size:=by rw[C.size];exact hj
    simp[this]at hl⊢;exact hl,ops[j],Array.getElem?_eq_getElem hj,fun e he hbd=>by
    have h1:=JB _ 0 hb j ops[j] (by simp[hj]) e he hbd;have h2:e.on<j:=by simpa using h1
    exact ih e.on h2 (Nat.lt_trans h2 hj)⟩
   rw[hr]at this
   cases this

theorem aIj{rd:Option Nat}{P:Program}{ops:Array Oper}{Q:Exit->Act->World->Prop}{listed:Array Bool}{a:Act}{w:World}(hs:listed.size=ops.size)(hl:∀j,j<ops.size->listed.getD j false=true)(hQ:Q .normal a w)(fuel:Nat):
 wpAnyIn (fc rd) 0 P .any ops Q fuel listed a w:=by
 have hr:Region.ready .any ops listed=[]:=by
  rcases List.eq_nil_or_concat (Region.ready .any ops listed)with h0|⟨l,j,hj⟩
  exact h0;exfalso;have hj':j∈Region.ready .any ops listed:=by rw[hj];simp
  obtain⟨h1,oj,hoj,_⟩:=mem_ready.1 hj';have hlt:=(Array.getElem?_eq_some_iff.1 hoj).1;have h2:=hl j hlt;simp[hs,hlt]at h1 h2;rw[h1]at h2;cases h2
 cases fuel with
 |zero=>exact⟨hr,hQ⟩
 |succ n=>exact⟨fun _=>hQ,fun j hj=>by rw[hr]at hj;cases hj⟩
theorem aAl{rd:Option Nat}{P:Program}{ops:Array Oper}{ws:List (Nat×W)}{Q:Exit->Act->World->Prop}{s0 s':St}{L:Lp}{Φ:Ob}{ds:List Dr}{n:Nat}
 (hn1:n<=ops.size) (hn2:ops.size<=n+1) (hmask:n<ops.size->∃m:Nat,(ET ops.toList [])[n]? =some m/\∀i,i<n->m.testBit i=true)
 (hrun:aKv P ops ws (ops.toList.take n) s0=some (Φ,ds,s')) (hΦ:Φ.ok P L) (hB:aIw ops s0 ds=true):
 ∀(fuel:Nat) (listed:Array Bool) (a:Act) (w:World) (h:Hw) (val:Val),EN ops listed->(n<ops.size->listed.getD n false=false)->((List.range ops.size).filter fun k=> !listed.getD k false).length<=fuel->
  Holds (sig (fun i=>listed.getD i false) 0 ds s0) h w val a->
  (∀h' w' val' a',Holds s' h' w' val' a'->Nx (sig (fun i=>listed.getD i false) 0 ds s0) h w val s' h' w' val'->(n=ops.size->Q .normal a' w')/\
   (n<ops.size->∀K:Act->World->Prop,(∀a2 w2,Q .normal a2 w2->K a2 w2)->wpOpIn (fc rd) 0 P ops Q n K a' w'))->wpAnyIn (fc rd) 0 P .any ops Q fuel listed a w:=by
 obtain⟨hlen,hend,hall⟩:=Lc _ _ _ _ _ hrun hΦ
 have htl:(ops.toList.take n).length=n:=by simp only[List.length_take,Array.length_toList];omega
 rw[htl]at hlen hend
 simp only[aIw,ba]at hB
 obtain⟨⟨hback,hpairs⟩,hnews⟩:=hB
 have hp:∀(j:Nat) (b:Dr) (i:Nat) (a:Dr),ds[j]? =some b->ds[i]? =some a->i<j->∃m:Nat,(ET ops.toList [])[j]? =some m/\Ht (m.testBit i) a b=true:=by
  intro j b i a hb ha hij;have hj:j<(ET ops.toList []).length:=by have:=(List.getElem?_eq_some_iff.1 hb).1;rw[LX];simp only[List.length_nil,Nat.zero_add,Array.length_toList];omega
  exact⟨_,List.getElem?_eq_getElem hj,Hu _ _ _ hpairs j _ b (List.getElem?_eq_getElem hj) hb i a (by simpa using hij) (by simpa using ha)⟩
 have hsig:∀(listed:Array Bool),(∀j,j<n->listed.getD j false=true)->sig (fun i=>listed.getD i false) 0 ds s0=s':=by
  intro listed hal;rw[hend,OO ds 0];have:∀(l:List Dr) (k:Nat) (s:St),k+l.length<=n->sig (fun i=>listed.getD i false) k l s=sig (fun i=>decide (i<0+n)) k l s:=by
   intro l;induction l with
   |nil=>intro k s _;rfl
   |cons d l ih=>
    intro k s hk
    simp only[List.length_cons]at hk
    have h1:k<0+n:=by omega
    simp only[sig,hal k (by omega),h1,decide_true,if_true]
    exact ih (k+1) _ (by omega)
  exact this ds 0 s0 (by omega)
 have hdone:∀(listed:Array Bool) (a:Act) (w:World) (h:Hw) (val:Val),EN ops listed->(n<ops.size->listed.getD n false=false)->Region.ready .any ops listed=[]->
  Holds (sig (fun i=>listed.getD i false) 0 ds s0) h w val a->
  (∀h' w' val' a',Holds s' h' w' val' a'->Nx (sig (fun i=>listed.getD i false) 0 ds s0) h w val s' h' w' val'->(n=ops.size->Q .normal a' w')/\
   (n<ops.size->∀K:Act->World->Prop,(∀a2 w2,Q .normal a2 w2->K a2 w2)->wpOpIn (fc rd) 0 P ops Q n K a' w'))->Q .normal a w:=by
  intro listed a w h val C hnl hr H hQ
  have hal:=R4 C hback hr
  have e:=hsig listed fun j hj=>hal j (by omega)
  rw[e]at H hQ
  rcases Nat.lt_or_ge n ops.size with hlt|hge
  have h1:=hnl hlt
  rw[hal n hlt]at h1;cases h1
  exact(hQ h w val a H (Nx.refl s' h w val rfl)).1 (by omega)
 intro fuel
 induction fuel with
 |zero=>
  intro listed a w h val C hnl hn H hQ
  have hr:Region.ready .any ops listed=[]:=by
   rcases List.eq_nil_or_concat (Region.ready .any ops listed)with h0|⟨l,j,hj⟩
   exact h0;exfalso;have hj':j∈Region.ready .any ops listed:=by rw[hj];simp
   obtain⟨h1,oj,hoj,_⟩:=mem_ready.1 hj';have hlt:=(Array.getElem?_eq_some_iff.1 hoj).1;have:j∈(List.range ops.size).filter fun k=> !listed.getD k false:=List.mem_filter.2 ⟨List.mem_range.2 hlt,by
    have h2:j<listed.size:=by rw[C.size];exact hlt
    simp[h2]at h1⊢;exact h1⟩
   have:=List.length_pos_of_mem this;omega
  exact⟨hr,hdone listed a w h val C hnl hr H hQ⟩
 |succ fuel ih=>
  intro listed a w h val C hnl hn H hQ
  refine⟨fun hr=>hdone listed a w h val C hnl hr H hQ,fun j hj=>?_⟩
  obtain⟨hj1,oj,hoj,hdeps⟩:=mem_ready.1 hj
  have hlt:=(Array.getElem?_eq_some_iff.1 hoj).1
  have hltL:j<listed.size:=by rw[C.size];exact hlt
  have hj0:listed.getD j false=false:=by simp[hltL]at hj1⊢;exact hj1
  have C':=C.set hj
  have hfl:∀i,(listed.setIfInBounds j true).getD i false=if i=j then true else listed.getD i false:=Li hltL
  rcases Nat.lt_or_ge j n with hjn|hjn
  rotate_left
  have hjn:j=n:=by omega
  subst hjn
  obtain⟨m,hm,hmb⟩:=hmask hlt
  have hal:∀i,i<j->listed.getD i false=true:=fun i hi=>by have:=C'.good j m i hm (hmb i hi) (by simp only[hfl,if_true]);simp only[hfl]at this;rwa [if_neg (by omega)]at this
  have e:=hsig listed hal
  rw[e]at H hQ
  refine(hQ h w val a H (Nx.refl s' h w val rfl)).2 hlt _ fun a2 w2 hq=>aIj C'.size (fun i hi=>?_) hq fuel
  rw[hfl]
  split
  rfl
  exact hal i (by omega)
  obtain⟨d,Φ',hd,hΦ',hst,hts,hvs,hns,hlo⟩:=hall j oj (by rw[List.getElem?_take,if_pos hjn];simpa using hoj)
  --two that are not ordered
  have hun1:∀(i:Nat) (a:Dr),ds[i]? =some a->i<j->Ht (((ET ops.toList []).getD j 0).testBit i) a d=true:=by intro i a ha hij;obtain⟨m,hm,hpb⟩:=hp j d i a hd ha hij;simpa[List.getD,hm]using hpb
  have hun2:∀(i:Nat) (a:Dr),ds[i]? =some a->j<i->listed.getD i false=true->Ht false d a=true:=by
   intro i a ha hij hL;obtain⟨m,hm,hpb⟩:=hp i a j d ha hd hij;cases hb:m.testBit j with
   |false=>rwa [hb]at hpb
   |true=>
    have h1:=C.good i m j hm hb hL
    simp only at h1
    rw[hj0]at h1
    cases h1
  have hun3:∀(i:Nat) (a:Dr),ds[i]? =some a->i<j->listed.getD i false=false->Ht false a d=true:=by
   intro i a ha hij hL;obtain⟨m,hm,hpb⟩:=hp j d i a hd ha hij;cases hb:m.testBit i with
   |false=>rwa [hb]at hpb
   |true=>
    have:=C'.good j m i hm hb (by simp only[hfl,if_true])
    simp only[hfl]at this
    rw[if_neg (by omega),hL]at this
    cases this
  have hspec:∀{a b:Dr},Ht false a b=true->aLc a b=true/\N5 a.c b=true/\N5 b.c a=true/\KM a.c b.c=true/\KM b.c a.c=true/\aLc b a=true:=by intro a b h;simp only[Ht,Bool.false_or,ba]at h;exact⟨h.1,h.2.1.1.1.1,h.2.1.1.1.2,h.2.1.1.2,h.2.1.2,h.2.2⟩
  have hfp:FP d.ts (fun n=>AV n d.vs) (pre ds j s0) (sig (fun i=>listed.getD i false) 0 ds s0):=by
   rw[OO ds 0];refine aLi ds 0 (fun i a ha hne=>?_) (FP.refl _ _ _);simp only[Nat.zero_add]at hne;rcases Nat.lt_trichotomy i j with hij|hij|hij
   simp only[hij,decide_true]at hne;have hL:listed.getD i false=false:=by
    cases hh:listed.getD i false with
    |false=>rfl
    |true=>rw[hh]at hne;exact absurd rfl hne
   exact(hspec (hun3 i a ha hij hL)).2.1;subst hij;exfalso;apply hne;rw[hj0];simp;have:¬i<j:=by omega
   simp only[this,decide_false]at hne;have hL:listed.getD i false=true:=by
    cases hh:listed.getD i false with
    |true=>rfl
    |false=>rw[hh]at hne;exact absurd rfl hne
   exact(hspec (hun2 i a ha hij hL)).2.2.1
  rw[hts,hvs]at hfp
  have hfr:d.c.es.any EF=true->∀x,oj.dst=some x->fresh x (sig (fun i=>listed.getD i false) 0 ds s0)=true:=by
   intro hadd x hx;have hdst:d.c.dst=some x:=by
    have:d.c.dst=oj.dst:=by unfold Ld at hst;split at hst;split at hst;split at hst;simp only[oe,pe]at hst;rw[<-hst.2];split at hst;simp only[oe,pe]at hst;rw[<-hst.2];cases hst;simp only[oe,pe]at hst;rw[<-hst.2];cases hst;cases hst
    rw[this];exact hx
   have hnb:∀{a:Dr},aLc a d=true->a.c.free x=true:=by intro a h;simp only[aLc,hadd,Bool.not_true,Bool.false_or,hdst,ba]at h;exact h.1
   refine H7 ds 0 (fun i a ha hL=>?_) ((FV ds hnews j d hd).1 hadd x hdst);simp only[Nat.zero_add]at hL;rcases Nat.lt_trichotomy i j with hij|hij|hij
   have:=hun1 i a ha hij;simp only[Ht,ba]at this;exact hnb this.1;subst hij;rw[hj0]at hL;cases hL;exact hnb (hspec (hun2 i a ha hij hL)).2.2.2.2.2
  have hfn:∀x∈nns (wOf ws oj),fresh x (sig (fun i=>listed.getD i false) 0 ds s0)=true:=by
   intro x hx;rw[<-hns]at hx;have hnb:∀{a:Dr},aLc a d=true->a.c.free x=true:=by intro a h;simp only[aLc,ba]at h;exact A7 h.2 x hx
   refine H7 ds 0 (fun i a ha hL=>?_) ((FV ds hnews j d hd).2 x hx);simp only[Nat.zero_add]at hL;rcases Nat.lt_trichotomy i j with hij|hij|hij
   have:=hun1 i a ha hij;simp only[Ht,ba]at this;exact hnb this.1;subst hij;rw[hj0]at hL;cases hL;exact hnb (hspec (hun2 i a ha hij hL)).2.2.2.2.2
  have hst':=SQ hst hfp hlo hfn hfr
  have hins:sig (fun i=>(listed.setIfInBounds j true).getD i false) 0 ds s0=d.c.ap (sig (fun i=>listed.getD i false) 0 ds s0):=
   JV (fl:=fun i=>listed.getD i false) hfl hj0 ds 0 s0 (Nat.zero_le _) (by simpa using hd) fun i a ha hij hL=>by simp only[Nat.zero_add]at hij hL;exact(hspec (hun2 i a ha hij hL)).2.2.2.2.1
  refine aIy hst' hΦ' H hoj fun h' w' val' a' H' hn'=>?_
  rw[<-hins]at H' hn'
  refine ih (listed.setIfInBounds j true) a' w' h' val' C' (fun hlt=>by rw[hfl,if_neg (by omega)];exact hnl hlt) ?_ H' fun h2 w2 v2 a2 H2 hn2=>hQ h2 w2 v2 a2 H2 (hn'.trans hn2)
  have:=aTn (n:=ops.size) hfl hlt hj0
  omega

theorem Dj(m j:Nat):(Array.replicate m false).getD j false=false:=by
 rcases Nat.lt_or_ge j m with h|h
 simp[h];simp[h]
theorem Em(n:Nat):∀(ds:List Dr) (k:Nat) (s:St),sig (fun i=>(Array.replicate n false).getD i false) k ds s=s
 |[],_,_=>rfl
 |d::ds,k,s=>by
  simp only[sig,Dj,Bool.false_eq_true,if_false];have:=Em n ds (k+1) s;simpa only[Dj]using this
def aS0(T:List Nat)(n:Nat):Bool:=match T[n]? with
 |some m=>(List.range n).all fun i=>m.testBit i
 |none=>false
def Nm(P:Program)(ops:Array Oper)(draws:Bool)(ws:List (Nat×W))(s:St):Option (Ob×St):=
 if draws then match aKv P ops ws ops.toList s with
  |some (Φ,ds,s')=>if aIw ops s ds then some (Φ,s')else none
  |none=>match ops[ops.size-1]? with
   |none=>none
   |some o=>match aKv P ops ws (ops.toList.take (ops.size-1)) s with
    |none=>none
    |some (Φ,ds,s1)=>if aIw ops s ds&&aS0 (ET ops.toList []) (ops.size-1)then match aIn P ops ws s1 o with
     |some (Ψ,s2)=>some (Φ.and Ψ,s2)
     |none=>none
     else none
 else aIl P ops ws ops.toList s

theorem BI.drew(M:List Nat)(h:Hw)(w:World):BI M h w h {w with drawn:=w.drawn+1}:=
 ⟨rfl,rfl,rfl,Nat.le_refl _,fun _ _ _ _ hc=>hc,fun _ _=>Nat.le_refl _,fun _ _ _=>⟨rfl,rfl⟩⟩

theorem SB{rd:Option Nat}{P:Program}{id:Nat}{ops:Array Oper}{draws:Bool}{ws:List (Nat×W)}{s s':St}{L:Lp}{Φ:Ob}{Q:Exit->Act->World->Prop}(hm:P.follows .mixedOrders=true)
 (he:Nm P ops draws ws s=some (Φ,s')) (hΦ:Φ.ok P L) {h w val a} (H:Holds s h w val a)
 (hQ:∀h' w' val' a',Holds s' h' w' val' a'->Nx s h w val s' h' w' val'->Q .normal a' w'):(Code.region id ops draws).wpIn (fc rd) 0 P Q a w:=by
 unfold Nm at he
 cases draws with
 |true=>
  simp only[if_true]at he
  have hk:=BI.drew [] h w
  have hq:=H.quiet hk
  have hcl:EN ops (Array.replicate ops.size false):=⟨by simp,fun j o _ hl=>by rw[Dj]at hl;cases hl⟩
  have hun:((List.range ops.size).filter fun k=> !(Array.replicate ops.size false).getD k false).length<=ops.size:=Nat.le_trans (List.length_filter_le _ _) (by simp)
  split at he
  rename_i Φ' ds s1 hr
  split at he
  rename_i hB
  simp only[oe,pe]at he
  obtain⟨rfl,rfl⟩:=he
  have hr':aKv P ops ws (ops.toList.take ops.size) s=some (Φ',ds,s1):=by rw[List.take_of_length_le (by simp)];exact hr
  refine wpIn_region_any hm (aAl (Nat.le_refl _) (by omega) (fun h=>absurd h (Nat.lt_irrefl _)) hr' hΦ hB _ _ _ _ h val hcl (fun h=>absurd h (Nat.lt_irrefl _)) hun ?_ ?_)
  rw[Em];exact hq
  intro h' w' val' a' H' hn
  rw[Em]at hn
  exact⟨fun _=>hQ h' w' val' a' H' (Nx.trans ⟨BI.drew _ h w,fun _ _=>rfl,fun b hb=>.inl hb⟩ hn),fun h=>absurd h (Nat.lt_irrefl _)⟩
  cases he
  split at he
  cases he
  rename_i o ho
  split at he
  cases he
  rename_i Φ' ds s1 hr
  split at he
  rename_i hB
  split at he
  rename_i Ψ s2 ha
  simp only[oe,pe]at he
  obtain⟨rfl,rfl⟩:=he
  obtain⟨hΦ1,hΨ⟩:=Ob.and_ok hΦ
  simp only[ba]at hB
  have hlt:=(Array.getElem?_eq_some_iff.1 ho).1
  have hmask:ops.size-1<ops.size->∃m:Nat,(ET ops.toList [])[ops.size-1]? =some m/\∀i,i<ops.size-1->m.testBit i=true:=fun _=>by have h2:=hB.2;unfold aS0 at h2;split at h2;rename_i m hm;exact⟨m,hm,fun i hi=>List.all_eq_true.1 h2 i (List.mem_range.2 hi)⟩;cases h2
  refine wpIn_region_any hm (aAl (by omega) (by omega) hmask hr hΦ1 hB.1 _ _ _ _ h val hcl (fun _=>Dj _ _) hun ?_ ?_)
  rw[Em];exact hq
  intro h' w' val' a' H' hn
  rw[Em]at hn
  refine⟨fun h=>absurd h (by omega),fun _ K hK=>KI ha hΨ H' ho fun h2 w2 v2 a2 H2 hn2=>hK _ _ ?_⟩
  exact hQ h2 w2 v2 a2 H2 (Nx.trans ⟨BI.drew _ h w,fun _ _=>rfl,fun b hb=>.inl hb⟩ (hn.trans hn2))
  cases he
  cases he
 |false=>
  simp only[Bool.false_eq_true,if_false]at he
  refine wpIn_region ?_
  have:=KH (rd:=rd) (Q:=Q) ops.toList 0 s s' Φ (fun j=>by simp) he hΦ h w val a H hQ
  simpa[List.range_eq_range']using this
end Go.Ac
namespace Go.Ac

def AC(P:Program)(rd:Option Nat)(c:Code)(s:St)(Ψ:Ex->St->Prop):Prop:=
 ∀h w val a,Holds s h w val a->∀Q:Exit->Act->World->Prop,
  (∀e s' h' w' val' a',Ψ e s'->Holds s' h' w' val' a'->Nx s h w val s' h' w' val'->Q e.toExit a' w')->c.wpIn (fc rd) 0 P Q a w

def LV:Code->Nat->Code
 | .seq a _,0=>a
 | .seq _ b,_=>b
 | .cond _ a _,0=>a
 | .cond _ _ b,_=>b
 | .block _ b,_=>b
 | .loop b,_=>b
 | .scope b,_=>b
 | .rangeFunc _ _ a _,0=>a
 | .rangeFunc _ _ _ b,_=>b
 |_,_=>.skip
def Av(root:Code):List Nat->Code
 |[]=>root
 |i::p=>LV (Av root p) i

def Wk(s s':St):Prop:=∀h w val a,Holds s h w val a->∃h' val',Holds s' h' w val' a/\Nx s h w val s' h' w val'
theorem Wk.refl(s:St):Wk s s:=fun h w val _ H=>⟨h,val,H,Nx.refl s h w val rfl⟩
theorem Wk.trans{s s1 s2:St}(a:Wk s s1)(b:Wk s1 s2):Wk s s2:=fun h w val x H=>
 let ⟨h1,v1,H1,n1⟩:=a h w val x H
 let ⟨h2,v2,H2,n2⟩:=b h1 w v1 x H1
 ⟨h2,v2,H2,n1.trans n2⟩
theorem AC.wk{P:Program}{rd:Option Nat}{c:Code}{s s':St}{Ψ:Ex->St->Prop}(hw:Wk s s')(h:AC P rd c s' Ψ):AC P rd c s Ψ:=by intro h' w val a H Q hQ;obtain⟨h1,v1,H1,n1⟩:=hw h' w val a H;exact h h1 w v1 a H1 Q fun e s2 h2 w2 v2 a2 hΨ H2 n2=>hQ e s2 h2 w2 v2 a2 hΨ H2 (n1.trans n2)
theorem AC.post{P:Program}{rd:Option Nat}{c:Code}{s:St}{Ψ Ψ':Ex->St->Prop}(h:AC P rd c s Ψ)(hp:∀e s1,Ψ e s1->∃s2,Wk s1 s2/\Ψ' e s2):AC P rd c s Ψ':=by intro h' w val a H Q hQ;refine h h' w val a H Q fun e s1 h1 w1 v1 a1 hΨ H1 n1=>?_;obtain⟨s2,hw,hΨ'⟩:=hp e s1 hΨ;obtain⟨h2,v2,H2,n2⟩:=hw _ _ _ _ H1;exact hQ e s2 h2 w1 v2 a1 hΨ' H2 (n1.trans n2)

theorem AC.seq{P:Program}{rd:Option Nat}{x y:Code}{s:St}{Ψ:Ex->St->Prop}(h:AC P rd x s fun e s1=>match e with| .normal=>AC P rd y s1 Ψ|e=>Ψ e s1):AC P rd (.seq x y) s Ψ:=by
 intro h' w val a H Q hQ;refine wpIn_seq (h h' w val a H _ fun e s1 h1 w1 v1 a1 hΨ H1 n1=>?_);cases e with
 |normal=>exact hΨ h1 w1 v1 a1 H1 Q fun e s2 h2 w2 v2 a2 hΨ2 H2 n2=>hQ e s2 h2 w2 v2 a2 hΨ2 H2 (n1.trans n2)
 |exit id=>exact hQ _ s1 h1 w1 v1 a1 hΨ H1 n1
 |ret=>exact hQ _ s1 h1 w1 v1 a1 hΨ H1 n1
theorem AC.cond{P:Program}{rd:Option Nat}{c:Operand}{x y:Code}{s:St}{b:Bool}{Ψ:Ex->St->Prop}(hc:s.ev c=bo b)(h:AC P rd (if b then x else y) s Ψ):AC P rd (.cond c x y) s Ψ:=by intro h' w val a H Q hQ;have:=H.ev c;rw[hc]at this;simp only[bo,RA,RD]at this;exact wpIn_cond this.1 (h h' w val a H Q hQ)
theorem AC.block{P:Program}{rd:Option Nat}{id:Nat}{c:Code}{s:St}{Ψ:Ex->St->Prop}(h:AC P rd c s fun e s1=>match e with| .exit j=>if j=id then Ψ .normal s1 else Ψ (.exit j) s1|e=>Ψ e s1):AC P rd (.block id c) s Ψ:=by
 intro h' w val a H Q hQ;refine wpIn_block (h h' w val a H _ fun e s1 h1 w1 v1 a1 hΨ H1 n1=>?_);cases e with
 |normal=>exact hQ _ s1 h1 w1 v1 a1 hΨ H1 n1
 |exit j=>
  simp only[Ex.toExit,Exit.inBlock]
  simp only at hΨ
  split at hΨ
  rename_i hj;rw[if_pos hj];exact hQ .normal s1 h1 w1 v1 a1 hΨ H1 n1
  rename_i hj;rw[if_neg hj];exact hQ (.exit j) s1 h1 w1 v1 a1 hΨ H1 n1
 |ret=>exact hQ _ s1 h1 w1 v1 a1 hΨ H1 n1

section
variable {P:Program} {b:Frame} {a:Act} {k:List Item} {cs:List Frame} {w:World}
theorem B9{c:Code}:step P (lone (b.atR a (.code (.scope c)::k)) cs w)=.next (lone (b.atR a (.code c:: .inScope c::k)) cs w):=
 step_lone_go (by simp[stepG,stepG.exec,Frame.atR])
theorem Ib{c:Code}:step P (lone (b.atR a (.inScope c::k)) cs w)=.next (lone (b.atR a k) cs w):=
 step_lone_go (by simp[stepG,stepG.exec,Frame.atR])
end
theorem Sy{F:Fence}{n:Nat}{P:Program}{c:Code}{Q:Exit->Act->World->Prop}{a:Act}{w:World}
 (h:c.wpIn F n P (fun e a w=>match e with| .goto _=>False|e=>Q e a w) a w):(Code.scope c).wpIn F n P Q a w:=by
 intro b k cs hro hb hr
 have h0:(lone (b.atR a (.code (.scope c)::k)) cs w).fenced P F:=fenced_calm hb hr rfl
 obtain⟨e,a₁,w₁,hq,harr⟩:=h b (.inScope c::k) cs hro hb hr
 cases e with
 |normal=>exact⟨.normal,a₁,w₁,hq,.head h0 B9 (StepsIn.trans harr (.one (fenced_calm hb hr rfl) Ib))⟩
 |exit id'=>
  have hx:exitTo id' (.inScope c::k)=exitTo id' k:=by simp[exitTo]
  exact⟨.exit id',a₁,w₁,hq,fun k' hk=>.head h0 B9 (harr.1 k' (by rw[hx];exact hk)),
   fun hr' hk=>let ⟨k₁,h1,h2⟩:=harr.2 hr' (by rw[hx];exact hk);⟨k₁,h1,.head h0 B9 h2⟩⟩
 |goto l=>exact hq.elim
 |ret=>exact⟨_,a₁,w₁,hq,.of_steps (.one h0 B9) harr⟩
 |panic ch=>exact⟨_,a₁,w₁,hq,.of_steps (.one h0 B9) harr⟩
 |outgrown=>exact⟨_,a₁,w₁,hq,.of_steps (.one h0 B9) harr⟩
theorem AC.scope{P:Program}{rd:Option Nat}{c:Code}{s:St}{Ψ:Ex->St->Prop}(h:AC P rd c s Ψ):AC P rd (.scope c) s Ψ:=by
 intro h' w val a H Q hQ;refine Sy (h h' w val a H _ fun e s1 h1 w1 v1 a1 hΨ H1 n1=>?_);cases e with
 |normal=>exact hQ .normal s1 h1 w1 v1 a1 hΨ H1 n1
 |exit j=>exact hQ (.exit j) s1 h1 w1 v1 a1 hΨ H1 n1
 |ret=>exact hQ .ret s1 h1 w1 v1 a1 hΨ H1 n1

theorem Fw{F:Fence}{rm:Nat}{P:Program}{Q:Exit->Act->World->Prop}{a:Act}{w:World}{c:Code}(I:Nat->Act->World->Prop)(n₀:Nat)(h₀:I n₀ a w)
 (round:∀n a w,I n a w->c.wpIn F rm P (Exit.then (fun a' w'=>∃n',n'<n/\I n' a' w') Q) a w):(Code.loop c).wpIn F rm P Q a w:=by
 refine wpIn_loop (fun a w=>∃n,I n a w) (fun a w=>leastOf (fun n=>I n a w)) ⟨n₀,h₀⟩ ?_
 intro a w hI
 refine wpIn_mono (round _ a w (leastOf_spec hI).1) ?_
 intro e a' w' hq
 cases e with
 |normal=>
  obtain⟨n',hlt,hI'⟩:=hq
  exact show(∃n,I n a' w')/\leastOf (fun n=>I n a' w')<leastOf (fun n=>I n a w)from⟨⟨n',hI'⟩,Nat.lt_of_le_of_lt ((leastOf_spec ⟨n',hI'⟩).2 n' hI') hlt⟩
 |exit id=>exact hq
 |goto l=>exact hq
 |ret=>exact hq
 |panic ch=>exact hq
 |outgrown=>exact hq

theorem AC.loop{P:Program}{rd:Option Nat}{c:Code}{ι:Type}(I:ι->St)(μ:ι->Nat)(Ψ:ι->Ex->St->Prop)
 (hr:∀i,AC P rd c (I i) fun e s1=>match e with| .normal=>∃j,μ j<μ i/\Wk s1 (I j)/\(∀e s,Ψ j e s->Ψ i e s)|e=>Ψ i e s1) (i:ι):AC P rd (.loop c) (I i) (Ψ i):=by
 intro h w val a H Q hQ
 refine Fw (fun n a' w'=>∃j h' val',μ j=n/\Holds (I j) h' w' val' a'/\Nx (I i) h w val (I j) h' w' val'/\(∀e s,Ψ j e s->Ψ i e s)) (μ i) ⟨i,h,val,rfl,H,Nx.refl _ h w val rfl,fun _ _ x=>x⟩ ?_
 rintro n a' w' ⟨j,h',val',rfl,H',n',hj⟩
 refine hr j h' w' val' a' H' _ fun e s1 h1 w1 v1 a1 hΨ H1 n1=>?_
 cases e with
 |normal=>
  obtain⟨k,hlt,hw,hk⟩:=hΨ
  obtain⟨h2,v2,H2,n2⟩:=hw _ _ _ _ H1
  exact⟨μ k,hlt,k,h2,v2,rfl,H2,(n'.trans n1).trans n2,fun e s x=>hj e s (hk e s x)⟩
 |exit id=>exact hQ _ s1 h1 w1 v1 a1 (hj _ _ hΨ) H1 (n'.trans n1)
 |ret=>exact hQ _ s1 h1 w1 v1 a1 (hj _ _ hΨ) H1 (n'.trans n1)

def OG(live:Nat->Bool):Nat->List A->List A
 |_,[]=> []
 |i,a::l=>(if live i then a else .any)::OG live (i+1) l
theorem RC{h w val}(live:Nat->Bool):∀(l:List A) (i:Nat) (us:List Value),RAs h w val l us->RAs h w val (OG live i l) us
 |[],_,us,hr=>by simpa[OG,RAs]using hr
 |a::l,i,us,hr=>by
  simp only[RAs]at hr;obtain⟨u,us',e,h1,h2⟩:=hr;simp only[OG,RAs];refine⟨u,us',e,?_,RC live l (i+1) us' h2⟩;split;exact h1;simp[RA]
theorem Wk.mask(live:Nat->Bool)(s:St):Wk s {s with E:=OG live 0 s.E}:=fun h w val _ H=>
 ⟨h,val,⟨RC live _ 0 _ H.e,H.inv,H.far,H.defs⟩,Nx.refl s h w val rfl⟩

theorem Inv.sub{h w val}{B B':Bx}(hs:B'.Sublist B)(I:Inv h w val B):Inv h w val B':=
 ⟨fun p hp=>I.rep p (hs.subset hp),(hs.map _).nodup I.nms,(QB hs).nodup I.bks,(by first|exact H.inv.glob.stays hk.stays|exact H.inv.glob|exact I.glob|exact I.glob.stays k.stays|exact H.inv.glob.stays k.stays|exact hI.glob|exact hInv.glob|exact hI0.glob|exact hIX.glob|exact H'.inv.glob|exact hI.glob.stays hk.stays|exact H1.inv.glob|exact hIR.glob|exact H.glob|exact hI.glob.stays k.stays|exact H.inv.glob.stays n.keep.stays|exact hI.glob.stays n.keep.stays|exact h.inv.glob|exact H2.inv.glob|exact hI'.glob)⟩
theorem Wk.drop(p:Nat×Bk->Bool)(s:St):Wk s {s with B:=s.B.filter p}:=fun h w val _ H=>by have hs:(s.B.filter p++s.F).Sublist s.all:=List.Sublist.append List.filter_sublist (List.Sublist.refl _);exact⟨h,val,⟨H.e,H.inv.sub hs,H.far,H.defs⟩,⟨BI.refl _ _ _,fun _ _=>rfl,fun b hb=>.inl ((QB hs).subset hb)⟩⟩
end Go.Ac
namespace Go.Ac

mutual
def A.ren(n m:Nat):A->A
 | .box k off=>.box (if k=n then m else k) off
 | .bsl k off l=>.bsl (if k=n then m else k) off l
 | .ep q k i off=>.ep (if q=n then m else q) k i off
 | .row k=>.row (if k=n then m else k)
 | .clo f fs cs=>.clo f (S2 n m fs) (S2 n m cs)
 | .agg cs=>.agg (S2 n m cs)
 | .tup vs=>.tup (S2 n m vs)
 |a=>a
def S2(n m:Nat):List A->List A
 |[]=> []
 |a::as'=>a.ren n m::S2 n m as'
end
def Bk.ren(n m:Nat):Bk->Bk
 | .cells cs=>.cells (S2 n m cs)
 | .vals as' us=>.vals (S2 n m as') us
 | .mit k clk seen=>.mit (if k=n then m else k) clk seen
 | .mapR g clk ks outs=>.mapR (if g=n then m else g) clk ks (outs.map fun x=>(x.1,if x.2=n then m else x.2))
 |b=>b
mutual
theorem RA.ren{h w}{val:Val}{n m:Nat}(hm:m<up):∀(a:A) (u:Value),a.has m=false->RA h w val a u->RA h w (An val m (val n)) (a.ren n m) u
 | .d x,u,_,hr=>by simpa only[RA,A.ren]using hr
 | .box k off,u,hn,hr=>by
  simp[A.has]at hn;simp only[RA,A.ren]at hr⊢;obtain⟨b,e1,e2⟩:=hr;refine⟨b,?_,e2⟩;split;rename_i hk;subst hk;simpa[An]using e1;simpa[An,hn]using e1
 | .bsl k off l,u,hn,hr=>by
  simp[A.has]at hn;simp only[RA,A.ren]at hr⊢;obtain⟨b,c,e1,e2⟩:=hr;refine⟨b,c,?_,e2⟩;split;rename_i hk;subst hk;simpa[An]using e1;simpa[An,hn]using e1
 | .ep q k i off,u,hn,hr=>by
  simp[A.has]at hn;simp only[RA,A.ren]at hr⊢;obtain⟨b,e1,e2⟩:=hr;refine⟨b,?_,e2⟩;split;rename_i hk;subst hk;simpa[An]using e1;simpa[An,hn]using e1
 | .row k,u,hn,hr=>by
  simp[A.has]at hn;simp only[RA,A.ren]at hr⊢;refine⟨?_,hr.2⟩;rw[hr.1];split;rename_i hk;subst hk;simp[An];simp[An,hn]
 | .eptr cs,u,_,hr=>by simpa only[RA,A.ren]using hr
 | .clo f first cap,u,hn,hr=>by
  simp only[A.has,Bool.or_eq_false_iff]at hn;simp only[RA,A.ren]at hr⊢;obtain⟨fs,cs,e,h1,h2⟩:=hr;exact⟨fs,cs,e,RAs.ren hm first fs hn.1 h1,RAs.ren hm cap cs hn.2 h2⟩
 | .agg cs,u,hn,hr=>by
  simp only[A.has]at hn;simp only[RA,A.ren]at hr⊢;obtain⟨us,e,h1,h2⟩:=hr;exact⟨us,e,RAs.ren hm cs us hn h1,h2⟩
 | .tup cs,u,hn,hr=>by
  simp only[A.has]at hn;simp only[RA,A.ren]at hr⊢;obtain⟨us,e,h1⟩:=hr;exact⟨us,e,RAs.ren hm cs us hn h1⟩
 | .opq a,u,_,hr=>by
  simp only[RA,A.ren]at hr⊢;have:(fun k=>An val m (val n) (k+up))=fun k=>val (k+up):=by
   funext k;have:¬k+up=m:=by omega
   simp[An,this]
  rw[this];exact hr
 | .nil,u,_,hr=>by simpa only[RA,A.ren]using hr
 | .ub,u,_,hr=>by simpa only[RA,A.ren]using hr
 | .any,u,_,hr=>by simp[RA,A.ren]
theorem RAs.ren{h w}{val:Val}{n m:Nat}(hm:m<up):∀(as':List A) (us:List Value),AV m as'=false->RAs h w val as' us->RAs h w (An val m (val n)) (S2 n m as') us
 |[],us,_,hr=>by simpa[RAs,S2]using hr
 |a::as',us,hn,hr=>by
  simp only[AV,Bool.or_eq_false_iff]at hn;simp only[RAs,S2]at hr⊢;obtain⟨u,us',e,h1,h2⟩:=hr;exact⟨u,us',e,RA.ren hm a u hn.1 h1,RAs.ren hm as' us' hn.2 h2⟩
end
def Md(n m:Nat)(p:Nat×Bk):Nat×Bk:=(if p.1=n then m else p.1,p.2.ren n m)
theorem Wk.ren{n m:Nat}{s:St}(hm:m<up)(hE:AV m s.E=false)(hB:BW m s.B=false):Wk s {s with E:=S2 n m s.E,B:=s.B.map (Md n m)}:=by
 intro h w val a H;have hap:∀p∈s.all,p.1≠m/\p.2.has m=false:=fun p hp=>by
  rcases ma.1 hp with hp|hp
  exact BP hB p hp;exact H.far m (.inl hm) p hp
 have hv:∀k,k≠m->An val m (val n) k=val k:=fun k hk=>by simp[An,hk]
 have hval:∀p:Nat×Bk,p.1≠m->An val m (val n) (Md n m p).1=val p.1:=fun p hp=>by simp only[Md];split;rename_i e;simp[An,e];exact hv _ hp
 have hold:∀b:Bk,(b.ren n m).isOld=b.isOld:=fun b=>by cases b<;>rfl
 have hblk:∀p:Nat×Bk,p.1≠m->CW (An val m (val n)) (Md n m p)=CW val p:=fun p hp=>by have h1:=hval p hp;have h2:(Md n m p).2.isOld=p.2.isOld:=hold p.2;obtain⟨k,b⟩:=p;unfold CW BE;rw[h1,h2];cases b<;>rfl
 have hblB:Aa (An val m (val n)) (s.B.map (Md n m))=Aa val s.B:=by
  have:∀(l:Bx),(∀p∈l,p.1≠m)->Aa (An val m (val n)) (l.map (Md n m))=Aa val l:=by
   intro l;induction l with
   |nil=>intro _;rfl
   |cons p l ih=>
    intro hl
    rw[List.map_cons,Aj,Aj,hblk p (hl p (by simp)),ih fun q hq=>hl q (by simp[hq])]
  exact this s.B fun p hp=>(hap p (ml_ _ hp)).1
 have hblF:Aa (An val m (val n)) s.F=Aa val s.F:=BZ fun k hk=>by obtain⟨p,hp,rfl⟩:=mm.1 hk;exact hv _ (hap p (mr_ _ hp)).1
 have hbl:Aa (An val m (val n)) (s.B.map (Md n m)++s.F)=Aa val s.all:=by rw[AJ,hblB,hblF,<-AJ];rfl
 refine⟨h,An val m (val n),⟨RAs.ren hm _ _ hE H.e,⟨?_,?_,?_,(by first|exact H.inv.glob.stays hk.stays|exact H.inv.glob|exact I.glob|exact I.glob.stays k.stays|exact H.inv.glob.stays k.stays|exact hI.glob|exact hInv.glob|exact hI0.glob|exact hIX.glob|exact H'.inv.glob|exact hI.glob.stays hk.stays|exact H1.inv.glob|exact hIR.glob|exact H.glob|exact hI.glob.stays k.stays|exact H.inv.glob.stays n.keep.stays|exact hI.glob.stays n.keep.stays|exact h.inv.glob|exact H2.inv.glob|exact hI'.glob)⟩,H.far,H.defs.val (hv _ (by have:m<up:=hm;simp only[up]at this;simp only[bn];omega))⟩,⟨BI.refl _ _ _,fun k hk=>hv k (by have:=Ic hk;omega),fun b hb=>.inl (by have hb':b∈Aa (An val m (val n)) (s.B.map (Md n m)++s.F):=hb;rwa [hbl]at hb')⟩⟩
 intro p hp;rcases ma.1 hp with hp|hp
 obtain⟨q,hq,rfl⟩:=mm.1 hp;have hrb:=H.inv.rep q (ml_ _ hq);obtain⟨h1,h2⟩:=hap q (ml_ _ hq);have hvq:=hval q h1;obtain⟨qn,qb⟩:=q;simp only[Md]at hvq⊢;cases qb with
 |cells cs=>
  simp only[Bk.ren,RB]at hrb⊢
  obtain⟨b,us,t,e1,e2,e3,e4,e5⟩:=hrb
  exact⟨b,us,t,by rw[hvq];exact e1,e2,RAs.ren hm _ _ (by simpa[Bk.has]using h2) e3,e4,e5⟩
 |rows e xss=>
  simp only[Bk.ren,RB]at hrb⊢
  rw[hvq];exact hrb
 |mapR g clk ks outs=>
  simp only[Bk.ren,RB]at hrb⊢
  rw[hvq]
  obtain⟨b,l,us,e1,hg,hu,hk,r1,r2,r3,r4,ho⟩:=hrb
  simp only[Bk.has,Bool.or_eq_false_iff,beq_eq_false_iff_ne,List.any_eq_false,beq_iff_eq]at h2
  have hone:∀k,k≠m->An val m (val n) (if k=n then m else k)=val k:=fun k hk=>by split;rename_i e;rw[e];simp[An];exact hv k hk
  exact⟨b,l,us,e1,hg,(hone g h2.1).trans hu,RKs.map (ρ:=fun k=>if k=n then m else k) (fun x hx=>hone _ (h2.2 x hx)) _ _ _ hk,r1,r2,r3,r4,fun y hy=>by obtain⟨x,hx,rfl⟩:=mm.1 hy;simp only;rw[hone _ (h2.2 x hx)];exact ho x hx⟩
 |row e k xs=>
  simp only[Bk.ren,RB]at hrb⊢
  rw[hvq];exact hrb
 |rw e k xs=>
  simp only[Bk.ren,RB]at hrb⊢
  rw[hvq];exact hrb
 |dead=>trivial
 |old xs=>
  simp only[Bk.ren,RB]at hrb⊢
  rw[hvq];exact hrb
 |fz cs=>
  simp only[Bk.ren,RB]at hrb⊢
  rw[hvq];exact hrb
 |buf sl e k xs=>
  simp only[Bk.ren,RB]at hrb⊢
  rw[hvq];exact hrb
 |vals as' us=>
  simp only[Bk.ren,RB]at hrb⊢
  exact RAs.ren hm _ _ (by simpa[Bk.has]using h2) hrb
 |obj g o=>
  simp only[Bk.ren,RB]at hrb⊢
  rw[hvq];exact hrb
 |map clk es=>
  simp only[Bk.ren,RB]at hrb⊢
  rw[hvq];exact hrb
 |mapS es=>
  simp only[Bk.ren,RB]at hrb⊢
  rw[hvq];exact hrb
 |bag e k xs=>
  simp only[Bk.ren,RB]at hrb⊢
  rw[hvq];exact hrb
 |mit k clk seen=>
  simp only[Bk.ren,RB]at hrb⊢
  rw[hvq]
  obtain⟨r,b,e1,e2,e3⟩:=hrb
  have hk:k≠m:=by simpa[Bk.has]using h2
  refine⟨r,b,e1,?_,e3⟩
  split
  rename_i hkn;subst hkn;simpa[An]using e2
  rw[hv k hk];exact e2
 obtain⟨h1,h2⟩:=hap p (mr_ _ hp);exact RB.upd hv h1 h2 (H.inv.rep p (mr_ _ hp));have hn:=H.inv.nms;have hnd:∀l:Bx,(∀p∈l,p.1≠m)->(AK l).Nodup->(AK (l.map (Md n m))).Nodup:=by
  intro l;induction l with
  |nil=>intro _ _;exact List.nodup_nil
  |cons p l ih=>
   intro hl hd
   simp only[AK,List.map_cons,List.nodup_cons]at hd⊢
   refine⟨fun hm'=>?_,ih (fun q hq=>hl q (by simp[hq])) hd.2⟩
   simp only[List.map_map,mm,Function.comp_apply]at hm'
   obtain⟨q,hq,he⟩:=hm'
   apply hd.1
   simp only[mm]
   refine⟨q,hq,?_⟩
   have hq1:=hl q (by simp[hq])
   have hp1:=hl p (by simp)
   simp only[Md]at he
   split at he<;>split at he
   rename_i a1 a2;rw[a1,a2]
   exact absurd he.symm hp1
   exact absurd he hq1
   exact he
 show(AK (s.B.map (Md n m)++s.F)).Nodup;have hn':(AK (s.B++s.F)).Nodup:=hn;rw[AI,List.nodup_append]at hn'⊢;refine⟨hnd s.B (fun p hp=>(hap p (ml_ _ hp)).1) hn'.1,hn'.2.1,fun x hx y hy=>?_⟩;simp only[AK,List.map_map,mm,Function.comp_apply]at hx;obtain⟨q,hq,rfl⟩:=hx;simp only[Md];split;intro e;obtain⟨p,hp,rfl⟩:=mm.1 hy;exact(hap p (mr_ _ hp)).1 e.symm;exact hn'.2.2 _ (mm.2 ⟨q,hq,rfl⟩) y hy;show(Aa (An val m (val n)) (s.B.map (Md n m)++s.F)).Nodup;rw[hbl];exact H.inv.bks

theorem Wk.nil{t n:Nat}{e:TypeId}{k:Nat}{s:St}(hf:fresh n s=true)(ht:s.E[t]? =some .nil):Wk s {s with E:=s.E.set t (.row n),B:=Cq n (.row e k []) s.B}:=by
 intro h w val a H;obtain⟨f1,f2,f3⟩:=Bb hf;have hrb:RB h w (An val n (.slice none 0 0)) n (.row e k []):=by
  refine⟨[],?_,by simp[Ah],fun g hg=>?_⟩;have:An val n (.slice none 0 0) n=.slice none 0 0:=by simp[An]
  rw[this];exact World.ownsRow_nil w 0 e k;have:An val n (.slice none 0 0) n=.slice none 0 0:=by simp[An]
  rw[this]at hg;simp[Value.ownBlock]at hg
 obtain⟨h1,h2⟩:=H.add f1 f2 f3 (BI.refl [] h w) (fun b _=>by simp) (fun _ hm=>by cases hm) (.slice none 0 0) (.row e k []) (fun b hb=>by simp[vblk]at hb) rfl hrb;refine⟨h,An val n (.slice none 0 0),?_,?_⟩;have h3:=(Holds.ins (E:=s.E) (B:=s.B) (F:=s.F) h1);refine⟨?_,h3.inv,h3.far,h3.defs⟩;obtain⟨u,hu,hr⟩:=RAs.get H.e t _ ht;simp only[RA]at hr;subst hr;have:=h3.e.set t (a:=.row n) (u:=.slice none 0 0) (by simp only[RA];exact⟨by simp[An],hnd.sl _ _ _⟩);have he:a.tmps.toList.set t (.slice none 0 0)=a.tmps.toList:=by apply List.ext_getElem?;intro i;rw[List.getElem?_set];split;rename_i hi;subst hi;have hlt:=(List.getElem?_eq_some_iff.1 hu).1;rw[if_pos hlt,hu];rfl
 rw[he]at this;exact this;refine⟨BI.refl _ _ _,fun m hm=>?_,fun b hb=>.inl ?_⟩;have:m≠n:=Nat.ne_of_gt (Nat.lt_of_lt_of_le f1 (Ic hm));simp[An,this];have hp:(Cq n (.row e k []) s.B++s.F).Perm ((n,.row e k [])::s.all):=(Bp n _ s.B).append_right _;have hb':b∈Aa (An val n (.slice none 0 0)) ((n,.row e k [])::s.all):=((List.Perm.flatMap_right (CW (An val n (.slice none 0 0))) hp).mem_iff).1 hb;rw[h2]at hb';simpa[vblk]using hb'

theorem Wk.look{t:Nat}{s:St}{x:A}(ht:s.E[t]? =some x):Wk s {s with E:=s.E.set t (s.look x)}:=by
 intro h w val a H;refine⟨h,val,⟨?_,H.inv,H.far,H.defs⟩,Nx.refl s h w val rfl⟩;obtain⟨u,hu,hr⟩:=RAs.get H.e t _ ht;have:=H.e.set t (H.look hr);have he:a.tmps.toList.set t u=a.tmps.toList:=by apply List.ext_getElem?;intro i;rw[List.getElem?_set];split;rename_i hi;subst hi;have hlt:=(List.getElem?_eq_some_iff.1 hu).1;rw[if_pos hlt,hu];rfl
 rw[he]at this;exact this

theorem Wk.redesc{s:St}{n:Nat}{b b':Bk}(hl:lk s.B n=some b)(ho:b'.kd=b.kd)(hr:∀h w val a,Holds s h w val a->RB h w val n b->RB h w val n b'):Wk s {s with B:=BG s.B n b'}:=by
 intro h w val a H;have hmem:(n,b)∈s.all:=ml_ _ (Ag hl);have hsame:∀b2,(n,b2)∈s.B->b2.kd=b'.kd:=fun b2 hb2=>by rw[BB H.inv.nms (ml_ _ hb2) hmem,ho]
 refine⟨h,val,⟨H.e,⟨fun p hp=>?_,?_,?_,(by first|exact H.inv.glob.stays hk.stays|exact H.inv.glob|exact I.glob|exact I.glob.stays k.stays|exact H.inv.glob.stays k.stays|exact hI.glob|exact hInv.glob|exact hI0.glob|exact hIX.glob|exact H'.inv.glob|exact hI.glob.stays hk.stays|exact H1.inv.glob|exact hIR.glob|exact H.glob|exact hI.glob.stays k.stays|exact H.inv.glob.stays n.keep.stays|exact hI.glob.stays n.keep.stays|exact h.inv.glob|exact H2.inv.glob|exact hI'.glob)⟩,H.far,H.defs⟩,⟨BI.refl _ _ _,fun _ _=>rfl,fun b hb=>.inl ?_⟩⟩
 rcases ma.1 hp with hp|hp
 rcases BY hp with rfl|⟨hp,hne⟩
 exact hr h w val a H (H.inv.rep _ hmem);exact H.inv.rep p (ml_ _ hp);exact H.inv.rep p (mr_ _ hp);have:=H.inv.nms;simpa only[St.all,AI,BD]using this;have:=H.inv.bks;simpa only[St.all,AJ,A6 hsame]using this;simpa only[St.all,AJ,A6 hsame]using hb
theorem Wk.empty{n:Nat}{e:TypeId}{k:Nat}{s:St}(hf:fresh n s=true){h:Hw}{w:World}{val:Val}{a:Act}(H:Holds s h w val a):
 Holds {s with B:=Cq n (.rw e k []) s.B} h w (An val n (.slice none 0 0)) a/\Nx s h w val {s with B:=Cq n (.rw e k []) s.B} h w (An val n (.slice none 0 0)):=by
 obtain⟨f1,f2,f3⟩:=Bb hf
 have hv:An val n (.slice none 0 0) n=.slice none 0 0:=by simp[An]
 have hrb:RB h w (An val n (.slice none 0 0)) n (.rw e k []):=by refine⟨[],?_,by simp[Ah],fun g hg=>?_⟩;rw[hv];exact World.ownsRow_nil w 0 e k;rw[hv]at hg;simp[Value.ownBlock]at hg
 obtain⟨h1,h2⟩:=H.add f1 f2 f3 (BI.refl [] h w) (fun b _=>by simp) (fun _ hm=>by cases hm) (.slice none 0 0) (.rw e k []) (fun b hb=>by simp[vblk]at hb) rfl hrb
 refine⟨Holds.ins (E:=s.E) (B:=s.B) (F:=s.F) h1,⟨BI.refl _ _ _,fun m hm=>?_,fun b hb=>.inl ?_⟩⟩
 have:m≠n:=Nat.ne_of_gt (Nat.lt_of_lt_of_le f1 (Ic hm))
 simp[An,this]
 have hp:(Cq n (.rw e k []) s.B++s.F).Perm ((n,.rw e k [])::s.all):=(Bp n _ s.B).append_right _
 have hb':b∈Aa (An val n (.slice none 0 0)) ((n,.rw e k [])::s.all):=((List.Perm.flatMap_right (CW (An val n (.slice none 0 0))) hp).mem_iff).1 hb
 rw[h2]at hb'
 simpa[vblk]using hb'
theorem Wk.nilw{t n:Nat}{e:TypeId}{k:Nat}{s:St}(hf:fresh n s=true)(ht:s.E[t]? =some .nil):Wk s {s with E:=s.E.set t (.row n),B:=Cq n (.rw e k []) s.B}:=by
 intro h w val a H;obtain⟨h3,h4⟩:=Wk.empty (e:=e) (k:=k) hf H;refine⟨h,An val n (.slice none 0 0),⟨?_,h3.inv,h3.far,h3.defs⟩,⟨h4.keep,h4.vals,h4.new⟩⟩;obtain⟨u,hu,hr⟩:=RAs.get H.e t _ ht;simp only[RA]at hr;subst hr;have:=h3.e.set t (a:=.row n) (u:=.slice none 0 0) (by simp only[RA];exact⟨by simp[An],hnd.sl _ _ _⟩);have he:a.tmps.toList.set t (.slice none 0 0)=a.tmps.toList:=by apply List.ext_getElem?;intro i;rw[List.getElem?_set];split;rename_i hi;subst hi;have hlt:=(List.getElem?_eq_some_iff.1 hu).1;rw[if_pos hlt,hu];rfl
 rw[he]at this;exact this
theorem Wk.nilc{b i n:Nat}{e:TypeId}{k:Nat}{cs:List A}{s:St}(hf:fresh n s=true)(hl:lk s.B b=some (.cells cs))(hi:cs[i]? =some .nil):Wk s {s with B:=BG (Cq n (.rw e k []) s.B) b (.cells (cs.set i (.row n)))}:=by
 intro h w val a H;obtain⟨h3,h4⟩:=Wk.empty (e:=e) (k:=k) hf H;obtain⟨f1,f2,f3⟩:=Bb hf;have hbn:n≠b:=fun e=>(BP f3 _ (Ag hl)).1 e.symm;have hl2:lk (Cq n (.rw e k []) s.B) b=some (.cells cs):=by rw[Kh,if_neg hbn];exact hl
 have hv:An val n (.slice none 0 0) n=.slice none 0 0:=by simp[An]
 have hmem:(b,Bk.cells cs)∈Cq n (.rw e k []) s.B++s.F:=ml_ _ (Ag hl2);have hsame:∀b2,(b,b2)∈Cq n (.rw e k []) s.B->b2.kd=(Bk.cells (cs.set i (.row n))).kd:=fun b2 hb2=>by rw[BB h3.inv.nms (ml_ _ hb2) hmem];rfl
 refine⟨h,An val n (.slice none 0 0),⟨h3.e,⟨fun p hp=>?_,?_,?_,(by first|exact H.inv.glob.stays hk.stays|exact H.inv.glob|exact I.glob|exact I.glob.stays k.stays|exact H.inv.glob.stays k.stays|exact hI.glob|exact hInv.glob|exact hI0.glob|exact hIX.glob|exact H'.inv.glob|exact hI.glob.stays hk.stays|exact H1.inv.glob|exact hIR.glob|exact H.glob|exact hI.glob.stays k.stays|exact H.inv.glob.stays n.keep.stays|exact hI.glob.stays n.keep.stays|exact h.inv.glob|exact H2.inv.glob|exact hI'.glob)⟩,h3.far,h3.defs⟩,⟨h4.keep,h4.vals,fun g hg=>h4.new g ?_⟩⟩
 rcases ma.1 hp with hp|hp
 rcases BY hp with rfl|⟨hp,hne⟩
 obtain⟨g,us,t,e1,e2,e3,e4,e5⟩:=h3.inv.rep _ hmem;refine⟨g,us,t,e1,e2,?_,e4,e5⟩;obtain⟨u,hu,hr⟩:=RAs.get e3 i _ hi;simp only[RA]at hr;subst hr;have:=RAs.set e3 i (a:=.row n) (u:=.slice none 0 0) (by simp only[RA];exact⟨hv.symm,hnd.sl _ _ _⟩);have he:us.set i (.slice none 0 0)=us:=by apply List.ext_getElem?;intro j;rw[List.getElem?_set];split;rename_i hi;subst hi;have hlt:=(List.getElem?_eq_some_iff.1 hu).1;rw[if_pos hlt,hu];rfl
 rw[he]at this;exact this;exact h3.inv.rep p (ml_ _ hp);exact h3.inv.rep p (mr_ _ hp);have:=h3.inv.nms;simpa only[St.all,AI,BD]using this;have:=h3.inv.bks;simpa only[St.all,AJ,A6 hsame]using this;simpa only[St.all,AJ,A6 hsame]using hg

inductive Ws where
 |frz (n:Nat)
 |look (t:Nat)
 |live (l:List Nat)
 |keep (l:List Nat)
 |ren (n m:Nat)
 |nil (t n:Nat) (e:TypeId) (k:Nat)
 |nilw (t n:Nat) (e:TypeId) (k:Nat)
 |nilc (b i n:Nat) (e:TypeId) (k:Nat)
 |bufrw (n:Nat)
 |sort
def wk1(s:St):Ws->Option St
 | .frz n=>match lk s.B n with
  |some (.buf true e k xs)=>some {s with B:=BG s.B n (.row e k xs)}
  |some (.rw e k xs)=>some {s with B:=BG s.B n (.row e k xs)}
  |_=>none
 | .look t=>match s.E[t]? with
  |some x=>some {s with E:=s.E.set t (s.look x)}
  |none=>none
 | .live l=>some {s with E:=OG (fun i=>l.contains i) 0 s.E}
 | .keep l=>some {s with B:=s.B.filter fun p=>l.contains p.1}
 | .ren n m=>if fresh m s then some {s with E:=S2 n m s.E,B:=s.B.map (Md n m)}else none
 | .nil t n e k=>match s.E[t]? with
  |some .nil=>if fresh n s then some {s with E:=s.E.set t (.row n),B:=Cq n (.row e k []) s.B}else none
  |_=>none
 | .nilw t n e k=>match s.E[t]? with
  |some .nil=>if fresh n s then some {s with E:=s.E.set t (.row n),B:=Cq n (.rw e k []) s.B}else none
  |_=>none
 | .nilc b i n e k=>match lk s.B b with
  |some (.cells cs)=>match cs[i]? with
   |some .nil=>if fresh n s then some {s with B:=BG (Cq n (.rw e k []) s.B) b (.cells (cs.set i (.row n)))}else none
   |_=>none
  |_=>none
 | .bufrw n=>match lk s.B n with
  |some (.buf true e k xs)=>some {s with B:=BG s.B n (.rw e k xs)}
  |_=>none
 | .sort=>some {s with B:=aOt s.B}
def wks:List Ws->St->Option St
 |[],s=>some s
 |x::l,s=>match wk1 s x with
  |some s1=>wks l s1
  |none=>none
theorem aTq{s s':St}{x:Ws}(h:wk1 s x=some s'):Wk s s':=by
 cases x with
 |frz n=>
  simp only[wk1]at h
  split at h
  rename_i hl
  simp only[oe]at h;subst h
  intro h w val a H
  obtain⟨h',f1,f2⟩:=ZT H hl
  exact⟨h',val,f1,f2⟩
  rename_i hl
  simp only[oe]at h;subst h
  intro h w val a H
  obtain⟨h',f1,f2⟩:=aB9 H hl
  exact⟨h',val,f1,f2⟩
  cases h
 |look t=>
  simp only[wk1]at h
  split at h
  rename_i ht
  simp only[oe]at h;subst h
  exact Wk.look ht
  cases h
 |live l=>simp only[wk1,oe]at h;subst h;exact Wk.mask _ s
 |keep l=>simp only[wk1,oe]at h;subst h;exact Wk.drop _ s
 |ren n m=>
  simp only[wk1]at h
  split at h
  rename_i hf
  simp only[oe]at h;subst h
  obtain⟨f1,f2,f3⟩:=Bb hf
  exact Wk.ren f1 f2 f3
  cases h
 |nil t n e k=>
  simp only[wk1]at h
  split at h
  rename_i ht
  split at h
  rename_i hf
  simp only[oe]at h;subst h
  exact Wk.nil hf ht
  cases h
  cases h
 |nilw t n e k=>
  simp only[wk1]at h
  split at h
  rename_i ht
  split at h
  rename_i hf
  simp only[oe]at h;subst h
  exact Wk.nilw hf ht
  cases h
  cases h
 |nilc b i n e k=>
  simp only[wk1]at h
  split at h
  rename_i cs hl
  split at h
  rename_i hi
  split at h
  rename_i hf
  simp only[oe]at h;subst h
  exact Wk.nilc hf hl hi
  cases h
  cases h
  cases h
 |bufrw n=>
  simp only[wk1]at h
  split at h
  rename_i hl
  simp only[oe]at h;subst h
  exact Wk.redesc hl rfl fun h w val a _ hr=>RB.buf_rw hr
  cases h
 |sort=>
  simp only[wk1,oe]at h;subst h
  exact fun h w val a H=>⟨h,val,Holds.perm (Fa _).symm H,Nx.perm (Fa _).symm (Nx.refl s h w val rfl)⟩
theorem JY:∀{l:List Ws} {s s':St},wks l s=some s'->Wk s s'
 |[],s,s',h=>by simp only[wks,oe]at h;subst h;exact Wk.refl _
 |x::l,s,s',h=>by
  simp only[wks]at h;split at h;rename_i s1 h1;exact(aTq h1).trans (JY h);cases h
end Go.Ac
namespace Go.Ac

structure Lw where
 path:List Nat
 wk:List Ws
 e:Ex
 s:St

def Lb(lw:List Lw)(p:List Nat)(s:St):Option (Option (Ob×Ex×St)):=
 match lw.find? fun q=>q.path==p with
 |some q=>some (match wks q.wk s with
  |some s1=>some (.loop p s1 q.e q.s,q.e,q.s)
  |none=>none)
 |none=>none
def aB2(ops:Array Oper)(s:St):St:=
 match ops.toList with
 |o::_=>match o.dst,o.op with
  |some d,.alloc _=>if BW d s.B then{s with E:=OG (fun i=>i !=d) 0 s.E,B:=s.B.filter fun p=>p.1 !=d}else s
  |_,_=>s
 |[]=>s
theorem aB3(ops:Array Oper)(s:St):Wk s (aB2 ops s):=by unfold aB2;split;split;split;exact(Wk.mask _ s).trans (Wk.drop _ _);exact Wk.refl s;exact Wk.refl s;exact Wk.refl s
def CR(P:Program)(ws:List (Nat×W))(lw:List Lw):List Nat->Code->St->Option (Ob×Ex×St)
 |_,.skip,s=>some (.c .t,.normal,s)
 |_,.label _,s=>some (.c .t,.normal,s)
 |_,.region _ ops d,s=>match Nm P ops d ws (aB2 ops s)with
  |some (Φ,s')=>some (Φ,.normal,s')
  |none=>none
 |p,.seq a b,s=>match Lb lw p s with
  |some r=>r
  |none=>match CR P ws lw (0::p) a s with
   |some (Φ,.normal,s1)=>match CR P ws lw (1::p) b s1 with
    |some (Ψ,e,s2)=>some (Φ.and Ψ,e,s2)
    |none=>none
   |r=>r
 |p,.cond c a b,s=>match Lb lw p s with
  |some r=>r
  |none=>match s.ev c with
   | .d (.v (.bool true))=>CR P ws lw (0::p) a s
   | .d (.v (.bool false))=>CR P ws lw (1::p) b s
   |_=>none
 |p,.block id b,s=>match Lb lw p s with
  |some r=>r
  |none=>match CR P ws lw (0::p) b s with
   |some (Φ,.exit j,s')=>if j=id then some (Φ,.normal,s')else some (Φ,.exit j,s')
   |r=>r
 |p,.loop _,s=>match Lb lw p s with
  |some r=>r
  |none=>none
 |p,.rangeFunc _ _ _ _,s=>match Lb lw p s with
  |some r=>r
  |none=>none
 |p,.scope b,s=>match Lb lw p s with
  |some r=>r
  |none=>CR P ws lw (0::p) b s
 |_,.exit id,s=>some (.c .t,.exit id,s)
 |_,.ret,s=>some (.c .t,.ret,s)
 |_,_,_=>none

def EL(P:Program)(rd:Option Nat)(root:Code):Lp:=fun p s e s'=>AC P rd (Av root p) s fun e1 s1=>e1=e/\s1=s'

theorem AC.done{P:Program}{rd:Option Nat}{c:Code}{s:St}{Ψ:Ex->St->Prop}{e:Ex}(hw:∀a w Q,Q e.toExit a w->c.wpIn (fc rd) 0 P Q a w)(h:Ψ e s):AC P rd c s Ψ:=
 fun h' w val a H Q hQ=>hw a w Q (hQ e s h' w val a h H (Nx.refl s h' w val rfl))
theorem AC.mono{P:Program}{rd:Option Nat}{c:Code}{s:St}{Ψ Ψ':Ex->St->Prop}(h:AC P rd c s Ψ)(hp:∀e s1,Ψ e s1->Ψ' e s1):AC P rd c s Ψ':=
 h.post fun e s1 hΨ=>⟨s1,Wk.refl _,hp e s1 hΨ⟩

theorem Di{P:Program}{rd:Option Nat}{root:Code}{lw:List Lw}{p:List Nat}{c:Code}{s s':St}{Φ:Ob}{e:Ex}{r:Option (Ob×Ex×St)}(hp:Av root p=c)(hc:Lb lw p s=some r)(he:r=some (Φ,e,s'))(hΦ:Φ.ok P (EL P rd root)):AC P rd c s fun e1 s1=>e1=e/\s1=s':=by unfold Lb at hc;split at hc;rename_i q hq;simp only[oe]at hc;rw[he]at hc;split at hc;rename_i s1 hs1;simp only[oe,pe]at hc;obtain⟨rfl,rfl,rfl⟩:=hc;have h2:AC P rd (Av root p) s1 fun e1 s1=>e1=q.e/\s1=q.s:=hΦ;rw[hp]at h2;exact AC.wk (JY hs1) h2;cases hc;cases hc

theorem Fz{P:Program}{rd:Option Nat}{root:Code}{ws:List (Nat×W)}{lw:List Lw}(hm:P.follows .mixedOrders=true):∀(c:Code) (p:List Nat) (s s':St) (Φ:Ob) (e:Ex),Av root p=c->
 CR P ws lw p c s=some (Φ,e,s')->Φ.ok P (EL P rd root)->AC P rd c s fun e1 s1=>e1=e/\s1=s':=by
 intro c
 induction c with
 |skip=>
  intro p s s' Φ e _ he _
  simp only[CR,oe,pe]at he
  obtain⟨_,rfl,rfl⟩:=he
  exact AC.done (e:=.normal) (fun a w Q=>wpIn_skip) ⟨rfl,rfl⟩
 |label l=>
  intro p s s' Φ e _ he _
  simp only[CR,oe,pe]at he
  obtain⟨_,rfl,rfl⟩:=he
  exact AC.done (e:=.normal) (fun a w Q=>wpIn_label) ⟨rfl,rfl⟩
 |exit id=>
  intro p s s' Φ e _ he _
  simp only[CR,oe,pe]at he
  obtain⟨_,rfl,rfl⟩:=he
  exact AC.done (e:=.exit id) (fun a w Q=>wpIn_exit) ⟨rfl,rfl⟩
 |ret=>
  intro p s s' Φ e _ he _
  simp only[CR,oe,pe]at he
  obtain⟨_,rfl,rfl⟩:=he
  exact AC.done (e:=.ret) (fun a w Q=>wpIn_ret) ⟨rfl,rfl⟩
 |region id ops d=>
  intro p s s' Φ e _ he hΦ
  simp only[CR]at he
  split at he
  rename_i Φ' s1 hr
  simp only[oe,pe]at he
  obtain⟨rfl,rfl,rfl⟩:=he
  exact AC.wk (aB3 ops s) fun h w val a H Q hQ=>SB hm hr hΦ H fun h' w' val' a' H' n'=>hQ .normal _ h' w' val' a' ⟨rfl,rfl⟩ H' n'
  cases he
 |seq x y ihx ihy=>
  intro p s s' Φ e hp he hΦ
  simp only[CR]at he
  have hpx:Av root (0::p)=x:=by simp only[Av,hp,LV]
  have hpy:Av root (1::p)=y:=by simp only[Av,hp,LV]
  split at he
  rename_i hcut;exact Di hp hcut he hΦ
  split at he
  rename_i Φ1 s1 h1
  split at he
  rename_i Ψ e2 s2 h2
  simp only[oe,pe]at he
  obtain⟨rfl,rfl,rfl⟩:=he
  obtain⟨o1,o2⟩:=Ob.and_ok hΦ
  refine AC.seq ((ihx _ _ _ _ _ hpx h1 o1).mono ?_)
  rintro e1 s1' ⟨rfl,rfl⟩
  exact ihy _ _ _ _ _ hpy h2 o2
  cases he
  rename_i hne
  refine AC.seq ((ihx _ _ _ _ _ hpx he hΦ).mono ?_)
  rintro e1 s1' ⟨rfl,rfl⟩
  cases e1 with
  |normal=>exact absurd he (hne _ _)
  |exit id=>exact⟨rfl,rfl⟩
  |ret=>exact⟨rfl,rfl⟩
 |cond c x y ihx ihy=>
  intro p s s' Φ e hp he hΦ
  simp only[CR]at he
  have hpx:Av root (0::p)=x:=by simp only[Av,hp,LV]
  have hpy:Av root (1::p)=y:=by simp only[Av,hp,LV]
  split at he
  rename_i hcut;exact Di hp hcut he hΦ
  split at he
  rename_i hc
  exact AC.cond (b:=true) hc (ihx _ _ _ _ _ hpx he hΦ)
  rename_i hc
  exact AC.cond (b:=false) hc (ihy _ _ _ _ _ hpy he hΦ)
  cases he
 |block id b ih=>
  intro p s s' Φ e hp he hΦ
  simp only[CR]at he
  have hpb:Av root (0::p)=b:=by simp only[Av,hp,LV]
  split at he
  rename_i hcut;exact Di hp hcut he hΦ
  split at he
  rename_i Φ1 j s1 h1
  split at he
  rename_i hj
  simp only[oe,pe]at he
  obtain⟨rfl,rfl,rfl⟩:=he
  refine AC.block ((ih _ _ _ _ _ hpb h1 hΦ).mono ?_)
  rintro e1 s1' ⟨rfl,rfl⟩
  simp[hj]
  rename_i hj
  simp only[oe,pe]at he
  obtain⟨rfl,rfl,rfl⟩:=he
  refine AC.block ((ih _ _ _ _ _ hpb h1 hΦ).mono ?_)
  rintro e1 s1' ⟨rfl,rfl⟩
  simp[hj]
  rename_i hne
  refine AC.block ((ih _ _ _ _ _ hpb he hΦ).mono ?_)
  rintro e1 s1' ⟨rfl,rfl⟩
  cases e1 with
  |normal=>exact⟨rfl,rfl⟩
  |exit id=>exact absurd he (hne _ _ _)
  |ret=>exact⟨rfl,rfl⟩
 |loop b ih=>
  intro p s s' Φ e hp he hΦ
  simp only[CR]at he
  split at he
  rename_i hcut;exact Di hp hcut he hΦ
  cases he
 |rangeFunc f params assign body _ _=>
  intro p s s' Φ e hp he hΦ
  simp only[CR]at he
  split at he
  rename_i hcut;exact Di hp hcut he hΦ
  cases he
 |scope b ih=>
  intro p s s' Φ e hp he hΦ
  simp only[CR]at he
  have hpb:Av root (0::p)=b:=by simp only[Av,hp,LV]
  split at he
  rename_i hcut;exact Di hp hcut he hΦ
  exact AC.scope (ih _ _ _ _ _ hpb he hΦ)
 |goto l=>intro p s s' Φ e _ he _;simp only[CR]at he;cases he
 |refuse why=>intro p s s' Φ e _ he _;simp only[CR]at he;cases he

def aAz:Code->Bool
 | .loop _=>true
 |_=>false
def Sn(tmps:Array Value):ResultVar->Sem Value
 | .tmp t=>pure (tmps.getD t undef)
 | .cell a t=>do loadVar t (<-asAddr (tmps.getD a undef))
def rvA(P:Program)(s:St):ResultVar->Option A
 | .tmp t=>some (s.look (s.E.getD t .any))
 | .cell t ty=>match s.E.getD t .any with
  | .box n off=>match lk s.B n with
   |some (.cells cs)=>(Hv P ty (cs.map s.look) off).map s.look
   |_=>none
  |_=>none
def aTk(P:Program)(s:St):List ResultVar->Option (List A)
 |[]=>some []
 |x::l=>match rvA P s x,aTk P s l with
  |some a,some as'=>some (a::as')
  |_,_=>none
def MI(P:Program)(s:St)(rs:List ResultVar):Option A:=
 match aTk P s rs with
 |some [a]=>some a
 |some as'=>some (.tup as')
 |none=>none
theorem Od{s:St}{h w val}{a:Act}(H:Holds s h w val a):∀{cs:List A} {us:List Value},RAs h w val cs us->RAs h w val (cs.map s.look) us
 |[],_,hr=>hr
 |c::cs,us,hr=>by
  simp only[RAs]at hr;obtain⟨u,us',rfl,h1,h2⟩:=hr;simp only[List.map_cons,RAs];exact⟨u,us',rfl,H.look h1,Od H h2⟩
theorem aTj{P:Program}{s:St}{h w val}{a:Act}(H:Holds s h w val a){x:ResultVar}{r:A}(he:rvA P s x=some r):∃u,(Sn a.tmps x).run P w=.ok u w/\RA h w val r u:=by
 cases x with
 |tmp t=>
  simp only[rvA,oe]at he
  subst he
  exact⟨a.tmps.getD t undef,by simp[Sn],H.look (H.ev (.tmp t))⟩
 |cell t ty=>
  simp only[rvA]at he
  split at he
  rename_i n off hx
  split at he
  rename_i cs hl
  simp only[om]at he
  obtain⟨v,hv,rfl⟩:=he
  have hx':=H.ev (.tmp t)
  simp only[St.ev,hx,RA]at hx'
  obtain⟨b,e1,e2⟩:=hx'
  have hb:=H.inv.rep (n,.cells cs) (ml_ _ (Ag hl))
  obtain⟨g,us,tt,e3,hg,hr,h1,_⟩:=hb
  simp only at e3
  rw[e1]at e3
  cases e3
  obtain⟨u,g1,g2⟩:=Dl (P:=P) (a:=⟨b,0,none⟩) hv (Od H hr) h1 (fun j v hj=>by rw[Addr.add_lit,Nat.zero_add,cell_of_row w b j ⟨us⟩ tt (0,0) hg];simpa using hj)
  rw[Addr.add_lit,Nat.zero_add]at g1
  refine⟨u,?_,H.look g2⟩
  have e2':a.tmps.getD t undef=.pointer (some ⟨b,off,none⟩):=e2
  simp[Sn,e2',asAddr,g1]
  cases he
  cases he
theorem OQ{P:Program}{s:St}{h w val}{a:Act}(H:Holds s h w val a):∀{l:List ResultVar} {as':List A},aTk P s l=some as'->∃us,(l.mapM (Sn a.tmps)).run P w=.ok us w/\RAs h w val as' us
 |[],as',he=>by simp only[aTk,oe]at he;subst he;exact⟨[],by simp,by simp[RAs]⟩
 |x::l,as',he=>by
  simp only[aTk]at he;split at he;rename_i r as' h1 h2;simp only[oe]at he;subst he;obtain⟨u,g1,g2⟩:=aTj H h1;obtain⟨us,g3,g4⟩:=OQ H h2;exact⟨u::us,by simp[List.mapM_cons,g1,g3],by simp only[RAs];exact⟨u,us,rfl,g2,g4⟩⟩;cases he
theorem RP{P:Program}{s:St}{h w val}{a:Act}(H:Holds s h w val a){fn:Func}{r:A}(he:MI P s fn.results.toList=some r):∃u,(results fn a.tmps).run P w=.ok u w/\RA h w val r u:=by
 unfold MI at he;have hres:∀us,(fn.results.toList.mapM (Sn a.tmps)).run P w=.ok us w->(results fn a.tmps).run P w=.ok (if hs:us.toArray.size=1 then us.toArray[0]else .tuple us.toArray) w:=by
  intro us hus;have e:results fn a.tmps=(do let vs<-fn.results.mapM (Sn a.tmps);pure (if h:vs.size=1 then vs[0]else .tuple vs)):=by unfold results;congr 1
  rw[e,Array.mapM_eq_mapM_toList];simp[hus]
 split at he;rename_i r' hr;simp only[oe]at he;subst he;obtain⟨us,g1,g2⟩:=OQ H hr;simp only[RAs]at g2;obtain⟨u,us',rfl,g3,rfl⟩:=g2;exact⟨u,by rw[hres _ g1];simp,g3⟩;rename_i as' hne hr;simp only[oe]at he;subst he;obtain⟨us,g1,g2⟩:=OQ H hr;have hl:=g2.length;have:us.length≠1:=by
  intro e;match as',hne,hl with
  |[],_,hl=>simp at hl;rw[hl]at e;simp at e
  |[x],hne,_=>exact hne x rfl
  |_::_::_,_,hl=>simp at hl;omega
 exact⟨.tuple ⟨us⟩,by rw[hres _ g1];simp[this],by simp only[RA];exact⟨us,rfl,g2⟩⟩;cases he

def ZA(P:Program)(f:FuncId)(ws:List (Nat×W))(lw:List Lw)(wk:List Ws)(args:List A)(F0:Bx):Option (Ob×A×Bx):=
 match P.funcs[f]? with
 |some fn=>match fn.body with
  |some c=>if IP args then
   match CR P ws lw [] c ⟨args++List.replicate (fn.ntmps-args.length) (.tup []),[],F0⟩with
   |some (Φ,.ret,s')=>(wks wk s').bind fun s2=>(MI P s2 fn.results.toList).map fun r=>(Φ,r,s2.F)
   |some (Φ,.normal,s')=>(wks wk s').bind fun s2=>(MI P s2 fn.results.toList).map fun r=>(Φ,r,s2.F)
   |_=>none
   else none
  |_=>none
 |none=>none
theorem K8{h w val}(n:Nat):RAs h w val (List.replicate n (.tup [])) (List.replicate n undef):=by
 induction n with
 |zero=>simp[RAs]
 |succ n ih=>simp only[List.replicate_succ,RAs];exact⟨undef,_,rfl,Jb,ih⟩

def DJ(P:Program)(f:FuncId):Code:=((P.funcs[f]?).bind (·.body)).getD .skip

theorem Nr{w:World}{D:Nat}{o o':Obj}(hD:w.heap[D]? =some o)(ho:o.isCells=false){b i:Nat}{v:Value}(hc:w.cell? ⟨b,i,none⟩=some v):(w.putObj D o').cell? ⟨b,i,none⟩=some v:=by
 by_cases h:b=D;subst h;unfold World.cell? at hc;simp only[hD]at hc;cases o<;>simp_all [Obj.isCells];unfold World.cell? at hc⊢;have:(w.putObj D o').heap[b]? =w.heap[b]? :=by simp[World.putObj,Array.getElem?_setIfInBounds,Ne.symm h]
 simp only[this];exact hc
theorem Hk{M:List Nat}{h:Hw}{w:World}{D:Nat}{o o':Obj}(hD:w.heap[D]? =some o)(ho:o.isCells=false)(hM:D∈M):BI M h w h (w.putObj D o') where
 os:=rfl
 tape:=rfl
 output:=rfl
 size:=by simp[World.putObj]
 cells:=fun b i v _ hc=>Nr hD ho hc
 mono:=fun _ _=>Nat.le_refl _
 far:=fun b _ hn=>⟨by have:b≠D:=fun e=>hn (e▸hM);simp[World.putObj,Array.getElem?_setIfInBounds,Ne.symm this],rfl⟩
theorem Holds.shut{s:St}{h:Hw}{w:World}{val:Val}{a:Act}{D:Nat}{o':Obj}(H:Holds s h w val a)(hD:w.heap[D]? =some (.deferred (some []))):Holds s h (w.putObj D o') val {a with defers:=[]}:=by
 have hk:BI [D] h w h (w.putObj D o'):=Hk hD rfl (by simp);refine⟨RAs.stays hk.stays _ _ _ H.e,⟨fun p hp=>RB.stays hk.stays (fun g hg=>?_) (H.inv.rep p hp),H.inv.nms,H.inv.bks,(by first|exact H.inv.glob.stays hk.stays|exact H.inv.glob|exact I.glob|exact I.glob.stays k.stays|exact H.inv.glob.stays k.stays|exact hI.glob|exact hInv.glob|exact hI0.glob|exact hIX.glob|exact H'.inv.glob|exact hI.glob.stays hk.stays|exact H1.inv.glob|exact hIR.glob|exact H.glob|exact hI.glob.stays k.stays|exact H.inv.glob.stays n.keep.stays|exact hI.glob.stays n.keep.stays|exact h.inv.glob|exact H2.inv.glob|exact hI'.glob)⟩,H.far,Cg.nil (Nat.le_trans H.defs.1 hk.size)⟩
 have hgm:=Inv.blk_mem hp hg;refine hk.far g (H.inv.blk_lt g hgm) fun hin=>?_;simp only[List.mem_singleton]at hin;subst hin;have:=H.inv.blk_def g hgm _ hD;cases this
theorem OA{P:Program}{fn:Func}{R:Ending->World->Prop}{s:St}{h:Hw}{val:Val}{tmps:Array Value}:∀(Ds:List Nat) (w:World) (a:Act),a.tmps=tmps->Holds s h w val a->Ds.Nodup->(∀D∈Ds,w.heap[D]? =some (.deferred (some [])))->
 (∀w' a',a'.tmps=tmps->Holds s h w' val a'->BI Ds h w h w'->∃v,(results fn tmps).run P w'=.ok v w'/\R (.returned v) w')->LeavesInM (fc none) 0 P fn tmps R (Ds.map fun D=>{target:=.collected D,args:= #[]}) .returning w
 |[],w,a,ha,H,_,_,hR=>hR w a ha H (BI.refl _ _ _)
 |D::Ds,w,a,ha,H,hn,hd,hR=>by
  have hD:=hd D (.head _);obtain⟨hn1,hn2⟩:=List.nodup_cons.1 hn;refine⟨by simp,.inl ⟨D,_,rfl,run_takeDeferred hD,?_⟩⟩;refine OA Ds (w.putObj D (.deferred none)) {a with defers:=[]} ha (H.shut hD) hn2 (fun D' hD'=>?_) fun w' a' ha' H' hk=>?_
  have h1:=hd D' (.tail _ hD');have hne:D≠D':=fun e=>hn1 (e▸hD');simpa[World.putObj,Array.getElem?_setIfInBounds,hne]using h1;refine hR w' a' ha' H' ((Hk hD rfl (by simp)).trans (hk.mono' fun x hx=>.inl (List.mem_cons_of_mem _ hx)) fun b hb=>.inl hb)

theorem P3{P:Program}{f:FuncId}{ws:List (Nat×W)}{lw:List Lw}{wk:List Ws}{args:List A}{F0 F':Bx}{Φ:Ob}{r:A}(hm:P.follows .mixedOrders=true)
 (he:ZA P f ws lw wk args F0=some (Φ,r,F')) (hΦ:Φ.ok P (EL P none (DJ P f))) (hb:r.bare=true) (hF0:Far F0) (hcl:∀p∈F',∀m,p.2.has m=true->m∈AK F'):
 ∀h w val vs,Inv h w val F0->RAs h w val args vs->Calls P f ⟨vs⟩ w fun e w'=>∃h' val' u,e=.returned u/\Inv h' w' val' F'/\RA h' w' val' r u/\BI (Aa val F0) h w h' w'/\(∀n,n∉AK F'->val' n=val n)/\∀b∈Aa val' F',b∈Aa val F0\/w.heap.size<=b:=by
 intro h w val vs hInv hargs
 unfold ZA at he
 split at he
 ·rename_i fn hfn
  split at he
  ·rename_i c hc
   split at he
   case isFalse=>cases he
   rename_i hbare
   have hroot:DJ P f=c:=by simp[DJ,hfn,hc]
   rw[hroot]at hΦ
   have hn:vs.length=args.length:=hargs.length
   let val0:Val:=An val bn (.int .i64 (w.heap.size:Int))
   have hv0:∀m,m≠bn->val0 m=val m:=fun m hm=>by simp[val0,An,hm]
   have hI0:Inv h w val0 F0:=⟨fun p hp=>RB.upd hv0 (hF0 bn (.inr (rfl)) p hp).1 (hF0 bn (.inr (rfl)) p hp).2 (hInv.rep p hp),hInv.nms,by
    rw[BZ fun m hm=>hv0 m fun e=>by obtain⟨p,hp,e2⟩:=mm.1 hm;exact(hF0 bn (.inr (rfl)) p hp).1 (e2.trans e)]
    exact hInv.bks,(by first|exact H.inv.glob.stays hk.stays|exact H.inv.glob|exact I.glob|exact I.glob.stays k.stays|exact H.inv.glob.stays k.stays|exact hI.glob|exact hInv.glob|exact hI0.glob|exact hIX.glob|exact H'.inv.glob|exact hI.glob.stays hk.stays|exact H1.inv.glob|exact hIR.glob|exact H.glob|exact hI.glob.stays k.stays|exact H.inv.glob.stays n.keep.stays|exact hI.glob.stays n.keep.stays|exact h.inv.glob|exact H2.inv.glob|exact hI'.glob)⟩
   have hblk0:Aa val0 F0=Aa val F0:=BZ fun m hm=>hv0 m fun e=>by obtain⟨p,hp,e2⟩:=mm.1 hm;exact(hF0 bn (.inr (rfl)) p hp).1 (e2.trans e)
   have H:Holds ⟨args++List.replicate (fn.ntmps-args.length) (.tup []),[],F0⟩ h w val0 {tmps:=⟨vs⟩++Array.replicate (fn.ntmps-vs.length) undef,defers:=[]}:=by refine⟨?_,hI0,hF0,Cg.nil (by simp[FJ,val0,An])⟩;simp only[Array.toList_append,Array.toList_replicate];rw[hn];exact(RAs.bare _ _ hbare hargs).append (K8 _)
   have key:∀(e:Ex) (s':St),(e=.ret\/e=.normal)->CR P ws lw [] c ⟨args++List.replicate (fn.ntmps-args.length) (.tup []),[],F0⟩=some (Φ,e,s')->((wks wk s').bind fun s2=>(MI P s2 fn.results.toList).map fun r=>(Φ,r,s2.F))=some (Φ,r,F')->
    Calls P f ⟨vs⟩ w fun e w'=>∃h' val' u,e=.returned u/\Inv h' w' val' F'/\RA h' w' val' r u/\BI (Aa val F0) h w h' w'/\(∀n,n∉AK F'->val' n=val n)/\∀b∈Aa val' F',b∈Aa val F0\/w.heap.size<=b:=by
    intro e s' hor hrun hr
    refine callsIn_wide.1 (callsIn_of_wp_marks (F:=.wide) (n:=0) hfn hc trivial ?_)
    refine Fz (rd:=none) hm c [] _ s' Φ e rfl hrun hΦ h w val0 _ H _ ?_
    rintro e1 s1 h1 w1 v1 a1 ⟨rfl,rfl⟩ H1 n1
    simp only[Option.bind_eq_some_iff,om,pe,true_and]at hr
    obtain⟨s2,hwk,r2,hr,rfl,rfl⟩:=hr
    obtain⟨h2,v2,H2,n2⟩:=JY hwk _ _ _ _ H1
    have n3:=n1.trans n2
    obtain⟨_,Ds,eD,hDn,hD⟩:=H2.defs
    have hbd:FJ v2=w.heap.size:=by unfold FJ;rw[n3.vals bn (by decide)];simp[val0,An]
    have hL:LeavesInM (fc none) 0 P fn a1.tmps (fun e w'=>∃h' val' u,e=.returned u/\Inv h' w' val' s2.F/\RA h' w' val' r2 u/\BI (Aa val F0) h w h' w'/\(∀n,n∉AK s2.F->val' n=val n)/\∀b∈Aa val' s2.F,b∈Aa val F0\/w.heap.size<=b) a1.defers .returning w1:=by
     rw[eD];refine OA Ds w1 a1 rfl H2 hDn (fun D hD1=>(hD D hD1).1) fun w' a' ha' H' hk=>?_;obtain⟨u,g1,g2⟩:=RP H' hr;rw[ha']at g1;let v3:Val:=fun n=>if n∈AK s2.F then v2 n else val n
     have hfar:∀p∈s2.F,(∀m,m=p.1\/p.2.has m=true->v3 m=v2 m):=fun p hp m hm=>if_pos (by
      rcases hm with rfl|hm
      exact mm.2 ⟨p,hp,rfl⟩;exact hcl p hp m hm)
     have hbF:Aa v3 s2.F=Aa v2 s2.F:=BZ fun m hm=>if_pos hm;have hIR:=Inv.right H'.inv;refine⟨u,g1,h2,v3,u,rfl,⟨fun p hp=>RB.congr (hfar p hp p.1 (.inl rfl)) (fun m hm=>hfar p hp m (.inr hm)) (hIR.rep p hp),hIR.nms,by rw[hbF];exact hIR.bks,(by first|exact H.inv.glob.stays hk.stays|exact H.inv.glob|exact I.glob|exact I.glob.stays k.stays|exact H.inv.glob.stays k.stays|exact hI.glob|exact hInv.glob|exact hI0.glob|exact hIX.glob|exact H'.inv.glob|exact hI.glob.stays hk.stays|exact H1.inv.glob|exact hIR.glob|exact H.glob|exact hI.glob.stays k.stays|exact H.inv.glob.stays n.keep.stays|exact hI.glob.stays n.keep.stays|exact h.inv.glob|exact H2.inv.glob|exact hI'.glob)⟩,RA.bare _ _ hb g2,?_,fun n hn=>if_neg hn,fun b hb=>?_⟩
     have hK:=n3.keep.trans hk fun x hx=>.inr (by rw[<-hbd];exact(hD x hx).2);have hall:Aa val0 (⟨args++List.replicate (fn.ntmps-args.length) (.tup []),[],F0⟩:St).all=Aa val F0:=hblk0;rw[hall]at hK;exact hK;rw[hbF]at hb;have:=n3.new b (by show b∈Aa v2 (s2.B++s2.F);rw[AJ];exact mr_ _ hb);rw[<-hblk0];exact this
    rcases hor with rfl|rfl
    exact hL
    exact hL
   split at he
   rename_i Φ' s' hrun
   have:Φ'=Φ:=by simp only[Option.bind_eq_some_iff,om,pe]at he;obtain⟨_,_,_,_,h,_⟩:=he;exact h
   subst this
   exact key .ret s' (.inl rfl) hrun he
   rename_i Φ' s' hrun
   have:Φ'=Φ:=by simp only[Option.bind_eq_some_iff,om,pe]at he;obtain⟨_,_,_,_,h,_⟩:=he;exact h
   subst this
   exact key .normal s' (.inr rfl) hrun he
   cases he
  cases he
 cases he
def aZo(P:Program)(f:FuncId)(ws:List (Nat×W))(lw:List Lw)(wk:List Ws)(args:List A):Option (Ob×A):=(ZA P f ws lw wk args []).bind fun p=>match p.2.2 with
 |[]=>some (p.1,p.2.1)
 |_=>none
theorem aNd{P:Program}{f:FuncId}{ws:List (Nat×W)}{lw:List Lw}{wk:List Ws}{args:List A}{Φ:Ob}{r:A}(hm:P.follows .mixedOrders=true)
 (he:aZo P f ws lw wk args=some (Φ,r)) (hΦ:Φ.ok P (EL P none (DJ P f))) (hb:r.bare=true):AM P f args [] r []:=by
 unfold aZo at he
 simp only[Option.bind_eq_some_iff]at he
 obtain⟨⟨Φ',r',F'⟩,h1,he⟩:=he
 simp only at he
 split at he
 simp only[oe,pe]at he
 obtain⟨rfl,rfl⟩:=he
 intro h w val vs hI hargs
 refine(P3 hm h1 hΦ hb (fun _ _ _ h=>by cases h) (fun _ h=>by cases h) h w val vs hI hargs).mono fun e w' hh=>?_
 obtain⟨h',val',u,rfl,hI',hr,hk,hv,hn⟩:=hh
 exact⟨h',val',u,rfl,hI',hr,hk,fun n _=>hv n (by simp[AK]),hn⟩
 cases he
theorem R3{P:Program}{f:FuncId}{ws:List (Nat×W)}{lw:List Lw}{wk:List Ws}{args:List A}{F0 F':Bx}{Φ:Ob}{r:A}(hm:P.follows .mixedOrders=true)
 (he:ZA P f ws lw wk args F0=some (Φ,r,F')) (hΦ:Φ.ok P (EL P none (DJ P f))) (hb:r.bare=true) (hF0:Far F0) (hcl:∀p∈F',∀m,p.2.has m=true->m∈AK F'):K6 P f args F0 r F':=
 fun h w val vs hI hargs=>P3 hm he hΦ hb hF0 hcl h w val vs hI hargs

end Go.Ac
namespace Go.Ac
def vx:Nat:=997
mutual
def A.fix:A->Bool
 | .box _ _=>true
 | .row _=>true
 | .clo _ fs cs=>aKz fs&&aKz cs
 | .agg cs=>aKz cs
 | .tup cs=>aKz cs
 | .d _=>true
 | .eptr _=>true
 | .nil=>true
 |_=>false
def aKz:List A->Bool
 |[]=>true
 |a::as'=>a.fix&&aKz as'
end
mutual
theorem RA.det{h w h' w'}{val val':Val}:∀(a:A) (u:Value),a.fix=true->RA h w val a u->RA h' w' val' a u->∀n,a.has n=true->val' n=val n
 | .box m off,u,_,h1,h2,n,hn=>by
  simp only[A.has,beq_iff_eq]at hn;subst hn;simp only[RA]at h1 h2;obtain⟨b,e1,e2⟩:=h1;obtain⟨b',e3,e4⟩:=h2;rw[e2]at e4;cases e4;rw[e1,e3]
 | .row m,u,_,h1,h2,n,hn=>by
  simp only[A.has,beq_iff_eq]at hn;subst hn;simp only[RA]at h1 h2;rw[<-h1.1,<-h2.1]
 | .clo f fs cs,u,hf,h1,h2,n,hn=>by
  simp only[A.fix,ba]at hf;simp only[RA]at h1 h2;obtain⟨x,y,e,a1,a2⟩:=h1;obtain⟨x',y',e',b1,b2⟩:=h2;rw[e]at e';cases e';simp only[A.has,Bool.or_eq_true]at hn;rcases hn with hn|hn
  exact RAs.det fs x hf.1 a1 b1 n hn;exact RAs.det cs y hf.2 a2 b2 n hn
 | .agg cs,u,hf,h1,h2,n,hn=>by
  simp only[A.fix]at hf;simp only[RA]at h1 h2;obtain⟨x,e,a1,_⟩:=h1;obtain⟨x',e',b1,_⟩:=h2;rw[e]at e';cases e';exact RAs.det cs x hf a1 b1 n (by simpa only[A.has]using hn)
 | .tup cs,u,hf,h1,h2,n,hn=>by
  simp only[A.fix]at hf;simp only[RA]at h1 h2;obtain⟨x,e,a1⟩:=h1;obtain⟨x',e',b1⟩:=h2;rw[e]at e';cases e';exact RAs.det cs x hf a1 b1 n (by simpa only[A.has]using hn)
 | .d _,u,_,_,_,n,hn=>by simp[A.has]at hn
 | .eptr _,u,_,_,_,n,hn=>by simp[A.has]at hn
 | .nil,u,_,_,_,n,hn=>by simp[A.has]at hn
 | .bsl _ _ _,u,hf,_,_,n,hn=>by simp[A.fix]at hf
 | .ep _ _ _ _,u,hf,_,_,n,hn=>by simp[A.fix]at hf
 | .ub,u,hf,_,_,n,hn=>by simp[A.fix]at hf
 | .opq _,u,hf,_,_,n,hn=>by simp[A.fix]at hf
 | .any,u,hf,_,_,n,hn=>by simp[A.fix]at hf
theorem RAs.det{h w h' w'}{val val':Val}:∀(as':List A) (us:List Value),aKz as'=true->RAs h w val as' us->RAs h' w' val' as' us->∀n,AV n as'=true->val' n=val n
 |[],us,_,_,_,n,hn=>by simp[AV]at hn
 |a::as',us,hf,h1,h2,n,hn=>by
  simp only[aKz,ba]at hf;simp only[RAs]at h1 h2;obtain⟨u,us',rfl,a1,a2⟩:=h1;obtain⟨u',us2,e,b1,b2⟩:=h2;cases e;simp only[AV,Bool.or_eq_true]at hn;rcases hn with hn|hn
  exact RA.det a u hf.1 a1 b1 n hn;exact RAs.det as' us' hf.2 a2 b2 n hn
end
def F3(args:List A)(ks:List Nat):List A:=ks.map fun i=>match Nat.ble 1000 i with
 |true=>.box (i-1000) 0
 |false=>args.getD i .any
def bAg:Option Bk->Bool
 |some (.cells _)=>true
 |_=>false
def aA2(args:List A)(X:Bx)(i:Nat):Bool:=match Nat.ble 1000 i with
 |true=>bAg (lk X (i-1000))
 |false=>Nat.blt i args.length
def aN9(vs:List Value)(val:Val)(i:Nat):Value:=match Nat.ble 1000 i with
 |true=>val (i-1000)
 |false=>vs.getD i undef
def aId(P:Program)(f:FuncId)(ws:List (Nat×W))(lw:List Lw)(wk:List Ws)(args:List A)(X:Bx)(ks:List Nat)(us:List Value):Option (Ob×A×Bx):=
 match P.funcs[f]? with
 |some fn=>match fn.body with
  |some c=>match CR P ws lw [] c ⟨args++List.replicate (fn.ntmps-args.length) (.tup []),X++[(vx,.vals (F3 args ks) us)],[]⟩with
   |some (Φ,.ret,s')=>(wks wk s').bind fun s2=>(MI P s2 fn.results.toList).map fun r=>(Φ,r,s2.B)
   |some (Φ,.normal,s')=>(wks wk s').bind fun s2=>(MI P s2 fn.results.toList).map fun r=>(Φ,r,s2.B)
   |_=>none
  |_=>none
 |none=>none
def aKc(args:List A)(X:Bx)(ks:List Nat)(r:A)(X':Bx):Bool:=
 aT5 args&&aZ0 X&&BT (fun n=>Nat.blt n vx) (AK X)&&BT (aA2 args X) ks&&aKz (F3 args ks)&&
 aJh r (AK X')&&X'.all (fun p=>aKn p.2 (AK X'))&&BT (fun n=> !BF n (AK X)||AV n (F3 args ks)) (AK X')
theorem Oc{h w}{val:Val}{args:List A}{vs:List Value}{X:Bx}(hI:Inv h w val X)(hr:RAs h w val args vs):∀(ks:List Nat),BT (aA2 args X) ks=true->RAs h w val (F3 args ks) (ks.map (aN9 vs val))
 |[],_=>by simp[F3,RAs]
 |i::ks,hk=>by
  simp only[BT,ba]at hk;obtain⟨h0,hk⟩:=hk;have ih:=Oc hI hr ks hk;unfold F3 at ih;simp only[F3,List.map_cons,RAs];refine⟨_,_,rfl,?_,ih⟩;unfold aA2 at h0;unfold aN9;cases hb:Nat.ble 1000 i with
  |true=>
   rw[hb]at h0
   simp only at h0
   cases hl:lk X (i-1000)with
   |none=>rw[hl]at h0;cases h0
   |some b=>
    rw[hl]at h0
    cases b<;>simp only[bAg,Bool.false_eq_true]at h0
    rename_i cs
    obtain⟨g,us,tt,e3,_⟩:=hI.rep (i-1000,.cells cs) (Ag hl)
    simp only[RA]
    exact⟨g,e3,e3⟩
  |false=>
   rw[hb]at h0
   simp only[Nat.blt_eq]at h0
   obtain⟨u,hu,h1⟩:=RAs.get hr i _ (List.getElem?_eq_getElem h0)
   simp only[List.getD,hu,List.getElem?_eq_getElem h0,Option.getD_some]
   exact h1
theorem aIe{P:Program}{f:FuncId}{ws:List Value->List (Nat×W)}{lw:List Value->List Lw}{wk:List Value->List Ws}{args:List A}{X X':Bx}{ks:List Nat}{Φ:List Value->Ob}{r:A}(hm:P.follows .mixedOrders=true)
 (he:∀us,aId P f (ws us) (lw us) (wk us) args X ks us=some (Φ us,r,X'++[(vx,.vals (F3 args ks) us)])) (hΦ:∀us,(Φ us).ok P (EL P none (DJ P f))) (hx:aKc args X ks r X'=true):AM P f args X r X':=by
 intro h w val vs hInv hargs
 simp only[aKc,ba]at hx
 obtain⟨⟨⟨⟨⟨⟨⟨x1,x2⟩,x3⟩,x4⟩,x5⟩,x6⟩,x7⟩,x8⟩:=hx
 let us0:=ks.map (aN9 vs (An val bn (.int .i64 (w.heap.size:Int))))
 replace he:=he us0
 replace hΦ:=hΦ us0
 unfold aId at he
 split at he
 rename_i fn hfn
 split at he
 rename_i c hc
 have hroot:DJ P f=c:=by simp[DJ,hfn,hc]
 rw[hroot]at hΦ
 have hn:vs.length=args.length:=hargs.length
 let val0:Val:=An val bn (.int .i64 (w.heap.size:Int))
 have hv0:∀m,m≠bn->val0 m=val m:=fun m hm=>by simp[val0,An,hm]
 have hlt:∀m,m<up->m≠bn:=fun m hm e=>by subst e;simp only[up,bn]at hm;omega
 have hX1:∀p∈X,val0 p.1=val p.1:=fun p hp=>hv0 _ (hlt _ (OC x2 hp).1)
 have hblk0:Aa val0 X=Aa val X:=BZ fun m hm=>by obtain⟨p,hp,e2⟩:=mm.1 hm;rw[<-e2];exact hX1 p hp
 have hI0:Inv h w val0 X:=⟨fun p hp=>RB.congr (hX1 p hp) (fun m hm=>hv0 m (hlt m ((OC x2 hp).2 m hm))) (hInv.rep p hp),hInv.nms,by rw[hblk0];exact hInv.bks,(by first|exact H.inv.glob.stays hk.stays|exact H.inv.glob|exact I.glob|exact I.glob.stays k.stays|exact H.inv.glob.stays k.stays|exact hI.glob|exact hInv.glob|exact hI0.glob|exact hIX.glob|exact H'.inv.glob|exact hI.glob.stays hk.stays|exact H1.inv.glob|exact hIR.glob|exact H.glob|exact hI.glob.stays k.stays|exact H.inv.glob.stays n.keep.stays|exact hI.glob.stays n.keep.stays|exact h.inv.glob|exact H2.inv.glob|exact hI'.glob)⟩
 have hargs0:RAs h w val0 args vs:=RAs.congr _ _ (fun n hn=>hv0 n (hlt n (aBa x1 n hn))) hargs
 have hkept0:RAs h w val0 (F3 args ks) us0:=Oc hI0 hargs0 ks x4
 have hbv:∀(v:Val) (Y:Bx) (as':List A) (us:List Value),Aa v (Y++[(vx,Bk.vals as' us)])=Aa v Y:=fun v Y as' us=>by rw[AJ];have:Aa v [(vx,Bk.vals as' us)]=[]:=rfl;rw[this,List.append_nil]
 have hvxX:vx∉AK X:=fun hm=>by have:=A7 x3 vx hm;simp at this
 have H:Holds ⟨args++List.replicate (fn.ntmps-args.length) (.tup []),X++[(vx,.vals (F3 args ks) us0)],[]⟩ h w val0 {tmps:=⟨vs⟩++Array.replicate (fn.ntmps-vs.length) undef,defers:=[]}:=by
  refine⟨?_,?_,(fun _ _ p hp=>by cases hp),Cg.nil (by simp[FJ,val0,An])⟩;simp only[Array.toList_append,Array.toList_replicate];rw[hn];exact hargs0.append (K8 _);show Inv h w val0 ((X++[(vx,.vals (F3 args ks) us0)])++[]);rw[List.append_nil];refine⟨fun p hp=>?_,?_,by rw[hbv];exact hI0.bks,(by first|exact H.inv.glob.stays hk.stays|exact H.inv.glob|exact I.glob|exact I.glob.stays k.stays|exact H.inv.glob.stays k.stays|exact hI.glob|exact hInv.glob|exact hI0.glob|exact hIX.glob|exact H'.inv.glob|exact hI.glob.stays hk.stays|exact H1.inv.glob|exact hIR.glob|exact H.glob|exact hI.glob.stays k.stays|exact H.inv.glob.stays n.keep.stays|exact hI.glob.stays n.keep.stays|exact h.inv.glob|exact H2.inv.glob|exact hI'.glob)⟩
  rcases ma.1 hp with hp|hp
  exact hI0.rep p hp;simp only[List.mem_singleton]at hp;subst hp;exact hkept0;rw[AI];refine List.nodup_append.2 ⟨hI0.nms,by simp[AK],fun x hx y hy e=>?_⟩;simp only[AK,List.map_cons,List.map_nil,List.mem_singleton]at hy;subst hy;subst e;exact hvxX hx
 have key:∀(e:Ex) (s':St),(e=.ret\/e=.normal)->CR P (ws us0) (lw us0) [] c ⟨args++List.replicate (fn.ntmps-args.length) (.tup []),X++[(vx,.vals (F3 args ks) us0)],[]⟩=some (Φ us0,e,s')->
  ((wks (wk us0) s').bind fun s2=>(MI P s2 fn.results.toList).map fun r=>(Φ us0,r,s2.B))=some (Φ us0,r,X'++[(vx,.vals (F3 args ks) us0)])->
  Calls P f ⟨vs⟩ w fun e w'=>∃h' val' u,e=.returned u/\Inv h' w' val' X'/\RA h' w' val' r u/\BI (Aa val X) h w h' w'/\(∀n,(n∈AK X'->n∈AK X)->val' n=val n)/\∀b∈Aa val' X',b∈Aa val X\/w.heap.size<=b:=by
  intro e s' hor hrun hr
  refine callsIn_wide.1 (callsIn_of_wp_marks (F:=.wide) (n:=0) hfn hc trivial ?_)
  refine Fz (rd:=none) hm c [] _ s' (Φ us0) e rfl hrun hΦ h w val0 _ H _ ?_
  rintro e1 s1 h1 w1 v1 a1 ⟨rfl,rfl⟩ H1 n1
  simp only[Option.bind_eq_some_iff,om,pe,true_and]at hr
  obtain⟨s2,hwk,r2,hr,rfl,hB2⟩:=hr
  obtain⟨h2,v2,H2,n2⟩:=JY hwk _ _ _ _ H1
  have n3:=n1.trans n2
  obtain⟨_,Ds,eD,hDn,hD⟩:=H2.defs
  have hbd:FJ v2=w.heap.size:=by unfold FJ;rw[n3.vals bn (by decide)];simp[val0,An]
  have hall:Aa val0 (⟨args++List.replicate (fn.ntmps-args.length) (.tup []),X++[(vx,.vals (F3 args ks) us0)],[]⟩:St).all=Aa val X:=by show Aa val0 ((X++[(vx,.vals (F3 args ks) us0)])++[])=_;rw[List.append_nil,hbv,hblk0]
  have hL:LeavesInM (fc none) 0 P fn a1.tmps (fun e w'=>∃h' val' u,e=.returned u/\Inv h' w' val' X'/\RA h' w' val' r2 u/\BI (Aa val X) h w h' w'/\(∀n,(n∈AK X'->n∈AK X)->val' n=val n)/\∀b∈Aa val' X',b∈Aa val X\/w.heap.size<=b) a1.defers .returning w1:=by
   rw[eD];refine OA Ds w1 a1 rfl H2 hDn (fun D hD1=>(hD D hD1).1) fun w' a' ha' H' hk=>?_;obtain⟨u,g1,g2⟩:=RP H' hr;rw[ha']at g1;let v3:Val:=fun n=>if n∈AK X' then v2 n else val n
   have hv3:∀n∈AK X',v3 n=v2 n:=fun n hn=>if_pos hn;have hIB:Inv h2 w' v2 (X'++[(vx,.vals (F3 args ks) us0)]):=by rw[<-hB2];have:=H'.inv;unfold St.all at this;exact Inv.sub (List.sublist_append_left _ _) this
   have hkept2:RAs h2 w' v2 (F3 args ks) us0:=hIB.rep (vx,.vals (F3 args ks) us0) (mr_ _ (.head _));have hsame:∀n,n∈AK X'->n∈AK X->v2 n=val n:=fun n hn hnX=>by
    have h8:=A7 x8 n hn;simp only[Bool.or_eq_true,Bool.not_eq_true']at h8;rcases h8 with h8|h8
    exact absurd hnX (Bt h8);rw[RAs.det _ _ x5 hkept0 hkept2 n h8];obtain⟨p,hp,e2⟩:=mm.1 hnX;rw[<-e2];exact hX1 p hp
   have hbX:Aa v3 X'=Aa v2 X':=BZ fun m hm=>hv3 m hm;have hIX:Inv h2 w' v2 X':=Inv.sub (List.sublist_append_left _ _) hIB;refine⟨u,g1,h2,v3,u,rfl,⟨fun p hp=>RB.congr (hv3 _ (mm.2 ⟨p,hp,rfl⟩)) (fun m hm=>hv3 m (ZP ((List.all_eq_true.1 x7) p hp) m hm)) (hIX.rep p hp),hIX.nms,by rw[hbX];exact hIX.bks,(by first|exact H.inv.glob.stays hk.stays|exact H.inv.glob|exact I.glob|exact I.glob.stays k.stays|exact H.inv.glob.stays k.stays|exact hI.glob|exact hInv.glob|exact hI0.glob|exact hIX.glob|exact H'.inv.glob|exact hI.glob.stays hk.stays|exact H1.inv.glob|exact hIR.glob|exact H.glob|exact hI.glob.stays k.stays|exact H.inv.glob.stays n.keep.stays|exact hI.glob.stays n.keep.stays|exact h.inv.glob|exact H2.inv.glob|exact hI'.glob)⟩,
    RA.congr _ _ (fun n hn=>hv3 n (RG x6 n hn)) g2,?_,fun n hn=>?_,fun b hb=>?_⟩
   have hK:=n3.keep.trans hk fun x hx=>.inr (by rw[<-hbd];exact(hD x hx).2);rw[hall]at hK;exact hK;show(if n∈AK X' then v2 n else val n)=val n
   split;rename_i hin;exact hsame n hin (hn hin);rfl;rw[hbX]at hb;have hb2:b∈Aa v2 s2.all:=by show b∈Aa v2 (s2.B++s2.F);rw[AJ,hB2,hbv];exact ml_ _ hb
   have:=n3.new b hb2;rw[hall]at this;exact this
  rcases hor with rfl|rfl
  exact hL
  exact hL
 split at he
 rename_i Φ' s' hrun
 have:Φ'=Φ us0:=by simp only[Option.bind_eq_some_iff,om,pe]at he;obtain⟨_,_,_,_,h,_⟩:=he;exact h
 subst this
 exact key .ret s' (.inl rfl) hrun he
 rename_i Φ' s' hrun
 have:Φ'=Φ us0:=by simp only[Option.bind_eq_some_iff,om,pe]at he;obtain⟨_,_,_,_,h,_⟩:=he;exact h
 subst this
 exact key .normal s' (.inr rfl) hrun he
 cases he
 cases he
 cases he
end Go.Ac
namespace Go.Ac

def Cn.okK:Cn->Prop->Prop
 | .t,k=>k
 | .both a b,k=>a.okK (b.okK k)
 |o,k=>o.ok/\k
def Ob.okK(P:Program)(L:Lp):Ob->Prop->Prop
 | .c x,k=>x.okK k
 | .both a b,k=>a.okK P L (b.okK P L k)
 |o,k=>o.ok P L/\k
theorem Cn.okK_iff:∀(x:Cn) (k:Prop),x.okK k↔x.ok/\k:=by
 intro x;induction x with
 |both a b iha ihb=>intro k;simp only[Cn.okK,iha,ihb,Cn.ok,and_assoc]
 |t=>intro k;simp[Cn.okK,Cn.ok]
 |_=>intro k;exact Iff.rfl
theorem Ob.okK_iff{P:Program}{L:Lp}:∀(x:Ob) (k:Prop),x.okK P L k↔x.ok P L/\k:=by
 intro x;induction x with
 |both a b iha ihb=>intro k;simp only[Ob.okK,iha,ihb,Ob.ok,and_assoc]
 |c x=>intro k;exact Cn.okK_iff x k
 |_=>intro k;exact Iff.rfl

def Arr(P:Program)(rd:Option Nat)(root:Code)(q:List Nat)(s:St)(e:Ex)(s':St):Prop:=
 AC P rd (Av root q) s fun e1 s1=>e1=e/\Wk s1 s'
theorem Arr.lp{P:Program}{rd:Option Nat}{root:Code}{q:List Nat}{s s':St}{e:Ex}(h:Arr P rd root q s e s'):EL P rd root q s e s':=
 AC.post h fun _ _ hh=>⟨s',hh.2,hh.1,rfl⟩
def S0(P:Program)(rd:Option Nat)(root:Code)(ws:List (Nat×W))(lw:List Lw)(q:List Nat)(l:List Ws)(s:St)(e:Ex)(s':St):Prop:=
 match CR P ws lw q (Av root q) s with
 |some (Φ,e1,s1)=>match wks l s1 with
  |some s2=>Φ.okK P (EL P rd root) True/\(e1=e/\s2=s')
  |none=>False
 |none=>False
theorem S0.arr{P:Program}{rd:Option Nat}{root:Code}{ws:List (Nat×W)}{lw:List Lw}{q:List Nat}{l:List Ws}{s s':St}{e:Ex}(hm:P.follows .mixedOrders=true)
 (h:S0 P rd root ws lw q l s e s'):Arr P rd root q s e s':=by
 unfold S0 at h
 split at h
 rename_i Φ e1 s1 h1
 split at h
 rename_i s2 h2
 obtain⟨hΦ,rfl,rfl⟩:=h
 have hΦ:=((Ob.okK_iff _ _).1 hΦ).1
 exact(Fz hm _ _ _ _ _ _ rfl h1 hΦ).mono fun e1 s1' hh=>⟨hh.1,by rw[hh.2];exact JY h2⟩
 exact h.elim
 exact h.elim
def aC3(P:Program)(f:FuncId)(ws:List (Nat×W))(lw:List Lw)(wk:List Ws)(args:List A)(r:A):Prop:=
 match aZo P f ws lw wk args with
 |some (Φ,r')=>Φ.okK P (EL P none (DJ P f)) True/\(r'=r/\r.bare=true)
 |none=>False
theorem aC3.call{P:Program}{f:FuncId}{ws:List (Nat×W)}{lw:List Lw}{wk:List Ws}{args:List A}{r:A}(hm:P.follows .mixedOrders=true)(h:aC3 P f ws lw wk args r):AM P f args [] r []:=by unfold aC3 at h;split at h;rename_i Φ r' h1;obtain⟨hΦ,rfl,hb⟩:=h;exact aNd hm h1 ((Ob.okK_iff _ _).1 hΦ).1 hb;exact h.elim
def aKh(P:Program)(f:FuncId)(ws:List (Nat×W))(lw:List Lw)(wk:List Ws)(args:List A)(X:Bx)(ks:List Nat)(us:List Value)(r:A)(X':Bx):Prop:=
 match aId P f ws lw wk args X ks us with
 |some (Φ,r',X'')=>Φ.okK P (EL P none (DJ P f)) True/\(r'=r/\X''=X'++[(vx,.vals (F3 args ks) us)]/\aKc args X ks r X'=true)
 |none=>False
theorem aKh.call{P:Program}{f:FuncId}{ws:List Value->List (Nat×W)}{lw:List Value->List Lw}{wk:List Value->List Ws}{args:List A}{X:Bx}{ks:List Nat}{r:A}{X':Bx}(hm:P.follows .mixedOrders=true)
 (h:∀us,aKh P f (ws us) (lw us) (wk us) args X ks us r X'):AM P f args X r X':=by
 have h2:∀us,∃Φ:Ob,aId P f (ws us) (lw us) (wk us) args X ks us=some (Φ,r,X'++[(vx,.vals (F3 args ks) us)])/\Φ.ok P (EL P none (DJ P f))/\aKc args X ks r X'=true:=by intro us;have:=h us;unfold aKh at this;split at this;rename_i Φ r' X'' h1;obtain⟨hΦ,rfl,rfl,hx⟩:=this;exact⟨Φ,h1,((Ob.okK_iff _ _).1 hΦ).1,hx⟩;exact this.elim
 exact aIe (ws:=ws) (lw:=lw) (wk:=wk) (Φ:=fun us=>Classical.choose (h2 us)) hm (fun us=>(Classical.choose_spec (h2 us)).1) (fun us=>(Classical.choose_spec (h2 us)).2.1) (h2 []).choose_spec.2.2
def aKg(P:Program)(f:FuncId)(ws:List (Nat×W))(lw:List Lw)(wk:List Ws)(args:List A)(F0:Bx)(r:A)(F':Bx):Prop:=
 match ZA P f ws lw wk args F0 with
 |some (Φ,r',F'')=>Φ.okK P (EL P none (DJ P f)) True/\(r'=r/\F''=F'/\r.bare=true)
 |none=>False
theorem aKg.call{P:Program}{f:FuncId}{ws:List (Nat×W)}{lw:List Lw}{wk:List Ws}{args:List A}{F0 F':Bx}{r:A}(hm:P.follows .mixedOrders=true)(hF0:Far F0)(hcl:∀p∈F',∀m,p.2.has m=true->m∈AK F')
 (h:aKg P f ws lw wk args F0 r F'):K6 P f args F0 r F':=by
 unfold aKg at h
 split at h
 rename_i Φ r' F'' h1
 obtain⟨hΦ,rfl,rfl,hb⟩:=h
 exact R3 hm h1 ((Ob.okK_iff _ _).1 hΦ).1 hb hF0 hcl
 exact h.elim
attribute [irreducible] S0 aC3 aKh aKg
theorem F7{P:Program}{rd:Option Nat}{root:Code}(hm:P.follows .mixedOrders=true)(ws:List (Nat×W))(lw:List Lw){q:List Nat}(l:List Ws){s s':St}{e:Ex}{p:Prop}(h:p)
 (he:(p/\(e=e/\s'=s'))=S0 P rd root ws lw q l s e s'):Arr P rd root q s e s':=S0.arr (ws:=ws) (lw:=lw) (l:=l) hm (he.mp ⟨h,rfl,rfl⟩)
theorem aB5{P:Program}{f:FuncId}(hm:P.follows .mixedOrders=true)(ws:List (Nat×W))(lw:List Lw)(wk:List Ws){args:List A}{r:A}{p:Prop}(h:p)
 (he:(p/\(r=r/\true=true))=aC3 P f ws lw wk args r):AM P f args [] r []:=aC3.call (ws:=ws) (lw:=lw) (wk:=wk) hm (he.mp ⟨h,rfl,rfl⟩)

theorem aB6{P:Program}{f:FuncId}(hm:P.follows .mixedOrders=true)(ws:List (Nat×W))(lw:List Lw)(wk:List Ws){args:List A}{F0 F':Bx}{r:A}(hF0:Far F0)(hcl:∀p∈F',∀m,p.2.has m=true->m∈AK F'){p:Prop}(h:p)
 (he:(p/\(r=r/\F'=F'/\true=true))=aKg P f ws lw wk args F0 r F'):K6 P f args F0 r F':=aKg.call (ws:=ws) (lw:=lw) (wk:=wk) hm hF0 hcl (he.mp ⟨h,rfl,rfl,rfl⟩)

section
variable {σ τ:Type}
def itE(step:σ->Option (σ⊕τ)):Nat->σ->Option τ
 |0,_=>none
 |n+1,s=>match step s with
  |none=>none
  |some (.inl s')=>itE step n s'
  |some (.inr t)=>some t
theorem Kb{step:σ->Option (σ⊕τ)}:∀{n m:Nat} {s:σ} {t:τ},n<=m->itE step n s=some t->itE step m s=some t
 |0,_,s,t,_,h=>by simp[itE]at h
 |n+1,0,s,t,hle,h=>by omega
 |n+1,m+1,s,t,hle,h=>by
  simp only[itE]at h⊢;split at h;cases h;exact Kb (Nat.le_of_succ_le_succ hle) h;exact h
open Classical in
noncomputable def AZ(step:σ->Option (σ⊕τ))(s:σ):Option τ:=
 if h:∃t,∃n,itE step n s=some t then some (Classical.choose h)else none
theorem Ec{step:σ->Option (σ⊕τ)}{s:σ}{t:τ}:AZ step s=some t↔ ∃n,itE step n s=some t:=by unfold AZ;constructor;intro h;split at h;rename_i hh;simp only[oe]at h;rw[<-h];exact Classical.choose_spec hh;cases h;rintro⟨n,hn⟩;have hh:∃t,∃n,itE step n s=some t:=⟨t,n,hn⟩;rw[dif_pos hh];obtain⟨m,hm⟩:=Classical.choose_spec hh;have h1:=Kb (Nat.le_max_left n m) hn;have h2:=Kb (Nat.le_max_right n m) hm;rw[h1]at h2;exact h2.symm
def Bh(o:Option (σ⊕τ))(k:σ->Option τ):Option τ:=match o with
 |none=>none
 |some (.inl s)=>k s
 |some (.inr t)=>some t
theorem Au(step:σ->Option (σ⊕τ))(s:σ):AZ step s=Bh (step s) (AZ step):=by
 apply Option.ext;intro t;rw[Ec];unfold Bh;cases hs:step s with
 |none=>
  constructor
  rintro⟨n,hn⟩
  cases n with
  |zero=>simp[itE]at hn
  |succ n=>simp[itE,hs]at hn
  intro h;simp at h
 |some x=>
  cases x with
  |inl s'=>
   simp only
   rw[Ec]
   constructor
   rintro⟨n,hn⟩
   cases n with
   |zero=>simp[itE]at hn
   |succ n=>exact⟨n,by simpa[itE,hs]using hn⟩
   rintro⟨n,hn⟩
   exact⟨n+1,by simpa[itE,hs]using hn⟩
  |inr t'=>
   constructor
   rintro⟨n,hn⟩
   cases n with
   |zero=>simp[itE]at hn
   |succ n=>simpa[itE,hs]using hn
   intro h
   exact⟨1,by simpa[itE,hs]using h⟩
end

theorem aJf{P:Program}{rd:Option Nat}{root:Code}{p:List Nat}(hl:aAz (Av root p)=true){σ τ:Type}{step:σ->Option (σ⊕τ)}{I:σ->St}{O:τ->Ex×St}(hO:∀t,(O t).1≠ .normal)
 (hn:∀s s',step s=some (.inl s')->Arr P rd root (0::p) (I s) .normal (I s')) (hx:∀s t,step s=some (.inr t)->Arr P rd root (0::p) (I s) (O t).1 (O t).2)
 {s:σ} {t:τ} (h:AZ step s=some t):EL P rd root p (I s) (O t).1 (O t).2:=by
 obtain⟨n,hn0⟩:=Ec.1 h
 unfold EL
 have hc:Av root p=.loop (Av root (0::p)):=by
  cases h:Av root p with
  |loop b=>simp only[Av,h,LV]
  |_=>rw[h]at hl;cases hl
 rw[hc]
 have hloop:=AC.loop (P:=P) (rd:=rd) (c:=Av root (0::p)) (ι:={x:σ×Nat//itE step x.2 x.1=some t}) (fun x=>I x.1.1) (fun x=>x.1.2) (fun _ e s=>e=(O t).1/\Wk s (O t).2) ?_ ⟨(s,n),hn0⟩
 exact hloop.post fun e s1 hh=>⟨(O t).2,hh.2,hh.1,rfl⟩
 rintro⟨⟨s,n⟩,hi⟩
 cases n with
 |zero=>simp[itE]at hi
 |succ n=>
  simp only[itE]at hi
  split at hi
  cases hi
  rename_i s' hs
  refine AC.mono (hn s s' hs) ?_
  rintro e s1 ⟨rfl,hw⟩
  exact⟨⟨(s',n),hi⟩,Nat.lt_succ_self n,hw,fun e s hh=>hh⟩
  rename_i t' hs
  simp only[oe]at hi
  subst hi
  refine AC.mono (hx s t' hs) ?_
  rintro e s1 ⟨rfl,hw⟩
  cases he:(O t').1 with
  |normal=>exact absurd he (hO t')
  |exit id=>exact⟨rfl,hw⟩
  |ret=>exact⟨rfl,hw⟩

def rR{σ τ:Type}(I:σ->St)(O:τ->Ex×St):σ⊕τ->Ex×St
 | .inl s=>(.normal,I s)
 | .inr t=>O t
theorem aA8{P:Program}{rd:Option Nat}{root:Code}{p:List Nat}{σ τ:Type}{step:σ->Option (σ⊕τ)}(I:σ->St)(O:τ->Ex×St)(hl:aAz (Av root p)=true)(hO:∀t,(O t).1≠ .normal)
 (hr:∀s o,step s=some o->Arr P rd root (0::p) (I s) (rR I O o).1 (rR I O o).2)
 {s:σ} {t:τ} (h:AZ step s=some t):EL P rd root p (I s) (O t).1 (O t).2:=
 aJf hl hO (fun s s' h=>hr s (.inl s') h) (fun s t h=>hr s (.inr t) h) h

section
variable {α β:Type}
def AE(c:Bool)(a b:Option β):Option β:=match c with
 |true=>a
 |false=>b
def Az(p:Prop) [Decidable p](k:Option β):Option β:=if p then k else none
def Ab(xs:List α)(i:Int)(k:α->Option β):Option β:=if 0<=i then(match xs[i.toNat]? with
 |some x=>k x
 |none=>none)else none
def AG(x:Option α)(k:α->Option β):Option β:=match x with
 |some a=>k a
 |none=>none
theorem iS{c:Bool}{a b:Option β}{r:β}(h:AE c a b=some r):(c=true/\a=some r)\/(c=false/\b=some r):=by cases c;exact .inr ⟨rfl,h⟩;exact .inl ⟨rfl,h⟩
theorem B2{a b:Option β}{r:β}(h:AE true a b=some r):a=some r:=h
theorem B1{a b:Option β}{r:β}(h:AE false a b=some r):b=some r:=h
theorem cS{p:Prop} [Decidable p]{k:Option β}{r:β}(h:Az p k=some r):p/\k=some r:=by unfold Az at h;split at h;exact⟨‹_›,h⟩;cases h
theorem xS{xs:List α}{i:Int}{k:α->Option β}{r:β}(h:Ab xs i k=some r):∃x,(0<=i/\xs[i.toNat]? =some x)/\k x=some r:=by unfold Ab at h;split at h;split at h;exact⟨_,⟨‹_›,‹_›⟩,h⟩;cases h;cases h
theorem bS{x:Option α}{k:α->Option β}{r:β}(h:AG x k=some r):∃a,x=some a/\k a=some r:=by
 cases x with
 |none=>cases h
 |some a=>exact⟨a,rfl,h⟩
end
end Go.Ac
namespace Go.Ac
def D.i(k:IntKind)(n:Int):D:=.v (.int k n)
def D.b(b:Bool):D:=.v (.bool b)
def D.s(l:List UInt8):D:=.v (.string ⟨⟨l⟩⟩)
def D.l{α:Type}(f:α->D)(xs:List α):D:=.sl (xs.map f)
def AW(x:D):List A:=x.cells.map .d
def sp:Nat->Nat->List (Nat×A)->List A
 |0,_,_=> []
 |n+1,i,[]=>.any::sp n (i+1) []
 |n+1,i,(j,a)::l=>if Nat.beq j i then a::sp n (i+1) l else .any::sp n (i+1) ((j,a)::l)
class Bz{α:Type}(f:α->D)(k:outParam Nat):Prop where
 h:∀x,(f x).nc=k
instance (k:IntKind):Bz (D.i k) 1:=⟨fun _=>rfl⟩
instance :Bz D.b 1:=⟨fun _=>rfl⟩
instance :Bz D.s 1:=⟨fun _=>rfl⟩
instance :Bz AY 1:=⟨fun _=>rfl⟩
instance {α:Type} (f:α->D):Bz (D.l f) 1:=⟨fun _=>rfl⟩

section
variable {α β:Type}
theorem Ad(f:α->D){k:Nat} [Bz f k](l:List α):∀y∈l.map f,y.nc=k:=by intro y hy;obtain⟨x,_,rfl⟩:=mm.1 hy;exact Bz.h x
theorem aIz(f:α->D){xs:List α}{i:Int}{x:α}(h:0<=i/\xs[i.toNat]? =some x):0<=i/\(xs.map f)[i.toNat]? =some (f x):=
 ⟨h.1,by rw[List.getElem?_map,h.2];rfl⟩
theorem CY(f:α->D)(xs:List α):((xs.map f).length:Int)=(xs.length:Int):=by rw[List.length_map]
theorem BH(l:List UInt8):((ByteArray.mk ⟨l⟩).size:Int)=(l.length:Int):=rfl
theorem Ci{l:List UInt8}{i:Int}{x:UInt8}(h:0<=i/\l[i.toNat]? =some x):0<=i/\∃c:UInt8,(ByteArray.mk ⟨l⟩).data.toList[i.toNat]? =some c/\(c.toNat:Int)=(x.toNat:Int):=
 ⟨h.1,x,h.2,rfl⟩
def fit(a b n:Nat):Prop:=(a+b)*n<=140737488355328
instance (a b n:Nat):Decidable (fit a b n):=inferInstanceAs (Decidable (_<=_))
theorem Am(f:α->D){xs ys:List α}{n:Nat}(h:fit xs.length ys.length n):((xs.map f).length+(ys.map f).length)*n<=140737488355328:=by rw[List.length_map,List.length_map];exact h
theorem Ak(f:α->D)(xs ys:List α):xs.map f++ys.map f=(xs++ys).map f:=(List.map_append).symm
def sub(xs:List α)(l h:Int):List α:=(xs.take h.toNat).drop l.toNat
theorem Cw(f:α->D){k:Nat} [Bz f k]{xs:List α}{l h:Int}(hh:0<=l/\l<=h/\h<=xs.length):
 0<=l/\l<=(some h).getD ((xs.map f).length:Int)/\(some h).getD ((xs.map f).length:Int)<=((xs.map f).length:Int)/\(∀y∈xs.map f,y.nc=k)/\
  ((xs.map f).take ((some h).getD ((xs.map f).length:Int)).toNat).drop l.toNat=(sub xs l h).map f:=by
 refine⟨hh.1,hh.2.1,by rw[List.length_map];exact hh.2.2,Ad f xs,?_⟩
 simp only[Option.getD_some,sub,List.map_drop,List.map_take]
theorem EU(f:α->D){k:Nat} [Bz f k]{xs:List α}{l:Int}(hh:0<=l/\l<=(xs.length:Int)/\(xs.length:Int)<=xs.length):
 0<=l/\l<=(none:Option Int).getD ((xs.map f).length:Int)/\(none:Option Int).getD ((xs.map f).length:Int)<=((xs.map f).length:Int)/\(∀y∈xs.map f,y.nc=k)/\
  ((xs.map f).take ((none:Option Int).getD ((xs.map f).length:Int)).toNat).drop l.toNat=(sub xs l (xs.length:Int)).map f:=by
 refine⟨hh.1,by simp only[Option.getD_none,List.length_map];exact hh.2.1,Int.le_refl _,Ad f xs,?_⟩
 simp only[Option.getD_none,sub,List.map_drop,List.map_take,List.length_map,Int.toNat_natCast]
theorem FZ{a b:List UInt8}(h:a.length+b.length<=9223372036854775807):(ByteArray.mk ⟨a⟩).size+(ByteArray.mk ⟨b⟩).size<=9223372036854775807/\ByteArray.mk ⟨a⟩++ByteArray.mk ⟨b⟩=⟨⟨a++b⟩⟩:=by refine⟨h,?_⟩;apply ByteArray.ext;simp
def u8w(n:Int):UInt8:=UInt8.ofNat (n % 256).toNat
theorem Eq(n:Int):IntKind.u8.wrap n=((u8w n).toNat:Int):=by
 have h:IntKind.u8.wrap n=n % 256:=by simp[IntKind.wrap,IntKind.signed,IntKind.bits]
 rw[h];unfold u8w;rw[UInt8.toNat_ofNat'];omega
def Fv(a b:Int):Int:=if a<b then b else a
def As{γ:Type}(o:α⊕β)(f:α->Option γ)(g:β->Option γ):Option γ:=match o with
 | .inl a=>f a
 | .inr b=>g b
theorem AH{γ:Type}{o:α⊕β}{f:α->Option γ}{g:β->Option γ}{r:γ}(h:As o f g=some r):(∃a,o=.inl a/\f a=some r)\/(∃b,o=.inr b/\g b=some r):=by
 cases o with
 |inl a=>exact .inl ⟨a,rfl,h⟩
 |inr b=>exact .inr ⟨b,rfl,h⟩
end
def isN:Ex->Bool
 | .normal=>true
 |_=>false
theorem aA0{e:Ex}(h:isN e=false):e≠ .normal:=by intro hh;rw[hh]at h;cases h
end Go.Ac
namespace Go.Ac
section
variable {α:Type}
theorem FL(f:α->D){xs:List α}{i:Int}{x:α}(h:0<=i/\xs[i.toNat]? =some x):0<=(i.toNat:Int)/\(xs.map f)[(i.toNat:Int).toNat]? =some (f x):=
 ⟨by omega,by rw[Int.toNat_natCast,List.getElem?_map,h.2];rfl⟩
theorem Du(f:α->D){xs:List α}{i:Int}(h:i+1<=(xs.length:Int)):i+1<=((xs.map f).length:Int):=by rw[List.length_map];exact h
theorem aA5(f:α->D){xs:List α}{i:Int}(h:0<=i/\i+1<=(xs.length:Int)):(i.toNat:Int)+1<=((xs.map f).length:Int):=by rw[List.length_map];omega
theorem IF(f:α->D)(xs:List α)(i:Int)(x:α):(xs.map f).set i.toNat (f x)=(xs.set i.toNat x).map f:=by rw[List.map_set]
theorem aBk(f:α->D)(n:Int)(x:α):([]:List D)++List.replicate n.toNat (f x)=(List.replicate n.toNat x).map f:=by rw[List.map_replicate];rfl
theorem aBl(f:α->D){n:Int}(x:α){b:Nat}(h:fit 0 n.toNat b):(([]:List D).length+(List.replicate n.toNat (f x)).length)*b<=140737488355328:=by rw[List.length_replicate];exact h
theorem aIr(f:α->D)(xs ys:List α):(ys.map f).take (xs.map f).length++(xs.map f).drop (ys.map f).length=(ys.take xs.length++xs.drop ys.length).map f:=by rw[List.length_map,List.length_map,List.map_append,List.map_take,List.map_drop]
theorem aSy(f:α->D){xs:List α}{n:Nat}(h:xs.length=n):(((xs.map f).length:Nat):Int)=(n:Int):=by rw[List.length_map,h]
end
end Go.Ac
namespace Go.Ac
end Go.Ac
namespace Go.Ac
theorem ai{a b:Prop}(h:a)(k:b):a/\b:=⟨h,k⟩
theorem ti:True:=trivial
theorem si{α:Type}{a b:α}(h:some a=some b):a=b:=Option.some.inj h
section
variable {α β γ σ τ:Type}
theorem AP(a b:Option β):AE true a b=a:=rfl
theorem AR(a b:Option β):AE false a b=b:=rfl
theorem AL(c:Bool)(a b:Option β):AE c a b=if c=true then a else b:=by cases c<;>rfl
theorem AD(x:α)(k:α->Option β):AG (some x) k=k x:=rfl
theorem Ai{p:Prop} [Decidable p](h:p)(k:Option β):Az p k=k:=if_pos h
theorem DH(a:α)(f:α->Option γ)(g:β->Option γ):As (.inl a) f g=f a:=rfl
theorem MT(b:β)(f:α->Option γ)(g:β->Option γ):As (.inr b) f g=g b:=rfl
theorem A4(s:σ)(k:σ->Option τ):Bh (some (.inl s)) k=k s:=rfl
theorem DN(t:τ)(k:σ->Option τ):Bh (some (.inr t)) k=some t:=rfl
theorem AN{xs:List α}{n:Nat}{x:α}(h:xs[n]? =some x)(k:α->Option β):Ab xs (n:Int) k=k x:=by simp[Ab,h]
theorem aSr{x:α}{xs:List α}(k:α->Option β):Ab (x::xs) 0 k=k x:=by simp[Ab]
theorem Ki{step:σ->Option (σ⊕τ)}(I:σ->Prop)(μ:σ->Nat)(spec:σ->τ)
 (h:∀s,I s->step s=some (.inr (spec s))\/∃s',step s=some (.inl s')/\I s'/\μ s'<μ s/\spec s'=spec s):∀s,I s->AZ step s=some (spec s):=by
 have key:∀n s,μ s<n->I s->AZ step s=some (spec s):=by
  intro n;induction n with
  |zero=>intro s hs;omega
  |succ n ih=>
   intro s hs hI
   rw[Au]
   rcases h s hI with h1|⟨s',h1,h2,h3,h4⟩
   rw[h1];rfl
   rw[h1,A4,ih s' (by omega) h2,h4]
 exact fun s hI=>key (μ s+1) s (by omega) hI
theorem Eb{step:σ->Option (σ⊕τ)}(I:σ->Prop)(μ:σ->Nat)(Q:τ->Prop)
 (h:∀s,I s->(∃t,step s=some (.inr t)/\Q t)\/∃s',step s=some (.inl s')/\I s'/\μ s'<μ s):∀s,I s->∃t,AZ step s=some t/\Q t:=by
 have key:∀n s,μ s<n->I s->∃t,AZ step s=some t/\Q t:=by
  intro n;induction n with
  |zero=>intro s hs;omega
  |succ n ih=>
   intro s hs hI
   rw[Au]
   rcases h s hI with⟨t,h1,h2⟩|⟨s',h1,h2,h3⟩
   exact⟨t,by rw[h1];rfl,h2⟩
   rw[h1,A4];exact ih s' (by omega) h2
 exact fun s hI=>key (μ s+1) s (by omega) hI
end
theorem aIb{a b:Int}(h1: -9223372036854775808<=a+b)(h2:a+b<=9223372036854775807):AB .add .i64 a b=a+b:=IntWalk.i64_in _ ⟨h1,h2⟩
theorem aO9{a b:Int}(h1: -9223372036854775808<=a-b)(h2:a-b<=9223372036854775807):AB .sub .i64 a b=a-b:=IntWalk.i64_in _ ⟨h1,h2⟩
theorem bAw{a b:Int}(h1: -9223372036854775808<=a*b)(h2:a*b<=9223372036854775807):AB .mul .i64 a b=a*b:=IntWalk.i64_in _ ⟨h1,h2⟩
theorem IA{n:Nat}(h:n<9223372036854775807):AB .add .i64 (n:Int) 1=((n+1:Nat):Int):=by rw[aIb (by omega) (by omega)];rfl
theorem aZ7{a:Int}(h1: -9223372036854775808<=a)(h2:a<=9223372036854775807):IntKind.wrap .i64 a=a:=IntWalk.i64_in _ ⟨h1,h2⟩
theorem aCo(a:Int):IntKind.wrap .u64 a=a % 18446744073709551616:=by simp[IntKind.wrap,IntKind.signed,IntKind.bits]
theorem AU{a b n:Nat}(h:a+b<=1073741824)(hn:n<=131072):fit a b n:=by unfold fit;exact Nat.le_trans (Nat.mul_le_mul h hn) (by decide)
theorem aTm{a b:UInt8}:((a.toNat:Int)=(b.toNat:Int))↔a=b:=by constructor;intro h;exact UInt8.toNat_inj.1 (by omega);intro h;rw[h]
theorem aLj(a b:UInt8):decide ((a.toNat:Int)=(b.toNat:Int))=decide (a=b):=by rw[Bool.eq_iff_iff];simp[aTm]
theorem Ky{n:Nat}(h:n<256):(u8w (n:Int)).toNat=n:=by
 have:=Eq (n:Int);have h2:IntKind.u8.wrap (n:Int)=n:=by simp[IntKind.wrap,IntKind.signed,IntKind.bits];omega
 rw[h2]at this;omega
theorem A8{α:Type}{l:List α}{i:Nat}(h:i<l.length):∃x,l[i]? =some x/\l.drop i=x::l.drop (i+1):=
 ⟨_,List.getElem?_eq_getElem h,List.drop_eq_getElem_cons h⟩
theorem OV{α:Type}(xs:List α)(l h:Nat):sub xs (l:Int) (h:Int)=(xs.take h).drop l:=by simp[sub]
theorem aOx{α:Type}(xs:List α)(l:Nat):sub xs (l:Int) (xs.length:Int)=xs.drop l:=by simp[sub]
end Go.Ac
namespace Go.Ac
theorem aKp(n:Nat)(h:n<18446744073709551616):(BitVec.ofInt 64 (n:Int)).toNat=n:=by simp[BitVec.toNat_ofInt];omega
theorem MZ{n:Nat}(h:n<18446744073709551616):IntKind.wrap .u64 (n:Int)=n:=by rw[aCo];omega
theorem bAy{n m:Nat}(hn:n<18446744073709551616)(hm:m<18446744073709551616):AB .xor .u64 (n:Int) (m:Int)=((n^^^m:Nat):Int):=by have h:n^^^m<2^64:=Nat.xor_lt_two_pow (by simpa using hn) (by simpa using hm);show IntKind.wrap .u64 (((BitVec.ofInt 64 (n:Int))^^^(BitVec.ofInt 64 (m:Int))).toNat:Int)=_;rw[BitVec.toNat_xor,aKp n hn,aKp m hm];exact MZ (by simpa using h)
theorem bAm{n k:Nat}(hk:k<=64):AB .shr .u64 (n:Int) (k:Int)=((n/2^k:Nat):Int):=by show Int.fdiv (n:Int) (2^(min (k:Int).toNat 64))=_;rw[Int.toNat_natCast,Nat.min_eq_left hk];rw[Int.fdiv_eq_ediv_of_nonneg _ (Int.pow_nonneg (by decide))];rw[Int.natCast_ediv,Int.natCast_pow];rfl
theorem bAs{n m:Nat}:AB .add .u64 (n:Int) (m:Int)=(((n+m) % 18446744073709551616:Nat):Int):=by show IntKind.wrap .u64 ((n:Int)+m)=_;rw[aCo];omega
end Go.Ac
namespace Go.Ac
def cj:List Prop->Prop->Prop
 |[],k=>k
 |q::Q,k=>cj Q (q/\k)
theorem QF:∀(Q:List Prop) (k:Prop),cj Q k↔cj Q True/\k
 |[],k=>by simp[cj]
 |q::Q,k=>by
  simp only[cj];rw[QF Q (q/\k),QF Q (q/\True)];exact⟨fun h=>⟨⟨h.1,h.2.1,trivial⟩,h.2.2⟩,fun h=>⟨h.1.1,h.1.2.1,h.2⟩⟩
def aSs:Nat->Prop->List Prop->List Prop
 |0,q,Q=>q::Q
 |_+1,q,[]=> [q]
 |n+1,q,p::Q=>p::aSs n q Q
theorem KL{q:Prop}{Q:List Prop}(h:q)(k:cj Q True):cj (q::Q) True:=(QF Q (q/\True)).2 ⟨k,h,trivial⟩
theorem aKq{q:Prop}(h:q):∀(n:Nat) (Q:List Prop),cj Q True->cj (aSs n q Q) True
 |0,Q,k=>KL h k
 |n+1,[],k=>KL h k
 |n+1,p::Q,k=>by
  have k:=(QF Q (p/\True)).1 k;exact KL k.2.1 (aKq h n Q k.1)
section
variable {β γ δ:Type} {ws:List (Nat×W)} {lw:List Lw} {Q:List Prop} {G:β->Prop} {o:β}
def Gl(ws:List (Nat×W))(lw:List Lw)(Q:List Prop)(G:β->Prop)(o:β):Prop:=cj Q True->G o
def aCc:List A->Nat->List Nat
 |[],_=> []
 | .any::l,i=>aCc l (i+1)
 |_::l,i=>i::aCc l (i+1)
def lvS(s:St):List Ws:=[.live (aCc s.E 0),.keep (s.B.map (·.1))]
def bAk:Nat->Nat->List Nat
 |0,_=> []
 |f+1,n=>if Nat.ble n 1 then []else(n % 2)::bAk f (n/2)
abbrev pth(n:Nat):List Nat:=bAk 64 n
theorem g0(h:Gl [] [] [] G o):G o:=h trivial
theorem gW(n:Nat)(w:W)(c:Gl ((n,w)::ws) lw Q G o):Gl ws lw Q G o:=c
theorem gQ{q:Prop}(h:q)(c:Gl ws lw (q::Q) G o):Gl ws lw Q G o:=fun k=>c (KL h k)
theorem gK(n:Nat){q:Prop}(h:q)(c:Gl ws lw (aSs n q Q) G o):Gl ws lw Q G o:=fun k=>c (aKq h n Q k)
theorem gG(n:Nat)(w:W){q:Prop}(h:q)(c:Gl ((n,w)::ws) lw (q::Q) G o):Gl ws lw Q G o:=gQ h c
theorem gT(n:Nat){q:Prop}(h:q)(c:Gl ((n,.bit true)::ws) lw (q::Q) G o):Gl ws lw Q G o:=gQ h c
theorem gF(n:Nat){q:Prop}(h:q)(c:Gl ((n,.bit false)::ws) lw (q::Q) G o):Gl ws lw Q G o:=gQ h c
theorem gTk(k n:Nat){q:Prop}(h:q)(c:Gl ((n,.bit true)::ws) lw (aSs k q Q) G o):Gl ws lw Q G o:=gK k h c
theorem gFk(k n:Nat){q:Prop}(h:q)(c:Gl ((n,.bit false)::ws) lw (aSs k q Q) G o):Gl ws lw Q G o:=gK k h c
theorem gN(n:Nat)(f:γ->D)(xs:List γ)(c:Gl ((n,.int (xs.length:Int))::ws) lw ((((xs.map f).length:Int)=(xs.length:Int))::Q) G o):Gl ws lw Q G o:=gQ (CY f xs) c
theorem gC(n:Nat){P:Program}{f:FuncId}{args:List A}{r:A}(h:AM P f args [] r [])(c:Gl ((n,.ret r)::ws) lw (AM P f args [] r []::Q) G o):Gl ws lw Q G o:=gQ h c
theorem gL(wk:List Ws){P:Program}{rd:Option Nat}{root:Code}{p:List Nat}{s:St}{e:Ex}{s':St}(h:EL P rd root p s e s')(c:Gl ws (⟨p,wk,e,s'⟩::lw) (EL P rd root p s e s'::Q) G o):Gl ws lw Q G o:=gQ h c
theorem gl{P:Program}{rd:Option Nat}{root:Code}{p:List Nat}{s:St}{e:Ex}{s':St}(h:EL P rd root p s e s')(c:Gl ws (⟨p,lvS s,e,s'⟩::lw) (EL P rd root p s e s'::Q) G o):Gl ws lw Q G o:=gQ h c
theorem iB(n:Nat){b:Bool}{x y:Option δ}{r:δ}(h:AE b x y=some r)(A1:x=some r->Gl ((n,.bit true)::ws) lw ((b=true)::Q) G o)(A2:y=some r->Gl ((n,.bit false)::ws) lw ((b=false)::Q) G o):Gl ws lw Q G o:=by
 rcases iS h with⟨h1,h2⟩|⟨h1,h2⟩
 exact gQ h1 (A1 h2);exact gQ h1 (A2 h2)
theorem xX(n:Nat)(f:γ->D){xs:List γ}{i:Int}{k:γ->Option δ}{r:δ}(h:Ab xs i k=some r)(c:∀x,k x=some r->Gl ((n,.el (f x))::ws) lw ((0<=i/\(xs.map f)[i.toNat]? =some (f x))::Q) G o):Gl ws lw Q G o:=by obtain⟨x,h1,h2⟩:=xS h;exact gQ (aIz f h1) (c x h2)
end
abbrev lv(a b:List Nat):List Ws:=[.live a,.keep b]
section
variable {β:Type} {ws:List (Nat×W)} {lw:List Lw} {Q:List Prop} {o v:β} {P:Program} {rd:Option Nat} {root:Code} {q:List Nat} {s:St} {f:FuncId} {args:List A}
theorem lB_(hm:P.follows .mixedOrders=true)(h:some v=some o)(l:List Ws){E:β->Ex}{S:β->St}
 (he:(cj Q True/\(E v=E v/\S v=S v))=S0 P rd root ws lw q l s (E v) (S v)):Gl ws lw Q (fun o=>Arr P rd root q s (E o) (S o)) o:=by
 cases si h
 exact fun k=>F7 hm ws lw l k he
theorem lP_(hm:P.follows .mixedOrders=true)(h:some v=some o)(l:List Ws){E:β->Ex}{S:β->St}
 (he:(cj Q True/\(E v=E v/\S v=S v))=S0 P rd root ws lw q l s (E v) (S v)):Gl ws lw Q (fun o=>EL P rd root q s (E o) (S o)) o:=by
 cases si h
 exact fun k=>(F7 hm ws lw l k he).lp
theorem lF_(hm:P.follows .mixedOrders=true)(h:some v=some o)(l:List Ws){R:β->A}
 (he:(cj Q True/\(R v=R v/\true=true))=aC3 P f ws lw l args (R v)):Gl ws lw Q (fun o=>AM P f args [] (R o) []) o:=by
 cases si h
 exact fun k=>aB5 hm ws lw l k he
theorem lI_(hm:P.follows .mixedOrders=true){F0:Bx}(hF:Far F0){r:A}{F:β->Bx}(hc:∀f,∀p∈F f,∀m,p.2.has m=true->m∈AK (F f))(h:some v=some o)(l:List Ws)
 (he:(cj Q True/\(r=r/\F v=F v/\true=true))=aKg P f ws lw l args F0 r (F v)):Gl ws lw Q (fun o=>K6 P f args F0 r (F o)) o:=by
 cases si h
 exact fun k=>aB6 hm ws lw l hF (hc _) k he
def XG(P:Program)(f:FuncId)(args:List A)(X:Bx)(ks:List Nat)(us:List Value)(r:A)(X':Bx):Prop:=∃ws lw wk,aKh P f ws lw wk args X ks us r X'
theorem XG.call{X:Bx}{ks:List Nat}{r:A}{X':Bx}(hm:P.follows .mixedOrders=true)(h:∀us,XG P f args X ks us r X'):AM P f args X r X':=by refine aKh.call (ws:=fun us=>(h us).choose) (lw:=fun us=>(h us).choose_spec.choose) (wk:=fun us=>(h us).choose_spec.choose_spec.choose) hm fun us=>(h us).choose_spec.choose_spec.choose_spec
theorem lX_{X:Bx}{ks:List Nat}{us:List Value}(h:some v=some o)(l:List Ws){R:β->A}{X':β->Bx}
 (he:(cj Q True/\(R v=R v/\X' v++[(vx,.vals (F3 args ks) us)]=X' v++[(vx,.vals (F3 args ks) us)]/\true=true))=aKh P f ws lw l args X ks us (R v) (X' v)):Gl ws lw Q (fun o=>XG P f args X ks us (R o) (X' o)) o:=by
 cases si h
 exact fun k=>⟨ws,lw,l,he.mp ⟨k,rfl,rfl,rfl⟩⟩
end
section
variable {σ τ:Type} {P:Program} {rd:Option Nat} {root:Code} {p:List Nat} {step:σ->Option (σ⊕τ)}
theorem lL(I:σ->St)(O:τ->Ex×St)(s:σ)(hr:∀s o,step s=some o->Gl [] [] [] (fun o=>Arr P rd root (0::p) (I s) (rR I O o).1 (rR I O o).2) o)
 {t:τ} (h:AZ step s=some t) (hl:aAz (Av root p)=true:=by kernel_rfl) (hO:∀t,isN (O t).1=false:=by intro t;first|rfl|(rcases t with _|_<;>rfl)|(rcases t with _|_|_<;>rfl)|(rcases t with _|_|_|_<;>rfl)|(rcases t with _|_|_|_|_<;>rfl)):EL P rd root p (I s) (O t).1 (O t).2:=
 aA8 I O hl (fun t=>aA0 (hO t)) (fun s o h=>hr s o h trivial) h
end
end Go.Ac
namespace Go.Ac
open Go.Proofs Go.Shelf Go.RowKit Go.Lib Go.Sort

def BN(w:World)(b:Nat)(e:TypeId)(cur:List Value):Prop:=w.heap[b]? =some (.cells ⟨cur⟩ e (0,0))
section
variable {w:World} {b:Nat} {e:TypeId} {cur:List Value}
theorem BN.cell(h:BN w b e cur)(j:Nat):w.cell? ⟨b,j,none⟩=cur[j]? :=by rw[cell_of_row w b j ⟨cur⟩ e (0,0) h];simp
theorem BN.thawed(h:BN w b e cur)(j:Nat):w.frozen? ⟨b,j,none⟩=false:=by unfold World.frozen?;rw[show w.heap[b]? =_ from h];simp
theorem BN.shape(h:BN w b e cur):w.shape? b=some (e,cur.length):=by unfold World.shape?;rw[show w.heap[b]? =_ from h];simp
theorem BN.lt(h:BN w b e cur):b<w.heap.size:=(Array.getElem?_eq_some_iff.1 h).1
theorem BN.drew(h:BN w b e cur):BN w.drew b e cur:=h
theorem BN.set1(h:BN w b e cur)(o:Nat)(v:Value):BN (w.setCell ⟨b,o,none⟩ v) b e (cur.set o v):=by unfold BN at h⊢;simp[World.setCell,Array.getElem?_modify,h]
end
theorem BN.set{b:Nat}{e:TypeId}:∀(vs:List Value) {w:World} {cur:List Value} (o:Nat),BN w b e cur->o+vs.length<=cur.length->
 BN (w.setCells b o vs) b e (cur.take o++vs++cur.drop (o+vs.length))
 |[],w,cur,o,h,hl=>by simpa[World.setCells]using h
 |v::vs,w,cur,o,h,hl=>by
  rw[World.setCells];have hl':o+1+vs.length<=cur.length:=by simpa[Nat.add_assoc,Nat.add_comm,Nat.add_left_comm]using hl
  have h1:=BN.set vs (o+1) (h.set1 o v) (by simpa using hl');have e1:(cur.set o v).take (o+1)=cur.take o++[v]:=by rw[List.take_set,List.take_succ_eq_append_getElem (by omega),List.set_append_right _ _ (by simp;omega)];simp[Nat.min_eq_left (show o<=cur.length by omega)]
  have e2:(cur.set o v).drop (o+1+vs.length)=cur.drop (o+(v::vs).length):=by rw[List.drop_set_of_lt (by omega)];congr 1;simp;omega
  rw[e1,e2]at h1;simpa using h1
theorem BU(b:Nat):∀(vs:List Value) (o:Nat) (w:World),(w.setCells b o vs).os=w.os/\(w.setCells b o vs).tape=w.tape/\(w.setCells b o vs).output=w.output/\
 (w.setCells b o vs).heap.size=w.heap.size/\∀x,x≠b->(w.setCells b o vs).heap[x]? =w.heap[x]?
 |[],o,w=>⟨rfl,rfl,rfl,rfl,fun _ _=>rfl⟩
 |v::vs,o,w=>by
  rw[World.setCells];obtain⟨a1,a2,a3,a4,a5⟩:=BU b vs (o+1) (w.setCell ⟨b,o,none⟩ v);refine⟨a1,a2,a3,a4.trans (World.size_setCell _ _ _),fun x hx=>(a5 x hx).trans ?_⟩;simp[World.setCell,Array.getElem?_modify,Ne.symm hx]

theorem BQ(z:Array Value)(n:Nat):(Builtin.zeroCells z n).toList.length=n*z.size:=by simp[Builtin.zeroCells]
structure Mg(P:Program)(t e:TypeId)(i:TypeInfo)(z:Value):Prop where
 ht:P.underlying t=some (.slice e)
 hi:P.info? e=some i
 hz:i.zero=some z
 hzs:z.cells.size=i.size
 h1:∀v∈z.cells,v.oneCell'=true

end Go.Ac
namespace Go.Ac
open Go.Proofs Go.Shelf Go.RowKit Go.Lib Go.Sort

theorem FX{X:Bx}{m:Nat}{e:TypeId}{k:Nat}{ys:List D}{h:Hw}{w:World}{val:Val}{v v':Value}{w':World}{us':List Value}
 (hm:m∉AK X) (hh:∀g,v.ownBlock=some g->h g=0) (hM:∀g,v.ownBlock=some g->g∈Aa val X)
 (hown':w'.ownsRow 0 e k v' ys.length us') (hrow':Ah h w k ys us')
 (hcase:∀g,v'.ownBlock=some g->v.ownBlock=some g\/w.heap.size<=g) (hgrow:w.grownBy w' v.ownBlock) (hgl:GOk h w):
 ∃h' val' u,Ending.returned v'=.returned u/\Inv h' w' val' [(m,.rw e k ys)]/\RA h' w' val' (.row m) u/\BI (Aa val X) h w h' w'/\
  (∀n,(n∈AK [(m,Bk.rw e k ys)]->n∈AK X)->val' n=val n)/\∀b∈Aa val' [(m,.rw e k ys)],b∈Aa val X\/w.heap.size<=b:=by
 let h':Hw:=fun b=>if v'.ownBlock=some b then 0 else h b
 have hvm:An val m v' m=v':=by simp[An]
 have hkeep0:BI v.ownBlock.toList h w h' w':=by
  refine⟨hgrow.os,hgrow.tape,hgrow.output,hgrow.size,fun b j x hj hcx=>?_,fun b hb=>?_,fun b hb hn=>?_⟩;by_cases hvb:some b=v.ownBlock;rw[hh b hvb.symm]at hj;exact absurd hj (Nat.not_lt_zero _);rw[World.cell?_of_block (w:=w) (a:=⟨b,j,none⟩) (hgrow.block b (Cj hcx) hvb)];exact hcx;show h b<=if v'.ownBlock=some b then _ else h b
  split;rename_i hvb;rcases hcase b hvb with h1|h1
  rw[hh b h1];exact Nat.le_refl _;omega;exact Nat.le_refl _;have hn':some b≠v.ownBlock:=fun e=>hn (by rw[<-e];simp);refine⟨hgrow.block b hb hn',?_⟩;show(if v'.ownBlock=some b then _ else h b)=h b
  rw[if_neg fun hvb=>?_];rcases hcase b hvb with h1|h1
  exact hn' h1.symm;omega
 have hkeep:BI (Aa val X) h w h' w':=hkeep0.mono' fun x hx=>by
  cases hvo:v.ownBlock with
  |none=>simp[hvo]at hx
  |some g=>simp[hvo]at hx;subst hx;exact .inl (hM _ hvo)
 have hvbv:vblk v'=v'.ownBlock:=BV hown'
 have hlen:us'.length=ys.length*k:=Ah.length hrow'
 have hbl:Aa (An val m v') [(m,.rw e k ys)]=v'.ownBlock.toList:=by rw[Aj,CQ rfl,hvm,hvbv];exact List.append_nil _
 refine⟨h',An val m v',v',rfl,⟨?_,by simp[AK],?_,hgl.stays hkeep0.stays⟩,?_,hkeep,?_,?_⟩
 intro p hp
 simp only[List.mem_singleton]at hp
 subst hp
 refine⟨us',by rw[hvm];exact hown',Ah.stays hkeep0.stays _ _ _ hrow',fun g hg=>?_⟩
 rw[hvm]at hg
 show(if v'.ownBlock=some g then _ else h g)=_
 rw[if_pos hg]
 rw[hbl];cases v'.ownBlock<;>simp
 simp only[RA,hvm]
 exact⟨trivial,.inl (Bq hown')⟩
 intro n hn
 by_cases e:n=m
 subst e;exact absurd (hn (by simp[AK])) hm
 simp[An,e]
 intro b hb
 rw[hbl]at hb
 have hb':v'.ownBlock=some b:=by cases hq:v'.ownBlock with
  |none=>rw[hq]at hb;simp at hb
  |some g=>rw[hq]at hb;simp at hb;rw[hb]
 rcases hcase b hb' with h1|h1
 exact .inl (hM b h1)
 exact .inr h1

theorem FY{P:Program}{t e:TypeId}{k by_:Nat}(ht:P.underlying t=some (.slice e))
 (hq:(P.info? e).map (fun i=>(i.size,i.bytes,i.zero.map (·.cells.size),i.zero.map (fun z=>z.cells.all (·.oneCell'))))=some (k,by_,some k,some true)):
 ∃i z,Mg P t e i z/\i.size=k/\i.bytes=by_:=by
 simp only[om,pe]at hq
 obtain⟨i,hi,h1,h2,⟨z,hz,hzs⟩,⟨z',hz',hza⟩⟩:=hq
 rw[hz]at hz'
 cases hz'
 refine⟨i,z,⟨ht,hi,hz,hzs.trans h1.symm,fun v hv=>?_⟩,h1,h2⟩
 rw[Array.all_eq_true']at hza
 exact hza v hv
end Go.Ac
namespace Go.Ac
open Go.Proofs Go.Shelf Go.RowKit Go.Lib Go.Sort
theorem K0{z:Array Value}(h:∀v∈z,v.oneCell'=true)(n:Nat):∀v∈(Builtin.zeroCells z n).toList,v.oneCell'=true:=by
 intro v hv;simp only[Builtin.zeroCells,Array.toList_map,mm]at hv;obtain⟨i,hi,rfl⟩:=hv;have hi':i<n*z.size:=by simpa using hi
 have h0:0<z.size:=by
  rcases Nat.eq_zero_or_pos z.size with h|h
  rw[h,Nat.mul_zero]at hi';exact absurd hi' (Nat.not_lt_zero _);exact h
 have h1:i % z.size<z.size:=Nat.mod_lt _ h0;rw[getElem!_pos z _ h1];exact h _ (by simp)

theorem Ks{P:Program}(w:World)(t e ty:TypeId)(z:Value)(ht:P.underlying t=some (.slice e))(hv:∀w,(zeroValue e).run P w=.ok z w)(h1:∀v∈z.cells,v.oneCell'=true)(b o n c:Nat)(hn:0<n)
 (hc:∀j,j<n*z.cells.size->(w.cell? ⟨b,o+j,none⟩).isSome=true) (hf:∀j,j<n*z.cells.size->w.frozen? ⟨b,o+j,none⟩=false):
 (Builtin.clear_ #[t] ty #[.slice (some ⟨b,o,none⟩) n c]).run P w=.ok (.tuple #[]) (w.setCells b o (Builtin.zeroCells z.cells n).toList):=by
 have hst:=run_storeCells_cells (P:=P) b o (Builtin.zeroCells z.cells n).toList 0 w (by rw[BQ];exact hc) (by rw[BQ];exact hf) (K0 h1 n)
 simp only[Nat.add_zero]at hst
 obtain⟨m,rfl⟩:∃m,n=m+1:=⟨n-1,by omega⟩
 simp[Builtin.clear_,run_underlying ht,hv,hst]

section
variable {P:Program} {ρ:Ren}
set_option maxHeartbeats 4000000 in
set_option maxRecDepth 1000000 in
theorem QH{e:TypeId}{i0:TypeInfo}{z:Value}(mixed:P.follows .mixedOrders=true)(FB:Bears P (ρ.f 45) (SlBodyN.n45 ρ))(t0:P.underlying (ρ.t 0)=some (.tuple #[]))
 (t3:P.underlying (ρ.t 3)=some (.int .i64)) (t4:P.underlying (ρ.t 4)=some .bool) (T:Mg P (ρ.t 22) e i0 z) (w:World) (ad:Option Addr) (n cap i:Nat) (hi:i<=n) (hn:n<=cap) (hc:cap<=maxLen) (hp:∀a,ad=some a->a.spot=none) (hne:ad=none->n=0/\cap=0):
 Calls P (ρ.f 45) #[.slice ad n cap,.int .i64 i,.int .i64 i] w fun e w'=>e=.returned (.slice ad n cap)/\w'=w:=by
 have t22:=T.ht
 have z23:=Aw (P:=P) (t:=e) (by rw[T.hi];rfl)
 have a22:∀w,(isAgg (ρ.t 22)).run P w=.ok false w:=fun w=>Ao (by simp[Bd,t22]) w
 have a3:∀w,(isAgg (ρ.t 3)).run P w=.ok false w:=fun w=>Ao (by simp[Bd,t3]) w
 have a4:∀w,(isAgg (ρ.t 4)).run P w=.ok false w:=fun w=>Ao (by simp[Bd,t4]) w
 obtain⟨_,_,FG⟩:=FB
 go_enter FG,SlBodyN.n45_ntmps ρ
 go_wp2
 all_goals (go_ret;exact⟨rfl,rfl⟩)

set_option maxHeartbeats 4000000 in
set_option maxRecDepth 1000000 in
theorem aIv{e:TypeId}{i0:TypeInfo}{z:Value}(mixed:P.follows .mixedOrders=true)(FB:Bears P (ρ.f 45) (SlBodyN.n45 ρ))(t0:P.underlying (ρ.t 0)=some (.tuple #[]))
 (t3:P.underlying (ρ.t 3)=some (.int .i64)) (t4:P.underlying (ρ.t 4)=some .bool) (T:Mg P (ρ.t 22) e i0 z) (w:World) (blk n cap i j:Nat) (cur:List Value)
 (hr:BN w blk e cur) (hone:∀u∈cur.take (n*i0.size),u.oneCell'=true) (hcur:cur.length=cap*i0.size) (hij:i<j) (hj:j<=n) (hn:n<=cap) (hc:cap<=9223372036854775807):
 Calls P (ρ.f 45) #[.slice (some ⟨blk,0,none⟩) n cap,.int .i64 i,.int .i64 j] w fun ex w'=>ex=.returned (.slice (some ⟨blk,0,none⟩) (n-(j-i)) cap)/\
  w'=(w.drew.setCells blk (i*i0.size) ((cur.take (n*i0.size)).drop (j*i0.size))).setCells blk ((i+(n-j))*i0.size) (Builtin.zeroCells z.cells (n-(i+(n-j)))).toList:=by
 have t22:=T.ht
 obtain⟨k,hk⟩:∃k,k=i0.size:=⟨_,rfl⟩
 rw[<-hk]at hcur hone⊢
 have hzk:z.cells.size=k:=by rw[hk];exact T.hzs
 have z23:∀w,(Go.sizeOf e).run P w=.ok k w:=fun w=>by simp[sizeOf,typeInfo,T.hi,hk]
 have v23:∀w,(zeroValue e).run P w=.ok z w:=fun w=>by simp[zeroValue,typeInfo,T.hi,T.hz]
 have a22:∀w,(isAgg (ρ.t 22)).run P w=.ok false w:=fun w=>Ao (by simp[Bd,t22]) w
 have a3:∀w,(isAgg (ρ.t 3)).run P w=.ok false w:=fun w=>Ao (by simp[Bd,t3]) w
 have a4:∀w,(isAgg (ρ.t 4)).run P w=.ok false w:=fun w=>Ao (by simp[Bd,t4]) w
 obtain⟨news,hnews⟩:∃news,news=(cur.take (n*k)).drop (j*k):=⟨_,rfl⟩
 rw[<-hnews]
 have hnk:n*k<=cap*k:=Nat.mul_le_mul_right k hn
 have hlen:news.length=(n-j)*k:=by rw[hnews,List.length_drop,List.length_take,Nat.min_eq_left (by omega),Nat.sub_mul]
 have hget:∀t u,news[t]? =some u->w.cell? ⟨blk,j*k+t,none⟩=some u:=by intro t u hu;rw[hr.cell];rw[hnews,List.getElem?_drop,List.getElem?_take]at hu;split at hu;exact hu;cases hu
 obtain⟨A,hA,hsrc⟩:∃A:Addr,(if cap=j then some (⟨blk,0,none⟩:Addr)else some ⟨blk,j*k,none⟩)=some A/\Hid (∀t u,news[t]? =some u->w.drew.cell? (A.add t)=some u):=by
  by_cases h:cap=j;refine⟨⟨blk,0,none⟩,by simp[h],fun t u hu=>?_⟩;have h0:news.length=0:=by rw[hlen,show n-j=0 by omega,Nat.zero_mul]
  rw[List.length_eq_zero_iff.1 h0]at hu;simp at hu;refine⟨⟨blk,j*k,none⟩,by simp[h],fun t u hu=>?_⟩;rw[Addr.add_lit];exact hget t u hu
 have s1:Hid (news.length=(n-j)*k):=hlen
 have s2:Hid (∀u∈news,u.oneCell'=true):=by intro u hu;rw[hnews]at hu;exact hone u (List.mem_of_mem_drop hu)
 have hik:i*k+(n-j)*k<=n*k:=by rw[<-Nat.add_mul];exact Nat.mul_le_mul_right k (by omega)
 have s3:Hid (∀t,t<news.length->(w.drew.cell? ⟨blk,0+i*k+t,none⟩).isSome=true/\w.drew.frozen? ⟨blk,0+i*k+t,none⟩=false):=by intro t ht;rw[hlen]at ht;rw[Nat.zero_add];refine⟨?_,hr.drew.thawed _⟩;rw[hr.drew.cell,List.getElem?_eq_getElem (by omega)];rfl
 obtain⟨W1,hW1⟩:∃W1,W1=w.drew.setCells blk (i*k) news:=⟨_,rfl⟩
 have hR1:∃cur1,BN W1 blk e cur1/\cur1.length=cap*k:=by refine⟨_,by rw[hW1];exact BN.set news (i*k) hr.drew (by omega),?_⟩;simp only[List.length_append,List.length_take,List.length_drop];omega
 obtain⟨cur1,hR1,hc1⟩:=hR1
 have hcl:∀ty,(Builtin.clear_ #[ρ.t 22] ty #[.slice (some ⟨blk,(i+(n-j))*k,none⟩) (n-(i+(n-j))) (cap-(i+(n-j)))]).run P W1=.ok (.tuple #[]) (W1.setCells blk ((i+(n-j))*k) (Builtin.zeroCells z.cells (n-(i+(n-j)))).toList):=by
  intro ty;refine Ks W1 _ e ty z t22 v23 T.h1 blk _ _ _ (by omega) (fun t ht=>?_) (fun t ht=>hR1.thawed _);rw[hR1.cell,List.getElem?_eq_getElem];rfl;rw[hzk,]at ht;have:(i+(n-j))*k+(n-(i+(n-j)))*k=n*k:=by rw[<-Nat.add_mul];congr 1;omega
  omega
 have hW:Hid (W1=w.drew.setCells blk (0+i*k) news):=by rw[Nat.zero_add];exact hW1
 have X:Aside (W1=w.drew.setCells blk (i*k) news):=hW1
 have hic:i<=cap:=by omega
 have hjc:j<=cap:=by omega
 have hTi:=T.hi
 obtain⟨Z,hZ⟩:∃Z,Z=(Builtin.zeroCells z.cells (n-(i+(n-j)))).toList:=⟨_,rfl⟩
 rw[<-hZ]at hcl⊢
 have hkA:Hid (i0.size=k):=hk.symm
 clear hW1 hR1 hc1 hget hnews hlen hr hone hcur hnk hik T hk hZ hzk v23
 obtain⟨_,_,FG⟩:=FB
 go_enter FG,SlBodyN.n45_ntmps ρ
 go_wp2_with fail
 go_region_law_o (refine step_append_room rfl (.tmp 22) (.tmp 25) (ρ.t 22) rfl e i0 k t22 hTi hkA.out blk 0 i cap (by simp[Act.eval,Act.put]) A (n-j) (cap-j) news (by simp[Act.eval,Act.put]) s1.out hsrc.out s2.out (by omega) s3.out ?_;rw[<-hW.out])
 go_wp2
 go_ret
 refine⟨by rw[show n-(j-i)=i+(n-j) by omega];rfl,?_⟩
 rw[<-X.out]
theorem aLn{e:TypeId}{i0:TypeInfo}{z:Value}(mixed:P.follows .mixedOrders=true)(FB:Bears P (ρ.f 45) (SlBodyN.n45 ρ))(t0:P.underlying (ρ.t 0)=some (.tuple #[]))
 (t3:P.underlying (ρ.t 3)=some (.int .i64)) (t4:P.underlying (ρ.t 4)=some .bool) (T:Mg P (ρ.t 22) e i0 z) (xs:List D) (i j:Nat) (hij:i<=j) (hj:j<=xs.length):
 AM P (ρ.f 45) [.row 0,.d (.v (.int .i64 i)),.d (.v (.int .i64 j))] [(0,.rw e i0.size xs)] (.row 1) [(1,.rw e i0.size (xs.take i++xs.drop j))]:=by
 intro h w val vs hI hA
 simp only[RAs,RA,RD]at hA
 obtain⟨_,_,rfl,⟨rfl,_⟩,_,_,rfl,⟨rfl,_⟩,_,_,rfl,⟨rfl,_⟩,rfl⟩:=hA
 obtain⟨us,hown,hrow,hh⟩:=hI.rep (0,.rw e i0.size xs) (by simp)
 have hlen:=Ah.length hrow
 have hM:∀g,(val 0).ownBlock=some g->g∈Aa val [(0,Bk.rw e i0.size xs)]:=by intro g hg;rw[Aj,CQ rfl,BV hown,hg];exact List.mem_cons_self
 have hrow2:Ah h w i0.size (xs.take i++xs.drop j) (us.take (i*i0.size)++us.drop (j*i0.size)):=Ah.append (Ah.take i hrow) (Ah.drop j hrow)
 have hgo:∀v' w',w'.ownsRow 0 e i0.size v' (xs.take i++xs.drop j).length (us.take (i*i0.size)++us.drop (j*i0.size))->v'.ownBlock=(val 0).ownBlock->w.grownBy w' (val 0).ownBlock->
  ∃h' val' u,Ending.returned v'=.returned u/\Inv h' w' val' [(1,.rw e i0.size (xs.take i++xs.drop j))]/\RA h' w' val' (.row 1) u/\BI (Aa val [(0,.rw e i0.size xs)]) h w h' w'/\
  (∀n,(n∈AK [(1,Bk.rw e i0.size (xs.take i++xs.drop j))]->n∈AK [(0,Bk.rw e i0.size xs)])->val' n=val n)/\∀b∈Aa val' [(1,.rw e i0.size (xs.take i++xs.drop j))],b∈Aa val [(0,.rw e i0.size xs)]\/w.heap.size<=b:=
  fun v' w' h1 h2 h3=>FX (by simp[AK]) hh hM h1 hrow2 (fun g hg=>.inl (by rw[<-h2];exact hg)) h3 hI.glob
 rcases Nat.eq_or_lt_of_le hij with rfl|hlt
 --nothing is taken out
 have e1:xs.take i++xs.drop i=xs:=List.take_append_drop i xs
 have e2:us.take (i*i0.size)++us.drop (i*i0.size)=us:=List.take_append_drop _ us
 rw[e1,e2]at hgo
 rw[e1]
 rcases hown.2 with⟨hv,h0⟩|⟨g,cap,cur,hv,_,hg,hn,hc,hcs,htk⟩
 rw[hv]
 refine(QH mixed FB t0 t3 t4 T w none 0 0 i (by omega) (Nat.le_refl _) (by decide) (by simp) (by simp)).mono ?_
 rintro ex w' ⟨rfl,rfl⟩
 exact hgo _ _ (by rw[<-hv];exact hown) (by rw[hv]) ⟨rfl,rfl,rfl,Nat.le_refl _,fun _ _ _=>rfl⟩
 rw[hv]
 refine(QH mixed FB t0 t3 t4 T w _ _ cap i hj hn hc (by rintro a ha;cases ha;rfl) (by simp)).mono ?_
 rintro ex w' ⟨rfl,rfl⟩
 exact hgo _ _ (by rw[<-hv];exact hown) (by rw[hv]) ⟨rfl,rfl,rfl,Nat.le_refl _,fun _ _ _=>rfl⟩
 rcases hown.2 with⟨hv,h0⟩|⟨g,cap,cur,hv,_,hg,hn,hc,hcs,htk⟩
 omega
 rw[hv]
 have hR:BN w g e cur.toList:=by unfold BN;simpa using hg
 refine(aIv mixed FB t0 t3 t4 T w g xs.length cap i j cur.toList hR (by rw[htk];exact Ah.one hrow) (by simpa using hcs) hlt hj hn (Nat.le_trans hc (by decide))).mono ?_
 rintro ex w' ⟨rfl,rfl⟩
 rw[htk]
 obtain⟨k,hk⟩:∃k,k=i0.size:=⟨_,rfl⟩
 have hzs:=T.hzs
 rw[<-hk]at hzs hcs hlen htk hgo⊢
 have m1:xs.length*k<=cap*k:=Nat.mul_le_mul_right k hn
 have m2:(i+(xs.length-j))*k=i*k+(xs.length-j)*k:=Nat.add_mul _ _ _
 have m3:(xs.length-j)*k=xs.length*k-j*k:=Nat.sub_mul _ _ _
 have m4:j*k<=xs.length*k:=Nat.mul_le_mul_right k hj
 have m5:i*k<=j*k:=Nat.mul_le_mul_right k hij
 have m6:(xs.length-(i+(xs.length-j)))*k=xs.length*k-(i*k+(xs.length-j)*k):=by rw[Nat.sub_mul,m2]
 have hul:cur.toList.length=cap*k:=by simpa using hcs
 have l1:(us.drop (j*k)).length=(xs.length-j)*k:=by rw[List.length_drop,hlen,m3]
 have hR1:=BN.set (us.drop (j*k)) (i*k) hR.drew (by rw[l1];omega)
 have l2:(cur.toList.take (i*k)++us.drop (j*k)).length=(i+(xs.length-j))*k:=by rw[List.length_append,List.length_take,Nat.min_eq_left (by omega),l1,m2]
 obtain⟨rest,hrest⟩:∃rest,rest=cur.toList.drop (i*k+(us.drop (j*k)).length):=⟨_,rfl⟩
 rw[<-hrest]at hR1
 have l3:rest.length=cap*k-(i*k+(xs.length-j)*k):=by rw[hrest,List.length_drop,l1,hul]
 have hR2:=BN.set (Builtin.zeroCells z.cells (xs.length-(i+(xs.length-j)))).toList ((i+(xs.length-j))*k) hR1 (by rw[BQ,hzs,List.length_append,l2,l3,m6];omega)
 have e3:xs.length-(j-i)=(xs.take i++xs.drop j).length:=by rw[List.length_append,List.length_take,List.length_drop,Nat.min_eq_left (by omega)];omega
 have e4:(xs.take i++xs.drop j).length=i+(xs.length-j):=by omega
 have hgo2:=hgo (.slice (some ⟨g,0,none⟩) (xs.length-(j-i)) cap) ((w.drew.setCells g (i*k) (us.drop (j*k))).setCells g ((i+(xs.length-j))*k) (Builtin.zeroCells z.cells (xs.length-(i+(xs.length-j)))).toList) ?_ (by rw[hv];rfl) ?_
 exact hgo2
 rw[e3]
 refine⟨by rw[e4,m2];rw[List.length_append,List.length_take,l1,Nat.min_eq_left (by omega)],.inr ⟨g,cap,_,rfl,Nat.zero_le _,hR2,by rw[e4];omega,hc,?_,?_⟩⟩
 simp only[List.size_toArray,List.length_append,List.length_take,List.length_drop,BQ,hzs,l1,l3,m6]
 omega
 rw[e4]
 have e5:cur.toList.take (i*k)=us.take (i*k):=by rw[<-htk,List.take_take,Nat.min_eq_left (by omega)]
 simp only
 rw[List.append_assoc,List.take_append_of_le_length (by rw[List.length_take,List.length_append,l2];omega),List.take_take,Nat.min_self,List.take_append_of_le_length (by rw[l2];exact Nat.le_refl _),List.take_of_length_le (by rw[l2];exact Nat.le_refl _),e5]
 rw[hv]
 obtain⟨a1,a2,a3,a4,a5⟩:=BU g (us.drop (j*k)) (i*k) w.drew
 obtain⟨b1,b2,b3,b4,b5⟩:=BU g (Builtin.zeroCells z.cells (xs.length-(i+(xs.length-j)))).toList ((i+(xs.length-j))*k) (w.drew.setCells g (i*k) (us.drop (j*k)))
 refine⟨b1.trans a1,b2.trans a2,b3.trans a3,Nat.le_of_eq (b4.trans a4).symm,fun x hx hne=>?_⟩
 have hne':x≠g:=fun q=>hne (by rw[q];rfl)
 exact(b5 x hne').trans (a5 x hne')
end
def aT1{α:Type}(a b:Int)(l:List α):Option (List α):=if 0<=a/\a<=b/\b<=l.length then some (l.take a.toNat++l.drop b.toNat)else none
theorem aN2{P:Program}{ρ:Ren}{e:TypeId}{k by_ fi:Nat}{α:Type}(f:α->D)(mixed:P.follows .mixedOrders=true)(hfi:ρ.f 45=fi)(FB:Bears P (ρ.f 45) (SlBodyN.n45 ρ))(t0:P.underlying (ρ.t 0)=some (.tuple #[]))
 (t3:P.underlying (ρ.t 3)=some (.int .i64)) (t4:P.underlying (ρ.t 4)=some .bool) (ht:P.underlying (ρ.t 22)=some (.slice e))
 (hq:(P.info? e).map (fun i=>(i.size,i.bytes,i.zero.map (·.cells.size),i.zero.map (fun z=>z.cells.all (·.oneCell'))))=some (k,by_,some k,some true))
 (a b:Int) (l r:List α) (h:aT1 a b l=some r):AM P fi [.row 0,.d (D.i .i64 a),.d (D.i .i64 b)] [(0,.rw e k (l.map f))] (.row 1) [(1,.rw e k (r.map f))]:=by
 obtain⟨i,z,T,rfl,rfl⟩:=FY ht hq
 unfold aT1 at h
 split at h
 rename_i hc
 obtain rfl:=Option.some.inj h
 obtain⟨n,rfl⟩:=Int.eq_ofNat_of_zero_le hc.1
 obtain⟨m,rfl⟩:=Int.eq_ofNat_of_zero_le (Int.le_trans hc.1 hc.2.1)
 subst hfi
 have:=aLn mixed FB t0 t3 t4 T (l.map f) n m (by omega) (by rw[List.length_map];omega)
 simpa[List.map_take,List.map_drop,D.i]using this
 cases h
end Go.Ac
namespace Go.Ac
open Go.Proofs Go.Shelf Go.RowKit Go.Lib Go.Sort
section
variable {P:Program} {ρ:Ren}
theorem Dn(w:World)(dT sT ty elem:TypeId)(b o dLen dCap:Nat)(a:Addr)(sLen sCap:Nat)(cs:List Value)(i:TypeInfo)
 (hu:P.underlying dT=some (.slice elem)) (hi:P.info? elem=some i) (hn:cs.length=Nat.min sLen dLen*i.size)
 (hsrc:∀j v,cs[j]? =some v->w.cell? (a.add j)=some v) (hc:∀j,j<cs.length->(w.cell? ⟨b,o+j,none⟩).isSome=true) (hf:∀j,j<cs.length->w.frozen? ⟨b,o+j,none⟩=false) (h1:∀v∈cs,v.oneCell'=true):
 (Builtin.copy_ #[dT,sT] ty #[.slice (some ⟨b,o,none⟩) dLen dCap,.slice (some a) sLen sCap]).run P w=.ok (goInt (Nat.min sLen dLen)) (w.setCells b o cs):=by
 have hl:=run_firstCells_some (P:=P) w i.size (Nat.min sLen dLen) a sLen sCap cs (by omega) hsrc
 have hst:=run_storeCells_cells (P:=P) b o cs 0 w (by simpa using hc) (by simpa using hf) h1
 simp[Builtin.copy_,run_underlying hu,Builtin.lenOf,sizeOf,typeInfo,hi,hl,hst]

set_option maxHeartbeats 4000000 in
set_option maxRecDepth 100000 in
theorem aN7{e:TypeId}{i0:TypeInfo}{z:Value}(mixed:P.follows .mixedOrders=true)(FB:Bears P (ρ.f 22) (Body2.n22 ρ))
 (t3:P.underlying (ρ.t 3)=some (.int .i64)) (t4:P.underlying (ρ.t 4)=some .bool) (T:Mg P (ρ.t 24) e i0 z) (w:World) (ad:Option Addr) (n cap:Nat) (us:List Value) (a:Addr) (m vc:Nat) (vs:List Value)
 (hown:w.ownsRow 0 e i0.size (.slice ad n cap) n us) (hm:0<m) (hvl:vs.length=m*i0.size) (hvs:∀j u,vs[j]? =some u->w.cell? (a.add j)=some u) (h1v:∀u∈vs,u.oneCell'=true)
 (h63:n+m<=maxLen) (hbytes:(n+m)*i0.bytes<=140737488355328):
 Calls P (ρ.f 22) #[.slice ad n cap,.int .i64 n,.slice (some a) m vc] w fun ex w'=>∃v',ex=.returned v'/\w'.ownsRow 0 e i0.size v' (n+m) (us++vs)/\
  (((v'.ownBlock=(Value.slice ad n cap).ownBlock/\w.grownBy w' (Value.slice ad n cap).ownBlock)\/(v'.ownBlock=some w.heap.size/\w.grownBy w' none))):=by
 have t24:=T.ht
 have a24:∀w,(isAgg (ρ.t 24)).run P w=.ok false w:=fun w=>Ao (by simp[Bd,t24]) w
 have a3:∀w,(isAgg (ρ.t 3)).run P w=.ok false w:=fun w=>Ao (by simp[Bd,t3]) w
 have a4:∀w,(isAgg (ρ.t 4)).run P w=.ok false w:=fun w=>Ao (by simp[Bd,t4]) w
 have z9:∀w,(Go.sizeOf e).run P w=.ok i0.size w:=fun w=>by simp[sizeOf,typeInfo,T.hi]
 have hz1:¬((m:Int)=0):=by omega
 have hn:n<=cap:=by
  rcases hown.2 with⟨h,h0⟩|⟨g,cap',cur,h,_,_,h1,_⟩
  omega;cases h;exact h1
 obtain⟨v',w',hr,ho,hcase⟩:=C9 (P:=P) w (ρ.t 24) (ρ.t 24) e i0 z t24 T.hi T.hz T.hzs (.slice ad n cap) n us hown a m vc vs hvl hvs h1v h63 hbytes
 obtain⟨PQ,hPQ⟩:∃PQ:Value->World->Prop,∀a b,PQ a b↔(b.ownsRow 0 e i0.size a (n+m) (us++vs)/\
  (((a.ownBlock=(Value.slice ad n cap).ownBlock/\w.grownBy b (Value.slice ad n cap).ownBlock)\/(a.ownBlock=some w.heap.size/\w.grownBy b none)))):=⟨_,fun _ _=>Iff.rfl⟩
 have hX:Hid (PQ v' w'):=(hPQ _ _).2 ⟨ho,hcase⟩
 have hr':Hid ((Builtin.append_ #[ρ.t 24,ρ.t 24] (ρ.t 24) #[.slice ad n cap,.slice (some a) m vc]).run P w=.ok v' w'):=hr
 suffices h:Calls P (ρ.f 22) #[.slice ad n cap,.int .i64 n,.slice (some a) m vc] w fun ex w'=>∃v',ex=.returned v'/\PQ v' w' from
  h.mono fun ex w' ⟨v',h1,h2⟩=>⟨v',h1,(hPQ _ _).1 h2⟩
 have hnil:ad=none->n=0:=by
  intro h;subst h;rcases hown.2 with⟨_,h0⟩|⟨g,cap',cur,h,_⟩
  exact h0;cases h
 clear hr ho hcase hown hvs h1v hvl hPQ h63 hbytes T
 obtain⟨_,_,FG⟩:=FB
 go_enter FG,Body2.n22_ntmps ρ
 cases ad with
 |none=>
  have h0:=hnil rfl
  subst h0
  go_wp2_with (at_builtin;refine Lib.wpList_append_run _ rfl _ _ _ _ rfl _ _ rfl rfl _ _ hr'.out ?_)
  go_ret
  exact⟨_,rfl,hX.out⟩
 |some a=>
  obtain⟨ab,ao,asp⟩:=a
  go_wp2_with (at_builtin;refine Lib.wpList_append_run _ rfl _ _ _ _ rfl _ _ rfl rfl _ _ hr'.out ?_)
  all_goals (go_ret;exact⟨_,rfl,hX.out⟩)

set_option maxHeartbeats 4000000 in
set_option maxRecDepth 100000 in
theorem aI9{e:TypeId}{i0:TypeInfo}{z:Value}(mixed:P.follows .mixedOrders=true)(FB:Bears P (ρ.f 22) (Body2.n22 ρ))
 (t3:P.underlying (ρ.t 3)=some (.int .i64)) (t4:P.underlying (ρ.t 4)=some .bool) (T:Mg P (ρ.t 24) e i0 z)
 (hox:∀args w,(callFunc (ρ.f 29) args).run P w=((Extern.SlicesOverlaps.overlaps #[ρ.t 24,ρ.t 24] #[ρ.t 4] args).run P w).andThen fun v w=>.ok (.value v) w)
 (w:World) (b n c i:Nat) (cur us:List Value) (va:Addr) (m vc:Nat) (vs vcur:List Value) (ve:TypeId)
 (hr:BN w b e cur) (hcur:cur.length=c*i0.size) (htk:cur.take (n*i0.size)=us) (hone:∀u∈us,u.oneCell'=true)
 (hv:BN w va.block ve vcur) (hvb:va.block≠b) (hk0:0<i0.size)
 (hi:i<n) (hm:0<m) (hroom:n+m<=c) (hc63:c<=9223372036854775807)
 (hvl:vs.length=m*i0.size) (hvs:∀j u,vs[j]? =some u->w.cell? (va.add j)=some u) (h1v:∀u∈vs,u.oneCell'=true):
 Calls P (ρ.f 22) #[.slice (some ⟨b,0,none⟩) n c,.int .i64 i,.slice (some va) m vc] w fun ex w'=>
  ex=.returned (.slice (some ⟨b,0,none⟩) (n+m) c)/\w'=(w.drew.setCells b ((i+m)*i0.size) (us.drop (i*i0.size))).setCells b (i*i0.size) vs:=by
 have t24:=T.ht
 obtain⟨k,hk⟩:∃k,k=i0.size:=⟨_,rfl⟩
 have a24:∀w,(isAgg (ρ.t 24)).run P w=.ok false w:=fun w=>Ao (by simp[Bd,t24]) w
 have a3:∀w,(isAgg (ρ.t 3)).run P w=.ok false w:=fun w=>Ao (by simp[Bd,t3]) w
 have a4:∀w,(isAgg (ρ.t 4)).run P w=.ok false w:=fun w=>Ao (by simp[Bd,t4]) w
 have z9:∀w,(Go.sizeOf e).run P w=.ok k w:=fun w=>by simp[sizeOf,typeInfo,T.hi,hk]
 have hz1:¬((m:Int)=0):=by omega
 have hz2:¬((i:Int)=(n:Int)):=by omega
 rw[<-hk]at hcur htk hvl hk0⊢
 have hcl:cur.length=c*k:=hcur
 have hnk:n*k+m*k<=c*k:=by rw[<-Nat.add_mul];exact Nat.mul_le_mul_right k hroom
 have husl:us.length=n*k:=by rw[<-htk,List.length_take];omega
 have hik:i*k<=n*k:=Nat.mul_le_mul_right k (by omega)
 have hcell:∀j u,us[j]? =some u->w.cell? ⟨b,j,none⟩=some u:=by intro j u hu;rw[hr.cell];rw[<-htk,List.getElem?_take]at hu;split at hu;exact hu;cases hu
 have hov:∀lb cb,(callFunc (ρ.f 29) #[.slice (some va) m vc,.slice (some ⟨b,(i+m)*k,none⟩) lb cb]).run P w=.ok (.value (.bool false)) w:=fun lb cb=>by rw[hox,Lib.run_overlaps_apart w (ρ.t 24) (ρ.t 4) e t24 k z9 va ⟨b,(i+m)*k,none⟩ m vc lb cb hvb ve e vcur.length cur.length hv.shape hr.shape (by rw[hcl];exact Nat.ne_of_gt (Nat.mul_pos (by omega) hk0)) (by unfold World.frozen?;rw[show w.heap[va.block]? =_ from hv];simp) (hv.thawed _)];rfl
 have hw1:IntKind.i64.wrap ((i:Int)+(m:Int))=(i:Int)+(m:Int):=by rw[IntKind.wrap_i64];omega
 have hb1:(0:Int)<=(i:Int)+(m:Int):=by omega
 have hin:i<=n:=by omega
 have htn:((i:Int)+(m:Int)).toNat=i+m:=by omega
 have hb2:¬(c=i+m):=by omega
 have hb3:(i:Int)<=(n:Int)+(m:Int):=by omega
 have hb4:¬(c=i):=by omega
 have hdl:(us.drop (i*k)).length=(n-i)*k:=by rw[List.length_drop,husl,Nat.sub_mul]
 have e1:(i+m)*k=i*k+m*k:=Nat.add_mul _ _ _
 have e2:(n-i)*k=n*k-i*k:=Nat.sub_mul _ _ _
 have hmin1:Nat.min (n+m-i) (n+m-(i+m))=n-i:=by simp only[Nat.min_def];split<;>omega
 have hmin2:Nat.min m (n+m-i)=m:=by simp only[Nat.min_def];split<;>omega
 have hcp1:∀ty dc sc,(Builtin.copy_ #[(ρ.t 24),(ρ.t 24)] ty #[.slice (some ⟨b,(i+m)*k,none⟩) (n+m-(i+m)) dc,.slice (some ⟨b,i*k,none⟩) (n+m-i) sc]).run P w.drew=.ok (goInt ((n-i:Nat):Int)) (w.drew.setCells b ((i+m)*k) (us.drop (i*k))):=fun ty dc sc=>by
  have h:=Dn (P:=P) w.drew (ρ.t 24) (ρ.t 24) ty e b ((i+m)*k) (n+m-(i+m)) dc ⟨b,i*k,none⟩ (n+m-i) sc (us.drop (i*k)) i0 t24 T.hi (by rw[hdl,hmin1,hk])
   (fun j v hj=>by rw[Addr.add_lit];exact hcell (i*k+j) v (by rwa [List.getElem?_drop]at hj))
   (fun j hj=>by rw[hdl]at hj;rw[hr.drew.cell,List.getElem?_eq_getElem (by omega)];rfl) (fun j hj=>hr.drew.thawed _) (fun v hv=>hone v (List.mem_of_mem_drop hv))
  rw[hmin1]at h;exact h
 obtain⟨W1,hW1⟩:∃W1,W1=w.drew.setCells b ((i+m)*k) (us.drop (i*k)):=⟨_,rfl⟩
 obtain⟨cur1,hR1,hc1⟩:∃cur1,BN W1 b e cur1/\cur1.length=c*k:=by refine⟨_,by rw[hW1];exact BN.set _ _ hr.drew (by omega),?_⟩;simp only[List.length_append,List.length_take,List.length_drop];omega
 have hcp2:∀(W:World),(∀x,W.cell? x=W1.cell? x)->(∀x,W.frozen? x=W1.frozen? x)->∀ty dc,(Builtin.copy_ #[(ρ.t 24),(ρ.t 24)] ty #[.slice (some ⟨b,i*k,none⟩) (n+m-i) dc,.slice (some va) m vc]).run P W=.ok (goInt m) (W.setCells b (i*k) vs):=fun W hWc hWf ty dc=>by
  have h:=Dn (P:=P) W (ρ.t 24) (ρ.t 24) ty e b (i*k) (n+m-i) dc va m vc vs i0 t24 T.hi (by rw[hvl,hmin2,hk])
   (fun j v hj=>by rw[hWc,hW1,World.cell?_setCells_out b _ _ _ _ (fun h _=>absurd (by rw[<-h,Bo]) hvb)];exact hvs j v hj)
   (fun j hj=>by rw[hvl]at hj;rw[hWc,hR1.cell,List.getElem?_eq_getElem (by omega)];rfl) (fun j hj=>by rw[hWf,hR1.thawed]) h1v
  rw[hmin2]at h;exact h
 rw[<-hW1]at hcp1
 have X:Hid (W1=w.drew.setCells b ((i+m)*k) (us.drop (i*k))):=hW1
 clear hR1 hc1 hcell hr hv hone hvs h1v hvl hcur hcl htk husl hdl hk hW1 e1 e2 hmin1 hmin2 hnk hik T hox
 obtain⟨_,_,FG⟩:=FB
 go_enter FG,Body2.n22_ntmps ρ
 go_wp2_with (simp only[hov])
 go_region_law_o (refine step_copy_runI rfl _ _ (ρ.t 24) (ρ.t 24) rfl _ _ (by simp[Act.eval,Act.put]) (by simp[Act.eval,Act.put]) (hcp1 _ _ _) ?_)
 go_wp2_with (at_builtin;refine wpList_copy_runI _ rfl _ _ (ρ.t 24) (ρ.t 24) rfl _ _ rfl rfl (hcp2 _ (fun _=>rfl) (fun _=>rfl) _ _) ?_)
 go_ret
 exact⟨rfl,by rw[X.out]⟩

set_option maxHeartbeats 4000000 in
set_option maxRecDepth 100000 in
theorem aI8{e:TypeId}{i0:TypeInfo}{z:Value}(mixed:P.follows .mixedOrders=true)(FB:Bears P (ρ.f 22) (Body2.n22 ρ))
 (t3:P.underlying (ρ.t 3)=some (.int .i64)) (t4:P.underlying (ρ.t 4)=some .bool) (T:Mg P (ρ.t 24) e i0 z)
 (w:World) (b n c i:Nat) (cur us:List Value) (va:Addr) (m vc:Nat) (vs:List Value)
 (hr:BN w b e cur) (hcur:cur.length=c*i0.size) (htk:cur.take (n*i0.size)=us) (hone:∀u∈us,u.oneCell'=true)
 (hvb:va.block<w.heap.size) (hk0:0<i0.size)
 (hi:i<n) (hm:0<m) (hnc:n<=c) (hroom:c<n+m) (hbig:(n+m)*i0.bytes<=140737488355328) (h63:n+m<=maxLen)
 (hvl:vs.length=m*i0.size) (hvs:∀j u,vs[j]? =some u->w.cell? (va.add j)=some u) (h1v:∀u∈vs,u.oneCell'=true):
 Calls P (ρ.f 22) #[.slice (some ⟨b,0,none⟩) n c,.int .i64 i,.slice (some va) m vc] w fun ex w'=>
  ex=.returned (.slice (some ⟨w.heap.size,0,none⟩) (n+m) (grownCap w (n+m) c e))/\
  w'=(((w.alloc (.cells ((us.take (i*i0.size)).toArray++Builtin.zeroCells z.cells (n+m-i)++Builtin.zeroCells z.cells (grownCap w (n+m) c e-(n+m))) e)).drew.setCells w.heap.size (i*i0.size) vs).drew).setCells w.heap.size ((i+m)*i0.size) (us.drop (i*i0.size)):=by
 have t24:=T.ht
 obtain⟨k,hk⟩:∃k,k=i0.size:=⟨_,rfl⟩
 have a24:∀w,(isAgg (ρ.t 24)).run P w=.ok false w:=fun w=>Ao (by simp[Bd,t24]) w
 have a3:∀w,(isAgg (ρ.t 3)).run P w=.ok false w:=fun w=>Ao (by simp[Bd,t3]) w
 have a4:∀w,(isAgg (ρ.t 4)).run P w=.ok false w:=fun w=>Ao (by simp[Bd,t4]) w
 have z9:∀w,(Go.sizeOf e).run P w=.ok k w:=fun w=>by simp[sizeOf,typeInfo,T.hi,hk]
 have h63':n+m<=9223372036854775807:=Nat.le_trans h63 (by decide)
 have hz1:¬((m:Int)=0):=by omega
 have hz2:¬((i:Int)=(n:Int)):=by omega
 have hz3:(c:Int)<(n:Int)+(m:Int):=by omega
 have hkk:(n:Int)+(m:Int)-(i:Int)=((n+m-i:Nat):Int):=by omega
 have hik:i+(n+m-i)=n+m:=by omega
 have hzs:=T.hzs
 have hcur0:=hcur
 rw[<-hk]at hcur htk hvl hk0 hzs⊢
 have hnk:n*k<=c*k:=Nat.mul_le_mul_right k hnc
 have husl:us.length=n*k:=by rw[<-htk,List.length_take];omega
 have hikn:i*k<=n*k:=Nat.mul_le_mul_right k (by omega)
 have hcell:∀j u,us[j]? =some u->w.cell? ⟨b,j,none⟩=some u:=by intro j u hu;rw[hr.cell];rw[<-htk,List.getElem?_take]at hu;split at hu;exact hu;cases hu
 have hbw:b<w.heap.size:=hr.lt
 have hold:(Builtin.firstCells i0.size i (.slice (some ⟨b,0,none⟩) i c)).run P w.drew=.ok (us.take (i*k)).toArray w.drew:=by
  rw[<-hk];exact run_firstCells_some w.drew k i ⟨b,0,none⟩ i c (us.take (i*k)) (by rw[List.length_take];omega) (fun j v hj=>by rw[Addr.add_lit,Nat.zero_add];rw[List.getElem?_take]at hj;split at hj;exact hcell j v hj;cases hj)
 have hrz:∀ty,(Builtin.append_ #[(ρ.t 24),(ρ.t 3)] ty #[.slice (some ⟨b,0,none⟩) i c,.int .i64 ((n:Int)+(m:Int)-(i:Int))]).run P w=
  .ok (.slice (some ⟨w.heap.size,0,none⟩) (n+m) (grownCap w (n+m) c e)) (w.drew.alloc (.cells ((us.take (i*k)).toArray++Builtin.zeroCells z.cells (n+m-i)++Builtin.zeroCells z.cells (grownCap w (n+m) c e-(n+m))) e)):=fun ty=>by
  have hb0:(n+m-i)*i0.bytes<=(n+m)*i0.bytes:=Nat.mul_le_mul_right _ (by omega)
  have h:=Lib.run_append_grow_zeros w (ρ.t 24) (ρ.t 3) ty e i0 z .i64 .i64 t24 t3 T.hi T.hz (some ⟨b,0,none⟩) i c (us.take (i*k)) hold (n+m-i) (by omega) (by omega) (by omega) (by omega) (by omega) (by rw[hik];exact growslice_fits hroom hbig)
  rw[hik]at h
  rw[hkk]
  exact h
 obtain⟨G,hG⟩:∃G,G=grownCap w (n+m) c e:=⟨_,rfl⟩
 obtain⟨ROW,hROW⟩:∃ROW:Array Value,ROW=(us.take (i*k)).toArray++Builtin.zeroCells z.cells (n+m-i)++Builtin.zeroCells z.cells (G-(n+m)):=⟨_,rfl⟩
 rw[<-hG]at hrz⊢
 rw[<-hROW]at hrz⊢
 have e1:(i+m)*k=i*k+m*k:=Nat.add_mul _ _ _
 have e2:(n-i)*k=n*k-i*k:=Nat.sub_mul _ _ _
 have e3:(n+m)*k=n*k+m*k:=Nat.add_mul _ _ _
 have e4:(n+m-i)*k=(n+m)*k-i*k:=Nat.sub_mul _ _ _
 have hRl:(n+m)*k<=ROW.size:=by
  rw[hROW];have z1:(Builtin.zeroCells z.cells (n+m-i)).size=(n+m-i)*k:=by rw[<-hzs];exact BQ _ _
  simp only[Array.size_append,List.size_toArray,List.length_take,z1];omega
 obtain⟨W1,hW1⟩:∃W1,W1=w.drew.alloc (.cells ROW e):=⟨_,rfl⟩
 rw[<-hW1]at hrz
 have hR1:BN W1 w.heap.size e ROW.toList:=by rw[hW1];unfold BN;simpa using heap_alloc_new w.drew (.cells ROW e)
 have hOb:∀x v,w.cell? x=some v->W1.cell? x=some v:=fun x v h=>by rw[hW1];exact Lib.cell?_alloc_some _ h
 have hmin1:Nat.min (n-i) (n+m-(i+m))=n-i:=by simp only[Nat.min_def];split<;>omega
 have hmin2:Nat.min m (n+m-i)=m:=by simp only[Nat.min_def];split<;>omega
 have hcpA:∀(W:World),(∀x,W.cell? x=W1.cell? x)->(∀x,W.frozen? x=W1.frozen? x)->∀ty dc,(Builtin.copy_ #[(ρ.t 24),(ρ.t 24)] ty #[.slice (some ⟨w.heap.size,i*k,none⟩) (n+m-i) dc,.slice (some va) m vc]).run P W=.ok (goInt m) (W.setCells w.heap.size (i*k) vs):=fun W hWc hWf ty dc=>by
  have h:=Dn (P:=P) W (ρ.t 24) (ρ.t 24) ty e w.heap.size (i*k) (n+m-i) dc va m vc vs i0 t24 T.hi (by rw[hvl,hmin2,hk])
   (fun j v hj=>by rw[hWc];exact hOb _ v (hvs j v hj))
   (fun j hj=>by rw[hvl]at hj;rw[hWc,hR1.cell,List.getElem?_eq_getElem (by rw[Array.length_toList];omega)];rfl) (fun j hj=>by rw[hWf];exact hR1.thawed _) h1v
  rw[hmin2]at h;exact h
 have hGn:n+m<=G:=by rw[hG];exact grownCap_ge w _ _ _
 have hG63:G<=9223372036854775807:=by have:=grownCap_le_maxLen w (n+m) c e h63;rw[<-hG]at this;exact Nat.le_trans this (by decide)
 have hGi:¬(G=i):=by omega
 have hGim:¬(G=i+m):=by omega
 have hci:¬(c=i):=by omega
 have hdl:(us.drop (i*k)).length=(n-i)*k:=by rw[List.length_drop,husl,Nat.sub_mul]
 obtain⟨cur2,hR2,hc2⟩:∃cur2,BN (W1.setCells w.heap.size (i*k) vs) w.heap.size e cur2/\cur2.length=ROW.size:=by refine⟨_,BN.set _ _ hR1 (by rw[hvl,Array.length_toList];omega),?_⟩;simp only[List.length_append,List.length_take,List.length_drop,Array.length_toList,hvl];omega
 have hcpB:∀(W:World),(∀x,W.cell? x=(W1.setCells w.heap.size (i*k) vs).cell? x)->(∀x,W.frozen? x=(W1.setCells w.heap.size (i*k) vs).frozen? x)->∀ty dc sc,(Builtin.copy_ #[(ρ.t 24),(ρ.t 24)] ty #[.slice (some ⟨w.heap.size,(i+m)*k,none⟩) (n+m-(i+m)) dc,.slice (some ⟨b,i*k,none⟩) (n-i) sc]).run P W=.ok (goInt ((n-i:Nat):Int)) (W.setCells w.heap.size ((i+m)*k) (us.drop (i*k))):=fun W hWc hWf ty dc sc=>by
  have h:=Dn (P:=P) W (ρ.t 24) (ρ.t 24) ty e w.heap.size ((i+m)*k) (n+m-(i+m)) dc ⟨b,i*k,none⟩ (n-i) sc (us.drop (i*k)) i0 t24 T.hi (by rw[hdl,hmin1,hk])
   (fun j v hj=>by rw[Addr.add_lit,hWc,World.cell?_setCells_out _ _ _ _ _ (fun h _=>absurd h (show b≠w.heap.size by omega))];exact hOb _ v (hcell (i*k+j) v (by rwa [List.getElem?_drop]at hj)))
   (fun j hj=>by rw[hdl]at hj;rw[hWc,hR2.cell,List.getElem?_eq_getElem (by omega)];rfl)
   (fun j hj=>by rw[hWf];exact hR2.thawed _) (fun v hv=>hone v (List.mem_of_mem_drop hv))
  rw[hmin1]at h;exact h
 clear hR1 hR2 hc2
 subst hW1
 have hE1:∀x,((w.alloc (.cells ROW e)).drew).cell? x=(w.drew.alloc (.cells ROW e)).cell? x:=fun x=>rfl
 have hE2:∀x,((w.alloc (.cells ROW e)).drew).frozen? x=(w.drew.alloc (.cells ROW e)).frozen? x:=fun x=>rfl
 have hF1:∀x,(((w.alloc (.cells ROW e)).drew.setCells w.heap.size (i*k) vs).drew).cell? x=((w.drew.alloc (.cells ROW e)).setCells w.heap.size (i*k) vs).cell? x:=fun x=>rfl
 have hF2:∀x,(((w.alloc (.cells ROW e)).drew.setCells w.heap.size (i*k) vs).drew).frozen? x=((w.drew.alloc (.cells ROW e)).setCells w.heap.size (i*k) vs).frozen? x:=fun x=>rfl
 have hw1:IntKind.i64.wrap ((i:Int)+(m:Int))=(i:Int)+(m:Int):=by rw[IntKind.wrap_i64];omega
 have hb1:(0:Int)<=(i:Int)+(m:Int):=by omega
 have hin:i<=n:=by omega
 have htn:((i:Int)+(m:Int)).toNat=i+m:=by omega
 have hb3:(i:Int)<=(n:Int):=by omega
 clear hcell hr hone hvs h1v hvl hcur htk husl hdl hk e1 e2 e3 e4 hmin1 hmin2 hnk hikn T hkk hik hold hROW hG hRl hOb hcur0 hbw hvb hzs
 obtain⟨_,_,FG⟩:=FB
 go_enter FG,Body2.n22_ntmps ρ
 go_wp2_with (first
  |(at_builtin;refine Lib.wpList_append_run _ rfl _ _ _ _ rfl _ _ rfl rfl _ _ (hrz _) ?_)
  |(at_builtin;refine wpList_copy_runI _ rfl _ _ (ρ.t 24) (ρ.t 24) rfl _ _ rfl rfl (hcpA _ hE1 hE2 _ _) ?_)
  |(at_builtin;refine wpList_copy_runI _ rfl _ _ (ρ.t 24) (ρ.t 24) rfl _ _ rfl rfl (hcpB _ (fun _=>rfl) (fun _=>rfl) _ _ _) ?_))
 go_region_law_o (refine step_copy_runI rfl _ _ (ρ.t 24) (ρ.t 24) rfl (.slice (some ⟨w.heap.size,(i+m)*k,none⟩) (n+m-(i+m)) (G-(i+m))) (.slice (some ⟨b,i*k,none⟩) (n-i) (c-i)) (by simp[Act.eval,Act.put]) (by simp[Act.eval,Act.put]) (hcpB _ hF1 hF2 (ρ.t 3) (G-(i+m)) (c-i)) ?_)
 go_wp2
 go_ret
 exact⟨rfl,rfl⟩
end
end Go.Ac
namespace Go.Ac
open Go.Proofs Go.Shelf Go.RowKit Go.Lib Go.Sort
section
variable {P:Program} {ρ:Ren}
theorem aLo{e:TypeId}{i0:TypeInfo}{z:Value}(mixed:P.follows .mixedOrders=true)(FB:Bears P (ρ.f 22) (Body2.n22 ρ))
 (t3:P.underlying (ρ.t 3)=some (.int .i64)) (t4:P.underlying (ρ.t 4)=some .bool) (T:Mg P (ρ.t 24) e i0 z) (hk0:0<i0.size)
 (hox:∀args w,(callFunc (ρ.f 29) args).run P w=((Extern.SlicesOverlaps.overlaps #[ρ.t 24,ρ.t 24] #[ρ.t 4] args).run P w).andThen fun v w=>.ok (.value v) w)
 (xs ys:List D) (i:Nat) (hi:i<=xs.length) (hy:0<ys.length) (h63:xs.length+ys.length<=maxLen) (hbytes:(xs.length+ys.length)*i0.bytes<=140737488355328):
 AM P (ρ.f 22) [.row 0,.d (.v (.int .i64 i)),.row 1] [(0,.rw e i0.size xs),(1,.row e i0.size ys)] (.row 2) [(2,.rw e i0.size (xs.take i++ys++xs.drop i))]:=by
 intro h w val vs hI hA
 simp only[RAs,RA,RD]at hA
 obtain⟨_,_,rfl,⟨rfl,_⟩,_,_,rfl,⟨rfl,_⟩,_,_,rfl,⟨rfl,_⟩,rfl⟩:=hA
 obtain⟨us,hown,hrow,hh⟩:=hI.rep (0,.rw e i0.size xs) (by simp)
 obtain⟨ws,hown2,hrow2,hh2⟩:=hI.rep (1,.row e i0.size ys) (by simp)
 have hlen:=Ah.length hrow
 have hlen2:=Ah.length hrow2
 obtain⟨k,hk⟩:∃k,k=i0.size:=⟨_,rfl⟩
 have e5:(xs.take i++ys++xs.drop i).length=xs.length+ys.length:=by simp only[List.length_append,List.length_take,List.length_drop];omega
 rcases hown2.2 with⟨hv2,h0⟩|⟨g2,cap2,cur2,hv2,_,hg2,hn2,hc2,hcs2,htk2⟩
 omega
 simp only at hv2
 have hM:∀g,(val 0).ownBlock=some g->g∈Aa val [(0,Bk.rw e i0.size xs),(1,.row e i0.size ys)]:=by intro g hg;rw[Aj,CQ rfl,BV hown,hg];exact List.mem_cons_self
 have hne:∀g,(val 0).ownBlock=some g->g2≠g:=by intro g hg q;subst q;have hb:=hI.bks;have hv0:vblk (val 0)=some g2:=(BV hown).trans hg;rw[Aj,Aj,CQ rfl,CQ rfl,hv0,hv2]at hb;simp[vblk]at hb
 have hR2:BN w g2 e cur2.toList:=by unfold BN;simpa using hg2
 have hws:∀j u,ws[j]? =some u->w.cell? ((⟨g2,0,none⟩:Addr).add j)=some u:=fun j u hu=>by rw[hv2]at hown2;exact hown2.cells (g:=g2) rfl j u hu
 have hone2:=Ah.one hrow2
 have hone:=Ah.one hrow
 have hrow3:Ah h w i0.size (xs.take i++ys++xs.drop i) (us.take (i*i0.size)++ws++us.drop (i*i0.size)):=Ah.append (Ah.append (Ah.take i hrow) hrow2) (Ah.drop i hrow)
 have hgo:∀v' w',w'.ownsRow 0 e i0.size v' (xs.take i++ys++xs.drop i).length (us.take (i*i0.size)++ws++us.drop (i*i0.size))->(∀g,v'.ownBlock=some g->(val 0).ownBlock=some g\/w.heap.size<=g)->w.grownBy w' (val 0).ownBlock->_:=
  fun v' w' h1 h2 h3=>FX (X:=[(0,Bk.rw e i0.size xs),(1,.row e i0.size ys)]) (m:=2) (by simp[AK]) hh hM h1 hrow3 h2 h3 hI.glob
 rw[hv2]
 by_cases hend:i=xs.length
 subst hend
 obtain⟨ad,ln,cp,hv⟩:=Bq hown
 have hln:ln=xs.length:=by
  rcases hown.2 with⟨h1,h0⟩|⟨g,cap,cur,h1,_⟩
  simp only at h1;rw[hv]at h1;cases h1;exact h0.symm;simp only at h1;rw[hv]at h1;cases h1;rfl
 subst hln
 simp only at hv
 rw[hv]
 refine(aN7 mixed FB t3 t4 T w ad xs.length cp us ⟨g2,0,none⟩ ys.length cap2 ws (by rw[<-hv];exact hown) hy hlen2 hws hone2 h63 hbytes).mono ?_
 rintro ex w' ⟨v',rfl,ho,hcase⟩
 have e1:xs.take xs.length++ys++xs.drop xs.length=xs++ys:=by simp
 have e2:us.take (xs.length*i0.size)++ws++us.drop (xs.length*i0.size)=us++ws:=by rw[<-hlen];simp
 rw[e1,e2]at hgo
 rw[e1]
 refine hgo v' w' (by rw[List.length_append];exact ho) (fun g hg=>?_) ?_
 rcases hcase with⟨h1,_⟩|⟨h1,_⟩
 rw[h1,<-hv]at hg;exact .inl hg
 rw[h1]at hg;cases hg;exact .inr (Nat.le_refl _)
 rcases hcase with⟨_,h1⟩|⟨_,h1⟩
 rw[hv];exact h1
 exact⟨h1.os,h1.tape,h1.output,h1.size,fun b hb _=>h1.block b hb (by simp)⟩
 have hlt:i<xs.length:=by omega
 rcases hown.2 with⟨hv,h0⟩|⟨g,cap,cur,hv,_,hg,hn,hc,hcs,htk⟩
 omega
 simp only at hv
 rw[hv]
 have hR:BN w g e cur.toList:=by unfold BN;simpa using hg
 have hg2g:g2≠g:=hne g (by rw[hv];rfl)
 have m1:xs.length*k<=cap*k:=Nat.mul_le_mul_right k hn
 have m2:(i+ys.length)*k=i*k+ys.length*k:=Nat.add_mul _ _ _
 have m4:i*k<=xs.length*k:=Nat.mul_le_mul_right k hi
 have hcl:cur.toList.length=cap*k:=by rw[hk];simpa using hcs
 have l1:(us.drop (i*k)).length=xs.length*k-i*k:=by rw[List.length_drop,hlen,hk]
 by_cases hroom:xs.length+ys.length<=cap
 refine(aI9 mixed FB t3 t4 T hox w g xs.length cap i cur.toList us ⟨g2,0,none⟩ ys.length cap2 ws cur2.toList e hR (by simpa using hcs) htk hone hR2 hg2g hk0 hlt hy hroom (Nat.le_trans hc (by decide)) hlen2 hws hone2).mono ?_
 rintro ex w' ⟨rfl,rfl⟩
 rw[<-hk]at hlen hlen2 hcs htk hgo⊢
 have m3:(xs.length+ys.length)*k<=cap*k:=Nat.mul_le_mul_right k hroom
 have m5:(xs.length+ys.length)*k=xs.length*k+ys.length*k:=Nat.add_mul _ _ _
 have hR1:=BN.set (us.drop (i*k)) ((i+ys.length)*k) hR.drew (by rw[l1];omega)
 have hR3:=BN.set ws (i*k) hR1 (by simp only[List.length_append,List.length_take,List.length_drop];omega)
 refine hgo _ _ ?_ (fun g' hg'=>.inl (by rw[hv];exact hg')) ?_
 rw[e5]
 refine⟨by simp only[List.length_append,List.length_take,l1];rw[Nat.min_eq_left (by omega)];omega,.inr ⟨g,cap,_,rfl,Nat.zero_le _,hR3,hroom,hc,?_,?_⟩⟩
 simp only[List.size_toArray,List.length_append,List.length_take,List.length_drop]
 omega
 simp only
 have a1:(cur.toList.take ((i+ys.length)*k)++us.drop (i*k)++cur.toList.drop ((i+ys.length)*k+(us.drop (i*k)).length)).take (i*k)=us.take (i*k):=by rw[List.append_assoc,List.take_append_of_le_length (by rw[List.length_take];omega),List.take_take,Nat.min_eq_left (by omega),<-htk,List.take_take,Nat.min_eq_left (by omega)]
 have a2:(cur.toList.take ((i+ys.length)*k)++us.drop (i*k)++cur.toList.drop ((i+ys.length)*k+(us.drop (i*k)).length)).drop (i*k+ws.length)=us.drop (i*k)++cur.toList.drop ((i+ys.length)*k+(us.drop (i*k)).length):=by rw[List.append_assoc,show i*k+ws.length=(cur.toList.take ((i+ys.length)*k)).length by rw[List.length_take];omega,List.drop_left]
 rw[a1,a2,<-List.append_assoc,List.take_append_of_le_length (by simp only[List.length_append,List.length_take,l1];omega),List.take_of_length_le (by simp only[List.length_append,List.length_take,l1];omega)]
 rw[hv]
 obtain⟨a1,a2,a3,a4,a5⟩:=BU g (us.drop (i*k)) ((i+ys.length)*k) w.drew
 obtain⟨b1,b2,b3,b4,b5⟩:=BU g ws (i*k) (w.drew.setCells g ((i+ys.length)*k) (us.drop (i*k)))
 refine⟨b1.trans a1,b2.trans a2,b3.trans a3,Nat.le_of_eq (b4.trans a4).symm,fun x hx hne=>?_⟩
 have hne':x≠g:=fun q=>hne (by rw[q];rfl)
 exact(b5 x hne').trans (a5 x hne')
 refine(aI8 mixed FB t3 t4 T w g xs.length cap i cur.toList us ⟨g2,0,none⟩ ys.length cap2 ws hR (by simpa using hcs) htk hone hR2.lt hk0 hlt hy hn (by omega) hbytes h63 hlen2 hws hone2).mono ?_
 rintro ex w' ⟨rfl,rfl⟩
 have hzs:=T.hzs
 rw[<-hk]at hlen hlen2 hcs htk hgo hzs⊢
 obtain⟨G,hG⟩:∃G,G=grownCap w (xs.length+ys.length) cap e:=⟨_,rfl⟩
 have hGn:xs.length+ys.length<=G:=by rw[hG];exact grownCap_ge w _ _ _
 have hGm:G<=maxLen:=by rw[hG];exact grownCap_le_maxLen w _ _ e h63
 rw[<-hG]
 obtain⟨ROW,hROW⟩:∃ROW:Array Value,ROW=(us.take (i*k)).toArray++Builtin.zeroCells z.cells (xs.length+ys.length-i)++Builtin.zeroCells z.cells (G-(xs.length+ys.length)):=⟨_,rfl⟩
 rw[<-hROW]
 have z1:∀n,(Builtin.zeroCells z.cells n).size=n*k:=fun n=>by rw[<-hzs];exact BQ _ _
 have m5:(xs.length+ys.length)*k=xs.length*k+ys.length*k:=Nat.add_mul _ _ _
 have m6:(xs.length+ys.length-i)*k=(xs.length+ys.length)*k-i*k:=Nat.sub_mul _ _ _
 have m7:(G-(xs.length+ys.length))*k=G*k-(xs.length+ys.length)*k:=Nat.sub_mul _ _ _
 have m8:(xs.length+ys.length)*k<=G*k:=Nat.mul_le_mul_right k hGn
 have hRl:ROW.toList.length=G*k:=by rw[hROW];simp only[Array.length_toList,Array.size_append,List.size_toArray,List.length_take,z1];omega
 have hRt:ROW.toList.take (i*k)=us.take (i*k):=by rw[hROW];simp only[Array.toList_append,List.append_assoc];rw[List.take_append_of_le_length (by rw[List.length_take];omega),List.take_take,Nat.min_self]
 have hR0:BN ((w.alloc (.cells ROW e)).drew) w.heap.size e ROW.toList:=by unfold BN;exact heap_alloc_new w (.cells ROW e)
 have hR1:=(BN.set ws (i*k) hR0 (by omega)).drew
 have hR3:=BN.set (us.drop (i*k)) ((i+ys.length)*k) hR1 (by simp only[List.length_append,List.length_take,List.length_drop];omega)
 refine hgo _ _ ?_ (fun g' hg'=>.inr (by simp[Value.ownBlock]at hg';omega)) ?_
 rw[e5]
 refine⟨by simp only[List.length_append,List.length_take,l1];rw[Nat.min_eq_left (by omega)];omega,.inr ⟨w.heap.size,G,_,rfl,Nat.zero_le _,hR3,hGn,hGm,?_,?_⟩⟩
 simp only[List.size_toArray,List.length_append,List.length_take,List.length_drop]
 omega
 simp only
 have a1:(ROW.toList.take (i*k)++ws++ROW.toList.drop (i*k+ws.length)).take ((i+ys.length)*k)=us.take (i*k)++ws:=by rw[hRt,List.take_append_of_le_length (by simp only[List.length_append,List.length_take];omega),List.take_of_length_le (by simp only[List.length_append,List.length_take];omega)]
 rw[a1,List.take_append_of_le_length (by simp only[List.length_append,List.length_take,l1];omega),List.take_of_length_le (by simp only[List.length_append,List.length_take,l1];omega)]
 rw[hv]
 obtain⟨a1,a2,a3,a4,a5⟩:=BU w.heap.size ws (i*k) (w.alloc (.cells ROW e)).drew
 obtain⟨b1,b2,b3,b4,b5⟩:=BU w.heap.size (us.drop (i*k)) ((i+ys.length)*k) (((w.alloc (.cells ROW e)).drew.setCells w.heap.size (i*k) ws).drew)
 have hsz:w.heap.size<=(w.alloc (.cells ROW e)).heap.size:=by simp
 refine⟨b1.trans a1,b2.trans a2,b3.trans a3,by rw[b4];exact Nat.le_trans hsz (Nat.le_of_eq a4.symm),fun x hx hne=>?_⟩
 have hne':x≠w.heap.size:=by omega
 exact(b5 x hne').trans ((a5 x hne').trans (heap_alloc_old w _ hx))
end
def aT3{α:Type}(by_:Nat)(i:Int)(xs ys:List α):Option (List α):=
 if 0<=i/\i<=xs.length/\0<ys.length/\fit xs.length ys.length by_ then some (xs.take i.toNat++ys++xs.drop i.toNat)else none
theorem aN6{P:Program}{ρ:Ren}{e:TypeId}{k by_ fi:Nat}{α:Type}(f:α->D)(mixed:P.follows .mixedOrders=true)(hfi:ρ.f 22=fi)(FB:Bears P (ρ.f 22) (Body2.n22 ρ))
 (t3:P.underlying (ρ.t 3)=some (.int .i64)) (t4:P.underlying (ρ.t 4)=some .bool) (ht:P.underlying (ρ.t 24)=some (.slice e))
 (hq:(P.info? e).map (fun i=>(i.size,i.bytes,i.zero.map (·.cells.size),i.zero.map (fun z=>z.cells.all (·.oneCell'))))=some (k,by_,some k,some true))
 (hk0:0<k) (hby:0<by_)
 (hox:∀args w,(callFunc (ρ.f 29) args).run P w=((Extern.SlicesOverlaps.overlaps #[ρ.t 24,ρ.t 24] #[ρ.t 4] args).run P w).andThen fun v w=>.ok (.value v) w)
 (i:Int) (xs ys r:List α) (h:aT3 by_ i xs ys=some r):AM P fi [.row 0,.d (D.i .i64 i),.row 1] [(0,.rw e k (xs.map f)),(1,.row e k (ys.map f))] (.row 2) [(2,.rw e k (r.map f))]:=by
 obtain⟨i0,z,T,rfl,rfl⟩:=FY ht hq
 unfold aT3 at h
 split at h
 rename_i hc
 obtain rfl:=Option.some.inj h
 obtain⟨n,rfl⟩:=Int.eq_ofNat_of_zero_le hc.1
 subst hfi
 have hf:=hc.2.2.2
 unfold fit at hf
 have h63:xs.length+ys.length<=maxLen:=by have:xs.length+ys.length<=(xs.length+ys.length)*i0.bytes:=Nat.le_mul_of_pos_right _ hby;exact Nat.le_trans (Nat.le_trans this hf) (by decide)
 have:=aLo mixed FB t3 t4 T hk0 hox (xs.map f) (ys.map f) n (by rw[List.length_map];omega) (by rw[List.length_map];exact hc.2.2.1) (by simpa using h63) (by simpa using hf)
 simpa[List.map_take,List.map_drop,D.i]using this
 cases h
end Go.Ac
namespace Go.Ac
open Go.Proofs Go.Shelf Go.RowKit Go.Lib
theorem CU{P:Program}{t:TypeId}{n:Nat}(h:(P.info? t).map (·.size)=some n)(w:World):(Go.sizeOf t).run P w=.ok n w:=by simp only[om]at h;obtain⟨i,hi,rfl⟩:=h;simp[sizeOf,typeInfo,hi]
theorem Dc{P:Program}{t:TypeId}{z:Value}(h:(P.info? t).map (·.zero)=some (some z))(w:World):(zeroValue t).run P w=.ok z w:=by simp only[om]at h;obtain⟨i,hi,hz⟩:=h;simp[zeroValue,typeInfo,hi,hz]
section
variable {P:Program} {ρ:Ren}
set_option maxHeartbeats 2000000 in
set_option maxRecDepth 100000 in
theorem JD(L:SlLaysE0.n41 P ρ){i0:TypeInfo}{z:Value}(T:Mg P (ρ.t 22) (ρ.t 23) i0 z)(hsz:0<i0.size)(ad:Addr)(n c:Nat)(news:List Value)(w:World)(hl:news.length=n*i0.size)(hn:n<=maxLen)(hbig:n*i0.bytes<=140737488355328)
 (hc:∀j u,news[j]? =some u->w.cell? (ad.add j)=some u) (h1:∀u∈news,u.oneCell'=true):
 Calls P (ρ.f 41) #[.slice (some ad) n c] w fun e w'=>∃v',e=.returned v'/\w'.ownsRow w.heap.size (ρ.t 23) i0.size v' n news/\Below w.heap.size w w':=by
 have z23:∀w,(Go.sizeOf (ρ.t 23)).run P w=.ok i0.size w:=fun w=>by simp[sizeOf,typeInfo,T.hi]
 have mixed:=L.mixed;have t4:=L.t4;have a4:=L.a4;have z4:=L.z4;have v4:=L.v4;have t22:=L.t22;have a22:=L.a22;have z22:=L.z22;have v22:=L.v22
 have q22:∀(w:World) (a:Option Addr) (n c n' c':Nat),(binOp .eql (ρ.t 22) (.slice a n c) (.slice none n' c')).run P w=.ok (.bool a.isNone) w:=fun w a n c n' c'=>Lib.run_eql_slice_nil w _ _ a n c n' c' L.t22
 have u22:∀w,Sem.run P (underlying (ρ.t 22)) w=.ok (TypeDesc.slice (ρ.t 23)) w:=run_underlying t22
 have A:Aside (∀j u,news[j]? =some u->w.cell? (ad.add j)=some u):=hc
 have hi:=T.hi;have hz0:=T.hz;have hzs:=T.hzs
 clear hc T
 obtain⟨b,off,sp⟩:=ad
 obtain⟨_,_,FG⟩:=L.f41
 go_enter FG,SlBodyN.n41_ntmps ρ
 go_wp2_with (at_builtin;refine wpList_append_own _ rfl _ _ (ρ.t 22) rfl w.heap.size (ρ.t 23) i0 z i0.size i0.bytes t22 hi hz0 rfl rfl hzs hsz _ _ _ rfl (World.ownsRow_made w #[] 0 (Nat.le_refl _) (Nat.zero_le _) (by simp)) ⟨b,off,sp⟩ n c news rfl ?qc1 ?qc2 ?qc3 ?qc4 ?qc5 ?qc6 ?_)
 case qc1=>exact hl
 case qc2=>
  intro j u hj
  exact Lib.cell?_alloc_some _ (A.out j u hj)
 case qc3=>exact h1
 case qc4=>rw[Nat.zero_add];exact hn
 case qc5=>rw[Nat.zero_add];exact hbig
 case qc6=>simp
 intro v' w1 hown hgrow hnil
 go_wp2
 go_ret
 refine⟨v',rfl,by simpa using hown,?_⟩
 exact((Below.refl _ w).alloc (Nat.le_refl _) _).grown hgrow (by simp) (by intro k hk;simp[Value.ownBlock]at hk;omega)

theorem HU(L:SlLaysE0.n41 P ρ){i0:TypeInfo}{z:Value}(T:Mg P (ρ.t 22) (ρ.t 23) i0 z)(hsz:0<i0.size){h:Hw}{w:World}{xs:List D}{u:Value}
 (hx:RD h w (.sl xs) u) (hk:∀x∈xs,x.nc=i0.size) (hbig:xs.length*i0.bytes<=140737488355328):
 Calls P (ρ.f 41) #[u] w fun e w'=>∃v' us,e=.returned v'/\w'.ownsRow 0 (ρ.t 23) i0.size v' xs.length us/\Ah h w i0.size xs us/\(∀g,v'.ownBlock=some g->w.heap.size<=g)/\w.grownBy w' none:=by
 obtain⟨ad,cap,k',vs,rfl,hl,hm,hyrow,hc⟩:=by simpa only[RD]using hx
 have hvs:vs.length=xs.length*i0.size/\Ah h w i0.size xs vs:=by
  cases xs with
  |nil=>
   have:vs=[]:=by simpa[Ah]using hyrow
   subst this;exact⟨by simp,by simp[Ah]⟩
  |cons y ys=>
   have e1:=hk y (by simp)
   have e2:=hyrow.mk y (by simp)
   have:k'=i0.size:=by omega
   subst this
   exact⟨hyrow.length,hyrow⟩
 cases ad with
 |none=>
  have h0:xs=[]:=by
   cases xs with
   |nil=>rfl
   |cons y ys=>obtain⟨x,hx,_⟩:=hc (by simp);cases hx
  subst h0
  refine(AnyE.slices_Clone_nil L _ _ w).mono ?_
  rintro e w' ⟨rfl,rfl⟩
  exact⟨_,[],rfl,World.ownsRow_nil _ _ _ _,by simp[Ah],by simp[Value.ownBlock],⟨rfl,rfl,rfl,Nat.le_refl _,fun _ _ _=>rfl⟩⟩
 |some a=>
  have hcell:∀j x,vs[j]? =some x->w.cell? (a.add j)=some x:=by
   intro j x hj;rcases Nat.eq_zero_or_pos xs.length with h0|h0
   have:vs=[]:=List.eq_nil_of_length_eq_zero (by rw[hvs.1,h0,Nat.zero_mul]);subst this;simp at hj;obtain⟨a',ha,hcell⟩:=hc h0;cases ha;exact(hcell j x hj).1
  refine(JD L T hsz a xs.length cap vs w hvs.1 (Nat.le_trans hl hm) hbig hcell hvs.2.one).mono ?_
  rintro e w' ⟨v',rfl,hown,hB⟩
  refine⟨v',vs,rfl,⟨hown.1,?_⟩,hvs.2,fun g hg=>(hown.lt g hg).1,⟨hB.os,hB.tape,hB.output,hB.size,fun b hb _=>hB.block b hb⟩⟩
  rcases hown.2 with h0|⟨g,cap,cur,e1,_,e3⟩
  exact .inl h0
  exact .inr ⟨g,cap,cur,e1,Nat.zero_le _,e3⟩

theorem aPa(L:SlLaysE0.n41 P ρ){i0:TypeInfo}{z:Value}(T:Mg P (ρ.t 22) (ρ.t 23) i0 z)(hsz:0<i0.size)(xs:List D)(hk:∀x∈xs,x.nc=i0.size)(hbig:xs.length*i0.bytes<=140737488355328):
 AM P (ρ.f 41) [.d (.sl xs)] [] (.row 0) [(0,.rw (ρ.t 23) i0.size xs)]:=by
 intro h w val vs hI hA
 simp only[RAs,RA]at hA
 obtain⟨u,_,rfl,hu,rfl⟩:=hA
 refine(HU L T hsz hu hk hbig).mono ?_
 rintro e w' ⟨v',us,rfl,hown,hrow,hnew,hgrow⟩
 exact FX (X:=[]) (v:=.slice none 0 0) (by simp[AK]) (by simp[Value.ownBlock]) (by simp[Value.ownBlock]) hown hrow (fun g hg=>.inr (hnew g hg)) hgrow hI.glob

theorem aLl(L:SlLaysE0.n41 P ρ){i0:TypeInfo}{z:Value}(T:Mg P (ρ.t 22) (ρ.t 23) i0 z)(hsz:0<i0.size)(xs:List D)(hk:∀x∈xs,x.nc=i0.size)(hbig:xs.length*i0.bytes<=140737488355328):
 AM P (ρ.f 41) [.d (.sl xs)] [] (.d (.sl xs)) []:=by
 intro h w val vs hI hA
 simp only[RAs,RA]at hA
 obtain⟨u,_,rfl,hu,rfl⟩:=hA
 refine(HU L T hsz hu hk hbig).mono ?_
 rintro e w' ⟨v',us,rfl,hown,hrow,hnew,hgrow⟩
 let h':Hw:=fun b=>if v'.ownBlock=some b then xs.length*i0.size else h b
 have hkeep:BI (Aa val []) h w h' w':=by
  refine⟨hgrow.os,hgrow.tape,hgrow.output,hgrow.size,fun b j x hj hcx=>?_,fun b hb=>?_,fun b hb hn=>?_⟩;rw[World.cell?_of_block (w:=w) (a:=⟨b,j,none⟩) (hgrow.block b (Cj hcx) (by simp))];exact hcx;show h b<=if v'.ownBlock=some b then _ else h b
  split;rename_i hvb;have:=hnew b hvb;omega;exact Nat.le_refl _;refine⟨hgrow.block b hb (by simp),?_⟩;show(if v'.ownBlock=some b then _ else h b)=h b
  rw[if_neg fun hvb=>by have:=hnew b hvb;omega]
 have hrb:RB h' w' (An val 0 v') 0 (.row (ρ.t 23) i0.size xs):=by
  refine⟨us,by simpa[An]using hown,Ah.stays hkeep.stays _ _ _ hrow,fun g hg=>?_⟩;simp only[An]at hg;show(if v'.ownBlock=some g then _ else h g)=_
  rw[if_pos (by simpa using hg)]
 have hd:=RB.data hrb
 simp only[An,if_true]at hd
 exact⟨h',val,v',rfl,⟨by simp,by simp[AK],by simp[Aa],hI.glob.stays hkeep.stays⟩,by simpa only[RA]using hd,hkeep,fun _ _=>rfl,by simp[Aa]⟩
end
def CK{α:Type}(by_:Nat)(l:List α):Option (List α):=if fit 0 l.length by_ then some l else none
theorem LW{P:Program}{ρ:Ren}(mixed:P.follows .mixedOrders=true)(FB:Bears P (ρ.f 41) (SlBodyN.n41 ρ))(t4:P.underlying (ρ.t 4)=some .bool)(ht:P.underlying (ρ.t 22)=some (.slice (ρ.t 23)))
 (z4:(P.info? (ρ.t 4)).map (·.size)=some 1) (v4:(P.info? (ρ.t 4)).map (·.zero)=some (some (.bool false))) (z22:(P.info? (ρ.t 22)).map (·.size)=some 1) (v22:(P.info? (ρ.t 22)).map (·.zero)=some (some (.slice none 0 0))):SlLaysE0.n41 P ρ:=
 ⟨mixed,FB,t4,fun w=>Ao (by simp[Bd,t4]) w,CU z4,Dc v4,ht,fun w=>Ao (by simp[Bd,ht]) w,CU z22,Dc v22⟩
theorem SK{P:Program}{ρ:Ren}{e:TypeId}{k by_ fi:Nat}{α:Type}(f:α->D) [Bz f k](hfi:ρ.f 41=fi)(he:ρ.t 23=e)(L:SlLaysE0.n41 P ρ)
 (hq:(P.info? (ρ.t 23)).map (fun i=>(i.size,i.bytes,i.zero.map (·.cells.size),i.zero.map (fun z=>z.cells.all (·.oneCell'))))=some (k,by_,some k,some true)) (hk0:0<k)
 (l r:List α) (h:CK by_ l=some r):AM P fi [.d (D.l f l)] [] (.row 0) [(0,.rw e k (r.map f))]:=by
 obtain⟨i,z,T,rfl,rfl⟩:=FY L.t22 hq
 unfold CK at h
 split at h
 rename_i hc
 obtain rfl:=Option.some.inj h
 subst hfi;subst he
 exact aPa L T hk0 (l.map f) (by simp only[mm];rintro x ⟨y,_,rfl⟩;exact Bz.h y) (by unfold fit at hc;simpa using hc)
 cases h
theorem QG{P:Program}{ρ:Ren}{k by_ fi:Nat}{α:Type}(f:α->D) [Bz f k](hfi:ρ.f 41=fi)(L:SlLaysE0.n41 P ρ)
 (hq:(P.info? (ρ.t 23)).map (fun i=>(i.size,i.bytes,i.zero.map (·.cells.size),i.zero.map (fun z=>z.cells.all (·.oneCell'))))=some (k,by_,some k,some true)) (hk0:0<k)
 (l r:List α) (h:CK by_ l=some r):AM P fi [.d (D.l f l)] [] (.d (D.l f r)) []:=by
 obtain⟨i,z,T,rfl,rfl⟩:=FY L.t22 hq
 unfold CK at h
 split at h
 rename_i hc
 obtain rfl:=Option.some.inj h
 subst hfi
 exact aLl L T hk0 (l.map f) (by simp only[mm];rintro x ⟨y,_,rfl⟩;exact Bz.h y) (by unfold fit at hc;simpa using hc)
 cases h
end Go.Ac
namespace Go.Ac
open Go.Proofs Go.Shelf Go.RowKit Go.Lib
section
variable {P:Program} {ρ:Ren}
theorem Fh(L:SlLaysE0.n41 P ρ){i0:TypeInfo}{z:Value}(T:Mg P (ρ.t 22) (ρ.t 23) i0 z)(hsz:0<i0.size){h:Hw}{w:World}{xs:List D}{u:Value}{us:List Value}
 (hown:w.ownsRow 0 (ρ.t 23) i0.size u xs.length us) (hrow:Ah h w i0.size xs us) (hbig:xs.length*i0.bytes<=140737488355328):
 Calls P (ρ.f 41) #[u] w fun e w'=>∃v' us,e=.returned v'/\w'.ownsRow 0 (ρ.t 23) i0.size v' xs.length us/\Ah h w i0.size xs us/\(∀g,v'.ownBlock=some g->w.heap.size<=g)/\w.grownBy w' none:=by
 obtain⟨hlen,hcase⟩:=hown
 rcases hcase with⟨rfl,h0⟩|⟨g,cap,cur,rfl,_,hg,hn,hc,hcs,htk⟩
 have hxs:xs=[]:=List.eq_nil_of_length_eq_zero h0
 subst hxs
 refine(AnyE.slices_Clone_nil L _ _ w).mono ?_
 rintro e w' ⟨rfl,rfl⟩
 exact⟨_,[],rfl,World.ownsRow_nil _ _ _ _,by simp[Ah],by simp[Value.ownBlock],⟨rfl,rfl,rfl,Nat.le_refl _,fun _ _ _=>rfl⟩⟩
 have hcell:∀j x,us[j]? =some x->w.cell? ((⟨g,0,none⟩:Addr).add j)=some x:=by
  intro j x hj;rw[<-htk,List.getElem?_take]at hj;split at hj;have e:(⟨g,0,none⟩:Addr).add j=⟨g,j,none⟩:=by cases j<;>simp[Addr.add]
  rw[e];simp only[World.cell?,hg];simpa using hj;cases hj
 refine(JD L T hsz ⟨g,0,none⟩ xs.length cap us w hlen (Nat.le_trans hn hc) hbig hcell hrow.one).mono ?_
 rintro e w' ⟨v',rfl,hown',hB⟩
 refine⟨v',us,rfl,⟨hown'.1,?_⟩,hrow,fun g hg=>(hown'.lt g hg).1,⟨hB.os,hB.tape,hB.output,hB.size,fun b hb _=>hB.block b hb⟩⟩
 rcases hown'.2 with h0|⟨g,cap,cur,e1,_,e3⟩
 exact .inl h0
 exact .inr ⟨g,cap,cur,e1,Nat.zero_le _,e3⟩
theorem aLm(L:SlLaysE0.n41 P ρ){i0:TypeInfo}{z:Value}(T:Mg P (ρ.t 22) (ρ.t 23) i0 z)(hsz:0<i0.size)(xs:List D)(hbig:xs.length*i0.bytes<=140737488355328):
 AM P (ρ.f 41) [.row 0] [(0,.rw (ρ.t 23) i0.size xs)] (.d (.sl xs)) [(0,.rw (ρ.t 23) i0.size xs)]:=by
 intro h w val vs hI hA
 simp only[RAs,RA]at hA
 obtain⟨u,_,rfl,⟨hu,_⟩,rfl⟩:=hA
 obtain⟨us0,hown0,hrow0,hh0⟩:=hI.rep (0,.rw (ρ.t 23) i0.size xs) (by simp)
 simp only at hown0
 subst hu
 refine(Fh L T hsz hown0 hrow0 hbig).mono ?_
 rintro e w' ⟨v',us,rfl,hown,hrow,hnew,hgrow⟩
 let h':Hw:=fun b=>if v'.ownBlock=some b then xs.length*i0.size else h b
 have hkeep:BI [] h w h' w':=by
  refine⟨hgrow.os,hgrow.tape,hgrow.output,hgrow.size,fun b j x hj hcx=>?_,fun b hb=>?_,fun b hb hn=>?_⟩;rw[World.cell?_of_block (w:=w) (a:=⟨b,j,none⟩) (hgrow.block b (Cj hcx) (by simp))];exact hcx;show h b<=if v'.ownBlock=some b then _ else h b
  split;rename_i hvb;have:=hnew b hvb;omega;exact Nat.le_refl _;refine⟨hgrow.block b hb (by simp),?_⟩;show(if v'.ownBlock=some b then _ else h b)=h b
  rw[if_neg fun hvb=>by have:=hnew b hvb;omega]
 have hrb:RB h' w' (An val 0 v') 0 (.row (ρ.t 23) i0.size xs):=by
  refine⟨us,by simpa[An]using hown,Ah.stays hkeep.stays _ _ _ hrow,fun g hg=>?_⟩;simp only[An]at hg;show(if v'.ownBlock=some g then _ else h g)=_
  rw[if_pos (by simpa using hg)]
 have hd:=RB.data hrb
 simp only[An,if_true]at hd
 exact⟨h',val,v',rfl,hI.quiet hkeep,by simpa only[RA]using hd,hkeep.mono' (fun x hx=>(by cases hx)),fun _ _=>rfl,fun b hb=>.inl hb⟩
theorem aCx(L:SlLaysE0.n41 P ρ){i0:TypeInfo}{z:Value}(T:Mg P (ρ.t 22) (ρ.t 23) i0 z)(hsz:0<i0.size)(xs:List D)(hbig:xs.length*i0.bytes<=140737488355328):
 AM P (ρ.f 41) [.row 0] [(0,.rw (ρ.t 23) i0.size xs)] (.row 1) [(0,.rw (ρ.t 23) i0.size xs),(1,.rw (ρ.t 23) i0.size xs)]:=by
 intro h w val vs hI hA
 simp only[RAs,RA]at hA
 obtain⟨u,_,rfl,⟨hu,_⟩,rfl⟩:=hA
 obtain⟨us0,hown0,hrow0,hh0⟩:=hI.rep (0,.rw (ρ.t 23) i0.size xs) (by simp)
 simp only at hown0
 subst hu
 refine(Fh L T hsz hown0 hrow0 hbig).mono ?_
 rintro e w' ⟨v',us,rfl,hown,hrow,hnew,hgrow⟩
 let h':Hw:=fun b=>if v'.ownBlock=some b then 0 else h b
 have hkeep:BI [] h w h' w':=by
  refine⟨hgrow.os,hgrow.tape,hgrow.output,hgrow.size,fun b j x hj hcx=>?_,fun b hb=>?_,fun b hb hn=>?_⟩;rw[World.cell?_of_block (w:=w) (a:=⟨b,j,none⟩) (hgrow.block b (Cj hcx) (by simp))];exact hcx;show h b<=if v'.ownBlock=some b then _ else h b
  split;rename_i hvb;have:=hnew b hvb;omega;exact Nat.le_refl _;refine⟨hgrow.block b hb (by simp),?_⟩;show(if v'.ownBlock=some b then _ else h b)=h b
  rw[if_neg fun hvb=>by have:=hnew b hvb;omega]
 have hq:=hI.quiet hkeep
 have hv0:An val 1 v' 0=val 0:=by simp[An]
 have hv1:An val 1 v' 1=v':=by simp[An]
 have hvb:vblk v'=v'.ownBlock:=BV hown
 have hbl:∀b,b∈Aa val [(0,Bk.rw (ρ.t 23) i0.size xs)]->b<w.heap.size:=fun b hb=>hI.blk_lt b hb
 have hb2:Aa (An val 1 v') [(0,Bk.rw (ρ.t 23) i0.size xs),(1,.rw (ρ.t 23) i0.size xs)]=Aa val [(0,Bk.rw (ρ.t 23) i0.size xs)]++v'.ownBlock.toList:=by rw[Aj,Aj,Aj,CQ rfl,CQ rfl,CQ rfl,hv0,hv1,hvb];simp[Aa]
 refine⟨h',An val 1 v',v',rfl,⟨?_,by simp[AK],?_,hq.glob⟩,?_,hkeep.mono' (fun x hx=>(by cases hx)),?_,?_⟩
 intro p hp
 simp only[mc,List.not_mem_nil,or_false]at hp
 rcases hp with rfl|rfl
 obtain⟨us2,a,b,c⟩:=hq.rep (0,.rw (ρ.t 23) i0.size xs) (by simp)
 exact⟨us2,by rw[hv0];exact a,b,by rw[hv0];exact c⟩
 refine⟨us,by rw[hv1];exact hown,Ah.stays hkeep.stays _ _ _ hrow,fun g hg=>?_⟩
 rw[hv1]at hg
 show(if v'.ownBlock=some g then _ else h g)=_
 rw[if_pos hg]
 rw[hb2]
 refine List.nodup_append.2 ⟨hI.bks,by cases v'.ownBlock<;>simp,fun a ha b hb=>?_⟩
 have h1:=hbl a ha
 have h2:=hnew b (by simpa using hb)
 omega
 simp only[RA,hv1]
 exact⟨trivial,.inl (Bq hown)⟩
 intro n hn
 by_cases e:n=1
 subst e;exact absurd (hn (by simp[AK])) (by simp[AK])
 simp[An,e]
 intro b hb
 rw[hb2]at hb
 rcases ma.1 hb with hb|hb
 exact .inl hb
 exact .inr (hnew b (by simpa using hb))
end
theorem aIq{P:Program}{ρ:Ren}{e:TypeId}{k by_ fi:Nat}{α:Type}(f:α->D)(hfi:ρ.f 41=fi)(he:ρ.t 23=e)(L:SlLaysE0.n41 P ρ)
 (hq:(P.info? (ρ.t 23)).map (fun i=>(i.size,i.bytes,i.zero.map (·.cells.size),i.zero.map (fun z=>z.cells.all (·.oneCell'))))=some (k,by_,some k,some true)) (hk0:0<k)
 (l r:List α) (h:CK by_ l=some r):AM P fi [.row 0] [(0,.rw e k (l.map f))] (.d (D.l f r)) [(0,.rw e k (l.map f))]:=by
 obtain⟨i,z,T,rfl,rfl⟩:=FY L.t22 hq
 unfold CK at h
 split at h
 rename_i hc
 obtain rfl:=Option.some.inj h
 subst hfi;subst he
 exact aLm L T hk0 (l.map f) (by unfold fit at hc;simpa using hc)
 cases h
theorem ZY{P:Program}{ρ:Ren}{e:TypeId}{k by_ fi:Nat}{α:Type}(f:α->D)(hfi:ρ.f 41=fi)(he:ρ.t 23=e)(L:SlLaysE0.n41 P ρ)
 (hq:(P.info? (ρ.t 23)).map (fun i=>(i.size,i.bytes,i.zero.map (·.cells.size),i.zero.map (fun z=>z.cells.all (·.oneCell'))))=some (k,by_,some k,some true)) (hk0:0<k)
 (l r:List α) (h:CK by_ l=some r):AM P fi [.row 0] [(0,.rw e k (l.map f))] (.row 1) [(0,.rw e k (l.map f)),(1,.rw e k (r.map f))]:=by
 obtain⟨i,z,T,rfl,rfl⟩:=FY L.t22 hq
 unfold CK at h
 split at h
 rename_i hc
 obtain rfl:=Option.some.inj h
 subst hfi;subst he
 exact aCx L T hk0 (l.map f) (by unfold fit at hc;simpa using hc)
 cases h
end Go.Ac
