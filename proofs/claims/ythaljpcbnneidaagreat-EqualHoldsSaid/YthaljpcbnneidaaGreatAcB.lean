/- Own work: how calls of the model run over plain data. -/
import Derived.Test.YthaljpcbnneidaaGreatAcA
import Derived.MapKept
import Derived.ChangeKeysEq
import Derived.WideKeyRuns
import Derived.Maps.RangeRun
import Derived.RangeFuncLeaves
import Derived.RangeFuncCalls
import Derived.OrdersIn
import Derived.Deep.LoopGhost
import Derived.ControlIn
set_option linter.unusedVariables false
set_option linter.unusedSimpArgs false
namespace Go.Ac

def rho(l:List (Nat×Nat))(n:Nat):Nat:=if Nat.ble up n then n else match l.find? fun p=>p.1==n with
 |some p=>p.2
 |none=>n
def Jv(l:List (Nat×Nat))(n:Nat):Nat:=if Nat.ble up n then n else match l.find? fun p=>p.2==n with
 |some p=>p.1
 |none=>n
theorem aKs{l:List (Nat×Nat)}{n:Nat}(h:up<=n):rho l n=n:=by unfold rho;rw[if_pos (Nat.ble_eq_true_of_le h)]
def aHf(B:Bx):Bx:=B.foldr (fun p C=>DG p.1 p.2 C) []
theorem FQ:∀B:Bx,(aHf B).Perm B
 |[]=>.refl _
 |p::B=>by
  show(DG p.1 p.2 (aHf B)).Perm _;exact(CO _ _ _).trans (.cons _ (FQ B))
def BH(f:Nat->Bool):List Nat->Bool
 |[]=>true
 |x::l=>f x&&BH f l
theorem Av{f:Nat->Bool}:∀{l:List Nat},BH f l=true->∀x∈l,f x=true
 |[],_,x,hx=>by cases hx
 |y::l,h,x,hx=>by
  simp only[BH,ba]at h;rcases mc.1 hx with rfl|hx
  exact h.1;exact Av h.2 x hx
def Ax(n:Nat):List Nat->Bool
 |[]=>false
 |x::l=>Nat.beq x n||Ax n l
theorem Ao{n:Nat}:∀{l:List Nat},Ax n l=true↔n∈l
 |[]=>by simp[Ax]
 |x::l=>by
  simp only[Ax,Bool.or_eq_true,Nat.beq_eq,mc,Ao];constructor;rintro(h|h);exact .inl h.symm;exact .inr h;rintro(h|h);exact .inl h.symm;exact .inr h
theorem BV{n:Nat}{l:List Nat}(h:Ax n l=false):n∉l:=fun hn=>by rw[Ao.2 hn]at h;cases h
def aCr(l:List Nat)(B:Bx):Bx:=B.filter fun p=>Ax p.1 l
def Ku(l:List Nat)(B:Bx):Bx:=B.filter fun p=> !Ax p.1 l
theorem Kq(l:List Nat):∀B:Bx,B.Perm (aCr l B++Ku l B)
 |[]=>.refl _
 |p::B=>by
  have ih:=Kq l B;unfold aCr Ku;simp only[List.filter_cons];cases h:Ax p.1 l;simp only[Bool.not_false,if_true,Bool.false_eq_true,if_false];exact(ih.cons p).trans (List.perm_middle.symm);simp only[Bool.not_true,if_true,Bool.false_eq_true,if_false,List.cons_append];exact ih.cons p
def aCm(a:A)(l:List Nat):Bool:=match a.nms with
 |some x=>BH (fun n=>Ax n l) x
 |none=>false
def Ij(as':List A)(l:List Nat):Bool:=match Hs as' with
 |some x=>BH (fun n=>Ax n l) x
 |none=>false
def aDp(b:Bk)(l:List Nat):Bool:=match b.nms with
 |some x=>BH (fun n=>Ax n l) x
 |none=>false
theorem Nr{a:A}{l:List Nat}(h:aCm a l=true)(n:Nat)(hn:a.has n=true):n∈l:=by unfold aCm at h;split at h;rename_i x hx;exact Ao.1 (Av h n (A.has_nms a hx n hn));cases h
theorem UK{b:Bk}{l:List Nat}(h:aDp b l=true)(n:Nat)(hn:b.has n=true):n∈l:=by unfold aDp at h;split at h;rename_i x hx;exact Ao.1 (Av h n (Bk.has_nms hx n hn));cases h
theorem Bk.mapN_mapN(f g:Nat->Nat)(b:Bk):(b.mapN g).mapN f=b.mapN (fun n=>f (g n)):=by cases b<;>simp[Bk.mapN,By]
theorem Bk.mapN_id{b:Bk}{l:List Nat}{ρ:Nat->Nat}(h:b.nms=some l)(hρ:∀n∈l,ρ n=n):b.mapN ρ=b:=by
 cases b with
 |cells cs=>simp only[Bk.mapN];rw[C2 cs h hρ]
 |vals as' us=>simp only[Bk.mapN];rw[C2 as' h hρ]
 |mit m clk seen=>simp only[Bk.nms,oe]at h;subst h;simp only[Bk.mapN];rw[hρ m (by simp)]
 |_=>rfl
theorem VF{as':List A}{l:List Nat}{ρ:Nat->Nat}(h:Ij as' l=true)(hρ:∀n∈l,ρ n=n):Bw ρ as'=as':=by unfold Ij at h;split at h;rename_i x hx;exact C2 as' hx fun n hn=>hρ n (Ao.1 (Av h n hn));cases h
theorem Uz{ρ:Nat->Nat}{l:List Nat}(hρ:∀n∈l,ρ n=n):∀{B:Bx},(∀p∈B,p.1∈l/\aDp p.2 l=true)->B.map (Cq ρ)=B
 |[],_=>rfl
 |p::B,h=>by
  obtain⟨h1,h2⟩:=h p (.head _);have e:Cq ρ p=p:=by unfold aDp at h2;split at h2;rename_i x hx;show(ρ p.1,p.2.mapN ρ)=p;rw[hρ p.1 h1,Bk.mapN_id hx fun n hn=>hρ n (Ao.1 (Av h2 n hn))];cases h2
  rw[List.map_cons,e,Uz hρ fun q hq=>h q (.tail _ hq)]

def Ef(B:Bx):List (Nat×Nat)->Option Bx
 |[]=>some []
 |p::l=>match lk B p.2,Ef B l with
  |some b,some X=>some ((p.2,b)::X)
  |_,_=>none
theorem HS{B:Bx}:∀{l:List (Nat×Nat)} {X:Bx},Ef B l=some X->AI X=l.map (·.2)
 |[],X,h=>by simp only[Ef,oe]at h;subst h;rfl
 |p::l,X,h=>by
  simp only[Ef]at h;split at h;rename_i b X' h1 h2;simp only[oe]at h;subst h;simp only[AI,List.map_cons];rw[<-HS h2];rfl;cases h
theorem HQ{B:Bx}:∀{l:List (Nat×Nat)} {X:Bx},Ef B l=some X->∀p∈X,p∈B
 |[],X,h,p,hp=>by simp only[Ef,oe]at h;subst h;cases hp
 |q::l,X,h,p,hp=>by
  simp only[Ef]at h;split at h;rename_i b X' h1 h2;simp only[oe]at h;subst h;rcases mc.1 hp with rfl|hp
  exact Aj h1;exact HQ h2 p hp;cases h
theorem Ih{B B':Bx}:∀{l:List (Nat×Nat)},(∀p∈l,lk B' p.2=lk B p.2)->Ef B' l=Ef B l
 |[],_=>rfl
 |p::l,h=>by
  simp only[Ef];rw[h p (.head _),Ih fun q hq=>h q (.tail _ hq)]
def Kn:List Nat->Bool
 |[]=>true
 |x::l=> !Ax x l&&Kn l
theorem Dm:∀{l:List Nat},Kn l=true->l.Nodup
 |[],_=>List.nodup_nil
 |x::l,h=>by
  simp only[Kn,ba,Bool.not_eq_true']at h;exact List.nodup_cons.2 ⟨BV h.1,Dm h.2⟩
def frs(d:Nat)(s:St):Bool:=decide (d<up)&& !AR d s.E&& !Be d s.B
def xOk(ρ0 ρ1:List (Nat×Nat))(s:St)(args:List A)(r:A)(X' raw:Bx):Bool:=
 let l:=ρ0.map (·.2)
 let X:=l.map (Jv ρ0)
 let ρ:=rho (ρ0++ρ1)
 BH (fun n=>Nat.beq (ρ (Jv ρ0 n)) n) l&&Kn l&&
 Ij args l&&raw.all (fun p=>aDp p.2 l)&&
 (Kn (AI X')&&BH (fun n=>BH (fun m=> !Nat.beq (ρ n) (ρ m)||Nat.beq n m) (AI X')) (AI X'))&&
 BH (fun n=>Ax n X||Ax (ρ n) (ρ1.map (·.2))) (AI X')&&
 aCm r (AI X')&&X'.all (fun p=>aDp p.2 (AI X'))&&BH (fun n=>frs n s) (ρ1.map (·.2))
def aEi(ρ0 ρ1:List (Nat×Nat))(X':Bx)(a:Nat):Bk:=match X'.find? fun q=>Nat.beq (rho (ρ0++ρ1) q.1) a with
 |some q=>q.2.mapN (rho (ρ0++ρ1))
 |none=>.dead
def xEd(ρ0 ρ1:List (Nat×Nat))(X':Bx):List Ed:=ρ0.map (fun p=>.chg p.2 (aEi ρ0 ρ1 X' p.2))++
 (X'.filter fun q=> !Ax (rho (ρ0++ρ1) q.1) (ρ0.map (·.2))).map fun p=>.add (rho (ρ0++ρ1) p.1) (p.2.mapN (rho (ρ0++ρ1)))
theorem K2{B:Bx}{n:Nat}{b:Bk}{p:Nat×Bk}:p∈BJ B n b↔(p=(n,b)/\n∈AI B)\/(p∈B/\p.1≠n):=by simp only[BJ,mm,AI];constructor;rintro⟨q,hq,rfl⟩;by_cases h:q.1=n;left;simp only[h,if_true,true_and];exact⟨q,hq,h⟩;right;simp only[h,if_false];exact⟨hq,h⟩;rintro(⟨rfl,q,hq,e⟩|⟨hp,hne⟩);exact⟨q,hq,by simp[e]⟩;exact⟨p,hp,by simp[hne]⟩
theorem IU(g:Nat->Bk):∀(l:List (Nat×Nat)) (B:Bx),AI ((l.map fun p=>Ed.chg p.2 (g p.2)).foldl Aa B)=AI B
 |[],B=>rfl
 |p::l,B=>by
  simp only[List.map_cons,List.foldl_cons,Aa];rw[IU g l,A7]
theorem NT(g:Nat->Bk):∀(l:List (Nat×Nat)) (B:Bx) (q:Nat×Bk),q∈(l.map fun p=>Ed.chg p.2 (g p.2)).foldl Aa B↔(q∈B/\q.1∉l.map (·.2))\/(q.1∈AI B/\q.1∈l.map (·.2)/\q.2=g q.1)
 |[],B,q=>by simp
 |p::l,B,q=>by
  simp only[List.map_cons,List.foldl_cons,Aa];rw[NT g l,K2,A7];simp only[mc,not_or];constructor;rintro(⟨⟨rfl,h1⟩|⟨h1,h2⟩,h3⟩|⟨h1,h2,h3⟩);exact .inr ⟨h1,.inl rfl,rfl⟩;exact .inl ⟨h1,h2,h3⟩;exact .inr ⟨h1,.inr h2,h3⟩;rintro(⟨h1,h2,h3⟩|⟨h1,h2,h3⟩);exact .inl ⟨.inr ⟨h1,h2⟩,h3⟩;by_cases h4:q.1∈l.map (·.2)
  exact .inr ⟨h1,h4,h3⟩;rcases h2 with h2|h2
  refine .inl ⟨.inl ⟨?_,h2▸h1⟩,h4⟩;obtain⟨a,b⟩:=q;simp only at h2 h3;rw[h2]at h3⊢;rw[h3];exact absurd h2 h4
theorem KL(ρ:Nat->Nat):∀(X:Bx) (B:Bx),((X.map fun p=>Ed.add (ρ p.1) (p.2.mapN ρ)).foldl Aa B).Perm (X.map (Cq ρ)++B)
 |[],B=>.refl _
 |p::X,B=>by
  simp only[List.map_cons,List.foldl_cons,Aa,List.cons_append];refine(KL ρ X _).trans ?_;refine((CO _ _ _).append_left _).trans ?_;exact List.perm_middle
def Fo(ρ0 ρ1:List (Nat×Nat))(X':Bx):Bx:=((ρ0.map (·.2)).filter fun a=> !X'.any fun q=>Nat.beq (rho (ρ0++ρ1) q.1) a).map fun a=>(a,.dead)
theorem aC5{ρ0 ρ1:List (Nat×Nat)}{X':Bx}{s:St}(hB:(AI s.B).Nodup)(hl:(ρ0.map (·.2)).Nodup)(hin:∀a∈ρ0.map (·.2),a∈AI s.B)(hX:(AI (X'.map (Cq (rho (ρ0++ρ1))))).Nodup)
 (hnew:∀q∈X',rho (ρ0++ρ1) q.1∈ρ0.map (·.2)\/rho (ρ0++ρ1) q.1∉AI s.B):
 (s.edit (xEd ρ0 ρ1 X')).B.Perm (X'.map (Cq (rho (ρ0++ρ1)))++(Fo ρ0 ρ1 X'++Ku (ρ0.map (·.2)) s.B)):=by
 let ρ:=rho (ρ0++ρ1)
 let im:=ρ0.map (·.2)
 simp only[St.edit,xEd,List.foldl_append]
 refine(KL ρ _ _).trans ?_
 let N:=X'.filter fun q=> !Ax (ρ q.1) im
 let C:=(ρ0.map fun p=>Ed.chg p.2 (aEi ρ0 ρ1 X' p.2)).foldl Aa s.B
 have hCn:AI C=AI s.B:=IU (aEi ρ0 ρ1 X') ρ0 s.B
 have hNm:∀q∈N,q∈X'/\ρ q.1∉im:=fun q hq=>by obtain⟨h1,h2⟩:=List.mem_filter.1 hq;simp only[Bool.not_eq_true']at h2;exact⟨h1,BV h2⟩
 have hnN:(AI (N.map (Cq ρ))).Nodup:=hX.sublist ((List.filter_sublist.map _).map _)
 have hL:(N.map (Cq ρ)++C).Nodup:=by
  refine Bm (·.1) ?_
  show(AI (N.map (Cq ρ)++C)).Nodup;rw[AJ,hCn];refine List.nodup_append.2 ⟨hnN,hB,fun x hx y hy e=>?_⟩;obtain⟨p,hp,rfl⟩:=mm.1 hx;obtain⟨q,hq,rfl⟩:=mm.1 hp;obtain⟨h1,h2⟩:=hNm q hq;rcases hnew q h1 with h|h
  exact h2 h;exact h (by rw[show rho (ρ0++ρ1) q.1=y from e];exact hy)
 have hD:∀p,p∈Fo ρ0 ρ1 X'↔p.1∈im/\(∀q∈X',ρ q.1≠p.1)/\p.2=.dead:=fun p=>by simp only[Fo,mm,List.mem_filter];constructor;rintro⟨a,⟨h1,h2⟩,rfl⟩;refine⟨mm.2 h1,fun q hq e=>?_,rfl⟩;simp only[Bool.not_eq_true',List.any_eq_false]at h2;exact h2 q hq (by rw[show rho (ρ0++ρ1) q.1=a from e];exact Nat.beq_refl a);rintro⟨h1,h2,h3⟩;refine⟨p.1,⟨mm.1 h1,?_⟩,by obtain⟨a,b⟩:=p;simp only at h3;rw[h3]⟩;simp only[Bool.not_eq_true',List.any_eq_false];intro q hq e;exact h2 q hq (Nat.eq_of_beq_eq_true e)
 have hDn:(AI (Fo ρ0 ρ1 X')).Nodup:=by simp only[AI,Fo,List.map_map];have:((fun p:Nat×Bk=>p.1) ∘ fun a=>(a,Bk.dead))=id:=rfl;rw[this,List.map_id];exact hl.filter _
 have hR:(X'.map (Cq ρ)++(Fo ρ0 ρ1 X'++Ku im s.B)).Nodup:=by
  refine Bm (·.1) ?_
  show(AI (X'.map (Cq ρ)++(Fo ρ0 ρ1 X'++Ku im s.B))).Nodup;rw[AJ,AJ];have hrs:∀x∈AI (Ku im s.B),x∈AI s.B/\x∉im:=fun x hx=>by obtain⟨p,hp,rfl⟩:=mm.1 hx;obtain⟨h1,h2⟩:=List.mem_filter.1 hp;simp only[Bool.not_eq_true']at h2;exact⟨mm.2 ⟨p,h1,rfl⟩,BV h2⟩
  have hds:∀x∈AI (Fo ρ0 ρ1 X'),x∈im/\∀q∈X',ρ q.1≠x:=fun x hx=>by obtain⟨p,hp,rfl⟩:=mm.1 hx;obtain⟨h1,h2,_⟩:=(hD p).1 hp;exact⟨h1,h2⟩
  refine List.nodup_append.2 ⟨hX,List.nodup_append.2 ⟨hDn,hB.sublist (List.filter_sublist.map _),fun x hx y hy e=>?_⟩,fun x hx y hy e=>?_⟩;exact(hrs y hy).2 (e▸(hds x hx).1);obtain⟨p,hp,rfl⟩:=mm.1 hx;obtain⟨q,hq,rfl⟩:=mm.1 hp;rcases ma.1 hy with hy|hy
  exact(hds y hy).2 q hq e;obtain⟨c1,c2⟩:=hrs y hy;rcases hnew q hq with h|h
  exact c2 (e▸h);exact h (by rw[show rho (ρ0++ρ1) q.1=y from e];exact c1)
 refine(List.perm_ext_iff_of_nodup hL hR).2 fun p=>?_
 have hC:=NT (aEi ρ0 ρ1 X') ρ0 s.B p
 have hfind:∀q∈X',aEi ρ0 ρ1 X' (ρ q.1)=q.2.mapN ρ:=fun q hq=>by
  unfold aEi;cases hf:X'.find? (fun q'=>Nat.beq (rho (ρ0++ρ1) q'.1) (ρ q.1))with
  |none=>
   have:=List.find?_eq_none.1 hf q hq
   exact absurd (Nat.beq_refl _) this
  |some q'=>
   have h1:=List.mem_of_find?_eq_some hf
   have h2':Nat.beq (rho (ρ0++ρ1) q'.1) (ρ q.1)=true:=List.find?_some (p:=fun q':Nat×Bk=>Nat.beq (rho (ρ0++ρ1) q'.1) (ρ q.1)) hf
   have h2:=Nat.eq_of_beq_eq_true h2'
   have h3:Cq ρ q'=Cq ρ q:=by
    have h4:(Cq ρ q').1=(Cq ρ q).1:=h2;have e1:(Cq ρ q')∈X'.map (Cq ρ):=mm.2 ⟨q',h1,rfl⟩;have e2:(Cq ρ q)∈X'.map (Cq ρ):=mm.2 ⟨q,hq,rfl⟩;have h5:Cq ρ q'=((Cq ρ q).1,(Cq ρ q').2):=by rw[<-h4]
    rw[h5]at e1;have e2':((Cq ρ q).1,(Cq ρ q).2)∈X'.map (Cq ρ):=e2;rw[h5,BB hX e1 e2']
   exact congrArg (·.2) h3
 constructor
 intro hp
 rcases ma.1 hp with hp|hp
 obtain⟨q,hq,rfl⟩:=mm.1 hp
 exact ml _ (mm.2 ⟨q,(hNm q hq).1,rfl⟩)
 rcases hC.1 hp with⟨h1,h2⟩|⟨h1,h2,h3⟩
 refine mr _ (mr _ (List.mem_filter.2 ⟨h1,?_⟩))
 cases hm:Ax p.1 im
 rfl
 exact absurd (Ao.1 hm) h2
 by_cases hq:∃q∈X',ρ q.1=p.1
 obtain⟨q,hq,e⟩:=hq
 refine ml _ (mm.2 ⟨q,hq,?_⟩)
 obtain⟨a,b⟩:=p
 simp only at e h3
 show(ρ q.1,q.2.mapN ρ)=(a,b)
 rw[h3,<-e,hfind q hq]
 refine mr _ (ml _ ((hD p).2 ⟨h2,fun q hq' e=>hq ⟨q,hq',e⟩,?_⟩))
 rw[h3]
 unfold aEi
 cases hf:X'.find? (fun q'=>Nat.beq (rho (ρ0++ρ1) q'.1) p.1)with
 |none=>rfl
 |some q'=>exact absurd ⟨q',List.mem_of_find?_eq_some hf,Nat.eq_of_beq_eq_true (List.find?_some (p:=fun q':Nat×Bk=>Nat.beq (rho (ρ0++ρ1) q'.1) p.1) hf)⟩ hq
 intro hp
 rcases ma.1 hp with hp|hp
 obtain⟨q,hq,rfl⟩:=mm.1 hp
 by_cases hm:ρ q.1∈im
 exact mr _ (hC.2 (.inr ⟨hin _ hm,hm,(hfind q hq).symm⟩))
 refine ml _ (mm.2 ⟨q,List.mem_filter.2 ⟨hq,?_⟩,rfl⟩)
 cases hmm:Ax (ρ q.1) im
 rfl
 exact absurd (Ao.1 hmm) hm
 refine mr _ ?_
 rcases ma.1 hp with hp|hp
 obtain⟨h1,h2,h3⟩:=(hD p).1 hp
 refine hC.2 (.inr ⟨hin _ h1,h1,?_⟩)
 rw[h3]
 unfold aEi
 cases hf:X'.find? (fun q'=>Nat.beq (rho (ρ0++ρ1) q'.1) p.1)with
 |none=>rfl
 |some q'=>exact absurd (Nat.eq_of_beq_eq_true (List.find?_some (p:=fun q':Nat×Bk=>Nat.beq (rho (ρ0++ρ1) q'.1) p.1) hf)) (h2 q' (List.mem_of_find?_eq_some hf))
 obtain⟨h1,h2⟩:=List.mem_filter.1 hp
 simp only[Bool.not_eq_true']at h2
 exact hC.2 (.inl ⟨h1,BV h2⟩)
theorem AO.dead{P:Program}{f:FuncId}{args:List A}{X X':Bx}{r:A}(hc:AO P f args X r X')(Dd:Bx)(hd:∀p∈Dd,p.2=.dead/\p.1∈AI X/\p.1∉AI X')(hn:(AI Dd).Nodup):AO P f args X r (X'++Dd):=by
 intro h w val vs hI hargs;refine(hc h w val vs hI hargs).mono fun e w' hh=>?_;obtain⟨h',val',u,rfl,hI',hru,hk,hv,hb⟩:=hh;have hbl:AV val' (X'++Dd)=AV val' X':=by
  rw[AN];have:AV val' Dd=[]:=by refine List.filterMap_eq_nil_iff.2 fun p hp=>?_;unfold Ae;rw[(hd p hp).1];rfl
  rw[this,List.append_nil]
 refine⟨h',val',u,rfl,⟨fun p hp=>?_,?_,?_⟩,hru,hk,fun n hn=>hv n fun hx=>hn (by rw[AJ];exact ml _ hx),by rw[hbl];exact hb⟩;rcases ma.1 hp with hp|hp
 exact hI'.rep p hp;rw[(hd p hp).1];trivial;rw[AJ];refine List.nodup_append.2 ⟨hI'.nms,hn,fun x hx y hy e=>?_⟩;obtain⟨p,hp,rfl⟩:=mm.1 hy;exact(hd p hp).2.2 (e▸hx);rw[hbl];exact hI'.bks
def IQ(P:Program)(o:Oper)(s:St)(wt:W):Option (Ob×A×List Ed):=
 match o.op with
 | .call c=>match c.callee with
  | .value g=>match CH (s.ev g),wt with
   |some (f,fs,cs),.cx bb ρ0 ρ1 r X'=>match Ef s.B ρ0 with
    |some raw=>
     if aB5 P f&&xOk ρ0 ρ1 s (fs++c.args.toList.map (fun x=>if bb=true then s.ev x else s.look (s.ev x))++cs) r X' raw then
      some (.call f (Bw (Jv ρ0) (fs++c.args.toList.map (fun x=>if bb=true then s.ev x else s.look (s.ev x))++cs)) (raw.map (Cq (Jv ρ0))) r X',r.mapN (rho (ρ0++ρ1)),xEd ρ0 ρ1 X')else none
    |none=>none
   |_,_=>none
  |_=>none
 |_=>none
theorem aCu{l:List Nat}{B raw:Bx}(hB:(AI B).Nodup)(hl:l.Nodup)(hr:AI raw=l)(hm:∀p∈raw,p∈B):(aCr l B).Perm raw:=by
 have hBn:B.Nodup:=Bm _ hB;have hrn:raw.Nodup:=Bm (·.1) (by rw[<-hr]at hl;exact hl)
 refine(List.perm_ext_iff_of_nodup (hBn.filter _) hrn).2 fun p=>?_;constructor;intro hp;obtain⟨h1,h2⟩:=List.mem_filter.1 hp;have h3:=Ao.1 h2;rw[<-hr]at h3;obtain⟨q,hq,e⟩:=mm.1 h3;obtain⟨n,b⟩:=p;obtain⟨n',b'⟩:=q;simp only at e;subst e;rw[BB hB h1 (hm _ hq)];exact hq;intro hp;refine List.mem_filter.2 ⟨hm p hp,Ao.2 ?_⟩;rw[<-hr];exact mm.2 ⟨p,hp,rfl⟩
theorem G8{n:Nat}{B:Bx}(h:Be n B=false):n∉AI B:=fun hn=>by obtain⟨p,hp,e⟩:=mm.1 hn;exact(Bd h p hp).1 e
theorem aC7{P:Program}{f:FuncId}{ρ0 ρ1:List (Nat×Nat)}{s:St}{args:List A}{r:A}{X' raw:Bx}(hok:xOk ρ0 ρ1 s args r X' raw=true)(hraw:Ef s.B ρ0=some raw)(hF:Far s.F)(hn:(AI s.all).Nodup)
 (hc:AO P f (Bw (Jv ρ0) args) (raw.map (Cq (Jv ρ0))) r X'):
 AO P f args (s.B++s.F) (r.mapN (rho (ρ0++ρ1))) ((s.edit (xEd ρ0 ρ1 X')).B++s.F)/\∀p∈(s.edit (xEd ρ0 ρ1 X')).B,p.1∈AI s.B\/(p.1<up/\AR p.1 s.E=false):=by
 simp only[xOk,ba]at hok
 obtain⟨⟨⟨⟨⟨⟨⟨⟨k1,k2⟩,k3⟩,k4⟩,k5⟩,k6⟩,k7⟩,k8⟩,k9⟩:=hok
 let im:=ρ0.map (·.2)
 let ρ:=rho (ρ0++ρ1)
 have hrn:AI raw=im:=HS hraw
 have hnB:(AI s.B).Nodup:=by have:=hn;unfold St.all at this;rw[AJ]at this;exact(List.nodup_append.1 this).1
 have hround:∀n∈im,(fun n=>ρ (Jv ρ0 n)) n=n:=fun n hn=>by simpa using Av k1 n hn
 have hpick:∀p∈raw,p.1∈im/\aDp p.2 im=true:=fun p hp=>⟨by rw[<-hrn];exact mm.2 ⟨p,hp,rfl⟩,(List.all_eq_true.1 k4) p hp⟩
 have hargs:Bw ρ (Bw (Jv ρ0) args)=args:=by rw[By];exact VF k3 hround
 have hXmap:(raw.map (Cq (Jv ρ0))).map (Cq ρ)=raw:=by
  rw[List.map_map];have:(Cq ρ ∘ Cq (Jv ρ0))=Cq (fun n=>ρ (Jv ρ0 n)):=by funext p;show(ρ (Jv ρ0 p.1),(p.2.mapN (Jv ρ0)).mapN ρ)=(ρ (Jv ρ0 p.1),p.2.mapN fun n=>ρ (Jv ρ0 n));rw[Bk.mapN_mapN]
  rw[this];exact Uz hround hpick
 have hnX:∀n,n∈AI (raw.map (Cq (Jv ρ0)))↔n∈im.map (Jv ρ0):=fun n=>by rw[Bz,hrn]
 have hinB:∀m∈im,m∈AI s.B:=fun m hm=>by rw[<-hrn]at hm;obtain⟨p,hp,e⟩:=mm.1 hm;exact mm.2 ⟨p,HQ hraw p hp,e⟩
 have hX:∀n∈im.map (Jv ρ0),ρ n∈im:=fun n hn=>by obtain⟨m,hm,rfl⟩:=mm.1 hn;have:=hround m hm;simp only at this;rw[this];exact hm
 have h4:∀n∈AI X',∀m∈AI X',ρ n=ρ m->n=m:=fun n hn m hm e=>by
  have:=Av (Av k5.2 n hn) m hm;simp only[Bool.or_eq_true,Bool.not_eq_true',Nat.beq_eq]at this;rcases this with h|h
  rw[show rho (ρ0++ρ1) n=rho (ρ0++ρ1) m from e]at h;rw[Nat.beq_refl]at h;cases h;exact h
 have h6:∀n∈AI X',n∈im.map (Jv ρ0)\/(ρ n<up/\AR (ρ n) s.E=false/\Be (ρ n) s.B=false):=fun n hn=>by
  have:=Av k6 n hn;simp only[Bool.or_eq_true]at this;rcases this with h|h
  exact .inl (Ao.1 h);right;have h9:=Av k9 _ (Ao.1 h);simp only[frs,ba,decide_eq_true_eq,Bool.not_eq_true']at h9;exact⟨h9.1.1,h9.1.2,h9.2⟩
 have hrest:∀p∈Ku im s.B,p∈s.B/\p.1∉im:=fun p hp=>by obtain⟨h1,h2⟩:=List.mem_filter.1 hp;simp only[Bool.not_eq_true']at h2;exact⟨h1,BV h2⟩
 have hfr:=hc.frame ρ (fun n h=>aKs h) (Ku im s.B++s.F) h4
  (fun n hn hne m hm e=>by
   rcases h6 n hn with h|⟨_,_,h⟩
   exact hne ((hnX n).2 h);exact G8 h (by rw[e];exact hinB _ (hX m ((hnX m).1 hm))))
  (fun n hn'=>by
   rw[AJ,ma];rcases h6 n hn' with h|⟨h1,h2,h3⟩
   have hin:=hX n h;rintro(hh|hh);obtain⟨p,hp,e⟩:=mm.1 hh;exact(hrest p hp).2 (e▸hin);have:=hn;unfold St.all at this;rw[AJ]at this;exact(List.nodup_append.1 this).2.2 _ (hinB _ hin) _ hh rfl;rintro(hh|hh);obtain⟨p,hp,e⟩:=mm.1 hh;exact(Bd h3 p (hrest p hp).1).1 e;obtain⟨p,hp,e⟩:=mm.1 hh;exact(hF _ (.inl h1) p hp).1 e)
  (fun n hn hne p hp=>by
   rcases h6 n hn with h|⟨h1,h2,h3⟩
   exact absurd ((hnX n).2 h) hne;rcases ma.1 hp with hp|hp
   exact(Bd h3 p (hrest p hp).1).2;exact(hF _ (.inl h1) p hp).2)
  (fun n hn=>Nr k7 n hn) (fun p hp n hn=>UK ((List.all_eq_true.1 k8) p hp) n hn)
 rw[hargs,hXmap]at hfr
 have hXn:(AI (X'.map (Cq ρ))).Nodup:=by rw[Bz];exact C3 h4 (Dm k5.1)
 have hnew:∀q∈X',ρ q.1∈im\/ρ q.1∉AI s.B:=fun q hq=>by
  rcases h6 q.1 (mm.2 ⟨q,hq,rfl⟩)with h|⟨_,_,h⟩
  exact .inl (hX _ h);exact .inr (G8 h)
 have hperm:=aC5 hnB (Dm k2) hinB hXn hnew
 have hfr2:=hfr.dead (Fo ρ0 ρ1 X') (fun p hp=>by
  simp only[Fo,mm,List.mem_filter]at hp;obtain⟨a,⟨h1,h2⟩,rfl⟩:=hp;have ha:a∈im:=mm.2 h1;refine⟨rfl,?_,fun hh=>?_⟩;rw[AJ];exact ml _ (by rw[hrn];exact ha);rw[AJ,AJ]at hh;rcases ma.1 hh with hh|hh
  rw[Bz]at hh;obtain⟨n,hn',e⟩:=mm.1 hh;obtain⟨q,hq,rfl⟩:=mm.1 hn';simp only[Bool.not_eq_true',List.any_eq_false]at h2;exact h2 q hq (by rw[show rho (ρ0++ρ1) q.1=a from e];exact Nat.beq_refl a);rcases ma.1 hh with hh|hh
  obtain⟨p,hp,e⟩:=mm.1 hh;exact(hrest p hp).2 (e▸ha);have:=hn;unfold St.all at this;rw[AJ]at this;exact(List.nodup_append.1 this).2.2 _ (hinB _ ha) _ hh rfl) (by
  simp only[AI,Fo,List.map_map];have:((fun p:Nat×Bk=>p.1) ∘ fun a=>(a,Bk.dead))=id:=rfl;rw[this,List.map_id];exact(Dm k2).filter _)
 refine⟨hfr2.perm ?_ ?_,fun p hp=>?_⟩
 rw[<-List.append_assoc]
 exact((Kq im s.B).trans ((aCu hnB (Dm k2) hrn (HQ hraw)).append_right _)).append_right _
 refine List.Perm.trans ?_ (hperm.symm.append_right s.F)
 simp only[List.append_assoc]
 refine List.Perm.append_left _ ?_
 rw[<-List.append_assoc]
 exact List.perm_append_comm
 rcases ma.1 (hperm.mem_iff.1 hp)with hp|hp
 obtain⟨q,hq,rfl⟩:=mm.1 hp
 have hqn:q.1∈AI X':=mm.2 ⟨q,hq,rfl⟩
 rcases h6 q.1 hqn with h|⟨h1,h2,h3⟩
 exact .inl (hinB _ (hX _ h))
 exact .inr ⟨h1,h2⟩
 rcases ma.1 hp with hp|hp
 simp only[Fo,mm,List.mem_filter]at hp
 obtain⟨a,⟨h1,h2⟩,rfl⟩:=hp
 exact .inl (hinB _ (mm.2 h1))
 exact .inl (mm.2 ⟨p,(hrest p hp).1,rfl⟩)
theorem T3{P:Program}{o:Oper}{s:St}{wt:W}{L:Lp}{Φ:Ob}{r:A}{es:List Ed}(he:IQ P o s wt=some (Φ,r,es)):FV P o s (Φ.ok P L) r (s.edit es):=by
 intro hΦ h w val a H K Q hK;unfold IQ at he;split at he;rename_i c ho;obtain⟨callee,args,argTypes⟩:=c;simp only at he;split at he;rename_i g;split at he;rename_i f fs cs bb ρ0 ρ1 r' X' hg;split at he;rename_i raw hraw;obtain⟨ff,hff⟩:∃ff:Operand->A,ff=fun x=>if bb=true then s.ev x else s.look (s.ev x):=⟨_,rfl⟩
 rw[<-hff]at he;split at he;rename_i hb;simp only[ba]at hb;obtain⟨hf,hok⟩:=hb;simp only[oe,pe]at he;obtain⟨rfl,rfl,rfl⟩:=he;subst hff;simp only[Ob.ok]at hΦ;obtain⟨hc,hfree⟩:=aC7 hok hraw H.far H.inv.nms hΦ;have heo:KI P o s (.own bb (r'.mapN (rho (ρ0++ρ1))) (s.edit (xEd ρ0 ρ1 X')).B s.F)=
  some (.both (.call f (fs++args.toList.map (fun x=>if bb=true then s.ev x else s.look (s.ev x))++cs) (s.B++s.F) (r'.mapN (rho (ρ0++ρ1))) ((s.edit (xEd ρ0 ρ1 X')).B++s.F)) (.frame s.F s.F),r'.mapN (rho (ρ0++ρ1)),
   {s with B:=(s.edit (xEd ρ0 ρ1 X')).B,F:=s.F}):=by
  unfold KI
  rw[ho]
  simp only[hg]
  rw[if_pos]
  simp only[ba]
  refine⟨hf,List.all_eq_true.2 fun p hp=>?_⟩
  simp only[Bool.or_eq_true,ba,decide_eq_true_eq,Bool.not_eq_true',List.contains_iff_mem]
  exact hfree p hp
 refine KJ (L:=L) heo ?_ h w val a H K Q hK;simp only[Ob.ok];exact⟨by simpa using hc,by simp⟩;cases he;cases he;cases he;cases he;cases he
end Go.Ac
namespace Go.Ac
mutual
def D.scal:D->Bool
 | .v _=>true
 | .agg cs=>aCv cs
 | .sl _=>false
 | .ptr _=>false
def aCv:List D->Bool
 |[]=>true
 |x::l=>x.scal&&aCv l
end
mutual
theorem RD.scal{h w h' w'}:∀(x:D) (u:Value),x.scal=true->RD h w x u->RD h' w' x u
 | .v x,u,_,hr=>by simpa only[RD]using hr
 | .agg cs,u,hs,hr=>by
  simp only[D.scal]at hs;simp only[RD]at hr⊢;obtain⟨us,e,hr⟩:=hr;exact⟨us,e,RDs.scal cs us hs hr⟩
 | .sl xs,u,hs,hr=>by simp[D.scal]at hs
 | .ptr xs,u,hs,hr=>by simp[D.scal]at hs
theorem RDs.scal{h w h' w'}:∀(cs:List D) (us:List Value),aCv cs=true->RDs h w cs us->RDs h' w' cs us
 |[],us,_,hr=>by simpa only[RDs]using hr
 |c::cs,us,hs,hr=>by
  simp only[aCv,ba]at hs;simp only[RDs]at hr⊢;obtain⟨u,us',e,h1,h1',h2⟩:=hr;exact⟨u,us',e,RD.scal c u hs.1 h1,h1',RDs.scal cs us' hs.2 h2⟩
end
def N8:List A->Bool
 |[]=>true
 | .d x::l=>x.scal&&N8 l
 |_::_=>false
def A.scal:A->Bool
 | .d x=>x.scal
 | .tup vs=>N8 vs
 | .any=>true
 |_=>false
theorem RAs.scal{h w h' w'}{val val':Val}:∀(as':List A) (us:List Value),N8 as'=true->RAs h w val as' us->RAs h' w' val' as' us
 |[],us,_,hr=>by simpa only[RAs]using hr
 | .d x::l,us,hs,hr=>by
  simp only[N8,ba]at hs;simp only[RAs,RA]at hr⊢;obtain⟨u,us',e,h1,h2⟩:=hr;exact⟨u,us',e,RD.scal x u hs.1 h1,RAs.scal l us' hs.2 h2⟩
theorem RA.scal{h w h' w'}{val val':Val}{a:A}{u:Value}(hs:a.scal=true)(hr:RA h w val a u):RA h' w' val' a u:=by
 cases a with
 |d x=>simp only[RA]at hr⊢;exact RD.scal x u hs hr
 |tup vs=>
  simp only[RA]at hr⊢
  obtain⟨us,e,h1⟩:=hr
  exact⟨us,e,RAs.scal vs us hs h1⟩
 |any=>simp[RA]
 |_=>simp[A.scal]at hs

theorem UP{w:World}{g j:Nat}{v:Value}(h:w.cell? ⟨g,j,none⟩=some v):∃c t f,w.heap[g]? =some (.cells c t f)/\j<c.size:=by unfold World.cell? at h;split at h;rename_i c t f hg;simp only[Option.isSome_none,Bool.false_eq_true,if_false]at h;exact⟨c,t,f,hg,(Array.getElem?_eq_some_iff.1 h).1⟩;cases h
def L3(w:World)(b:Nat):Nat:=match w.heap[b]? with
 |some (.cells c _ _)=>c.size
 |_=>0
theorem KP{w:World}{g j:Nat}{v:Value}(h:w.cell? ⟨g,j,none⟩=some v):j<L3 w g:=by obtain⟨c,t,f,hg,hj⟩:=UP h;unfold L3;rw[hg];exact hj
theorem aCn{h:Hw}{w:World}{e:TypeId}{k:Nat}{v:Value}{xs:List D}{us:List Value}(hown:w.ownsRow 0 e k v xs.length us)(hrow:Ah h w k xs us)
 (hh:∀g,v.ownBlock=some g->∀j x,w.cell? ⟨g,j,none⟩=some x->j<h g):RD h w (.sl xs) v:=by
 simp only[RD]
 rcases hown.2 with⟨hv,hn⟩|⟨g,cap,cur,hv,_,hg,hnc,hcm,hcs,htake⟩
 have hx:xs=[]:=List.eq_nil_of_length_eq_zero hn
 subst hx
 rw[hv]
 exact⟨none,0,k,us,by simp,by simp,by simp[maxLen],hrow,by simp⟩
 refine⟨some ⟨g,0,none⟩,cap,k,us,hv,hnc,hcm,hrow,fun h0=>⟨_,rfl,fun j x hj=>?_⟩⟩
 have hb:v.ownBlock=some g:=by rw[hv];rfl
 have hc:=hown.cells hb j x hj
 refine⟨hc,?_⟩
 rw[Addr.add_lit]at hc
 exact hh g hb _ x hc
theorem RB.buf_rw{h:Hw}{w:World}{val:Val}{n:Nat}{e:TypeId}{k:Nat}{xs:List D}(hr:RB h w val n (.buf true e k xs)):RB h w val n (.rw e k xs):=by obtain⟨g,us,hv,hm,hg,hrow,h0⟩:=hr;simp only[if_true]at hv;have hlen:=Ah.length hrow;refine⟨us,⟨hlen,.inr ⟨g,xs.length,⟨us⟩,hv,Nat.zero_le _,hg,Nat.le_refl _,hm,by simpa using hlen,?_⟩⟩,hrow,fun g' hg'=>?_⟩;rw[<-hlen];simp;simp only[hv,Value.ownBlock,oe]at hg';subst hg';exact h0

def EP(s:St)(ns:List Nat)(n:Nat):Option D:=
 if Ax n ns then match lk s.B n with
  |some (.rw _ _ xs)=>some (.sl xs)
  |some (.buf true _ _ xs)=>some (.sl xs)
  |_=>none
 else none
def DD(s:St)(ns:List Nat)(bx:Nat->Option D):List A->Option (List D)
 |[]=>some []
 | .d x::l=>(DD s ns bx l).map fun ds=>x::ds
 | .nil::l=>(DD s ns bx l).map fun ds=>.sl []::ds
 | .row n::l=>match EP s ns n with
  |some x=>(DD s ns bx l).map fun ds=>x::ds
  |none=>match s.look (.row n)with
   | .d x=>(DD s ns bx l).map fun ds=>x::ds
   |_=>none
 | .clo f [] []::l=>(DD s ns bx l).map fun ds=>.v (.func f #[] #[])::ds
 | .box n off::l=>if Nat.beq off 0 then match bx n with
  |some x=>(DD s ns bx l).map fun ds=>x::ds
  |none=>none
  else none
 | .eptr cs::l=>(DD s ns bx l).map fun ds=>.ptr cs::ds
 |_::_=>none
def Jj(s:St)(ns:List Nat):Nat->Nat->Option (List D)
 |0,_=>none
 |k+1,n=>if Ax n ns then match lk s.B n with
  |some (.cells cs)=>DD s ns (fun m=>(Jj s ns k m).map .ptr) cs
  |_=>none
  else none
mutual
def B3(s:St)(ns:List Nat):A->A
 | .row n=>match EP s ns n with
  |some x=>.d x
  |none=>.row n
 | .box n off=>if Nat.beq off 0 then match Jj s ns 4 n with
  |some ds=>.eptr ds
  |_=>.box n off
  else .box n off
 | .clo f a b=>.clo f (DK s ns a) (DK s ns b)
 |x=>x
def DK(s:St)(ns:List Nat):List A->List A
 |[]=> []
 |a::l=>B3 s ns a::DK s ns l
end
def IO(P:Program)(o:Oper)(s:St)(wt:W):Option (Ob×A):=
 match o.op with
 | .call c=>match c.callee with
  | .value g=>match CH (s.ev g),wt with
   |some (f,fs,cs),.lend ns r=>
    if aB5 P f&&EL (DK s ns (fs++c.args.toList.map (fun x=>s.look (s.ev x))++cs))&&r.scal then
     some (.call f (DK s ns (fs++c.args.toList.map (fun x=>s.look (s.ev x))++cs)) [] r [],r)else none
   |_,_=>none
  |_=>none
 |_=>none

def HP(val:Val)(s:St)(ns:List Nat):List Nat:=AV val (aCr ns s.B)
def Ee(h:Hw)(w:World)(L:List Nat):Hw:=fun b=>if Ax b L then max (h b) (L3 w b)else h b
theorem Nj(h:Hw)(w:World)(L:List Nat)(b:Nat):h b<=Ee h w L b:=by unfold Ee;split;exact Nat.le_max_left _ _;exact Nat.le_refl _
theorem Aq(h:Hw)(w:World)(L:List Nat):F3 h w (Ee h w L) w:=⟨fun _ _ _ _ hc=>hc,fun b _=>Nj h w L b⟩
theorem Ni{h:Hw}{w:World}{L:List Nat}{b:Nat}(hb:b∈L){j:Nat}{x:Value}(hc:w.cell? ⟨b,j,none⟩=some x):j<Ee h w L b:=by unfold Ee;rw[if_pos (Ao.2 hb)];exact Nat.lt_of_lt_of_le (KP hc) (Nat.le_max_right _ _)
theorem Uu{val:Val}{s:St}{ns:List Nat}{n:Nat}{bk:Bk}{g:Nat}(hn:Ax n ns=true)(hl:lk s.B n=some bk)(ho:bk.isOld=false)(hv:Bs (val n)=some g):g∈HP val s ns:=
 Inv.blk_mem (p:=(n,bk)) (List.mem_filter.2 ⟨Aj hl,hn⟩) (Ak hv ho)
section
variable {s:St} {h:Hw} {w:World} {val:Val} {ns:List Nat}
theorem Ig(I:Inv h w val s.all){n:Nat}{x:D}(he:EP s ns n=some x):RD (Ee h w (HP val s ns)) w x (val n):=by
 have key:∀e k xs,(∃bk,lk s.B n=some bk/\bk.isOld=false)->Ax n ns=true->RB h w val n (.rw e k xs)->RD (Ee h w (HP val s ns)) w (.sl xs) (val n):=by intro e k xs ⟨bk,hl,ho⟩ hn hr;obtain⟨us,hown,hrow,_⟩:=hr;exact aCn hown (Ah.stays (Aq h w _) _ _ _ hrow) fun g hg j x hc=>Ni (Uu hn hl ho (Bv hg)) hc
 unfold EP at he;split at he;rename_i hn;split at he;rename_i e k xs hl;simp only[oe]at he;subst he;exact key e k xs ⟨_,hl,rfl⟩ hn (I.rep _ (ml _ (Aj hl)));rename_i e k xs hl;simp only[oe]at he;subst he;exact key e k xs ⟨_,hl,rfl⟩ hn (RB.buf_rw (I.rep _ (ml _ (Aj hl))));cases he;cases he
theorem Nh{a:Act}(H:AS s h w val a){bx:Nat->Option D}(hbx:∀m x,bx m=some x->RD (Ee h w (HP val s ns)) w x (val m)):∀(cs:List A) (ds:List D) (us:List Value),DD s ns bx cs=some ds->RAs h w val cs us->(∀u∈us,u.oneCell'=true)->RDs (Ee h w (HP val s ns)) w ds us
 |[],ds,us,he,hr,_=>by
  simp only[DD,oe]at he;subst he;simpa only[RAs,RDs]using hr
 |c::cs,ds,us,he,hr,h1=>by
  simp only[RAs]at hr;obtain⟨u,us',rfl,hc,hcs⟩:=hr;have hu1:=h1 u (.head _);have ih:=fun ds he=>Nh H hbx cs ds us' he hcs fun v hv=>h1 v (.tail _ hv);have st:=Aq h w (HP val s ns);unfold DD at he;split at he;rename_i e;cases e;rename_i x l e;obtain⟨rfl,rfl⟩:=List.cons.inj e;simp only[om]at he;obtain⟨ds',h2,rfl⟩:=he;simp only[RA]at hc;simp only[RDs];exact⟨u,us',rfl,RD.stays st _ _ hc,hu1,ih _ h2⟩;rename_i l e;obtain⟨rfl,rfl⟩:=List.cons.inj e;simp only[om]at he;obtain⟨ds',h2,rfl⟩:=he;simp only[RA]at hc;subst hc;simp only[RDs];exact⟨_,us',rfl,IF _ _,hu1,ih _ h2⟩;rename_i n l e;obtain⟨rfl,rfl⟩:=List.cons.inj e;split at he;rename_i x hx;simp only[om]at he;obtain⟨ds',h2,rfl⟩:=he;simp only[RA]at hc;simp only[RDs];refine⟨u,us',rfl,?_,hu1,ih _ h2⟩;rw[hc.1];exact Ig H.inv hx;split at he;rename_i x hx;simp only[om]at he;obtain⟨ds',h2,rfl⟩:=he;have:=H.look hc;rw[hx]at this;simp only[RA]at this;simp only[RDs];exact⟨u,us',rfl,RD.stays st _ _ this,hu1,ih _ h2⟩;cases he;rename_i f l e;obtain⟨rfl,rfl⟩:=List.cons.inj e;simp only[om]at he;obtain⟨ds',h2,rfl⟩:=he;simp only[RA,RAs]at hc;obtain⟨fs,cs2,e2,e3,e4⟩:=hc;subst e3;subst e4;simp only[RDs,RD];exact⟨u,us',rfl,⟨e2,by rw[<-e2];exact hu1⟩,hu1,ih _ h2⟩;rename_i n off l e;obtain⟨rfl,rfl⟩:=List.cons.inj e;split at he;rename_i hoff;simp only[Nat.beq_eq]at hoff;subst hoff;split at he;rename_i x hx;simp only[om]at he;obtain⟨ds',h2,rfl⟩:=he;simp only[RA]at hc;obtain⟨b,e1,e2⟩:=hc;simp only[RDs];refine⟨u,us',rfl,?_,hu1,ih _ h2⟩;rw[e2,<-e1];exact hbx _ _ hx;cases he;cases he;rename_i cs0 l e;obtain⟨rfl,rfl⟩:=List.cons.inj e;simp only[om]at he;obtain⟨ds',h2,rfl⟩:=he;simp only[RDs];refine⟨u,us',rfl,RD.stays st _ _ ?_,hu1,ih _ h2⟩;simpa only[RA,RD]using hc;cases he
theorem Ng{a:Act}(H:AS s h w val a):∀(k n:Nat) (ds:List D),Jj s ns k n=some ds->∃b us,val n=.pointer (some ⟨b,0,none⟩)/\RDs (Ee h w (HP val s ns)) w ds us/\
 ∀j v,us[j]? =some v->w.cell? ((⟨b,0,none⟩:Addr).add j)=some v/\(⟨b,0,none⟩:Addr).off+j<Ee h w (HP val s ns) b
 |0,n,ds,he=>by simp[Jj]at he
 |k+1,n,ds,he=>by
  simp only[Jj]at he;split at he;rename_i hn;split at he;rename_i cs hl;obtain⟨g,us,t,e,hg,hcs,h1,h0⟩:=H.inv.rep (n,.cells cs) (ml _ (Aj hl));refine⟨g,us,e,Nh H (bx:=fun m=>(Jj s ns k m).map .ptr) (fun m x hx=>?_) cs ds us he hcs h1,fun j v hj=>?_⟩;simp only[om]at hx;obtain⟨ds',hd,rfl⟩:=hx;obtain⟨b,us',e1,e2,e3⟩:=Ng H k m ds' hd;simp only[RD];exact⟨_,us',e1,e2,e3⟩;have hc:w.cell? ((⟨g,0,none⟩:Addr).add j)=some v:=by rw[Addr.add_lit,Nat.zero_add,cell_of_row w g j ⟨us⟩ t (0,0) hg];simpa using hj
  refine⟨hc,?_⟩;rw[Addr.add_lit]at hc;exact Ni (Uu hn hl rfl (by rw[e];rfl)) hc;cases he;cases he
mutual
theorem aCd{a:Act}(H:AS s h w val a):∀(x:A) (u:Value),RA h w val x u->RA (Ee h w (HP val s ns)) w val (B3 s ns x) u
 | .row n,u,hr=>by
  unfold B3;split;rename_i x hx;simp only[RA]at hr⊢;rw[hr.1];exact Ig H.inv hx;exact RA.stays (Aq h w _) _ _ _ hr
 | .box n off,u,hr=>by
  unfold B3;split;rename_i hoff;simp only[Nat.beq_eq]at hoff;subst hoff;split;rename_i ds hd;obtain⟨b,us,e1,e2,e3⟩:=Ng H _ n ds hd;simp only[RA]at hr⊢;obtain⟨b',e4,e5⟩:=hr;rw[e1]at e4;cases e4;exact⟨_,us,e5,e2,e3⟩;exact RA.stays (Aq h w _) _ _ _ hr;exact RA.stays (Aq h w _) _ _ _ hr
 | .clo f fs cs,u,hr=>by
  simp only[B3,RA]at hr⊢;obtain⟨x,y,e,h1,h2⟩:=hr;exact⟨x,y,e,Ec H fs x h1,Ec H cs y h2⟩
 | .d x,u,hr=>by simpa only[B3]using RA.stays (Aq h w _) _ _ _ hr
 | .bsl n o l,u,hr=>by simpa only[B3]using RA.stays (Aq h w _) _ _ _ hr
 | .ep n k i o,u,hr=>by simpa only[B3]using RA.stays (Aq h w _) _ _ _ hr
 | .ub,u,hr=>by simpa only[B3]using RA.stays (Aq h w _) _ _ _ hr
 | .eptr cs,u,hr=>by simpa only[B3]using RA.stays (Aq h w _) _ _ _ hr
 | .agg cs,u,hr=>by simpa only[B3]using RA.stays (Aq h w _) _ _ _ hr
 | .tup cs,u,hr=>by simpa only[B3]using RA.stays (Aq h w _) _ _ _ hr
 | .opq x,u,hr=>by simpa only[B3]using RA.stays (Aq h w _) _ _ _ hr
 | .nil,u,hr=>by simpa only[B3]using RA.stays (Aq h w _) _ _ _ hr
 | .any,u,hr=>by simpa only[B3]using RA.stays (Aq h w _) _ _ _ hr
theorem Ec{a:Act}(H:AS s h w val a):∀(xs:List A) (us:List Value),RAs h w val xs us->RAs (Ee h w (HP val s ns)) w val (DK s ns xs) us
 |[],us,hr=>by simpa only[DK,RAs]using hr
 |x::xs,us,hr=>by
  simp only[DK,RAs]at hr⊢;obtain⟨u,us',e,h1,h2⟩:=hr;exact⟨u,us',e,aCd H x u h1,Ec H xs us' h2⟩
end
end
theorem T1{P:Program}{o:Oper}{s:St}{wt:W}{L:Lp}{Φ:Ob}{r:A}(he:IO P o s wt=some (Φ,r)):FV P o s (Φ.ok P L) r s:=by
 intro hΦ h w val a H K Q hK;unfold IO at he;split at he;rename_i c ho;obtain⟨callee,args,argTypes⟩:=c;simp only at he;split at he;rename_i g;split at he;rename_i f fs cs ns r' hg;obtain⟨us,vs,e1,hfs,hcs⟩:=DQ hg (H.ev g);split at he;rename_i hb;simp only[ba]at hb;simp only[oe,pe]at he;obtain⟨rfl,rfl⟩:=he;simp only[Ob.ok]at hΦ;unfold Oper.wp;rw[Jx ho e1 hb.1.1,Oper.upon_enter];have hargs:RAs h w val (fs++args.toList.map (fun x=>s.look (s.ev x))++cs) (us++args.toList.map a.eval++vs):=
  (hfs.append (EG (f:=fun x=>s.look (s.ev x)) (fun x=>H.look (H.ev x)) _)).append hcs
 have hargs2:=Ec (ns:=ns) H _ _ hargs;let L0:=HP val s ns;refine(hΦ (Ee h w L0) w val _ (Inv.nil _ w val) hargs2).mono fun e w' hh=>?_;obtain⟨h',val',u,rfl,_,hr,hk,_,_⟩:=hh;let h2:Hw:=fun b=>if b<w.heap.size then h b else h' b
 have hk0:BS [] h w h2 w':=by refine⟨hk.os,hk.tape,hk.output,hk.size,fun b i v hi hc=>hk.cells b i v (Nat.lt_of_lt_of_le hi (Nj _ _ _ _)) hc,fun b hb=>?_,fun b hb _=>⟨(hk.far b hb (by simp[AV])).1,?_⟩⟩;simp only[h2,hb,if_true];exact Nat.le_refl _;simp only[h2,hb,if_true]
 exact hK h2 w' val u (RA.scal hb.2 hr) (H.quiet hk0) ⟨hk0.mono' (fun x hx=>by cases hx),fun _ _=>rfl,fun b hb=>.inl hb⟩;cases he;cases he;cases he;cases he
theorem VV{s:St}{h:Hw}{w:World}{val:Val}{a:Act}(H:AS s h w val a){n:Nat}{e:TypeId}{k:Nat}{xs:List D}(hl:lk s.B n=some (.rw e k xs)):
 ∃h',AS {s with B:=BJ s.B n (.row e k xs)} h' w val a/\Nx s h w val {s with B:=BJ s.B n (.row e k xs)} h' w val:=by
 have hmem:(n,Bk.rw e k xs)∈s.all:=ml _ (Aj hl)
 obtain⟨us,hown,hrow,h0⟩:=H.inv.rep _ hmem
 simp only at hown h0
 let h':Hw:=fun b=>if(val n).ownBlock=some b then xs.length*k else h b
 have hgM:∀g,(val n).ownBlock=some g->g∈AV val s.all:=fun g hg=>Inv.blk_mem hmem (Ak (Bv hg) rfl)
 have hk:BS (AV val s.all) h w h' w:=by
  refine⟨rfl,rfl,rfl,Nat.le_refl _,fun _ _ _ _ hc=>hc,fun b _=>?_,fun b _ hn=>⟨rfl,?_⟩⟩;show h b<=if(val n).ownBlock=some b then _ else h b
  split;rename_i e;rw[h0 b e];exact Nat.zero_le _;exact Nat.le_refl _;show(if(val n).ownBlock=some b then _ else h b)=h b
  rw[if_neg fun e=>hn (hgM b e)]
 have hsame:∀b',(n,b')∈s.B->b'.isOld=(Bk.row e k xs).isOld:=fun b' hb'=>by have:=BB H.inv.nms (ml _ hb') hmem;rw[this];rfl
 have hother:∀p∈s.all,p.1≠n->∀b,Ae val p=some b->h' b=h b:=fun p hp hne b hb=>by
  show(if(val n).ownBlock=some b then _ else h b)=h b
  refine if_neg fun e=>?_;have:=Bl H.inv.bks hp hmem hb (Ak (Bv e) rfl);rw[this]at hne;exact hne rfl
 refine⟨h',⟨RAs.stays hk.stays _ _ _ H.e,⟨?_,?_,?_⟩,H.far,H.defs⟩,⟨hk,fun _ _=>rfl,fun b hb=>.inl ?_⟩⟩
 intro p hp
 rcases ma.1 hp with hp|hp
 rcases BZ hp with rfl|⟨hp,hne⟩
 exact⟨us,hown,Ah.stays hk.stays _ _ _ hrow,fun g hg=>if_pos hg⟩
 exact RB.stays hk.stays (fun b hb=>⟨rfl,hother p (ml _ hp) hne b hb⟩) (H.inv.rep p (ml _ hp))
 refine RB.stays hk.stays (fun b hb=>⟨rfl,hother p (mr _ hp) (fun e4=>?_) b hb⟩) (H.inv.rep p (mr _ hp))
 have hnd:=H.inv.nms
 simp only[St.all,AJ]at hnd
 have m1:n∈AI s.B:=by simp only[AI,mm];exact⟨_,Aj hl,rfl⟩
 have m2:n∈AI s.F:=by simp only[AI,mm];exact⟨p,hp,by rw[e4]⟩
 exact(List.nodup_append.1 hnd).2.2 n m1 n m2 rfl
 have:=H.inv.nms
 simpa only[St.all,AJ,A7]using this
 have:=H.inv.bks
 simpa only[St.all,AN,A3 hsame]using this
 simpa only[St.all,AN,A3 hsame]using hb
end Go.Ac
namespace Go.Ac
theorem aHc(P:Program)(w:World)(t e:TypeId)(hu:P.underlying t=some (.slice e))(hI:(P.info? e).isSome=true)(g n cap:Nat)(k:IntKind)(i:Int)(h0:0<=i)(h1:i<=cap):
 (Instr.sliceAt t (.slice (some ⟨g,0,none⟩) n cap) none (some (.int k i)) none).run P w=.ok (.slice (some ⟨g,0,none⟩) i.toNat cap) w:=by
 have hP:P.elem t=e:=by simp[Program.elem,hu]
 have hq:P.underlying t=some (.slice (P.elem t)):=by rw[hP];exact hu
 rw[run_sliceAt_slice w t _ _ _ _ hq,run_slice_h w t _ _ _ hq k i h0 h1,hP,Au hI]
 simp[sliced,Addr.add]
def El:Op->Bool
 | .defer _=>false
 |_=>true
def UF(P:Program)(o:Oper)(s:St)(wt:W):Option (Cn×A×List Ed):=
 match o.dst,o.op with
 |some d,.slice t x none (some y) none=>match Vn s (s.ev x),s.ev y,P.underlying t with
  |some (n,e,k,xs),.d (.v (.int _ i)),some (.slice e')=>
   if e'==e&&(P.info? e).isSome&&decide (d<up)&& !AR d s.E&& !Be d s.B then
    some (.both (.le 0 i) (.both (.le i xs.length) (.app (xs.take i.toNat) [] (J6 (fun _=>xs.take i.toNat) wt))),.row d,[.chg n .dead,.add d (.rw e k (J6 (fun _=>xs.take i.toNat) wt))])else none
  |_,_,_=>none
 |_,_=>none
theorem UG{P:Program}{o:Oper}{s:St}{wt:W}{Φ:Cn}{r:A}{es:List Ed}(he:UF P o s wt=some (Φ,r,es)):FV P o s Φ.ok r (s.edit es):=by
 intro hΦ h w val a H K Q hK;unfold UF at he;split at he;rename_i d t x y hd ho;split at he;rename_i n e k xs ki i e' hb hi hu;split at he;rename_i hc;simp only[ba,beq_iff_eq,decide_eq_true_eq,Bool.not_eq_true']at hc;obtain⟨⟨⟨⟨rfl,hI⟩,c1⟩,c2⟩,c3⟩:=hc;simp only[oe,pe]at he;obtain⟨rfl,rfl,rfl⟩:=he;simp only[Cn.ok]at hΦ;obtain⟨p1,p2,p3⟩:=hΦ;rw[<-p3,List.append_nil]at hK;have hΦ:0<=i/\i<=(xs.length:Int):=⟨p1,p2⟩;obtain⟨hl,hu1,us,hown,hrow,hh⟩:=Jy H (H.ev x) hb;have hi':=H.ev y;rw[hi]at hi';simp only[RA,RD]at hi';obtain⟨hdrop,hsub,hnot⟩:=H.dead' hl rfl;have hmem:(n,Bk.rw e' k xs)∈s.all:=ml _ (Aj hl);have hlen:=Ah.length hrow;have hlt:(xs.take i.toNat).length=i.toNat:=by rw[List.length_take];omega
 --the value behind
 obtain⟨v',hrun,hown',hsame⟩:∃v',(Instr.sliceAt t (val n) none (some (.int ki i)) none).run P w=.ok v' w/\w.ownsRow 0 e' k v' (xs.take i.toNat).length (us.take (i.toNat*k))/\v'.ownBlock=(val n).ownBlock:=by
  rcases hown.2 with⟨hv,hz⟩|⟨g,cap,cur,hv,hg0,hg,hn,hm,hs,ht⟩
  have hi0:i=0:=by omega
  subst hi0;refine⟨.slice none 0 0,?_,?_,by rw[hv]⟩;have hP:P.elem t=e':=by simp[Program.elem,hu]
  have hq:P.underlying t=some (.slice (P.elem t)):=by rw[hP];exact hu
  rw[hv,run_sliceAt_slice w t _ _ _ _ hq,run_slice_h w t _ _ _ hq ki 0 (by omega) (by omega),hP,Au hI];simp[sliced];have:=World.ownsRow_nil w 0 e' k;simpa using this;refine⟨.slice (some ⟨g,0,none⟩) i.toNat cap,?_,⟨?_,.inr ⟨g,cap,cur,by rw[hlt],hg0,hg,by rw[hlt];omega,hm,hs,?_⟩⟩,by rw[hv];rfl⟩;rw[hv];exact aHc P w t e' hu hI g _ cap ki i hΦ.1 (by omega);rw[hlt,List.length_take,hlen];have:=Nat.mul_le_mul_right k (show i.toNat<=xs.length by omega);omega;rw[hlt,<-ht,List.take_take];have:=Nat.mul_le_mul_right k (show i.toNat<=xs.length by omega);rw[Nat.min_eq_left this]
 have hvb:Bs v'=v'.ownBlock:=CF hown';have hvd:Ar val d v' d=v':=by simp[Ar]
 obtain⟨k2,k3⟩:=hdrop.add c1 c2 (Dy c3 rfl) (BS.refl [] h w) (fun b _ hm=>by cases hm) (fun b hb=>by cases hb) v' (.rw e' k (xs.take i.toNat)) (fun b hb=>hnot b (by
  rw[hvb,hsame]at hb;exact Bv hb)) rfl
  ⟨us.take (i.toNat*k),by rw[hvd];exact hown',Ah.take _ hrow,fun g hg=>hh g (by rw[hvd,hsame]at hg;exact hg)⟩
 refine AQ (u:=v') (w':=w) ?_ (hK h w _ v' (by simp only[RA];exact⟨by simp[Ar],.inl (B0 hown')⟩) k2.ins (Nx.ins ⟨BS.refl _ _ _,fun m hm=>by have:m≠d:=Nat.ne_of_gt (Nat.lt_of_lt_of_le c1 (ID hm));simp[Ar,this],fun b hb=>?_⟩));simp[execOp,ho,hu1,hi'.1,hrun];replace hb:b∈AV (Ar val d v') ((d,Bk.rw e' k (xs.take i.toNat))::({s with B:=BJ s.B n .dead}:St).all):=hb
 rw[k3]at hb;rcases ma.1 hb with hb|hb
 refine .inl ?_;simp only[Option.mem_toList]at hb;rw[hvb,hsame]at hb;exact Inv.blk_mem hmem (Ak (Bv hb) rfl);exact .inl (hsub b hb);cases he;cases he;cases he
def NJ(P:Program)(s:St)(o o2:Oper)(wt:W):Option (Cn×List Ed):=
 match o.dst,o.op,o2.op with
 |some d,.slice t x (some y) none none,.call c=>match c.callee,c.args.toList,c.argTypes.toList with
  | .builtin .clear,[.tmp d'],[t']=>match Vn s (s.ev x),s.ev y,P.underlying t with
   |some (n,e,k,xs),.d (.v (.int _ i)),some (.slice e')=>match P.info? e with
    |some inf=>match inf.zero with
     |some z=>if d'==d&&t'==t&&e'==e&&o.guard.isNone&&o2.guard.isNone&&z.cells.size==k&&inf.size==k&&z.cells.toList.all (·.oneCell')&&(Cp z).nc==k&&decide (0<k)&&decide (d<s.E.length)then
      some (.both (.le 0 i) (.both (.le i xs.length) (.app (xs.take i.toNat) (List.replicate (xs.length-i.toNat) (Cp z)) (J6 (fun _=>xs.take i.toNat++List.replicate (xs.length-i.toNat) (Cp z)) wt))),[.chg n (.rw e k (J6 (fun _=>xs.take i.toNat++List.replicate (xs.length-i.toNat) (Cp z)) wt))])else none
     |none=>none
    |none=>none
   |_,_,_=>none
  |_,_,_=>none
 |_,_,_=>none
theorem T6{P:Program}{o o2:Oper}{s:St}{wt:W}{Φ:Cn}{es:List Ed}(he:NJ P s o o2 wt=some (Φ,es))(hΦ:Φ.ok){h w val}{a:Act}(H:AS s h w val a):
 ∃d u w',o.dst=some d/\o.guard=none/\o2.guard=none/\El o.op=true/\El o2.op=true/\(execOp a.eval o).run P w=.ok (.value u) w/\(execOp (a.put (some d) u).eval o2).run P w=.ok (.value (.tuple #[])) w'/\
  AS (s.edit es) h w' val a/\Nx s h w val (s.edit es) h w' val:=by
 unfold NJ at he
 split at he
 rename_i d t x y c hd ho ho2
 obtain⟨callee,args,argTypes⟩:=c
 simp only at he
 split at he
 rename_i d' t' hargs htys
 obtain⟨args⟩:=args
 obtain⟨argTypes⟩:=argTypes
 simp only at hargs htys
 subst hargs;subst htys
 split at he
 rename_i n e k xs ki i e' hb hi hu
 split at he
 rename_i inf hinf
 split at he
 rename_i z hz
 split at he
 rename_i hc
 simp only[ba,beq_iff_eq,decide_eq_true_eq,Option.isNone_iff_eq_none]at hc
 obtain⟨⟨⟨⟨⟨⟨⟨⟨⟨⟨rfl,rfl⟩,rfl⟩,g1⟩,g2⟩,zs⟩,is⟩,z1⟩,zn⟩,hk0⟩,hdl⟩:=hc
 simp only[oe,pe]at he
 obtain⟨rfl,rfl⟩:=he
 simp only[Cn.ok]at hΦ
 obtain⟨p1,p2,p3⟩:=hΦ
 rw[<-p3]
 have hΦ:0<=i/\i<=(xs.length:Int):=⟨p1,p2⟩
 have z1':∀v∈z.cells.toList,v.oneCell'=true:=fun v hv=>List.all_eq_true.1 z1 v hv
 obtain⟨hl,hu1,us,hown,hrow,hh⟩:=Jy H (H.ev x) hb
 have hi':=H.ev y
 rw[hi]at hi'
 simp only[RA,RD]at hi'
 have hP:P.elem t'=e':=by simp[Program.elem,hu]
 have hq:P.underlying t'=some (.slice (P.elem t')):=by rw[hP];exact hu
 have hI:(P.info? e').isSome=true:=by rw[hinf];rfl
 have hcs:P.cellsOf e'=k:=by simp[Program.cellsOf,hinf,is]
 have hzv:∀w,(zeroValue e').run P w=.ok z w:=fun w=>by simp[zeroValue,typeInfo,hinf,hz]
 have hlen:=Ah.length hrow
 have hput:∀u,(a.put (some d') u).eval (.tmp d')=u:=fun u=>by
  have hsz:a.tmps.size=s.E.length:=by have:=RAs.length H.e;simpa using this
  simp[Act.put,Act.eval,hsz,hdl]
 have same:(∀u,(execOp a.eval o).run P w=.ok (.value u) w->(execOp (a.put (some d') u).eval o2).run P w=.ok (.value (.tuple #[])) w)->xs.length-i.toNat=0->(∃u,(execOp a.eval o).run P w=.ok (.value u) w)->
  ∃d u w',o.dst=some d/\o.guard=none/\o2.guard=none/\El o.op=true/\El o2.op=true/\(execOp a.eval o).run P w=.ok (.value u) w/\(execOp (a.put (some d) u).eval o2).run P w=.ok (.value (.tuple #[])) w'/\
   AS (s.edit [.chg n (.rw e' k (xs.take i.toNat++List.replicate (xs.length-i.toNat) (Cp z)))]) h w' val a/\Nx s h w val (s.edit [.chg n (.rw e' k (xs.take i.toNat++List.replicate (xs.length-i.toNat) (Cp z)))]) h w' val:=by
  intro h1 h2 h3
  obtain⟨u,hu⟩:=h3
  have e1:xs.take i.toNat++List.replicate (xs.length-i.toNat) (Cp z)=xs:=by rw[h2,List.replicate_zero,List.append_nil,List.take_of_length_le (by omega)]
  have e2:s.edit [.chg n (.rw e' k xs)]=s:=by
   have:BJ s.B n (.rw e' k xs)=s.B:=by
    unfold BJ;rw[List.map_congr_left (g:=id)];simp;intro p hp;split;rename_i hpn;have hp2:p=(n,Bk.rw e' k xs):=by have:=BB (b:=p.2) (b':=Bk.rw e' k xs) (n:=n) H.inv.nms (ml _ (by rw[<-hpn];exact hp)) (ml _ (Aj hl));obtain⟨p1,p2⟩:=p;simp only at hpn this;rw[hpn,this]
    rw[hp2];rfl;rfl
   show({s with B:=BJ s.B n (.rw e' k xs)}:St)=s
   rw[this]
  rw[e1,e2]
  exact⟨d',u,w,hd,g1,g2,by rw[ho];rfl,by rw[ho2];rfl,hu,h1 u hu,H,Nx.refl s h w val rfl⟩
 rcases hown.2 with⟨hv,hz0⟩|⟨g,cap,cur,hv,hg0,hg,hn,hm,hs,ht⟩
 have hi0:i=0:=by omega
 subst hi0
 have hr1:(execOp a.eval o).run P w=.ok (.value (.slice none 0 0)) w:=by simp[execOp,ho,hu1,hi'.1,hv,Sem.run_bind,run_sliceAt_slice w t' _ _ _ _ hq,run_slice_l w t' none 0 0 hq ki 0 (by omega) (by omega),hP,Au hI,sliced]
 refine same (fun u hu=>?_) (by omega) ⟨_,hr1⟩
 rw[hr1]at hu
 cases hu
 simp[execOp,ho2,resolve,invoke,builtin,hput,Builtin.clear_,run_underlying hu, *]
 have hr1:(execOp a.eval o).run P w=.ok (.value (sliced (some ⟨g,0,none⟩) i.toNat xs.length cap k)) w:=by simp[execOp,ho,hu1,hi'.1,hv,run_sliceAt_slice w t' _ _ _ _ hq,run_slice_l w t' _ _ _ hq ki i hΦ.1 hΦ.2,hP,Au hI,hcs]
 by_cases hz0:xs.length-i.toNat=0
 refine same (fun u hu=>?_) hz0 ⟨_,hr1⟩
 rw[hr1]at hu
 cases hu
 by_cases hci:cap=i.toNat<;>simp[execOp,ho2,resolve,invoke,builtin,hput,Builtin.clear_,sliced,hz0,hci,run_underlying ‹P.underlying t'=some (TypeDesc.slice e')›]
 have hcap:¬cap=i.toNat:=by omega
 obtain⟨m,hmm⟩:∃m,xs.length-i.toNat=m+1:=⟨xs.length-i.toNat-1,by omega⟩
 have hr2:(execOp a.eval o).run P w=.ok (.value (.slice (some ⟨g,i.toNat*k,none⟩) (m+1) (cap-i.toNat))) w:=by rw[hr1];simp[sliced,hcap,Addr.add_lit,hmm]
 have hle:i.toNat*k<=xs.length*k:=Nat.mul_le_mul_right k (by omega)
 have hle2:xs.length*k<=cap*k:=Nat.mul_le_mul_right k hn
 have hmk:i.toNat*k+(m+1)*k=xs.length*k:=by rw[<-Nat.add_mul];congr 1;omega
 have hzl:(Builtin.zeroCells z.cells (m+1)).toList.length=(m+1)*k:=by simp[Builtin.zeroCells,zs]
 have hone:∀v∈(Builtin.zeroCells z.cells (m+1)).toList,v.oneCell'=true:=fun v hv=>by simp only[Builtin.zeroCells,Array.toList_map,mm]at hv;obtain⟨j,_,rfl⟩:=hv;have hlt:j % z.cells.size<z.cells.size:=Nat.mod_lt _ (by omega);rw[getElem!_pos z.cells _ hlt];exact z1' _ (by simp)
 have hst:=run_storeCells_at P g (i.toNat*k) e' (Builtin.zeroCells z.cells (m+1)).toList 0 cur w hg (by rw[hzl];omega) hone
 simp only[Nat.add_zero,hzl]at hst
 have hrow2:Ah h w k (xs.take i.toNat++List.replicate (m+1) (Cp z)) (us.take (i.toNat*k)++(Builtin.zeroCells z.cells (m+1)).toList):=by
  refine Ah.append (Ah.take _ hrow) ?_;have:=F1 (h:=h) (w:=w) z1' (by omega) (by omega) (m+1);rw[zs]at this;have e:Builtin.zeroCells z.cells (m+1)=madeCells z.cells ((m+1)*k):=by rw[<-zs];rfl
  rw[e];exact this
 have hcl:cur.toList.length=cap*k:=by simpa using hs
 have hus:us=cur.toList.take (xs.length*k):=ht.symm
 have et:(cur.toList.take (i.toNat*k)++(Builtin.zeroCells z.cells (m+1)).toList++cur.toList.drop (i.toNat*k+(m+1)*k)).take (xs.length*k)=us.take (i.toNat*k)++(Builtin.zeroCells z.cells (m+1)).toList:=by rw[List.take_append_of_le_length (by simp only[List.length_append,List.length_take,hcl,hzl];omega),List.take_of_length_le (by simp only[List.length_append,List.length_take,hcl,hzl];omega),hus,List.take_take,Nat.min_eq_left hle]
 rw[<-et]at hrow2
 obtain⟨f1,f2⟩:=aEd H hl hv (us:=cur.toList) (by simpa using hg) hn hm (hh g (by rw[hv];rfl)) (us':=cur.toList.take (i.toNat*k)++(Builtin.zeroCells z.cells (m+1)).toList++cur.toList.drop (i.toNat*k+(m+1)*k))
  (by simp only[List.length_append,List.length_take,List.length_drop,hcl,hzl];omega) (by simp only[List.length_append,List.length_take,List.length_replicate];omega) hrow2
 refine⟨d',_,w.setRow g (cur.toList.take (i.toNat*k)++(Builtin.zeroCells z.cells (m+1)).toList++cur.toList.drop (i.toNat*k+(m+1)*k)).toArray,hd,g1,g2,by rw[ho];rfl,by rw[ho2];rfl,hr2,?_,?_,?_⟩
 simp[execOp,ho2,resolve,invoke,builtin,hput,Builtin.clear_,run_underlying ‹P.underlying t'=some (TypeDesc.slice e')›,hzv,hst]
 rw[hmm];exact f1
 rw[hmm];exact f2
 cases he
 cases he
 cases he
 cases he
 cases he
 cases he
end Go.Ac
namespace Go.Ac
open Go.MapKept
def aDa(P:Program):List Field->List Value->Nat->Prop
 |[],us,_=>us=[]
 |f::fs,us,o=>∃u us',us=u::us'/\f.name≠ "_" /\f.offset=o/\(∃k n,P.underlying f.type=some (.int k)/\u=.int k n)/\aDa P fs us' (o+1)
def Ht(P:Program)(kt:TypeId)(v:Value):Prop:=∃fs us,P.underlying kt=some (.struct fs)/\P.stoodInHeld kt=false/\v=.agg ⟨us⟩/\aDa P fs.toList us 0
def Vk(P:Program)(kt:TypeId)(v:Value):Prop:=(∃d,P.underlying kt=some d/\IsKey d v)\/Ht P kt v
theorem MU{P:Program}(w:World){t:TypeId}{k:IntKind}(hk:P.underlying t=some (.int k))(pre post:List Value)(u:Value):(part t ⟨pre++u::post⟩ pre.length).run P w=.ok u w:=
 run_part_plain w (by simp[Program.plainKey,hk]) (by simp)
theorem UR{P:Program}(w:World){t:TypeId}{k:IntKind}(hk:P.underlying t=some (.int k))(em:Bool)(d:Nat)(n:Int):(Instr.checkKey em (d+1) t (.int k n)).run P w=.ok () w:=by simp[Instr.checkKey,run_underlying hk]
theorem UQ{P:Program}(w:World)(em:Bool)(d:Nat){us:List Value}:∀(l:List Field) (pre us':List Value),us=pre++us'->aDa P l us' pre.length->(forIn (m:=Sem) l PUnit.unit fun(f:Field) (_:PUnit)=>do
 if f.name≠ "_" then
  Instr.checkKey em (d+1) f.type (<-part f.type ⟨us⟩ f.offset)
  pure (ForInStep.yield PUnit.unit)
 else pure (ForInStep.yield PUnit.unit)).run P w=.ok PUnit.unit w:=by
 intro l
 induction l with
 |nil=>intro pre us' _ _;simp
 |cons f l ih=>
  intro pre us' he hl
  obtain⟨u,us2,rfl,hn,ho,⟨k,n,hk,rfl⟩,hrest⟩:=hl
  have hp:=MU w hk pre us2 (.int k n)
  rw[<-he]at hp
  have hc:=UR w hk em d n
  simp only[List.forIn_cons,Sem.run_bind,hn,ne_eq,not_false_eq_true,if_true,ho,Result.andThen_ok,hp,hc,Sem.run_pure]
  exact ih (pre++[.int k n]) us2 (by rw[he];simp) (by simpa using hrest)
theorem aBs{P:Program}{kt:TypeId}{v:Value}(h:Ht P kt v)(em:Bool)(w:World)(d:Nat):(Instr.checkKey em (d+1+1) kt v).run P w=.ok () w:=by obtain⟨fs,us,hu,_,rfl,hf⟩:=h;have key:=UQ w em d fs.toList [] us rfl hf;rw[Instr.checkKey];simp only[Sem.run_bind,run_underlying hu,Result.andThen_ok];rw[<-Array.forIn_toList];simp at key⊢;rw[key];simp
theorem Ht.check{P:Program}{kt:TypeId}{v:Value}(h:Ht P kt v)(em:Bool)(w:World):(Instr.checkKey em 10000 kt v).run P w=.ok () w:=aBs h em w 9998
theorem aDv{P:Program}(w:World)(d:Nat):∀(fs:List Field) (pre qre us vs:List Value),pre.length=qre.length->aDa P fs us pre.length->aDa P fs vs pre.length->∃r,(Op.eqFields (d+1) ⟨pre++us⟩ ⟨qre++vs⟩ fs).run P w=.ok r w/\(r=true↔us=vs)
 |[],pre,qre,us,vs,_,hu,hv=>by
  simp only[aDa]at hu hv;subst hu;subst hv;exact⟨true,by simp[Op.eqFields],by simp⟩
 |f::fs,pre,qre,us,vs,hl,hu,hv=>by
  obtain⟨u,us',rfl,hn,ho,⟨k,a,hk,rfl⟩,hu'⟩:=hu;obtain⟨v,vs',rfl,_,_,⟨k',b,hk',rfl⟩,hv'⟩:=hv;have hkk:k'=k:=by rw[hk]at hk';cases hk';rfl
  subst hkk;obtain⟨r,ih,hr⟩:=aDv w d fs (pre++[.int k' a]) (qre++[.int k' b]) us' vs' (by simp[hl]) (by simpa using hu') (by simpa using hv');have p1:=MU w hk pre us' (.int k' a);have p2:=MU w hk qre vs' (.int k' b);rw[<-hl]at p2;have p3:=run_equalIn_int w d f.type k' k' a b hk;simp only[List.append_assoc,List.singleton_append]at ih;by_cases hab:a=b;subst hab;refine⟨r,?_,by rw[hr];simp⟩;simp only[Op.eqFields];rw[if_pos hn,ho];simp only[Sem.run_bind,p1,p2,p3,Result.andThen_ok];simpa using ih;refine⟨false,?_,by simp[hab]⟩;simp only[Op.eqFields];rw[if_pos hn,ho];simp only[Sem.run_bind,p1,p2,p3,Result.andThen_ok];simp[hab]
theorem Ht.equal{P:Program}{kt:TypeId}{u v:Value}(hu:Ht P kt u)(hv:Ht P kt v)(w:World):∃r,(Op.equal kt u v).run P w=.ok r w/\(r=true↔u=v):=by
 obtain⟨fs,us,h1,h2,rfl,hf⟩:=hu;obtain⟨fs',vs,h3,_,rfl,hg⟩:=hv;rw[h1]at h3;cases h3;have hfo:P.fieldsOf kt=fs:=by simp[Program.fieldsOf,h1]
 obtain⟨r,h4,h5⟩:=aDv w 9998 fs.toList [] [] us vs rfl hf hg;refine⟨r,?_,by rw[h5];simp⟩;show(Op.equalIn (9998+1+1) kt (.agg ⟨us⟩) (.agg ⟨vs⟩)).run P w=_;rw[run_equalIn_struct w _ kt _ _ (by rw[hfo];exact h1) h2,hfo];exact h4
theorem Ht.stays{P:Program}{kt:TypeId}{v:Value}(h:Ht P kt v)(w:World):(Instr.keyThatStays v v).run P w=.ok v w:=by
 obtain⟨fs,us,_,_,rfl,hf⟩:=h;have key:∀(l:List Field) (us:List Value) (o:Nat),aDa P l us o->∀p∈us.zip us,Instr.sameBits 9999 p.1 p.2=true:=by
  intro l;induction l with
  |nil=>intro us o hl p hp;simp only[aDa]at hl;subst hl;simp at hp
  |cons f l ih=>
   intro us o hl p hp
   obtain⟨u,us',rfl,_,_,⟨k,n,_,rfl⟩,hrest⟩:=hl
   rw[List.zip_cons_cons]at hp
   rcases mc.1 hp with rfl|hp
   simp[Instr.sameBits]
   exact ih us' _ hrest p hp
 have hs:Instr.sameBits 10000 (.agg ⟨us⟩) (.agg ⟨us⟩)=true:=by show Instr.sameBits (9999+1) (.agg ⟨us⟩) (.agg ⟨us⟩)=true;simp only[Instr.sameBits,beq_self_eq_true,Bool.true_and,List.all_eq_true];intro p hp;exact key fs.toList us 0 hf p hp
 simp[Instr.keyThatStays,hs]
theorem Ht.ask_no{P:Program}{kt:TypeId}{key:Value}(h:Ht P kt key)(w:World):∀(l:List MapEntry) (i:Nat),(∀e∈l,Ht P kt e.key/\e.key≠key)->(Instr.findAsking kt key l i).run P w=.ok none w
 |[],i,_=>by simp[Instr.findAsking]
 |e::l,i,hl=>by
  obtain⟨r,he,hr⟩:=h.equal (hl e (by simp)).1 w;have hrf:r=false:=by
   cases r with
   |false=>rfl
   |true=>exact absurd (hr.1 rfl).symm (hl e (by simp)).2
  subst hrf;simp[Instr.findAsking,he,Ht.ask_no h w l (i+1) fun x hx=>hl x (by simp[hx])]
theorem Ht.ask_at{P:Program}{kt:TypeId}{key:Value}(h:Ht P kt key)(w:World){e:MapEntry}(he:e.key=key)(lq:List MapEntry):∀(lp:List MapEntry) (i:Nat),(∀e∈lp,Ht P kt e.key/\e.key≠key)->(Instr.findAsking kt key (lp++e::lq) i).run P w=.ok (some (i+lp.length,e.val)) w
 |[],i,_=>by
  obtain⟨r,h1,hr⟩:=h.equal (v:=e.key) (by rw[he];exact h) w;have hr:=hr.2 he.symm;subst hr;simp[Instr.findAsking,h1]
 |x::lp,i,hl=>by
  obtain⟨r,h1,hr⟩:=h.equal (hl x (by simp)).1 w;have hrf:r=false:=by
   cases r with
   |false=>rfl
   |true=>exact absurd (hr.1 rfl).symm (hl x (by simp)).2
  subst hrf;have ih:=Ht.ask_at h w he lq lp (i+1) fun y hy=>hl y (by simp[hy]);simp[Instr.findAsking,h1,ih];omega
structure Ask(P:Program)(kt:TypeId)(key:Value)(l:List MapEntry)(r:Option (Nat×Value)):Prop where
 chk:∀(em:Bool) (w:World),(Instr.checkKey em 10000 kt key).run P w=.ok () w
 sty:∀w:World,(Instr.keyThatStays key key).run P w=.ok key w
 fnd:∀w:World,(Instr.findKey kt key l).run P w=.ok r w
theorem Vk.all{P:Program}{kt:TypeId}{key:Value}{d:TypeDesc}(hd:P.underlying kt=some d)(hv:IsKey d key){v:Value}(h:Vk P kt v):IsKey d v:=by
 rcases h with⟨d',h1,h2⟩|⟨fs,us,h1,_⟩
 rw[hd]at h1;cases h1;exact h2;rw[hd]at h1;cases h1;cases key<;>exact absurd hv id
theorem Vk.allW{P:Program}{kt:TypeId}{key:Value}(hk:Ht P kt key){v:Value}(h:Vk P kt v):Ht P kt v:=by
 rcases h with⟨d',h1,h2⟩|h
 obtain⟨fs,us,g1,_⟩:=hk;rw[g1]at h1;cases h1;cases v<;>exact absurd h2 id;exact h
theorem Ht.wide{P:Program}{kt:TypeId}{key:Value}(h:Ht P kt key):(match P.underlying kt with|some (.array _ _)|some (.struct _)=>true|_=>false)=true:=by obtain⟨fs,us,g1,_⟩:=h;rw[g1]
theorem ask_no{P:Program}{kt:TypeId}{key:Value}{l:List MapEntry}(hk:Vk P kt key)(hl:∀e∈l,Vk P kt e.key/\e.key≠key):Ask P kt key l none:=by
 rcases hk with⟨d,hd,hv⟩|hk
 rcases findNow_spec hv l 0 (fun x hx=>(hl x hx).1.all hd hv)with⟨h1,_⟩|⟨j,e,_,h2,h3⟩
 exact⟨fun em w=>MapKept.run_checkKey hd hv em 9999,fun w=>MapKept.run_keyThatStays hv,fun w=>MapKept.run_findKey hd h1⟩;exact absurd h3 (hl e (List.mem_of_getElem? h2)).2;exact⟨fun em w=>hk.check em w,fun w=>hk.stays w,fun w=>by rw[run_findKey_eq w hk.wide];exact hk.ask_no w l 0 fun e he=>⟨(hl e he).1.allW hk,(hl e he).2⟩⟩
theorem ask_at{P:Program}{kt:TypeId}{key:Value}{lp lq:List MapEntry}{e:MapEntry}(hk:Vk P kt key)(he:e.key=key)(hl:∀x∈lp,Vk P kt x.key/\x.key≠key):Ask P kt key (lp++e::lq) (some (lp.length,e.val)):=by
 rcases hk with⟨d,hd,hv⟩|hk
 have key2:∀(lp:List MapEntry) (i:Nat),(∀x∈lp,IsKey d x.key/\x.key≠key)->Instr.findNow d key (lp++e::lq) i=some (some (i+lp.length,e.val)):=by
  intro lp;induction lp with
  |nil=>
   intro i _
   obtain⟨r,hr,hiff⟩:=sameNow_of_keys hv (by rw[he];exact hv:IsKey d e.key)
   have:r=true:=hiff.2 he.symm
   subst this
   simp[Instr.findNow,hr]
  |cons x lp ih=>
   intro i hx
   obtain⟨r,hr,hiff⟩:=sameNow_of_keys hv (hx x (by simp)).1
   have:r=false:=by
    cases r with
    |false=>rfl
    |true=>exact absurd (hiff.1 rfl).symm (hx x (by simp)).2
   subst this
   simp only[List.cons_append,Instr.findNow,hr]
   rw[ih (i+1) fun y hy=>hx y (by simp[hy])]
   simp;omega
 have h2:=key2 lp 0 fun x hx=>⟨(hl x hx).1.all hd hv,(hl x hx).2⟩;rw[Nat.zero_add]at h2;exact⟨fun em w=>MapKept.run_checkKey hd hv em 9999,fun w=>MapKept.run_keyThatStays hv,fun w=>MapKept.run_findKey hd h2⟩;refine⟨fun em w=>hk.check em w,fun w=>hk.stays w,fun w=>?_⟩;rw[run_findKey_eq w hk.wide];have:=hk.ask_at w he lq lp 0 fun x hx=>⟨(hl x hx).1.allW hk,(hl x hx).2⟩;rw[Nat.zero_add]at this;exact this
def aO1:Value->D
 | .agg a=>.agg (a.toList.map .v)
 |v=>.v v
end Go.Ac
namespace Go.Ac
open Go.MapKept

theorem REs.append{h w}:∀{xs:List (Nat×D×D)} {l:List MapEntry} {ys m},REs h w xs l->REs h w ys m->REs h w (xs++ys) (l++m)
 |[],_,_,_,hl,hr=>by simp only[REs]at hl;subst hl;exact hr
 |x::xs,_,_,_,⟨e,l',a,b,c,d,r⟩,hr=>by
  subst a;exact⟨e,l'++_,rfl,b,c,d,REs.append r hr⟩
theorem REs.split{h w}:∀{pre:List (Nat×D×D)} {x post} {l:List MapEntry},REs h w (pre++x::post) l->∃lp e lq,l=lp++e::lq/\lp.length=pre.length/\REs h w pre lp/\e.born=x.1/\RD h w x.2.1 e.key/\RD h w x.2.2 e.val/\REs h w post lq
 |[],x,post,l,⟨e,l',a,b,c,d,r⟩=>⟨[],e,l',a,rfl,rfl,b,c,d,r⟩
 |y::pre,x,post,l,⟨e,l',a,b,c,d,r⟩=>by
  obtain⟨lp,e2,lq,q1,q2,q3,q4⟩:=REs.split r;refine⟨e::lp,e2,lq,by rw[a,q1];rfl,by simp[q2],⟨e,lp,rfl,b,c,d,q3⟩,q4⟩
theorem REs.length{h w}:∀{xs:List (Nat×D×D)} {l:List MapEntry},REs h w xs l->l.length=xs.length
 |[],_,hl=>by simp only[REs]at hl;subst hl;rfl
 |x::xs,_,⟨e,l',a,b,c,d,r⟩=>by subst a;simp[REs.length r]
theorem REs.mem{h w}:∀{xs:List (Nat×D×D)} {l:List MapEntry},REs h w xs l->∀e∈l,∃x∈xs,e.born=x.1/\RD h w x.2.1 e.key/\RD h w x.2.2 e.val
 |[],_,hl,e,he=>by simp only[REs]at hl;subst hl;simp at he
 |x::xs,_,⟨e0,l',a,b,c,d,r⟩,e,he=>by
  subst a;rcases mc.1 he with rfl|he
  exact⟨x,by simp,b,c,d⟩;obtain⟨y,hy,q⟩:=REs.mem r e he;exact⟨y,by simp[hy],q⟩
theorem REs.born{h w}:∀{xs:List (Nat×D×D)} {l:List MapEntry},REs h w xs l->l.map (·.born)=xs.map (·.1)
 |[],_,hl=>by simp only[REs]at hl;subst hl;rfl
 |x::xs,_,⟨e,l',a,b,c,d,r⟩=>by subst a;simp[b,REs.born r]

def KOk(P:Program)(kt:TypeId)(x:D):Prop:=∃v,x=aO1 v/\Vk P kt v
def aO9(P:Program)(kt:TypeId)(z:D)(es:List (Nat×D×D))(kd vd:D)(ok:Bool):Prop:=
 (∀x∈es,KOk P kt x.2.1)/\KOk P kt kd/\((ok=true/\∃(pre:List (Nat×D×D)) (s:Nat) (post:List (Nat×D×D)),es=pre++(s,kd,vd)::post/\∀x∈pre,x.2.1≠kd)\/(ok=false/\vd=z/\∀x∈es,x.2.1≠kd))
def aHx(P:Program)(kt:TypeId)(es:List (Nat×D×D))(kd vd:D)(clk:Nat)(es':List (Nat×D×D))(clk':Nat):Prop:=
 (∀x∈es,KOk P kt x.2.1)/\KOk P kt kd/\((clk'=clk/\∃(pre:List (Nat×D×D)) (s:Nat) (v0:D) (post:List (Nat×D×D)),es=pre++(s,kd,v0)::post/\(∀x∈pre,x.2.1≠kd)/\es'=pre++(s,kd,vd)::post)\/(clk'=clk+1/\es'=es++[(clk,kd,vd)]/\∀x∈es,x.2.1≠kd))
def aPj(P:Program)(kt:TypeId)(z:D)(es:List (Nat×D×D))(kd:D)(clk:Nat)(es':List (Nat×D×D))(clk':Nat)(v:D)(st:Nat):Prop:=
 (∀x∈es,KOk P kt x.2.1)/\KOk P kt kd/\st<=4611686018427387904/\((clk'=clk/\es'=es/\∃(pre post:List (Nat×D×D)),es=pre++(st,kd,v)::post/\∀x∈pre,x.2.1≠kd)\/(clk'=clk+1/\st=clk/\v=z/\es'=es++[(clk,kd,z)]/\∀x∈es,x.2.1≠kd))
def aPl(es:List (Nat×D×D))(st:Int)(vd:D)(es':List (Nat×D×D)):Prop:=
 ∃(pre:List (Nat×D×D)) (s:Nat) (kd v0:D) (post:List (Nat×D×D)),st=(s:Int)/\es=pre++(s,kd,v0)::post/\(∀x∈pre,x.1≠s)/\es'=pre++(s,kd,vd)::post
def aO8(P:Program)(kt:TypeId)(es:List (Nat×D×D))(kd:D)(es':List (Nat×D×D)):Prop:=
 (∀x∈es,KOk P kt x.2.1)/\KOk P kt kd/\((∃(pre:List (Nat×D×D)) (s:Nat) (v0:D) (post:List (Nat×D×D)),es=pre++(s,kd,v0)::post/\(∀x∈pre,x.2.1≠kd)/\es'=pre++post)\/(es'=es/\∀x∈es,x.2.1≠kd))
def aPk(es:List (Nat×D×D))(n:Int):Prop:=(es.length:Int)=n/\n<=4611686018427387904

theorem aPb{h w}{v u:Value}(hr:RD h w (.v v) u):u=v:=by simp only[RD]at hr;exact hr.1
theorem aIc{h w}:∀{l:List Value} {us:List Value},RDs h w (l.map .v) us->us=l
 |[],us,hr=>by simpa[RDs]using hr
 |v::l,us,hr=>by
  simp only[List.map_cons,RDs]at hr;obtain⟨u,us',rfl,h1,h2⟩:=hr;rw[aPb h1,aIc h2.2]
theorem Fz{h w}{v u:Value}(hr:RD h w (aO1 v) u):u=v:=by unfold aO1 at hr;split at hr;simp only[RD]at hr;obtain⟨us,rfl,hr⟩:=hr;rw[aIc hr];exact aPb hr
theorem FC{P:Program}{h:Hw}{w:World}{kt:TypeId}{pre:List (Nat×D×D)}{s:Nat}{kd v0:D}{post:List (Nat×D×D)}{l:List MapEntry}{key:Value}(hr:REs h w (pre++(s,kd,v0)::post) l)
 (hK:∀x∈pre++(s,kd,v0)::post,KOk P kt x.2.1) (hk:KOk P kt kd) (hne:∀x∈pre,x.2.1≠kd) (hkr:RD h w kd key):
 ∃lp e lq,l=lp++e::lq/\lp.length=pre.length/\REs h w pre lp/\e.born=s/\e.key=key/\RD h w v0 e.val/\REs h w post lq/\Ask P kt key l (some (pre.length,e.val)):=by
 obtain⟨lp,e,lq,e1,e2,e3,e4,e5,e6,e7⟩:=REs.split hr
 obtain⟨v,rfl,hv⟩:=hk
 have hkv:key=v:=Fz hkr
 subst hkv
 have hek:e.key=key:=Fz e5
 have hlp:∀x∈lp,Vk P kt x.key/\x.key≠key:=fun x hx=>by obtain⟨y,hy,_,q,_⟩:=REs.mem e3 x hx;obtain⟨v',h2,h3⟩:=hK y (ml _ hy);rw[h2]at q;have:=Fz q;rw[this];exact⟨h3,fun e=>hne y hy (by rw[h2,e])⟩
 refine⟨lp,e,lq,e1,e2,e3,e4,hek,e6,e7,?_⟩
 rw[e1,<-e2]
 exact ask_at hv hek hlp
theorem FD{P:Program}{h:Hw}{w:World}{kt:TypeId}{es:List (Nat×D×D)}{kd:D}{l:List MapEntry}{key:Value}(hr:REs h w es l)
 (hK:∀x∈es,KOk P kt x.2.1) (hk:KOk P kt kd) (hne:∀x∈es,x.2.1≠kd) (hkr:RD h w kd key):Ask P kt key l none:=by
 obtain⟨v,rfl,hv⟩:=hk
 have hkv:key=v:=Fz hkr
 subst hkv
 refine ask_no hv fun x hx=>?_
 obtain⟨y,hy,_,q,_⟩:=REs.mem hr x hx
 obtain⟨v',h2,h3⟩:=hK y hy
 rw[h2]at q
 have e:=Fz q
 rw[e]
 exact⟨h3,fun e2=>hne y hy (by rw[h2,e2])⟩
def Br(s:St):A->Option (Nat×Nat×List (Nat×D×D))
 | .row n=>match lk s.B n with
  |some (.map clk es)=>some (n,clk,es)
  |_=>none
 |_=>none
theorem C1{s:St}{h w val}{a:Act}(H:AS s h w val a){x:A}{u:Value}(hr:RA h w val x u){n clk es}(he:Br s x=some (n,clk,es)):
 lk s.B n=some (.map clk es)/\∃b l,u=.map (some b)/\val n=.map (some b)/\w.heap[b]? =some (.map ⟨l⟩ clk)/\REs h w es l/\(∀x∈es,x.1<clk)/\(es.map (·.1)).Nodup/\(es.map (·.2.1)).Nodup/\h b=0:=by
 unfold Br at he
 split at he
 rename_i m
 split at he
 rename_i clk' es' hl
 simp only[oe,pe]at he
 obtain⟨rfl,rfl,rfl⟩:=he
 simp only[RA]at hr
 obtain⟨b,l,hv,rest⟩:=H.inv.rep _ (ml _ (Aj hl))
 exact⟨hl,b,l,by rw[hr.1];exact hv,hv,rest⟩
 cases he
 cases he
theorem D2{w:World}{b g:Nat}{o:Obj}(hg:g≠b):({w with heap:=w.heap.setIfInBounds b o}:World).heap[g]? =w.heap[g]? :=by simp[Array.getElem?_setIfInBounds,Ne.symm hg]
theorem Ug{w:World}{b:Nat}{o o':Obj}(hb:w.heap[b]? =some o):({w with heap:=w.heap.setIfInBounds b o'}:World).heap[b]? =some o':=by have hlt:b<w.heap.size:=(Array.getElem?_eq_some_iff.1 hb).1;simp[hlt]
theorem Ei{s:St}{h:Hw}{w:World}{val:Val}{a:Act}(H:AS s h w val a){n clk clk':Nat}{es':List (Nat×D×D)}{b:Nat}{l l':List MapEntry}{bk bk':Bk}
 (hl:lk s.B n=some bk) (ho:bk.isOld=false) (ho':bk'.isOld=false) (hv:val n=.map (some b)) (hg:w.heap[b]? =some (.map ⟨l⟩ clk)) (h0:h b=0) (hr:REs h w es' l') (h1:∀x∈es',x.1<clk') (h2:(es'.map (·.1)).Nodup) (h3:(es'.map (·.2.1)).Nodup)
 (hb':∀w',RM h w' (val n) clk' es'->RB h w' val n bk'):
 AS {s with B:=BJ s.B n bk'} h {w with heap:=w.heap.setIfInBounds b (.map ⟨l'⟩ clk')} val a/\Nx s h w val {s with B:=BJ s.B n bk'} h {w with heap:=w.heap.setIfInBounds b (.map ⟨l'⟩ clk')} val:=by
 have hmem:(n,bk)∈s.all:=ml _ (Aj hl)
 have hvb:Bs (val n)=some b:=by rw[hv];rfl
 have hgM:b∈AV val s.all:=Inv.blk_mem hmem (Ak hvb ho)
 have hk:BS (AV val s.all) h w h {w with heap:=w.heap.setIfInBounds b (.map ⟨l'⟩ clk')}:=⟨rfl,rfl,rfl,by simp,fun x i v _ hc=>by unfold World.cell? at hc⊢;by_cases e:x=b;subst e;simp only[hg]at hc;cases hc;simp only at hc⊢;rw[D2 e];exact hc,fun _ _=>Nat.le_refl _,fun x _ hn=>⟨D2 fun e=>hn (e▸hgM),rfl⟩⟩
 have hsame:∀b',(n,b')∈s.B->b'.isOld=bk'.isOld:=fun b2 hb2=>by have:=BB H.inv.nms (ml _ hb2) hmem;rw[this,ho,ho']
 refine⟨⟨RAs.stays hk.stays _ _ _ H.e,⟨?_,?_,?_⟩,H.far,H.defs.keep H.inv hk (fun b hb=>hb) rfl⟩,⟨hk,fun _ _=>rfl,fun b hb=>.inl ?_⟩⟩
 intro p hp
 rcases ma.1 hp with hp|hp
 rcases BZ hp with rfl|⟨hp,hne⟩
 exact hb' _ ⟨b,l',hv,Ug hg,REs.stays hk.stays _ _ hr,h1,h2,h3,h0⟩
 refine RB.stays hk.stays (fun g hg'=>⟨D2 fun e=>?_,rfl⟩) (H.inv.rep p (ml _ hp))
 subst e
 have:=Bl H.inv.bks (ml _ hp) hmem hg' (Ak hvb ho)
 rw[this]at hne
 exact hne rfl
 refine RB.stays hk.stays (fun g hg'=>⟨D2 fun e=>?_,rfl⟩) (H.inv.rep p (mr _ hp))
 subst e
 have e4:=Bl H.inv.bks (mr _ hp) hmem hg' (Ak hvb ho)
 have hnd:=H.inv.nms
 simp only[St.all,AJ]at hnd
 have m1:n∈AI s.B:=by simp only[AI,mm];exact⟨_,Aj hl,rfl⟩
 have m2:n∈AI s.F:=by simp only[AI,mm];exact⟨p,hp,by rw[e4]⟩
 exact(List.nodup_append.1 hnd).2.2 n m1 n m2 rfl
 have:=H.inv.nms
 simpa only[St.all,AJ,A7]using this
 have:=H.inv.bks
 simpa only[St.all,AN,A3 hsame]using this
 simpa only[St.all,AN,A3 hsame]using hb
theorem map_set{s:St}{h:Hw}{w:World}{val:Val}{a:Act}(H:AS s h w val a){n clk clk':Nat}{es es':List (Nat×D×D)}{b:Nat}{l l':List MapEntry}
 (hl:lk s.B n=some (.map clk es)) (hv:val n=.map (some b)) (hg:w.heap[b]? =some (.map ⟨l⟩ clk)) (h0:h b=0) (hr:REs h w es' l') (h1:∀x∈es',x.1<clk') (h2:(es'.map (·.1)).Nodup) (h3:(es'.map (·.2.1)).Nodup):
 AS {s with B:=BJ s.B n (.map clk' es')} h {w with heap:=w.heap.setIfInBounds b (.map ⟨l'⟩ clk')} val a/\Nx s h w val {s with B:=BJ s.B n (.map clk' es')} h {w with heap:=w.heap.setIfInBounds b (.map ⟨l'⟩ clk')} val:=
 Ei H hl rfl rfl hv hg h0 hr h1 h2 h3 fun _ hm=>hm

def aDl(P:Program)(o:Oper)(s:St)(wt:W):Option (Cn×A×List Ed):=
 match o.op with
 | .makeMap _ none=>match o.dst with
  |some d=>if d<up&& !AR d s.E&& !Be d s.B then some (.t,.row d,[.add d (.map 0 [])])else none
  |none=>none
 | .lookup t m k cok=>match Br s (s.ev m),toD (s.look (s.ev k)),P.underlying t,wt with
  |some (_,_,es),some kd,some (.map kt et),.mg vd ok=>match (P.info? et).bind (·.zero)with
   |some z=>if z.cells.toList.all (·.oneCell')then some (.pr (aO9 P kt (Cp z) es kd vd ok),if cok then .tup [.d vd,bo ok]else .d vd,[])else none
   |none=>none
  |_,_,_,_=>none
 | .mapUpdate t m k x=>match Br s (s.ev m),toD (s.look (s.ev k)),toD (s.look (s.ev x)),P.underlying t,wt with
  |some (n,clk,es),some kd,some vd,some (.map kt _),.mp clk' es'=>some (.pr (aHx P kt es kd vd clk es' clk'),.any,[.chg n (.map clk' es')])
  |_,_,_,_,_=>none
 | .insert t m k x=>match Br s (s.ev m),toD (s.look (s.ev k)),toD (s.look (s.ev x)),P.underlying t,wt with
  |some (n,clk,es),some kd,some vd,some (.map kt _),.mp clk' es'=>some (.pr (aHx P kt es kd vd clk es' clk'),.any,[.chg n (.map clk' es')])
  |_,_,_,_,_=>none
 | .mapEntry t m k=>match Br s (s.ev m),toD (s.look (s.ev k)),P.underlying t,wt with
  |some (n,clk,es),some kd,some (.map kt et),.me clk' es' v st=>match (P.info? et).bind (·.zero)with
   |some z=>if z.cells.toList.all (·.oneCell')then some (.pr (aPj P kt (Cp z) es kd clk es' clk' v st),.tup [.d v,.d (.v (.int .i64 st))],[.chg n (.map clk' es')])else none
   |none=>none
  |_,_,_,_=>none
 | .entryStore _ m st x=>match Br s (s.ev m),s.ev st,toD (s.look (s.ev x)),wt with
  |some (n,clk,es),.d (.v (.int .i64 i)),some vd,.mp _ es'=>some (.pr (aPl es i vd es'),.any,[.chg n (.map clk es')])
  |_,_,_,_=>none
 | .call c=>match c.callee,c.args.toList,c.argTypes.toList with
  | .builtin .delete,[m,k],[t,_]=>match Br s (s.ev m),toD (s.look (s.ev k)),P.underlying t,wt with
   |some (n,clk,es),some kd,some (.map kt _),.mp _ es'=>some (.pr (aO8 P kt es kd es'),.tup [],[.chg n (.map clk es')])
   |_,_,_,_=>none
  | .builtin .clear,[m],[t]=>match Br s (s.ev m),P.underlying t with
   |some (n,clk,_),some (.map _ _)=>some (.t,.tup [],[.chg n (.map clk [])])
   |_,_=>none
  | .builtin .len,[m],[t]=>match Br s (s.ev m),P.underlying t,wt with
   |some (_,_,es),some (.map _ _),.int n=>some (.pr (aPk es n),.d (.v (.int .i64 n)),[])
   |_,_,_=>none
  |_,_,_=>none
 |_=>none
theorem JX(lp lq:List MapEntry)(e:MapEntry)(f:MapEntry->MapEntry){n:Nat}(hn:lp.length=n):(⟨lp++e::lq⟩:Array MapEntry).modify n f=⟨lp++f e::lq⟩:=by
 subst hn;apply Array.ext';rw[Array.toList_modify];show(lp++e::lq).modify lp.length f=lp++f e::lq;induction lp with
 |nil=>rfl
 |cons x lp ih=>simp only[List.cons_append,List.length_cons,List.modify_succ_cons,ih]
theorem JY(l:List MapEntry)(x:MapEntry):(⟨l⟩:Array MapEntry).push x=⟨l++[x]⟩:=by apply Array.ext';simp
theorem Ly(lp lq:List MapEntry)(e:MapEntry){n:Nat}(hn:lp.length=n):(⟨lp++e::lq⟩:Array MapEntry)[n]? =some e:=by subst hn;simp
theorem UE(lp lq:List MapEntry)(e:MapEntry){n:Nat}(hn:lp.length=n):(⟨lp++e::lq⟩:Array MapEntry).eraseIdxIfInBounds n=⟨lp++lq⟩:=by subst hn;apply Array.ext';simp[Array.eraseIdxIfInBounds,List.eraseIdx_append]
theorem aGr{lp lq:List MapEntry}{e:MapEntry}{s:Nat}(h1:∀x∈lp,x.born≠s)(h2:e.born=s):(⟨lp++e::lq⟩:Array MapEntry).findIdx? (fun e=>(e.born:Int)==(s:Int))=some lp.length:=by
 rw[List.findIdx?_toArray,List.findIdx?_append];have:lp.findIdx? (fun e=>(e.born:Int)==(s:Int))=none:=by rw[List.findIdx?_eq_none_iff];intro x hx;have:=h1 x hx;simp;omega
 rw[this];simp[List.findIdx?_cons,h2]
theorem REs.set{h w}:∀{pre:List (Nat×D×D)} {lp:List MapEntry} {s:Nat} {kd vd:D} {post:List (Nat×D×D)} {lq:List MapEntry} {e:MapEntry},REs h w pre lp->e.born=s->RD h w kd e.key->RD h w vd e.val->REs h w post lq->REs h w (pre++(s,kd,vd)::post) (lp++e::lq):=
 fun h1 h2 h3 h4 h5=>REs.append h1 ⟨_,_,rfl,h2,h3,h4,h5⟩
theorem REs.one{h w}{s:Nat}{kd vd:D}{e:MapEntry}(h2:e.born=s)(h3:RD h w kd e.key)(h4:RD h w vd e.val):REs h w [(s,kd,vd)] [e]:=⟨_,_,rfl,h2,h3,h4,rfl⟩
theorem Nk{pre post:List (Nat×D×D)}{s clk:Nat}{kd v0 vd:D}(h:∀x∈pre++(s,kd,v0)::post,x.1<clk):∀x∈pre++(s,kd,vd)::post,x.1<clk:=fun x hx=>by
 rcases ma.1 hx with g|g
 exact h x (by simp[g]);rcases mc.1 g with rfl|g
 exact h (s,kd,v0) (by simp);exact h x (by simp[g])
theorem No{pre post:List (Nat×D×D)}{s:Nat}{kd v0 vd:D}(h:((pre++(s,kd,v0)::post).map (·.1)).Nodup):((pre++(s,kd,vd)::post).map (·.1)).Nodup:=by simpa using h
theorem MK{es:List (Nat×D×D)}{clk:Nat}{kd vd:D}(h:∀x∈es,x.1<clk):∀x∈es++[(clk,kd,vd)],x.1<clk+1:=fun x hx=>by
 rcases ma.1 hx with g|g
 have:=h x g;omega;rw[List.mem_singleton]at g;subst g;exact Nat.lt_succ_self _
theorem MQ{es:List (Nat×D×D)}{clk:Nat}{kd vd:D}(h1:∀x∈es,x.1<clk)(h:(es.map (·.1)).Nodup):((es++[(clk,kd,vd)]).map (·.1)).Nodup:=by rw[List.map_append,List.nodup_append];refine⟨h,by simp,fun a ha b hb=>?_⟩;obtain⟨x,hx,rfl⟩:=mm.1 ha;simp only[List.map_cons,List.map_nil,List.mem_singleton]at hb;have:=h1 x hx;omega
theorem Nf{pre post:List (Nat×D×D)}{s:Nat}{kd v0 vd:D}(h:((pre++(s,kd,v0)::post).map (·.2.1)).Nodup):((pre++(s,kd,vd)::post).map (·.2.1)).Nodup:=by simpa using h
theorem MF{es:List (Nat×D×D)}{clk:Nat}{kd vd:D}(h1:∀x∈es,x.2.1≠kd)(h:(es.map (·.2.1)).Nodup):((es++[(clk,kd,vd)]).map (·.2.1)).Nodup:=by rw[List.map_append,List.nodup_append];refine⟨h,by simp,fun a ha b hb=>?_⟩;obtain⟨x,hx,rfl⟩:=mm.1 ha;simp only[List.map_cons,List.map_nil,List.mem_singleton]at hb;subst hb;exact h1 x hx
theorem Kc{n:Nat}(h:n<=4611686018427387904):IntKind.i64.wrap (n:Int)=n:=IntWalk.i64_in _ ⟨by omega,by omega⟩

theorem Eh{P:Program}{s:St}{h:Hw}{w:World}{val:Val}{a:Act}(H:AS s h w val a){t kt et:TypeId}(ht:P.underlying t=some (.map kt et)){n clk clk':Nat}{es es':List (Nat×D×D)}{kd vd:D}{um key v:Value}
 (hm:Br s (.row n)=some (n,clk,es)) (hu:RA h w val (.row n) um) (hk:RD h w kd key) (hv:RD h w vd v) (hp:aHx P kt es kd vd clk es' clk'):
 ∃w',(Instr.mapUpdate t um key v).run P w=.ok () w'/\AS {s with B:=BJ s.B n (.map clk' es')} h w' val a/\Nx s h w val {s with B:=BJ s.B n (.map clk' es')} h w' val:=by
 obtain⟨hl,b,l,rfl,hv0,hg,hr,q1,q2,q3,h0⟩:=C1 H hu hm
 obtain⟨hK,hkk,⟨rfl,pre,st,v0,post,rfl,hne,rfl⟩|⟨rfl,rfl,hne⟩⟩:=hp
 obtain⟨lp,e,lq,rfl,e2,e3,e4,e5,e6,e7,hd,hik,hf⟩:=FC hr hK hkk hne hk
 obtain⟨f1,f2⟩:=map_set H hl hv0 hg h0 (REs.set (s:=st) (kd:=kd) (vd:=vd) (e:={e with key:=key,val:=v}) e3 e4 hk hv e7) (Nk q1) (No q2) (Nf q3)
 refine⟨_,?_,f1,f2⟩
 have ha:=Ly lp lq e e2
 simp only[Instr.mapUpdate,Sem.run_bind,run_underlying ht,MapKept.run_getObj_map hg,hd,hf,Result.andThen_ok,ha,Option.map_some,Option.getD_some,e5,hik,JX lp lq e _ e2,MapKept.run_setObj_map _ hg]
 obtain⟨hd,hik,hf⟩:=FD hr hK hkk hne hk
 obtain⟨f1,f2⟩:=map_set H hl hv0 hg h0 (REs.append hr (REs.one (s:=clk) (kd:=kd) (vd:=vd) (e:=⟨key,v,clk⟩) rfl hk hv)) (MK q1) (MQ q1 q2) (MF hne q3)
 refine⟨_,?_,f1,f2⟩
 simp only[Instr.mapUpdate,Sem.run_bind,run_underlying ht,MapKept.run_getObj_map hg,hd,hf,Result.andThen_ok,MapKept.run_setObj_map _ hg,JY]
theorem HV{s:St}{x:A}{n clk es}(h:Br s x=some (n,clk,es)):x=.row n:=by unfold Br at h;split at h;split at h;simp only[oe,pe]at h;rw[h.1];cases h;cases h
theorem OG{P:Program}{et:TypeId}{z:Value}(hz:(P.info? et).bind (·.zero)=some z)(w:World):(zeroValue et).run P w=.ok z w:=by simp only[Option.bind_eq_some_iff]at hz;obtain⟨i,hi,hz⟩:=hz;simp[zeroValue,typeInfo,hi,hz]
theorem aGk{P:Program}{o:Oper}{s:St}{wt:W}{Φ:Cn}{r:A}{es:List Ed}(he:aDl P o s wt=some (Φ,r,es)):FV P o s Φ.ok r (s.edit es):=by
 intro hΦ h w val a H K Q hK;unfold aDl at he;split at he;rename_i t ho;split at he;rename_i d hd;split at he;rename_i hc;simp only[ba,decide_eq_true_eq,Bool.not_eq_true']at hc;obtain⟨⟨c3,c4⟩,c5⟩:=hc;simp only[oe,pe]at he;obtain⟨rfl,rfl,rfl⟩:=he;have hvd:Ar val d (.map (some w.heap.size)) d=.map (some w.heap.size):=by simp[Ar]
 obtain⟨f1,f2⟩:=H.fresh c3 c4 c5 (.map #[] 0) (.map (some w.heap.size)) 0 (.map 0 []) rfl rfl
  ⟨w.heap.size,[],hvd,heap_alloc_new w _,rfl,by simp,by simp,by simp,by simp[ES]⟩
 refine AQ (u:=.map (some w.heap.size)) (w':=w.alloc (.map #[] 0)) ?_ (hK _ _ _ _ (by simp only[RA];exact⟨hvd.symm,.inr ⟨_,rfl⟩⟩) f1.ins f2.ins);simp[execOp,ho,Instr.makeMap];cases he;cases he;rename_i t m k cok ho;split at he;rename_i n clk es kd kt et vd ok hm hk ht;split at he;rename_i z hz;split at he;rename_i hz1;simp only[oe,pe]at he;obtain⟨rfl,rfl,rfl⟩:=he;have hx:=HV hm;have hu:=H.ev m;obtain⟨hl,b,l,hum,hv0,hg,hr,q1,q2,q3,h0⟩:=C1 H hu hm;have hkr:=CA hk (H.look (H.ev k));have hzr:(zeroValue et).run P w=.ok z w:=OG hz w;obtain⟨hKs,hkk,hcase⟩:=hΦ;have key:∃v,(Instr.lookup t (a.eval m) (a.eval k) cok).run P w=.ok (if cok then .tuple #[v,.bool ok]else v) w/\RD h w vd v:=by
  rcases hcase with⟨rfl,pre,st,post,rfl,hne⟩|⟨rfl,rfl,hne⟩
  obtain⟨lp,e,lq,rfl,e2,e3,e4,e5,e6,e7,hd,hik,hf⟩:=FC hr hKs hkk hne hkr;refine⟨e.val,?_,e6⟩;rw[hum];cases cok<;>simp[Instr.lookup,run_underlying ht,MapKept.run_getObj_map hg,hd,hf];obtain⟨hd,hik,hf⟩:=FD hr hKs hkk hne hkr;refine⟨z,?_,Iy fun x hx=>List.all_eq_true.1 hz1 x hx⟩;rw[hum];cases cok<;>simp[Instr.lookup,run_underlying ht,MapKept.run_getObj_map hg,hd,hf,hzr]
 obtain⟨v,hrun,hvr⟩:=key;refine AQ (u:=if cok then .tuple #[v,.bool ok]else v) (w':=w) ?_ (hK h w val _ ?_ H (Nx.refl s h w val rfl))
 simp[execOp,ho,hrun];cases cok;simp only[Bool.false_eq_true,if_false,RA];exact hvr;simp only[if_true,RA,RAs];exact⟨[v,.bool ok],rfl,v,[.bool ok],rfl,hvr,.bool ok,[],rfl,by simp[bo,RA,RD,Value.oneCell'],rfl⟩;cases he;cases he;cases he;rename_i t m k x ho;split at he;rename_i n clk es kd vd kt et clk' es' hm hk hv ht;simp only[oe,pe]at he;obtain⟨rfl,rfl,rfl⟩:=he;have hx:=HV hm;obtain⟨w',hrun,f1,f2⟩:=Eh H ht (um:=a.eval m) (by rw[<-hx];exact hm) (by rw[<-hx];exact H.ev m) (CA hk (H.look (H.ev k))) (CA hv (H.look (H.ev x))) hΦ;exact B2 (w':=w') (by simp[execOp,ho,hrun]) (hK h _ val undef (by simp[RA]) f1 f2);cases he;rename_i t m k x ho;split at he;rename_i n clk es kd vd kt et clk' es' hm hk hv ht;simp only[oe,pe]at he;obtain⟨rfl,rfl,rfl⟩:=he;have hx:=HV hm;obtain⟨w',hrun,f1,f2⟩:=Eh H ht (um:=a.eval m) (by rw[<-hx];exact hm) (by rw[<-hx];exact H.ev m) (CA hk (H.look (H.ev k))) (CA hv (H.look (H.ev x))) hΦ;exact B2 (w':=w') (by simp[execOp,ho,hrun]) (hK h _ val undef (by simp[RA]) f1 f2);cases he;rename_i t m k ho;split at he;rename_i n clk es kd kt et clk' es' v st hm hk ht;split at he;rename_i z hz;split at he;rename_i hz1;simp only[oe,pe]at he;obtain⟨rfl,rfl,rfl⟩:=he;obtain⟨hl,b,l,hum,hv0,hg,hr,q1,q2,q3,h0⟩:=C1 H (H.ev m) hm;have hkr:=CA hk (H.look (H.ev k));have hzr:(zeroValue et).run P w=.ok z w:=OG hz w;have hzd:=Iy (h:=h) (w:=w) fun x hx=>List.all_eq_true.1 hz1 x hx;obtain⟨hKs,hkk,hst,hcase⟩:=hΦ;have h63:=Kc hst;have key:∃v' w',(Instr.mapEntry t (a.eval m) (a.eval k)).run P w=.ok (.tuple #[v',.int .i64 st]) w'/\RD h w' v v'/\AS {s with B:=BJ s.B n (.map clk' es')} h w' val a/\Nx s h w val {s with B:=BJ s.B n (.map clk' es')} h w' val:=by
  rcases hcase with⟨rfl,rfl,pre,post,rfl,hne⟩|⟨rfl,rfl,rfl,rfl,hne⟩
  obtain⟨lp,e,lq,rfl,e2,e3,e4,e5,e6,e7,hd,hik,hf⟩:=FC hr hKs hkk hne hkr;obtain⟨f1,f2⟩:=map_set H hl hv0 hg h0 (REs.set (s:=st) (kd:=kd) (vd:=v) (e:={e with key:=a.eval k}) e3 e4 hkr e6 e7) (Nk q1) (No q2) (Nf q3)
  refine⟨e.val,_,?_,RD.stays f2.keep.stays _ _ e6,f1,f2⟩;have ha:=Ly lp lq e e2;rw[hum];simp only[Instr.mapEntry,Sem.run_bind,run_underlying ht,MapKept.run_getObj_map hg,hd,hf,Result.andThen_ok,ha,Option.map_some,Option.getD_some,e5,hik,JX lp lq e _ e2,MapKept.run_setObj_map _ hg,Sem.run_pure,goInt,e4,h63];obtain⟨hd,hik,hf⟩:=FD hr hKs hkk hne hkr;obtain⟨f1,f2⟩:=map_set H hl hv0 hg h0 (REs.append hr (REs.one (s:=st) (kd:=kd) (vd:=Cp z) (e:=⟨a.eval k,z,st⟩) rfl hkr hzd)) (MK q1) (MQ q1 q2) (MF hne q3);refine⟨z,_,?_,RD.stays f2.keep.stays _ _ hzd,f1,f2⟩;rw[hum];simp only[Instr.mapEntry,Sem.run_bind,run_underlying ht,MapKept.run_getObj_map hg,hd,hf,hzr,Result.andThen_ok,MapKept.run_setObj_map _ hg,Sem.run_pure,goInt,h63,JY]
 obtain⟨v',w',hrun,hvr,f1,f2⟩:=key;refine AQ (u:=.tuple #[v',.int .i64 st]) (w':=w') ?_ (hK h w' val _ ?_ f1 f2);simp[execOp,ho,hrun];simp only[RA,RAs];exact⟨[v',.int .i64 st],rfl,v',[.int .i64 st],rfl,hvr,.int .i64 st,[],rfl,by simp[RD,Value.oneCell'],rfl⟩;cases he;cases he;cases he;rename_i t m st x ho;split at he;rename_i n clk es i vd clk' es' hm hst hv;simp only[oe,pe]at he;obtain⟨rfl,rfl,rfl⟩:=he;obtain⟨hl,b,l,hum,hv0,hg,hr,q1,q2,q3,h0⟩:=C1 H (H.ev m) hm;have hvr:=CA hv (H.look (H.ev x));obtain⟨pre,st',kd,v0,post,rfl,rfl,hne,rfl⟩:=hΦ;have hi:=H.ev st;rw[hst]at hi;simp only[RA,RD]at hi;obtain⟨lp,e,lq,rfl,e2,e3,e4,e5,e6,e7⟩:=REs.split hr;obtain⟨f1,f2⟩:=map_set H hl hv0 hg h0 (REs.set (s:=st') (kd:=kd) (vd:=vd) (e:={e with val:=a.eval x}) e3 e4 e5 hvr e7) (Nk q1) (No q2) (Nf q3)
 have hlp:∀x∈lp,x.born≠st':=fun x hx=>by obtain⟨y,hy,q,_⟩:=REs.mem e3 x hx;rw[q];exact hne y hy
 refine B2 (w':=_) ?_ (hK h _ val undef (by simp[RA]) f1 f2);simp only[execOp,ho,hum,hi.1,Instr.entryStore,Sem.run_bind,MapKept.run_getObj_map hg,asInt,asIntOf,Sem.run_pure,Result.andThen_ok,aGr hlp e4,JX lp lq e _ rfl,MapKept.run_setObj_map _ hg];cases he;rename_i c ho;obtain⟨callee,⟨args⟩,⟨tys⟩⟩:=c;simp only at he;split at he;rename_i m k t t2;split at he;rename_i n clk es kd kt et clk' es' hm hk ht;simp only[oe,pe]at he;obtain⟨rfl,rfl,rfl⟩:=he;obtain⟨hl,b,l,hum,hv0,hg,hr,q1,q2,q3,h0⟩:=C1 H (H.ev m) hm;have hkr:=CA hk (H.look (H.ev k));obtain⟨hKs,hkk,⟨pre,st,v0,post,rfl,hne,rfl⟩|⟨rfl,hne⟩⟩:=hΦ;obtain⟨lp,e,lq,rfl,e2,e3,e4,e5,e6,e7,hd,hik,hf⟩:=FC hr hKs hkk hne hkr;obtain⟨f1,f2⟩:=map_set H hl hv0 hg h0 (REs.append e3 e7) (clk':=clk) (fun x hx=>q1 x (by
  rcases ma.1 hx with g|g<;>simp[g])) (by
  have:(pre++post).Sublist (pre++(st,kd,v0)::post):=List.Sublist.append (List.Sublist.refl _) (List.sublist_cons_self _ _);exact(this.map _).nodup q2) (by
  have:(pre++post).Sublist (pre++(st,kd,v0)::post):=List.Sublist.append (List.Sublist.refl _) (List.sublist_cons_self _ _);exact(this.map _).nodup q3)
 refine AQ (u:=.tuple #[]) (w':=_) ?_ (hK h _ val _ (by simp[RA,RAs]) f1 f2);simp[execOp,ho,resolve,invoke,builtin,Builtin.delete_,run_underlying ht,hum,MapKept.run_getObj_map hg,hd,hf,MapKept.run_setObj_map _ hg];have:=UE lp lq e e2;simp only[List.eraseIdxIfInBounds_toArray]at this;first|rw[this]|rw[<-e2,List.eraseIdx_append_of_length_le (Nat.le_refl _),Nat.sub_self];rfl
 obtain⟨hd,hik,hf⟩:=FD hr hKs hkk hne hkr;obtain⟨f1,f2⟩:=map_set H hl hv0 hg h0 hr q1 q2 q3;refine AQ (u:=.tuple #[]) (w':=_) ?_ (hK h _ val _ (by simp[RA,RAs]) f1 f2);simp[execOp,ho,resolve,invoke,builtin,Builtin.delete_,run_underlying ht,hum,MapKept.run_getObj_map hg,hd,hf,MapKept.run_setObj_map _ hg];cases he;rename_i m t;split at he;rename_i n clk es kt et hm ht;simp only[oe,pe]at he;obtain⟨rfl,rfl,rfl⟩:=he;obtain⟨hl,b,l,hum,hv0,hg,hr,q1,q2,q3,h0⟩:=C1 H (H.ev m) hm;obtain⟨f1,f2⟩:=map_set H hl hv0 hg h0 (es':=[]) (l':=[]) (clk':=clk) rfl (by simp) (by simp) (by simp);refine AQ (u:=.tuple #[]) (w':=_) ?_ (hK h _ val _ (by simp[RA,RAs]) f1 f2);simp[execOp,ho,resolve,invoke,builtin,Builtin.clear_,run_underlying ht,hum,MapKept.run_getObj_map hg,MapKept.run_setObj_map _ hg];cases he;rename_i m t;split at he;rename_i n clk es kt et n' hm ht;simp only[oe,pe]at he;obtain⟨rfl,rfl,rfl⟩:=he;obtain⟨hl,b,l,hum,hv0,hg,hr,q1,q2,q3,h0⟩:=C1 H (H.ev m) hm;obtain⟨rfl,hn⟩:=hΦ;have h63:=Kc (n:=es.length) (by omega);refine AQ (u:=.int .i64 es.length) (w':=w) ?_ (hK h w val _ (by simp[RA,RD,Value.oneCell']) H (Nx.refl s h w val rfl));have hlen:l.length=es.length:=REs.length hr;simp[execOp,ho,resolve,invoke,builtin,Builtin.len_,run_underlying ht,hum,MapKept.run_getObj_map hg,goInt,hlen,h63];cases he;cases he;cases he
end Go.Ac
namespace Go.Ac
open Go.MapKept
def Vs(P:Program)(kt:TypeId)(S:List (D×D))(kd vd:D)(S':List (D×D)):Prop:=
 (∀x∈S,KOk P kt x.1)/\KOk P kt kd/\((∃(pre:List (D×D)) (v0:D) (post:List (D×D)),S=pre++(kd,v0)::post/\S'=pre++(kd,vd)::post)\/(S'=S++[(kd,vd)]/\∀x∈S,x.1≠kd))
def aHw(P:Program)(kt:TypeId)(S:List (D×D))(kd:D)(S':List (D×D)):Prop:=
 (∀x∈S,KOk P kt x.1)/\KOk P kt kd/\((∃(pre:List (D×D)) (v0:D) (post:List (D×D)),S=pre++(kd,v0)::post/\S'=pre++post)\/(S'=S/\∀x∈S,x.1≠kd))
theorem OC{es:List (Nat×D×D)}{kd v0:D}(hn:(es.map (·.2.1)).Nodup)(h:(kd,v0)∈es.map (·.2)):∃(pre:List (Nat×D×D)) (s:Nat) (post:List (Nat×D×D)),es=pre++(s,kd,v0)::post/\∀x∈pre,x.2.1≠kd:=by obtain⟨⟨s,p⟩,hx,e⟩:=mm.1 h;simp only at e;subst e;obtain⟨pre,post,rfl⟩:=List.append_of_mem hx;refine⟨pre,s,post,rfl,fun x hx e=>?_⟩;rw[List.map_append,List.map_cons,List.nodup_append]at hn;exact hn.2.2 _ (List.mem_map_of_mem hx) _ (by simp) e
theorem Ny{pre post pre' post':List (D×D)}{x:D×D}(h:(pre++x::post).Perm (pre'++x::post')):(pre++post).Perm (pre'++post'):=
 ((List.perm_middle.symm.trans h).trans List.perm_middle).cons_inv
theorem VM{P:Program}{kt:TypeId}{clk:Nat}{es:List (Nat×D×D)}{S S':List (D×D)}{kd vd:D}(hn:(es.map (·.2.1)).Nodup)(hp:(es.map (·.2)).Perm S)(h:Vs P kt S kd vd S'):
 ∃clk' es',aHx P kt es kd vd clk es' clk'/\(es'.map (·.2)).Perm S':=by
 obtain⟨hK,hk,hc⟩:=h
 have hK':∀x∈es,KOk P kt x.2.1:=fun x hx=>hK x.2 (hp.mem_iff.1 (List.mem_map_of_mem hx))
 rcases hc with⟨pre,v0,post,rfl,rfl⟩|⟨rfl,hne⟩
 obtain⟨pre2,s,post2,rfl,hne⟩:=OC (kd:=kd) (v0:=v0) hn (hp.mem_iff.2 (by simp))
 refine⟨clk,pre2++(s,kd,vd)::post2,⟨hK',hk,.inl ⟨rfl,pre2,s,v0,post2,rfl,hne,rfl⟩⟩,?_⟩
 rw[List.map_append,List.map_cons]at hp⊢
 have:=Ny hp
 exact List.perm_middle.trans ((List.Perm.cons _ this).trans List.perm_middle.symm)
 refine⟨clk+1,es++[(clk,kd,vd)],⟨hK',hk,.inr ⟨rfl,rfl,fun x hx e=>?_⟩⟩,?_⟩
 exact hne x.2 (hp.mem_iff.1 (List.mem_map_of_mem hx)) e
 rw[List.map_append]
 exact hp.append_right _
theorem UW{P:Program}{kt:TypeId}{es:List (Nat×D×D)}{S S':List (D×D)}{kd:D}(hn:(es.map (·.2.1)).Nodup)(hp:(es.map (·.2)).Perm S)(h:aHw P kt S kd S'):
 ∃es',aO8 P kt es kd es'/\(es'.map (·.2)).Perm S':=by
 obtain⟨hK,hk,hc⟩:=h
 have hK':∀x∈es,KOk P kt x.2.1:=fun x hx=>hK x.2 (hp.mem_iff.1 (List.mem_map_of_mem hx))
 rcases hc with⟨pre,v0,post,rfl,rfl⟩|⟨rfl,hne⟩
 obtain⟨pre2,s,post2,rfl,hne⟩:=OC (kd:=kd) (v0:=v0) hn (hp.mem_iff.2 (by simp))
 refine⟨pre2++post2,⟨hK',hk,.inl ⟨pre2,s,v0,post2,rfl,hne,rfl⟩⟩,?_⟩
 rw[List.map_append,List.map_cons]at hp
 rw[List.map_append]
 exact Ny hp
 exact⟨es,⟨hK',hk,.inr ⟨rfl,fun x hx e=>hne x.2 (hp.mem_iff.1 (List.mem_map_of_mem hx)) e⟩⟩,hp⟩
def Cl(s:St):A->Option (Nat×List (D×D))
 | .row n=>match lk s.B n with
  |some (.mapS S)=>some (n,S)
  |_=>none
 |_=>none
theorem Ki{s:St}{h w val}{a:Act}(H:AS s h w val a){x:A}{u:Value}(hr:RA h w val x u){n S}(he:Cl s x=some (n,S)):
 lk s.B n=some (.mapS S)/\∃clk es b l,(es.map (·.2)).Perm S/\u=.map (some b)/\val n=.map (some b)/\w.heap[b]? =some (.map ⟨l⟩ clk)/\REs h w es l/\(∀x∈es,x.1<clk)/\(es.map (·.1)).Nodup/\(es.map (·.2.1)).Nodup/\h b=0:=by
 unfold Cl at he
 split at he
 rename_i m
 split at he
 rename_i S' hl
 simp only[oe,pe]at he
 obtain⟨rfl,rfl⟩:=he
 simp only[RA]at hr
 obtain⟨clk,es,⟨b,l,hv,rest⟩,hp⟩:=H.inv.rep _ (ml _ (Aj hl))
 exact⟨hl,clk,es,b,l,hp,by rw[hr.1];exact hv,hv,rest⟩
 cases he
 cases he
def JW(P:Program)(o:Oper)(s:St)(wt:W):Option (Cn×A×List Ed):=
 match o.op with
 | .makeMap _ none=>match o.dst with
  |some d=>if d<up&& !AR d s.E&& !Be d s.B then some (.t,.row d,[.add d (.mapS [])])else none
  |none=>none
 | .mapUpdate t m k x=>match Cl s (s.ev m),toD (s.look (s.ev k)),toD (s.look (s.ev x)),P.underlying t,wt with
  |some (n,S),some kd,some vd,some (.map kt _),.ms S'=>some (.pr (Vs P kt S kd vd S'),.any,[.chg n (.mapS S')])
  |_,_,_,_,_=>none
 | .insert t m k x=>match Cl s (s.ev m),toD (s.look (s.ev k)),toD (s.look (s.ev x)),P.underlying t,wt with
  |some (n,S),some kd,some vd,some (.map kt _),.ms S'=>some (.pr (Vs P kt S kd vd S'),.any,[.chg n (.mapS S')])
  |_,_,_,_,_=>none
 | .call c=>match c.callee,c.args.toList,c.argTypes.toList with
  | .builtin .delete,[m,k],[t,_]=>match Cl s (s.ev m),toD (s.look (s.ev k)),P.underlying t,wt with
   |some (n,S),some kd,some (.map kt _),.ms S'=>some (.pr (aHw P kt S kd S'),.tup [],[.chg n (.mapS S')])
   |_,_,_,_=>none
  |_,_,_=>none
 |_=>none
theorem EF{P:Program}{s:St}{h:Hw}{w:World}{val:Val}{a:Act}(H:AS s h w val a){t kt et:TypeId}(ht:P.underlying t=some (.map kt et)){n:Nat}{S S':List (D×D)}{kd vd:D}{x:A}{um key v:Value}
 (hm:Cl s x=some (n,S)) (hu:RA h w val x um) (hk:RD h w kd key) (hv:RD h w vd v) (hp:Vs P kt S kd vd S'):
 ∃w',(Instr.mapUpdate t um key v).run P w=.ok () w'/\AS {s with B:=BJ s.B n (.mapS S')} h w' val a/\Nx s h w val {s with B:=BJ s.B n (.mapS S')} h w' val:=by
 obtain⟨hl,clk,es,b,l,hpm,rfl,hv0,hg,hr,q1,q2,q3,h0⟩:=Ki H hu hm
 obtain⟨clk',es',hput,hpm'⟩:=VM (clk:=clk) q3 hpm hp
 obtain⟨hK,hkk,⟨rfl,pre,st,v0,post,rfl,hne,rfl⟩|⟨rfl,rfl,hne⟩⟩:=hput
 obtain⟨lp,e,lq,rfl,e2,e3,e4,e5,e6,e7,hd,hik,hf⟩:=FC hr hK hkk hne hk
 obtain⟨f1,f2⟩:=Ei H hl rfl (bk':=.mapS S') rfl hv0 hg h0 (REs.set (s:=st) (kd:=kd) (vd:=vd) (e:={e with key:=key,val:=v}) e3 e4 hk hv e7) (Nk q1) (No q2) (Nf q3) (fun w' hm'=>⟨_,_,hm',hpm'⟩)
 refine⟨_,?_,f1,f2⟩
 have ha:=Ly lp lq e e2
 simp only[Instr.mapUpdate,Sem.run_bind,run_underlying ht,MapKept.run_getObj_map hg,hd,hf,Result.andThen_ok,ha,Option.map_some,Option.getD_some,e5,hik,JX lp lq e _ e2,MapKept.run_setObj_map _ hg]
 obtain⟨hd,hik,hf⟩:=FD hr hK hkk hne hk
 obtain⟨f1,f2⟩:=Ei H hl rfl (bk':=.mapS S') rfl hv0 hg h0 (REs.append hr (REs.one (s:=clk) (kd:=kd) (vd:=vd) (e:=⟨key,v,clk⟩) rfl hk hv)) (MK q1) (MQ q1 q2) (MF hne q3) (fun w' hm'=>⟨_,_,hm',hpm'⟩)
 refine⟨_,?_,f1,f2⟩
 simp only[Instr.mapUpdate,Sem.run_bind,run_underlying ht,MapKept.run_getObj_map hg,hd,hf,Result.andThen_ok,MapKept.run_setObj_map _ hg,JY]
theorem NL{P:Program}{o:Oper}{s:St}{wt:W}{Φ:Cn}{r:A}{es:List Ed}(he:JW P o s wt=some (Φ,r,es)):FV P o s Φ.ok r (s.edit es):=by
 intro hΦ h w val a H K Q hK;unfold JW at he;split at he;rename_i t ho;split at he;rename_i d hd;split at he;rename_i hc;simp only[ba,decide_eq_true_eq,Bool.not_eq_true']at hc;obtain⟨⟨c3,c4⟩,c5⟩:=hc;simp only[oe,pe]at he;obtain⟨rfl,rfl,rfl⟩:=he;have hvd:Ar val d (.map (some w.heap.size)) d=.map (some w.heap.size):=by simp[Ar]
 obtain⟨f1,f2⟩:=H.fresh c3 c4 c5 (.map #[] 0) (.map (some w.heap.size)) 0 (.mapS []) rfl rfl
  ⟨0,[],⟨w.heap.size,[],hvd,heap_alloc_new w _,rfl,by simp,by simp,by simp,by simp[ES]⟩,by simp⟩
 refine AQ (u:=.map (some w.heap.size)) (w':=w.alloc (.map #[] 0)) ?_ (hK _ _ _ _ (by simp only[RA];exact⟨hvd.symm,.inr ⟨_,rfl⟩⟩) f1.ins f2.ins);simp[execOp,ho,Instr.makeMap];cases he;cases he;rename_i t m k x ho;split at he;rename_i n S kd vd kt et S' hm hk hv ht;simp only[oe,pe]at he;obtain⟨rfl,rfl,rfl⟩:=he;obtain⟨w',hrun,f1,f2⟩:=EF H ht (um:=a.eval m) hm (H.ev m) (CA hk (H.look (H.ev k))) (CA hv (H.look (H.ev x))) hΦ;exact B2 (w':=w') (by simp[execOp,ho,hrun]) (hK h _ val undef (by simp[RA]) f1 f2);cases he;rename_i t m k x ho;split at he;rename_i n S kd vd kt et S' hm hk hv ht;simp only[oe,pe]at he;obtain⟨rfl,rfl,rfl⟩:=he;obtain⟨w',hrun,f1,f2⟩:=EF H ht (um:=a.eval m) hm (H.ev m) (CA hk (H.look (H.ev k))) (CA hv (H.look (H.ev x))) hΦ;exact B2 (w':=w') (by simp[execOp,ho,hrun]) (hK h _ val undef (by simp[RA]) f1 f2);cases he;rename_i c ho;obtain⟨callee,⟨args⟩,⟨tys⟩⟩:=c;simp only at he;split at he;rename_i m k t t2;split at he;rename_i n S kd kt et S' hm hk ht;simp only[oe,pe]at he;obtain⟨rfl,rfl,rfl⟩:=he;obtain⟨hl,clk,es,b,l,hpm,hum,hv0,hg,hr,q1,q2,q3,h0⟩:=Ki H (H.ev m) hm;have hkr:=CA hk (H.look (H.ev k));obtain⟨es',hdel,hpm'⟩:=UW q3 hpm hΦ;obtain⟨hKs,hkk,⟨pre,st,v0,post,rfl,hne,rfl⟩|⟨rfl,hne⟩⟩:=hdel;obtain⟨lp,e,lq,rfl,e2,e3,e4,e5,e6,e7,hd,hik,hf⟩:=FC hr hKs hkk hne hkr;have hsub:(pre++post).Sublist (pre++(st,kd,v0)::post):=List.Sublist.append (List.Sublist.refl _) (List.sublist_cons_self _ _);obtain⟨f1,f2⟩:=Ei H hl rfl (bk':=.mapS S') rfl hv0 hg h0 (REs.append e3 e7) (clk':=clk) (fun x hx=>q1 x (hsub.subset hx)) ((hsub.map _).nodup q2) ((hsub.map _).nodup q3) (fun w' hm'=>⟨_,_,hm',hpm'⟩);refine AQ (u:=.tuple #[]) (w':=_) ?_ (hK h _ val _ (by simp[RA,RAs]) f1 f2);simp[execOp,ho,resolve,invoke,builtin,Builtin.delete_,run_underlying ht,hum,MapKept.run_getObj_map hg,hd,hf,MapKept.run_setObj_map _ hg];have:=UE lp lq e e2;simp only[List.eraseIdxIfInBounds_toArray]at this;first|rw[this]|rw[<-e2,List.eraseIdx_append_of_length_le (Nat.le_refl _),Nat.sub_self];rfl
 obtain⟨hd,hik,hf⟩:=FD hr hKs hkk hne hkr;obtain⟨f1,f2⟩:=Ei H hl rfl (bk':=.mapS S') rfl hv0 hg h0 hr q1 q2 q3 (fun w' hm'=>⟨_,_,hm',hpm'⟩);refine AQ (u:=.tuple #[]) (w':=_) ?_ (hK h _ val _ (by simp[RA,RAs]) f1 f2);simp[execOp,ho,resolve,invoke,builtin,Builtin.delete_,run_underlying ht,hum,MapKept.run_getObj_map hg,hd,hf,MapKept.run_setObj_map _ hg];cases he;cases he;cases he
end Go.Ac
namespace Go.Ac
open Go.MapKept
theorem REs.mem'{h w}:∀{xs:List (Nat×D×D)} {l:List MapEntry},REs h w xs l->∀x∈xs,∃e∈l,e.born=x.1/\RD h w x.2.1 e.key/\RD h w x.2.2 e.val
 |[],_,_,x,hx=>by simp at hx
 |y::xs,_,⟨e0,l',a,b,c,d,r⟩,x,hx=>by
  subst a;rcases mc.1 hx with rfl|hx
  exact⟨e0,by simp,b,c,d⟩;obtain⟨e,he,q⟩:=REs.mem' r x hx;exact⟨e,by simp[he],q⟩
def aPi(clk clk':Nat)(es:List (Nat×D×D))(seen:List Nat)(k v:D):Prop:=clk=clk'/\∃sn st,seen=sn++[st]/\(st,k,v)∈es
def aOy(P:Program)(o:Oper)(s:St)(wt:W):Option (Cn×A×List Ed):=
 match o.op with
 | .range t x=>match Br s (s.ev x),P.underlying t,o.dst with
  |some (n,clk,_),some (.map _ _),some d=>if d<up&& !AR d s.E&& !Be d s.B then some (.t,.box d 0,[.add d (.mit n clk [])])else none
  |_,_,_=>none
 | .entry it=>match s.ev it,wt with
  | .box d 0,.en k v=>match lk s.B d with
   |some (.mit n clk seen)=>match lk s.B n with
    |some (.map clk' es)=>some (.pr (aPi clk clk' es seen k v),.tup [.d k,.d v],[])
    |_=>none
   |_=>none
  |_,_=>none
 |_=>none
theorem aG6(l:List Nat)(x:Nat):(⟨l⟩:Array Nat).push x=⟨l++[x]⟩:=by apply Array.ext';simp
theorem aGl{P:Program}{o:Oper}{s:St}{wt:W}{Φ:Cn}{r:A}{es:List Ed}(he:aOy P o s wt=some (Φ,r,es)):FV P o s Φ.ok r (s.edit es):=by
 intro hΦ h w val a H K Q hK;unfold aOy at he;split at he;rename_i t x ho;split at he;rename_i n clk es0 kt et d hm ht hd;split at he;rename_i hc;simp only[ba,decide_eq_true_eq,Bool.not_eq_true']at hc;obtain⟨⟨c3,c4⟩,c5⟩:=hc;simp only[oe,pe]at he;obtain⟨rfl,rfl,rfl⟩:=he;obtain⟨hl,b,l,hum,hv0,hg,hr,q1,q2,q3,h0⟩:=C1 H (H.ev x) hm;have hnd:n≠d:=fun e=>(Bd c5 _ (Aj hl)).1 e;have hvd:Ar val d (.pointer (some ⟨w.heap.size,0,none⟩)) d=.pointer (some ⟨w.heap.size,0,none⟩):=by simp[Ar]
 obtain⟨f1,f2⟩:=H.fresh c3 c4 c5 (.mapIter (some b) clk #[] clk) (.pointer (some ⟨w.heap.size,0,none⟩)) 0 (.mit n clk []) rfl rfl
  ⟨w.heap.size,b,hvd,by simp only[Ar,hnd,if_false];exact hv0,heap_alloc_new w _⟩
 refine AQ (u:=.pointer (some ⟨w.heap.size,0,none⟩)) (w':=w.alloc (.mapIter (some b) clk #[] clk)) ?_ (hK _ _ _ _ (by simp only[RA];exact⟨_,hvd,rfl⟩) f1.ins f2.ins);simp[execOp,ho,Instr.range,run_underlying ht,hum,MapKept.run_getObj_map hg];cases he;cases he;rename_i it ho;split at he;rename_i d k v hit;split at he;rename_i n clk seen hl;split at he;rename_i clk' es0 hl2;simp only[oe,pe]at he;obtain⟨rfl,rfl,rfl⟩:=he;obtain⟨rfl,sn,st,rfl,hmem⟩:=hΦ;obtain⟨r,b,e1,e2,e3⟩:=H.inv.rep _ (ml _ (Aj hl));obtain⟨b',l,g1,g2,g3,g4,g5,g6,g7⟩:=H.inv.rep _ (ml _ (Aj hl2));simp only at e1 e2 g1;have hb:b=b':=by rw[e2]at g1;cases g1;rfl
 subst hb;have hi:=H.ev it;rw[hit]at hi;simp only[RA]at hi;obtain⟨r',i1,i2⟩:=hi;have hr':r'=r:=by rw[e1]at i1;cases i1;rfl
 subst hr';obtain⟨e,he,f1,f2,f3⟩:=REs.mem' g3 _ hmem;simp only at f1;have hrun:=run_entry_at (P:=P) w r' b clk ⟨sn⟩ ⟨l⟩ clk e (by rw[aG6,f1];exact e3) g2 he (by rw[REs.born g3];exact g5);refine AQ (u:=.tuple #[e.key,e.val]) (w':=w) ?_ (hK h w val _ ?_ H (Nx.refl s h w val rfl));simp[execOp,ho,i2,hrun];simp only[RA,RAs];exact⟨[e.key,e.val],rfl,e.key,[e.val],rfl,f2,e.val,[],rfl,f3,rfl⟩;cases he;cases he;cases he;cases he
end Go.Ac
namespace Go.Ac

def fc(rd:Option Nat):Fence:={Fence.wide with round:=rd}
theorem Fr(rd:Option Nat):(fc rd).depth.isSome=true->1<=0:=by intro h;cases h

theorem IT{rd:Option Nat}{n:Nat}{P:Program}{f:FuncId}{args:Array Value}{w:World}{R:Ending->World->Prop}(h:Calls P f args w R):CallsIn (fc rd) n P f args w R:=by
 have h1:=(callsIn_wide (n:=n)).2 h;cases rd with
 |none=>exact h1
 |some l=>exact CallsIn.inRound l h1
theorem VQ{rd:Option Nat}{n:Nat}{P:Program}{row:String}{args:Array Value}{w:World}{R:Value->World->Prop}(h:Rows P row args w R):RowsIn (fc rd) n P row args w R:=
 fun c cs _=>let ⟨v,w',r,s⟩:=h c cs;⟨v,w',r,(StepsIn.of_steps s).mono fun m _=>fenced_wide P m⟩

def EQ:Op->Bool
 | .defer _=>false
 |_=>true
theorem En{o:Oper}(h:EQ o.op=true)(rd:Option Nat)(ρ:Operand->Value):o.semAt rd ρ=execOp ρ o:=by
 cases rd with
 |none=>rfl
 |some l=>
  unfold Oper.semAt
  cases ho:o.op<;>simp_all [EQ]

theorem CG{rd:Option Nat}{P:Program}{o:Oper}{a:Act}{w:World}{K:Act->World->Prop}{Q:Exit->Act->World->Prop}(hd:EQ o.op=true)(h:o.wp P a w K Q):o.wpIn (fc rd) 0 P a w K Q:=by
 refine⟨fun _ _=>trivial,?_⟩;rw[En hd];unfold Oper.wp at h;generalize (execOp a.eval o).run P w=r at h⊢;cases r with
 |ok x w'=>
  cases x<;>simp only[Oper.upon,Oper.uponIn]at h⊢ <;>first
   |exact h
   |exact⟨Fr rd,IT h⟩
   |exact⟨Fr rd,VQ h⟩
   |exact h.elim
 |halt x w'=>cases x<;>simp only[Oper.upon,Oper.uponIn]at h⊢ <;>exact h

def HK(ops:Array Oper)(s:St)(o:Oper):Option Bool:=
 match o.guard with
 |none=>some true
 |some (j,want)=>match (ops[j]?).bind (·.dst)with
  |some t=>match s.E[t]? with
   |some (.d (.v (.bool b)))=>some (b==want)
   |some (.tup [])=>some false
   |_=>none
  |none=>none
theorem CL{ops:Array Oper}{s:St}{o:Oper}{b:Bool}{h w val a}(he:HK ops s o=some b)(H:AS s h w val a):Region.wanted o (yielded ops a.tmps)=b:=by
 unfold HK at he;unfold Region.wanted;split at he;rename_i hg;simp only[oe]at he;rw[hg];exact he;rename_i j want hg;rw[hg];simp only;split at he;rename_i t ht;split at he;rename_i c hc;simp only[oe]at he;obtain⟨u,hu,hr⟩:=RAs.get H.e t _ hc;simp only[RA,RD]at hr;have hu':a.tmps[t]? =some u:=by simpa using hu
 simp only[yielded,ht,Option.bind_some,hu',hr.1];rw[<-he];cases c<;>cases want<;>rfl;rename_i hc;simp only[oe]at he;obtain⟨u,hu,hr⟩:=RAs.get H.e t _ hc;simp only[RA,RAs]at hr;obtain⟨us,e1,e2⟩:=hr;have hu':a.tmps[t]? =some u:=by simpa using hu
 simp only[yielded,ht,Option.bind_some,hu',e1,e2];rw[<-he];rfl;cases he;cases he

def MD(s:St)(x:A):Bool:=(G6 s x).isSome
def aPq:A->Bool
 | .ep _ _ _ _=>true
 |_=>false
def aCc(s:St)(x:A):Bool:=(Br s x).isSome
def J2(P:Program)(s:St)(o:Oper):Nat:=
 match o.op with
 | .alloc t=>if aO0 P t then 8 else 2
 | .makeSlice _ _ _=>8
 | .box _ _=>2
 | .store _ x _=>if aPq (s.ev x)then 9 else 3
 | .indexAddr _ x _=>if MD s (s.ev x)||aKk s (s.ev x)then 9 else 0
 | .slice _ x none none none=>if MD s (s.ev x)then 9 else 0
 | .move x=>if MD s (s.ev x)then 9 else 0
 | .binOp _ _ _ y _=>match s.ev y with
  | .nil=>11
  |_=>0
 | .buildSlice _ _ _=>5
 | .build _ _=>7
 | .load _ x=>match s.ev x with
  | .eptr _=>0
  | .ep _ _ _ _=>9
  |_=>1
 | .call c=>match c.callee with
  | .builtin .append=>4
  | .builtin .copy=>10
  | .builtin .len=>match c.args.toList with
   |[x]=>if MD s (s.ev x)||aKk s (s.ev x)then 9 else if aCc s (s.ev x)then 12 else 0
   |_=>0
  | .builtin .delete=>12
  | .builtin .clear=>12
  | .builtin _=>0
  |_=>6
 | .makeMap _ _=>12
 | .lookup _ _ _ _=>12
 | .mapUpdate _ _ _ _=>12
 | .insert _ _ _ _=>12
 | .mapEntry _ _ _=>12
 | .entryStore _ _ _ _=>12
 |_=>0
def Dv(P:Program)(o:Oper)(s:St)(wt:W):Nat->Option (Ob×A×List Ed)
 |0=>(Lv P o s.ev (fun x=>s.look (s.ev x)) wt).map fun p=>(.c p.1,p.2,[])
 |1=>(Og P o s wt).map fun p=>(.c p.1,p.2,[])
 |2=>match wt with
  | .frz=>(Oc o s).map fun r=>(.c .t,r,[])
  |_=>(aDj P o s).map fun p=>(.c .t,p.1,p.2)
 |3=>match wt with
  | .frz=>(E5 P o s).map fun es=>(.c .t,.any,es)
  |_=>(EX P o s).map fun es=>(.c .t,.any,es)
 |4=>match wt with
  | .rwl zs=>(Cv P o s zs).map fun p=>(.c p.1,p.2)
  |_=>(C9 P o s wt).map fun p=>(.c p.1,p.2)
 |5=>(Bi P o s (match wt with| .frz=>true|_=>false)).map fun p=>(.c p.1,p.2)
 |6=>match wt with
  | .lend _ _=>(IO P o s wt).map fun p=>(p.1,p.2,[])
  | .cx _ _ _ _ _=>IQ P o s wt
  |_=>(IP P o s wt).map fun p=>(p.1,p.2,[])
 |7=>(IN P o (fun x=>s.look (s.ev x)) (match wt with| .frz=>true|_=>false)).map fun r=>(.c .t,r,[])
 |8=>(FW P o s wt).map fun p=>(.c p.1,p.2)
 |9=>match IM P o s wt with
  |some p=>some (.c p.1,p.2)
  |none=>(Ol P o s wt).map fun p=>(.c p.1,p.2)
 |10=>(Du P o s wt).map fun p=>(.c p.1,p.2)
 |11=>(aHn P o s wt).map fun p=>(.c p.1,p.2)
 |12=>match wt with
  | .frz=>(JW P o s wt).map fun p=>(.c p.1,p.2)
  | .ms _=>(JW P o s wt).map fun p=>(.c p.1,p.2)
  |_=>(aDl P o s wt).map fun p=>(.c p.1,p.2)
 |_=>none
theorem Lu{P:Program}{o:Oper}{s:St}{es:List Ed}{wt:W}{L:Lp}{Φ:Ob}{r:A}:∀{k:Nat},Dv P o s wt k=some (Φ,r,es)->FV P o s (Φ.ok P L) r (s.edit es)
 |0,he=>by
  simp only[Dv,om,pe]at he;obtain⟨p,h,rfl,rfl,rfl⟩:=he;exact aG9 h
 |1,he=>by
  simp only[Dv,om,pe]at he;obtain⟨p,h,rfl,rfl,rfl⟩:=he;exact aBj h
 |2,he=>by
  simp only[Dv]at he;split at he;simp only[om,pe]at he;obtain⟨p,h,rfl,rfl,rfl⟩:=he;exact fun _=>aBg h trivial;simp only[om,pe]at he;obtain⟨p,h,rfl,rfl,rfl⟩:=he;exact aGh h
 |3,he=>by
  simp only[Dv]at he;split at he;simp only[om,pe]at he;obtain⟨p,h,rfl,rfl,rfl⟩:=he;exact On h;simp only[om,pe]at he;obtain⟨p,h,rfl,rfl,rfl⟩:=he;exact KN h
 |4,he=>by
  simp only[Dv]at he;split at he;simp only[om,pe]at he;obtain⟨p,h,rfl,e⟩:=he;exact Li (by rw[h];rw[<-e]);simp only[om,pe]at he;obtain⟨p,h,rfl,e⟩:=he;exact Oa (by rw[h];rw[<-e])
 |5,he=>by
  simp only[Dv,om,pe]at he;obtain⟨p,h,rfl,e⟩:=he;exact Hx (by rw[h];rw[<-e])
 |6,he=>by
  simp only[Dv]at he;split at he;simp only[om,pe]at he;obtain⟨p,h,rfl,rfl,rfl⟩:=he;exact T1 h;exact T3 he;simp only[om,pe]at he;obtain⟨p,h,rfl,rfl,rfl⟩:=he;exact T2 h
 |7,he=>by
  simp only[Dv,om,pe]at he;obtain⟨p,h,rfl,rfl,rfl⟩:=he;exact fun _=>T0 h trivial
 |8,he=>by
  simp only[Dv,om,pe]at he;obtain⟨p,h,rfl,e⟩:=he;exact Tz (by rw[h];rw[<-e])
 |9,he=>by
  simp only[Dv]at he;split at he;rename_i p h;simp only[oe,pe]at he;obtain⟨rfl,e⟩:=he;exact Ty (by rw[h];rw[<-e]);simp only[om,pe]at he;obtain⟨p,h,rfl,e⟩:=he;exact aBn (by rw[h];rw[<-e])
 |10,he=>by
  simp only[Dv,om,pe]at he;obtain⟨p,h,rfl,e⟩:=he;exact Lk (by rw[h];rw[<-e])
 |11,he=>by
  simp only[Dv,om,pe]at he;obtain⟨p,h,rfl,e⟩:=he;exact aGm (by rw[h];rw[<-e])
 |12,he=>by
  simp only[Dv]at he;split at he;simp only[om,pe]at he;obtain⟨p,h,rfl,e⟩:=he;exact NL (by rw[h];rw[<-e]);simp only[om,pe]at he;obtain⟨p,h,rfl,e⟩:=he;exact NL (by rw[h];rw[<-e]);simp only[om,pe]at he;obtain⟨p,h,rfl,e⟩:=he;exact aGk (by rw[h];rw[<-e])
 |k+13,he=>by simp only[Dv]at he;cases he
def Eb:List Ed->Option (Nat×TypeId×Nat×List D)
 |[]=>none
 |[.add d (.rw e k xs)]=>some (d,e,k,xs)
 |_::es=>Eb es
theorem HT(d:Nat)(b:Bk):∀B:Bx,lk (DG d b B) d=some b
 |[]=>by simp[DG,lk]
 |p::B=>by
  simp only[DG];split;simp[lk];rename_i h;have hne:p.1≠d:=fun e=>h (by rw[e];exact Nat.ble_eq_true_of_le (Nat.le_refl _));have:=HT d b B;unfold lk at this⊢;rw[List.find?_cons,show(p.1==d)=false by simpa using hne];exact this
theorem Kf{d e k}{xs:List D}:∀{es:List Ed} {B:Bx},Eb es=some (d,e,k,xs)->lk (es.foldl Aa B) d=some (.rw e k xs)
 |[],B,h=>by cases h
 |[.add d' b],B,h=>by
  cases b with
  |rw e' k' xs'=>
   simp only[Eb,oe,pe]at h
   obtain⟨rfl,rfl,rfl,rfl⟩:=h
   exact HT _ _ _
  |_=>simp only[Eb]at h;cases h
 |[.chg d' b],B,h=>by simp only[Eb]at h;cases h
 |x::y::es,B,h=>by
  have h':Eb (y::es)=some (d,e,k,xs):=by
   cases x with
   |add d' b=>cases b<;>simpa only[Eb]using h
   |chg d' b=>simpa only[Eb]using h
  exact Kf (es:=y::es) (B:=Aa B x) h'
def aGn(P:Program)(o:Oper)(s:St)(wt:W):Option (Ob×A×List Ed):=match wt with
 | .fzn m=>match Dv P o s .no (J2 P s o)with
  |some (Φ,r,[])=>match lk s.B m with
   |some (.rw e k xs)=>some (Φ,r,[.chg m (.row e k xs)])
   |_=>none
  |_=>none
 | .rwz zs=>match Dv P o s (.rwl zs) (J2 P s o)with
  |some (Φ,.row d,es)=>match Eb es with
   |some (d',e,k,xs)=>if Nat.beq d d' then some (Φ,.d (.sl xs),es++[.chg d (.row e k xs)])else none
   |_=>none
  |_=>none
 |wt=>Dv P o s wt (J2 P s o)
theorem UA{P:Program}{o:Oper}{s:St}{es:List Ed}{wt:W}{L:Lp}{Φ:Ob}{r:A}(he:aGn P o s wt=some (Φ,r,es)):FV P o s (Φ.ok P L) r (s.edit es):=by
 unfold aGn at he;split at he;rename_i m;split at he;rename_i Φ' r' h1;split at he;rename_i e k xs hl;simp only[oe,pe]at he;obtain⟨rfl,rfl,rfl⟩:=he;intro hΦ h w val a H K Q hK;refine Lu h1 hΦ h w val a H K Q fun h' w' val' u hr H' n'=>?_;have hl':lk (s.edit []).B m=some (.rw e k xs):=hl;obtain⟨h2,f1,f2⟩:=VV H' hl';exact hK h2 w' val' u (RA.stays f2.keep.stays _ _ _ hr) f1 (n'.trans f2);cases he;cases he;rename_i zs;split at he;rename_i Φ' d es' h1;split at he;rename_i d' e k xs hl;split at he;rename_i hdd;simp only[oe,pe]at he;obtain⟨rfl,rfl,rfl⟩:=he;have hd:=Nat.eq_of_beq_eq_true hdd;subst hd;intro hΦ h w val a H K Q hK;refine Lu h1 hΦ h w val a H K Q fun h' w' val' u hr H' n'=>?_;have hl':lk (s.edit es').B d=some (.rw e k xs):=Kf hl;obtain⟨h2,f1,f2⟩:=VV H' hl';have hr2:=f1.look (RA.stays f2.keep.stays _ _ _ hr);have hB:BJ (s.edit es').B d (.row e k xs)=(s.edit (es'++[.chg d (.row e k xs)])).B:=by simp only[St.edit,List.foldl_append,List.foldl_cons,List.foldl_nil,Aa]
 have hS:({s.edit es' with B:=BJ (s.edit es').B d (.row e k xs)}:St)=s.edit (es'++[.chg d (.row e k xs)]):=by rw[hB];rfl
 rw[hS]at f1 f2 hr2;have hlk:(s.edit (es'++[.chg d (.row e k xs)])).look (.row d)=.d (.sl xs):=by simp only[St.look];rw[<-hB,Fc hl']
 rw[hlk]at hr2;exact hK h2 w' val' u hr2 f1 (n'.trans f2);cases he;cases he;cases he;exact Lu he
def aop(P:Program)(o:Oper)(s:St)(wt:W):Option (Ob×A×St):=
 match aGn P o s wt with
 |some (Φ,r,es)=>some (Φ,r,s.edit es)
 |none=>KI P o s wt
theorem aKa{P:Program}{o:Oper}{s s':St}{wt:W}{L:Lp}{Φ:Ob}{r:A}(he:aop P o s wt=some (Φ,r,s')):FV P o s (Φ.ok P L) r s':=by unfold aop at he;split at he;rename_i h;simp only[oe,pe]at he;obtain⟨rfl,rfl,rfl⟩:=he;exact UA h;exact KJ he

def wOf(ws:List (Nat×W))(o:Oper):W:=
 match o.dst with
 |some d=>((ws.find? fun p=>p.1==d).map (·.2)).getD .no
 |none=>match o.op with
  | .store _ (.tmp t) _=>((ws.find? fun p=>p.1==t+10000).map (·.2)).getD .no
  | .mapUpdate _ (.tmp t) _ _=>((ws.find? fun p=>p.1==t+10000).map (·.2)).getD .no
  | .insert _ (.tmp t) _ _=>((ws.find? fun p=>p.1==t+10000).map (·.2)).getD .no
  | .entryStore _ _ (.tmp t) _=>((ws.find? fun p=>p.1==t+10000).map (·.2)).getD .no
  | .call c=>match c.args.toList with
   | .tmp t::_=>((ws.find? fun p=>p.1==t+10000).map (·.2)).getD .no
   |_=>.no
  |_=>.no

def aHk:A->Option Nat
 | .d (.v (.func (.yield l) fs cs))=>if fs.size==0&&cs.size==0 then some l else none
 |_=>none
theorem aC9{h w val}{a:A}{l:Nat}{u:Value}(he:aHk a=some l)(hr:RA h w val a u):u=.func (.yield l) #[] #[]:=by unfold aHk at he;split at he;rename_i l' fs cs;split at he;rename_i hb;simp only[oe]at he;subst he;simp only[ba,beq_iff_eq]at hb;simp only[RA,RD]at hr;rw[hr.1,Array.eq_empty_of_size_eq_zero hb.1,Array.eq_empty_of_size_eq_zero hb.2];cases he;cases he
def T4(o:Oper)(s:St)(wt:W):Option (Ob×A×St):=
 match o.op with
 | .call c=>match c.callee with
  | .value g=>match aHk (s.ev g),wt with
   |some l,.own _ r _ F=>if r.bare&&aK7 s.E&&PJ s.B then some (.both (.yld l (c.args.toList.map fun x=>s.look (s.ev x)) s.F r F) (.frame s.F F),r,{s with F:=F})else none
   |_,_=>none
  |_=>none
 |_=>none
theorem Inv.right{h w val}{B F:Bx}(I:Inv h w val (B++F)):Inv h w val F:=
 ⟨fun p hp=>I.rep p (mr _ hp),(List.nodup_append.1 (by rw[<-AJ];exact I.nms)).2.1,(List.nodup_append.1 (by rw[<-AN];exact I.bks)).2.1⟩
theorem T5{rd:Option Nat}{P:Program}{o:Oper}{s s':St}{wt:W}{L:Lp}{Φ:Ob}{r:A}(he:T4 o s wt=some (Φ,r,s'))(hd:EQ o.op=true)(hΦ:Φ.ok P L)
 {h w val a} (H:AS s h w val a) {K:Act->World->Prop} {Q:Exit->Act->World->Prop}
 (hK:∀h' w' val' u,RA h' w' val' r u->AS s' h' w' val' a->Nx s h w val s' h' w' val'->K (a.put o.dst u) w'):o.wpIn (fc rd) 0 P a w K Q:=by
 unfold T4 at he
 split at he
 rename_i c ho
 obtain⟨callee,args,argTypes⟩:=c
 simp only at he
 split at he
 rename_i g
 split at he
 rename_i l raw r' B F hg
 split at he
 rename_i hb
 simp only[oe,pe]at he
 obtain⟨rfl,rfl,rfl⟩:=he
 simp only[Ob.ok]at hΦ
 obtain⟨hc,hF⟩:=hΦ
 have e1:=aC9 hg (H.ev g)
 have hnF:AI F=AI s.F:=by
  rcases hF with e|e
  rw[e];exact e.1
 have hFar:Far F:=by
  rcases hF with e|e
  rw[e];exact H.far;exact e.2
 have hargs:RAs h w val (args.toList.map fun x=>s.look (s.ev x)) (args.toList.map a.eval):=EG (f:=fun x=>s.look (s.ev x)) (fun x=>H.look (H.ev x)) _
 obtain⟨fn,tmps,assign,body,hrun,hround⟩:=hc h w val _ (Inv.right H.inv) hargs
 have hexec:(execOp a.eval o).run P w=.ok (.round l fn tmps assign body) w:=by
  have harr:args.map a.eval=⟨args.toList.map a.eval⟩:=by apply Array.ext';simp
  simp only[execOp,ho,resolve,e1,Deferred.ofValue,Sem.run_bind,Sem.run_pure,Result.andThen_ok,invoke];simpa[harr]using hrun
 refine⟨fun _ _=>trivial,?_⟩
 rw[En hd,hexec,Oper.uponIn_round]
 refine⟨Fr rd,?_⟩
 have hround':RoundIn (fc rd) (0-1) P l fn tmps assign body w _:=hround
 refine hround'.mono fun e w' hh=>?_
 obtain⟨h',val',u,rfl,hI,hr,hk,hv,hnew⟩:=hh
 simp only[ba]at hb
 have hvF:∀n,(n<up\/n=1000000)->val' n=val n:=fun n hn=>hv n fun hin=>by obtain⟨p,hp,e⟩:=mm.1 hin;exact(hFar n hn p hp).1 e
 have hvB:∀p∈s.B,∀n,n=p.1\/p.2.has n=true->val' n=val n:=fun p hp n hn=>hvF n (.inl (by
  obtain⟨c1,c2⟩:=Jm hb.2 hp;rcases hn with rfl|hn
  exact c1;exact c2 n hn))
 have hbB:AV val' s.B=AV val s.B:=A6 fun n hn=>by obtain⟨p,hp,rfl⟩:=mm.1 hn;exact hvB p hp _ (.inl rfl)
 have hkM:BS (AV val s.all) h w h' w':=hk.mono' fun x hx=>.inl (by show x∈AV val (s.B++s.F);rw[AN];exact mr _ hx)
 have hall:=H.inv
 have hbks:=hall.bks
 have hnms:=hall.nms
 unfold St.all at hbks hnms
 rw[AN]at hbks
 rw[AJ]at hnms
 obtain⟨b1,b2,b3⟩:=List.nodup_append.1 hbks
 obtain⟨m1,m2,m3⟩:=List.nodup_append.1 hnms
 have hlt:∀g∈AV val s.B,g<w.heap.size:=fun g hg=>hall.blk_lt g (by unfold St.all;rw[AN];exact ml _ hg)
 refine hK h' w' val' u hr ⟨RAs.congr _ _ (fun n hn=>hvF n (.inl (Ux hb.1.2 n hn))) (RAs.stays hk.stays _ _ _ H.e),⟨fun p hp=>?_,?_,?_⟩,hFar,H.defs.keep H.inv hkM (fun b hb=>hb) (hvF bn (.inr rfl))⟩ ⟨hkM,fun n hn=>hvF n (.inr hn),fun b hb'=>?_⟩
 rcases ma.1 hp with hp|hp
 refine RB.congr (hvB p hp _ (.inl rfl)) (fun m hm=>hvB p hp m (.inr hm)) (RB.stays hk.stays (fun g hg=>?_) (hall.rep p (ml _ hp)))
 have hgB:g∈AV val s.B:=Inv.blk_mem hp hg
 exact hk.far g (hlt g hgB) fun hgF=>b3 g hgB g hgF rfl
 exact hI.rep p hp
 show(AI (s.B++F)).Nodup
 rw[AJ,hnF]
 exact List.nodup_append.2 ⟨m1,m2,m3⟩
 show(AV val' (s.B++F)).Nodup
 rw[AN,hbB]
 refine List.nodup_append.2 ⟨b1,hI.bks,fun x hx y hy e=>?_⟩
 subst e
 rcases hnew x hy with h1|h1
 exact b3 x hx x h1 rfl
 have:=hlt x hx
 omega
 have hb1:b∈AV val' (s.B++F):=hb'
 rw[AN,hbB]at hb1
 show b∈AV val (s.B++s.F)\/_
 rw[AN]
 rcases ma.1 hb1 with h1|h1
 exact .inl (ml _ h1)
 rcases hnew b h1 with h2|h2
 exact .inl (mr _ h2)
 exact .inr h2
 cases he
 cases he
 cases he
 cases he

def aBo(P:Program)(ops:Array Oper)(ws:List (Nat×W))(s:St)(o:Oper):Option (Ob×St):=
 if EQ o.op then
  match HK ops s o with
  |some true=>match aop P o s (wOf ws o)with
   |some (Φ,r,s')=>some (Φ,s'.put o.dst r)
   |none=>match T4 o s (wOf ws o)with
    |some (Φ,r,s')=>some (Φ,s'.put o.dst r)
    |none=>match UF P o s (wOf ws o)with
     |some (Φ,r,es)=>some (.c Φ,(s.edit es).put o.dst r)
     |none=>match aOy P o s (wOf ws o)with
      |some (Φ,r,es)=>some (.c Φ,(s.edit es).put o.dst r)
      |none=>none
  |some false=>some (.c .t,s.put o.dst (.tup []))
  |none=>none
 else none

theorem Iv{h w val}:RA h w val (.tup []) undef:=by simp only[RA,RAs];exact⟨[],rfl,rfl⟩
theorem aHa(s:St)(d:Option Tmp)(v:A):(s.put d v).all=s.all:=by cases d<;>rfl
theorem Nx.put{s s':St}{h w val h' w' val'}(n:Nx s h w val s' h' w' val')(d:Option Tmp)(v:A):Nx s h w val (s'.put d v) h' w' val':=
 ⟨n.keep,n.vals,by rw[aHa];exact n.new⟩

theorem JZ{rd:Option Nat}{P:Program}{ops:Array Oper}{ws:List (Nat×W)}{s s':St}{o:Oper}{L:Lp}{Φ:Ob}(he:aBo P ops ws s o=some (Φ,s'))(hΦ:Φ.ok P L)
 {h w val a} (H:AS s h w val a) {i:Nat} (hi:ops[i]? =some o) {K:Act->World->Prop} {Q:Exit->Act->World->Prop}
 (hK:∀h' w' val' a',AS s' h' w' val' a'->Nx s h w val s' h' w' val'->K a' w'):wpOpIn (fc rd) 0 P ops Q i K a w:=by
 unfold aBo at he
 split at he
 rename_i hnd
 split at he
 rename_i hg
 split at he
 rename_i Φ' r s1 ho
 simp only[oe,pe]at he
 obtain⟨rfl,rfl⟩:=he
 unfold wpOpIn
 rw[hi]
 simp only[CL hg H,if_true]
 exact CG hnd (aKa ho hΦ h w val a H K Q fun h' w' val' u hr H' hn=>hK h' w' val' _ (H'.put o.dst hr) (hn.put _ _))
 split at he
 rename_i Φ' r s1 ho
 simp only[oe,pe]at he
 obtain⟨rfl,rfl⟩:=he
 unfold wpOpIn
 rw[hi]
 simp only[CL hg H,if_true]
 exact T5 ho hnd hΦ H fun h' w' val' u hr H' hn=>hK h' w' val' _ (H'.put o.dst hr) (hn.put _ _)
 split at he
 rename_i Φ' r es ho
 simp only[oe,pe]at he
 obtain⟨rfl,rfl⟩:=he
 unfold wpOpIn
 rw[hi]
 simp only[CL hg H,if_true]
 exact CG hnd (UG ho hΦ h w val a H K Q fun h' w' val' u hr H' hn=>hK h' w' val' _ (H'.put o.dst hr) (hn.put _ _))
 split at he
 rename_i Φ' r es ho
 simp only[oe,pe]at he
 obtain⟨rfl,rfl⟩:=he
 unfold wpOpIn
 rw[hi]
 simp only[CL hg H,if_true]
 exact CG hnd (aGl ho hΦ h w val a H K Q fun h' w' val' u hr H' hn=>hK h' w' val' _ (H'.put o.dst hr) (hn.put _ _))
 cases he
 rename_i hg
 simp only[oe,pe]at he
 obtain⟨rfl,rfl⟩:=he
 unfold wpOpIn
 rw[hi]
 simp only[CL hg H,Bool.false_eq_true,if_false]
 exact⟨fun _ _=>trivial,hK h w val _ (H.put o.dst Iv) ((Nx.refl s h w val rfl).put _ _)⟩
 cases he
 cases he

theorem O4(o:Op):El o=EQ o:=by cases o<;>rfl
theorem Lt{rd:Option Nat}{P:Program}{ops:Array Oper}{s:St}{o o2:Oper}{Φ:Cn}{es:List Ed}{wt:W}(he:NJ P s o o2 wt=some (Φ,es))(hΦ:Φ.ok){h w val a}(H:AS s h w val a){i:Nat}(hi:ops[i]? =some o)(hi2:ops[i+1]? =some o2)
 {K:Act->World->Prop} {Q:Exit->Act->World->Prop}
 (hK:∀h' w' val' a',AS (((s.edit es).put o.dst .any).put o2.dst .any) h' w' val' a'->Nx s h w val (((s.edit es).put o.dst .any).put o2.dst .any) h' w' val'->K a' w'):
 wpOpIn (fc rd) 0 P ops Q i (fun a w=>wpOpIn (fc rd) 0 P ops Q (i+1) K a w) a w:=by
 obtain⟨d,u,w',hd,g1,g2,n1,n2,r1,r2,H2,N2⟩:=T6 he hΦ H
 rw[O4]at n1 n2
 unfold wpOpIn
 rw[hi,hi2]
 have w1:Region.wanted o (yielded ops a.tmps)=true:=by unfold Region.wanted;rw[g1]
 simp only[w1,if_true]
 refine CG n1 (AQ r1 ?_)
 have w2:Region.wanted o2 (yielded ops (a.put o.dst u).tmps)=true:=by unfold Region.wanted;rw[g2]
 simp only[w2,if_true]
 rw[hd]
 refine CG n2 (AQ r2 ?_)
 refine hK h w' val _ ?_ ?_
 rw[hd]
 exact(H2.put (some d) (by simp[RA])).put o2.dst (by simp[RA])
 exact(N2.put _ _).put _ _
def aDn(P:Program)(ops:Array Oper)(ws:List (Nat×W)):List Oper->St->Option (Ob×St)
 |[],s=>some (.c .t,s)
 |o::l,s=>match aBo P ops ws s o with
  |some (Φ,s1)=>match aDn P ops ws l s1 with
   |some (Ψ,s2)=>some (Φ.and Ψ,s2)
   |none=>none
  |none=>match l with
   |[]=>none
   |o2::l2=>match NJ P s o o2 (wOf ws o)with
    |some (Φ,es)=>match aDn P ops ws l2 (((s.edit es).put o.dst .any).put o2.dst .any)with
     |some (Ψ,s2)=>some ((Ob.c Φ).and Ψ,s2)
     |none=>none
    |none=>none

theorem Lz{rd:Option Nat}{L:Lp}{P:Program}{ops:Array Oper}{ws:List (Nat×W)}{Q:Exit->Act->World->Prop}:∀(l:List Oper) (k:Nat) (s s':St) (Φ:Ob),(∀j,l[j]? =ops[k+j]?)->aDn P ops ws l s=some (Φ,s')->Φ.ok P L->
 ∀h w val a,AS s h w val a->(∀h' w' val' a',AS s' h' w' val' a'->Nx s h w val s' h' w' val'->Q .normal a' w')->wpOpsIn (fc rd) 0 P ops Q (List.range' k l.length) a w
 |[],k,s,s',Φ,_,he,_,h,w,val,a,H,hQ=>by
  simp only[aDn,oe,pe]at he;obtain⟨_,rfl⟩:=he;simp only[List.length_nil,List.range'_zero,wpOpsIn];exact hQ h w val a H (Nx.refl s h w val rfl)
 |[o],k,s,s',Φ,hl,he,hΦ,h,w,val,a,H,hQ=>by
  simp only[aDn]at he;split at he;rename_i Φ1 s1 h1;simp only[oe,pe]at he;obtain⟨rfl,rfl⟩:=he;obtain⟨hΦ1,_⟩:=Ob.and_ok hΦ;have hk:ops[k]? =some o:=by simpa using (hl 0).symm
  simp only[List.length_cons,List.range'_succ];rw[wpOpsIn_cons];refine JZ h1 hΦ1 H hk fun h' w' val' a' H' hn=>?_;simp only[List.length_nil,List.range'_zero,wpOpsIn];exact hQ h' w' val' a' H' hn;cases he
 |o::o2::l2,k,s,s',Φ,hl,he,hΦ,h,w,val,a,H,hQ=>by
  rw[aDn]at he;have hk:ops[k]? =some o:=by simpa using (hl 0).symm
  split at he;rename_i Φ1 s1 h1;split at he;rename_i Ψ s2 h2;simp only[oe,pe]at he;obtain⟨rfl,rfl⟩:=he;obtain⟨hΦ1,hΨ⟩:=Ob.and_ok hΦ;rw[List.length_cons,List.range'_succ,wpOpsIn_cons];refine JZ h1 hΦ1 H hk fun h' w' val' a' H' hn=>?_;exact Lz (o2::l2) (k+1) s1 s2 Ψ (fun j=>by have:=hl (j+1);simpa[Nat.add_assoc,Nat.add_comm 1 j]using this) h2 hΨ h' w' val' a' H' fun h2' w2 val2 a2 H2 hn2=>hQ h2' w2 val2 a2 H2 (hn.trans hn2);cases he;split at he;rename_i Φ1 es h1;split at he;rename_i Ψ s2 h2;simp only[oe,pe]at he;obtain⟨rfl,rfl⟩:=he;obtain⟨hΦ1,hΨ⟩:=Ob.and_ok hΦ;have hk2:ops[k+1]? =some o2:=by simpa using (hl 1).symm
  rw[List.length_cons,List.range'_succ,wpOpsIn_cons,List.length_cons,List.range'_succ];have e:(fun a w=>wpOpsIn (fc rd) 0 P ops Q ((k+1)::List.range' (k+1+1) l2.length) a w)=fun a w=>wpOpIn (fc rd) 0 P ops Q (k+1) (fun a w=>wpOpsIn (fc rd) 0 P ops Q (List.range' (k+1+1) l2.length) a w) a w:=by funext a w;rw[wpOpsIn_cons]
  have:=Lt (rd:=rd) (Q:=Q) h1 hΦ1 H hk hk2 (K:=fun a w=>wpOpsIn (fc rd) 0 P ops Q (List.range' (k+1+1) l2.length) a w) fun h' w' val' a' H' hn=>
   Lz l2 (k+1+1) _ s2 Ψ (fun j=>by have:=hl (j+2);simpa[Nat.add_assoc,Nat.add_comm 1 j,Nat.add_comm 2 j]using this) h2 hΨ h' w' val' a' H' fun h2' w2 val2 a2 H2 hn2=>hQ h2' w2 val2 a2 H2 (hn.trans hn2)
  rw[<-e]at this;exact this;cases he;cases he
end Go.Ac
namespace Go.Ac

def fresh(d:Nat)(s:St):Bool:=decide (d<up)&& !AR d s.E&& !Be d s.B

def xns:W->List Nat
 | .cx _ ρ0 _ _ _=>ρ0.map (·.2)
 | .lend ns _=>ns
 | .fzn m=> [m]
 |_=> []
def nns:W->List Nat
 | .cx _ _ ρ1 _ _=>ρ1.map (·.2)
 |_=> []
structure Er(o:Oper)(s s':St):Prop where
 ev:∀x∈o.op.operands,s'.ev x=s.ev x
 bx:∀x∈o.op.operands,∀n,(s.ev x).has n=true->lk s'.B n=lk s.B n

theorem Er.look{o:Oper}{s s':St}(h:Er o s s'):∀x∈o.op.operands,s'.look (s'.ev x)=s.look (s.ev x):=by
 intro x hx;rw[h.ev x hx];have hb:=h.bx x hx;cases hv:s.ev x with
 |row n=>rw[hv]at hb;simp only[St.look,hb n (by simp[A.has])]
 |box n off=>rw[hv]at hb;cases off<;>simp only[St.look,hb n (by simp[A.has])]
 |_=>simp only[St.look]

theorem Kh{s s':St}{a:A}(hb:∀n,a.has n=true->lk s'.B n=lk s.B n):s'.look a=s.look a:=by
 cases a with
 |row n=>simp only[St.look,hb n (by simp[A.has])]
 |box n off=>cases off<;>simp only[St.look,hb n (by simp[A.has])]
 |_=>simp only[St.look]
theorem Kb{n:Nat}:∀{cs:List A} {c:A},c∈cs->c.has n=true->AR n cs=true
 |c::cs,x,hm,hn=>by
  simp only[AR,Bool.or_eq_true];rcases mc.1 hm with rfl|hm
  exact .inl hn;exact .inr (Kb hm hn)
theorem Er.deep{o:Oper}{s s':St}(h:Er o s s'):∀x∈o.op.operands,s'.deep (s'.ev x)=s.deep (s.ev x):=by intro x hx;rw[h.ev x hx];have hb:=h.bx x hx;generalize s.ev x=a at hb;unfold St.deep;split;rename_i cs;congr 1;exact List.map_congr_left fun c hc=>Kh fun n hn=>hb n (by simp only[A.has];exact Kb hc hn);exact Kh hb
theorem Oj{P:Program}{o:Oper}{ev ev' rd rd':Operand->A}{wt:W}(he:∀x∈o.op.operands,ev' x=ev x)(hr:∀x∈o.op.operands,rd' x=rd x):Lv P o ev' rd' wt=Lv P o ev rd wt:=by
 unfold Lv;cases ho:o.op<;>try rfl
 all_goals (rw[ho]at he hr;simp only[Op.operands]at he hr)
 case call c=>
  obtain⟨callee,args,tys⟩:=c
  have he':∀x∈args.toList,ev' x=ev x:=fun x hx=>he x (by simp only[Call.operands,Array.mem_append];exact .inr (Array.mem_toList_iff.1 hx))
  have hr':∀x∈args.toList,rd' x=rd x:=fun x hx=>hr x (by simp only[Call.operands,Array.mem_append];exact .inr (Array.mem_toList_iff.1 hx))
  revert he' hr'
  simp only
  generalize args.toList=l
  intro he' hr'
  split<;>first|rfl|(simp only[mc,List.not_mem_nil,or_false,forall_eq_or_imp,forall_eq]at he' hr';simp[he',hr'])
 case slice t x l h m=>
  have h1:ev' x=ev x:=he x (by simp)
  have h2:rd' x=rd x:=hr x (by simp)
  have h3:l.map ev'=l.map ev:=by
   cases l with
   |none=>rfl
   |some y=>simp only[Option.map_some];rw[he y (by simp)]
  have h4:h.map ev'=h.map ev:=by
   cases h with
   |none=>rfl
   |some y=>simp only[Option.map_some];rw[he y (by simp)]
  cases m<;>simp only[h2,h3,h4]
 case makeFunc fn first captured=>
  have h1:first.toList.map rd'=first.toList.map rd:=List.map_congr_left fun x hx=>hr x (by simp only[Array.mem_append];exact .inl (Array.mem_toList_iff.1 hx))
  have h2:captured.toList.map rd'=captured.toList.map rd:=List.map_congr_left fun x hx=>hr x (by simp only[Array.mem_append];exact .inr (Array.mem_toList_iff.1 hx))
  simp only[h1,h2]
 all_goals simp_all

theorem Oh{P:Program}{o:Oper}{s s':St}{wt:W}(h:Er o s s'):Og P o s' wt=Og P o s wt:=by
 unfold Og;cases ho:o.op<;>try rfl
 rename_i t x;have h1:=h.ev x (by rw[ho];simp[Op.operands]);have h2:=h.bx x (by rw[ho];simp[Op.operands]);simp only[h1];cases hv:s.ev x<;>simp only;rename_i n off;rw[hv]at h2;rw[h2 n (by simp[A.has])]
theorem G5{P:Program}{o:Oper}{s s':St}(h:Er o s s'):EX P o s'=EX P o s:=by
 unfold EX;cases ho:o.op<;>try rfl
 rename_i t x y;have h1:=h.ev x (by rw[ho];simp[Op.operands]);have h2:=h.bx x (by rw[ho];simp[Op.operands]);have h3:=h.ev y (by rw[ho];simp[Op.operands]);simp only[h1,h3];cases hv:s.ev x<;>simp only;rename_i n off;rw[hv]at h2;rw[h2 n (by simp[A.has])]
theorem BN{d:Nat}{s:St}(h:fresh d s=true):d<up/\AR d s.E=false/\Be d s.B=false:=by simp only[fresh,ba,decide_eq_true_eq,Bool.not_eq_true']at h;exact⟨h.1.1,h.1.2,h.2⟩
theorem Tx{P:Program}{o:Oper}{s s':St}{z:A×List Ed}(h:Er o s s')(hf:∀d,o.dst=some d->fresh d s'=true)(he:aDj P o s=some z):aDj P o s'=some z:=by
 unfold aDj at he⊢;split at he;cases he;rename_i d hd;obtain⟨f1,f2,f3⟩:=BN (hf d hd);split at he;simp only[f1,f2,f3,decide_true,Bool.not_false,Bool.and_self,if_true];cases ho:o.op<;>simp only[ho]at he⊢ <;>try (cases he;done)
 exact he;rename_i t x;rw[h.ev x (by rw[ho];simp[Op.operands])];exact he;cases he
theorem Ky{s s':St}:∀{l:List Operand},(∀x∈l,s'.deep (s'.ev x)=s.deep (s.ev x))->Vo s' l=Vo s l
 |[],_=>rfl
 |x::l,h=>by
  simp only[Vo];rw[h x (by simp),Ky fun y hy=>h y (by simp[hy])]
theorem Fi{P:Program}{o:Oper}{s s':St}{b:Bool}{z:Cn×A×List Ed}(h:Er o s s')(hf:∀d,o.dst=some d->fresh d s'=true)(he:Bi P o s b=some z):Bi P o s' b=some z:=by
 unfold Bi at he⊢;split at he;rename_i d t len parts hd ho;obtain⟨f1,f2,f3⟩:=BN (hf d hd);skip;split at he;split at he;split at he;rename_i e he1 i hi hc;simp only[ba,decide_eq_true_eq,Bool.not_eq_true']at hc;have e1:Vo s' (parts.toList.map (·.2))=Vo s (parts.toList.map (·.2)):=Ky fun x hx=>h.deep x (by rw[ho];simpa[Op.operands]using hx)
 simp only[f1,f2,f3,hc.1.1.1.1.1,hc.1.1.1.1.2,hc.1.1.1.2,decide_true,Bool.not_false,Bool.and_self,if_true,e1];exact he;cases he;cases he;cases he;cases he
theorem KH{P:Program}{o:Oper}{s s':St}{wt:W}{z:Cn×A×List Ed}(h:Er o s s')(hf:∀d,o.dst=some d->fresh d s'=true)(he:C9 P o s wt=some z):C9 P o s' wt=some z:=by
 unfold C9 at he⊢;cases hd:o.dst with
 |none=>rw[hd]at he;simp only at he;cases he
 |some d=>
  obtain⟨f1,f2,f3⟩:=BN (hf d hd)
  rw[hd]at he
  cases ho:o.op<;>rw[ho]at he<;>simp only at he⊢ <;>try (cases he;done)
  rename_i c
  obtain⟨callee,args,tys⟩:=c
  have hargs:∀x∈args.toList,x∈o.op.operands:=fun x hx=>by rw[ho];simp only[Op.operands,Call.operands,Array.mem_append];exact .inr (Array.mem_toList_iff.1 hx)
  simp only at he⊢
  split at he
  rename_i x y t t' ha ht
  rw[ha]at hargs
  have h1:=h.ev x (hargs x (by simp))
  have h2:=h.bx x (hargs x (by simp))
  have h3:=h.look y (hargs y (by simp))
  simp only[h1,h3]
  split at he
  split at he
  rename_i e ys he1 he2
  split at he
  rename_i i hi
  split at he
  rename_i hc
  rw[if_pos (by assumption)]
  skip
  rw[if_pos hc]
  split at he
  rename_i hx
  skip
  simp only[f1,f2,f3,decide_true,Bool.not_false,Bool.and_self,if_true]
  split at he
  exact he
  cases he
  rename_i n hx
  rw[hx]at h2
  skip
  simp only[h2 n (by simp[A.has])]
  split at he
  rename_i e' k xs hl
  split at he
  rename_i hcc
  skip
  rw[if_pos ⟨hcc.1,hcc.2.1,f1,f2,f3⟩]
  exact he
  cases he
  cases he
  cases he
  cases he
  cases he
  cases he
  cases he
  cases he
theorem Lr{P:Program}{o:Oper}{s s':St}{wt:W}(h:Er o s s'):IP P o s' wt=IP P o s wt:=by
 unfold IP;cases ho:o.op<;>try rfl
 rename_i c;obtain⟨callee,args,tys⟩:=c;cases callee<;>try rfl
 rename_i g;have h1:=h.ev g (by rw[ho];simp[Op.operands,Call.operands]);have h2:args.toList.map (fun x=>s'.look (s'.ev x))=args.toList.map (fun x=>s.look (s.ev x)):=List.map_congr_left fun x hx=>h.look x (by rw[ho];simp only[Op.operands,Call.operands,Array.mem_append];exact .inr (Array.mem_toList_iff.1 hx))
 simp only[h1,h2]
theorem Fb{s s':St}{ns:List Nat}(h:∀n∈ns,lk s'.B n=lk s.B n)(n:Nat):EP s' ns n=EP s ns n:=by unfold EP;cases hn:Ax n ns;rfl;simp only[if_true];rw[h n (Ao.1 hn)]
theorem If{s s':St}{ns:List Nat}{bx bx':Nat->Option D}(h:∀n∈ns,lk s'.B n=lk s.B n)(hb:∀n,bx' n=bx n):∀(cs:List A),(∀n,AR n cs=true->n∈ns)->DD s' ns bx' cs=DD s ns bx cs
 |[],_=>rfl
 |c::cs,hc=>by
  have ih:=If h hb cs fun n hn=>hc n (by simp[AR,hn]);cases c with
  |row n=>
   have hn:n∈ns:=hc n (by simp[AR,A.has])
   simp only[DD,Fb h,ih,St.look,h n hn]
  |box n off=>simp only[DD,hb,ih]
  |d x=>simp only[DD,ih]
  |nil=>simp only[DD,ih]
  |eptr x=>simp only[DD,ih]
  |clo f a b=>
   cases a with
   |nil=>cases b<;>simp only[DD,ih]
   |cons _ _=>simp only[DD]
  |_=>simp only[DD]
def Dg(s:St)(ns:List Nat):Bool:=BH (fun n=>match lk s.B n with
 |some (.cells cs)=>Ij cs ns
 |_=>true) ns
theorem VG{as':List A}{l:List Nat}(h:Ij as' l=true)(n:Nat)(hn:AR n as'=true):n∈l:=by unfold Ij at h;split at h;rename_i x hx;exact Ao.1 (Av h n (Cb as' hx n hn));cases h
theorem Ie{s s':St}{ns:List Nat}(h:∀n∈ns,lk s'.B n=lk s.B n)(hc:Dg s ns=true):∀(k n:Nat),Jj s' ns k n=Jj s ns k n
 |0,_=>rfl
 |k+1,n=>by
  simp only[Jj];cases hn:Ax n ns;rfl;simp only[if_true];have hm:=Ao.1 hn;rw[h n hm];cases hl:lk s.B n with
  |none=>rfl
  |some b=>
   cases b with
   |cells cs=>
    simp only
    have:=Av hc n hm
    simp only[hl]at this
    exact If h (fun m=>by rw[Ie h hc k m]) cs (VG this)
   |_=>rfl
mutual
theorem O3{s s':St}{ns:List Nat}(h:∀n∈ns,lk s'.B n=lk s.B n)(hc:Dg s ns=true):∀a:A,B3 s' ns a=B3 s ns a
 | .row n=>by simp only[B3,Fb h]
 | .box n off=>by simp only[B3,Ie h hc]
 | .clo f a b=>by simp only[B3,DU h hc a,DU h hc b]
 | .d _=>by simp only[B3]
 | .bsl _ _ _=>by simp only[B3]
 | .ep _ _ _ _=>by simp only[B3]
 | .ub=>by simp only[B3]
 | .eptr _=>by simp only[B3]
 | .agg _=>by simp only[B3]
 | .tup _=>by simp only[B3]
 | .opq _=>by simp only[B3]
 | .nil=>by simp only[B3]
 | .any=>by simp only[B3]
theorem DU{s s':St}{ns:List Nat}(h:∀n∈ns,lk s'.B n=lk s.B n)(hc:Dg s ns=true):∀as':List A,DK s' ns as'=DK s ns as'
 |[]=>rfl
 |a::as'=>by simp only[DK,O3 h hc a,DU h hc as']
end
theorem aC6{ρ0 ρ1:List (Nat×Nat)}{s s':St}{args:List A}{r:A}{X' raw:Bx}(hf:∀d∈ρ1.map (·.2),fresh d s'=true)(h:xOk ρ0 ρ1 s args r X' raw=true):xOk ρ0 ρ1 s' args r X' raw=true:=by
 simp only[xOk,ba]at h⊢;refine⟨h.1,?_⟩;have:∀l:List Nat,(∀d∈l,fresh d s'=true)->BH (fun n=>frs n s') l=true:=by
  intro l;induction l with
  |nil=>intro _;rfl
  |cons x l ih=>
   intro hl
   simp only[BH,ba]
   exact⟨hl x (.head _),ih fun d hd=>hl d (.tail _ hd)⟩
 exact this _ hf
theorem EC{o:Oper}{s s':St}(h:Er o s s'){callee:Operand}{args:Array Operand}{tys:Array TypeId}(ho:o.op=.call {callee:=.value callee,args,argTypes:=tys}):
 s'.ev callee=s.ev callee/\args.toList.map (fun x=>s'.look (s'.ev x))=args.toList.map (fun x=>s.look (s.ev x)):=
 ⟨h.ev callee (by rw[ho];simp[Op.operands,Call.operands]),List.map_congr_left fun x hx=>h.look x (by rw[ho];simp only[Op.operands,Call.operands,Array.mem_append];exact .inr (Array.mem_toList_iff.1 hx))⟩
theorem Lo{P:Program}{o:Oper}{s s':St}{wt:W}(h:Er o s s')(hx:∀n∈xns wt,lk s'.B n=lk s.B n)(hc:∀ns r,wt=.lend ns r->Dg s ns=true):IO P o s' wt=IO P o s wt:=by
 unfold IO;cases ho:o.op<;>try rfl
 rename_i c;obtain⟨callee,args,tys⟩:=c;cases callee<;>try rfl
 rename_i g;obtain⟨h1,h2⟩:=EC h ho;simp only[h1,h2];cases CH (s.ev g)with
 |none=>rfl
 |some p=>
  obtain⟨f,fs,cs⟩:=p
  cases wt<;>try rfl
  rename_i ns r
  have e:∀as',DK s' ns as'=DK s ns as':=DU (fun n hn=>hx n hn) (hc ns r rfl)
  simp only[e]
theorem Ls{P:Program}{o:Oper}{s s':St}{wt:W}{z:Ob×A×List Ed}(h:Er o s s')(hx:∀n∈xns wt,lk s'.B n=lk s.B n)(hf:∀d∈nns wt,fresh d s'=true)(he:IQ P o s wt=some z):IQ P o s' wt=some z:=by
 unfold IQ at he⊢;cases ho:o.op<;>rw[ho]at he<;>try (cases he;done)
 rename_i c;obtain⟨callee,args,tys⟩:=c;cases callee<;>try (cases he;done)
 rename_i g;obtain⟨h1,h2⟩:=EC h ho;have h3:∀bb:Bool,args.toList.map (fun x=>if bb=true then s'.ev x else s'.look (s'.ev x))=args.toList.map (fun x=>if bb=true then s.ev x else s.look (s.ev x)):=fun bb=>List.map_congr_left fun x hx=>by
  have hm:x∈o.op.operands:=by rw[ho];simp only[Op.operands,Call.operands,Array.mem_append];exact .inr (Array.mem_toList_iff.1 hx)
  rw[<-h.look x hm,h.ev x hm]
 simp only[h1]at he⊢;cases hg:CH (s.ev g)with
 |none=>rw[hg]at he;cases he
 |some p=>
  obtain⟨f,fs,cs⟩:=p
  rw[hg]at he
  cases wt<;>try (cases he;done)
  rename_i bb ρ0 ρ1 r X'
  simp only[h3 bb]at he⊢
  have e:Ef s'.B ρ0=Ef s.B ρ0:=Ih fun p hp=>hx p.2 (mm.2 ⟨p,hp,rfl⟩)
  rw[e]
  generalize args.toList.map (fun x=>if bb=true then s.ev x else s.look (s.ev x))=as' at he⊢
  split at he
  rename_i raw hraw
  split at he
  rename_i hb
  simp only[ba]at hb
  rw[if_pos (by simp only[ba];exact⟨hb.1,aC6 hf hb.2⟩)]
  exact he
  cases he
  cases he
theorem Ln{P:Program}{o:Oper}{s s':St}{b:Bool}(h:Er o s s'):IN P o (fun x=>s'.look (s'.ev x)) b=IN P o (fun x=>s.look (s.ev x)) b:=by
 unfold IN;cases ho:o.op<;>try rfl
 rename_i t parts;have h1:parts.toList.map (fun p=>(p.1,s'.look (s'.ev p.2)))=parts.toList.map (fun p=>(p.1,s.look (s.ev p.2))):=List.map_congr_left fun x hx=>by rw[h.look x.2 (by rw[ho];simp only[Op.operands,List.mem_toArray];exact mm.2 ⟨x,hx,rfl⟩)]
 simp only[h1]
theorem Dx{s s':St}{x:A}(hb:∀n,x.has n=true->lk s'.B n=lk s.B n):G6 s' x=G6 s x:=by
 unfold G6;cases x<;>try rfl
 rename_i n off;cases off<;>simp only[hb n (by simp[A.has])];rename_i n;simp only[hb n (by simp[A.has])]
theorem O1{s s':St}{x:A}(hb:∀n,x.has n=true->lk s'.B n=lk s.B n):MD s' x=MD s x:=by unfold MD;rw[Dx hb]
theorem Hg{s s':St}{x:A}(hb:∀n,x.has n=true->lk s'.B n=lk s.B n):Vn s' x=Vn s x:=by
 unfold Vn;cases x<;>try rfl
 rename_i n;simp only[hb n (by simp[A.has])]
theorem Ur{s s':St}{x:A}(hb:∀n,x.has n=true->lk s'.B n=lk s.B n):aKk s' x=aKk s x:=by unfold aKk;rw[Hg hb]
theorem Ii{s s':St}{x:A}(hb:∀n,x.has n=true->lk s'.B n=lk s.B n):Br s' x=Br s x:=by
 unfold Br;cases x<;>try rfl
 rename_i n;simp only[hb n (by simp[A.has])]
theorem O2{s s':St}{x:A}(hb:∀n,x.has n=true->lk s'.B n=lk s.B n):aCc s' x=aCc s x:=by unfold aCc;rw[Ii hb]
theorem PB{P:Program}{o:Oper}{s s':St}(h:Er o s s'):J2 P s' o=J2 P s o:=by
 have hev:=h.ev;have hbx:=fun x hx=>O1 (h.bx x hx);have hrw:=fun x hx=>Ur (h.bx x hx);have hmp:=fun x hx=>O2 (h.bx x hx);unfold J2;cases ho:o.op<;>rw[ho]at hev hbx hrw hmp<;>simp only[Op.operands]at hev hbx hrw hmp<;>try rfl
 case load t x=>simp only[hev x (by simp)]
 case store t x y=>simp only[hev x (by simp)]
 case move x=>simp only[hev x (by simp),hbx x (by simp)]
 case indexAddr t x i=>simp only[hev x (by simp),hbx x (by simp),hrw x (by simp)]
 case slice t x l hh m=>
  cases l<;>cases hh<;>cases m<;>simp only[hev x (by simp),hbx x (by simp)]
 case binOp op t x y yt=>simp only[hev y (by simp)]
 case call c=>
  obtain⟨callee,⟨args⟩,tys⟩:=c
  cases callee<;>try rfl
  rename_i b
  cases b<;>try rfl
  simp only[Call.operands]at hev hbx hrw hmp
  match args with
  |[]=>rfl
  |[x]=>simp only[hev x (by simp),hbx x (by simp),hrw x (by simp),hmp x (by simp)]
  |x::y::l=>rfl
theorem Lm{P:Program}{o:Oper}{s s':St}{wt:W}{z:Cn×A×List Ed}(h:Er o s s')(hf:∀d,o.dst=some d->fresh d s'=true)(he:FW P o s wt=some z):FW P o s' wt=some z:=by unfold FW at he⊢;split at he;rename_i d t hd ho;obtain⟨f1,f2,f3⟩:=BN (hf d hd);split at he;split at he;rename_i z hz hc;simp only[ba,decide_eq_true_eq,Bool.not_eq_true']at hc;simp only[hd,ho,f1,f2,f3,hc.1.1.1.1,hc.1.1.1.2,hz,decide_true,Bool.not_false,Bool.and_self,if_true];exact he;cases he;cases he;rename_i d t l c hd ho;obtain⟨f1,f2,f3⟩:=BN (hf d hd);have h1:=h.ev l (by rw[ho];simp[Op.operands]);have h2:=h.ev c (by rw[ho];simp[Op.operands]);simp only[hd,ho,h1,h2];split at he;split at he;split at he;split at he;rename_i hc;simp only[ba,decide_eq_true_eq,Bool.not_eq_true']at hc;obtain⟨⟨⟨⟨⟨⟨⟨c1,c2⟩,c3⟩,c4⟩,c5⟩,c6⟩,c7⟩,c8⟩:=hc;simp only[c1,c2,c3,c4,c5,f1,f2,f3,decide_true,Bool.not_false,Bool.and_self,if_true];exact he;cases he;cases he;cases he;cases he;cases he
theorem D3{o:Oper}{s s':St}(h:Er o s s'){x:Operand}(hx:x∈o.op.operands){n k i off:Nat}(he:s.ev x=.ep n k i off):lk s'.B n=lk s.B n:=
 h.bx x hx n (by rw[he];simp[A.has])
theorem Lj{P:Program}{o:Oper}{s s':St}{wt:W}(h:Er o s s'):IM P o s' wt=IM P o s wt:=by
 have hev:=h.ev;have hbx:=fun x hx=>Dx (h.bx x hx);unfold IM;cases ho:o.op<;>try rfl
 case indexAddr t x i=>
  rw[ho]at hev hbx;simp only[Op.operands]at hev hbx
  simp only[hev x (by simp),hev i (by simp),hbx x (by simp)]
 case move x=>
  rw[ho]at hev hbx;simp only[Op.operands]at hev hbx
  simp only[hev x (by simp),hbx x (by simp)]
 case slice t x l hh m=>
  rw[ho]at hev hbx;simp only[Op.operands]at hev hbx
  cases l<;>cases hh<;>cases m<;>simp only[hev x (by simp),hbx x (by simp)]
 case load t x=>
  have h1:=h.ev x (by rw[ho];simp[Op.operands])
  simp only[h1]
  cases hx:s.ev x with
  |ep n k i off=>
   have hlk:=D3 h (by rw[ho];simp[Op.operands]) hx
   cases wt<;>first|rfl|simp only[hlk]
  |_=>rfl
 case store t x y=>
  have h1:=h.ev x (by rw[ho];simp[Op.operands])
  have h2:=h.look y (by rw[ho];simp[Op.operands])
  simp only[h1,h2]
  cases hx:s.ev x with
  |ep n k i off=>
   have hlk:=D3 h (by rw[ho];simp[Op.operands]) hx
   cases hy:toD (s.look (s.ev y))<;>cases off<;>first|rfl|simp only[hlk]
  |_=>rfl
 case call c=>
  obtain⟨callee,⟨args⟩,⟨tys⟩⟩:=c
  simp only
  split
  rename_i x t
  have h1:=h.ev x (by rw[ho];simp[Op.operands,Call.operands])
  have h2:=Dx (h.bx x (by rw[ho];simp[Op.operands,Call.operands]))
  simp only[h1,h2]
  rfl
theorem Om{P:Program}{o:Oper}{s s':St}{wt:W}(h:Er o s s'):Ol P o s' wt=Ol P o s wt:=by
 have hev:=h.ev;have hbx:=fun x hx=>Hg (h.bx x hx);unfold Ol;cases ho:o.op<;>try rfl
 case indexAddr t x i=>
  rw[ho]at hev hbx;simp only[Op.operands]at hev hbx
  simp only[hev x (by simp),hev i (by simp),hbx x (by simp)]
 case load t x=>
  have h1:=h.ev x (by rw[ho];simp[Op.operands])
  simp only[h1]
  cases hx:s.ev x with
  |ep n k i off=>
   have hlk:=D3 h (by rw[ho];simp[Op.operands]) hx
   cases wt<;>first|rfl|simp only[hlk]
  |_=>rfl
 case store t x y=>
  have h1:=h.ev x (by rw[ho];simp[Op.operands])
  have h2:=h.look y (by rw[ho];simp[Op.operands])
  simp only[h1,h2]
  cases hx:s.ev x with
  |ep n k i off=>
   have hlk:=D3 h (by rw[ho];simp[Op.operands]) hx
   cases hy:toD (s.look (s.ev y))<;>cases off<;>first|rfl|simp only[hlk]
  |_=>rfl
 case call c=>
  obtain⟨callee,⟨args⟩,⟨tys⟩⟩:=c
  simp only
  split
  rename_i x t
  have h1:=h.ev x (by rw[ho];simp[Op.operands,Call.operands])
  have h2:=Hg (h.bx x (by rw[ho];simp[Op.operands,Call.operands]))
  simp only[h1,h2]
  rfl
theorem JS{P:Program}{o:Oper}{s s':St}{wt:W}(h:Er o s s'):Du P o s' wt=Du P o s wt:=by
 unfold Du;cases ho:o.op<;>try rfl
 rename_i c;obtain⟨callee,⟨args⟩,⟨tys⟩⟩:=c;simp only;split;rename_i x y t t';have h1:=h.ev x (by rw[ho];simp[Op.operands,Call.operands]);have h2:=Dx (h.bx x (by rw[ho];simp[Op.operands,Call.operands]));have h3:=h.look y (by rw[ho];simp[Op.operands,Call.operands]);have h4:∀n,E9 s' n y=E9 s n y:=by
  intro n;unfold E9;rw[h3];cases hv:s.look (s.ev y)with
  |d x=>cases x<;>rfl
  |bsl m off l=>
   have hb:(s.ev y).has m=true:=by
    cases hz:s.ev y with
    |row n=>
     rw[hz]at hv
     simp only[St.look]at hv
     split at hv<;>cases hv
    |box n off=>
     rw[hz]at hv
     cases off<;>simp only[St.look]at hv
     split at hv<;>cases hv
     cases hv
    |bsl m' off' l'=>
     rw[hz]at hv
     simp only[St.look,A.bsl.injEq]at hv
     simp[A.has,hv.1]
    |_=>rw[hz]at hv;simp only[St.look]at hv;cases hv
   cases off<;>simp only[h.bx y (by rw[ho];simp[Op.operands,Call.operands]) m hb]
  |_=>rfl
 simp only[h1,h2,h4];rfl

def Ea:Ed->Bool
 | .add _ _=>true
 |_=>false
theorem Tw{P:Program}{o:Oper}{s:St}{p:A×List Ed}(he:aDj P o s=some p):p.2.any Ea=true:=by unfold aDj at he;split at he;cases he;split at he;split at he;split at he;split at he;cases he;rfl;cases he;cases he;split at he;split at he;cases he;cases he;rfl;cases he;cases he;cases he
theorem KG{P:Program}{o:Oper}{s:St}{wt:W}{Φ:Cn}{r:A}{es:List Ed}(he:C9 P o s wt=some (Φ,r,es)):es.any Ea=true:=by
 unfold C9 at he;repeat' split at he
 all_goals first
  |(cases he;done)
  |(simp only[oe,pe]at he;obtain⟨_,_,rfl⟩:=he;rfl)
theorem JQ{P:Program}{o:Oper}{s:St}{zs:List D}{Φ:Cn}{r:A}{es:List Ed}(he:Cv P o s zs=some (Φ,r,es)):es.any Ea=true:=by
 unfold Cv at he;repeat' split at he
 all_goals first
  |(cases he;done)
  |(simp only[oe,pe]at he;obtain⟨_,_,rfl⟩:=he;rfl)
theorem O8{s s':St}{x:A}(hb:∀n,x.has n=true->lk s'.B n=lk s.B n):MY s' x=MY s x:=by
 unfold MY;cases x<;>try rfl
 rename_i n;simp only[hb n (by simp[A.has])]
theorem JR{P:Program}{o:Oper}{s s':St}{zs:List D}{z:Cn×A×List Ed}(h:Er o s s')(hf:∀d,o.dst=some d->fresh d s'=true)(he:Cv P o s zs=some z):Cv P o s' zs=some z:=by
 unfold Cv at he⊢;cases hd:o.dst with
 |none=>rw[hd]at he;simp only at he;cases he
 |some d=>
  obtain⟨f1,f2,f3⟩:=BN (hf d hd)
  rw[hd]at he
  cases ho:o.op<;>rw[ho]at he<;>simp only at he⊢ <;>try (cases he;done)
  rename_i c
  obtain⟨callee,args,tys⟩:=c
  have hargs:∀x∈args.toList,x∈o.op.operands:=fun x hx=>by rw[ho];simp only[Op.operands,Call.operands,Array.mem_append];exact .inr (Array.mem_toList_iff.1 hx)
  simp only at he⊢
  split at he
  rename_i x y t t' ha ht
  rw[ha]at hargs
  have h1:=h.ev x (hargs x (by simp))
  have h2:=O8 (h.bx x (hargs x (by simp)))
  have h3:=h.look y (hargs y (by simp))
  simp only[h1,h2,h3]
  split at he
  split at he
  rename_i e ys he1 he2
  split at he
  rename_i i hi
  split at he
  rename_i hc
  simp only[ba,decide_eq_true_eq,Bool.not_eq_true']at hc
  obtain⟨⟨⟨⟨c0,cz⟩,c1⟩,c2⟩,c3⟩:=hc
  rw[if_pos (by assumption)]
  rw[if_pos (by simp only[ba,decide_eq_true_eq,Bool.not_eq_true'];exact⟨⟨⟨⟨c0,cz⟩,f1⟩,f2⟩,f3⟩)]
  exact he
  cases he
  cases he
  cases he
  cases he
  cases he
theorem Fh{P:Program}{o:Oper}{s:St}{b:Bool}{Φ:Cn}{r:A}{es:List Ed}(he:Bi P o s b=some (Φ,r,es)):es.any Ea=true:=by
 unfold Bi at he;repeat' split at he
 all_goals first
  |(cases he;done)
  |(simp only[oe,pe]at he;obtain⟨_,_,rfl⟩:=he;rfl)
theorem Ll{P:Program}{o:Oper}{s:St}{wt:W}{Φ:Cn}{r:A}{es:List Ed}(he:FW P o s wt=some (Φ,r,es)):es.any Ea=true:=by
 unfold FW at he;repeat' split at he
 all_goals first
  |(cases he;done)
  |(simp only[oe,pe]at he;obtain⟨_,_,rfl⟩:=he;rfl)
theorem T9{P:Program}{o:Oper}{s s':St}{wt:W}(h:Er o s s'):aHn P o s' wt=aHn P o s wt:=by
 unfold aHn;cases ho:o.op<;>try rfl
 rename_i op t x y yt;have h1:=h.ev x (by rw[ho];simp[Op.operands]);have h2:=h.ev y (by rw[ho];simp[Op.operands]);have h3:=h.look x (by rw[ho];simp[Op.operands]);simp only[h1,h2]at h3⊢;simp only[h3]
theorem Od{o:Oper}{s s':St}(h:Er o s s'):Oc o s'=Oc o s:=by
 unfold Oc;cases ho:o.op<;>try rfl
 rename_i t x;have h3:=h.look x (by rw[ho];simp[Op.operands]);simp only[h3]
theorem T8{P:Program}{o:Oper}{s s':St}{wt:W}{z:Cn×A×List Ed}(h:Er o s s')(hf:z.2.2.any Ea=true->∀d,o.dst=some d->fresh d s'=true)(he:aDl P o s wt=some z):aDl P o s' wt=some z:=by
 have hmp:=fun x hx=>Ii (h.bx x hx);have hlk:=h.look;have hev:=h.ev;unfold aDl at he⊢;cases ho:o.op<;>rw[ho]at hmp hlk hev<;>simp only[ho]at he⊢ <;>try (exact he)
 case makeMap t r=>
  cases r with
  |some r=>exact he
  |none=>
   simp only at he⊢
   cases hd:o.dst with
   |none=>rw[hd]at he;exact he
   |some d=>
    rw[hd]at he
    simp only at he⊢
    split at he
    simp only[oe]at he
    obtain⟨f1,f2,f3⟩:=BN (hf (by rw[<-he];rfl) d hd)
    simp only[f1,f2,f3,decide_true,Bool.not_false,Bool.and_self,if_true]
    rw[he]
    cases he
 case lookup t m k c=>
  simp only[Op.operands]at hmp hlk hev
  have e1:Br s' (s'.ev m)=Br s (s.ev m):=by rw[hev m (by simp)];exact hmp m (by simp)
  simp only[e1,hlk k (by simp)];exact he
 case mapUpdate t m k x=>
  simp only[Op.operands]at hmp hlk hev
  have e1:Br s' (s'.ev m)=Br s (s.ev m):=by rw[hev m (by simp)];exact hmp m (by simp)
  simp only[e1,hlk k (by simp),hlk x (by simp)];exact he
 case insert t m k x=>
  simp only[Op.operands]at hmp hlk hev
  have e1:Br s' (s'.ev m)=Br s (s.ev m):=by rw[hev m (by simp)];exact hmp m (by simp)
  simp only[e1,hlk k (by simp),hlk x (by simp)];exact he
 case mapEntry t m k=>
  simp only[Op.operands]at hmp hlk hev
  have e1:Br s' (s'.ev m)=Br s (s.ev m):=by rw[hev m (by simp)];exact hmp m (by simp)
  simp only[e1,hlk k (by simp)];exact he
 case entryStore t m st x=>
  simp only[Op.operands]at hmp hlk hev
  have e1:Br s' (s'.ev m)=Br s (s.ev m):=by rw[hev m (by simp)];exact hmp m (by simp)
  simp only[e1,hev st (by simp),hlk x (by simp)];exact he
 case call c=>
  obtain⟨callee,⟨args⟩,⟨tys⟩⟩:=c
  simp only[Op.operands,Call.operands]at hmp hlk hev
  simp only at he⊢
  split at he
  rename_i m k t t2
  have e1:Br s' (s'.ev m)=Br s (s.ev m):=by rw[hev m (by simp)];exact hmp m (by simp)
  simp only[e1,hlk k (by simp)];exact he
  rename_i m t
  have e1:Br s' (s'.ev m)=Br s (s.ev m):=by rw[hev m (by simp)];exact hmp m (by simp)
  simp only[e1];exact he
  rename_i m t
  have e1:Br s' (s'.ev m)=Br s (s.ev m):=by rw[hev m (by simp)];exact hmp m (by simp)
  simp only[e1];exact he
  cases he
theorem ML{s s':St}{x:A}(hb:∀n,x.has n=true->lk s'.B n=lk s.B n):Cl s' x=Cl s x:=by
 unfold Cl;cases x<;>try rfl
 rename_i n;simp only[hb n (by simp[A.has])]
theorem Oi{P:Program}{o:Oper}{s s':St}{wt:W}{z:Cn×A×List Ed}(h:Er o s s')(hf:z.2.2.any Ea=true->∀d,o.dst=some d->fresh d s'=true)(he:JW P o s wt=some z):JW P o s' wt=some z:=by
 have hmp:=fun x hx=>ML (h.bx x hx);have hlk:=h.look;have hev:=h.ev;unfold JW at he⊢;cases ho:o.op<;>rw[ho]at hmp hlk hev<;>simp only[ho]at he⊢ <;>try (exact he)
 case makeMap t r=>
  cases r with
  |some r=>exact he
  |none=>
   simp only at he⊢
   cases hd:o.dst with
   |none=>rw[hd]at he;exact he
   |some d=>
    rw[hd]at he
    simp only at he⊢
    split at he
    simp only[oe]at he
    obtain⟨f1,f2,f3⟩:=BN (hf (by rw[<-he];rfl) d hd)
    simp only[f1,f2,f3,decide_true,Bool.not_false,Bool.and_self,if_true]
    rw[he]
    cases he
 case mapUpdate t m k x=>
  simp only[Op.operands]at hmp hlk hev
  have e1:Cl s' (s'.ev m)=Cl s (s.ev m):=by rw[hev m (by simp)];exact hmp m (by simp)
  simp only[e1,hlk k (by simp),hlk x (by simp)];exact he
 case insert t m k x=>
  simp only[Op.operands]at hmp hlk hev
  have e1:Cl s' (s'.ev m)=Cl s (s.ev m):=by rw[hev m (by simp)];exact hmp m (by simp)
  simp only[e1,hlk k (by simp),hlk x (by simp)];exact he
 case call c=>
  obtain⟨callee,⟨args⟩,⟨tys⟩⟩:=c
  simp only[Op.operands,Call.operands]at hmp hlk hev
  simp only at he⊢
  split at he
  rename_i m k t t2
  have e1:Cl s' (s'.ev m)=Cl s (s.ev m):=by rw[hev m (by simp)];exact hmp m (by simp)
  simp only[e1,hlk k (by simp)];exact he
  cases he
theorem G2{P:Program}{o:Oper}{s s':St}{wt:W}{Φ:Ob}{r:A}{es:List Ed}(h:Er o s s')(hx:∀n∈xns wt,lk s'.B n=lk s.B n)(hc:∀ns r,wt=.lend ns r->Dg s ns=true)(hg:∀d∈nns wt,fresh d s'=true)(hf:es.any Ea=true->∀d,o.dst=some d->fresh d s'=true)(he:Dv P o s wt (J2 P s o)=some (Φ,r,es)):Dv P o s' wt (J2 P s' o)=some (Φ,r,es):=by
 rw[PB h];generalize J2 P s o=k at he⊢;match k with
 |0=>simp only[Dv]at he⊢;rw[Oj h.ev h.look];exact he
 |1=>simp only[Dv]at he⊢;rw[Oh h];exact he
 |2=>
  simp only[Dv]at he⊢
  split at he
  rw[Od h];exact he
  simp only[om,pe]at he⊢
  obtain⟨p,h1,h2,h3,h4⟩:=he
  refine⟨p,Tx h (hf ?_) h1,h2,h3,h4⟩
  rw[<-h4]
  exact Tw h1
 |3=>
  simp only[Dv]at he⊢
  have e:E5 P o s'=E5 P o s:=by unfold E5;rw[G5 h]
  rw[G5 h,e];exact he
 |4=>
  have key:∀wt',((C9 P o s wt').map fun p=>(Ob.c p.1,p.2))=some (Φ,r,es)->((C9 P o s' wt').map fun p=>(Ob.c p.1,p.2))=some (Φ,r,es):=by intro wt' he;simp only[om,pe]at he⊢;obtain⟨⟨Φ',r',es'⟩,h1,h2,h3⟩:=he;cases h3;exact⟨_,KH h (hf (KG h1)) h1,h2,rfl⟩
  simp only[Dv]at he⊢
  cases wt with
  |rwl zs=>
   simp only[om,pe]at he⊢
   obtain⟨⟨Φ',r',es'⟩,h1,h2,h3⟩:=he
   cases h3
   exact⟨_,JR h (hf (JQ h1)) h1,h2,rfl⟩
  |_=>exact key _ he
 |5=>
  simp only[Dv,om,pe]at he⊢
  obtain⟨⟨Φ',r',es'⟩,h1,h2,h3⟩:=he
  cases h3
  exact⟨_,Fi h (hf (Fh h1)) h1,h2,rfl⟩
 |6=>
  simp only[Dv]at he⊢
  cases wt with
  |lend ns r=>simp only at he⊢;rw[Lo h hx hc];exact he
  |cx _ _ _ _ _=>exact Ls h hx hg he
  |_=>simp only at he⊢;rw[Lr h];exact he
 |7=>simp only[Dv]at he⊢;rw[Ln h];exact he
 |8=>
  simp only[Dv,om,pe]at he⊢
  obtain⟨⟨Φ',r',es'⟩,h1,h2,h3⟩:=he
  cases h3
  exact⟨_,Lm h (hf (Ll h1)) h1,h2,rfl⟩
 |9=>simp only[Dv]at he⊢;rw[Lj h,Om h];exact he
 |10=>simp only[Dv]at he⊢;rw[JS h];exact he
 |11=>simp only[Dv]at he⊢;rw[T9 h];exact he
 |12=>
  have k1:((aDl P o s wt).map fun p=>(Ob.c p.1,p.2))=some (Φ,r,es)->((aDl P o s' wt).map fun p=>(Ob.c p.1,p.2))=some (Φ,r,es):=by intro he;simp only[om,pe]at he⊢;obtain⟨⟨Φ',r',es'⟩,h1,h2,h3⟩:=he;cases h3;exact⟨_,T8 h hf h1,h2,rfl⟩
  have k2:((JW P o s wt).map fun p=>(Ob.c p.1,p.2))=some (Φ,r,es)->((JW P o s' wt).map fun p=>(Ob.c p.1,p.2))=some (Φ,r,es):=by intro he;simp only[om,pe]at he⊢;obtain⟨⟨Φ',r',es'⟩,h1,h2,h3⟩:=he;cases h3;exact⟨_,Oi h hf h1,h2,rfl⟩
  simp only[Dv]at he⊢
  cases wt with
  |frz=>exact k2 he
  |ms S=>exact k2 he
  |_=>exact k1 he
 |k+13=>simp only[Dv]at he;cases he

theorem UB{P:Program}{o:Oper}{s s':St}{wt:W}{Φ:Ob}{r:A}{es:List Ed}(h:Er o s s')(hx:∀n∈xns wt,lk s'.B n=lk s.B n)(hc:∀ns r,wt=.lend ns r->Dg s ns=true)(hg:∀d∈nns wt,fresh d s'=true)(hf:es.any Ea=true->∀d,o.dst=some d->fresh d s'=true)(he:aGn P o s wt=some (Φ,r,es)):aGn P o s' wt=some (Φ,r,es):=by
 unfold aGn at he⊢;cases wt with
 |fzn m=>
  simp only at he⊢
  split at he
  rename_i Φ' r' h1
  have h2:=G2 (es:=[]) h (fun n hn=>by cases hn) (fun ns r e=>by cases e) (fun d hd=>by cases hd) (fun hh=>by cases hh) h1
  rw[h2]
  simp only[hx m (.head _)]
  exact he
  cases he
 |rwz zs=>
  simp only at he⊢
  split at he
  rename_i Φ' d es' h1
  split at he
  rename_i d' e k xs hl
  split at he
  rename_i hdd
  simp only[oe,pe]at he
  obtain⟨rfl,rfl,rfl⟩:=he
  have h2:=G2 (es:=es') h (fun n hn=>by cases hn) (fun ns r e=>by cases e) (fun d hd=>by cases hd) (fun hh=>hf (by rw[List.any_append,hh];rfl)) h1
  rw[h2]
  simp only[hl,hdd,if_true]
  cases he
  cases he
  cases he
 |_=>exact G2 h hx hc hg hf he
end Go.Ac
namespace Go.Ac

structure Rc where
 dst:Option Tmp
 r:A
 es:List Ed
def Ed.name:Ed->Nat
 | .add n _=>n
 | .chg n _=>n
def Ed.bk:Ed->Bk
 | .add _ b=>b
 | .chg _ b=>b
def Rc.ap(c:Rc)(s:St):St:=(s.edit c.es).put c.dst c.r
def Rc.free(c:Rc)(d:Nat):Bool:= !c.r.has d&&c.es.all fun e=>e.name !=d&& !e.bk.has d
structure Dr where
 c:Rc
 ts:List Nat
 vs:List A
 ns:List Nat

theorem NS{n:Nat}:∀{B:Bx},(∀p∈B,p.1≠n/\p.2.has n=false)->Be n B=false
 |[],_=>rfl
 |p::B,h=>by
  simp only[Be,Bool.or_eq_false_iff,beq_eq_false_iff_ne];exact⟨h p (by simp),NS fun q hq=>h q (by simp[hq])⟩
theorem Ic{n:Nat}{r:A}(hr:r.has n=false):∀(l:List A) (i:Nat),AR n l=false->AR n (l.set i r)=false
 |[],_,h=>h
 |a::l,0,h=>by
  simp only[AR,Bool.or_eq_false_iff,List.set_cons_zero]at h⊢;exact⟨hr,h.2⟩
 |a::l,i+1,h=>by
  simp only[AR,Bool.or_eq_false_iff,List.set_cons_succ]at h⊢;exact⟨h.1,Ic hr l i h.2⟩
theorem Jd{n:Nat}{B:Bx}{e:Ed}(hB:Be n B=false)(h1:e.name≠n)(h2:e.bk.has n=false):Be n (Aa B e)=false:=by
 refine NS fun p hp=>?_;cases e with
 |add m b=>
  rcases mc.1 ((CO m b B).mem_iff.1 hp)with rfl|hp
  exact⟨h1,h2⟩
  exact Bd hB p hp
 |chg m b=>
  rcases BZ hp with rfl|⟨hp,_⟩
  exact⟨h1,h2⟩
  exact Bd hB p hp
theorem G7{n:Nat}:∀{es:List Ed} {B:Bx},Be n B=false->(es.all fun e=>e.name !=n&& !e.bk.has n)=true->Be n (es.foldl Aa B)=false
 |[],B,hB,_=>hB
 |e::es,B,hB,h=>by
  simp only[List.all_cons,ba,bne_iff_ne,Bool.not_eq_true']at h;exact G7 (B:=Aa B e) (Jd hB h.1.1 h.1.2) h.2
theorem Rc.fresh_ap{c:Rc}{d:Nat}{s:St}(h:fresh d s=true)(hc:c.free d=true):fresh d (c.ap s)=true:=by
 obtain⟨f1,f2,f3⟩:=BN h;simp only[Rc.free,ba,Bool.not_eq_true']at hc;have h3:Be d (c.ap s).B=false:=by
  have:(c.ap s).B=c.es.foldl Aa s.B:=by unfold Rc.ap;cases c.dst<;>rfl
  rw[this];exact G7 f3 hc.2
 have h2:AR d (c.ap s).E=false:=by
  unfold Rc.ap;cases c.dst with
  |none=>exact f2
  |some t=>exact Ic hc.1 _ _ f2
 simp only[fresh,f1,h2,h3,decide_true,Bool.not_false,Bool.and_self]

structure FP(ts:List Nat)(N:Nat->Bool)(s s':St):Prop where
 len:s'.E.length=s.E.length
 e:∀t∈ts,s'.E[t]? =s.E[t]?
 b:∀n,N n=true->lk s'.B n=lk s.B n
theorem FP.refl(ts N s):FP ts N s s:=⟨rfl,fun _ _=>rfl,fun _ _=>rfl⟩
theorem FP.symm{ts N s s'}(h:FP ts N s s'):FP ts N s' s:=⟨h.len.symm,fun t ht=>(h.e t ht).symm,fun n hn=>(h.b n hn).symm⟩
theorem FP.trans{ts N s s' s''}(h:FP ts N s s')(g:FP ts N s' s''):FP ts N s s'':=⟨g.len.trans h.len,fun t ht=>(g.e t ht).trans (h.e t ht),fun n hn=>(g.b n hn).trans (h.b n hn)⟩

theorem FJ(p:Nat×Bk)(B:Bx)(n:Nat):lk (p::B) n=if p.1=n then some p.2 else lk B n:=by
 unfold lk;rw[List.find?_cons];by_cases h:p.1=n;simp[h];rw[if_neg h];have:(p.1==n)=false:=by simpa using h
 simp[this]
theorem Jk(m:Nat)(b:Bk)(n:Nat):∀B:Bx,lk (DG m b B) n=if m=n then some b else lk B n
 |[]=>by simp[DG,FJ]
 |p::B=>by
  simp only[DG];split;rw[FJ];rename_i hle;rw[FJ,Jk m b n B,FJ];by_cases h1:p.1=n;rw[if_pos h1,if_pos h1];by_cases h2:m=n;exfalso;apply hle;subst h1;subst h2;exact Nat.ble_eq_true_of_le (Nat.le_refl _);rw[if_neg h2];rw[if_neg h1,if_neg h1]
theorem MI(m:Nat)(b:Bk)(n:Nat):∀B:Bx,lk (BJ B m b) n=if m=n then(lk B n).map fun _=>b else lk B n
 |[]=>by simp[BJ,lk]
 |p::B=>by
  have ih:=MI m b n B;simp only[BJ,List.map_cons]at ih⊢;rw[FJ,FJ,ih];by_cases h1:p.1=m;rw[if_pos h1];by_cases h2:m=n;subst h2;simp[h1];have:¬p.1=n:=fun e=>h2 (h1.symm.trans e);simp only[h2,if_false,this];rw[if_neg h1];by_cases h2:m=n;subst h2;simp[h1];simp[h2]
theorem Fk{B B':Bx}{n:Nat}(e:Ed)(h:lk B' n=lk B n):lk (Aa B' e) n=lk (Aa B e) n:=by cases e<;>simp only[Aa,Jk,MI,h]
theorem Fl{B:Bx}{n:Nat}{e:Ed}(h:e.name≠n):lk (Aa B e) n=lk B n:=by cases e<;>simp only[Ed.name]at h<;>simp only[Aa,Jk,MI,h,if_false]
theorem ED{n:Nat}:∀(es:List Ed) {B B':Bx},lk B' n=lk B n->lk (es.foldl Aa B') n=lk (es.foldl Aa B) n
 |[],_,_,h=>h
 |e::es,_,_,h=>ED es (Fk e h)
theorem EE{n:Nat}:∀(es:List Ed) {B:Bx},(∀e∈es,e.name≠n)->lk (es.foldl Aa B) n=lk B n
 |[],_,_=>rfl
 |e::es,B,h=>(EE es (B:=Aa B e) fun f hf=>h f (by simp[hf])).trans (Fl (h e (by simp)))

theorem Rc.ap_B(c:Rc)(s:St):(c.ap s).B=c.es.foldl Aa s.B:=by unfold Rc.ap;cases c.dst<;>rfl
theorem FP.ap{ts N s s'}(c:Rc)(h:FP ts N s s'):FP ts N (c.ap s) (c.ap s'):=by
 refine⟨?_,?_,fun n hn=>?_⟩;unfold Rc.ap;cases c.dst with
 |none=>exact h.len
 |some d=>simp only[St.put,List.length_set,St.edit];exact h.len
 intro t ht;unfold Rc.ap;cases c.dst with
 |none=>exact h.e t ht
 |some d=>
  simp only[St.put,St.edit,List.getElem?_set,h.len,h.e t ht]
 rw[Rc.ap_B,Rc.ap_B];exact ED _ (h.b n hn)
def MC(a:Rc)(b:Dr):Bool:=
 (match a.dst with|none=>true|some d=> !b.ts.contains d)&&a.es.all fun e=> !AR e.name b.vs
theorem FP.other{a:Rc}{b:Dr}(h:MC a b=true)(s:St):FP b.ts (fun n=>AR n b.vs) s (a.ap s):=by
 simp only[MC,ba]at h;refine⟨?_,?_,fun n hn=>?_⟩;unfold Rc.ap;cases a.dst with
 |none=>rfl
 |some d=>simp only[St.put,List.length_set,St.edit]
 intro t ht;unfold Rc.ap;cases hd:a.dst with
 |none=>rfl
 |some d=>
  have h1:=h.1
  rw[hd]at h1
  simp only[Bool.not_eq_true',List.contains_eq_mem,decide_eq_false_iff_not]at h1
  have:d≠t:=fun e=>h1 (e▸ht)
  simp only[St.put,St.edit,List.getElem?_set,this,if_false]
 rw[Rc.ap_B];refine EE _ fun e he hne=>?_;have:=List.all_eq_true.1 h.2 e he;rw[hne,hn]at this;cases this

def sig(fl:Nat->Bool):Nat->List Dr->St->St
 |_,[],s=>s
 |k,d::ds,s=>sig fl (k+1) ds (if fl k then d.c.ap s else s)

theorem aEe{b:Dr}{fl fl':Nat->Bool}:∀(ds:List Dr) (k:Nat) {s s':St},(∀i d,ds[i]? =some d->fl (k+i)≠fl' (k+i)->MC d.c b=true)->
 FP b.ts (fun n=>AR n b.vs) s s'->FP b.ts (fun n=>AR n b.vs) (sig fl k ds s) (sig fl' k ds s')
 |[],_,_,_,_,h=>h
 |d::ds,k,s,s',hd,h=>by
  simp only[sig];refine aEe ds (k+1) (fun i d' hi hne=>hd (i+1) d' (by simpa using hi) (by simpa[Nat.add_assoc,Nat.add_comm 1 i]using hne)) ?_;have h0:=hd 0 d (by simp);simp only[Nat.add_zero]at h0;cases h1:fl k<;>cases h2:fl' k<;>simp only[if_true,Bool.false_eq_true,if_false];exact h;exact h.trans (FP.other (h0 (by simp[h1,h2])) s');exact(FP.other (h0 (by simp[h1,h2])) s).symm.trans h;exact h.ap d.c
theorem Hh{fl:Nat->Bool}{n:Nat}:∀(ds:List Dr) (k:Nat) {s:St},(∀i d,ds[i]? =some d->fl (k+i)=true->d.c.free n=true)->fresh n s=true->fresh n (sig fl k ds s)=true
 |[],_,_,_,h=>h
 |d::ds,k,s,hd,h=>by
  simp only[sig];refine Hh ds (k+1) (fun i d' hi hne=>hd (i+1) d' (by simpa using hi) (by simpa[Nat.add_assoc,Nat.add_comm 1 i]using hne)) ?_;cases h1:fl k<;>simp only[if_true,Bool.false_eq_true,if_false];exact h;exact Rc.fresh_ap h (hd 0 d (by simp) (by simpa using h1))

theorem Kd{m n:Nat}(hne:m≠n)(b c:Bk):∀B:Bx,DG m b (DG n c B)=DG n c (DG m b B)
 |[]=>by
  simp only[DG];rcases Nat.lt_or_gt_of_ne hne with h|h
  have h1:Nat.ble m n=true:=Nat.ble_eq_true_of_le (Nat.le_of_lt h);have h2:Nat.ble n m=false:=by
   cases hh:Nat.ble n m with
   |false=>rfl
   |true=>exact absurd (Nat.le_of_ble_eq_true hh) (Nat.not_le.2 h)
  simp[h1,h2];have h1:Nat.ble n m=true:=Nat.ble_eq_true_of_le (Nat.le_of_lt h);have h2:Nat.ble m n=false:=by
   cases hh:Nat.ble m n with
   |false=>rfl
   |true=>exact absurd (Nat.le_of_ble_eq_true hh) (Nat.not_le.2 h)
  simp[h1,h2]
 |p::B=>by
  have ih:=Kd hne b c B;have hb:∀x y:Nat,Nat.ble x y=true↔x<=y:=fun x y=>by simp
  simp only[DG];by_cases h1:m<=p.1<;>by_cases h2:n<=p.1;rcases Nat.lt_or_gt_of_ne hne with h|h
  have:¬n<=m:=Nat.not_le.2 h;simp[DG,h1,h2,Nat.le_of_lt h,this];have:¬m<=n:=Nat.not_le.2 h;simp[DG,h1,h2,Nat.le_of_lt h,this];have:¬n<=m:=fun h=>h2 (Nat.le_trans h h1);simp[DG,h1,h2,this];have:¬m<=n:=fun h=>h1 (Nat.le_trans h h2);simp[DG,h1,h2,this];simp[DG,h1,h2,ih]
theorem Hp{m n:Nat}(hne:m≠n)(b c:Bk):∀B:Bx,BJ (DG n c B) m b=DG n c (BJ B m b)
 |[]=>by simp[DG,BJ,Ne.symm hne]
 |p::B=>by
  have ih:=Hp hne b c B;have he:(if p.1=m then(m,b)else p).1=p.1:=by split<;>simp_all
  simp only[DG,BJ,List.map_cons,he]at ih⊢;split;simp only[List.map_cons,Ne.symm hne,if_false];simp only[List.map_cons,ih]
theorem Vf{m n:Nat}(hne:m≠n)(b c:Bk)(B:Bx):BJ (BJ B n c) m b=BJ (BJ B m b) n c:=by simp only[BJ,List.map_map];apply List.map_congr_left;intro p _;simp only[Function.comp_apply];by_cases h1:p.1=n;have h2:¬p.1=m:=fun e=>hne (e.symm.trans h1);simp[h1,h2,Ne.symm hne];by_cases h2:p.1=m;simp[h1,h2,hne];simp[h1,h2]
theorem KM{e f:Ed}(h:e.name≠f.name)(B:Bx):Aa (Aa B f) e=Aa (Aa B e) f:=by cases e<;>cases f<;>simp only[Ed.name]at h<;>simp only[Aa];exact Kd h _ _ _;exact(Hp (Ne.symm h) _ _ _).symm;exact Hp h _ _ _;exact Vf h _ _ _
theorem HG{e:Ed}:∀(fs:List Ed) (B:Bx),(∀f∈fs,e.name≠f.name)->Aa (fs.foldl Aa B) e=fs.foldl Aa (Aa B e)
 |[],_,_=>rfl
 |f::fs,B,h=>by
  simp only[List.foldl_cons];rw[HG fs _ fun g hg=>h g (by simp[hg]),KM (h f (by simp))]
theorem IY:∀(es fs:List Ed) (B:Bx),(∀e∈es,∀f∈fs,e.name≠f.name)->es.foldl Aa (fs.foldl Aa B)=fs.foldl Aa (es.foldl Aa B)
 |[],_,_,_=>rfl
 |e::es,fs,B,h=>by
  simp only[List.foldl_cons];rw[HG fs B (h e (by simp)),IY es fs _ fun g hg=>h g (by simp[hg])]
def Je(a b:Rc):Bool:=
 (match a.dst,b.dst with|some x,some y=>x !=y|_,_=>true)&&a.es.all fun e=>b.es.all fun f=>e.name !=f.name
theorem aGo{a b:Rc}(h:Je a b=true)(s:St):a.ap (b.ap s)=b.ap (a.ap s):=by
 simp only[Je,ba]at h;have hB:a.es.foldl Aa (b.es.foldl Aa s.B)=b.es.foldl Aa (a.es.foldl Aa s.B):=IY _ _ _ fun e he f hf=>by have:=List.all_eq_true.1 (List.all_eq_true.1 h.2 e he) f hf;simpa using this
 obtain⟨da,ra,ea⟩:=a;obtain⟨db,rb,eb⟩:=b;simp only at h hB;cases da<;>cases db<;>simp only[Rc.ap,St.put,St.edit,hB];simp only[bne_iff_ne]at h;rw[List.set_comm _ _ (Ne.symm h.1)]
theorem VX{fl:Nat->Bool}{c:Rc}:∀(ds:List Dr) (k:Nat) (s:St),(∀i d,ds[i]? =some d->fl (k+i)=true->Je d.c c=true)->sig fl k ds (c.ap s)=c.ap (sig fl k ds s)
 |[],_,_,_=>rfl
 |d::ds,k,s,h=>by
  simp only[sig];have h':∀i d,ds[i]? =some d->fl (k+1+i)=true->Je d.c c=true:=fun i d' hi hf=>h (i+1) d' (by simpa using hi) (by simpa[Nat.add_assoc,Nat.add_comm 1 i]using hf);cases h1:fl k<;>simp only[if_true,Bool.false_eq_true,if_false];exact VX ds (k+1) s h';rw[aGo (h 0 d (by simp) (by simpa using h1)),VX ds (k+1) _ h']
theorem In{fl fl':Nat->Bool}{j:Nat}{dj:Dr}(hfl:∀i,fl' i=if i=j then true else fl i)(hj:fl j=false):∀(ds:List Dr) (k:Nat) (s:St),k<=j->ds[j-k]? =some dj->
 (∀i d,ds[i]? =some d->j<k+i->fl (k+i)=true->Je d.c dj.c=true)->sig fl' k ds s=dj.c.ap (sig fl k ds s)
 |[],_,_,_,h,_=>by simp at h
 |d::ds,k,s,hk,h,hc=>by
  simp only[sig];rcases Nat.eq_or_lt_of_le hk with rfl|hlt
  simp only[Nat.sub_self,List.getElem?_cons_zero,oe]at h;subst h;rw[hfl k,if_pos rfl,hj];simp only[if_true,Bool.false_eq_true,if_false];rw[<-VX (fl:=fl) ds (k+1) s fun i d' hi hf=>hc (i+1) d' (by simpa using hi) (by omega) (by simpa[Nat.add_assoc,Nat.add_comm 1 i]using hf)];have:∀(ds:List Dr) (m:Nat) (s:St),k<m->sig fl' m ds s=sig fl m ds s:=by
   intro ds;induction ds with
   |nil=>intro m s _;rfl
   |cons d ds ih=>
    intro m s hm
    have hne:¬m=k:=by omega
    simp only[sig,hfl m,hne,if_false]
    exact ih (m+1) _ (by omega)
  exact this ds (k+1) _ (by omega);have hne:¬k=j:=by omega
  rw[hfl k,if_neg hne];refine In hfl hj ds (k+1) _ hlt ?_ fun i d' hi hl hf=>hc (i+1) d' (by simpa using hi) (by omega) (by simpa[Nat.add_assoc,Nat.add_comm 1 i]using hf);have e:j-k=j-(k+1)+1:=by omega
  rw[e]at h;simpa using h
end Go.Ac
namespace Go.Ac

def aD2(T:List Nat)(o:Oper):Nat:=
 o.after.toList.foldl (fun m e=>if Region.binds .any e then m|||(1<<<e.on)|||T.getD e.on 0 else m) 0
theorem Kj{T:List Nat}{i:Nat}:∀(l:List Edge) (m:Nat),(l.foldl (fun m e=>if Region.binds .any e then m|||(1<<<e.on)|||T.getD e.on 0 else m) m).testBit i=true->
 m.testBit i=true\/∃e∈l,Region.binds .any e=true/\(i=e.on\/(T.getD e.on 0).testBit i=true)
 |[],m,h=>.inl h
 |e::l,m,h=>by
  simp only[List.foldl_cons]at h;rcases Kj l _ h with h|⟨e',he,hb⟩
  split at h;rename_i hb;simp only[Nat.testBit_or,Bool.or_eq_true]at h;rcases h with(h|h)|h
  exact .inl h;rw[Nat.one_shiftLeft,Nat.testBit_two_pow]at h;simp only[decide_eq_true_eq]at h;exact .inr ⟨e,by simp,hb,.inl h.symm⟩;exact .inr ⟨e,by simp,hb,.inr h⟩;exact .inl h;exact .inr ⟨e',by simp[he],hb⟩
theorem MN{T:List Nat}{o:Oper}{i:Nat}(h:(aD2 T o).testBit i=true):∃e∈o.after,Region.binds .any e=true/\(i=e.on\/(T.getD e.on 0).testBit i=true):=by
 rcases Kj _ _ h with h|⟨e,he,hb⟩
 simp at h;exact⟨e,by simpa using he,hb⟩
def EY:List Oper->List Nat->List Nat
 |[],T=>T
 |o::l,T=>EY l (T++[aD2 T o])
def aLc(L:Nat->Bool)(T:List Nat):Prop:=∀j m i,T[j]? =some m->m.testBit i=true->L j=true->L i=true
theorem IV{L:Nat->Bool}:∀(l:List Oper) (T:List Nat),(∀j o,l[j]? =some o->L (T.length+j)=true->∀e∈o.after,Region.binds .any e=true->L e.on=true)->aLc L T->aLc L (EY l T)
 |[],T,_,h=>h
 |o::l,T,hl,h=>by
  simp only[EY];refine IV l _ (fun j o' hj hL=>hl (j+1) o' (by simpa using hj) (by simpa[Nat.add_assoc,Nat.add_comm 1 j]using hL)) ?_;intro j m i hj hb hL;rw[List.getElem?_append]at hj;split at hj;exact h j m i hj hb hL;rename_i hlt;have hj0:j=T.length:=by
   rcases Nat.lt_or_ge (j-T.length) 1 with h1|h1
   omega;rw[List.getElem?_eq_none (by simpa using h1)]at hj;cases hj
  subst hj0;simp only[Nat.sub_self,List.getElem?_cons_zero,oe]at hj;subst hj;obtain⟨e,he,hbd,hi⟩:=MN hb;have hon:=hl 0 o (by simp) (by simpa using hL) e he hbd;rcases hi with rfl|hi
  exact hon;cases ht:T[e.on]? with
  |none=>simp[List.getD,ht]at hi
  |some m=>simp only[List.getD,ht,Option.getD_some]at hi;exact h e.on m i ht hi hon
theorem KR:∀(l:List Oper) (T:List Nat),(EY l T).length=T.length+l.length
 |[],T=>by simp[EY]
 |o::l,T=>by simp only[EY,KR l,List.length_append,List.length_cons,List.length_nil];omega
def Oo:Nat->List Oper->Bool
 |_,[]=>true
 |k,o::l=>o.after.toList.all (fun e=> !Region.binds .any e||decide (e.on<k))&&Oo (k+1) l
theorem IS:∀(l:List Oper) (k:Nat),Oo k l=true->∀j o,l[j]? =some o->∀e∈o.after,Region.binds .any e=true->e.on<k+j
 |[],_,_,j,o,h,_,_,_=>by simp at h
 |o'::l,k,hB,0,o,h,e,he,hb=>by
  simp only[List.getElem?_cons_zero,oe]at h;subst h;simp only[Oo,ba]at hB;have:=List.all_eq_true.1 hB.1 e (by simpa using he);simp only[hb,Bool.not_true,Bool.false_or,decide_eq_true_eq]at this;simpa using this
 |o'::l,k,hB,j+1,o,h,e,he,hb=>by
  simp only[Oo,ba]at hB;have:=IS l (k+1) hB.2 j o (by simpa using h) e he hb;omega

def amv(o:Oper)(s:St)(w:W):Option Nat:=
 match o.op,w with
 | .move (.tmp x),.no=>match s.E.getD x .any with
  | .row n=>some n
  |_=>none
 |_,_=>none
def KV(P:Program)(ops:Array Oper)(ws:List (Nat×W))(s:St)(o:Oper):Option (Ob×Rc):=
 if EQ o.op then
  match HK ops s o with
  |some true=>match amv o s (wOf ws o)with
   |some n=>some (.c .t,⟨o.dst,.row n,[]⟩)
   |none=>match aGn P o s (wOf ws o)with
    |some (Φ,r,es)=>some (Φ,⟨o.dst,r,es⟩)
    |none=>none
  |some false=>some (.c .t,⟨o.dst,.tup [],[]⟩)
  |none=>none
 else none
theorem aBx{rd:Option Nat}{P:Program}{ops:Array Oper}{ws:List (Nat×W)}{s:St}{o:Oper}{L:Lp}{Φ:Ob}{c:Rc}(he:KV P ops ws s o=some (Φ,c))(hΦ:Φ.ok P L)
 {h w val a} (H:AS s h w val a) {i:Nat} (hi:ops[i]? =some o) {K:Act->World->Prop} {Q:Exit->Act->World->Prop}
 (hK:∀h' w' val' a',AS (c.ap s) h' w' val' a'->Nx s h w val (c.ap s) h' w' val'->K a' w'):wpOpIn (fc rd) 0 P ops Q i K a w:=by
 unfold KV at he
 split at he
 rename_i hnd
 split at he
 rename_i hg
 split at he
 rename_i n hm
 simp only[oe,pe]at he
 obtain⟨rfl,rfl⟩:=he
 unfold amv at hm
 split at hm
 rename_i x ho hw
 split at hm
 rename_i n' hx
 simp only[oe]at hm
 subst hm
 have hv:=H.ev (.tmp x)
 have hx':s.ev (.tmp x)=.row n':=hx
 rw[hx']at hv
 unfold wpOpIn
 rw[hi]
 simp only[CL hg H,if_true]
 refine CG hnd (AQ (u:=a.eval (.tmp x)) (w':=w) (by simp[execOp,ho]) ?_)
 exact hK h w val _ (H.put o.dst hv) ((Nx.refl s h w val rfl).put _ _)
 cases hm
 cases hm
 split at he
 rename_i Φ' r es ho
 simp only[oe,pe]at he
 obtain⟨rfl,rfl⟩:=he
 unfold wpOpIn
 rw[hi]
 simp only[CL hg H,if_true]
 exact CG hnd (UA ho hΦ h w val a H K Q fun h' w' val' u hr H' hn=>hK h' w' val' _ (H'.put o.dst hr) (hn.put _ _))
 cases he
 rename_i hg
 simp only[oe,pe]at he
 obtain⟨rfl,rfl⟩:=he
 unfold wpOpIn
 rw[hi]
 simp only[CL hg H,Bool.false_eq_true,if_false]
 exact⟨fun _ _=>trivial,hK h w val _ (H.put o.dst Iv) ((Nx.refl s h w val rfl).put _ _)⟩
 cases he
 cases he

theorem FF{n:Nat}{a:A}(h:a.has n=true):∀{l:List A},a∈l->AR n l=true
 |b::l,hm=>by
  simp only[AR,Bool.or_eq_true];rcases mc.1 hm with rfl|hm
  exact .inl h;exact .inr (FF h hm)
theorem aGw(n:Nat)(v:Value):(cst v).has n=false:=by unfold cst;split;rfl;split<;>rfl;rfl;rfl
theorem FP.same{ops:Array Oper}{o:Oper}{s s':St}(h:FP (o.looksAt ops) (fun n=>AR n ((o.looksAt ops).map fun t=>s.E.getD t .any)) s s'):Er o s s':=by
 have hin:∀t,Operand.tmp t∈o.op.operands->t∈o.looksAt ops:=fun t ht=>ml _ (List.mem_filterMap.2 ⟨.tmp t,by simpa using ht,rfl⟩);refine⟨fun x hx=>?_,fun x hx n hn=>?_⟩;cases x with
 |tmp t=>simp only[St.ev,List.getD,h.e t (hin t hx)]
 |const v=>rfl
 |global g=>rfl
 |func f=>rfl
 cases x with
 |tmp t=>exact h.b n (FF hn (mm.2 ⟨t,hin t hx,rfl⟩))
 |const v=>simp only[St.ev,aGw]at hn;cases hn
 |global g=>simp[St.ev,A.has]at hn
 |func f=>simp[St.ev,A.has,AR]at hn
def aKy(ops:Array Oper)(ws:List (Nat×W))(s:St)(o:Oper):List A:=match amv o s (wOf ws o)with
 |some _=> []
 |none=>((o.looksAt ops).map fun t=>s.E.getD t .any)++(xns (wOf ws o)).map .row
theorem aBk{o:Oper}{s s':St}{w:W}(h:∀t,Operand.tmp t∈o.op.operands->s'.E[t]? =s.E[t]?):amv o s' w=amv o s w:=by unfold amv;split;rename_i x ho;have:s'.E[x]? =s.E[x]? :=h x (by rw[ho];simp[Op.operands]);simp only[List.getD,this];rfl
theorem DT{n:Nat}:∀(a b:List A),AR n (a++b)=(AR n a||AR n b)
 |[],b=>rfl
 |x::a,b=>by simp only[List.cons_append,AR,DT a b,Bool.or_assoc]
theorem FP.left{ts:List Nat}{a b:List A}{s s':St}(h:FP ts (fun n=>AR n (a++b)) s s'):FP ts (fun n=>AR n a) s s':=⟨h.len,h.e,fun n hn=>h.b n (by rw[DT,hn];rfl)⟩
theorem FP.xs{ts:List Nat}{a:List A}{l:List Nat}{s s':St}(h:FP ts (fun n=>AR n (a++l.map .row)) s s'):∀n∈l,lk s'.B n=lk s.B n:=fun n hn=>h.b n (by rw[DT];have:AR n (l.map A.row)=true:=FF (a:=.row n) (by simp[A.has]) (mm.2 ⟨n,hn,rfl⟩);rw[this,Bool.or_true])
def Ut(s:St):W->Bool
 | .lend ns _=>Dg s ns
 |_=>true
theorem Oz{P:Program}{ops:Array Oper}{ws:List (Nat×W)}{s s':St}{o:Oper}{Φ:Ob}{c:Rc}(he:KV P ops ws s o=some (Φ,c))
 (h:FP (o.looksAt ops) (fun n=>AR n (aKy ops ws s o)) s s') (hc:Ut s (wOf ws o)=true) (hn:∀d∈nns (wOf ws o),fresh d s'=true) (hf:c.es.any Ea=true->∀d,o.dst=some d->fresh d s'=true):KV P ops ws s' o=some (Φ,c):=by
 have hc':∀ns r,wOf ws o=.lend ns r->Dg s ns=true:=fun ns r e=>by rw[e]at hc;exact hc
 have hin:∀t,Operand.tmp t∈o.op.operands->t∈o.looksAt ops:=fun t ht=>ml _ (List.mem_filterMap.2 ⟨.tmp t,by simpa using ht,rfl⟩)
 have hav:amv o s' (wOf ws o)=amv o s (wOf ws o):=aBk fun t ht=>h.e t (hin t ht)
 have hg:HK ops s' o=HK ops s o:=by
  unfold HK;cases hg:o.guard with
  |none=>rfl
  |some g=>
   obtain⟨j,want⟩:=g
   simp only
   cases ht:(ops[j]?).bind (·.dst)with
   |none=>rfl
   |some t=>
    have:t∈o.looksAt ops:=mr _ (by simp[hg,ht])
    simp only[h.e t this]
 unfold KV at he⊢
 rw[hg]
 split at he
 rename_i hnd
 rw[if_pos hnd]
 split at he
 split at he
 rename_i n hm
 rw[hav,hm]
 exact he
 rename_i hm
 rw[hav,hm]
 have hvs:aKy ops ws s o=((o.looksAt ops).map fun t=>s.E.getD t .any)++(xns (wOf ws o)).map .row:=by unfold aKy;rw[hm]
 rw[hvs]at h
 have hx:∀n∈xns (wOf ws o),lk s'.B n=lk s.B n:=FP.xs h
 have h2:=FP.left h
 split at he
 rename_i Φ' r es ho
 simp only[oe,pe]at he
 obtain⟨rfl,rfl⟩:=he
 simp only[UB h2.same hx hc' hn hf ho]
 cases he
 exact he
 cases he
 cases he

def aDu(P:Program)(ops:Array Oper)(ws:List (Nat×W)):List Oper->St->Option (Ob×List Dr×St)
 |[],s=>some (.c .t,[],s)
 |o::l,s=>match KV P ops ws s o with
  |some (Φ,c)=>if Ut s (wOf ws o)then match aDu P ops ws l (c.ap s)with
   |some (Ψ,ds,s')=>some (Φ.and Ψ,⟨c,o.looksAt ops,aKy ops ws s o,nns (wOf ws o)⟩::ds,s')
   |none=>none
   else none
  |none=>none
def pre(ds:List Dr)(j:Nat)(s:St):St:=(ds.take j).foldl (fun s d=>d.c.ap s) s
theorem KU{L:Lp}{P:Program}{ops:Array Oper}{ws:List (Nat×W)}:∀(l:List Oper) (s s':St) (Φ:Ob) (ds:List Dr),aDu P ops ws l s=some (Φ,ds,s')->Φ.ok P L->
 ds.length=l.length/\s'=pre ds l.length s/\∀j o,l[j]? =some o->∃d Φ',ds[j]? =some d/\Φ'.ok P L/\KV P ops ws (pre ds j s) o=some (Φ',d.c)/\d.ts=o.looksAt ops/\d.vs=aKy ops ws (pre ds j s) o/\d.ns=nns (wOf ws o)/\Ut (pre ds j s) (wOf ws o)=true
 |[],s,s',Φ,ds,he,_=>by
  simp only[aDu,oe,pe]at he;obtain⟨_,rfl,rfl⟩:=he;exact⟨rfl,rfl,fun j o h=>by simp at h⟩
 |o::l,s,s',Φ,ds,he,hΦ=>by
  simp only[aDu]at he;split at he
  ·rename_i Φ1 c h1;split at he;case isFalse=>cases he
   rename_i hlo;split at he;rename_i Ψ ds' s'' h2;simp only[oe,pe]at he;obtain⟨rfl,rfl,rfl⟩:=he;obtain⟨hΦ1,hΨ⟩:=Ob.and_ok hΦ;obtain⟨e1,e2,e3⟩:=KU l _ _ _ _ h2 hΨ;refine⟨by simp[e1],by simpa[pre]using e2,fun j o' hj=>?_⟩;cases j with
   |zero=>
    simp only[List.getElem?_cons_zero,oe]at hj
    subst hj
    exact⟨_,Φ1,rfl,hΦ1,h1,rfl,rfl,rfl,hlo⟩
   |succ j=>
    obtain⟨d,Φ',f1,f2,f3,f4,f5,f6,f7⟩:=e3 j o' (by simpa using hj)
    exact⟨d,Φ',by simpa using f1,f2,f3,f4,f5,f6,f7⟩
   cases he
  cases he
theorem MV:∀(ds:List Dr) (k j:Nat) (s:St),pre ds j s=sig (fun i=>decide (i<k+j)) k ds s
 |[],k,j,s=>by simp[pre,sig]
 |d::ds,k,0,s=>by
  have:∀(ds:List Dr) (m:Nat) (s:St),k<=m->sig (fun i=>decide (i<k+0)) m ds s=s:=by
   intro ds;induction ds with
   |nil=>intro m s _;rfl
   |cons d ds ih=>
    intro m s hm
    have:¬m<k+0:=by omega
    simp only[sig,this,decide_false,Bool.false_eq_true,if_false]
    exact ih (m+1) s (by omega)
  rw[this _ k s (Nat.le_refl _)];simp[pre]
 |d::ds,k,j+1,s=>by
  have h:=MV ds (k+1) j (d.c.ap s);have e:k+1+j=k+(j+1):=by omega
  rw[e]at h;have:k<k+(j+1):=by omega
  simp only[sig,this,decide_true,if_true];rw[<-h];simp[pre]

def aD5(a b:Dr):Bool:=(!b.c.es.any Ea||(match b.c.dst with|some d=>a.c.free d|none=>true))&&BH (fun d=>a.c.free d) b.ns
def HX(ord:Bool)(a b:Dr):Bool:=aD5 a b&&(ord||(MC a.c b&&MC b.c a&&Je a.c b.c&&Je b.c a.c&&aD5 b a))
def aKt(m:Nat)(b:Dr):Nat->List Dr->Bool
 |_,[]=>true
 |i,a::ds=>HX (m.testBit i) a b&&aKt m b (i+1) ds
def Kp:List Nat->List Dr->List Dr->Bool
 |_,_,[]=>true
 |[],_,_=>false
 |m::T,before,b::ds=>aKt m b 0 before&&Kp T (before++[b]) ds
def VC(s:St):List Dr->Bool
 |[]=>true
 |b::ds=>(!b.c.es.any Ea||(match b.c.dst with|some d=>fresh d s|none=>true))&&BH (fun d=>fresh d s) b.ns&&VC s ds
theorem Kv{m:Nat}{b:Dr}:∀(ds:List Dr) (k:Nat),aKt m b k ds=true->∀i a,ds[i]? =some a->HX (m.testBit (k+i)) a b=true
 |[],_,_,i,a,h=>by simp at h
 |a'::ds,k,hB,0,a,h=>by
  simp only[List.getElem?_cons_zero,oe]at h;subst h;simp only[aKt,ba]at hB;exact hB.1
 |a'::ds,k,hB,i+1,a,h=>by
  simp only[aKt,ba]at hB;have:=Kv ds (k+1) hB.2 i a (by simpa using h);simpa[Nat.add_assoc,Nat.add_comm 1 i]using this
theorem HY:∀(T:List Nat) (before ds:List Dr),Kp T before ds=true->∀j m b,T[j]? =some m->ds[j]? =some b->∀i a,i<before.length+j->(before++ds)[i]? =some a->HX (m.testBit i) a b=true
 |[],_,_,_,j,m,b,h,_,_,_,_,_=>by simp at h
 |_::_,_,[],_,j,m,b,_,h,_,_,_,_=>by simp at h
 |m'::T,before,b'::ds,hB,0,m,b,hm,hb,i,a,hi,ha=>by
  simp only[List.getElem?_cons_zero,oe]at hm hb;subst hm;subst hb;simp only[Kp,ba]at hB;have:before[i]? =some a:=by rwa [List.getElem?_append_left (by simpa using hi)]at ha
  simpa using Kv before 0 hB.1 i a this
 |m'::T,before,b'::ds,hB,j+1,m,b,hm,hb,i,a,hi,ha=>by
  simp only[Kp,ba]at hB;exact HY T _ ds hB.2 j m b (by simpa using hm) (by simpa using hb) i a (by simp only[List.length_append,List.length_cons,List.length_nil];omega) (by simpa using ha)
theorem FM{s:St}:∀(ds:List Dr),VC s ds=true->∀(i:Nat) (b:Dr),ds[i]? =some b->(b.c.es.any Ea=true->∀d,b.c.dst=some d->fresh d s=true)/\∀d∈b.ns,fresh d s=true
 |[],_,i,b,h=>by simp at h
 |b'::ds,hB,0,b,h=>by
  simp only[List.getElem?_cons_zero,oe]at h;subst h;simp only[VC,ba]at hB;exact⟨fun ha d hd=>by simpa[ha,hd]using hB.1.1,fun d hd=>Av hB.1.2 d hd⟩
 |b'::ds,hB,i+1,b,h=>by
  simp only[VC,ba]at hB;exact FM ds hB.2 i b (by simpa using h)
end Go.Ac
namespace Go.Ac

def aBw(ops:Array Oper)(s:St)(ds:List Dr):Bool:=
 Oo 0 ops.toList&&Kp (EY ops.toList []) [] ds&&VC s ds

theorem aKx{n i:Nat}{fl fl':Nat->Bool}(hfl:∀k,fl' k=if k=i then true else fl k)(hi:i<n)(h0:fl i=false):
 ((List.range n).filter fun k=> !fl' k).length<((List.range n).filter fun k=> !fl k).length:=by
 have e:(List.range n).filter (fun k=> !fl' k)=((List.range n).filter fun k=> !fl k).filter fun k=>k !=i:=by rw[List.filter_filter];apply List.filter_congr;intro k _;rw[hfl k];by_cases hk:k=i;simp[hk];simp[hk]
 rw[e,List.length_filter_lt_length_iff_exists]
 exact⟨i,List.mem_filter.2 ⟨List.mem_range.2 hi,by simp[h0]⟩,by simp⟩

structure EU(ops:Array Oper)(listed:Array Bool):Prop where
 size:listed.size=ops.size
 deps:∀j o,ops[j]? =some o->listed.getD j false=true->∀e∈o.after,Region.binds .any e=true->listed.getD e.on false=true

theorem Ka{listed:Array Bool}{j:Nat}(hj:j<listed.size)(i:Nat):(listed.setIfInBounds j true).getD i false=if i=j then true else listed.getD i false:=by by_cases h:i=j;subst h;simp[hj];rw[if_neg h];simp only[Array.getD_eq_getD_getElem?];rw[Array.getElem?_setIfInBounds_ne (Ne.symm h)]

theorem EU.set{ops:Array Oper}{listed:Array Bool}(C:EU ops listed){j:Nat}(hj:j∈Region.ready .any ops listed):EU ops (listed.setIfInBounds j true):=by
 obtain⟨_,oj,hoj,hall⟩:=mem_ready.1 hj;have hlt:j<listed.size:=by rw[C.size];exact(Array.getElem?_eq_some_iff.1 hoj).1
 refine⟨by simp[C.size],fun i o ho hl e he hb=>?_⟩;rw[Ka hlt]at hl⊢;split;rfl;split at hl;rename_i h2;subst h2;have:o=oj:=Option.some.inj (ho.symm.trans hoj);subst this;exact hall e he hb;exact C.deps i o ho hl e he hb
theorem EU.good{ops:Array Oper}{listed:Array Bool}(C:EU ops listed):aLc (fun i=>listed.getD i false) (EY ops.toList []):=
 IV _ _ (fun j o hj hL e he hb=>C.deps j o (by simpa using hj) (by simpa using hL) e he hb) (fun j m i h=>by simp at h)

theorem Of{ops:Array Oper}{listed:Array Bool}(C:EU ops listed)(hb:Oo 0 ops.toList=true)(hr:Region.ready .any ops listed=[]):∀j,j<ops.size->listed.getD j false=true:=by
 intro j;induction j using Nat.strongRecOn with
 |_ j ih=>
  intro hj
  cases hl:listed.getD j false with
  |true=>rfl
  |false=>
   exfalso
   have:j∈Region.ready .any ops listed:=mem_ready.2 ⟨by
    have:j<listed.size:=by rw[C.size];exact hj
    simp[this]at hl⊢;exact hl,ops[j],Array.getElem?_eq_getElem hj,fun e he hbd=>by
    have h1:=IS _ 0 hb j ops[j] (by simp[hj]) e he hbd;have h2:e.on<j:=by simpa using h1
    exact ih e.on h2 (Nat.lt_trans h2 hj)⟩
   rw[hr]at this
   cases this

theorem aBl{rd:Option Nat}{P:Program}{ops:Array Oper}{Q:Exit->Act->World->Prop}{listed:Array Bool}{a:Act}{w:World}(hs:listed.size=ops.size)(hl:∀j,j<ops.size->listed.getD j false=true)(hQ:Q .normal a w)(fuel:Nat):
 wpAnyIn (fc rd) 0 P .any ops Q fuel listed a w:=by
 have hr:Region.ready .any ops listed=[]:=by
  rcases List.eq_nil_or_concat (Region.ready .any ops listed)with h0|⟨l,j,hj⟩
  exact h0;exfalso;have hj':j∈Region.ready .any ops listed:=by rw[hj];simp
  obtain⟨h1,oj,hoj,_⟩:=mem_ready.1 hj';have hlt:=(Array.getElem?_eq_some_iff.1 hoj).1;have h2:=hl j hlt;simp[hs,hlt]at h1 h2;rw[h1]at h2;cases h2
 cases fuel with
 |zero=>exact⟨hr,hQ⟩
 |succ n=>exact⟨fun _=>hQ,fun j hj=>by rw[hr]at hj;cases hj⟩
theorem UX{rd:Option Nat}{P:Program}{ops:Array Oper}{ws:List (Nat×W)}{Q:Exit->Act->World->Prop}{s0 s':St}{L:Lp}{Φ:Ob}{ds:List Dr}{n:Nat}
 (hn1:n<=ops.size) (hn2:ops.size<=n+1) (hmask:n<ops.size->∃m:Nat,(EY ops.toList [])[n]? =some m/\∀i,i<n->m.testBit i=true)
 (hrun:aDu P ops ws (ops.toList.take n) s0=some (Φ,ds,s')) (hΦ:Φ.ok P L) (hB:aBw ops s0 ds=true):
 ∀(fuel:Nat) (listed:Array Bool) (a:Act) (w:World) (h:Hw) (val:Val),EU ops listed->(n<ops.size->listed.getD n false=false)->((List.range ops.size).filter fun k=> !listed.getD k false).length<=fuel->
  AS (sig (fun i=>listed.getD i false) 0 ds s0) h w val a->
  (∀h' w' val' a',AS s' h' w' val' a'->Nx (sig (fun i=>listed.getD i false) 0 ds s0) h w val s' h' w' val'->(n=ops.size->Q .normal a' w')/\
   (n<ops.size->∀K:Act->World->Prop,(∀a2 w2,Q .normal a2 w2->K a2 w2)->wpOpIn (fc rd) 0 P ops Q n K a' w'))->wpAnyIn (fc rd) 0 P .any ops Q fuel listed a w:=by
 obtain⟨hlen,hend,hall⟩:=KU _ _ _ _ _ hrun hΦ
 have htl:(ops.toList.take n).length=n:=by simp only[List.length_take,Array.length_toList];omega
 rw[htl]at hlen hend
 simp only[aBw,ba]at hB
 obtain⟨⟨hback,hpairs⟩,hnews⟩:=hB
 have hp:∀(j:Nat) (b:Dr) (i:Nat) (a:Dr),ds[j]? =some b->ds[i]? =some a->i<j->∃m:Nat,(EY ops.toList [])[j]? =some m/\HX (m.testBit i) a b=true:=by
  intro j b i a hb ha hij;have hj:j<(EY ops.toList []).length:=by have:=(List.getElem?_eq_some_iff.1 hb).1;rw[KR];simp only[List.length_nil,Nat.zero_add,Array.length_toList];omega
  exact⟨_,List.getElem?_eq_getElem hj,HY _ _ _ hpairs j _ b (List.getElem?_eq_getElem hj) hb i a (by simpa using hij) (by simpa using ha)⟩
 have hsig:∀(listed:Array Bool),(∀j,j<n->listed.getD j false=true)->sig (fun i=>listed.getD i false) 0 ds s0=s':=by
  intro listed hal;rw[hend,MV ds 0];have:∀(l:List Dr) (k:Nat) (s:St),k+l.length<=n->sig (fun i=>listed.getD i false) k l s=sig (fun i=>decide (i<0+n)) k l s:=by
   intro l;induction l with
   |nil=>intro k s _;rfl
   |cons d l ih=>
    intro k s hk
    simp only[List.length_cons]at hk
    have h1:k<0+n:=by omega
    simp only[sig,hal k (by omega),h1,decide_true,if_true]
    exact ih (k+1) _ (by omega)
  exact this ds 0 s0 (by omega)
 have hdone:∀(listed:Array Bool) (a:Act) (w:World) (h:Hw) (val:Val),EU ops listed->(n<ops.size->listed.getD n false=false)->Region.ready .any ops listed=[]->
  AS (sig (fun i=>listed.getD i false) 0 ds s0) h w val a->
  (∀h' w' val' a',AS s' h' w' val' a'->Nx (sig (fun i=>listed.getD i false) 0 ds s0) h w val s' h' w' val'->(n=ops.size->Q .normal a' w')/\
   (n<ops.size->∀K:Act->World->Prop,(∀a2 w2,Q .normal a2 w2->K a2 w2)->wpOpIn (fc rd) 0 P ops Q n K a' w'))->Q .normal a w:=by
  intro listed a w h val C hnl hr H hQ
  have hal:=Of C hback hr
  have e:=hsig listed fun j hj=>hal j (by omega)
  rw[e]at H hQ
  rcases Nat.lt_or_ge n ops.size with hlt|hge
  have h1:=hnl hlt
  rw[hal n hlt]at h1;cases h1
  exact(hQ h w val a H (Nx.refl s' h w val rfl)).1 (by omega)
 intro fuel
 induction fuel with
 |zero=>
  intro listed a w h val C hnl hn H hQ
  have hr:Region.ready .any ops listed=[]:=by
   rcases List.eq_nil_or_concat (Region.ready .any ops listed)with h0|⟨l,j,hj⟩
   exact h0;exfalso;have hj':j∈Region.ready .any ops listed:=by rw[hj];simp
   obtain⟨h1,oj,hoj,_⟩:=mem_ready.1 hj';have hlt:=(Array.getElem?_eq_some_iff.1 hoj).1;have:j∈(List.range ops.size).filter fun k=> !listed.getD k false:=List.mem_filter.2 ⟨List.mem_range.2 hlt,by
    have h2:j<listed.size:=by rw[C.size];exact hlt
    simp[h2]at h1⊢;exact h1⟩
   have:=List.length_pos_of_mem this;omega
  exact⟨hr,hdone listed a w h val C hnl hr H hQ⟩
 |succ fuel ih=>
  intro listed a w h val C hnl hn H hQ
  refine⟨fun hr=>hdone listed a w h val C hnl hr H hQ,fun j hj=>?_⟩
  obtain⟨hj1,oj,hoj,hdeps⟩:=mem_ready.1 hj
  have hlt:=(Array.getElem?_eq_some_iff.1 hoj).1
  have hltL:j<listed.size:=by rw[C.size];exact hlt
  have hj0:listed.getD j false=false:=by simp[hltL]at hj1⊢;exact hj1
  have C':=C.set hj
  have hfl:∀i,(listed.setIfInBounds j true).getD i false=if i=j then true else listed.getD i false:=Ka hltL
  rcases Nat.lt_or_ge j n with hjn|hjn
  rotate_left
  have hjn:j=n:=by omega
  subst hjn
  obtain⟨m,hm,hmb⟩:=hmask hlt
  have hal:∀i,i<j->listed.getD i false=true:=fun i hi=>by have:=C'.good j m i hm (hmb i hi) (by simp only[hfl,if_true]);simp only[hfl]at this;rwa [if_neg (by omega)]at this
  have e:=hsig listed hal
  rw[e]at H hQ
  refine(hQ h w val a H (Nx.refl s' h w val rfl)).2 hlt _ fun a2 w2 hq=>aBl C'.size (fun i hi=>?_) hq fuel
  rw[hfl]
  split
  rfl
  exact hal i (by omega)
  obtain⟨d,Φ',hd,hΦ',hst,hts,hvs,hns,hlo⟩:=hall j oj (by rw[List.getElem?_take,if_pos hjn];simpa using hoj)
  --two that are not ordered
  have hun1:∀(i:Nat) (a:Dr),ds[i]? =some a->i<j->HX (((EY ops.toList []).getD j 0).testBit i) a d=true:=by intro i a ha hij;obtain⟨m,hm,hpb⟩:=hp j d i a hd ha hij;simpa[List.getD,hm]using hpb
  have hun2:∀(i:Nat) (a:Dr),ds[i]? =some a->j<i->listed.getD i false=true->HX false d a=true:=by
   intro i a ha hij hL;obtain⟨m,hm,hpb⟩:=hp i a j d ha hd hij;cases hb:m.testBit j with
   |false=>rwa [hb]at hpb
   |true=>
    have h1:=C.good i m j hm hb hL
    simp only at h1
    rw[hj0]at h1
    cases h1
  have hun3:∀(i:Nat) (a:Dr),ds[i]? =some a->i<j->listed.getD i false=false->HX false a d=true:=by
   intro i a ha hij hL;obtain⟨m,hm,hpb⟩:=hp j d i a hd ha hij;cases hb:m.testBit i with
   |false=>rwa [hb]at hpb
   |true=>
    have:=C'.good j m i hm hb (by simp only[hfl,if_true])
    simp only[hfl]at this
    rw[if_neg (by omega),hL]at this
    cases this
  have hspec:∀{a b:Dr},HX false a b=true->aD5 a b=true/\MC a.c b=true/\MC b.c a=true/\Je a.c b.c=true/\Je b.c a.c=true/\aD5 b a=true:=by intro a b h;simp only[HX,Bool.false_or,ba]at h;exact⟨h.1,h.2.1.1.1.1,h.2.1.1.1.2,h.2.1.1.2,h.2.1.2,h.2.2⟩
  have hfp:FP d.ts (fun n=>AR n d.vs) (pre ds j s0) (sig (fun i=>listed.getD i false) 0 ds s0):=by
   rw[MV ds 0];refine aEe ds 0 (fun i a ha hne=>?_) (FP.refl _ _ _);simp only[Nat.zero_add]at hne;rcases Nat.lt_trichotomy i j with hij|hij|hij
   simp only[hij,decide_true]at hne;have hL:listed.getD i false=false:=by
    cases hh:listed.getD i false with
    |false=>rfl
    |true=>rw[hh]at hne;exact absurd rfl hne
   exact(hspec (hun3 i a ha hij hL)).2.1;subst hij;exfalso;apply hne;rw[hj0];simp;have:¬i<j:=by omega
   simp only[this,decide_false]at hne;have hL:listed.getD i false=true:=by
    cases hh:listed.getD i false with
    |true=>rfl
    |false=>rw[hh]at hne;exact absurd rfl hne
   exact(hspec (hun2 i a ha hij hL)).2.2.1
  rw[hts,hvs]at hfp
  have hfr:d.c.es.any Ea=true->∀x,oj.dst=some x->fresh x (sig (fun i=>listed.getD i false) 0 ds s0)=true:=by
   intro hadd x hx;have hdst:d.c.dst=some x:=by
    have:d.c.dst=oj.dst:=by unfold KV at hst;split at hst;split at hst;split at hst;simp only[oe,pe]at hst;rw[<-hst.2];split at hst;simp only[oe,pe]at hst;rw[<-hst.2];cases hst;simp only[oe,pe]at hst;rw[<-hst.2];cases hst;cases hst
    rw[this];exact hx
   have hnb:∀{a:Dr},aD5 a d=true->a.c.free x=true:=by intro a h;simp only[aD5,hadd,Bool.not_true,Bool.false_or,hdst,ba]at h;exact h.1
   refine Hh ds 0 (fun i a ha hL=>?_) ((FM ds hnews j d hd).1 hadd x hdst);simp only[Nat.zero_add]at hL;rcases Nat.lt_trichotomy i j with hij|hij|hij
   have:=hun1 i a ha hij;simp only[HX,ba]at this;exact hnb this.1;subst hij;rw[hj0]at hL;cases hL;exact hnb (hspec (hun2 i a ha hij hL)).2.2.2.2.2
  have hfn:∀x∈nns (wOf ws oj),fresh x (sig (fun i=>listed.getD i false) 0 ds s0)=true:=by
   intro x hx;rw[<-hns]at hx;have hnb:∀{a:Dr},aD5 a d=true->a.c.free x=true:=by intro a h;simp only[aD5,ba]at h;exact Av h.2 x hx
   refine Hh ds 0 (fun i a ha hL=>?_) ((FM ds hnews j d hd).2 x hx);simp only[Nat.zero_add]at hL;rcases Nat.lt_trichotomy i j with hij|hij|hij
   have:=hun1 i a ha hij;simp only[HX,ba]at this;exact hnb this.1;subst hij;rw[hj0]at hL;cases hL;exact hnb (hspec (hun2 i a ha hij hL)).2.2.2.2.2
  have hst':=Oz hst hfp hlo hfn hfr
  have hins:sig (fun i=>(listed.setIfInBounds j true).getD i false) 0 ds s0=d.c.ap (sig (fun i=>listed.getD i false) 0 ds s0):=
   In (fl:=fun i=>listed.getD i false) hfl hj0 ds 0 s0 (Nat.zero_le _) (by simpa using hd) fun i a ha hij hL=>by simp only[Nat.zero_add]at hij hL;exact(hspec (hun2 i a ha hij hL)).2.2.2.2.1
  refine aBx hst' hΦ' H hoj fun h' w' val' a' H' hn'=>?_
  rw[<-hins]at H' hn'
  refine ih (listed.setIfInBounds j true) a' w' h' val' C' (fun hlt=>by rw[hfl,if_neg (by omega)];exact hnl hlt) ?_ H' fun h2 w2 v2 a2 H2 hn2=>hQ h2 w2 v2 a2 H2 (hn'.trans hn2)
  have:=aKx (n:=ops.size) hfl hlt hj0
  omega

theorem D1(m j:Nat):(Array.replicate m false).getD j false=false:=by
 rcases Nat.lt_or_ge j m with h|h
 simp[h];simp[h]
theorem Eo(n:Nat):∀(ds:List Dr) (k:Nat) (s:St),sig (fun i=>(Array.replicate n false).getD i false) k ds s=s
 |[],_,_=>rfl
 |d::ds,k,s=>by
  simp only[sig,D1,Bool.false_eq_true,if_false];have:=Eo n ds (k+1) s;simpa only[D1]using this
def aKm(T:List Nat)(n:Nat):Bool:=match T[n]? with
 |some m=>(List.range n).all fun i=>m.testBit i
 |none=>false
def Lx(P:Program)(ops:Array Oper)(draws:Bool)(ws:List (Nat×W))(s:St):Option (Ob×St):=
 if draws then match aDu P ops ws ops.toList s with
  |some (Φ,ds,s')=>if aBw ops s ds then some (Φ,s')else none
  |none=>match ops[ops.size-1]? with
   |none=>none
   |some o=>match aDu P ops ws (ops.toList.take (ops.size-1)) s with
    |none=>none
    |some (Φ,ds,s1)=>if aBw ops s ds&&aKm (EY ops.toList []) (ops.size-1)then match aBo P ops ws s1 o with
     |some (Ψ,s2)=>some (Φ.and Ψ,s2)
     |none=>none
     else none
 else aDn P ops ws ops.toList s

theorem BS.drew(M:List Nat)(h:Hw)(w:World):BS M h w h {w with drawn:=w.drawn+1}:=
 ⟨rfl,rfl,rfl,Nat.le_refl _,fun _ _ _ _ hc=>hc,fun _ _=>Nat.le_refl _,fun _ _ _=>⟨rfl,rfl⟩⟩

theorem Ok{rd:Option Nat}{P:Program}{id:Nat}{ops:Array Oper}{draws:Bool}{ws:List (Nat×W)}{s s':St}{L:Lp}{Φ:Ob}{Q:Exit->Act->World->Prop}(hm:P.follows .mixedOrders=true)
 (he:Lx P ops draws ws s=some (Φ,s')) (hΦ:Φ.ok P L) {h w val a} (H:AS s h w val a)
 (hQ:∀h' w' val' a',AS s' h' w' val' a'->Nx s h w val s' h' w' val'->Q .normal a' w'):(Code.region id ops draws).wpIn (fc rd) 0 P Q a w:=by
 unfold Lx at he
 cases draws with
 |true=>
  simp only[if_true]at he
  have hk:=BS.drew [] h w
  have hq:=H.quiet hk
  have hcl:EU ops (Array.replicate ops.size false):=⟨by simp,fun j o _ hl=>by rw[D1]at hl;cases hl⟩
  have hun:((List.range ops.size).filter fun k=> !(Array.replicate ops.size false).getD k false).length<=ops.size:=Nat.le_trans (List.length_filter_le _ _) (by simp)
  split at he
  rename_i Φ' ds s1 hr
  split at he
  rename_i hB
  simp only[oe,pe]at he
  obtain⟨rfl,rfl⟩:=he
  have hr':aDu P ops ws (ops.toList.take ops.size) s=some (Φ',ds,s1):=by rw[List.take_of_length_le (by simp)];exact hr
  refine wpIn_region_any hm (UX (Nat.le_refl _) (by omega) (fun h=>absurd h (Nat.lt_irrefl _)) hr' hΦ hB _ _ _ _ h val hcl (fun h=>absurd h (Nat.lt_irrefl _)) hun ?_ ?_)
  rw[Eo];exact hq
  intro h' w' val' a' H' hn
  rw[Eo]at hn
  exact⟨fun _=>hQ h' w' val' a' H' (Nx.trans ⟨BS.drew _ h w,fun _ _=>rfl,fun b hb=>.inl hb⟩ hn),fun h=>absurd h (Nat.lt_irrefl _)⟩
  cases he
  split at he
  cases he
  rename_i o ho
  split at he
  cases he
  rename_i Φ' ds s1 hr
  split at he
  rename_i hB
  split at he
  rename_i Ψ s2 ha
  simp only[oe,pe]at he
  obtain⟨rfl,rfl⟩:=he
  obtain⟨hΦ1,hΨ⟩:=Ob.and_ok hΦ
  simp only[ba]at hB
  have hlt:=(Array.getElem?_eq_some_iff.1 ho).1
  have hmask:ops.size-1<ops.size->∃m:Nat,(EY ops.toList [])[ops.size-1]? =some m/\∀i,i<ops.size-1->m.testBit i=true:=fun _=>by have h2:=hB.2;unfold aKm at h2;split at h2;rename_i m hm;exact⟨m,hm,fun i hi=>List.all_eq_true.1 h2 i (List.mem_range.2 hi)⟩;cases h2
  refine wpIn_region_any hm (UX (by omega) (by omega) hmask hr hΦ1 hB.1 _ _ _ _ h val hcl (fun _=>D1 _ _) hun ?_ ?_)
  rw[Eo];exact hq
  intro h' w' val' a' H' hn
  rw[Eo]at hn
  refine⟨fun h=>absurd h (by omega),fun _ K hK=>JZ ha hΨ H' ho fun h2 w2 v2 a2 H2 hn2=>hK _ _ ?_⟩
  exact hQ h2 w2 v2 a2 H2 (Nx.trans ⟨BS.drew _ h w,fun _ _=>rfl,fun b hb=>.inl hb⟩ (hn.trans hn2))
  cases he
  cases he
 |false=>
  simp only[Bool.false_eq_true,if_false]at he
  refine wpIn_region ?_
  have:=Lz (rd:=rd) (Q:=Q) ops.toList 0 s s' Φ (fun j=>by simp) he hΦ h w val a H hQ
  simpa[List.range_eq_range']using this
end Go.Ac
namespace Go.Ac

def AC(P:Program)(rd:Option Nat)(c:Code)(s:St)(Ψ:Ex->St->Prop):Prop:=
 ∀h w val a,AS s h w val a->∀Q:Exit->Act->World->Prop,
  (∀e s' h' w' val' a',Ψ e s'->AS s' h' w' val' a'->Nx s h w val s' h' w' val'->Q e.toExit a' w')->c.wpIn (fc rd) 0 P Q a w

def Hz:Code->Nat->Code
 | .seq a _,0=>a
 | .seq _ b,_=>b
 | .cond _ a _,0=>a
 | .cond _ _ b,_=>b
 | .block _ b,_=>b
 | .loop b,_=>b
 | .scope b,_=>b
 | .rangeFunc _ _ a _,0=>a
 | .rangeFunc _ _ _ b,_=>b
 |_,_=>.skip
def As(root:Code):List Nat->Code
 |[]=>root
 |i::p=>Hz (As root p) i

def Wk(s s':St):Prop:=∀h w val a,AS s h w val a->∃h' val',AS s' h' w val' a/\Nx s h w val s' h' w val'
theorem Wk.refl(s:St):Wk s s:=fun h w val _ H=>⟨h,val,H,Nx.refl s h w val rfl⟩
theorem Wk.trans{s s1 s2:St}(a:Wk s s1)(b:Wk s1 s2):Wk s s2:=fun h w val x H=>
 let ⟨h1,v1,H1,n1⟩:=a h w val x H
 let ⟨h2,v2,H2,n2⟩:=b h1 w v1 x H1
 ⟨h2,v2,H2,n1.trans n2⟩
theorem AC.wk{P:Program}{rd:Option Nat}{c:Code}{s s':St}{Ψ:Ex->St->Prop}(hw:Wk s s')(h:AC P rd c s' Ψ):AC P rd c s Ψ:=by intro h' w val a H Q hQ;obtain⟨h1,v1,H1,n1⟩:=hw h' w val a H;exact h h1 w v1 a H1 Q fun e s2 h2 w2 v2 a2 hΨ H2 n2=>hQ e s2 h2 w2 v2 a2 hΨ H2 (n1.trans n2)
theorem AC.post{P:Program}{rd:Option Nat}{c:Code}{s:St}{Ψ Ψ':Ex->St->Prop}(h:AC P rd c s Ψ)(hp:∀e s1,Ψ e s1->∃s2,Wk s1 s2/\Ψ' e s2):AC P rd c s Ψ':=by intro h' w val a H Q hQ;refine h h' w val a H Q fun e s1 h1 w1 v1 a1 hΨ H1 n1=>?_;obtain⟨s2,hw,hΨ'⟩:=hp e s1 hΨ;obtain⟨h2,v2,H2,n2⟩:=hw _ _ _ _ H1;exact hQ e s2 h2 w1 v2 a1 hΨ' H2 (n1.trans n2)

theorem AC.seq{P:Program}{rd:Option Nat}{x y:Code}{s:St}{Ψ:Ex->St->Prop}(h:AC P rd x s fun e s1=>match e with| .normal=>AC P rd y s1 Ψ|e=>Ψ e s1):AC P rd (.seq x y) s Ψ:=by
 intro h' w val a H Q hQ;refine wpIn_seq (h h' w val a H _ fun e s1 h1 w1 v1 a1 hΨ H1 n1=>?_);cases e with
 |normal=>exact hΨ h1 w1 v1 a1 H1 Q fun e s2 h2 w2 v2 a2 hΨ2 H2 n2=>hQ e s2 h2 w2 v2 a2 hΨ2 H2 (n1.trans n2)
 |exit id=>exact hQ _ s1 h1 w1 v1 a1 hΨ H1 n1
 |ret=>exact hQ _ s1 h1 w1 v1 a1 hΨ H1 n1
theorem AC.cond{P:Program}{rd:Option Nat}{c:Operand}{x y:Code}{s:St}{b:Bool}{Ψ:Ex->St->Prop}(hc:s.ev c=bo b)(h:AC P rd (if b then x else y) s Ψ):AC P rd (.cond c x y) s Ψ:=by intro h' w val a H Q hQ;have:=H.ev c;rw[hc]at this;simp only[bo,RA,RD]at this;exact wpIn_cond this.1 (h h' w val a H Q hQ)
theorem AC.block{P:Program}{rd:Option Nat}{id:Nat}{c:Code}{s:St}{Ψ:Ex->St->Prop}(h:AC P rd c s fun e s1=>match e with| .exit j=>if j=id then Ψ .normal s1 else Ψ (.exit j) s1|e=>Ψ e s1):AC P rd (.block id c) s Ψ:=by
 intro h' w val a H Q hQ;refine wpIn_block (h h' w val a H _ fun e s1 h1 w1 v1 a1 hΨ H1 n1=>?_);cases e with
 |normal=>exact hQ _ s1 h1 w1 v1 a1 hΨ H1 n1
 |exit j=>
  simp only[Ex.toExit,Exit.inBlock]
  simp only at hΨ
  split at hΨ
  rename_i hj;rw[if_pos hj];exact hQ .normal s1 h1 w1 v1 a1 hΨ H1 n1
  rename_i hj;rw[if_neg hj];exact hQ (.exit j) s1 h1 w1 v1 a1 hΨ H1 n1
 |ret=>exact hQ _ s1 h1 w1 v1 a1 hΨ H1 n1

section
variable {P:Program} {b:Frame} {a:Act} {k:List Item} {cs:List Frame} {w:World}
theorem B1{c:Code}:step P (lone (b.atR a (.code (.scope c)::k)) cs w)=.next (lone (b.atR a (.code c:: .inScope c::k)) cs w):=
 step_lone_go (by simp[stepG,stepG.exec,Frame.atR])
theorem IC{c:Code}:step P (lone (b.atR a (.inScope c::k)) cs w)=.next (lone (b.atR a k) cs w):=
 step_lone_go (by simp[stepG,stepG.exec,Frame.atR])
end
theorem PE{F:Fence}{n:Nat}{P:Program}{c:Code}{Q:Exit->Act->World->Prop}{a:Act}{w:World}
 (h:c.wpIn F n P (fun e a w=>match e with| .goto _=>False|e=>Q e a w) a w):(Code.scope c).wpIn F n P Q a w:=by
 intro b k cs hro hb hr
 have h0:(lone (b.atR a (.code (.scope c)::k)) cs w).fenced P F:=fenced_calm hb hr rfl
 obtain⟨e,a₁,w₁,hq,harr⟩:=h b (.inScope c::k) cs hro hb hr
 cases e with
 |normal=>exact⟨.normal,a₁,w₁,hq,.head h0 B1 (StepsIn.trans harr (.one (fenced_calm hb hr rfl) IC))⟩
 |exit id'=>
  have hx:exitTo id' (.inScope c::k)=exitTo id' k:=by simp[exitTo]
  exact⟨.exit id',a₁,w₁,hq,fun k' hk=>.head h0 B1 (harr.1 k' (by rw[hx];exact hk)),
   fun hr' hk=>let ⟨k₁,h1,h2⟩:=harr.2 hr' (by rw[hx];exact hk);⟨k₁,h1,.head h0 B1 h2⟩⟩
 |goto l=>exact hq.elim
 |ret=>exact⟨_,a₁,w₁,hq,.of_steps (.one h0 B1) harr⟩
 |panic ch=>exact⟨_,a₁,w₁,hq,.of_steps (.one h0 B1) harr⟩
 |outgrown=>exact⟨_,a₁,w₁,hq,.of_steps (.one h0 B1) harr⟩
theorem AC.scope{P:Program}{rd:Option Nat}{c:Code}{s:St}{Ψ:Ex->St->Prop}(h:AC P rd c s Ψ):AC P rd (.scope c) s Ψ:=by
 intro h' w val a H Q hQ;refine PE (h h' w val a H _ fun e s1 h1 w1 v1 a1 hΨ H1 n1=>?_);cases e with
 |normal=>exact hQ .normal s1 h1 w1 v1 a1 hΨ H1 n1
 |exit j=>exact hQ (.exit j) s1 h1 w1 v1 a1 hΨ H1 n1
 |ret=>exact hQ .ret s1 h1 w1 v1 a1 hΨ H1 n1

theorem Fm{F:Fence}{rm:Nat}{P:Program}{Q:Exit->Act->World->Prop}{a:Act}{w:World}{c:Code}(I:Nat->Act->World->Prop)(n₀:Nat)(h₀:I n₀ a w)
 (round:∀n a w,I n a w->c.wpIn F rm P (Exit.then (fun a' w'=>∃n',n'<n/\I n' a' w') Q) a w):(Code.loop c).wpIn F rm P Q a w:=by
 refine wpIn_loop (fun a w=>∃n,I n a w) (fun a w=>leastOf (fun n=>I n a w)) ⟨n₀,h₀⟩ ?_
 intro a w hI
 refine wpIn_mono (round _ a w (leastOf_spec hI).1) ?_
 intro e a' w' hq
 cases e with
 |normal=>
  obtain⟨n',hlt,hI'⟩:=hq
  exact show(∃n,I n a' w')/\leastOf (fun n=>I n a' w')<leastOf (fun n=>I n a w)from⟨⟨n',hI'⟩,Nat.lt_of_le_of_lt ((leastOf_spec ⟨n',hI'⟩).2 n' hI') hlt⟩
 |exit id=>exact hq
 |goto l=>exact hq
 |ret=>exact hq
 |panic ch=>exact hq
 |outgrown=>exact hq

theorem AC.loop{P:Program}{rd:Option Nat}{c:Code}{ι:Type}(I:ι->St)(μ:ι->Nat)(Ψ:ι->Ex->St->Prop)
 (hr:∀i,AC P rd c (I i) fun e s1=>match e with| .normal=>∃j,μ j<μ i/\Wk s1 (I j)/\(∀e s,Ψ j e s->Ψ i e s)|e=>Ψ i e s1) (i:ι):AC P rd (.loop c) (I i) (Ψ i):=by
 intro h w val a H Q hQ
 refine Fm (fun n a' w'=>∃j h' val',μ j=n/\AS (I j) h' w' val' a'/\Nx (I i) h w val (I j) h' w' val'/\(∀e s,Ψ j e s->Ψ i e s)) (μ i) ⟨i,h,val,rfl,H,Nx.refl _ h w val rfl,fun _ _ x=>x⟩ ?_
 rintro n a' w' ⟨j,h',val',rfl,H',n',hj⟩
 refine hr j h' w' val' a' H' _ fun e s1 h1 w1 v1 a1 hΨ H1 n1=>?_
 cases e with
 |normal=>
  obtain⟨k,hlt,hw,hk⟩:=hΨ
  obtain⟨h2,v2,H2,n2⟩:=hw _ _ _ _ H1
  exact⟨μ k,hlt,k,h2,v2,rfl,H2,(n'.trans n1).trans n2,fun e s x=>hj e s (hk e s x)⟩
 |exit id=>exact hQ _ s1 h1 w1 v1 a1 (hj _ _ hΨ) H1 (n'.trans n1)
 |ret=>exact hQ _ s1 h1 w1 v1 a1 (hj _ _ hΨ) H1 (n'.trans n1)

def MM(live:Nat->Bool):Nat->List A->List A
 |_,[]=> []
 |i,a::l=>(if live i then a else .any)::MM live (i+1) l
theorem Nl{h w val}(live:Nat->Bool):∀(l:List A) (i:Nat) (us:List Value),RAs h w val l us->RAs h w val (MM live i l) us
 |[],_,us,hr=>by simpa[MM,RAs]using hr
 |a::l,i,us,hr=>by
  simp only[RAs]at hr;obtain⟨u,us',e,h1,h2⟩:=hr;simp only[MM,RAs];refine⟨u,us',e,?_,Nl live l (i+1) us' h2⟩;split;exact h1;simp[RA]
theorem Wk.mask(live:Nat->Bool)(s:St):Wk s {s with E:=MM live 0 s.E}:=fun h w val _ H=>
 ⟨h,val,⟨Nl live _ 0 _ H.e,H.inv,H.far,H.defs⟩,Nx.refl s h w val rfl⟩

theorem Inv.sub{h w val}{B B':Bx}(hs:B'.Sublist B)(I:Inv h w val B):Inv h w val B':=
 ⟨fun p hp=>I.rep p (hs.subset hp),(hs.map _).nodup I.nms,(hs.filterMap _).nodup I.bks⟩
theorem Wk.drop(p:Nat×Bk->Bool)(s:St):Wk s {s with B:=s.B.filter p}:=fun h w val _ H=>by have hs:(s.B.filter p++s.F).Sublist s.all:=List.Sublist.append List.filter_sublist (List.Sublist.refl _);exact⟨h,val,⟨H.e,H.inv.sub hs,H.far,H.defs⟩,⟨BS.refl _ _ _,fun _ _=>rfl,fun b hb=>.inl ((hs.filterMap _).subset hb)⟩⟩
end Go.Ac
namespace Go.Ac

mutual
def A.ren(n m:Nat):A->A
 | .box k off=>.box (if k=n then m else k) off
 | .bsl k off l=>.bsl (if k=n then m else k) off l
 | .ep q k i off=>.ep (if q=n then m else q) k i off
 | .row k=>.row (if k=n then m else k)
 | .clo f fs cs=>.clo f (PM n m fs) (PM n m cs)
 | .agg cs=>.agg (PM n m cs)
 | .tup vs=>.tup (PM n m vs)
 |a=>a
def PM(n m:Nat):List A->List A
 |[]=> []
 |a::as'=>a.ren n m::PM n m as'
end
def Bk.ren(n m:Nat):Bk->Bk
 | .cells cs=>.cells (PM n m cs)
 | .vals as' us=>.vals (PM n m as') us
 | .mit k clk seen=>.mit (if k=n then m else k) clk seen
 |b=>b
mutual
theorem RA.ren{h w}{val:Val}{n m:Nat}(hm:m<up):∀(a:A) (u:Value),a.has m=false->RA h w val a u->RA h w (Ar val m (val n)) (a.ren n m) u
 | .d x,u,_,hr=>by simpa only[RA,A.ren]using hr
 | .box k off,u,hn,hr=>by
  simp[A.has]at hn;simp only[RA,A.ren]at hr⊢;obtain⟨b,e1,e2⟩:=hr;refine⟨b,?_,e2⟩;split;rename_i hk;subst hk;simpa[Ar]using e1;simpa[Ar,hn]using e1
 | .bsl k off l,u,hn,hr=>by
  simp[A.has]at hn;simp only[RA,A.ren]at hr⊢;obtain⟨b,c,e1,e2⟩:=hr;refine⟨b,c,?_,e2⟩;split;rename_i hk;subst hk;simpa[Ar]using e1;simpa[Ar,hn]using e1
 | .ep q k i off,u,hn,hr=>by
  simp[A.has]at hn;simp only[RA,A.ren]at hr⊢;obtain⟨b,e1,e2⟩:=hr;refine⟨b,?_,e2⟩;split;rename_i hk;subst hk;simpa[Ar]using e1;simpa[Ar,hn]using e1
 | .row k,u,hn,hr=>by
  simp[A.has]at hn;simp only[RA,A.ren]at hr⊢;refine⟨?_,hr.2⟩;rw[hr.1];split;rename_i hk;subst hk;simp[Ar];simp[Ar,hn]
 | .eptr cs,u,_,hr=>by simpa only[RA,A.ren]using hr
 | .clo f first cap,u,hn,hr=>by
  simp only[A.has,Bool.or_eq_false_iff]at hn;simp only[RA,A.ren]at hr⊢;obtain⟨fs,cs,e,h1,h2⟩:=hr;exact⟨fs,cs,e,RAs.ren hm first fs hn.1 h1,RAs.ren hm cap cs hn.2 h2⟩
 | .agg cs,u,hn,hr=>by
  simp only[A.has]at hn;simp only[RA,A.ren]at hr⊢;obtain⟨us,e,h1,h2⟩:=hr;exact⟨us,e,RAs.ren hm cs us hn h1,h2⟩
 | .tup cs,u,hn,hr=>by
  simp only[A.has]at hn;simp only[RA,A.ren]at hr⊢;obtain⟨us,e,h1⟩:=hr;exact⟨us,e,RAs.ren hm cs us hn h1⟩
 | .opq a,u,_,hr=>by
  simp only[RA,A.ren]at hr⊢;have:(fun k=>Ar val m (val n) (k+up))=fun k=>val (k+up):=by
   funext k;have:¬k+up=m:=by omega
   simp[Ar,this]
  rw[this];exact hr
 | .nil,u,_,hr=>by simpa only[RA,A.ren]using hr
 | .ub,u,_,hr=>by simpa only[RA,A.ren]using hr
 | .any,u,_,hr=>by simp[RA,A.ren]
theorem RAs.ren{h w}{val:Val}{n m:Nat}(hm:m<up):∀(as':List A) (us:List Value),AR m as'=false->RAs h w val as' us->RAs h w (Ar val m (val n)) (PM n m as') us
 |[],us,_,hr=>by simpa[RAs,PM]using hr
 |a::as',us,hn,hr=>by
  simp only[AR,Bool.or_eq_false_iff]at hn;simp only[RAs,PM]at hr⊢;obtain⟨u,us',e,h1,h2⟩:=hr;exact⟨u,us',e,RA.ren hm a u hn.1 h1,RAs.ren hm as' us' hn.2 h2⟩
end
def K8(n m:Nat)(p:Nat×Bk):Nat×Bk:=(if p.1=n then m else p.1,p.2.ren n m)
theorem Wk.ren{n m:Nat}{s:St}(hm:m<up)(hE:AR m s.E=false)(hB:Be m s.B=false):Wk s {s with E:=PM n m s.E,B:=s.B.map (K8 n m)}:=by
 intro h w val a H;have hap:∀p∈s.all,p.1≠m/\p.2.has m=false:=fun p hp=>by
  rcases ma.1 hp with hp|hp
  exact Bd hB p hp;exact H.far m (.inl hm) p hp
 have hv:∀k,k≠m->Ar val m (val n) k=val k:=fun k hk=>by simp[Ar,hk]
 have hval:∀p:Nat×Bk,p.1≠m->Ar val m (val n) (K8 n m p).1=val p.1:=fun p hp=>by simp only[K8];split;rename_i e;simp[Ar,e];exact hv _ hp
 have hold:∀b:Bk,(b.ren n m).isOld=b.isOld:=fun b=>by cases b<;>rfl
 have hblk:∀p:Nat×Bk,p.1≠m->Ae (Ar val m (val n)) (K8 n m p)=Ae val p:=fun p hp=>by have h1:=hval p hp;have h2:(K8 n m p).2.isOld=p.2.isOld:=hold p.2;simp only[Ae,h1,h2]
 have hblB:AV (Ar val m (val n)) (s.B.map (K8 n m))=AV val s.B:=by
  simp only[AV,List.filterMap_map];have:∀(l:Bx),(∀p∈l,p.1≠m)->l.filterMap (Ae (Ar val m (val n)) ∘ K8 n m)=l.filterMap (Ae val):=by
   intro l;induction l with
   |nil=>intro _;rfl
   |cons p l ih=>
    intro hl
    simp only[List.filterMap_cons,Function.comp_apply,hblk p (hl p (by simp)),ih fun q hq=>hl q (by simp[hq])]
  exact this s.B fun p hp=>(hap p (ml _ hp)).1
 have hblF:AV (Ar val m (val n)) s.F=AV val s.F:=A6 fun k hk=>by obtain⟨p,hp,rfl⟩:=mm.1 hk;exact hv _ (hap p (mr _ hp)).1
 have hbl:AV (Ar val m (val n)) (s.B.map (K8 n m)++s.F)=AV val s.all:=by rw[AN,hblB,hblF,<-AN];rfl
 refine⟨h,Ar val m (val n),⟨RAs.ren hm _ _ hE H.e,⟨?_,?_,?_⟩,H.far,H.defs.val (hv _ (by have:m<up:=hm;simp only[up]at this;simp only[bn];omega))⟩,⟨BS.refl _ _ _,fun k hk=>hv k (by have:=ID hk;omega),fun b hb=>.inl (by have hb':b∈AV (Ar val m (val n)) (s.B.map (K8 n m)++s.F):=hb;rwa [hbl]at hb')⟩⟩
 intro p hp;rcases ma.1 hp with hp|hp
 obtain⟨q,hq,rfl⟩:=mm.1 hp;have hrb:=H.inv.rep q (ml _ hq);obtain⟨h1,h2⟩:=hap q (ml _ hq);have hvq:=hval q h1;obtain⟨qn,qb⟩:=q;simp only[K8]at hvq⊢;cases qb with
 |cells cs=>
  simp only[Bk.ren,RB]at hrb⊢
  obtain⟨b,us,t,e1,e2,e3,e4,e5⟩:=hrb
  exact⟨b,us,t,by rw[hvq];exact e1,e2,RAs.ren hm _ _ (by simpa[Bk.has]using h2) e3,e4,e5⟩
 |row e k xs=>
  simp only[Bk.ren,RB]at hrb⊢
  rw[hvq];exact hrb
 |rw e k xs=>
  simp only[Bk.ren,RB]at hrb⊢
  rw[hvq];exact hrb
 |dead=>trivial
 |old xs=>
  simp only[Bk.ren,RB]at hrb⊢
  rw[hvq];exact hrb
 |fz cs=>
  simp only[Bk.ren,RB]at hrb⊢
  rw[hvq];exact hrb
 |buf sl e k xs=>
  simp only[Bk.ren,RB]at hrb⊢
  rw[hvq];exact hrb
 |vals as' us=>
  simp only[Bk.ren,RB]at hrb⊢
  exact RAs.ren hm _ _ (by simpa[Bk.has]using h2) hrb
 |obj g o=>
  simp only[Bk.ren,RB]at hrb⊢
  rw[hvq];exact hrb
 |map clk es=>
  simp only[Bk.ren,RB]at hrb⊢
  rw[hvq];exact hrb
 |mapS es=>
  simp only[Bk.ren,RB]at hrb⊢
  rw[hvq];exact hrb
 |bag e k xs=>
  simp only[Bk.ren,RB]at hrb⊢
  rw[hvq];exact hrb
 |mit k clk seen=>
  simp only[Bk.ren,RB]at hrb⊢
  rw[hvq]
  obtain⟨r,b,e1,e2,e3⟩:=hrb
  have hk:k≠m:=by simpa[Bk.has]using h2
  refine⟨r,b,e1,?_,e3⟩
  split
  rename_i hkn;subst hkn;simpa[Ar]using e2
  rw[hv k hk];exact e2
 obtain⟨h1,h2⟩:=hap p (mr _ hp);exact RB.upd hv h1 h2 (H.inv.rep p (mr _ hp));have hn:=H.inv.nms;have hnd:∀l:Bx,(∀p∈l,p.1≠m)->(AI l).Nodup->(AI (l.map (K8 n m))).Nodup:=by
  intro l;induction l with
  |nil=>intro _ _;exact List.nodup_nil
  |cons p l ih=>
   intro hl hd
   simp only[AI,List.map_cons,List.nodup_cons]at hd⊢
   refine⟨fun hm'=>?_,ih (fun q hq=>hl q (by simp[hq])) hd.2⟩
   simp only[List.map_map,mm,Function.comp_apply]at hm'
   obtain⟨q,hq,he⟩:=hm'
   apply hd.1
   simp only[mm]
   refine⟨q,hq,?_⟩
   have hq1:=hl q (by simp[hq])
   have hp1:=hl p (by simp)
   simp only[K8]at he
   split at he<;>split at he
   rename_i a1 a2;rw[a1,a2]
   exact absurd he.symm hp1
   exact absurd he hq1
   exact he
 show(AI (s.B.map (K8 n m)++s.F)).Nodup;have hn':(AI (s.B++s.F)).Nodup:=hn;rw[AJ,List.nodup_append]at hn'⊢;refine⟨hnd s.B (fun p hp=>(hap p (ml _ hp)).1) hn'.1,hn'.2.1,fun x hx y hy=>?_⟩;simp only[AI,List.map_map,mm,Function.comp_apply]at hx;obtain⟨q,hq,rfl⟩:=hx;simp only[K8];split;intro e;obtain⟨p,hp,rfl⟩:=mm.1 hy;exact(hap p (mr _ hp)).1 e.symm;exact hn'.2.2 _ (mm.2 ⟨q,hq,rfl⟩) y hy;show(AV (Ar val m (val n)) (s.B.map (K8 n m)++s.F)).Nodup;rw[hbl];exact H.inv.bks

theorem Wk.nil{t n:Nat}{e:TypeId}{k:Nat}{s:St}(hf:fresh n s=true)(ht:s.E[t]? =some .nil):Wk s {s with E:=s.E.set t (.row n),B:=DG n (.row e k []) s.B}:=by
 intro h w val a H;obtain⟨f1,f2,f3⟩:=BN hf;have hrb:RB h w (Ar val n (.slice none 0 0)) n (.row e k []):=by
  refine⟨[],?_,by simp[Ah],fun g hg=>?_⟩;have:Ar val n (.slice none 0 0) n=.slice none 0 0:=by simp[Ar]
  rw[this];exact World.ownsRow_nil w 0 e k;have:Ar val n (.slice none 0 0) n=.slice none 0 0:=by simp[Ar]
  rw[this]at hg;simp[Value.ownBlock]at hg
 obtain⟨h1,h2⟩:=H.add f1 f2 f3 (BS.refl [] h w) (fun b _=>by simp) (fun _ hm=>by cases hm) (.slice none 0 0) (.row e k []) (fun b hb=>by simp[Bs]at hb) rfl hrb;refine⟨h,Ar val n (.slice none 0 0),?_,?_⟩;have h3:=(AS.ins (E:=s.E) (B:=s.B) (F:=s.F) h1);refine⟨?_,h3.inv,h3.far,h3.defs⟩;obtain⟨u,hu,hr⟩:=RAs.get H.e t _ ht;simp only[RA]at hr;subst hr;have:=h3.e.set t (a:=.row n) (u:=.slice none 0 0) (by simp only[RA];exact⟨by simp[Ar],hnd.sl _ _ _⟩);have he:a.tmps.toList.set t (.slice none 0 0)=a.tmps.toList:=by apply List.ext_getElem?;intro i;rw[List.getElem?_set];split;rename_i hi;subst hi;have hlt:=(List.getElem?_eq_some_iff.1 hu).1;rw[if_pos hlt,hu];rfl
 rw[he]at this;exact this;refine⟨BS.refl _ _ _,fun m hm=>?_,fun b hb=>.inl ?_⟩;have:m≠n:=Nat.ne_of_gt (Nat.lt_of_lt_of_le f1 (ID hm));simp[Ar,this];have hp:(DG n (.row e k []) s.B++s.F).Perm ((n,.row e k [])::s.all):=(CO n _ s.B).append_right _;have hb':b∈AV (Ar val n (.slice none 0 0)) ((n,.row e k [])::s.all):=((hp.filterMap _).mem_iff).1 hb;rw[h2]at hb';simpa[Bs]using hb'

theorem Wk.look{t:Nat}{s:St}{x:A}(ht:s.E[t]? =some x):Wk s {s with E:=s.E.set t (s.look x)}:=by
 intro h w val a H;refine⟨h,val,⟨?_,H.inv,H.far,H.defs⟩,Nx.refl s h w val rfl⟩;obtain⟨u,hu,hr⟩:=RAs.get H.e t _ ht;have:=H.e.set t (H.look hr);have he:a.tmps.toList.set t u=a.tmps.toList:=by apply List.ext_getElem?;intro i;rw[List.getElem?_set];split;rename_i hi;subst hi;have hlt:=(List.getElem?_eq_some_iff.1 hu).1;rw[if_pos hlt,hu];rfl
 rw[he]at this;exact this

theorem Wk.redesc{s:St}{n:Nat}{b b':Bk}(hl:lk s.B n=some b)(ho:b'.isOld=b.isOld)(hr:∀h w val a,AS s h w val a->RB h w val n b->RB h w val n b'):Wk s {s with B:=BJ s.B n b'}:=by
 intro h w val a H;have hmem:(n,b)∈s.all:=ml _ (Aj hl);have hsame:∀b2,(n,b2)∈s.B->b2.isOld=b'.isOld:=fun b2 hb2=>by rw[BB H.inv.nms (ml _ hb2) hmem,ho]
 refine⟨h,val,⟨H.e,⟨fun p hp=>?_,?_,?_⟩,H.far,H.defs⟩,⟨BS.refl _ _ _,fun _ _=>rfl,fun b hb=>.inl ?_⟩⟩;rcases ma.1 hp with hp|hp
 rcases BZ hp with rfl|⟨hp,hne⟩
 exact hr h w val a H (H.inv.rep _ hmem);exact H.inv.rep p (ml _ hp);exact H.inv.rep p (mr _ hp);have:=H.inv.nms;simpa only[St.all,AJ,A7]using this;have:=H.inv.bks;simpa only[St.all,AN,A3 hsame]using this;simpa only[St.all,AN,A3 hsame]using hb
theorem Wk.empty{n:Nat}{e:TypeId}{k:Nat}{s:St}(hf:fresh n s=true){h:Hw}{w:World}{val:Val}{a:Act}(H:AS s h w val a):
 AS {s with B:=DG n (.rw e k []) s.B} h w (Ar val n (.slice none 0 0)) a/\Nx s h w val {s with B:=DG n (.rw e k []) s.B} h w (Ar val n (.slice none 0 0)):=by
 obtain⟨f1,f2,f3⟩:=BN hf
 have hv:Ar val n (.slice none 0 0) n=.slice none 0 0:=by simp[Ar]
 have hrb:RB h w (Ar val n (.slice none 0 0)) n (.rw e k []):=by refine⟨[],?_,by simp[Ah],fun g hg=>?_⟩;rw[hv];exact World.ownsRow_nil w 0 e k;rw[hv]at hg;simp[Value.ownBlock]at hg
 obtain⟨h1,h2⟩:=H.add f1 f2 f3 (BS.refl [] h w) (fun b _=>by simp) (fun _ hm=>by cases hm) (.slice none 0 0) (.rw e k []) (fun b hb=>by simp[Bs]at hb) rfl hrb
 refine⟨AS.ins (E:=s.E) (B:=s.B) (F:=s.F) h1,⟨BS.refl _ _ _,fun m hm=>?_,fun b hb=>.inl ?_⟩⟩
 have:m≠n:=Nat.ne_of_gt (Nat.lt_of_lt_of_le f1 (ID hm))
 simp[Ar,this]
 have hp:(DG n (.rw e k []) s.B++s.F).Perm ((n,.rw e k [])::s.all):=(CO n _ s.B).append_right _
 have hb':b∈AV (Ar val n (.slice none 0 0)) ((n,.rw e k [])::s.all):=((hp.filterMap _).mem_iff).1 hb
 rw[h2]at hb'
 simpa[Bs]using hb'
theorem Wk.nilw{t n:Nat}{e:TypeId}{k:Nat}{s:St}(hf:fresh n s=true)(ht:s.E[t]? =some .nil):Wk s {s with E:=s.E.set t (.row n),B:=DG n (.rw e k []) s.B}:=by
 intro h w val a H;obtain⟨h3,h4⟩:=Wk.empty (e:=e) (k:=k) hf H;refine⟨h,Ar val n (.slice none 0 0),⟨?_,h3.inv,h3.far,h3.defs⟩,⟨h4.keep,h4.vals,h4.new⟩⟩;obtain⟨u,hu,hr⟩:=RAs.get H.e t _ ht;simp only[RA]at hr;subst hr;have:=h3.e.set t (a:=.row n) (u:=.slice none 0 0) (by simp only[RA];exact⟨by simp[Ar],hnd.sl _ _ _⟩);have he:a.tmps.toList.set t (.slice none 0 0)=a.tmps.toList:=by apply List.ext_getElem?;intro i;rw[List.getElem?_set];split;rename_i hi;subst hi;have hlt:=(List.getElem?_eq_some_iff.1 hu).1;rw[if_pos hlt,hu];rfl
 rw[he]at this;exact this
theorem Wk.nilc{b i n:Nat}{e:TypeId}{k:Nat}{cs:List A}{s:St}(hf:fresh n s=true)(hl:lk s.B b=some (.cells cs))(hi:cs[i]? =some .nil):Wk s {s with B:=BJ (DG n (.rw e k []) s.B) b (.cells (cs.set i (.row n)))}:=by
 intro h w val a H;obtain⟨h3,h4⟩:=Wk.empty (e:=e) (k:=k) hf H;obtain⟨f1,f2,f3⟩:=BN hf;have hbn:n≠b:=fun e=>(Bd f3 _ (Aj hl)).1 e.symm;have hl2:lk (DG n (.rw e k []) s.B) b=some (.cells cs):=by rw[Jk,if_neg hbn];exact hl
 have hv:Ar val n (.slice none 0 0) n=.slice none 0 0:=by simp[Ar]
 have hmem:(b,Bk.cells cs)∈DG n (.rw e k []) s.B++s.F:=ml _ (Aj hl2);have hsame:∀b2,(b,b2)∈DG n (.rw e k []) s.B->b2.isOld=(Bk.cells (cs.set i (.row n))).isOld:=fun b2 hb2=>by rw[BB h3.inv.nms (ml _ hb2) hmem];rfl
 refine⟨h,Ar val n (.slice none 0 0),⟨h3.e,⟨fun p hp=>?_,?_,?_⟩,h3.far,h3.defs⟩,⟨h4.keep,h4.vals,fun g hg=>h4.new g ?_⟩⟩;rcases ma.1 hp with hp|hp
 rcases BZ hp with rfl|⟨hp,hne⟩
 obtain⟨g,us,t,e1,e2,e3,e4,e5⟩:=h3.inv.rep _ hmem;refine⟨g,us,t,e1,e2,?_,e4,e5⟩;obtain⟨u,hu,hr⟩:=RAs.get e3 i _ hi;simp only[RA]at hr;subst hr;have:=RAs.set e3 i (a:=.row n) (u:=.slice none 0 0) (by simp only[RA];exact⟨hv.symm,hnd.sl _ _ _⟩);have he:us.set i (.slice none 0 0)=us:=by apply List.ext_getElem?;intro j;rw[List.getElem?_set];split;rename_i hi;subst hi;have hlt:=(List.getElem?_eq_some_iff.1 hu).1;rw[if_pos hlt,hu];rfl
 rw[he]at this;exact this;exact h3.inv.rep p (ml _ hp);exact h3.inv.rep p (mr _ hp);have:=h3.inv.nms;simpa only[St.all,AJ,A7]using this;have:=h3.inv.bks;simpa only[St.all,AN,A3 hsame]using this;simpa only[St.all,AN,A3 hsame]using hg

inductive Ws where
 |frz (n:Nat)
 |look (t:Nat)
 |live (l:List Nat)
 |keep (l:List Nat)
 |ren (n m:Nat)
 |nil (t n:Nat) (e:TypeId) (k:Nat)
 |nilw (t n:Nat) (e:TypeId) (k:Nat)
 |nilc (b i n:Nat) (e:TypeId) (k:Nat)
 |bufrw (n:Nat)
 |sort
def wk1(s:St):Ws->Option St
 | .frz n=>match lk s.B n with
  |some (.buf true e k xs)=>some {s with B:=BJ s.B n (.row e k xs)}
  |some (.rw e k xs)=>some {s with B:=BJ s.B n (.row e k xs)}
  |_=>none
 | .look t=>match s.E[t]? with
  |some x=>some {s with E:=s.E.set t (s.look x)}
  |none=>none
 | .live l=>some {s with E:=MM (fun i=>l.contains i) 0 s.E}
 | .keep l=>some {s with B:=s.B.filter fun p=>l.contains p.1}
 | .ren n m=>if fresh m s then some {s with E:=PM n m s.E,B:=s.B.map (K8 n m)}else none
 | .nil t n e k=>match s.E[t]? with
  |some .nil=>if fresh n s then some {s with E:=s.E.set t (.row n),B:=DG n (.row e k []) s.B}else none
  |_=>none
 | .nilw t n e k=>match s.E[t]? with
  |some .nil=>if fresh n s then some {s with E:=s.E.set t (.row n),B:=DG n (.rw e k []) s.B}else none
  |_=>none
 | .nilc b i n e k=>match lk s.B b with
  |some (.cells cs)=>match cs[i]? with
   |some .nil=>if fresh n s then some {s with B:=BJ (DG n (.rw e k []) s.B) b (.cells (cs.set i (.row n)))}else none
   |_=>none
  |_=>none
 | .bufrw n=>match lk s.B n with
  |some (.buf true e k xs)=>some {s with B:=BJ s.B n (.rw e k xs)}
  |_=>none
 | .sort=>some {s with B:=aHf s.B}
def wks:List Ws->St->Option St
 |[],s=>some s
 |x::l,s=>match wk1 s x with
  |some s1=>wks l s1
  |none=>none
theorem aKz{s s':St}{x:Ws}(h:wk1 s x=some s'):Wk s s':=by
 cases x with
 |frz n=>
  simp only[wk1]at h
  split at h
  rename_i hl
  simp only[oe]at h;subst h
  intro h w val a H
  obtain⟨h',f1,f2⟩:=UN H hl
  exact⟨h',val,f1,f2⟩
  rename_i hl
  simp only[oe]at h;subst h
  intro h w val a H
  obtain⟨h',f1,f2⟩:=VV H hl
  exact⟨h',val,f1,f2⟩
  cases h
 |look t=>
  simp only[wk1]at h
  split at h
  rename_i ht
  simp only[oe]at h;subst h
  exact Wk.look ht
  cases h
 |live l=>simp only[wk1,oe]at h;subst h;exact Wk.mask _ s
 |keep l=>simp only[wk1,oe]at h;subst h;exact Wk.drop _ s
 |ren n m=>
  simp only[wk1]at h
  split at h
  rename_i hf
  simp only[oe]at h;subst h
  obtain⟨f1,f2,f3⟩:=BN hf
  exact Wk.ren f1 f2 f3
  cases h
 |nil t n e k=>
  simp only[wk1]at h
  split at h
  rename_i ht
  split at h
  rename_i hf
  simp only[oe]at h;subst h
  exact Wk.nil hf ht
  cases h
  cases h
 |nilw t n e k=>
  simp only[wk1]at h
  split at h
  rename_i ht
  split at h
  rename_i hf
  simp only[oe]at h;subst h
  exact Wk.nilw hf ht
  cases h
  cases h
 |nilc b i n e k=>
  simp only[wk1]at h
  split at h
  rename_i cs hl
  split at h
  rename_i hi
  split at h
  rename_i hf
  simp only[oe]at h;subst h
  exact Wk.nilc hf hl hi
  cases h
  cases h
  cases h
 |bufrw n=>
  simp only[wk1]at h
  split at h
  rename_i hl
  simp only[oe]at h;subst h
  exact Wk.redesc hl rfl fun h w val a _ hr=>RB.buf_rw hr
  cases h
 |sort=>
  simp only[wk1,oe]at h;subst h
  exact fun h w val a H=>⟨h,val,AS.perm (FQ _).symm H,Nx.perm (FQ _).symm (Nx.refl s h w val rfl)⟩
theorem Ir:∀{l:List Ws} {s s':St},wks l s=some s'->Wk s s'
 |[],s,s',h=>by simp only[wks,oe]at h;subst h;exact Wk.refl _
 |x::l,s,s',h=>by
  simp only[wks]at h;split at h;rename_i s1 h1;exact(aKz h1).trans (Ir h);cases h
end Go.Ac
