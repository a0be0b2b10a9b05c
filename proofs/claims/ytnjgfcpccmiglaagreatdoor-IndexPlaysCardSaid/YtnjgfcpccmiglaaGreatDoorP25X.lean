/- Own work: the plain law. -/
import Derived.Test.YtnjgfcpccmiglaaGreatDoorP25W
import Derived.Sort.Walk0
set_option linter.unusedVariables false
set_option linter.unusedSimpArgs false
namespace Go.Ac
theorem aSu{w:List Int}{x:Int}(hw:Rs w){k:Nat}(q1:∀j s,w[j]? =some s->j<k->s<x)(q2:∀j s,w[j]? =some s->k<=j->x<s):Rs (w.take k++[x]++w.drop k)/\∀y,y∈w.take k++[x]++w.drop k↔y=x\/y∈w:=by
 have q2':∀y∈w.drop k,x<y:=fun y hy=>by obtain⟨j,hj,hs⟩:=KN hy;exact q2 j y hs hj
 have q1':∀y∈w.take k,y<x:=fun y hy=>by obtain⟨j,hj,hs⟩:=Kx hy;exact q1 j y hs hj
 refine⟨?_,fun y=>?_⟩;unfold Rs;rw[List.append_assoc,List.pairwise_append];refine⟨hw.sublist (List.take_sublist _ _),?_,fun a ha b hb=>?_⟩;rw[List.singleton_append,List.pairwise_cons];exact⟨q2',hw.sublist (List.drop_sublist _ _)⟩;rw[List.singleton_append]at hb;rcases mc.1 hb with e|hb
 exact e▸q1' a ha;exact Int.lt_trans (q1' a ha) (q2' b hb);rw[OJ (w:=w) k];simp only[ma,List.mem_singleton];constructor;rintro((h|h)|h);exact .inr (.inl h);exact .inl h;exact .inr (.inr h);rintro(h|h|h);exact .inl (.inr h);exact .inl (.inl h);exact .inr h
theorem aOj{n:Nat}(h:n<9223372036854775807):AB .sub .i64 ((n+1:Nat):Int) 1=(n:Int):=by rw[aO9 (by omega) (by omega)];omega
theorem bAl(w:List Int)(x:Int)(hl:w.length<=10000):∀k:Nat,k<=w.length->(∀j s,w[j]? =some s->k<=j->x<s)->
 ∃o:Nat,o<=w.length/\XF w x (k:Int)=some (o:Int)/\(∀j s,w[j]? =some s->o<=j->x<s)/\(∀s,0<o->w[o-1]? =some s->s<=x)
 |0,hk,hI=>by
  rw[P0];unfold HH;rw[CX,if_neg (by omega)];exact⟨0,by omega,rfl,hI,by simp⟩
 |k+1,hk,hI=>by
  obtain⟨y,hy,_⟩:=A8 (l:=w) (i:=k) (by omega);rw[P0];unfold HH;rw[CX,if_pos (by omega),aOj (by omega),AN hy,CX];by_cases h:x<y;rw[if_pos h,A4];exact bAl w x hl k (by omega) fun j s hs hj=>by by_cases e:j=k;subst e;rw[hy]at hs;cases hs;exact h;exact hI j s hs (by omega)
  rw[if_neg h];exact⟨k+1,hk,rfl,hI,fun s _ hs=>by rw[Nat.add_sub_cancel,hy]at hs;cases hs;omega⟩
theorem aTa{w:List Int}{x:Int}(hw:Rs w)(hl:w.length<=10000)(hx:x∉w):∃r,Z2 w x=some r/\Rs r/\∀y,y∈r↔y=x\/y∈w:=by
 obtain⟨o,ho,e,h1,h2⟩:=bAl w x hl w.length (Nat.le_refl _) fun j s hs hj=>absurd (BM hs) (by omega);have q1:∀j s,w[j]? =some s->j<o->s<x:=fun j s hs hj=>by obtain⟨y,hy,_⟩:=A8 (l:=w) (i:=o-1) (by omega);have h3:=h2 y (by omega) hy;have h4:y≠x:=fun e=>hx (e▸List.mem_of_getElem? hy);by_cases e:j=o-1;subst e;rw[hy]at hs;cases hs;omega;obtain⟨ha',rfl⟩:=List.getElem?_eq_some_iff.1 hs;obtain⟨hb',rfl⟩:=List.getElem?_eq_some_iff.1 hy;have:=List.pairwise_iff_getElem.1 hw j (o-1) ha' hb' (by omega);omega
 obtain⟨a,b⟩:=aSu hw q1 h1;refine⟨_,?_,a,b⟩;unfold Z2;rw[e,AD,Ai ⟨by omega,by omega,by omega⟩,Eo,Ai (AU (by simp;omega) (by decide)),Ai (AU (by simp;omega) (by decide)),Ai ⟨by omega,by omega,by omega⟩,H9,Ai (AU (by simp;omega) (by decide)),List.nil_append]
theorem P7{α:Type}(H:List α)(p:α->Bool):(if(H.all fun x=> !p x)=true then(.inl ():Unit⊕Unit)else .inr ())=if H.any p=true then .inr ()else .inl ():=by
 have e:(H.all fun x=> !p x)= !(H.any p):=by rw[List.not_any_eq_all_not]
 rw[e];cases H.any p<;>rfl
theorem aPg(b:List X0)(H:List Ae)(hb:b.length<=1000)(hH:H.length<=1000)(h12:∀x∈H,x.bind.length<=12):Zl b H=some (H.any fun x=>KX false x.bind b):=by
 unfold Zl aM8;rw[A0 H (fun x=> !KX false x.bind b) (.inl ():Unit⊕Unit) (.inr ())
  (fun i x hx=>by have:=h12 x (List.mem_of_getElem? hx);simp only[J5,ltD hx,AP,AN hx,aRs b x.bind (by omega) (by omega),AD,Aq hx (show H.length<=9223372036854775807 by omega),AL,KX,if_true,Bool.false_eq_true,if_false];cases N1 b x.bind<;>rfl)
  (by simp only[J5,ltI,AR]),AD,P7]
 cases H.any _<;>rfl
theorem aLw(b:List X0)(H:List Ae)(hb:b.length<=1000)(hH:H.length<=1000)(h12:∀x∈H,x.bind.length<=12):Ze b H=some (H.any fun x=>KX true x.bind b):=by
 unfold Ze aM2;rw[A0 H (fun x=> !KX true x.bind b) (.inl ():Unit⊕Unit) (.inr ())
  (fun i x hx=>by have:=h12 x (List.mem_of_getElem? hx);simp only[Jy,ltD hx,AP,AN hx,aYx x.bind b (by omega) (by omega),AD,Aq hx (show H.length<=9223372036854775807 by omega),AL,KX];cases MW x.bind b<;>rfl)
  (by simp only[Jy,ltI,AR]),AD,P7]
 cases H.any _<;>rfl
theorem bAt{L:List Ent}{H:List Ae}(u:Bool)(hL:∀e∈L,e.bind.length<=1000)(hH:H.length<=1000)(h12:∀x∈H,x.bind.length<=12){i:Nat}{e:Ent}(he:L[i]? =some e)(w:List Int):
 Vb L H u w (i:Int)=IL L H u w (i:Int) (H.any fun x=>KX u x.bind e.bind):=by
 have hb:=hL e (List.mem_of_getElem? he)
 have id:∀o:Option (List Int),(AG o fun o19=>some o19)=o:=fun o=>by cases o<;>rfl
 unfold Vb
 cases u with
 |true=>rw[Bool.not_true,AR,AP,AN he,aLw _ _ hb hH h12,AD,id]
 |false=>
  rw[Bool.not_false,AP,AN he,aPg _ _ hb hH h12,AD,id,AR,id]
  cases H.any _<;>rfl
theorem bAf{L:List Ent}{H:List Ae}(u:Bool)(hu:(L.map (·.iD)).Pairwise (· ≠ ·))(hll:L.length<=1000)(hL:∀e∈L,e.bind.length<=1000)(hH:H.length<=1000)(h12:∀x∈H,x.bind.length<=12):∀(r pre:List Ent) (w:List Int),L=pre++r->
 Is pre (fun b=>∃x∈H,KX u x.bind b=true) w->∃o,Rt L H u w (pre.length:Int)=some o/\Is L (fun b=>∃x∈H,KX u x.bind b=true) o
 |[],pre,w,hs,hI=>by
  rw[PZ];have e:L.length=pre.length:=by rw[hs];simp
  unfold Gm;rw[AL,if_neg (by simp[e])];rw[List.append_nil]at hs;exact⟨w,rfl,by rw[hs];exact hI⟩
 |e::r,pre,w,hs,hI=>by
  have hx:L[pre.length]? =some e:=by rw[hs];simp
  have hp:=BM hx;have hwl:=hI.len;rw[PZ];unfold Gm;rw[ltD hx,AP,bAt u hL hH h12 hx];have hnew:∀y,y∈pre->y.iD≠e.iD:=fun y hy=>by rw[hs,List.map_append,List.map_cons,List.pairwise_append]at hu;exact hu.2.2 _ (List.mem_map_of_mem hy) _ (by simp)
  have key:∃w',IL L H u w (pre.length:Int) (H.any fun x=>KX u x.bind e.bind)=some w'/\Is (pre++[e]) (fun b=>∃x∈H,KX u x.bind b=true) w':=by
   unfold IL;cases hq:(H.any fun x=>KX u x.bind e.bind)with
   |false=>
    rw[AR]
    refine⟨w,rfl,hI.1,fun y=>?_⟩
    rw[hI.2]
    constructor
    rintro⟨x,hx,h⟩;exact⟨x,ml_ _ hx,h⟩
    rintro⟨x,hx,h1,h2⟩
    rcases ma.1 hx with hx|hx
    exact⟨x,hx,h1,h2⟩
    rw[List.mem_singleton]at hx;subst hx
    obtain⟨z,hz,hm⟩:=h2
    rw[List.any_eq_false]at hq
    exact absurd hm (hq z hz)
   |true=>
    have hnm:e.iD∉w:=fun hm=>by obtain⟨y,hy,h1,_⟩:=(hI.2 _).1 hm;exact hnew y hy h1
    obtain⟨w',e1,e2,e3⟩:=aTa hI.1 (x:=e.iD) (by omega) hnm
    rw[AP,AN hx,e1,AD]
    refine⟨w',rfl,e2,fun y=>?_⟩
    rw[e3,hI.2]
    constructor
    rintro(rfl|⟨x,hx,h⟩)
    rw[List.any_eq_true]at hq
    exact⟨e,by simp,rfl,hq⟩
    exact⟨x,ml_ _ hx,h⟩
    rintro⟨x,hx,h1,h2⟩
    rcases ma.1 hx with hx|hx
    exact .inr ⟨x,hx,h1,h2⟩
    rw[List.mem_singleton]at hx;subst hx;exact .inl h1.symm
  obtain⟨w',e1,hI'⟩:=key;rw[e1,AD,Aq hx (by omega),A4];have:=bAf u hu hll hL hH h12 r (pre++[e]) w' (by rw[hs];simp) hI';rw[List.length_append]at this;exact this
theorem aPf{L:List Ent}{H:List Ae}(u:Bool)(hu:(L.map (·.iD)).Pairwise (· ≠ ·))(hll:L.length<=1000)(hL:∀e∈L,e.bind.length<=1000)(hH:H.length<=1000)(h12:∀x∈H,x.bind.length<=12):
 ∃o,Y1 L H u=some o/\Is L (fun b=>∃x∈H,KX u x.bind b=true) o:=by
 obtain⟨o,e,hI⟩:=bAf u hu hll hL hH h12 L [] [] rfl ⟨List.Pairwise.nil,fun y=>by simp⟩
 refine⟨o,?_,hI⟩
 unfold Y1
 rw[show Rt L H u [] 0=_ from e,AD]
theorem MN(w:List Int)(hl:w.length<=10000):Zf w w=some true:=by
 unfold Zf aM3;rw[decide_eq_true rfl,Bool.not_true,AR,A0 w (fun _=>true) (.inl ():Unit⊕Unit) (.inr ())
  (fun i x hx=>by simp only[Jz,ltD hx,AP,AN hx,decide_true,Bool.not_true,AR,Aq hx (show w.length<=9223372036854775807 by omega),if_true])
  (by simp only[Jz,ltI,AR]),AD]
 simp[As]
end Go.Ac
