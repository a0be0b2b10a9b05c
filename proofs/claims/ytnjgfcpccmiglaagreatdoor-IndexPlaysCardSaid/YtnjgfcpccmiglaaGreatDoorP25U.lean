/- Own work: the plain law. -/
import Derived.Test.YtnjgfcpccmiglaaGreatDoorP25T
set_option linter.unusedVariables false
set_option linter.unusedSimpArgs false
namespace Go.Ac
noncomputable section
abbrev Ent:=X6
theorem uniq:∀{L:List Ent},(L.map (·.iD)).Pairwise (· ≠ ·)->∀{a b:Ent},a∈L->b∈L->a.iD=b.iD->a=b
 |[],_,_,_,ha,_,_=>by simp at ha
 |x::L,h,a,b,ha,hb,e=>by
  rw[List.map_cons,List.pairwise_cons]at h;rcases mc.1 ha with h1|h1<;>rcases mc.1 hb with h2|h2
  rw[h1,h2];exact absurd (h1▸e) (h.1 _ (List.mem_map_of_mem h2));exact absurd (h2▸e.symm) (h.1 _ (List.mem_map_of_mem h1));exact uniq h.2 h1 h2 e
structure INV(n:Nat)(q:AA)(L:List Ent)(M:MP Int (List X0))(m:PM):Prop where
 ids:(L.map (·.iD)).Pairwise (· ≠ ·)
 ok:∀e∈L,BOk e.bind
 ml:M.l=L.map fun e=>(e.iD,e.bind)
 pi:PI n m
 pl:∀p y,y∈Gp m p↔ ∃e∈L,e.iD=y/\p∈plc q e.bind
theorem aLq(q:AA):INV 0 q [] (Ce:MP Int (List X0)) (Ce:PM):=
 ⟨by simp,by simp,by simp[Ce,MP.l],aPj,fun p y=>by unfold Gp;rw[F5];simp⟩
theorem KT(id:Int):∀L:List Ent,(L.map fun e=>(e.iD,e.bind)).find? (fun p=>decide (p.1=id))=(L.find? fun e=>decide (e.iD=id)).map fun e=>(e.iD,e.bind)
 |[]=>rfl
 |x::L=>by
  by_cases h:x.iD=id;rw[List.map_cons,List.find?_cons_of_pos (by simpa using h),List.find?_cons_of_pos (by simpa using h)];rfl;rw[List.map_cons,List.find?_cons_of_neg (by simpa using h),List.find?_cons_of_neg (by simpa using h),KT id L]
theorem INV.none{n:Nat}{q:AA}{L:List Ent}{M:MP Int (List X0)}{m:PM}(h:INV n q L M m){id:Int}(hn:∀e∈L,e.iD≠id):A5 [] M id=([],false):=by rw[DT,h.ml,KT,List.find?_eq_none.2 (by simpa using hn)];rfl
theorem INV.some{n:Nat}{q:AA}{L:List Ent}{M:MP Int (List X0)}{m:PM}(h:INV n q L M m){e:Ent}(he:e∈L):A5 [] M e.iD=(e.bind,true):=by
 have:L.find? (fun x=>decide (x.iD=e.iD))=Option.some e:=by
  cases hf:L.find? (fun x=>decide (x.iD=e.iD))with
  |none=>rw[List.find?_eq_none]at hf;exact absurd (by simp:decide (e.iD=e.iD)=true) (hf e he)
  |some x=>
   have h1:=List.find?_some hf
   have h2:=List.mem_of_find?_eq_some hf
   rw[uniq h.ids h2 he (by simpa using h1)]
 rw[DT,h.ml,KT,this];rfl
theorem aZv(L:List Ent)(a:Xg)(hl:L.length<=10000):∀(r pre:List Ent) (s:Int),L=pre++r->((s= -1/\∀e∈pre,e.iD≠a.iD)\/∃(k:Nat) (e:Ent),s=(k:Int)/\L[k]? =Option.some e/\e.iD=a.iD)->
 ∃o,Ru L a s (pre.length:Int)=Option.some o/\((o= -1/\∀e∈L,e.iD≠a.iD)\/∃(k:Nat) (e:Ent),o=(k:Int)/\L[k]? =Option.some e/\e.iD=a.iD)
 |[],pre,s,hs,hI=>by
  rw[Po];have e:L.length=pre.length:=by rw[hs];simp
  unfold G1;rw[AL,if_neg (by simp[e])];refine⟨s,rfl,?_⟩;rw[List.append_nil]at hs;rw[hs];rw[hs]at hI;exact hI
 |x::r,pre,s,hs,hI=>by
  have hx:L[pre.length]? =Option.some x:=by rw[hs];simp
  rw[Po];unfold G1 aGt aGv;rw[ltD hx,AP,AN hx,CX];by_cases hq:x.iD=a.iD;rw[if_pos hq,AD,AD,Aq hx (by omega),A4];have:=aZv L a hl r (pre++[x]) (pre.length:Int) (by rw[hs];simp) (.inr ⟨_,x,rfl,hx,hq⟩);rw[List.length_append]at this;exact this;rw[if_neg hq,AD,AD,Aq hx (by omega),A4];have:=aZv L a hl r (pre++[x]) s (by rw[hs];simp) (by
   rcases hI with⟨h1,h2⟩|h
   exact .inl ⟨h1,fun e he=>by
    rcases ma.1 he with he|he
    exact h2 e he;rw[List.mem_singleton]at he;exact he▸hq⟩
   exact .inr h)
  rw[List.length_append]at this;exact this
theorem Eo{α:Type}(w:List α)(k:Nat):sub w 0 (k:Int)=w.take k:=by have:=OV w 0 k;simpa using this
theorem H9{α:Type}(w:List α)(k:Nat):sub w (k:Int) (w.length:Int)=w.drop k:=by rw[OV,List.take_length]
def aT0(a:Xg)(q:AA)(M:MP Int (List X0))(m:PM):Option (Bool×AA×MP Int (List X0)×PM):=if a.kind=0 then Z6 a.iD a.bind q M m else Ub a.iD q M m
theorem aSj{n:Nat}{q:AA}{L:List Ent}{M:MP Int (List X0)}{m:PM}(h:INV n q L M m)(hF:CV q)(hn:n<=60000)(hl:L.length<=1000)(a:Xg)(hb:BOk a.bind):
 ∃L' ok M' m',Yi L a=Option.some (L',ok)/\aT0 a q M m=Option.some (ok,q,M',m')/\INV (n+144) q L' M' m'/\L'.length<=L.length+1:=by
 obtain⟨o,ho,hcase⟩:=aZv L a (by omega) L [] (-1) rfl (.inl ⟨rfl,by simp⟩)
 unfold Yi aT0
 rw[show Ru L a (-1) 0=Option.some o from ho,AD,CX]
 have hmono:INV (n+144) q L M m:=⟨h.ids,h.ok,h.ml,h.pi.mono (by omega),h.pl⟩
 by_cases hk:a.kind=0
 rw[if_pos hk,if_pos hk,CX]
 unfold Z6
 rcases hcase with⟨rfl,hno⟩|⟨k,e,rfl,hke,hid⟩
 rw[if_neg (by omega),Ai (AU (by simp;omega) (by decide)),Ai (AU (by simp;omega) (by decide)),h.none hno,AR]
 obtain⟨m',e1,hp,hg⟩:=aZt hb a.iD hF (CJ M a.iD a.bind) h.pi (by omega)
 have hcl:U6 a.bind=Option.some a.bind:=by unfold U6 CK;rw[if_pos (AU (by have:=hb.len;omega) (by decide))]
 rw[hcl,AD,e1,AD]
 refine⟨_,_,_,_,rfl,rfl,⟨?_,fun x hx=>?_,?_,hp,fun p y=>?_⟩,by simp⟩
 rw[List.nil_append,List.map_append,List.pairwise_append]
 refine⟨h.ids,by simp,fun x hx y hy=>?_⟩
 obtain⟨z,hz,rfl⟩:=mm.1 hx
 simp only[List.map_cons,List.map_nil,List.mem_singleton]at hy
 subst hy
 exact hno z hz
 rw[List.nil_append,ma]at hx
 rcases hx with hx|hx
 exact h.ok x hx
 rw[List.mem_singleton]at hx;subst hx;exact hb
 rw[aLa,if_neg,h.ml,List.nil_append,List.map_append]
 rfl
 rw[h.ml]
 simp only[List.any_map,List.any_eq_true,Function.comp,decide_eq_true_eq,not_exists,not_and]
 exact hno
 rw[hg,h.pl,List.nil_append]
 constructor
 rintro(⟨x,hx,h1,h2⟩|⟨h1,h2⟩)
 exact⟨x,ml_ _ hx,h1,h2⟩
 exact⟨⟨a.iD,a.bind⟩,by simp,h2.symm,h1⟩
 rintro⟨x,hx,h1,h2⟩
 rcases ma.1 hx with hx|hx
 exact .inl ⟨x,hx,h1,h2⟩
 rw[List.mem_singleton]at hx;subst hx;exact .inr ⟨h2,h1.symm⟩
 rw[if_pos (by omega),<-hid,h.some (List.mem_of_getElem? hke),AP]
 exact⟨L,false,M,m,rfl,rfl,hmono,by omega⟩
 rw[if_neg hk,if_neg hk,CX]
 unfold Ub
 rcases hcase with⟨rfl,hno⟩|⟨k,e,rfl,hke,hid⟩
 rw[if_pos (by omega),h.none hno]
 exact⟨L,false,M,m,rfl,rfl,hmono,by omega⟩
 have hkl:=BM hke
 have he:=List.mem_of_getElem? hke
 rw[if_neg (by omega),Ai ⟨by omega,by omega,by omega⟩,Ai (AU (by rw[Eo];simp;omega) (by decide)),IA (by omega),Ai ⟨by omega,by omega,by omega⟩,Eo,H9,
  Ai (AU (by simp;omega) (by decide)),List.nil_append,<-hid,h.some he,Bool.not_true,AR]
 obtain⟨m',e1,hp,hg⟩:=aZu (h.ok e he) e.iD hF (Dp M e.iD) h.pi (by omega)
 rw[e1,AD]
 have hsp:L=L.take k++e::L.drop (k+1):=by obtain⟨x,hx,hd⟩:=A8 hkl;rw[hke]at hx;cases hx;rw[<-hd,List.take_append_drop]
 have hids:=h.ids
 rw[hsp,List.map_append,List.map_cons,List.pairwise_append,List.pairwise_cons]at hids
 obtain⟨a1,⟨a2,a3⟩,a4⟩:=hids
 have hsub:(L.take k++L.drop (k+1)).Sublist L:=by
  conv=>rhs;rw[hsp]
  exact List.Sublist.append_left (List.sublist_cons_self _ _) _
 have hmem:∀x,x∈L.take k++L.drop (k+1)↔x∈L/\x.iD≠e.iD:=fun x=>by
  have hm:x∈L↔x∈L.take k\/x=e\/x∈L.drop (k+1):=by rw[<-mc,<-ma,<-hsp]
  rw[ma,hm];constructor;rintro(hx|hx);exact⟨.inl hx,a4 _ (List.mem_map_of_mem hx) _ (by simp)⟩;exact⟨.inr (.inr hx),fun e'=>a2 _ (List.mem_map_of_mem hx) e'.symm⟩;rintro⟨hx|hx|hx,hne⟩;exact .inl hx;exact absurd (by rw[hx]) hne;exact .inr hx
 refine⟨_,_,_,_,rfl,rfl,⟨h.ids.sublist (hsub.map _),fun x hx=>h.ok x (hsub.subset hx),?_,hp.mono (by omega),fun p y=>?_⟩,by simp;omega⟩
 rw[aBe,h.ml]
 conv=>lhs;rw[hsp]
 rw[List.map_append,List.map_cons,List.eraseP_append_right,List.eraseP_cons_of_pos (by simp),List.map_append]
 intro b hb'
 obtain⟨z,hz,rfl⟩:=mm.1 hb'
 simp only[decide_eq_true_eq]
 exact a4 _ (List.mem_map_of_mem hz) _ (by simp)
 rw[hg,h.pl]
 constructor
 rintro⟨⟨x,hx,h1,h2⟩,h3⟩
 refine⟨x,(hmem x).2 ⟨hx,fun e'=>?_⟩,h1,h2⟩
 have:x=e:=uniq h.ids hx he e'
 subst this
 exact h3 ⟨h2,h1.symm⟩
 rintro⟨x,hx,h1,h2⟩
 obtain⟨hx,hne⟩:=(hmem x).1 hx
 exact⟨⟨x,hx,h1,h2⟩,fun hh=>hne (by rw[h1,hh.2])⟩
theorem aSz{n:Nat}{q:AA}{L:List Ent}{M:MP Int (List X0)}{m:PM}(h:INV n q L M m)(hl:L.length<=1000):Uc q M m=Option.some ((L.length:Int),q,M,m):=by
 unfold Uc;have:M.es.length=L.length:=by rw[aS3,h.ml,List.length_map]
 rw[this,Ai (by omega)]
end
end Go.Ac
