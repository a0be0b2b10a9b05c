/- Own work: the plain law. -/
import Derived.Test.YtnjgfcpccmiglaaGreatDoorP25zA
set_option linter.unusedVariables false
set_option linter.unusedSimpArgs false
namespace Go.Ac
def aOs{K V:Type} [DecidableEq K](k:K)(v:V):List (K×V)->List (K×V)
 |[]=> []
 |x::xs=>if x.1=k then(x.1,v)::xs else x::aOs k v xs
variable {K V:Type} [DecidableEq K]
theorem KV(z:V)(c:Nat)(k:K)(v:V)(k':K):∀l:List (Nat×K×V),He z k' (IV c k v l).2=if k=k' then(v,true)else He z k' l
 |[]=>by
  simp only[IV,He]
 |x::xs=>by
  rw[IV];split;rename_i h;by_cases e:k=k';rw[if_pos e,He,if_pos (h.trans e)];rw[if_neg e,He,He,if_neg (by rw[h];exact e),if_neg (by rw[h];exact e)];rename_i h;by_cases e:k=k';rw[if_pos e,He,if_neg (by rw[<-e];exact h),KV z c k v k' xs,if_pos e];rw[if_neg e,He,He,KV z c k v k' xs,if_neg e]
theorem RE(z:V)(m:MP K V)(k:K)(v:V)(k':K):A5 z (CJ m k v) k'=if k=k' then(v,true)else A5 z m k':=KV z _ _ _ _ _
theorem F5(z:V)(k:K):A5 z (Ce:MP K V) k=(z,false):=rfl
variable {K V:Type} [DecidableEq K]
def MP.l(m:MP K V):List (K×V):=m.es.map (·.2)
theorem Lj(z:V)(k:K):∀l:List (Nat×K×V),He z k l=match (l.map (·.2)).find? (fun p=>decide (p.1=k))with|some p=>(p.2,true)|none=>(z,false)
 |[]=>rfl
 |x::xs=>by
  rw[He,List.map_cons,List.find?_cons];by_cases h:x.2.1=k;simp[h];rw[if_neg h,Lj z k xs];simp[h]
theorem DT(z:V)(m:MP K V)(k:K):A5 z m k=match m.l.find? (fun p=>decide (p.1=k))with|some p=>(p.2,true)|none=>(z,false):=Lj z k m.es
theorem aKt(k:K):∀l:List (Nat×K×V),(SP k l).map (·.2)=(l.map (·.2)).eraseP (fun p=>decide (p.1=k))
 |[]=>rfl
 |x::xs=>by
  rw[SP,List.map_cons,List.eraseP_cons];by_cases h:x.2.1=k;simp[h];rw[if_neg h,List.map_cons,aKt k xs];simp[h]
theorem aBe(m:MP K V)(k:K):(Dp m k).l=m.l.eraseP (fun p=>decide (p.1=k)):=aKt k m.es
theorem aLe(c:Nat)(k:K)(v:V):∀l:List (Nat×K×V),((IV c k v l).2.map (·.2))=if(l.map (·.2)).any (fun p=>decide (p.1=k))then aOs k v (l.map (·.2))else l.map (·.2)++[(k,v)]
 |[]=>by simp[IV]
 |x::xs=>by
  rw[IV,List.map_cons];by_cases h:x.2.1=k;simp[h,aOs];rw[if_neg h,List.map_cons,aLe c k v xs];by_cases h2:(xs.map (·.2)).any (fun p=>decide (p.1=k))=true
  rw[if_pos h2,if_pos (by rw[List.any_cons,h2,Bool.or_true]),aOs,if_neg h];rw[if_neg h2,if_neg (by rw[List.any_cons];simp only[h,decide_false,Bool.false_or];exact h2)];rfl
theorem aLa(m:MP K V)(k:K)(v:V):(CJ m k v).l=if m.l.any (fun p=>decide (p.1=k))then aOs k v m.l else m.l++[(k,v)]:=aLe m.clk k v m.es
theorem aS3{K V:Type}(m:MP K V):m.es.length=m.l.length:=by simp[MP.l]
end Go.Ac
