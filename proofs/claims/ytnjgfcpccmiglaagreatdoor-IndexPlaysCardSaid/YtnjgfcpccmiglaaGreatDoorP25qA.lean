/- Own work: the plain law. -/
import Derived.Test.YtnjgfcpccmiglaaGreatDoorSh25p
import Derived.Test.YtnjgfcpccmiglaaGreatDoorAcD
set_option linter.unusedVariables false
set_option linter.unusedSimpArgs false
namespace Go.Ac
section
variable {α τ:Type}
theorem CI{step:Int->Option (Int⊕τ)}(l:List α)(p:Nat->α->Bool)(t f:τ)
 (h1:∀(i:Nat) x,l[i]? =some x->step i=some (if p i x=true then .inl ((i+1:Nat):Int)else .inr f)) (h2:step l.length=some (.inr t)):
 AZ step 0=some (if l.zipIdx.all (fun z=>p z.2 z.1)=true then t else f):=by
 have hz:l.zipIdx.length=l.length:=by simp
 refine A0 (step:=step) l.zipIdx (fun z=>p z.2 z.1) t f (fun i z hz=>?_) (by rw[hz];exact h2)
 have h3:=hz
 rw[List.getElem?_zipIdx]at h3
 cases hx:l[i]? with
 |none=>rw[hx]at h3;simp at h3
 |some x=>
  rw[hx]at h3
  simp only[Option.map_some,oe,Nat.zero_add]at h3
  subst h3
  exact h1 i x hx
theorem CB(l:List α)(p:Nat->α->Bool):l.zipIdx.all (fun z=>p z.2 z.1)=true↔ ∀i x,l[i]? =some x->p i x=true:=by rw[List.all_eq_true];constructor;intro h i x hx;exact h (x,i) (List.mem_zipIdx_iff_getElem?.2 (by simpa using hx));rintro h ⟨x,i⟩ hz;exact h i x (by simpa using List.mem_zipIdx_iff_getElem?.1 hz)
end
def okc(n:Nat):Bool:=decide (65<=n/\n<=90\/97<=n/\n<=122\/n=95\/48<=n/\n<=57)
def aKu(n:Nat):Bool:=decide (48<=n/\n<=57)
def spB(s:List UInt8):Bool:=decide (s≠[])&&decide (s.length<=32)&&(match s with|[]=>true|x::_=> !aKu x.toNat)&&s.all fun x=>okc x.toNat
theorem aOu(x:UInt8)(r:List UInt8):((x::r).zipIdx.all fun z=>okc z.1.toNat&& !(decide (z.2=0)&&aKu z.1.toNat))=(!aKu x.toNat&&(x::r).all fun x=>okc x.toNat):=by
 rw[Bool.eq_iff_iff,CB (x::r) (fun i x=>okc x.toNat&& !(decide (i=0)&&aKu x.toNat))];simp only[ba,Bool.not_eq_true',List.all_eq_true];constructor;intro h;refine⟨?_,fun y hy=>?_⟩;have:=(h 0 x rfl).2;simpa using this;obtain⟨i,hi,rfl⟩:=List.mem_iff_getElem.1 hy;exact(h i _ (List.getElem?_eq_getElem hi)).1;rintro⟨h1,h2⟩ i y hy;refine⟨h2 y (List.mem_of_getElem? hy),?_⟩;cases i with
 |zero=>simp at hy;subst hy;simp[h1]
 |succ i=>simp
theorem aYt(s:List UInt8):Z8 s=some (spB s):=by
 unfold Z8;cases s with
 |nil=>rfl
 |cons x r=>
  rw[AL,if_neg (by simp;omega),CX]
  by_cases h32:(32:Int)<((x::r).length:Int)
  rw[if_pos h32]
  have:decide ((x::r).length<=32)=false:=decide_eq_false (by omega)
  simp only[spB,this,Bool.and_false,Bool.false_and]
  ·rw[if_neg h32]
   have h33:(x::r).length<=32:=by omega
   generalize hs:x::r=s at*
   unfold aMw
   rw[CI s (fun i x=>okc x.toNat&& !(decide (i=0)&&aKu x.toNat)) (.inl ():Unit⊕Unit) (.inr ())
    (fun i y hy=>by
     simp only[Jt,ltD hy,AP,AN hy,Aq hy (show s.length<=9223372036854775807 by omega)];simp only[show((65:UInt8).toNat:Int)=65 from rfl,show((90:UInt8).toNat:Int)=90 from rfl,show((97:UInt8).toNat:Int)=97 from rfl,show((122:UInt8).toNat:Int)=122 from rfl,
      show((95:UInt8).toNat:Int)=95 from rfl,show((48:UInt8).toNat:Int)=48 from rfl,show((57:UInt8).toNat:Int)=57 from rfl]
     generalize y.toNat=n;simp only[okc,aKu,AL];simp only[decide_eq_true_eq,ba,Bool.not_eq_true',Bool.and_eq_false_iff,decide_eq_false_iff_not];repeat' split
     all_goals first|rfl|(exfalso;omega))
    (by simp only[Jt,ltI,AR]),AD]
   subst hs
   rw[aOu]
   simp only[spB,h33]
   cases aKu x.toNat<;>cases(x::r).all _<;>simp[As]
theorem MR(r:Nat):Qx (r:Int)=some (!okc r):=by
 unfold Qx okc;simp only[AL];simp only[Bool.not_eq_true',decide_eq_false_iff_not,decide_eq_true_eq];repeat' split
 all_goals first
  |(simp only[oe];rw[Bool.eq_iff_iff];simp;omega)
theorem aAf(s:ByteArray)(i:Nat)(h:(s.get! i).toNat<128):Utf8.decode s i=((s.get! i).toNat,1):=by unfold Utf8.decode;simp only[Nat.add_zero];rw[if_pos h]
theorem aAe(s:ByteArray)(i:Nat)(h:¬(s.get! i).toNat<128):128<=(Utf8.decode s i).1:=by
 unfold Utf8.decode;simp only[Nat.add_zero];rw[if_neg h];have he:128<=Utf8.runeError:=by decide
 split;split;rename_i hh;exact hh;exact he;split;split;rename_i hh;simp only[ba,decide_eq_true_eq]at hh;have:=hh.1;show 128<=_;omega;exact he;split;split;rename_i hh;simp only[ba,decide_eq_true_eq]at hh;have:=hh.1;show 128<=_;omega;exact he;exact he
theorem aAs(s:List UInt8):∀(f i:Nat),s.length<=i+f->(Lib.idxFuncFrom (fun r=> !okc r) true ⟨⟨s⟩⟩ f i<0↔ ∀x∈s.drop i,okc x.toNat=true)
 |0,i,h=>by
  rw[List.drop_eq_nil_of_le (by omega)];simp[Lib.idxFuncFrom]
 |f+1,i,h=>by
  unfold Lib.idxFuncFrom;by_cases hi:i<s.length;have hg:(ByteArray.mk ⟨s⟩).get! i=s[i]:=by show(Array.mk s)[i]! =_;simp[hi]
  rw[if_pos (show i<(ByteArray.mk ⟨s⟩).size from hi),List.drop_eq_getElem_cons hi];by_cases h7:s[i].toNat<128;rw[aAf _ _ (by rw[hg];exact h7),hg];simp only;by_cases ho:okc s[i].toNat=true;rw[if_neg (by simp[ho]),aAs s f (i+1) (by omega)];simp only[List.forall_mem_cons,ho,true_and];rw[if_pos (by simp[ho])];constructor;intro h;omega;intro h;exact absurd (h _ List.mem_cons_self) ho;have h8:=aAe (ByteArray.mk ⟨s⟩) i (by rw[hg];exact h7);have ho:okc (Utf8.decode ⟨⟨s⟩⟩ i).1=false:=by simp[okc];omega
  rw[if_pos (by rw[ho];rfl)];constructor;intro h;omega;intro h;have:=h _ List.mem_cons_self;simp[okc]at this;omega;rw[if_neg (show¬i<(ByteArray.mk ⟨s⟩).size from hi),List.drop_eq_nil_of_le (by omega)];simp
theorem OU(s:List UInt8):∃r,Qy s=some r/\(decide (r<0)=s.all fun x=>okc x.toNat):=by
 unfold Qy aI6;rw[if_pos (fun r _=>by rw[MR];rfl)];refine⟨_,rfl,?_⟩;have h:=aAs s s.length 0 (by omega);rw[List.drop_zero]at h;have e:(fun r:Nat=>(Qx (r:Int)).getD false)=fun r=> !okc r:=by funext r;rw[MR];rfl
 unfold Lib.idxFunc;rw[e,Bool.eq_iff_iff,List.all_eq_true,decide_eq_true_eq];exact h
theorem aLt(s:List UInt8):Qm s=some (spB s):=by
 unfold Qm;cases s with
 |nil=>rfl
 |cons x r=>
  rw[AL,if_neg (by simp),CX]
  by_cases h32:(32:Int)<((x::r).length:Int)
  rw[if_pos h32]
  have:decide ((x::r).length<=32)=false:=decide_eq_false (by omega)
  simp only[spB,this,Bool.and_false,Bool.false_and]
  rw[if_neg h32]
  have h33:(x::r).length<=32:=by omega
  obtain⟨k,hk,hka⟩:=OU (x::r)
  have h0:(x::r)[0]? =some x:=rfl
  simp only[show(0:Int)=((0:Nat):Int)from rfl,AN h0,hk,AD,AL]
  simp only[show((0:Nat):Int)=(0:Int)from rfl,hka]
  simp only[show((48:UInt8).toNat:Int)=48 from rfl,show((57:UInt8).toNat:Int)=57 from rfl,decide_eq_true_eq,spB,aKu,h33,decide_true,Bool.and_true]
  by_cases hd:48<=x.toNat/\x.toNat<=57
  rw[if_pos (by omega),if_pos (by omega)]
  simp[hd]
  have he:(if(48:Int)<=(x.toNat:Int)then if(x.toNat:Int)<=57 then some false else some ((x::r).all fun x=>okc x.toNat)else some ((x::r).all fun x=>okc x.toNat))=some ((x::r).all fun x=>okc x.toNat):=by split;rw[if_neg (by omega)];rfl
  refine he.trans ?_
  simp[hd]
def C6(s:List UInt8):Bool:=spB s&& !By.contains s&& !decide (s=[95])
theorem aHk(s:List UInt8):Yx s=some (C6 s):=by
 unfold Yx;rw[show Ue=some By from rfl,AD];unfold aMr;rw[A0 By (fun w=> !decide (w=s)) (.inl ():Unit⊕Unit) (.inr ())
  (fun i x hx=>by simp only[Jr,ltD hx,AP,AN hx,Aq hx (show By.length<=9223372036854775807 by decide)];simp only[AL];cases decide (x=s)<;>rfl)
  (by simp only[Jr,ltI,AR]),AD,aYt,AD]
 have e:By.all (fun w=> !decide (w=s))= !By.contains s:=by rw[Bool.eq_iff_iff];simp only[List.all_eq_true,Bool.not_eq_true',decide_eq_false_iff_not];rw[Bool.eq_false_iff,ne_eq,List.contains_iff_mem];exact⟨fun h hm=>h s hm rfl,fun h x hx hxs=>h (hxs▸hx)⟩
 rw[e];unfold C6;cases By.contains s<;>cases spB s<;>simp[As,AE]
theorem LB(l:List (List UInt8))(s:List UInt8)(hl:l.length<=9223372036854775807):Yg l s=some (if l.contains s=true then((l.findIdx fun x=>decide (s=x):Nat):Int)else-1):=by
 unfold Yg WF;rw[Bj l (fun x=>decide (s=x))
  (fun i x hx=>by simp only[Gz,ltD hx,AP,AN hx,Aq hx hl];simp only[AL];cases decide (s=x)<;>rfl)
  (by simp only[Gz,ltI,AR]),AD]
 have e:l.any (fun x=>decide (s=x))=l.contains s:=by rw[Bool.eq_iff_iff,List.any_eq_true,List.contains_iff_mem];simp
 rw[e];cases l.contains s<;>simp[As]
theorem aY8(s:List UInt8):Zt s=some (spB s&&By.contains s):=by unfold Zt Q7;rw[aLt,AD,LB _ _ (by decide),AD];cases spB s<;>cases By.contains s<;>rfl
theorem aMs(s:List UInt8):Z1 s=some (C6 s):=by unfold Z1;rw[aLt,AD,aY8,AD];unfold C6;cases spB s<;>cases By.contains s<;>simp[AE]
end Go.Ac
