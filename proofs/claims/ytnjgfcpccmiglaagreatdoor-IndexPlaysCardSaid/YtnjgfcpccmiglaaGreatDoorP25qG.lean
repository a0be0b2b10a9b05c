/- Own work: the plain law. -/
import Derived.Test.YtnjgfcpccmiglaaGreatDoorP25qF
set_option linter.unusedVariables false
set_option linter.unusedSimpArgs false
namespace Go.Ac
def ZJ(q:AA)(a:List AX)(t:List Int):Bool:=decide (a.length=t.length)&&(a.zip t).all fun p=>SC q p.1 p.2
def Ss(q:AA)(s:X2):Bool:=decide (0<=s.event)&&match q.decls[s.event.toNat]? with|some d=>ZJ q s.args d.types|none=>false
theorem Nu{q:AA}{s:X2}(hs:s.args.length<=12):Q0 q s=some (Ss q s):=by
 unfold Q0 Ss;simp only[AL];by_cases h1:s.event<0;have h0:¬0<=s.event:=by omega
 rw[if_pos (by simpa using h1)];simp[h0];rw[if_neg (by simpa using h1)];have h0:0<=s.event:=by omega
 by_cases h2:(q.decls.length:Int)<=s.event;rw[if_pos (by simpa using h2),List.getElem?_eq_none (by omega)];simp;rw[if_neg (by simpa using h2)];obtain⟨d,hd,_⟩:=K3 (l:=q.decls) (i:=s.event) h0 (by omega);rw[B0 hd h0,hd];unfold Yt ZJ;rw[AL,FT];by_cases hl:s.args.length=d.types.length;rw[if_neg (by simp[hl])];unfold Wv;have hz:(s.args.zip d.types).length=s.args.length:=by simp[hl]
 rw[A0 (s.args.zip d.types) (fun p=>SC q p.1 p.2) (.inl ():Unit⊕Unit) (.inr ())
  (fun i z hz=>by obtain⟨hx,hy⟩:=Fe hz;simp only[HD,ltD hx,AP,AN hx,AN hy,Ul,aVa,AD,Aq hx (show s.args.length<=9223372036854775807 by omega),AL];cases SC q z.1 z.2<;>rfl)
  (by rw[hz];simp only[HD,ltI,AR]),AD]
 dsimp only;generalize (s.args.zip d.types).all (fun p=>SC q p.1 p.2)=b;cases b<;>simp[As,AG,hl,h0];rw[if_pos (by simp[hl])];simp[hl,AG]
theorem Sl{q:AA}{s:X2}(hs:s.args.length<=12):Zj q s=some (Ss q s):=by
 unfold Zj Ss;simp only[AL];by_cases h1:s.event<0;have h0:¬0<=s.event:=by omega
 rw[if_pos (by simpa using h1)];simp[h0];rw[if_neg (by simpa using h1)];have h0:0<=s.event:=by omega
 by_cases h2:(q.decls.length:Int)<=s.event;rw[if_pos (by simpa using h2),List.getElem?_eq_none (by omega)];simp;rw[if_neg (by simpa using h2)];obtain⟨d,hd,_⟩:=K3 (l:=q.decls) (i:=s.event) h0 (by omega);rw[B0 hd h0,hd];unfold ZJ;rw[FT];by_cases hl:s.args.length=d.types.length;rw[if_neg (by simp[hl])];unfold aM6;have hz:(s.args.zip d.types).length=s.args.length:=by simp[hl]
 rw[A0 (s.args.zip d.types) (fun p=>SC q p.1 p.2) (.inl ():Unit⊕Unit) (.inr ())
  (fun i z hz=>by obtain⟨hx,hy⟩:=Fe hz;simp only[J3,ltD hx,AP,AN hx,B0 hd h0,AN hy,Sk,AD,Aq hx (show s.args.length<=9223372036854775807 by omega),AL];cases SC q z.1 z.2<;>rfl)
  (by rw[hz];simp only[J3,ltI,AR]),AD]
 dsimp only;generalize (s.args.zip d.types).all (fun p=>SC q p.1 p.2)=b;cases b<;>simp[As,hl,h0];rw[if_pos (by simp[hl])];simp[hl]
def Cs(a b:X2):Bool:=decide (a.event=b.event)&&decide (a.args=b.args)
theorem LZ{a b:X2}(ha:a.args.length<=12):Q1 a b=some (Cs a b):=by
 unfold Q1 Cs Yu;rw[AL,AL,FT];by_cases he:a.event=b.event;rw[if_pos (by simpa using he)];by_cases hl:a.args.length=b.args.length;rw[if_neg (by simp[hl])];unfold Wy;rw[L4 a.args b.args (.inl ():Unit⊕Unit) (.inr ()) hl
  (fun i x y hx hy=>by simp only[HE,ltD hx,AP,AN hx,AN hy,AX.eqb_dec,AL,Aq hx (show a.args.length<=9223372036854775807 by omega)];cases decide (x=y)<;>rfl)
  (by simp only[HE,ltI,AR]),AD]
 cases hd:decide (a.args=b.args)<;>simp[As,AG,he];rw[if_pos (by simp[hl])];have:¬a.args=b.args:=fun h=>hl (by rw[h]);simp[this,AG];rw[if_neg (by simpa using he)];simp[he]
theorem OP{a b:X2}(ha:a.args.length<=12):Zk a b=some (Cs a b):=by
 unfold Zk Cs;rw[AL,AL,FT];by_cases he:a.event=b.event;rw[if_neg (by simpa using he)];by_cases hl:a.args.length=b.args.length;rw[if_neg (by simp[hl])];unfold aM7;rw[L4 a.args b.args (.inl ():Unit⊕Unit) (.inr ()) hl
  (fun i x y hx hy=>by simp only[J4,ltD hx,AP,AN hx,AN hy,AX.eqb_dec,AL,Aq hx (show a.args.length<=9223372036854775807 by omega)];cases decide (x=y)<;>rfl)
  (by simp only[J4,ltI,AR]),AD]
 cases hd:decide (a.args=b.args)<;>simp[As,he];rw[if_pos (by simp[hl])];have:¬a.args=b.args:=fun h=>hl (by rw[h]);simp[this];rw[if_pos (by simpa using he)];simp[he]
theorem Sp(a b:X2):Cs a b=Cs b a:=by unfold Cs;rw[show decide (a.event=b.event)=decide (b.event=a.event)from decide_eq_decide.2 eq_comm,show decide (a.args=b.args)=decide (b.args=a.args)from decide_eq_decide.2 eq_comm]
theorem KY{α:Type}{l:List α}{p:α->Bool}{i:Nat}{s:α}(h:l[i]? =some s)(hp:p s=true):decide (((l.findIdx p:Nat):Int)=(i:Int))=(l.take i).all fun x=> !p x:=by
 rw[Bool.eq_iff_iff,decide_eq_true_eq,List.all_eq_true];have hi:=BM h;have hs:l[i]=s:=by rw[List.getElem?_eq_getElem hi]at h;exact Option.some.inj h
 constructor;intro he x hx;have he2:l.findIdx p=i:=by omega
 obtain⟨j,hj,rfl⟩:=List.mem_iff_getElem.1 hx;rw[List.length_take]at hj;rw[List.getElem_take];have:=List.not_of_lt_findIdx (p:=p) (xs:=l) (i:=j) (by omega);simp only[this,Bool.not_false];intro ha;have h1:l.findIdx p<=i:=Nat.le_of_not_lt fun hlt=>by have:=List.not_of_lt_findIdx hlt;rw[hs,hp]at this;cases this
 rcases Nat.lt_or_ge (l.findIdx p) i with h2|h2
 have h3:l.findIdx p<l.length:=by omega
 have h4:=List.findIdx_getElem (p:=p) (xs:=l) (w:=h3);have:=ha l[l.findIdx p] (List.mem_iff_getElem.2 ⟨l.findIdx p,by rw[List.length_take];omega,List.getElem_take⟩);rw[h4]at this;cases this;have:l.findIdx p=i:=by omega
 rw[this]
theorem ZD{α:Type}{l:List α}{p:α->Bool}{i:Nat}{s:α}(h:l[i]? =some s)(hp:p s=true):l.any p=true:=List.any_eq_true.2 ⟨s,List.mem_of_getElem? h,hp⟩
def Kv(q:AA):Bool:=q.symbols.zipIdx.all fun z=>Ss q z.1&&(q.symbols.take z.2).all fun x=> !Cs x z.1
theorem JU(s:X2):Cs s s=true:=by simp[Cs]
theorem aAc{q:AA}(hF:CV q):Ya q.symbols q=some (Kv q):=by
 have hl:=hF.symbols;unfold Ya V2;rw[CI q.symbols (fun i s=>Ss q s&&(q.symbols.take i).all fun x=> !Cs x s) (.inl ():Unit⊕Unit) (.inr ())
  (fun i s hs=>by
   have hsl:=hF.args s (List.mem_of_getElem? hs);have hI:Y9 q.symbols s=some ((q.symbols.findIdx fun x=>Cs x s:Nat):Int):=by
    unfold Y9 Vz;rw[Bj q.symbols (fun x=>Cs x s)
     (fun j x hx=>by simp only[E9,ltD hx,AP,AN hx,Qd,LZ (hF.args x (List.mem_of_getElem? hx)),AD,Aq hx (show q.symbols.length<=9223372036854775807 by omega),AL];cases Cs x s<;>rfl)
     (by simp only[E9,ltI,AR]),ZD (p:=fun x=>Cs x s) hs (JU s),AD]
    rfl
   simp only[FA,ltD hs,AP,AN hs,Qe,Nu hsl,hI,AD,KY (p:=fun x=>Cs x s) hs (JU s),Aq hs (show q.symbols.length<=9223372036854775807 by omega),AL];cases Ss q s<;>cases(q.symbols.take i).all _<;>rfl)
  (by simp only[FA,ltI,AR]),AD]
 unfold Kv;cases q.symbols.zipIdx.all _<;>rfl
theorem aTf{q:AA}(hF:CV q){i:Nat}{s:X2}(hs:q.symbols[i]? =some s):aDi (i:Int) q 0=some (if((q.symbols.take i).all fun x=> !Cs x s)=true then .inl ()else .inr ()):=by
 have hl:=hF.symbols;have hi:=BM hs;have ht:(q.symbols.take i).length=i:=by rw[List.length_take];omega
 unfold aDi;rw[A0 (q.symbols.take i) (fun x=> !Cs x s) (.inl ():Unit⊕Unit) (.inr ())
  (fun j x hx=>by
   have hj:=BM hx;rw[ht]at hj;have hx2:q.symbols[j]? =some x:=by rw[List.getElem?_take_of_lt hj]at hx;exact hx
   have hd:decide ((j:Int)<(i:Int))=true:=by simp;omega
   simp only[Jh,hd,AP,AN hs,AN hx2,OP (hF.args s (List.mem_of_getElem? hs)),AD,Aq hx2 (show q.symbols.length<=9223372036854775807 by omega),AL,Sp s x];cases Cs x s<;>rfl)
  (by rw[ht];simp only[Jh,ltI,AR])]
theorem aJv{q:AA}(hF:CV q):aDg q 0=some (if Kv q=true then .inl ()else .inr ()):=by
 have hl:=hF.symbols;unfold aDg;rw[CI q.symbols (fun i s=>Ss q s&&(q.symbols.take i).all fun x=> !Cs x s) (.inl ():Unit⊕Unit) (.inr ())
  (fun i s hs=>by have hsl:=hF.args s (List.mem_of_getElem? hs);simp only[Jg,ltD hs,AP,AN hs,Sl hsl,aTf hF hs,AD,Aq hs (show q.symbols.length<=9223372036854775807 by omega),AL];cases Ss q s<;>cases(q.symbols.take i).all _<;>rfl)
  (by simp only[Jg,ltI,AR])]
 rfl
def qsB(nm:X2->Int->Bool)(q:AA):Bool:=q.quants.zipIdx.all fun z=>q.symbols.any fun s=>nm s (z.2:Int)
theorem aNz{q:AA}(hF:CV q):Yb q.quants q=some (qsB stB q):=by
 have hl:=hF.quants;have hl2:=hF.symbols;unfold Yb V5;rw[CI q.quants (fun i _=>q.symbols.any fun s=>stB s (i:Int)) (.inl ():Unit⊕Unit) (.inr ())
  (fun i s hs=>by
   have hI:Q3 q.symbols (i:Int)=some (q.symbols.any fun s=>stB s (i:Int)):=by
    unfold Q3 Ye WB;rw[Bj q.symbols (fun x=>stB x (i:Int))
     (fun j x hx=>by simp only[FE,ltD hx,AP,AN hx,Qf,LC _ _ (hF.args x (List.mem_of_getElem? hx)),AD,Aq hx (show q.symbols.length<=9223372036854775807 by omega),AL];cases stB x (i:Int)<;>rfl)
     (by simp only[FE,ltI,AR]),AD]
    cases q.symbols.any _<;>simp[As,AG]
   simp only[FC,ltD hs,AP,AN hs,Qg,hI,AD,Aq hs (show q.quants.length<=9223372036854775807 by omega),AL];cases q.symbols.any _<;>rfl)
  (by simp only[FC,ltI,AR]),AD]
 unfold qsB;cases q.quants.zipIdx.all _<;>rfl
theorem aOn{q:AA}(hF:CV q)(v:Int):Ol v q false 0=some (q.symbols.any fun s=>Es s v):=by
 have hl2:=hF.symbols;unfold Ol;have key:=CT (step:=fun s:Bool×Int=>EO v q s.1 s.2) q.symbols (fun i (w:Bool)=>(w,(i:Int))) (fun _ w x=>(.inl (w||Es x v):Bool⊕Bool)) (fun w=>w) (fun _ _=>True)
  (fun i x w hx _=>⟨by simp only[EO,ltD hx,AP,AN hx,Oa _ _ (hF.args x (List.mem_of_getElem? hx)),AD,Aq hx (show q.symbols.length<=9223372036854775807 by omega),AL];cases w<;>rfl,fun _ _=>trivial⟩)
  (fun w _=>by simp only[EO,ltI,AR]) (q.symbols.length+1) 0 false (by omega) (by omega) trivial
 refine key.trans ?_;rw[List.drop_zero];congr 1;have run:∀(l:List X2) (i:Nat) (w:Bool),H3 (fun _ w x=>(.inl (w||Es x v):Bool⊕Bool)) (fun w=>w) i l w=(w||l.any fun s=>Es s v):=by
  intro l;induction l with
  |nil=>intro i w;simp[H3]
  |cons x xs ih=>intro i w;rw[H3,List.any_cons,<-Bool.or_assoc];exact ih _ _
 exact run q.symbols 0 false
theorem aTg{q:AA}(hF:CV q):aDk q 0=some (if qsB Es q=true then .inl ()else .inr ()):=by
 have hl:=hF.quants;unfold aDk;rw[CI q.quants (fun i _=>q.symbols.any fun s=>Es s (i:Int)) (.inl ():Unit⊕Unit) (.inr ())
  (fun i s hs=>by simp only[Ji,ltD hs,AP,aOn hF,AD,Aq hs (show q.quants.length<=9223372036854775807 by omega),AL];cases q.symbols.any _<;>rfl)
  (by simp only[Ji,ltI,AR])]
 rfl
theorem aQp{q:AA}(hF:CV q):Xn q=some (aOh q&&Kv q&&qsB stB q):=by unfold Xn;rw[aIs hF,AD,aAb hF,AD,aAc hF,AD,aNz hF,AD];cases aOh q<;>cases Kv q<;>simp[AE]
theorem Dy{q:AA}(hF:CV q)(hT:∀t∈q.trans,0<=t.symbol/\t.symbol<q.symbols.length):X9 q=some (aOh q&&Kv q&&qsB Es q):=by have hl2:=hF.symbols;unfold X9;rw[Ai ⟨by omega,AU (by omega) (by decide)⟩,aOo hF hT,AD,aJu hF,AD,aJv hF,AD,aTg hF,AD];cases aOh q<;>cases Kv q<;>cases qsB Es q<;>rfl
theorem aLb{q:AA}(h:Kv q=true):∀s∈q.symbols,∀v,Es s v=stB s v:=by
 intro s hs v;obtain⟨i,hi,rfl⟩:=List.mem_iff_getElem.1 hs;have h1:=(CB q.symbols (fun i s=>Ss q s&&(q.symbols.take i).all fun x=> !Cs x s)).1 h i _ (List.getElem?_eq_getElem hi);simp only[ba]at h1;have h2:=h1.1;unfold Ss at h2;simp only[ba,decide_eq_true_eq]at h2;have h3:=h2.2;unfold Es stB;rw[Bool.eq_iff_iff,List.any_eq_true,List.any_eq_true];have hz:∀a∈q.symbols[i].args,a.kind=2->a.value=zV:=by
  intro a ha hk;cases hd:q.decls[q.symbols[i].event.toNat]? with
  |none=>rw[hd]at h3;cases h3
  |some d=>
   rw[hd]at h3
   simp only[ZJ,ba,decide_eq_true_eq,List.all_eq_true]at h3
   obtain⟨j,hj,rfl⟩:=List.mem_iff_getElem.1 ha
   have hjd:j<d.types.length:=by omega
   have h4:=h3.2 (q.symbols[i].args[j],d.types[j]) (List.mem_iff_getElem.2 ⟨j,by simp;omega,by simp⟩)
   unfold SC at h4
   simp only at h4
   rw[if_neg (by rw[hk];decide)]at h4
   split at h4
   cases h4
   rename_i hv;exact Decidable.of_not_not hv
 constructor;rintro⟨a,ha,hb⟩;simp only[ba,decide_eq_true_eq]at hb;refine⟨a,ha,?_⟩;have:=hz a ha hb.1;obtain⟨k,n,v'⟩:=a;simp only at hb this⊢;simp[hb.1,hb.2,this];rintro⟨a,ha,hb⟩;simp only[decide_eq_true_eq]at hb;refine⟨a,ha,?_⟩;rw[<-hb];simp
theorem aJs{q:AA}(h:∀s∈q.symbols,∀v,Es s v=stB s v):qsB Es q=qsB stB q:=by
 unfold qsB;have:∀v:Int,(q.symbols.any fun s=>Es s v)=q.symbols.any fun s=>stB s v:=fun v=>by rw[Bool.eq_iff_iff,List.any_eq_true,List.any_eq_true];exact⟨fun⟨s,hs,hh⟩=>⟨s,hs,h s hs v▸hh⟩,fun⟨s,hs,hh⟩=>⟨s,hs,(h s hs v).symm▸hh⟩⟩
 simp only[this]
end Go.Ac
