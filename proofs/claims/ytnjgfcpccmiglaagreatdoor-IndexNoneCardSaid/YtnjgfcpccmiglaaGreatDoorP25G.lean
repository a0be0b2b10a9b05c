/- Own work: the plain law. -/
import Derived.Test.YtnjgfcpccmiglaaGreatDoorP25F
set_option linter.unusedVariables false
set_option linter.unusedSimpArgs false
namespace Go.Ac
def Uz(q:AA)(a:List AT)(t:List Int):Bool:=decide (a.length=t.length)&&(a.zip t).all fun p=>NQ q p.1 p.2
def SV(q:AA)(s:X3):Bool:=decide (0<=s.event)&&match q.decls[s.event.toNat]? with|some d=>Uz q s.args d.types|none=>false
theorem KX{q:AA}{s:X3}(hs:s.args.length<=12):Z6 q s=some (SV q s):=by
 unfold Z6 SV;simp only[AN];by_cases h1:s.event<0;have h0:¬0<=s.event:=by omega
 rw[if_pos (by simpa using h1)];simp[h0];rw[if_neg (by simpa using h1)];have h0:0<=s.event:=by omega
 by_cases h2:(q.decls.length:Int)<=s.event;rw[if_pos (by simpa using h2),List.getElem?_eq_none (by omega)];simp;rw[if_neg (by simpa using h2)];obtain⟨d,hd,_⟩:=II (l:=q.decls) (i:=s.event) h0 (by omega);rw[Bn hd h0,hd];unfold Yc Uz;rw[AN,Hy];by_cases hl:s.args.length=d.types.length;rw[if_neg (by simp[hl])];unfold Px;have hz:(s.args.zip d.types).length=s.args.length:=by simp[hl]
 rw[BB (s.args.zip d.types) (fun p=>NQ q p.1 p.2) (.inl ():Unit⊕Unit) (.inr ())
  (fun i z hz=>by obtain⟨hx,hy⟩:=IH hz;simp only[FS,ltD hx,AW,AU hx,AU hy,Qr,aCu,AH,At hx (show s.args.length<=9223372036854775807 by omega),AN];cases NQ q z.1 z.2<;>rfl)
  (by rw[hz];simp only[FS,ltI,AV]),AH]
 dsimp only;generalize (s.args.zip d.types).all (fun p=>NQ q p.1 p.2)=b;cases b<;>simp[Ap,AF,hl,h0];rw[if_pos (by simp[hl])];simp[hl,AF]
theorem NH{q:AA}{s:X3}(hs:s.args.length<=12):Yp q s=some (SV q s):=by
 unfold Yp SV;simp only[AN];by_cases h1:s.event<0;have h0:¬0<=s.event:=by omega
 rw[if_pos (by simpa using h1)];simp[h0];rw[if_neg (by simpa using h1)];have h0:0<=s.event:=by omega
 by_cases h2:(q.decls.length:Int)<=s.event;rw[if_pos (by simpa using h2),List.getElem?_eq_none (by omega)];simp;rw[if_neg (by simpa using h2)];obtain⟨d,hd,_⟩:=II (l:=q.decls) (i:=s.event) h0 (by omega);rw[Bn hd h0,hd];unfold Uz;rw[Hy];by_cases hl:s.args.length=d.types.length;rw[if_neg (by simp[hl])];unfold Wj;have hz:(s.args.zip d.types).length=s.args.length:=by simp[hl]
 rw[BB (s.args.zip d.types) (fun p=>NQ q p.1 p.2) (.inl ():Unit⊕Unit) (.inr ())
  (fun i z hz=>by obtain⟨hx,hy⟩:=IH hz;simp only[HY,ltD hx,AW,AU hx,Bn hd h0,AU hy,NG,AH,At hx (show s.args.length<=9223372036854775807 by omega),AN];cases NQ q z.1 z.2<;>rfl)
  (by rw[hz];simp only[HY,ltI,AV]),AH]
 dsimp only;generalize (s.args.zip d.types).all (fun p=>NQ q p.1 p.2)=b;cases b<;>simp[Ap,hl,h0];rw[if_pos (by simp[hl])];simp[hl]
def CX(a b:X3):Bool:=decide (a.event=b.event)&&decide (a.args=b.args)
theorem Ib{a b:X3}(ha:a.args.length<=12):Z7 a b=some (CX a b):=by
 unfold Z7 CX Yd;rw[AN,AN,Hy];by_cases he:a.event=b.event;rw[if_pos (by simpa using he)];by_cases hl:a.args.length=b.args.length;rw[if_neg (by simp[hl])];unfold P0;rw[Iw a.args b.args (.inl ():Unit⊕Unit) (.inr ()) hl
  (fun i x y hx hy=>by simp only[FT,ltD hx,AW,AU hx,AU hy,AT.eqb_dec,AN,At hx (show a.args.length<=9223372036854775807 by omega)];cases decide (x=y)<;>rfl)
  (by simp only[FT,ltI,AV]),AH]
 cases hd:decide (a.args=b.args)<;>simp[Ap,AF,he];rw[if_pos (by simp[hl])];have:¬a.args=b.args:=fun h=>hl (by rw[h]);simp[this,AF];rw[if_neg (by simpa using he)];simp[he]
theorem Ku{a b:X3}(ha:a.args.length<=12):Yq a b=some (CX a b):=by
 unfold Yq CX;rw[AN,AN,Hy];by_cases he:a.event=b.event;rw[if_neg (by simpa using he)];by_cases hl:a.args.length=b.args.length;rw[if_neg (by simp[hl])];unfold Wl;rw[Iw a.args b.args (.inl ():Unit⊕Unit) (.inr ()) hl
  (fun i x y hx hy=>by simp only[HZ,ltD hx,AW,AU hx,AU hy,AT.eqb_dec,AN,At hx (show a.args.length<=9223372036854775807 by omega)];cases decide (x=y)<;>rfl)
  (by simp only[HZ,ltI,AV]),AH]
 cases hd:decide (a.args=b.args)<;>simp[Ap,he];rw[if_pos (by simp[hl])];have:¬a.args=b.args:=fun h=>hl (by rw[h]);simp[this];rw[if_pos (by simpa using he)];simp[he]
theorem NL(a b:X3):CX a b=CX b a:=by unfold CX;rw[show decide (a.event=b.event)=decide (b.event=a.event)from decide_eq_decide.2 eq_comm,show decide (a.args=b.args)=decide (b.args=a.args)from decide_eq_decide.2 eq_comm]
theorem Hs{α:Type}{l:List α}{p:α->Bool}{i:Nat}{s:α}(h:l[i]? =some s)(hp:p s=true):decide (((l.findIdx p:Nat):Int)=(i:Int))=(l.take i).all fun x=> !p x:=by
 rw[Bool.eq_iff_iff,decide_eq_true_eq,List.all_eq_true];have hi:=CG h;have hs:l[i]=s:=by rw[List.getElem?_eq_getElem hi]at h;exact Option.some.inj h
 constructor;intro he x hx;have he2:l.findIdx p=i:=by omega
 obtain⟨j,hj,rfl⟩:=List.mem_iff_getElem.1 hx;rw[List.length_take]at hj;rw[List.getElem_take];have:=List.not_of_lt_findIdx (p:=p) (xs:=l) (i:=j) (by omega);simp only[this,Bool.not_false];intro ha;have h1:l.findIdx p<=i:=Nat.le_of_not_lt fun hlt=>by have:=List.not_of_lt_findIdx hlt;rw[hs,hp]at this;cases this
 rcases Nat.lt_or_ge (l.findIdx p) i with h2|h2
 have h3:l.findIdx p<l.length:=by omega
 have h4:=List.findIdx_getElem (p:=p) (xs:=l) (w:=h3);have:=ha l[l.findIdx p] (List.mem_iff_getElem.2 ⟨l.findIdx p,by rw[List.length_take];omega,List.getElem_take⟩);rw[h4]at this;cases this;have:l.findIdx p=i:=by omega
 rw[this]
theorem RI{α:Type}{l:List α}{p:α->Bool}{i:Nat}{s:α}(h:l[i]? =some s)(hp:p s=true):l.any p=true:=List.any_eq_true.2 ⟨s,List.mem_of_getElem? h,hp⟩
def IE(q:AA):Bool:=q.symbols.zipIdx.all fun z=>SV q z.1&&(q.symbols.take z.2).all fun x=> !CX x z.1
theorem G7(s:X3):CX s s=true:=by simp[CX]
theorem Re{q:AA}(hF:Dy q):Xr q.symbols q=some (IE q):=by
 have hl:=hF.symbols;unfold Xr O3;rw[Bo q.symbols (fun i s=>SV q s&&(q.symbols.take i).all fun x=> !CX x s) (.inl ():Unit⊕Unit) (.inr ())
  (fun i s hs=>by
   have hsl:=hF.args s (List.mem_of_getElem? hs);have hI:Xq q.symbols s=some ((q.symbols.findIdx fun x=>CX x s:Nat):Int):=by
    unfold Xq O0;rw[BV q.symbols (fun x=>CX x s)
     (fun j x hx=>by simp only[D7,ltD hx,AW,AU hx,Zg,Ib (hF.args x (List.mem_of_getElem? hx)),AH,At hx (show q.symbols.length<=9223372036854775807 by omega),AN];cases CX x s<;>rfl)
     (by simp only[D7,ltI,AV]),RI (p:=fun x=>CX x s) hs (G7 s),AH]
    rfl
   simp only[D8,ltD hs,AW,AU hs,Zh,KX hsl,hI,AH,Hs (p:=fun x=>CX x s) hs (G7 s),At hs (show q.symbols.length<=9223372036854775807 by omega),AN];cases SV q s<;>cases(q.symbols.take i).all _<;>rfl)
  (by simp only[D8,ltI,AV]),AH]
 unfold IE;cases q.symbols.zipIdx.all _<;>rfl
theorem aB7{q:AA}(hF:Dy q){i:Nat}{s:X3}(hs:q.symbols[i]? =some s):Sx (i:Int) q 0=some (if((q.symbols.take i).all fun x=> !CX x s)=true then .inl ()else .inr ()):=by
 have hl:=hF.symbols;have hi:=CG hs;have ht:(q.symbols.take i).length=i:=by rw[List.length_take];omega
 unfold Sx;rw[BB (q.symbols.take i) (fun x=> !CX x s) (.inl ():Unit⊕Unit) (.inr ())
  (fun j x hx=>by
   have hj:=CG hx;rw[ht]at hj;have hx2:q.symbols[j]? =some x:=by rw[List.getElem?_take_of_lt hj]at hx;exact hx
   have hd:decide ((j:Int)<(i:Int))=true:=by simp;omega
   simp only[HG,hd,AW,AU hs,AU hx2,Ku (hF.args s (List.mem_of_getElem? hs)),AH,At hx2 (show q.symbols.length<=9223372036854775807 by omega),AN,NL s x];cases CX x s<;>rfl)
  (by rw[ht];simp only[HG,ltI,AV])]
theorem VW{q:AA}(hF:Dy q):Sv q 0=some (if IE q=true then .inl ()else .inr ()):=by
 have hl:=hF.symbols;unfold Sv;rw[Bo q.symbols (fun i s=>SV q s&&(q.symbols.take i).all fun x=> !CX x s) (.inl ():Unit⊕Unit) (.inr ())
  (fun i s hs=>by have hsl:=hF.args s (List.mem_of_getElem? hs);simp only[HF,ltD hs,AW,AU hs,NH hsl,aB7 hF hs,AH,At hs (show q.symbols.length<=9223372036854775807 by omega),AN];cases SV q s<;>cases(q.symbols.take i).all _<;>rfl)
  (by simp only[HF,ltI,AV])]
 rfl
def qsB(nm:X3->Int->Bool)(q:AA):Bool:=q.quants.zipIdx.all fun z=>q.symbols.any fun s=>nm s (z.2:Int)
theorem XH{q:AA}(hF:Dy q):Xs q.quants q=some (qsB stB q):=by
 have hl:=hF.quants;have hl2:=hF.symbols;unfold Xs O6;rw[Bo q.quants (fun i _=>q.symbols.any fun s=>stB s (i:Int)) (.inl ():Unit⊕Unit) (.inr ())
  (fun i s hs=>by
   have hI:Z8 q.symbols (i:Int)=some (q.symbols.any fun s=>stB s (i:Int)):=by
    unfold Z8 Xx PG;rw[BV q.symbols (fun x=>stB x (i:Int))
     (fun j x hx=>by simp only[EB,ltD hx,AW,AU hx,Zi,IO _ _ (hF.args x (List.mem_of_getElem? hx)),AH,At hx (show q.symbols.length<=9223372036854775807 by omega),AN];cases stB x (i:Int)<;>rfl)
     (by simp only[EB,ltI,AV]),AH]
    cases q.symbols.any _<;>simp[Ap,AF]
   simp only[D9,ltD hs,AW,AU hs,Zj,hI,AH,At hs (show q.quants.length<=9223372036854775807 by omega),AN];cases q.symbols.any _<;>rfl)
  (by simp only[D9,ltI,AV]),AH]
 unfold qsB;cases q.quants.zipIdx.all _<;>rfl
theorem XT{q:AA}(hF:Dy q)(v:Int):K6 v q false 0=some (q.symbols.any fun s=>Dx s v):=by
 have hl2:=hF.symbols;unfold K6;have key:=B0 (step:=fun s:Bool×Int=>DS v q s.1 s.2) q.symbols (fun i (w:Bool)=>(w,(i:Int))) (fun _ w x=>(.inl (w||Dx x v):Bool⊕Bool)) (fun w=>w) (fun _ _=>True)
  (fun i x w hx _=>⟨by simp only[DS,ltD hx,AW,AU hx,K2 _ _ (hF.args x (List.mem_of_getElem? hx)),AH,At hx (show q.symbols.length<=9223372036854775807 by omega),AN];cases w<;>rfl,fun _ _=>trivial⟩)
  (fun w _=>by simp only[DS,ltI,AV]) (q.symbols.length+1) 0 false (by omega) (by omega) trivial
 refine key.trans ?_;rw[List.drop_zero];congr 1;have run:∀(l:List X3) (i:Nat) (w:Bool),GN (fun _ w x=>(.inl (w||Dx x v):Bool⊕Bool)) (fun w=>w) i l w=(w||l.any fun s=>Dx s v):=by
  intro l;induction l with
  |nil=>intro i w;simp[GN]
  |cons x xs ih=>intro i w;rw[GN,List.any_cons,<-Bool.or_assoc];exact ih _ _
 exact run q.symbols 0 false
theorem aB8{q:AA}(hF:Dy q):Sz q 0=some (if qsB Dx q=true then .inl ()else .inr ()):=by
 have hl:=hF.quants;unfold Sz;rw[Bo q.quants (fun i _=>q.symbols.any fun s=>Dx s (i:Int)) (.inl ():Unit⊕Unit) (.inr ())
  (fun i s hs=>by simp only[HH,ltD hs,AW,XT hF,AH,At hs (show q.quants.length<=9223372036854775807 by omega),AN];cases q.symbols.any _<;>rfl)
  (by simp only[HH,ltI,AV])]
 rfl
theorem aDy{q:AA}(hF:Dy q):Xi q=some (XQ q&&IE q&&qsB stB q):=by unfold Xi;rw[U8 hF,AH,Rd hF,AH,Re hF,AH,XH hF,AH];cases XQ q<;>cases IE q<;>simp[AE]
theorem DC{q:AA}(hF:Dy q)(hT:∀t∈q.trans,0<=t.symbol/\t.symbol<q.symbols.length):X6 q=some (XQ q&&IE q&&qsB Dx q):=by have hl2:=hF.symbols;unfold X6;rw[Bw ⟨by omega,Bb (by omega) (by decide)⟩,XU hF hT,AH,VV hF,AH,VW hF,AH,aB8 hF,AH];cases XQ q<;>cases IE q<;>cases qsB Dx q<;>rfl
theorem V1{q:AA}(h:IE q=true):∀s∈q.symbols,∀v,Dx s v=stB s v:=by
 intro s hs v;obtain⟨i,hi,rfl⟩:=List.mem_iff_getElem.1 hs;have h1:=(B7 q.symbols (fun i s=>SV q s&&(q.symbols.take i).all fun x=> !CX x s)).1 h i _ (List.getElem?_eq_getElem hi);simp only[ba]at h1;have h2:=h1.1;unfold SV at h2;simp only[ba,decide_eq_true_eq]at h2;have h3:=h2.2;unfold Dx stB;rw[Bool.eq_iff_iff,List.any_eq_true,List.any_eq_true];have hz:∀a∈q.symbols[i].args,a.kind=2->a.value=zV:=by
  intro a ha hk;cases hd:q.decls[q.symbols[i].event.toNat]? with
  |none=>rw[hd]at h3;cases h3
  |some d=>
   rw[hd]at h3
   simp only[Uz,ba,decide_eq_true_eq,List.all_eq_true]at h3
   obtain⟨j,hj,rfl⟩:=List.mem_iff_getElem.1 ha
   have hjd:j<d.types.length:=by omega
   have h4:=h3.2 (q.symbols[i].args[j],d.types[j]) (List.mem_iff_getElem.2 ⟨j,by simp;omega,by simp⟩)
   unfold NQ at h4
   simp only at h4
   rw[if_neg (by rw[hk];decide)]at h4
   split at h4
   cases h4
   rename_i hv;exact Decidable.of_not_not hv
 constructor;rintro⟨a,ha,hb⟩;simp only[ba,decide_eq_true_eq]at hb;refine⟨a,ha,?_⟩;have:=hz a ha hb.1;obtain⟨k,n,v'⟩:=a;simp only at hb this⊢;simp[hb.1,hb.2,this];rintro⟨a,ha,hb⟩;simp only[decide_eq_true_eq]at hb;refine⟨a,ha,?_⟩;rw[<-hb];simp
theorem VT{q:AA}(h:∀s∈q.symbols,∀v,Dx s v=stB s v):qsB Dx q=qsB stB q:=by
 unfold qsB;have:∀v:Int,(q.symbols.any fun s=>Dx s v)=q.symbols.any fun s=>stB s v:=fun v=>by rw[Bool.eq_iff_iff,List.any_eq_true,List.any_eq_true];exact⟨fun⟨s,hs,hh⟩=>⟨s,hs,h s hs v▸hh⟩,fun⟨s,hs,hh⟩=>⟨s,hs,(h s hs v).symm▸hh⟩⟩
 simp only[this]
end Go.Ac
