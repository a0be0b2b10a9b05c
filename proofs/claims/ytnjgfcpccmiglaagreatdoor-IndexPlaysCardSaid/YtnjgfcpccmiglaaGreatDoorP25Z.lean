/- Own work: the plain law. -/
import Derived.Test.YtnjgfcpccmiglaaGreatDoorP25Y
import Derived.Test.YtnjgfcpccmiglaaGreatDoorP25pK
set_option linter.unusedVariables false
set_option linter.unusedSimpArgs false
namespace Go.Ac
theorem Nt{q:AA}(hF:CV q)(h:Zh q=some true):If q:=by
 have l1:=hF.quants;have l2:=hF.frees;have l3:=hF.states;have l4:=hF.symbols;have l5:=hF.nodes;have l6:=hF.trans;have hfew:Qu q=some (decide ((q.quants.length:Int)<=8)):=by unfold Qu;simp only[CX];by_cases h:(q.quants.length:Int)<=8;rw[if_pos h,if_pos (by omega),if_pos (by omega),if_pos (by omega),if_pos (by omega)];simp[h];omega;rw[if_neg h];simp[h]
 unfold Zh at h;rw[hfew,AD,CX]at h;by_cases hq:(q.quants.length:Int)<=8;rw[if_pos hq,aQj hF,AD]at h;cases hh:(aCt q.decls&&Hs q&&Fm q)with
 |false=>rw[hh,AR]at h;cases h
 |true=>
  rw[hh,AP]at h
  simp only[ba]at hh
  obtain⟨⟨hch,_⟩,_⟩:=hh
  cases ht:Zs q with
  |none=>rw[ht]at h;cases h
  |some b=>
   rw[ht,AD]at h
   cases b with
   |false=>cases h
   |true=>
    rw[AP,aQp hF,AD]at h
    have h:=Option.some.inj h
    simp only[ba]at h
    refine⟨?_,by omega,fun s hs=>?_⟩
    intro j d hj
    unfold aCt at hch
    rw[ba]at hch
    have:=(CB q.decls (fun i d=>HY q.decls i d)).1 hch.2 j d hj
    unfold HY at this
    simp only[ba]at this
    have hall:=this.1.1.2
    obtain⟨i,hi,hij⟩:=aI2 hj rfl
    obtain⟨x,hx,hxn⟩:=JI hi
    by_cases e:i=j
    rw[hi,e]
    have hm:x∈q.decls.take j:=List.mem_iff_getElem?.2 ⟨i,by rw[List.getElem?_take_of_lt (by omega)];exact hx⟩
    have:=List.all_eq_true.1 hall x hm
    simp[hxn]at this
    obtain⟨i,hi,rfl⟩:=List.mem_iff_getElem.1 hs
    have h1:=(CB q.symbols (fun i s=>Ss q s&&(q.symbols.take i).all fun x=> !Cs x s)).1 h.1.2 i _ (List.getElem?_eq_getElem hi)
    simp only[ba]at h1
    have h2:=h1.1
    unfold Ss at h2
    rw[ba,decide_eq_true_eq]at h2
    obtain⟨h0,h3⟩:=h2
    cases hd:q.decls[(q.symbols[i]).event.toNat]? with
    |none=>rw[hd]at h3;cases h3
    |some d=>
     rw[hd]at h3
     simp only at h3
     unfold ZJ at h3
     rw[ba,decide_eq_true_eq]at h3
     refine⟨h0,⟨d,hd,h3.1⟩,fun a ha=>?_⟩
     obtain⟨k,hk⟩:=List.mem_iff_getElem?.1 ha
     obtain⟨t,ht,_⟩:=A8 (l:=d.types) (i:=k) (by have:=BM hk;omega)
     have h4:=List.all_eq_true.1 h3.2 (a,t) (List.mem_iff_getElem?.2 ⟨k,by rw[List.getElem?_zip_eq_some];exact⟨hk,ht⟩⟩)
     unfold SC at h4
     constructor
     intro hk2
     simp only[hk2]at h4
     rw[if_neg (by decide)]at h4
     split at h4
     cases h4
     simp only[if_true,ba,decide_eq_true_eq]at h4
     refine⟨h4.1,?_⟩
     cases hx:q.quants[a.n.toNat]? with
     |none=>rw[hx]at h4;exact absurd h4.2 (by simp)
     |some x=>have:=BM hx;omega
     intro hk2
     simp only[hk2]at h4
     rw[if_neg (by decide)]at h4
     split at h4
     cases h4
     rw[if_neg (by decide)]at h4
     simp only[if_true,ba,decide_eq_true_eq]at h4
     refine⟨h4.1,?_⟩
     cases hx:q.frees[a.n.toNat]? with
     |none=>rw[hx]at h4;exact absurd h4.2 (by simp)
     |some x=>have:=BM hx;omega
 rw[if_neg hq]at h;cases h
theorem aJr{w w':List X0}{x:X0}(h:K5 w x=some w'):(∀s∈w,s∈w')/\∃s∈w',s.var=x.var:=by unfold K5 at h;split at h;rename_i hg;split at h;cases h;exact⟨fun s hs=>hs,⟨x.var,(BJ w x.var).1⟩,Cy (Prod.ext rfl hg),rfl⟩;cases h;cases h;exact⟨fun s hs=>(Cb w x s).2 (.inr hs),x,(Cb w x x).2 (.inl rfl),rfl⟩
theorem KU:∀(al:List AX) (xs:List X3) (b f:List X0) (p:List X0×List X0),al.length=xs.length->IG al xs b f=some p->
 (∀s∈b,s∈p.1)/\(∀a∈al,a.kind=2->∃s∈p.1,s.var=a.n)/\∀s∈p.1,s∈b\/∃a∈al,a.kind=2/\a.n=s.var
 |[],[],b,f,p,_,h=>by
  simp only[IG]at h;cases h;exact⟨fun s hs=>hs,by simp,fun s hs=>.inl hs⟩
 |[],x::xs,b,f,p,hl,h=>by simp at hl
 |a::al,[],b,f,p,hl,h=>by simp at hl
 |a::al,x::xs,b,f,p,hl,h=>by
  have hl':al.length=xs.length:=by simpa using hl
  simp only[IG]at h;have skip:∀f,a.kind≠2->IG al xs b f=some p->_:=fun f hk h=>by
   obtain⟨a1,a2,a3⟩:=KU al xs b f p hl' h;exact(⟨a1,fun c hc hk2=>by
    rcases mc.1 hc with rfl|hc
    exact absurd hk2 hk;exact a2 c hc hk2,fun s hs=>(a3 s hs).imp id fun⟨c,hc,h⟩=>⟨c,List.mem_cons_of_mem _ hc,h⟩⟩:(∀s∈b,s∈p.1)/\(∀c∈a::al,c.kind=2->∃s∈p.1,s.var=c.n)/\∀s∈p.1,s∈b\/∃c∈a::al,c.kind=2/\c.n=s.var)
  split at h;rename_i hk;split at h;exact skip f (by omega) h;cases h;split at h;rename_i hk;split at h;cases h;rename_i b' hp;obtain⟨c1,c2⟩:=aJr hp;obtain⟨a1,a2,a3⟩:=KU al xs b' f p hl' h;refine⟨fun s hs=>a1 s (c1 s hs),fun c hc hk2=>?_,fun s hs=>?_⟩;rcases mc.1 hc with rfl|hc
  obtain⟨s,hs,hv⟩:=c2;exact⟨s,a1 s hs,hv⟩;exact a2 c hc hk2;rcases a3 s hs with hs|⟨c,hc,hcc⟩
  rcases RN hp hs with rfl|hs
  exact .inr ⟨a,by simp,hk,rfl⟩;exact .inl hs;exact .inr ⟨c,List.mem_cons_of_mem _ hc,hcc⟩;rename_i hk;split at h;split at h;cases h;exact skip _ hk h;exact skip f hk h
theorem aN5{q:AA}(hF:CV q)(hR:If q){e:Xm}(he:eR q.decls e=true)(hw:∀v∈e.args,I64 v.int){i:Nat}{h:Ae}(hi:Mb q i e=some h):∃sy,HOk q h i sy:=by
 have hv:=aNo he;have hmem:=(aSq hi).2;unfold Mb at hi;split at hi;cases hi;rename_i s hs;split at hi;cases hi;split at hi;rename_i hlen;simp only[om]at hi;obtain⟨p,hp,rfl⟩:=hi;have hsm:=List.mem_of_getElem? hs;have h12:=hF.args s hsm;obtain⟨a1,a2,a3,a4,a5⟩:=FO _ _ _ _ _ (aZq hF hR hsm) Ig Ig (fun s hs=>by simp at hs) hp;obtain⟨c1,c2,c3⟩:=KU _ _ _ _ _ hlen.2 hp;simp only[List.length_nil]at a4;refine⟨s,rfl,hs,by simp only;omega,fun a ha hk=>?_,fun x hx=>?_⟩;obtain⟨x,hx,hxv⟩:=c2 a ha hk;have hg:=B5 a1.1 hx;rw[hxv]at hg;simp only;rw[hg];have hm:=hmem x hx;exact⟨rfl,aTo (hv _ hm),hw _ hm⟩;refine⟨B5 a1.1 hx,?_⟩;rcases c3 x hx with h|h
 cases h;exact h;cases hi
theorem aSp(q:AA)(l:List Xg)(hb:∀a∈l,a.bind.length<=9223372036854775807):∃b,Yj q l=some b/\(b=true->l.length<=30/\CV q/\Zh q=some true/\∀a∈l,BR a.bind):=by
 unfold Yj;rw[CX];split;exact⟨_,rfl,by simp⟩;rename_i hl30;obtain⟨n,hn,hnF⟩:=aWe q;rw[hn,AD,CX];by_cases h0:n=0;rw[if_pos h0];exact⟨_,rfl,by simp⟩;rw[if_neg h0];have hF:=hnF h0;have hq:=hF.quants;obtain⟨b,hc,hr⟩:=aR3 hF;rw[hr,AD];cases b with
 |false=>exact⟨_,rfl,by simp⟩
 |true=>
 rw[Bool.not_true,AR];unfold aMn;obtain⟨t,ht,hQ⟩:=Bu (step:=fun s=>G2 l q s) l.length (fun i=>∀a,l[i]? =some a->BR a.bind) (fun t=>t=.inl ()->∀a∈l,BR a.bind)
  (fun i hi=>by
   obtain⟨x,hx,_⟩:=A8 hi;have hxb:=hb x (List.mem_of_getElem? hx);obtain⟨v,hv,hvR⟩:=MF x.bind hxb;simp only[G2,ltD hx,AP,AN hx,hv,AD,Aq hx (show l.length<=9223372036854775807 by omega)];rw[CX];by_cases h1:(8:Int)<(x.bind.length:Int);rw[if_pos h1];exact .inr ⟨_,rfl,by simp⟩;rw[if_neg h1];cases v with
   |false=>exact .inr ⟨_,rfl,by simp⟩
   |true=>
    have hBR:=hvR rfl
    have hin:∃t,aGz l (i:Int) q 0=some t:=by
     unfold aGz;obtain⟨t,ht,_⟩:=Bu (step:=fun s=>G3 l (i:Int) q s) x.bind.length (fun _=>True) (fun _=>True)
      (fun j hj=>by
       obtain⟨y,hy,_⟩:=A8 hj;have hyv:=hBR.2 y (List.mem_of_getElem? hy);simp only[G3,AN hx,ltD hy,AP,AN hy,Aq hy hxb];rw[CX];by_cases c1:(q.quants.length:Int)<=y.var;rw[if_pos c1];exact .inr ⟨_,rfl,trivial⟩;rw[if_neg c1];obtain⟨z,hz,_⟩:=A8 (l:=q.quants) (i:=y.var.toNat) (by omega);rw[B0 hz hyv.1];simp only[AL];repeat' split
       all_goals first|exact .inl ⟨rfl,trivial⟩|exact .inr ⟨_,rfl,trivial⟩)
      (fun _=>⟨.inl (),by simp only[G3,AN hx,ltI,AR],trivial⟩)
     exact⟨t,ht⟩
    obtain⟨t,ht⟩:=hin
    rw[Bool.not_true,AR,ht,AD]
    cases t with
    |inl _=>exact .inl ⟨rfl,fun a ha=>by rw[hx]at ha;cases ha;exact hBR⟩
    |inr _=>exact .inr ⟨_,rfl,by simp⟩)
  (fun hP=>⟨.inl (),by simp only[G2,ltI,AR],fun _=>Nj hP⟩)
 rw[ht,AD];rcases t with _|_
 exact⟨_,rfl,fun _=>⟨by omega,hF,hc,hQ rfl⟩⟩;exact⟨_,rfl,by simp⟩
theorem aZr{l:List Xg}{i:Nat}{a:Xg}(ha:l[i]? =some a)(H:List Ae)(s11:List Ent)(s12:Bool)(w3 q:AA)(M:MP Int (List X0))(m:PM):
 UU l H (i:Int) s11 s12 (decide (a.kind=0)) w3 q M m=aT0 a q M m:=by
 have id:∀o:Option (Bool×AA×MP Int (List X0)×PM),(AG o fun r=>some (r.1,r.2.1,r.2.2.1,r.2.2.2))=o:=fun o=>by cases o<;>rfl
 unfold UU aT0
 rw[CX]
 by_cases h:a.kind=0
 rw[if_pos h,if_pos h,AN ha,AN ha,id]
 rw[if_neg h,if_neg h,AN ha,id]
theorem bAb{q:AA}(hF:CV q){l:List Xg}(hl:l.length<=30)(hB:∀a∈l,BOk a.bind){H:List Ae}(hH:∀x∈H,∃i sy,HOk q x i sy)(hHl:H.length<=1000):∀(r pre:List Xg) (L:List Ent) (M:MP Int (List X0)) (m:PM),l=pre++r->INV (144*pre.length) q L M m->L.length<=pre.length->
 ∃L' M' m',Rk l H q L (pre.length:Int) q M m=some (.inl (L',q,M',m'))/\INV 5000 q L' M' m'/\L'.length<=30
 |[],pre,L,M,m,hs,hI,hL=>by
  rw[PA];have e:l.length=pre.length:=by rw[hs];simp
  unfold Ga;rw[AL,if_neg (by simp[e])];exact⟨L,M,m,rfl,⟨hI.ids,hI.ok,hI.ml,hI.pi.mono (by omega),hI.pl⟩,by omega⟩
 |a::r,pre,L,M,m,hs,hI,hL=>by
  have hx:l[pre.length]? =some a:=by rw[hs];simp
  have hp:=BM hx;obtain⟨L1,ok,M1,m1,e1,e2,I1,hL1⟩:=aSj hI hF (by omega) (by omega) a (hB a (List.mem_of_getElem? hx));have h12:∀x∈H,x.bind.length<=12:=fun x hx=>by obtain⟨i,sy,hh⟩:=hH x hx;exact hh.len
  have hbl:∀e∈L1,e.bind.length<=1000:=fun e he=>(I1.ok e he).len;obtain⟨o1,f1,J1⟩:=aCg I1 hF (by omega) (by omega) false H hH hHl;obtain⟨o2,f2,J2⟩:=aCg I1 hF (by omega) (by omega) true H hH hHl;obtain⟨p1,g1,K1⟩:=aPf (L:=L1) (H:=H) false I1.ids (by omega) hbl hHl h12;obtain⟨p2,g2,K2⟩:=aPf (L:=L1) (H:=H) true I1.ids (by omega) hbl hHl h12;have q1:=J1.uniq K1 fun e _=>Iff.rfl;have q2:=J2.uniq K2 fun e _=>Iff.rfl;subst q1 q2;have d1:=J1.len;have d2:=J2.len;have hb:UV l L H (pre.length:Int) q q M m=some (.inl (L1,q,m1,M1)):=by unfold UV Zv Ur;rw[AN hx,e1,AD,AN hx,aZr hx,e2,AD];simp only[beq_self_eq_true,Bool.not_true,AR];rw[aSz I1 (by omega),AD,decide_eq_true rfl,Bool.not_true,AR];simp only;rw[f1,AD,AD,g1,AD,MN o1 (by omega),AD,Bool.not_true,AR,f2,AD,AD,g2,AD,MN o2 (by omega),AD,Bool.not_true,AR]
  rw[PA];unfold Ga;rw[ltD hx,AP,hb,AD,DH,Aq hx (by omega),A4];have:=bAb hF hl hB hH hHl r (pre++[a]) L1 M1 m1 (by rw[hs];simp) ⟨I1.ids,I1.ok,I1.ml,I1.pi.mono (by simp;omega),I1.pl⟩ (by simp;omega);rw[List.length_append]at this;exact this
theorem aOa(w:List (List UInt8))(hl:w.length<=10000):aE2 w w 0=some (.inl ()):=by
 unfold aE2;rw[A0 w (fun _=>true) (.inl ():Unit⊕Unit) (.inr ())
  (fun i x hx=>by simp only[Jk,ltD hx,AP,AN hx,decide_true,Bool.not_true,AR,Aq hx (show w.length<=9223372036854775807 by omega),if_true])
  (by simp only[Jk,ltI,AR])]
 simp
theorem aWw(q:AA)(l:List Xg)(e:Xm)(hl:∀a∈l,a.bind.length<=9223372036854775807/\∀s∈a.bind,I64 s.value.int)(he:e.args.length<=9223372036854775807/\∀v∈e.args,I64 v.int):Xq q l e=some true:=by
 obtain⟨b,hf,hQ⟩:=aSp q l fun a ha=>(hl a ha).1;unfold Xq;rw[hf,AD,aU8];cases b with
 |false=>rfl
 |true=>
  obtain⟨h30,hF,hR,hBR⟩:=hQ rfl
  have hRQ:=Nt hF hR
  have hdl:=hF.decls
  rw[Bool.not_true,AR,aYv q.decls e (by omega) he.1,AD]
  cases hev:eR q.decls e with
  |false=>rfl
  |true=>
   rw[Bool.not_true,AR,CX]
   by_cases h12:12<(e.args.length:Int)
   rw[if_pos h12];rfl
   rw[if_neg h12]
   have n1:Qo q=none:=by unfold Qo;rw[hR];rfl
   have n2:Qp q=some (q,Ce,Ce):=by unfold Qp;rw[hR];rfl
   rw[n1,n2,show aKk (none:Option Unit) (some (q,(Ce:MP Int (List X0)),(Ce:PM)))=some (.inr (q,Ce,Ce))from rfl,AD,MT,aYk hF hRQ,AD]
   have hHl:((List.range q.symbols.length).filterMap fun i=>Mb q i e).length<=1000:=by have:=aI5 q e hF;unfold N4 at this;rw[if_pos hev]at this;exact this
   have hB:∀a∈l,BOk a.bind:=fun a ha=>
    ⟨by have:=aPe (hBR a ha);omega,fun s hs=>⟨aTo ((hBR a ha).2 s hs).2.2,(hl a ha).2 s hs⟩,(hBR a ha).1⟩
   have hH:∀x∈((List.range q.symbols.length).filterMap fun i=>Mb q i e),∃i sy,HOk q x i sy:=fun x hx=>by obtain⟨i,_,hi⟩:=List.mem_filterMap.1 hx;exact⟨i,aN5 hF hRQ hev he.2 hi⟩
   obtain⟨L',M',m',e1,I1,hL⟩:=bAb hF h30 hB hH hHl l [] [] Ce Ce rfl (aLq q) (by simp)
   rw[show Rk l ((List.range q.symbols.length).filterMap fun i=>Mb q i e) q [] 0 q Ce Ce=_ from e1,AD,DH]
   obtain⟨t,t1,t2,t3⟩:=aJq hF I1.ok (by omega)
   have htl:=t2.len
   simp only
   rw[S8 I1 (t2.mono (by omega)) t3,AD,t1,AD,decide_eq_true rfl,Bool.not_true,AR]
   simp only
   rw[aOa t (by omega),AD,DH]
   rfl
end Go.Ac
