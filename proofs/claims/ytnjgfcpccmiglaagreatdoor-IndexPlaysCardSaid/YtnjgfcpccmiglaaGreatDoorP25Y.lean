/- Own work: the plain law. -/
import Derived.Test.YtnjgfcpccmiglaaGreatDoorP25X
set_option linter.unusedVariables false
set_option linter.unusedSimpArgs false
namespace Go.Ac
abbrev BL(x y:List UInt8):Prop:=Op.bytesLess x y=true
theorem S3(a:List UInt8):¬BL a a:=by unfold BL;rw[aKo];simp
theorem S4(a b c:List UInt8)(h1:BL a b)(h2:BL b c):BL a c:=QA h1 h2
theorem aSt{w:List (List UInt8)}{x:List UInt8}(hw:w.Pairwise BL){k:Nat}(q1:∀j s,w[j]? =some s->j<k->BL s x)(q2:∀j s,w[j]? =some s->k<=j->BL x s):(w.take k++[x]++w.drop k).Pairwise BL/\∀y,y∈w.take k++[x]++w.drop k↔y=x\/y∈w:=by
 have q2':∀y∈w.drop k,BL x y:=fun y hy=>by obtain⟨j,hj,hs⟩:=KN hy;exact q2 j y hs hj
 have q1':∀y∈w.take k,BL y x:=fun y hy=>by obtain⟨j,hj,hs⟩:=Kx hy;exact q1 j y hs hj
 refine⟨?_,fun y=>?_⟩;rw[List.append_assoc,List.pairwise_append];refine⟨hw.sublist (List.take_sublist _ _),?_,fun a ha b hb=>?_⟩;rw[List.singleton_append,List.pairwise_cons];exact⟨q2',hw.sublist (List.drop_sublist _ _)⟩;rw[List.singleton_append]at hb;rcases mc.1 hb with e|hb
 exact e▸q1' a ha;exact S4 _ _ _ (q1' a ha) (q2' b hb);rw[OJ (w:=w) k];simp only[ma,List.mem_singleton];constructor;rintro((h|h)|h);exact .inr (.inl h);exact .inl h;exact .inr (.inr h);rintro(h|h|h);exact .inl (.inr h);exact .inl (.inl h);exact .inr h
theorem aPd{a b:List UInt8}(h:BL a b):a≠b:=fun e=>by subst e;exact S3 _ h
structure PW(n:Nat)(w:List (List UInt8)):Prop where
 srt:w.Pairwise BL
 len:w.length<=n
 sz:∀p∈w,p.length<=10000
theorem PW.mono{n n':Nat}{w:List (List UInt8)}(h:PW n w)(hn:n<=n'):PW n' w:=⟨h.srt,Nat.le_trans h.len hn,h.sz⟩
theorem aS9{n:Nat}{w:List (List UInt8)}(hw:PW n w)(hn:n<=100000)(x:List UInt8)(hx:x.length<=10000):∀k:Nat,k<=w.length->(∀j s,w[j]? =some s->k<=j->BL x s)->
 ∃o:Nat,o<=w.length/\XJ w x (k:Int)=some (o:Int)/\(∀j s,w[j]? =some s->o<=j->BL x s)/\(∀s,0<o->w[o-1]? =some s->¬BL x s)
 |0,hk,hI=>by
  rw[P1];unfold HI;rw[CX,if_neg (by omega)];exact⟨0,by omega,rfl,hI,by simp⟩
 |k+1,hk,hI=>by
  obtain⟨y,hy,_⟩:=A8 (l:=w) (i:=k) (by omega);have hys:=hw.sz y (List.mem_of_getElem? hy);have hl:=hw.len;rw[P1];unfold HI;rw[CX,if_pos (by omega),aOj (by omega),AN hy,aYm x y (by omega) (by omega),AD,AL];by_cases h:BL x y;rw[if_pos h,A4];exact aS9 hw hn x hx k (by omega) fun j s hs hj=>by by_cases e:j=k;subst e;rw[hy]at hs;cases hs;exact h;exact hI j s hs (by omega)
  rw[if_neg h];exact⟨k+1,hk,rfl,hI,fun s _ hs=>by rw[Nat.add_sub_cancel,hy]at hs;cases hs;exact h⟩
theorem aOl{n:Nat}{w:List (List UInt8)}(hw:PW n w)(hn:n<=100000)(x:List UInt8)(hx:x.length<=10000):∃r,Z3 w x=some r/\PW (n+1) r/\∀y,y∈r↔y=x\/y∈w:=by
 have hl:=hw.len;obtain⟨o,ho,e,h1,h2⟩:=aS9 hw hn x hx w.length (Nat.le_refl _) fun j s hs hj=>absurd (BM hs) (by omega);unfold Z3;rw[e,AD];have fin:(∀j s,w[j]? =some s->j<o->BL s x)->∃r,Az ((0:Int)<=0/\(0:Int)<=o/\o<=(w.length:Int)) (Az (fit ([]:List (List UInt8)).length (sub w 0 o).length 16) (Az (fit (([]:List (List UInt8))++(sub w 0 o)).length [x].length 16)
  (Az ((0:Int)<=o/\(o:Int)<=(w.length:Int)/\(w.length:Int)<=(w.length:Int)) (Az (fit ((([]:List (List UInt8))++(sub w 0 o))++[x]).length (sub w o (w.length:Int)).length 16) (some (((([]:List (List UInt8))++(sub w 0 o))++[x])++(sub w o (w.length:Int))))))))=some r/\PW (n+1) r/\∀y,y∈r↔y=x\/y∈w:=fun q1=>by
  obtain⟨a,b⟩:=aSt hw.srt q1 h1
  rw[Ai ⟨by omega,by omega,by omega⟩,Eo,Ai (AU (by simp;omega) (by decide)),Ai (AU (by simp;omega) (by decide)),Ai ⟨by omega,by omega,by omega⟩,H9,Ai (AU (by simp;omega) (by decide)),List.nil_append]
  refine⟨_,rfl,⟨a,by simp;omega,fun p hp=>?_⟩,b⟩
  rcases(b p).1 hp with rfl|hp
  exact hx
  exact hw.sz p hp
 rw[CX];by_cases h0:(0:Int)<(o:Int);obtain⟨y,hy,_⟩:=A8 (l:=w) (i:=o-1) (by omega);rw[if_pos h0,show(o:Int)=((o-1+1:Nat):Int) by omega,aOj (by omega),AN hy,CX,show((o-1+1:Nat):Int)=(o:Int) by omega];by_cases hyx:y=x;rw[if_pos hyx];exact⟨w,rfl,hw.mono (by omega),fun z=>⟨.inr,fun hz=>by
  rcases hz with rfl|hz
  exact hyx▸List.mem_of_getElem? hy;exact hz⟩⟩
 rw[if_neg hyx];refine fin fun j s hs hj=>?_;have hlt:BL y x:=by
  rcases P9 hyx with h|h
  exact h;exact absurd h (h2 y (by omega) hy)
 by_cases e:j=o-1;subst e;rw[hy]at hs;cases hs;exact hlt;obtain⟨ha',rfl⟩:=List.getElem?_eq_some_iff.1 hs;obtain⟨hb',rfl⟩:=List.getElem?_eq_some_iff.1 hy;exact S4 _ _ _ (List.pairwise_iff_getElem.1 hw.srt j (o-1) ha' hb' (by omega)) hlt;rw[if_neg h0];exact fin fun j s hs hj=>by omega
theorem aI1{b:List X0}(hb:BOk b)(n:Int):(SS b n).length<=8201:=by unfold SS;split;rename_i hg;have h1:=EW (BJ b n).1;have h2:=(KW hb hg).str;omega;simp
theorem aZ4{L:List Ent}{q:AA}{i s j:Nat}{e:Ent}{sy:X2}{a:AX}(he:L[i]? =some e)(hb:BOk e.bind)(hs:q.symbols[s]? =some sy)(ha:sy.args[j]? =some a){n:Nat}{w:List (List UInt8)}(hw:PW n w)(hn:n<=100000):
 ∃o,Tk L w (i:Int) (s:Int) (j:Int) q=some o/\PW (n+1) o/\∀p,p∈o↔p∈w\/p∈plA e.bind (s:Int) (j:Int) a:=by
 unfold Tk
 rw[AN hs,AN ha]
 have hbl:=hb.len
 by_cases hk:a.kind=2
 rw[decide_eq_true hk,Bool.not_true,AR,AN he,W2 _ _ (by omega),AD]
 have e7:Tl L w (i:Int) (s:Int) (j:Int) (BJ e.bind a.n).2 q [u8w (s:Int),u8w (j:Int)] (BJ e.bind a.n).1=some ([u8w (s:Int),u8w (j:Int)]++SS e.bind a.n):=by
  unfold Tl SS;cases hg:(BJ e.bind a.n).2 with
  |false=>simp[AE]
  |true=>
   have hv:=KW hb hg
   have h1:=EW (BJ e.bind a.n).1
   have h2:=hv.str
   rw[AP,aWs hv,AD,Ai (AU (by simp;omega) (by decide))]
   simp
 obtain⟨r,e1,e2,e3⟩:=aOl hw hn ([u8w (s:Int),u8w (j:Int)]++SS e.bind a.n) (by have:=aI1 hb a.n;simp;omega)
 rw[e7,AD,e1,AD]
 refine⟨r,rfl,e2,fun p=>?_⟩
 rw[e3]
 unfold plA
 rw[if_pos hk,List.mem_singleton]
 exact⟨fun h=>h.symm.imp id id,fun h=>h.symm.imp id id⟩
 rw[decide_eq_false hk,Bool.not_false,AP]
 refine⟨w,rfl,hw.mono (by omega),fun p=>?_⟩
 unfold plA
 rw[if_neg hk];simp
theorem aS7{L:List Ent}{q:AA}{i s:Nat}{e:Ent}{sy:X2}(he:L[i]? =some e)(hb:BOk e.bind)(hs:q.symbols[s]? =some sy)(h12:sy.args.length<=12):∀(r pre:List AX) (n:Nat) (w:List (List UInt8)),sy.args=pre++r->PW n w->n+r.length<=90000->
 ∃o,Rb L (i:Int) (s:Int) q w (pre.length:Int)=some o/\PW (n+r.length) o/\∀p,p∈o↔p∈w\/p∈plS e.bind (s:Int) pre.length r
 |[],pre,n,w,h,hw,hl=>by
  rw[Ov];have e:sy.args.length=pre.length:=by rw[h];simp
  unfold GO;rw[AN hs,AL,if_neg (by simp[e])];exact⟨w,rfl,hw,fun p=>by simp[plS]⟩
 |a::r,pre,n,w,h,hw,hl=>by
  have hx:sy.args[pre.length]? =some a:=by rw[h];simp
  simp only[List.length_cons]at hl;obtain⟨o,e1,e2,e3⟩:=aZ4 he hb hs hx hw (by omega);rw[Ov];unfold GO;rw[AN hs,ltD hx,AP,e1,AD,Aq hx (by omega),A4];obtain⟨o2,f1,f2,f3⟩:=aS7 he hb hs h12 r (pre++[a]) (n+1) o (by rw[h];simp) e2 (by omega);rw[List.length_append]at f1 f3;refine⟨o2,f1,f2.mono (by simp;omega),fun p=>?_⟩;rw[f3,e3];simp only[plS,ma,or_assoc,List.length_cons,List.length_nil,Nat.zero_add]
theorem aS8{L:List Ent}{q:AA}(hF:CV q){i:Nat}{e:Ent}(he:L[i]? =some e)(hb:BOk e.bind):∀(r pre:List X2) (n:Nat) (w:List (List UInt8)),q.symbols=pre++r->PW n w->n+12*r.length<=90000->
 ∃o,Rd L (i:Int) q w (pre.length:Int)=some o/\PW (n+12*r.length) o/\∀p,p∈o↔p∈w\/p∈plQ e.bind pre.length r
 |[],pre,n,w,h,hw,hl=>by
  rw[Ow];have e:q.symbols.length=pre.length:=by rw[h];simp
  unfold GP;rw[AL,if_neg (by simp[e])];exact⟨w,rfl,hw,fun p=>by simp[plQ]⟩
 |sy::r,pre,n,w,h,hw,hl=>by
  have hx:q.symbols[pre.length]? =some sy:=by rw[h];simp
  have h12:=hF.args sy (List.mem_of_getElem? hx);have hql:=hF.symbols;simp only[List.length_cons]at hl;obtain⟨o,e1,e2,e3⟩:=aS7 he hb hx h12 sy.args [] n w rfl hw (by omega);rw[Ow];unfold GP;rw[ltD hx,AP,show Rb L (i:Int) (pre.length:Int) q w 0=_ from e1,AD,Aq hx (by omega),A4];obtain⟨o2,f1,f2,f3⟩:=aS8 hF he hb r (pre++[sy]) (n+12) o (by rw[h];simp) (e2.mono (by omega)) (by omega);rw[List.length_append]at f1 f3;refine⟨o2,f1,f2.mono (by simp;omega),fun p=>?_⟩;rw[f3,e3];simp only[plQ,ma,or_assoc,List.length_cons,List.length_nil,Nat.zero_add]
theorem aS6{L:List Ent}{q:AA}(hF:CV q)(hL:∀e∈L,BOk e.bind)(hl:L.length<=100):∀(r pre:List Ent) (w:List (List UInt8)),L=pre++r->PW (200*pre.length) w->(∀p,p∈w↔ ∃e∈pre,p∈plc q e.bind)->
 ∃o,Ra L q w (pre.length:Int)=some o/\PW (200*L.length) o/\∀p,p∈o↔ ∃e∈L,p∈plc q e.bind
 |[],pre,w,h,hw,hI=>by
  rw[Ou];have e:L.length=pre.length:=by rw[h];simp
  unfold GN;rw[AL,if_neg (by simp[e])];refine⟨w,rfl,by rw[e];exact hw,?_⟩;rw[List.append_nil]at h;rw[h];exact hI
 |e::r,pre,w,h,hw,hI=>by
  have hx:L[pre.length]? =some e:=by rw[h];simp
  have hp:=BM hx;have hql:=hF.symbols;obtain⟨o,e1,e2,e3⟩:=aS8 hF hx (hL e (List.mem_of_getElem? hx)) q.symbols [] (200*pre.length) w rfl hw (by omega);rw[Ou];unfold GN;rw[ltD hx,AP,show Rd L (pre.length:Int) q w 0=_ from e1,AD,Aq hx (by omega),A4];have:=aS6 hF hL hl r (pre++[e]) o (by rw[h];simp) (e2.mono (by simp;omega)) (fun p=>by
   rw[e3,hI];constructor;rintro(⟨x,hx,h⟩|h);exact⟨x,ml_ _ hx,h⟩;exact⟨e,by simp,h⟩;rintro⟨x,hx,h⟩;rcases ma.1 hx with hx|hx
   exact .inl ⟨x,hx,h⟩;rw[List.mem_singleton]at hx;exact .inr (hx▸h))
  rw[List.length_append]at this;exact this
theorem aJq{L:List Ent}{q:AA}(hF:CV q)(hL:∀e∈L,BOk e.bind)(hl:L.length<=100):∃o,Xe q L=some o/\PW (200*L.length) o/\∀p,p∈o↔ ∃e∈L,p∈plc q e.bind:=by obtain⟨o,e,h1,h2⟩:=aS6 hF hL hl L [] [] rfl ⟨List.Pairwise.nil,by simp,by simp⟩ (by simp);refine⟨o,?_,h1,h2⟩;unfold Xe;rw[show Ra L q [] 0=_ from e,AD]
theorem aOb{x y:List UInt8}:x<=y↔ ¬BL y x:=by unfold BL;rw[Go.Proofs.bytesLess_eq,decide_eq_true_eq];exact Iff.rfl
theorem aJ1{p t:List (List UInt8)}(ht:t.Pairwise BL)(hp:p.Perm t):aJ0 p=t:=by
 unfold aJ0;have hs:(p.mergeSort fun x y=>decide (x<=y)).Pairwise (fun x y=>decide (x<=y)=true):=by
  refine List.pairwise_mergeSort (le:=fun x y:List UInt8=>decide (x<=y)) (fun a b c h1 h2=>?_) (fun a b=>?_) p;simp only[decide_eq_true_eq,aOb]at h1 h2⊢;intro h3;by_cases e:a=b;subst e;exact h2 h3;rcases P9 e with h|h
  exact h2 (S4 _ _ _ h3 h);exact h1 h;simp only[Bool.or_eq_true,decide_eq_true_eq,aOb];by_cases h:BL b a;right;exact fun h2=>S3 _ (S4 _ _ _ h h2);exact .inl h
 have hn:(p.mergeSort fun x y=>decide (x<=y)).Pairwise (· ≠ ·):=((List.mergeSort_perm _ _).trans hp).symm.pairwise (ht.imp aPd) (fun h e=>h e.symm)
 refine OT S3 S4 ((hs.and hn).imp fun⟨a,b⟩=>?_) ht fun x=>((List.mergeSort_perm _ _).trans hp).mem_iff;simp only[decide_eq_true_eq,aOb]at a;rcases P9 b with h|h
 exact h;exact absurd h a
theorem aJd{n:Nat}{m:PM}(h:PI n m)(p:List UInt8):p∈m.l.map (·.1)↔Gp m p≠[]:=by
 have hh:=h.has p;have e:(A5 [] m p).2=m.l.any fun x=>decide (x.1=p):=by
  rw[DT];cases hf:m.l.find? (fun x=>decide (x.1=p))with
  |none=>
   symm
   rw[List.any_eq_false]
   exact List.find?_eq_none.1 hf
  |some x=>
   symm
   rw[List.any_eq_true]
   exact⟨x,List.mem_of_find?_eq_some hf,by have:=List.find?_some hf;exact this⟩
 rw[e]at hh;constructor;intro hm hg;obtain⟨x,hx,rfl⟩:=mm.1 hm;rw[hg,decide_eq_true rfl,Bool.not_true,List.any_eq_false]at hh;exact hh x hx (by simp);intro hg;rw[decide_eq_false hg,Bool.not_false,List.any_eq_true]at hh;obtain⟨x,hx,hp⟩:=hh;exact mm.2 ⟨x,hx,by simpa using hp⟩
theorem aOi{α:Type} [DecidableEq α]{l t:List α}(h1:l.Pairwise (· ≠ ·))(h2:t.Pairwise (· ≠ ·))(h:∀x,x∈l↔x∈t):l.Perm t:=
 (List.perm_ext_iff_of_nodup h1 h2).2 h
theorem S8{n:Nat}{q:AA}{L:List Ent}{M:MP Int (List X0)}{m:PM}(h:INV n q L M m){t:List (List UInt8)}(ht:PW 10000 t)(hm:∀p,p∈t↔ ∃e∈L,p∈plc q e.bind):Y8 q M m=Option.some (t,q,M,m):=by
 have hp:(m.l.map (·.1)).Perm t:=aOi h.pi.keys (ht.srt.imp aPd) fun p=>by rw[aJd h.pi,hm];constructor;intro hg;obtain⟨y,hy⟩:=List.exists_mem_of_ne_nil _ hg;obtain⟨e,he,_,h2⟩:=(h.pl p y).1 hy;exact⟨e,he,h2⟩;rintro⟨e,he,h2⟩ hg;have:=(h.pl p e.iD).2 ⟨e,he,rfl,h2⟩;rw[hg]at this;cases this
 have htl:=ht.len;have hml:m.l.length<=10000:=by have:=hp.length_eq;rw[List.length_map]at this;omega
 have e1:aGd q M m []=some (aOp (m.l.map (·.1))):=by
  unfold aGd;refine Hb fun p hp2=>?_;have hp2:p.Perm m.l:=hp2;refine⟨[]++p.map (·.1),Hd p [] (fun x hx w hw=>?_) (by rw[hp2.length_eq];simp;omega),?_⟩
  simp only[Gt];rw[Ai (AU (by simp only[List.length_singleton];omega) (by omega))];unfold Jo;rw[List.nil_append];exact aOq (hp2.map (·.1))
 have e2:Us (aOp (m.l.map (·.1)))=some t:=by unfold Us;refine No fun p hp3=>?_;have hpt:p.Perm t:=hp3.trans ((ML _).trans hp);unfold Ud RT;rw[if_pos (by rw[hpt.length_eq];omega),aJ1 ht.srt hpt]
 unfold Y8 aGb;rw[e1,AD,AD,e2,AD]
end Go.Ac
