/- Own work: the plain law. -/
import Derived.Test.YtnjgfcpccmiglaaGreatDoorP25S
set_option linter.unusedVariables false
set_option linter.unusedSimpArgs false
namespace Go.Ac
abbrev PM:=MP (List UInt8) (List Int)
def Gp(m:PM)(p:List UInt8):List Int:=(A5 [] m p).1
structure PI(n:Nat)(m:PM):Prop where
 rs:∀p,Rs (Gp m p)
 len:∀p,(Gp m p).length<=n
 has:∀p,(A5 [] m p).2= !decide (Gp m p=[])
 keys:(m.l.map (·.1)).Pairwise (· ≠ ·)
section
variable {K V:Type} [DecidableEq K]
theorem QO(k k':K):∀{l:List (K×V)},(l.map (·.1)).Pairwise (· ≠ ·)->(l.eraseP fun p=>decide (p.1=k)).find? (fun p=>decide (p.1=k'))=if k=k' then none else l.find? fun p=>decide (p.1=k')
 |[],_=>by simp
 |x::l,h=>by
  rw[List.map_cons,List.pairwise_cons]at h;by_cases hx:x.1=k;rw[List.eraseP_cons_of_pos (by simpa using hx)];by_cases hk:k=k';rw[if_pos hk,List.find?_eq_none];intro y hy;have:=h.1 y.1 (List.mem_map_of_mem hy);simp only[decide_eq_true_eq];intro e;exact this (by rw[hx,e,hk]);rw[if_neg hk,List.find?_cons_of_neg (by simp only[decide_eq_true_eq];intro e;exact hk (by rw[<-hx,e]))];rw[List.eraseP_cons_of_neg (by simpa using hx)];by_cases hx':x.1=k';rw[List.find?_cons_of_pos (by simpa using hx'),List.find?_cons_of_pos (by simpa using hx'),if_neg (fun e=>hx (by rw[hx',e]))];rw[List.find?_cons_of_neg (by simpa using hx'),List.find?_cons_of_neg (by simpa using hx'),QO k k' h.2]
theorem aJg(z:V){m:MP K V}(k k':K)(h:(m.l.map (·.1)).Pairwise (· ≠ ·)):A5 z (Dp m k) k'=if k=k' then(z,false)else A5 z m k':=by rw[DT,DT,aBe,QO k k' h];by_cases e:k=k';rw[if_pos e,if_pos e];rw[if_neg e,if_neg e]
theorem MO(k:K)(v:V):∀l:List (K×V),(aOs k v l).map (·.1)=l.map (·.1)
 |[]=>rfl
 |x::l=>by
  unfold aOs;split;rename_i h;simp[h];simp[MO k v l]
theorem QV{m:MP K V}(k:K)(v:V)(h:(m.l.map (·.1)).Pairwise (· ≠ ·)):((CJ m k v).l.map (·.1)).Pairwise (· ≠ ·):=by rw[aLa];split;rw[MO];exact h;rename_i hn;rw[List.map_append,List.pairwise_append];refine⟨h,by simp,fun a ha b hb=>?_⟩;simp only[List.map_cons,List.map_nil,List.mem_singleton]at hb;subst hb;obtain⟨x,hx,rfl⟩:=mm.1 ha;intro e;exact hn (List.any_eq_true.2 ⟨x,hx,by simpa using e⟩)
theorem aJc{m:MP K V}(k:K)(h:(m.l.map (·.1)).Pairwise (· ≠ ·)):((Dp m k).l.map (·.1)).Pairwise (· ≠ ·):=by rw[aBe];exact h.sublist ((List.eraseP_sublist).map _)
end
theorem aPj:PI 0 (Ce:PM):=⟨fun p=>by unfold Gp;rw[F5];exact List.Pairwise.nil,fun p=>by unfold Gp;rw[F5];simp,fun p=>by unfold Gp;rw[F5];rfl,by simp[Ce,MP.l]⟩
theorem PI.mono{n n':Nat}{m:PM}(h:PI n m)(hn:n<=n'):PI n' m:=⟨h.rs,fun p=>Nat.le_trans (h.len p) hn,h.has,h.keys⟩
theorem aNc{n:Nat}{m:PM}(h:PI n m)(hn:n<=90000)(p:List UInt8)(id:Int)(q:AA)(M:MP Int (List X0)):
 ∃m',Q4 p id q M m=some (q,M,m')/\PI (n+1) m'/\∀p' y,y∈Gp m' p'↔y∈Gp m p'\/(p'=p/\y=id):=by
 obtain⟨r,hr,h1,h2,h3⟩:=OY (v:=id) (h.rs p) (by have:=h.len p;omega)
 have hg:∀p',A5 [] (CJ m p r) p'=if p=p' then(r,true)else A5 [] m p':=fun p'=>RE [] m p r p'
 have hG:∀p',Gp (CJ m p r) p'=if p=p' then r else Gp m p':=fun p'=>by unfold Gp;rw[hg];split<;>rfl
 refine⟨CJ m p r,by unfold Q4;rw[show(A5 [] m p).1=Gp m p from rfl,hr,AD],⟨fun p'=>?_,fun p'=>?_,fun p'=>?_,QV p r h.keys⟩,fun p' y=>?_⟩
 rw[hG];split;exact h1;exact h.rs p'
 rw[hG];split
 have:=h.len p;omega
 have:=h.len p';omega
 rw[hG,hg];split
 have:r≠[]:=fun e=>by have:=(h2 id).2 (.inl rfl);rw[e]at this;simp at this
 simp[this]
 exact h.has p'
 rw[hG]
 by_cases e:p=p'
 rw[if_pos e,h2,e]
 constructor
 rintro(h|h)<;>simp[h]
 rintro(h|⟨_,h⟩)<;>simp[h]
 rw[if_neg e]
 exact⟨.inl,fun h=>by rcases h with h|⟨h,_⟩;exact h;exact absurd h.symm e⟩
theorem aIx{n:Nat}{m:PM}(h:PI n m)(hn:n<=90000)(p:List UInt8)(id:Int)(q:AA)(M:MP Int (List X0)):
 ∃m',Ua p id q M m=some (q,M,m')/\PI n m'/\∀p' y,y∈Gp m' p'↔y∈Gp m p'/\¬(p'=p/\y=id):=by
 obtain⟨r,hr,h1,h2,h3⟩:=Sx (v:=id) (h.rs p) (by have:=h.len p;omega)
 have hfin:∀m',(∀p',Gp m' p'=if p=p' then r else Gp m p')->∀p' y,y∈Gp m' p'↔y∈Gp m p'/\¬(p'=p/\y=id):=fun m' hG p' y=>by rw[hG];by_cases e:p=p';rw[if_pos e,h2,e];simp;rw[if_neg e];exact⟨fun hy=>⟨hy,fun hh=>e hh.1.symm⟩,fun hy=>hy.1⟩
 unfold Ua
 rw[show(A5 [] m p).1=Gp m p from rfl,hr,AD,CX]
 by_cases hz:0<(r.length:Int)
 rw[if_pos hz]
 have hg:∀p',A5 [] (CJ m p r) p'=if p=p' then(r,true)else A5 [] m p':=fun p'=>RE [] m p r p'
 have hG:∀p',Gp (CJ m p r) p'=if p=p' then r else Gp m p':=fun p'=>by unfold Gp;rw[hg];split<;>rfl
 refine⟨_,rfl,⟨fun p'=>?_,fun p'=>?_,fun p'=>?_,QV p r h.keys⟩,hfin _ hG⟩
 rw[hG];split;exact h1;exact h.rs p'
 rw[hG];split
 have:=h.len p;omega
 exact h.len p'
 rw[hG,hg];split
 have:r≠[]:=fun e=>by rw[e]at hz;simp at hz
 simp[this]
 exact h.has p'
 rw[if_neg hz]
 have hr0:r=[]:=List.eq_nil_of_length_eq_zero (by omega)
 have hg:∀p',A5 [] (Dp m p) p'=if p=p' then([],false)else A5 [] m p':=fun p'=>aJg [] p p' h.keys
 have hG:∀p',Gp (Dp m p) p'=if p=p' then r else Gp m p':=fun p'=>by unfold Gp;rw[hg,hr0];split<;>rfl
 refine⟨_,rfl,⟨fun p'=>?_,fun p'=>?_,fun p'=>?_,aJc p h.keys⟩,hfin _ hG⟩
 rw[hG];split;exact h1;exact h.rs p'
 rw[hG];split
 have:=h.len p;omega
 exact h.len p'
 rw[hG,hg];split
 simp[hr0]
 exact h.has p'
def plA(b:List X0)(s j:Int)(a:AX):List (List UInt8):=if a.kind=2 then [[u8w s,u8w j]++(if(BJ b a.n).2=true then Bf (BJ b a.n).1 else [])]else []
def plS(b:List X0)(s:Int):Nat->List AX->List (List UInt8)
 |_,[]=> []
 |j,a::r=>plA b s (j:Int) a++plS b s (j+1) r
def plQ(b:List X0):Nat->List X2->List (List UInt8)
 |_,[]=> []
 |s,y::r=>plS b (s:Int) 0 y.args++plQ b (s+1) r
def plc(q:AA)(b:List X0):List (List UInt8):=plQ b 0 q.symbols
structure BOk(b:List X0):Prop where
 len:b.length<=1000
 ok:∀s∈b,VOk s.value
 srt:b.Pairwise (fun x y=>x.var<y.var)
theorem bAh{v:X3}(h:VOk v):Xw [v]=some (Bf v):=by have:=h.str;rw[aQw (by simp) (fun w hw=>by rw[List.mem_singleton]at hw;subst hw;exact⟨h.i64,by omega⟩)];simp[ofS,aIg,h.right,Ls]
theorem KW{b:List X0}(h:BOk b){n:Int}(hg:(BJ b n).2=true):VOk (BJ b n).1:=by have:BJ b n=((BJ b n).1,true):=Prod.ext rfl hg;exact h.ok _ (Cy this)
theorem aSo{b:List X0}(hb:BOk b)(n:Int)(s2 s6:Int)(p:List UInt8)(hp:p.length=2)(s17:List X2)(s18 s19:Int)(s25:List AX)(s26 s27:Int)(w0:AA)(M:MP Int (List X0))(m:PM)(w997:Int):
 IJ b s2 s6 p s17 s18 s19 s25 s26 s27 (BJ b n).2 w0 (BJ b n).1 M m w997=some (p++(if(BJ b n).2=true then Bf (BJ b n).1 else [])):=by
 unfold IJ
 cases hg:(BJ b n).2 with
 |false=>simp[AE]
 |true=>
  have hv:=KW hb hg
  have h1:=EW (BJ b n).1
  have h2:=hv.str
  rw[AP,bAh hv,AD,Ai (by omega)]
  simp
theorem aAm{b:List X0}(hb:BOk b)(id:Int)(q:AA)(M:MP Int (List X0))(s:Int)(syms:List X2)(s18:Int)(al:List AX)(hal:al.length<=1000):∀(r pre:List AX) (n:Nat) (m:PM),al=pre++r->PI n m->n+r.length<=80000->
 ∃m',LE b id s syms s18 s al (al.length:Int) id (pre.length:Int) q M m=some (q,M,m')/\PI (n+r.length) m'/\∀p y,y∈Gp m' p↔y∈Gp m p\/(p∈plS b s pre.length r/\y=id)
 |[],pre,n,m,hs,hm,hl=>by
  rw[Oj];have e:al.length=pre.length:=by rw[hs];simp
  unfold D3;rw[AL,if_neg (by simp[e])];exact⟨m,rfl,hm,fun p y=>by simp[plS]⟩
 |a::r,pre,n,m,hs,hm,hl=>by
  have hx:al[pre.length]? =some a:=by rw[hs];simp
  simp only[List.length_cons]at hl;rw[Oj];unfold D3 RW;rw[ltD hx,AP,AN hx];by_cases hk:a.kind=2;rw[decide_eq_true hk,Bool.not_true,AR];unfold Qi;rw[AD,aMi b a.n (by have:=hb.len;omega),AD,aSo hb a.n _ _ _ rfl,AD];obtain⟨m1,e1,hm1,hg1⟩:=aNc hm (by omega) ([u8w s,u8w (pre.length:Int)]++(if(BJ b a.n).2=true then Bf (BJ b a.n).1 else [])) id q M
  rw[e1,AD,AD,Aq hx (by omega),A4];obtain⟨m2,e2,hm2,hg2⟩:=aAm hb id q M s syms s18 al hal r (pre++[a]) (n+1) m1 (by rw[hs];simp) hm1 (by omega);rw[List.length_append]at e2 hg2;refine⟨m2,e2,by rw[List.length_cons];exact hm2.mono (by omega),fun p y=>?_⟩;rw[hg2,hg1];simp only[plS,plA,hk,if_true,ma,List.mem_singleton,List.length_cons,List.length_nil,Nat.zero_add];constructor;rintro((h|⟨h1,h2⟩)|⟨h1,h2⟩);exact .inl h;exact .inr ⟨.inl h1,h2⟩;exact .inr ⟨.inr h1,h2⟩;rintro(h|⟨h1|h1,h2⟩);exact .inl (.inl h);exact .inl (.inr ⟨h1,h2⟩);exact .inr ⟨h1,h2⟩;rw[decide_eq_false hk,Bool.not_false,AP,AD,Aq hx (by omega),A4];obtain⟨m2,e2,hm2,hg2⟩:=aAm hb id q M s syms s18 al hal r (pre++[a]) n m (by rw[hs];simp) hm (by omega);rw[List.length_append]at e2 hg2;refine⟨m2,e2,by rw[List.length_cons];exact hm2.mono (by omega),fun p y=>?_⟩;rw[hg2];simp only[plS,plA,hk,if_false,List.nil_append,List.length_cons,List.length_nil,Nat.zero_add]
theorem aKw{b:List X0}(hb:BOk b)(id:Int)(q:AA)(M:MP Int (List X0))(syms:List X2)(hsy:syms.length<=12)(hal:∀s∈syms,s.args.length<=12):∀(r pre:List X2) (n:Nat) (m:PM),syms=pre++r->PI n m->n+12*r.length<=80000->
 ∃m',LD b id syms (syms.length:Int) id (pre.length:Int) q M m=some (q,M,m')/\PI (n+12*r.length) m'/\∀p y,y∈Gp m' p↔y∈Gp m p\/(p∈plQ b pre.length r/\y=id)
 |[],pre,n,m,hs,hm,hl=>by
  rw[Oh];have e:syms.length=pre.length:=by rw[hs];simp
  unfold D2;rw[AL,if_neg (by simp[e])];exact⟨m,rfl,hm,fun p y=>by simp[plQ]⟩
 |a::r,pre,n,m,hs,hm,hl=>by
  have hx:syms[pre.length]? =some a:=by rw[hs];simp
  have ha:=hal a (List.mem_of_getElem? hx);simp only[List.length_cons]at hl;rw[Oh];unfold D2;rw[ltD hx,AP,AN hx];obtain⟨m1,e1,hm1,hg1⟩:=aAm hb id q M (pre.length:Int) syms (syms.length:Int) a.args (by omega) a.args [] n m rfl hm (by omega);rw[show LE b id (pre.length:Int) syms (syms.length:Int) (pre.length:Int) a.args (a.args.length:Int) id 0 q M m=some (q,M,m1)from e1,AD,Aq hx (by omega),A4];obtain⟨m2,e2,hm2,hg2⟩:=aKw hb id q M syms hsy hal r (pre++[a]) (n+12) m1 (by rw[hs];simp) (hm1.mono (by omega)) (by omega);rw[List.length_append]at e2 hg2;refine⟨m2,e2,by rw[List.length_cons];exact hm2.mono (by omega),fun p y=>?_⟩;rw[hg2,hg1];simp only[plQ,ma,List.length_cons,List.length_nil,Nat.zero_add];constructor;rintro((h|⟨h1,h2⟩)|⟨h1,h2⟩);exact .inl h;exact .inr ⟨.inl h1,h2⟩;exact .inr ⟨.inr h1,h2⟩;rintro(h|⟨h1|h1,h2⟩);exact .inl (.inl h);exact .inl (.inr ⟨h1,h2⟩);exact .inr ⟨h1,h2⟩
theorem aZt{b:List X0}(hb:BOk b)(id:Int){q:AA}(hF:CV q)(M:MP Int (List X0)){n:Nat}{m:PM}(hm:PI n m)(hn:n<=70000):
 ∃m',X7 b id q M m=some (q,M,m')/\PI (n+144) m'/\∀p y,y∈Gp m' p↔y∈Gp m p\/(p∈plc q b/\y=id):=by
 have hl:=hF.symbols
 obtain⟨m',e,h1,h2⟩:=aKw hb id q M q.symbols hl hF.args q.symbols [] n m rfl hm (by omega)
 refine⟨m',?_,h1.mono (by omega),h2⟩
 unfold X7
 rw[show LD b id q.symbols (q.symbols.length:Int) id 0 q M m=some (q,M,m')from e,AD]
theorem aAn{b:List X0}(hb:BOk b)(id:Int)(q:AA)(M:MP Int (List X0))(s:Int)(syms:List X2)(s18:Int)(al:List AX)(hal:al.length<=1000)(n:Nat)(hn:n<=80000):∀(r pre:List AX) (m:PM),al=pre++r->PI n m->
 ∃m',Ro b id s syms s18 s al (al.length:Int) id (pre.length:Int) q M m=some (q,M,m')/\PI n m'/\∀p y,y∈Gp m' p↔y∈Gp m p/\¬(p∈plS b s pre.length r/\y=id)
 |[],pre,m,hs,hm=>by
  rw[PK];have e:al.length=pre.length:=by rw[hs];simp
  unfold Ge;rw[AL,if_neg (by simp[e])];exact⟨m,rfl,hm,fun p y=>by simp[plS]⟩
 |a::r,pre,m,hs,hm=>by
  have hx:al[pre.length]? =some a:=by rw[hs];simp
  rw[PK];unfold Ge aFj;rw[ltD hx,AP,AN hx];by_cases hk:a.kind=2;rw[decide_eq_true hk,Bool.not_true,AR];unfold Qi;rw[AD,aMi b a.n (by have:=hb.len;omega),AD,aSo hb a.n _ _ _ rfl,AD];obtain⟨m1,e1,hm1,hg1⟩:=aIx hm (by omega) ([u8w s,u8w (pre.length:Int)]++(if(BJ b a.n).2=true then Bf (BJ b a.n).1 else [])) id q M
  rw[e1,AD,AD,Aq hx (by omega),A4];obtain⟨m2,e2,hm2,hg2⟩:=aAn hb id q M s syms s18 al hal n hn r (pre++[a]) m1 (by rw[hs];simp) hm1;rw[List.length_append]at e2 hg2;refine⟨m2,e2,hm2,fun p y=>?_⟩;rw[hg2,hg1];simp only[plS,plA,hk,if_true,ma,List.mem_singleton,List.length_cons,List.length_nil,Nat.zero_add];constructor;rintro⟨⟨h,h1⟩,h2⟩;refine⟨h,?_⟩;rintro⟨g|g,gy⟩;exact h1 ⟨g,gy⟩;exact h2 ⟨g,gy⟩;rintro⟨h,h1⟩;exact⟨⟨h,fun g=>h1 ⟨.inl g.1,g.2⟩⟩,fun g=>h1 ⟨.inr g.1,g.2⟩⟩;rw[decide_eq_false hk,Bool.not_false,AP,AD,Aq hx (by omega),A4];obtain⟨m2,e2,hm2,hg2⟩:=aAn hb id q M s syms s18 al hal n hn r (pre++[a]) m (by rw[hs];simp) hm;rw[List.length_append]at e2 hg2;refine⟨m2,e2,hm2,fun p y=>?_⟩;rw[hg2];simp only[plS,plA,hk,if_false,List.nil_append,List.length_cons,List.length_nil,Nat.zero_add]
theorem aKx{b:List X0}(hb:BOk b)(id:Int)(q:AA)(M:MP Int (List X0))(syms:List X2)(hsy:syms.length<=12)(hal:∀s∈syms,s.args.length<=12)(n:Nat)(hn:n<=80000):∀(r pre:List X2) (m:PM),syms=pre++r->PI n m->
 ∃m',Rn b id syms (syms.length:Int) id (pre.length:Int) q M m=some (q,M,m')/\PI n m'/\∀p y,y∈Gp m' p↔y∈Gp m p/\¬(p∈plQ b pre.length r/\y=id)
 |[],pre,m,hs,hm=>by
  rw[PJ];have e:syms.length=pre.length:=by rw[hs];simp
  unfold Gd;rw[AL,if_neg (by simp[e])];exact⟨m,rfl,hm,fun p y=>by simp[plQ]⟩
 |a::r,pre,m,hs,hm=>by
  have hx:syms[pre.length]? =some a:=by rw[hs];simp
  have ha:=hal a (List.mem_of_getElem? hx);rw[PJ];unfold Gd;rw[ltD hx,AP,AN hx];obtain⟨m1,e1,hm1,hg1⟩:=aAn hb id q M (pre.length:Int) syms (syms.length:Int) a.args (by omega) n hn a.args [] m rfl hm;rw[show Ro b id (pre.length:Int) syms (syms.length:Int) (pre.length:Int) a.args (a.args.length:Int) id 0 q M m=some (q,M,m1)from e1,AD,Aq hx (by omega),A4];obtain⟨m2,e2,hm2,hg2⟩:=aKx hb id q M syms hsy hal n hn r (pre++[a]) m1 (by rw[hs];simp) hm1;rw[List.length_append]at e2 hg2;refine⟨m2,e2,hm2,fun p y=>?_⟩;rw[hg2,hg1];simp only[plQ,ma,List.length_cons,List.length_nil,Nat.zero_add];constructor;rintro⟨⟨h,h1⟩,h2⟩;refine⟨h,?_⟩;rintro⟨g|g,gy⟩;exact h1 ⟨g,gy⟩;exact h2 ⟨g,gy⟩;rintro⟨h,h1⟩;exact⟨⟨h,fun g=>h1 ⟨.inl g.1,g.2⟩⟩,fun g=>h1 ⟨.inr g.1,g.2⟩⟩
theorem aZu{b:List X0}(hb:BOk b)(id:Int){q:AA}(hF:CV q)(M:MP Int (List X0)){n:Nat}{m:PM}(hm:PI n m)(hn:n<=70000):
 ∃m',Xu b id q M m=some (q,M,m')/\PI n m'/\∀p y,y∈Gp m' p↔y∈Gp m p/\¬(p∈plc q b/\y=id):=by
 have hl:=hF.symbols
 obtain⟨m',e,h1,h2⟩:=aKx hb id q M q.symbols hl hF.args n (by omega) q.symbols [] m rfl hm
 refine⟨m',?_,h1,h2⟩
 unfold Xu
 rw[show Rn b id q.symbols (q.symbols.length:Int) id 0 q M m=some (q,M,m')from e,AD]
end Go.Ac
