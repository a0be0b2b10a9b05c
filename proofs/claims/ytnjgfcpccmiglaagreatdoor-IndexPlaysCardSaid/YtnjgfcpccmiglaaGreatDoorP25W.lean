/- Own work: the plain law. -/
import Derived.Test.YtnjgfcpccmiglaaGreatDoorP25V
set_option linter.unusedVariables false
set_option linter.unusedSimpArgs false
namespace Go.Ac
theorem JW{l m:List Int}(h:l.Perm m):Ku l=Ku m:=by unfold Ku;exact List.Perm.eq_of_pairwise (le:=fun a b:Int=>a<=b) (fun a b _ _ h1 h2=>Int.le_antisymm h1 h2) (sI l) (sI m) ((List.mergeSort_perm _ _).trans (h.trans (List.mergeSort_perm _ _).symm))
where
 sI (l:List Int):(l.mergeSort fun x y=>decide (x<=y)).Pairwise (fun a b:Int=>a<=b):=by have:=List.pairwise_mergeSort (le:=fun x y:Int=>decide (x<=y)) (fun a b c h1 h2=>by simp at*;omega) (fun a b=>by simp;omega) l;exact this.imp fun h=>by simpa using h
theorem Hd{α β:Type}{step:α->List β->Option (List β)}{g:α->β}:∀(p:List α) (w:List β),(∀x∈p,∀w:List β,w.length<=10000->step x w=some (w++[g x]))->w.length+p.length<=10000->DC step w p=some (w++p.map g)
 |[],w,_,_=>by simp[DC]
 |x::p,w,h,hl=>by
  rw[DC,h x (by simp) w (by simp at hl;omega),AD,Hd p (w++[g x]) (fun y hy=>h y (List.mem_cons_of_mem _ hy)) (by simp at hl⊢;omega)];simp
theorem aSk{n:Nat}{q:AA}{L:List Ent}{M:MP Int (List X0)}{m:PM}(h:INV n q L M m)(hl:L.length<=1000):∃r,Xl q M m=Option.some (r,q,M,m)/\Is L (fun _=>True) r:=by
 have e1:Rg q M m []=some (aLh (L.map (·.iD))):=by
  unfold Rg;refine Hb fun p hp2=>?_;have hp2:p.Perm M.l:=hp2;rw[h.ml]at hp2;refine⟨[]++p.map (·.1),Hd p [] (fun x hx w hw=>?_) (by rw[hp2.length_eq];simp;omega),?_⟩
  simp only[E1];rw[Ai (AU (by simp only[List.length_singleton];omega) (by omega))];unfold GV;rw[List.nil_append];have:=hp2.map (·.1)
  rw[List.map_map]at this;exact aJw this
 have e2:Qk (aLh (L.map (·.iD)))=some (Ku (L.map (·.iD))):=by unfold Qk;refine No fun p hp=>?_;unfold Qz RS;rw[if_pos (by rw[hp.length_eq,(DX _).length_eq,List.length_map];omega),JW (hp.trans (DX _))]
 refine⟨Ku (L.map (·.iD)),?_,?_,fun y=>?_⟩
 unfold Xl Rf;rw[e1,AD,AD,e2,AD];have h1:=JW.sI (L.map (·.iD))
 have h2:(Ku (L.map (·.iD))).Pairwise (· ≠ ·):=(List.mergeSort_perm _ _).symm.pairwise h.ids (fun h e=>h e.symm)
 exact(h1.and h2).imp fun⟨a,b⟩=>by omega
 unfold Ku;rw[(List.mergeSort_perm _ _).mem_iff];simp
structure HOk(q:AA)(h:Ae)(i:Nat)(sy:X2):Prop where
 sym:h.symbol=(i:Int)
 at_:q.symbols[i]? =some sy
 len:h.bind.length<=12
 vals:∀a∈sy.args,a.kind=2->(BJ h.bind a.n).2=true/\VOk (BJ h.bind a.n).1
 back:∀s∈h.bind,BJ h.bind s.var=(s.value,true)/\∃a∈sy.args,a.kind=2/\a.n=s.var
def ZH(u:Bool)(h b:List X0)(a:AX):Prop:=a.kind=2->(BJ b a.n=((BJ h a.n).1,true)\/u=false/\(BJ b a.n).2=false)
def KX(u:Bool)(h b:List X0):Bool:=if u=true then MW h b else N1 b h
theorem QR{q:AA}{h:Ae}{i:Nat}{sy:X2}(hh:HOk q h i sy)(u:Bool)(b:List X0)(hb:b.Pairwise (fun x y=>x.var<y.var)):(∀a∈sy.args,ZH u h.bind b a)↔KX u h.bind b=true:=by
 unfold KX;cases u with
 |true=>
  simp only[if_true]
  unfold MW
  simp only[List.all_eq_true,decide_eq_true_eq]
  constructor
  intro H s hs
  obtain⟨h1,a,ha,hk,hn⟩:=hh.back s hs
  rcases H a ha hk with h2|⟨h2,_⟩
  rw[hn]at h2;rw[h2,h1]
  cases h2
  intro H a ha hk
  obtain⟨h1,_⟩:=hh.vals a ha hk
  have hg:BJ h.bind a.n=((BJ h.bind a.n).1,true):=Prod.ext rfl h1
  exact .inl (H _ (Cy hg))
 |false=>
  simp only[Bool.false_eq_true,if_false]
  unfold N1
  simp only[List.all_eq_true,Bool.or_eq_true,Bool.not_eq_true',decide_eq_true_eq]
  constructor
  intro H s hs
  cases hg:(BJ h.bind s.var).2 with
  |false=>exact .inl rfl
  |true=>
   right
   have hm:=Cy (show BJ h.bind s.var=((BJ h.bind s.var).1,true)from Prod.ext rfl hg)
   obtain⟨_,a,ha,hk,hn⟩:=hh.back _ hm
   simp only at hn
   rcases H a ha hk with h2|⟨_,h2⟩
   rw[hn,B5 hb hs]at h2
   exact((Prod.ext_iff.1 h2).1).symm
   rw[hn,B5 hb hs]at h2;cases h2
  intro H a ha hk
  obtain⟨h1,_⟩:=hh.vals a ha hk
  cases hg:(BJ b a.n).2 with
  |false=>exact .inr ⟨rfl,rfl⟩
  |true=>
   left
   have hm:=Cy (show BJ b a.n=((BJ b a.n).1,true)from Prod.ext rfl hg)
   rcases H _ hm with h2|h2
   rw[h1]at h2;cases h2
   exact Prod.ext h2.symm hg
theorem aSm{n:Nat}{q:AA}{L:List Ent}{M:MP Int (List X0)}{m:PM}(h:INV n q L M m)(hF:CV q){i j:Nat}{sy:X2}{a:AX}(hs:q.symbols[i]? =Option.some sy)(ha:sy.args[j]? =Option.some a)(hk:a.kind=2){v:X3}(hv:VOk v):
 Is L (fun b=>BJ b a.n=(v,true)) (Gp m (at2 i j++Bf v)):=
 ⟨h.pi.rs _,fun y=>by rw[h.at hF hs ha hk];constructor;rintro⟨e,he,h1,h2⟩;exact⟨e,he,h1,(QK (h.ok e he) hv).1 h2⟩;rintro⟨e,he,h1,h2⟩;exact⟨e,he,h1,(QK (h.ok e he) hv).2 h2⟩⟩
theorem aSn{n:Nat}{q:AA}{L:List Ent}{M:MP Int (List X0)}{m:PM}(h:INV n q L M m)(hF:CV q){i j:Nat}{sy:X2}{a:AX}(hs:q.symbols[i]? =Option.some sy)(ha:sy.args[j]? =Option.some a)(hk:a.kind=2):
 Is L (fun b=>(BJ b a.n).2=false) (Gp m (at2 i j)):=
 ⟨h.pi.rs _,fun y=>by have:=h.at hF hs ha hk [] y;rw[List.append_nil]at this;rw[this];constructor;rintro⟨e,he,h1,h2⟩;exact⟨e,he,h1,QL.1 h2⟩;rintro⟨e,he,h1,h2⟩;exact⟨e,he,h1,QL.2 h2⟩⟩
theorem aKr{l:List Int}(h:l.length<=100000):CK 8 l=some l:=by unfold CK;rw[if_pos (AU (by omega) (by decide))]
theorem bAx{n:Nat}{q:AA}{L:List Ent}{M:MP Int (List X0)}{m:PM}(h:INV n q L M m)(hF:CV q)(hn:n<=10000)(hl:L.length<=1000){hit:Ae}{i:Nat}{sy:X2}(hh:HOk q hit i sy)(u:Bool){j:Nat}{a:AX}(ha:sy.args[j]? =Option.some a)
 (F:List X0->Prop) (s7:List Int) (s8:Bool) (s25:Int) (hs:s8=false->Is L F s7):
 ∃o,Mx u s7 s8 sy.args s25 (j:Int) q hit M m=Option.some o/\(a.kind≠2->o=(s7,s8))/\(a.kind=2->o.2=false/\Is L (fun b=>(s8=false->F b)/\ZH u hit.bind b a) o.1):=by
 unfold Mx
 rw[AN ha]
 by_cases hk:a.kind=2
 obtain⟨hg,hv⟩:=hh.vals a (List.mem_of_getElem? ha) hk
 have hb:=hh.len
 have hkl:=EW (BJ hit.bind a.n).1
 have hvs:=hv.str
 have hpl:Qi hit.symbol (j:Int)=some (at2 i j):=by unfold Qi;rw[hh.sym];rfl
 rw[decide_eq_true hk,Bool.not_true,AR,aMi _ _ (by omega),AD,hpl,AD,bAh hv,AD,Ai (by simp[at2];omega)]
 have I1:=aSm h hF hh.at_ ha hk hv
 have I2:=aSn h hF hh.at_ ha hk
 have l1:=h.pi.len (at2 i j++Bf (BJ hit.bind a.n).1)
 have l2:=h.pi.len (at2 i j)
 have fin:∀l,Is L (fun b=>ZH u hit.bind b a) l->∀o,(s8=true->o=(l,false))->(s8=false->o.2=false/\Rs o.1/\∀y,y∈o.1↔y∈s7/\y∈l)->(a.kind=2->o.2=false/\Is L (fun b=>(s8=false->F b)/\ZH u hit.bind b a) o.1):=by
  intro l hI o h1 h2 _;cases s8 with
  |true=>
   rw[h1 rfl]
   exact⟨rfl,hI.congr fun e he=>by simp⟩
  |false=>
   obtain⟨a1,a2,a3⟩:=h2 rfl
   exact⟨a1,(Is.common h.ids (hs rfl) hI a2 a3).congr fun e he=>by simp⟩
 cases u with
 |true=>
  have hI:Is L (fun b=>ZH true hit.bind b a) (Gp m (at2 i j++Bf (BJ hit.bind a.n).1)):=I1.congr fun e he=>by unfold ZH;simp[hk]
  rw[Bool.not_true,AR]
  cases s8 with
  |true=>
   rw[AP]
   unfold Uo
   rw[show(A5 [] m (at2 i j++Bf (BJ hit.bind a.n).1)).1=Gp m (at2 i j++Bf (BJ hit.bind a.n).1)from rfl,aKr (by omega),AD]
   exact⟨_,rfl,fun h=>absurd hk h,fin _ hI _ (fun _=>rfl) (by simp)⟩
  |false=>
   rw[AR]
   have hls:=(hs rfl).len
   obtain⟨r,e1,e2,e3,e4⟩:=LY (hs rfl).1 hI.1 (by omega) (by omega)
   rw[SL,show(A5 [] m (at2 i j++Bf (BJ hit.bind a.n).1)).1=Gp m (at2 i j++Bf (BJ hit.bind a.n).1)from rfl,e1,AD]
   exact⟨_,rfl,fun h=>absurd hk h,fin _ hI _ (by simp) (fun _=>⟨rfl,e2,e3⟩)⟩
 |false=>
  obtain⟨l,e1,e2,e3,e4⟩:=aN8 (a:=Gp m (at2 i j++Bf (BJ hit.bind a.n).1)) (b:=Gp m (at2 i j)) I1.1 (by omega) (by omega)
  have hI:Is L (fun b=>ZH false hit.bind b a) l:=(Is.join I1 I2 e2 e3).congr fun e he=>by unfold ZH;simp[hk]
  have hll:=hI.len
  have hne:at2 i j++Bf (BJ hit.bind a.n).1≠at2 i j:=fun h=>Kc _ (List.append_right_eq_self.1 h)
  rw[Bool.not_false,AP,Ai hne,show(A5 [] m (at2 i j++Bf (BJ hit.bind a.n).1)).1=Gp m (at2 i j++Bf (BJ hit.bind a.n).1)from rfl,show(A5 [] m (at2 i j)).1=Gp m (at2 i j)from rfl,e1,AD]
  cases s8 with
  |true=>
   rw[AP]
   unfold Un
   rw[aKr (by omega),AD]
   exact⟨_,rfl,fun h=>absurd hk h,fin _ hI _ (fun _=>rfl) (by simp)⟩
  |false=>
   rw[AR]
   have hls:=(hs rfl).len
   obtain⟨r,f1,f2,f3,f4⟩:=LY (hs rfl).1 hI.1 (by omega) (by omega)
   rw[f1,AD]
   exact⟨_,rfl,fun h=>absurd hk h,fin _ hI _ (by simp) (fun _=>⟨rfl,f2,f3⟩)⟩
 rw[decide_eq_false hk,Bool.not_false,AP]
 exact⟨_,rfl,fun _=>rfl,fun h=>absurd h hk⟩
theorem bAj{n:Nat}{q:AA}{L:List Ent}{M:MP Int (List X0)}{m:PM}(h:INV n q L M m)(hF:CV q)(hn:n<=10000)(hl:L.length<=1000){hit:Ae}{i:Nat}{sy:X2}(hh:HOk q hit i sy)(u:Bool):∀(r pre:List AX) (s7:List Int) (s8:Bool),sy.args=pre++r->
 (s8=true->∀a∈pre,a.kind≠2)->(s8=false->Is L (fun b=>∀a∈pre,ZH u hit.bind b a) s7)->
 ∃o,LG u sy.args (sy.args.length:Int) q hit M m s7 s8 (pre.length:Int)=Option.some o/\(o.2=true->∀a∈sy.args,a.kind≠2)/\(o.2=false->Is L (fun b=>∀a∈sy.args,ZH u hit.bind b a) o.1)
 |[],pre,s7,s8,hs,h1,h2=>by
  rw[O8];have e:sy.args.length=pre.length:=by rw[hs];simp
  unfold D6;rw[AL,if_neg (by simp[e])];rw[List.append_nil]at hs;exact⟨(s7,s8),rfl,by rw[hs];exact h1,by rw[hs];exact h2⟩
 |a::r,pre,s7,s8,hs,h1,h2=>by
  have hx:sy.args[pre.length]? =Option.some a:=by rw[hs];simp
  have hsl:=hF.args sy (List.mem_of_getElem? hh.at_);obtain⟨o,e1,e2,e3⟩:=bAx h hF hn hl hh u hx (fun b=>∀a∈pre,ZH u hit.bind b a) s7 s8 (sy.args.length:Int) h2;rw[O8];unfold D6;rw[ltD hx,AP,e1,AD,Aq hx (by omega),A4];have:=bAj h hF hn hl hh u r (pre++[a]) o.1 o.2 (by rw[hs];simp) (fun ho=>by
   intro c hc;by_cases hk:a.kind=2;rw[(e3 hk).1]at ho;cases ho;rw[e2 hk]at ho;rcases ma.1 hc with hc|hc
   exact h1 ho c hc;rw[List.mem_singleton]at hc;exact hc▸hk) (fun ho=>by
   by_cases hk:a.kind=2;refine(e3 hk).2.congr fun e he=>?_;constructor;rintro⟨a1,a2⟩ c hc;rcases ma.1 hc with hc|hc
   cases s8 with
   |false=>exact a1 rfl c hc
   |true=>exact fun hk2=>absurd hk2 (h1 rfl c hc)
   rw[List.mem_singleton]at hc;exact hc▸a2;exact fun H=>⟨fun _ c hc=>H c (ml_ _ hc),H a (by simp)⟩;rw[e2 hk]at ho⊢;refine(h2 ho).congr fun e he=>?_;constructor;intro H c hc;rcases ma.1 hc with hc|hc
   exact H c hc;rw[List.mem_singleton]at hc;subst hc;exact fun hk2=>absurd hk2 hk;exact fun H c hc=>H c (ml_ _ hc))
  rw[List.length_append]at this;exact this
theorem aS4{n:Nat}{q:AA}{L:List Ent}{M:MP Int (List X0)}{m:PM}(h:INV n q L M m)(hF:CV q)(hn:n<=10000)(hl:L.length<=1000){hit:Ae}{i:Nat}{sy:X2}(hh:HOk q hit i sy)(u:Bool):
 ∃r,Xp hit u q M m=Option.some (r,q,M,m)/\Is L (fun b=>KX u hit.bind b=true) r:=by
 obtain⟨o,e1,e2,e3⟩:=bAj h hF hn hl hh u sy.args [] [] true rfl (fun _=>by simp) (by simp)
 unfold Xp
 rw[hh.sym,AN hh.at_,show LG u sy.args (sy.args.length:Int) q hit M m [] true 0=_ from e1,AD]
 cases ho:o.2 with
 |true=>
  obtain⟨r,f1,f2⟩:=aSk h hl
  rw[AP,f1,AD]
  refine⟨r,rfl,f2.congr fun e he=>?_⟩
  rw[<-QR hh u e.bind (h.ok e he).srt]
  exact⟨fun _ a ha hk=>absurd hk (e2 ho a ha),fun _=>trivial⟩
 |false=>
  rw[AR]
  exact⟨o.1,rfl,(e3 ho).congr fun e he=>QR hh u e.bind (h.ok e he).srt⟩
theorem aTl{n:Nat}{q:AA}{L:List Ent}{M:MP Int (List X0)}{m:PM}(h:INV n q L M m)(hF:CV q)(hn:n<=10000)(hl:L.length<=1000)(u:Bool)(H:List Ae)(hH:∀x∈H,∃i sy,HOk q x i sy)(hHl:H.length<=1000):∀(r pre:List Ae) (s7:List Int),H=pre++r->
 Is L (fun b=>∃x∈pre,KX u x.bind b=true) s7->
 ∃o,LH u H (H.length:Int) s7 (pre.length:Int) q M m=Option.some (o,q,M,m)/\Is L (fun b=>∃x∈H,KX u x.bind b=true) o
 |[],pre,s7,hs,hI=>by
  rw[PS];have e:H.length=pre.length:=by rw[hs];simp
  unfold D7;rw[AL,if_neg (by simp[e])];rw[List.append_nil]at hs;exact⟨s7,rfl,by rw[hs];exact hI⟩
 |x::r,pre,s7,hs,hI=>by
  have hx:H[pre.length]? =Option.some x:=by rw[hs];simp
  obtain⟨i,sy,hh⟩:=hH x (List.mem_of_getElem? hx);obtain⟨r1,e1,I1⟩:=aS4 h hF hn hl hh u;have l1:=hI.len;have l2:=I1.len;obtain⟨r2,f1,f2,f3,f4⟩:=aJb hI.1 (b:=r1) (by omega) (by omega);rw[PS];unfold D7;rw[ltD hx,AP,AN hx,e1,AD,f1,AD,Aq hx (by omega),A4];have:=aTl h hF hn hl u H hH hHl r (pre++[x]) r2 (by rw[hs];simp) ((Is.join hI I1 f2 f3).congr fun e he=>by
   constructor;rintro(⟨y,hy,h1⟩|h1);exact⟨y,ml_ _ hy,h1⟩;exact⟨x,by simp,h1⟩;rintro⟨y,hy,h1⟩;rcases ma.1 hy with hy|hy
   exact .inl ⟨y,hy,h1⟩;rw[List.mem_singleton]at hy;exact .inr (hy▸h1))
  rw[List.length_append]at this;exact this
theorem aCg{n:Nat}{q:AA}{L:List Ent}{M:MP Int (List X0)}{m:PM}(h:INV n q L M m)(hF:CV q)(hn:n<=10000)(hl:L.length<=1000)(u:Bool)(H:List Ae)(hH:∀x∈H,∃i sy,HOk q x i sy)(hHl:H.length<=1000):
 ∃o,Xy H u q M m=Option.some (o,q,M,m)/\Is L (fun b=>∃x∈H,KX u x.bind b=true) o:=by
 obtain⟨o,e,hI⟩:=aTl h hF hn hl u H hH hHl H [] [] rfl ⟨List.Pairwise.nil,fun y=>by simp⟩
 refine⟨o,?_,hI⟩
 unfold Xy
 rw[show LH u H (H.length:Int) [] 0 q M m=_ from e,AD]
end Go.Ac
