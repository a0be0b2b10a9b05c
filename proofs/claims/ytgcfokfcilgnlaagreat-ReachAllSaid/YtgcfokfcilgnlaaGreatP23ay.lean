/- Own work: the plain law. -/
import Derived.Test.YtgcfokfcilgnlaaGreatP23ax
set_option linter.unusedVariables false
set_option linter.unusedSimpArgs false
namespace Go.Ac
noncomputable section
theorem aUh(o b:Nat)(s1 s7 s8:Int): ∀(m j:Nat) (w:List Int),b<=j+m->w.length<=1000000->b<=w.length->o<j->
 ∃w',PX s1 (b:Int) s7 s8 (j:Int) w=some w'/\Pm o b w w':=by
 intro m
 induction m with
 |zero=>
  intro j w hm hl hb hj
  refine⟨w, ?_,Pm.refl _ _ _⟩
  rw [N3]
  unfold GL
  rw [ltF (by omega),Ad]
 |succ m ih=>
  intro j w hm hl hb hj
  rw [N3]
  unfold GL
  by_cases h0:j<b
  by_cases h1:ga w j<ga w (j-1)
  have hp:=Pm.swp (a:=o) (b:=b) (w:=w) (i:=j) (j:=j-1) ⟨by omega,by omega⟩ ⟨by omega,by omega⟩ hb
  obtain⟨w',e1,e2⟩:=ih (j+1) (swp w j (j-1)) (by omega) (by rw [Bv];exact hl) (by rw [Bv];exact hb) (by omega)
  refine⟨w', ?_,hp.trans e2⟩
  rw [<-e1]
  simp (disch:=omega) only [ltT,Dj,E8,Ek,Bu,AB,h1,decide_true,Bool.not_true,AH,List.length_set,Int.toNat_natCast,F9,BE]
  rfl
  refine⟨w, ?_,Pm.refl _ _ _⟩
  simp (disch:=omega) only [ltT,Dj,E8,Ek,Bu,AB,h1,decide_false,Bool.not_false,AI,Ad]
  refine⟨w,by rw [ltF h0,Ad],Pm.refl _ _ _⟩
theorem aUe(a b:Nat): ∀(m k i:Nat) (w:List Int),5<=k+m->k<=5->w.length<=1000000->b<=w.length->a<i->i<=b->Lo a b w->So a i w->
 ∃w' o,Mp (a:Int) (b:Int) (i:Int) (k:Int) w=some o/\Pm a b w w'/\(o= .inl w'\/ ∃f,o= .inr (f,w')/\(f=true->So a b w')):=by
 intro m
 induction m with
 |zero=>
  intro k i w hm hk hl hb ha hi hL hs
  refine⟨w,_, ?_,Pm.refl _ _ _,.inl rfl⟩
  rw [Nz]
  unfold GI
  rw [decide_eq_false (by omega),AH,Ad]
 |succ m ih=>
  intro k i w hm hk hl hb ha hi hL hs
  rw [Nz]
  unfold GI
  by_cases h5:k<5
  rw [decide_eq_true (by omega),AI]
  unfold PU
  obtain⟨o,e1,e2,e3,e4⟩:=aUf a b (k:Int) w hl hb b i (by omega) ha hi hs
  rw [e1,AB]
  by_cases h0:o=b
  refine⟨w,_,by rw [decide_eq_true (by omega),AI,AB,EC,Ad],Pm.refl _ _ _,.inr ⟨true,rfl,fun _=>h0▸e4⟩⟩
  rw [decide_eq_false (by omega),AH,XW (by omega)]
  by_cases h50:b-a<50
  refine⟨w,_,by rw [decide_eq_true (by omega),AI,AB,EC,Ad],Pm.refl _ _ _,.inr ⟨false,rfl,fun h=>by cases h⟩⟩
  rw [decide_eq_false (by omega),AH]
  have hsw:=Pm.swp (a:=a) (b:=b) (w:=w) (i:=o) (j:=o-1) ⟨by omega,by omega⟩ ⟨by omega,by omega⟩ hb
  have hg:=Ej (w:=w) (i:=o) (j:=o-1) (by omega) (by omega)
  have hdef:((w.set o (ga w (o-1))).set (o-1) (ga w o))=swp w o (o-1):=rfl
  obtain⟨w1,f1,f2,f3⟩: ∃w1,Mn (a:Int) (b:Int) (o:Int) (k:Int) (decide (2<=((o-a:Nat):Int))) (swp w o (o-1))=some w1/\Pm a b (swp w o (o-1)) w1/\So a o w1:=by
   unfold Mn;by_cases h2:2<=o-a;obtain⟨w1,g1,g2,g3⟩:=aUg a b (o-1) (b:Int) (o:Int) (k:Int) (by omega) (o-1) (swp w o (o-1)) (by rw [Bv];exact hl) (by rw [Bv];exact hb) (by omega) (Nat.le_refl _) (hL.pm hsw) (fun p q p1 p2 p3 p4=>by rw [hg,hg,if_neg (by omega),if_neg (by omega),if_neg (by omega),if_neg (by omega)];exact e4 p q p1 p2 (by omega))
   rw [show o-1+1=o by omega]at g2 g3;refine⟨w1, ?_,g2.mono (Nat.le_refl _) (by omega),g3⟩;rw [decide_eq_true (by omega),AI,Dj (by omega),g1,AB];exact⟨_,by rw [decide_eq_false (by omega),AH],Pm.refl _ _ _,fun p q p1 p2 p3=>by omega⟩
  have hl1:w1.length=w.length:=by rw [f2.len,Bv]
  obtain⟨w2,g1,g2⟩: ∃w2,Mo (a:Int) (b:Int) (o:Int) (k:Int) (decide (2<=((b-o:Nat):Int))) w1=some w2/\Pm o b w1 w2:=by unfold Mo;by_cases h2:2<=b-o;obtain⟨w2,g1,g2⟩:=aUh o b (a:Int) (o:Int) (k:Int) b (o+1) w1 (by omega) (by omega) (by omega) (by omega);exact⟨w2,by rw [decide_eq_true (by omega),AI,F9 (by omega),g1,AB],g2⟩;exact⟨_,by rw [decide_eq_false (by omega),AH],Pm.refl _ _ _⟩
  have hpm:=(hsw.trans f2).trans (g2.mono (by omega) (Nat.le_refl _))
  have hl2:=hpm.len
  obtain⟨w3,q,r1,r2,r3⟩:=ih (k+1) o w2 (by omega) (by omega) (by omega) (by omega) (by omega) (by omega) (hL.pm hpm) (fun p q p1 p2 p3=>by rw [g2.out p (by omega),g2.out q (by omega)];exact f3 p q p1 p2 p3)
  refine⟨w3,q, ?_,hpm.trans r2,r3⟩
  rw [<-r1]
  simp (disch:=omega) only [E8,Ek,Dj,XW,List.length_set,Int.toNat_natCast,hdef,f1,g1,AB,CT,F9,BE]
  exact⟨w,_,by rw [decide_eq_false (by omega),AH,Ad],Pm.refl _ _ _,.inl rfl⟩
theorem aUi(a b:Nat)(w:List Int)(hl:w.length<=1000000)(hb:b<=w.length)(hab:a<b)(hL:Lo a b w):
 ∃(f:Bool) (w':List Int),X5 (a:Int) (b:Int) w=some (f,w')/\Pm a b w w'/\(f=true->So a b w'):=by
 obtain⟨w',o,e1,e2,e3⟩:=aUe a b 5 0 (a+1) w (by omega) (by omega) hl hb (by omega) (by omega) hL (fun p q p1 p2 p3=>by omega)
 unfold X5
 have e1':Mp (a:Int) (b:Int) ((a+1:Nat):Int) 0 w=some o:=e1
 rw [F9 (by omega),e1',AB]
 rcases e3 with rfl|⟨f,rfl,hf⟩
 exact⟨false,w',rfl,e2,fun h=>by cases h⟩
 exact⟨f,w',rfl,e2,hf⟩
abbrev aP9:=Int×Int×Int×Bool×Bool×List Int
def Rd(a b:Nat)(w:List Int)(x:aP9):Prop:= ∃a' b':Nat,x.1=(a':Int)/\x.2.1=(b':Int)/\a<=a'/\a'<=b'/\b'<=b/\b'-a'<b-a/\Pm a b w x.2.2.2.2.2/\Lo a' b' x.2.2.2.2.2/\
 (∀p q,a<=p->p<a'->p<q->q<b->ga x.2.2.2.2.2 p<=ga x.2.2.2.2.2 q)/\ ∀p q,a<=p->p<q->b'<=q->q<b->ga x.2.2.2.2.2 p<=ga x.2.2.2.2.2 q
def Slf(self:Int->Int->Int->List Int->Option (List Int))(N:Nat):Prop:= ∀(a b:Nat) (lim:Int) (w:List Int),b-a<N->a<=b->b<=w.length->w.length<=60000->Lo a b w-> ∃w',self (a:Int) (b:Int) lim w=some w'/\Pm a b w w'/\So a b w'
theorem Lo.sub{a b b':Nat}{w:List Int}(h:Lo a b w)(hb:b'<=b):Lo a b' w:=fun h0 k k1 k2=>h h0 k k1 (by omega)
theorem aTw{self:Int->Int->Int->List Int->Option (List Int)}{a b o:Nat}(lim:Int)(wp:Bool)(t:Int){w w1:List Int}(hS:Slf self (b-a))(hl:w.length<=60000)(hb:b<=w.length)(ho:a<=o)(hob:o<b)(hp:Pm a b w w1)(hL:Lo a b w1)
 (h1: ∀k,a<=k->k<o->ga w1 k<=ga w1 o) (h2: ∀k,o<k->k<b->ga w1 o<=ga w1 k) (hab:2<=b-a):
 ∃y:Int×Int×Bool×List Int,FX self (a:Int) (b:Int) lim wp (o:Int) ((o-a:Nat):Int) ((b-o:Nat):Int) t (decide (((o-a:Nat):Int)<((b-o:Nat):Int))) w1=some y/\ ∀wb,Rd a b w (y.1,y.2.1,lim,wb,wp,y.2.2.2):=by
 have hl1:=hp.len
 unfold FX
 by_cases h:o-a<b-o
 obtain⟨w2,e1,e2,e3⟩:=hS a o lim w1 (by omega) ho (by omega) (by omega) (hL.sub (by omega))
 refine⟨(AA .add .i64 (o:Int) 1,(b:Int),decide (t<=((o-a:Nat):Int)),w2),by rw [decide_eq_true (by omega),AI,e1,AB],fun wb=>⟨o+1,b,F9 (by omega),rfl,by omega,by omega,by omega,by omega,hp.trans (e2.mono (Nat.le_refl _) (by omega)),fun h0 k k1 k2=> ?_,fun p q p1 p2 p3 p4=> ?_,fun p q p1 p2 p3 p4=>by omega⟩⟩
 show ga w2 (o+1-1)<=ga w2 k
 rw [Nat.add_sub_cancel,e2.out o (by omega),e2.out k (by omega)]
 exact h2 k (by omega) k2
 show ga w2 p<=ga w2 q
 by_cases c1:q<o
 exact e3 p q p1 p3 c1
 rw [e2.out q (by omega)]
 have hpo:ga w2 p<=ga w1 o:=by by_cases c2:p=o;rw [c2,e2.out o (by omega)];exact Int.le_refl _;obtain⟨p',q1,q2,q3⟩:=e2.src p p1 (by omega);rw [q3];exact h1 p' q1 q2
 by_cases c3:q=o
 rw [c3];exact hpo
 have:=h2 q (by omega) p4;omega
 obtain⟨w2,e1,e2,e3⟩:=hS (o+1) b lim w1 (by omega) (by omega) (by omega) (by omega) (fun h0 k k1 k2=>by rw [Nat.add_sub_cancel];exact h2 k (by omega) k2)
 have hL2:Lo a b w2:=hL.pm (e2.mono (by omega) (Nat.le_refl _))
 refine⟨((a:Int),(o:Int),decide (t<=((b-o:Nat):Int)),w2),by rw [decide_eq_false (by omega),AH,F9 (by omega),e1,AB],fun wb=>⟨a,o,rfl,rfl,Nat.le_refl _,ho,by omega,by omega,hp.trans (e2.mono (by omega) (Nat.le_refl _)),hL2.sub (by omega),fun p q p1 p2 p3 p4=>by omega,fun p q p1 p2 p3 p4=> ?_⟩⟩
 show ga w2 p<=ga w2 q
 by_cases c1:o<p
 exact e3 p q c1 p2 p4
 rw [e2.out p (by omega)]
 have hpo:ga w1 p<=ga w1 o:=by by_cases c2:p=o;rw [c2];exact Int.le_refl _;exact h1 p p1 (by omega)
 by_cases c3:q=o
 rw [c3,e2.out o (by omega)];exact hpo
 obtain⟨q',q1,q2,q3⟩:=e2.src q (by omega) p4
 have:=h2 q' (by omega) q2
 omega
def aMx(self:Int->Int->Int->List Int->Option (List Int))(s1 s2 d lim:Int)(s8 s9:Bool)(pv:Int)(w:List Int):Option (aP9⊕List Int):=
 AE (decide (0<s1)) (
  AY (0<=(AA .sub .i64 s1 1)/\(AA .sub .i64 s1 1)+1<=(w.length:Int)) (
   AX w (AA .sub .i64 s1 1) fun x12=>
   AY (0<=pv/\pv+1<=(w.length:Int)) (
    AX w pv fun x13=>
    AJ (Y6 x12 x13) fun r14=>
    AE (!r14) (
     AJ (Xe s1 s2 pv w) fun r15=>
     some (.inl (r15.1,s2,lim,s8,s9,r15.2))) (
     AJ (X6 s1 s2 pv w) fun r16=>
     AJ (FX self s1 s2 lim r16.2.1 r16.1 (AA .sub .i64 r16.1 s1) (AA .sub .i64 s2 r16.1) (AA .quo .i64 d 8) (decide ((AA .sub .i64 r16.1 s1)<(AA .sub .i64 s2 r16.1))) r16.2.2) fun o19=>
     some (.inl (o19.1,o19.2.1,lim,o19.2.2.1,r16.2.1,o19.2.2.2)))))) (
  AJ (X6 s1 s2 pv w) fun r20=>
  AJ (FX self s1 s2 lim r20.2.1 r20.1 (AA .sub .i64 r20.1 s1) (AA .sub .i64 s2 r20.1) (AA .quo .i64 d 8) (decide ((AA .sub .i64 r20.1 s1)<(AA .sub .i64 s2 r20.1))) r20.2.2) fun o21=>
  some (.inl (o21.1,o21.2.1,lim,o21.2.2.1,r20.2.1,o21.2.2.2)))
theorem aMy{self:Int->Int->Int->List Int->Option (List Int)}{a b p:Nat}(d lim:Int)(s8 s9:Bool){w w1:List Int}(hS:Slf self (b-a))(hl:w.length<=60000)(hb:b<=w.length)(hp:a<=p/\p<b)(hab:a+2<=b)(h1:Pm a b w w1)(hL:Lo a b w1):
 ∃x,aMx self (a:Int) (b:Int) d lim s8 s9 (p:Int) w1=some (.inl x)/\Rd a b w x:=by
 have hl1:=h1.len
 have part: ∃x,(AJ (X6 (a:Int) (b:Int) (p:Int) w1) fun r20=>
  AJ (FX self (a:Int) (b:Int) lim r20.2.1 r20.1 (AA .sub .i64 r20.1 (a:Int)) (AA .sub .i64 (b:Int) r20.1) (AA .quo .i64 d 8) (decide ((AA .sub .i64 r20.1 (a:Int))<(AA .sub .i64 (b:Int) r20.1))) r20.2.2) fun o21=>
  some (.inl (o21.1,o21.2.1,lim,o21.2.2.1,r20.2.1,o21.2.2.2):aP9⊕List Int))=some (.inl x)/\Rd a b w x:=by
  obtain⟨o,f,w2,e1,e2,e3,e4,e5,e6⟩:=aUm a b p w1 (by omega) (by omega) hp hab
  obtain⟨y,f1,f2⟩:=aTw (o:=o) lim f (AA .quo .i64 d 8) hS hl hb e2 e3 (h1.trans e4) (hL.pm e4) e5 e6 (by omega)
  refine⟨_, ?_,f2 y.2.2.1⟩
  rw [e1,AB]
  simp only
  rw [XW (n:=o) (m:=a) (by omega),XW (n:=b) (m:=o) (by omega),f1,AB]
 unfold aMx
 by_cases h0:0<a
 rw [decide_eq_true (by omega),AI]
 by_cases hc:ga w1 (a-1)<ga w1 p
 obtain⟨x,x1,x2⟩:=part
 refine⟨x, ?_,x2⟩
 rw [<-x1]
 simp (disch:=omega) only [Dj,E8,Ek,Bu,AB,hc,decide_true,Bool.not_true,AH]
 obtain⟨o,w2,e1,e2,e3,e4,e5⟩:=aUd a b p w1 (by omega) (by omega) hp hab
 have hL2:=hL.pm e4
 have ha:ga w2 (a-1)=ga w1 (a-1):=e4.out _ (by omega)
 refine⟨((o:Int),(b:Int),lim,s8,s9,w2), ?_,⟨o,b,rfl,rfl,by omega,e3,Nat.le_refl _,by omega,h1.trans e4,fun q0 k k1 k2=> ?_,fun p' q p1 p2 p3 p4=> ?_,fun p' q p1 p2 p3 p4=>by omega⟩⟩
 simp (disch:=omega) only [Dj,E8,Ek,Bu,AB,hc,decide_false,Bool.not_false,AI,e1]
 show ga w2 (o-1)<=ga w2 k
 have:=e5 (o-1) (by omega) (by omega)
 have:=hL2 h0 k (by omega) k2
 omega
 show ga w2 p'<=ga w2 q
 have:=e5 p' p1 p2
 have:=hL2 h0 q (by omega) p4
 omega
 rw [decide_eq_false (by omega),AH];exact part
theorem aTv{self:Int->Int->Int->List Int->Option (List Int)}{a b:Nat}(lim:Int)(s8 s9 fl:Bool)(t pv:Int){w1:List Int}(hl:w1.length<=60000)(hb:b<=w1.length)(hab:a<b)(hL:Lo a b w1):
 ∃o w2,JS self (a:Int) (b:Int) lim s8 s9 t pv fl w1=some o/\Pm a b w1 w2/\(o= .inl w2\/o= .inr w2/\So a b w2):=by
 unfold JS
 cases fl with
 |false=>exact⟨_,w1,rfl,Pm.refl _ _ _,.inl rfl⟩
 |true=>
  obtain⟨f,w2,e1,e2,e3⟩:=aUi a b w1 (by omega) hb hab hL
  rw [AI,e1,AB]
  cases f with
  |true=>exact⟨_,w2,rfl,e2,.inr ⟨rfl,e3 rfl⟩⟩
  |false=>exact⟨_,w2,rfl,e2,.inl rfl⟩
theorem aTu{self:Int->Int->Int->List Int->Option (List Int)}{a b:Nat}(lim:Int)(s8 s9:Bool){w:List Int}(hS:Slf self (b-a))(hl:w.length<=60000)(hb:b<=w.length)(hab:a<=b)(hL:Lo a b w):
 ∃o,Mu self (a:Int) (b:Int) lim s8 s9 w=some o/\((∃w',o= .inr w'/\Pm a b w w'/\So a b w')\/ ∃x,o= .inl x/\Rd a b w x):=by
 unfold Mu
 rw [XW (n:=b) (m:=a) (by omega)]
 by_cases h12:b-a<=12
 obtain⟨w',e1,e2,e3⟩:=aT1 a b w (by omega) hb hab
 exact⟨_,by rw [decide_eq_true (by omega),AI,e1,AB],.inl ⟨w',rfl,e2,e3⟩⟩
 rw [decide_eq_false (by omega),AH]
 by_cases hlim:lim=0
 obtain⟨w',e1,e2,e3⟩:=aMg a b w (by omega) hb (by omega)
 exact⟨_,by rw [decide_eq_true hlim,AI,e1,AB],.inl ⟨w',rfl,e2,e3⟩⟩
 rw [decide_eq_false hlim,AH]
 obtain⟨l1,w1,e1,e2⟩: ∃l1 w1,Mv self (a:Int) (b:Int) lim s8 s9 ((b-a:Nat):Int) (!s8) w=some (l1,w1)/\Pm a b w w1:=by
  unfold Mv;cases s8 with
  |true=>exact⟨_,_,rfl,Pm.refl _ _ _⟩
  |false=>
   obtain⟨w1,e1,e2⟩:=aOx a b w hl hb (by omega)
   exact⟨_,w1,by rw [Bool.not_false,AI,e1,AB],e2⟩
 have hl1:=e2.len
 obtain⟨pv,hint,f1,p,rfl,p1,p2⟩:=aPi a b w1 (by omega) (by omega) (by omega)
 obtain⟨p',hint',w2,g1,g2,g3,g4⟩: ∃(p':Nat) (hint':Int) (w2:List Int),Mw self (a:Int) (b:Int) l1 s8 s9 ((b-a:Nat):Int) (p:Int) hint (decide (hint=2)) w1=some ((p':Int),hint',w2)/\a<=p'/\p'<b/\Pm a b w1 w2:=by unfold Mw;by_cases h2:hint=2;obtain⟨w2,g1,g2⟩:=aPo a b w1 (by omega) (by omega) hab;refine⟨b-1-(p-a),1,w2, ?_,by omega,by omega,g2⟩;rw [decide_eq_true h2,AI,g1,AB,Dj (by omega),XW (n:=p) (m:=a) (by omega),XW (n:=b-1) (m:=p-a) (by omega)];exact⟨p,hint,w1,by rw [decide_eq_false h2,AH],p1,p2,Pm.refl _ _ _⟩
 have h02:=e2.trans g4
 have hL2:=hL.pm h02
 have hl2:=h02.len
 have fin: ∀fl:Bool,∃o,(AJ (JS self (a:Int) (b:Int) l1 s8 s9 ((b-a:Nat):Int) (p':Int) fl w2) fun o9=>
  CP o9 (fun o10=>aMx self (a:Int) (b:Int) ((b-a:Nat):Int) l1 s8 s9 (p':Int) o10) (fun o11=>some (.inr o11)))=some o/\((∃w',o= .inr w'/\Pm a b w w'/\So a b w')\/ ∃x,o= .inl x/\Rd a b w x):=fun fl=>by
  obtain⟨o,w3,h1,h2,h3⟩:=aTv (self:=self) l1 s8 s9 fl ((b-a:Nat):Int) (p':Int) (w1:=w2) (by omega) (by omega) (by omega) hL2
  rw [h1,AB]
  rcases h3 with rfl|⟨rfl,h3⟩
  obtain⟨x,x1,x2⟩:=aMy ((b-a:Nat):Int) l1 s8 s9 hS hl hb ⟨g2,g3⟩ (by omega) (h02.trans h2) (hL2.pm h2)
  exact⟨_,by rw [CT,x1],.inr ⟨x,rfl,x2⟩⟩
  exact⟨_,EC _ _ _,.inl ⟨w3,rfl,h02.trans h2,h3⟩⟩
 rw [e1,AB]
 simp only
 rw [f1,AB]
 simp only
 rw [g1,AB]
 simp only
 cases s8 with
 |true=>cases s9 with
  |true=>rw [AI,AI];exact fin (decide (hint'=1))
  |false=>rw [AI,AH];exact fin false
 |false=>rw [AH];exact fin false
theorem aPh{self:Int->Int->Int->List Int->Option (List Int)}{N:Nat}(hS:Slf self N): ∀(m a b:Nat) (lim:Int) (s8 s9:Bool) (w:List Int),b-a<=m->b-a<=N->w.length<=60000->b<=w.length->a<=b->Lo a b w->
 ∃w',Pa self (a:Int) (b:Int) lim s8 s9 w=some w'/\Pm a b w w'/\So a b w':=by
 intro m
 induction m using Nat.strongRecOn with
 |ind m ih=>
  intro a b lim s8 s9 w hm hN hl hb hab hL
  rw [aAe]
  unfold Hc
  obtain⟨o,e1,e2⟩:=aTu lim s8 s9 (fun a' b' l w' h1 h2 h3 h4 h5=>hS a' b' l w' (by omega) h2 h3 h4 h5) hl hb hab hL
  rw [e1,AB]
  rcases e2 with⟨w',rfl,f1,f2⟩|⟨x,rfl,f1⟩
  exact⟨w',by rw [EC,Ad],f1,f2⟩
  obtain⟨a',b',x1,x2,k1,k2,k3,k4,k5,k6,k7,k8⟩:=f1
  have hl5:=k5.len
  obtain⟨w',g1,g2,g3⟩:=ih (b'-a') (by omega) a' b' x.2.2.1 x.2.2.2.1 x.2.2.2.2.1 x.2.2.2.2.2 (Nat.le_refl _) (by omega) (by omega) (by omega) k2 k6
  refine⟨w', ?_,k5.trans (g2.mono k1 k3),fun p q p1 p2 p3=> ?_⟩
  rw [CT,BE]
  simp only
  rw [x1,x2];exact g1
  by_cases c1:p<a'
  rw [g2.out p (by omega)]
  by_cases c2:a'<=q/\q<b'
  obtain⟨q',q1,q2,q3⟩:=g2.src q c2.1 c2.2
  rw [q3];exact k7 p q' p1 c1 (by omega) (by omega)
  rw [g2.out q (by omega)];exact k7 p q p1 c1 p2 p3
  by_cases c2:b'<=q
  rw [g2.out q (by omega)]
  by_cases c3:p<b'
  obtain⟨p',q1,q2,q3⟩:=g2.src p (by omega) c3
  rw [q3];exact k8 p' q (by omega) (by omega) c2 p3
  rw [g2.out p (by omega)];exact k8 p q p1 p2 c2 p3
  exact g3 p q (by omega) p2 (by omega)
theorem aT9: ∀n,Slf (aH3 n) n:=by
 intro n;induction n with
 |zero=>intro a b lim w h;omega
 |succ n ih=>
  intro a b lim w h1 h2 h3 h4 h5
  obtain⟨w',e1,e2,e3⟩:=aPh ih (b-a) a b lim true true w (Nat.le_refl _) (by omega) h4 h3 h2 h5
  refine⟨w', ?_,e2,e3⟩
  show aJk (aH3 n) (a:Int) (b:Int) lim w=some w'
  unfold aJk
  rw [e1,AB]
theorem RT{w:List Int}(hl:w.length<=60000): ∃w',Q5 w=some w'/\w'.Perm w/\w'.Pairwise (· <= ·):=by obtain⟨k,e1,_⟩:=aHz (n:=w.length) (by omega);obtain⟨w',f1,f2,f3⟩:=aT9 100000 0 w.length (k:Int) w (by omega) (by omega) (Nat.le_refl _) hl (fun h=>by omega);refine⟨w', ?_,f2.perm, ?_⟩;unfold Q5;rw [At (by omega),e1,AB];have f1':X9 0 (w.length:Int) (k:Int) w=some w':=f1;rw [f1',AB];rw [List.pairwise_iff_getElem];intro i j hi hj hij;have:=f3 i j (by omega) hij (by have:=f2.len;omega);rw [Iy hi,Iy hj];exact this
theorem Fi{l m:List Int}(h1:l.Pairwise (· <= ·))(h2:m.Pairwise (· <= ·))(hp:l.Perm m):l=m:=
 List.Perm.eq_of_pairwise (fun a b _ _ h3 h4=>by omega) h1 h2 hp
theorem YV{w l:List Int}(hl:w.length<=60000)(hs:l.Pairwise (· <= ·))(hp:l.Perm w):Qw w=some l:=by unfold Qw;refine aLw fun p hp'=> ?_;obtain⟨w',e1,e2,e3⟩:=RT (w:=p) (by rw [hp'.length_eq];exact hl);rw [e1,Fi e3 hs (e2.trans (hp'.trans hp.symm))]
theorem Wh{α:Type}{le:α->α->Bool}{x y:α}{l:List α}:y∈Lx le x l↔y=x\/y∈l:=by rw [(Gp le x l).mem_iff,mc]
theorem G5{α:Type}{le:α->α->Bool}(h1: ∀a b,le a b=true\/le b a=true)(h2: ∀a b c,le a b=true->le b c=true->le a c=true)(x:α): ∀{l:List α},l.Pairwise (fun a b=>le a b=true)->(Lx le x l).Pairwise (fun a b=>le a b=true)
 |[],_=>by simp [Lx]
 |y::l,h=>by
  obtain⟨ha,hb⟩:=List.pairwise_cons.1 h;rw [Lx];split;rename_i hxy;refine List.pairwise_cons.2 ⟨fun z hz=> ?_,h⟩;rcases mc.1 hz with rfl|hz
  exact hxy;exact h2 _ _ _ hxy (ha z hz);rename_i hxy;refine List.pairwise_cons.2 ⟨fun z hz=> ?_,G5 h1 h2 x hb⟩;rcases Wh.1 hz with rfl|hz
  rcases h1 y z with h|h
  exact h;rw [hxy]at h;cases h;exact ha z hz
theorem Ei{α:Type}{le:α->α->Bool}(h1: ∀a b,le a b=true\/le b a=true)(h2: ∀a b c,le a b=true->le b c=true->le a c=true): ∀(l:List α),(MQ le l).Pairwise (fun a b=>le a b=true)
 |[]=>List.Pairwise.nil
 |x::l=>G5 h1 h2 x (Ei h1 h2 l)
theorem Eh(xs:List Int):(aHk xs).Pairwise (· <= ·):=
 (Ei (le:=fun a b:Int=>decide (a<=b)) (fun a b=>by simp only [decide_eq_true_eq];omega) (fun a b c h1 h2=>by simp only [decide_eq_true_eq]at*;omega) xs).imp fun h=>by simpa using h
theorem I6{V:Type}(S:List (Int×V)):(aG1 S).Pairwise (fun a b=>a.1<=b.1):=
 (Ei (le:=fun a b:Int×V=>decide (a.1<=b.1)) (fun a b=>by simp only [decide_eq_true_eq];omega) (fun a b c h1 h2=>by simp only [decide_eq_true_eq]at*;omega) S).imp fun h=>by simpa using h
structure aNj(n:Nat)(l:List Ao):Prop extends aP7 l where
 sym: ∀h∈l,0<=h.symbol/\h.symbol<n
theorem aLl{a b:Nat}(h:a+b<18446744073709551616):AA .add .u64 (a:Int) (b:Int)=((a+b:Nat):Int):=by show IntKind.wrap .u64 ((a:Int)+(b:Int))=_;rw [<-Int.natCast_add];exact At h
theorem aI9{n:Nat}(hn:n<=12){l:List Ao}(hl:aNj n l): ∃M:Nat,Yy l=some (M:Int)/\M<18446744073709551616/\ ∀k:Nat,M.testBit k=true↔ ∃h∈l,h.symbol=(k:Int):=by
 have hln:=hl.len;obtain⟨o,ho,M,rfl,hQ⟩:=BG (step:=fun s:Int×Int=>IV l s.1 s.2)
  (fun s=> ∃(j w:Nat),s=((w:Int),(j:Int))/\j<=l.length/\w<2^12/\ ∀k:Nat,w.testBit k=true↔ ∃i,i<j/\ ∃h,l[i]? =some h/\h.symbol=(k:Int))
  (fun s=>(l.length-s.2).toNat)
  (fun o=> ∃M:Nat,o=(M:Int)/\M<18446744073709551616/\ ∀k:Nat,M.testBit k=true↔ ∃h∈l,h.symbol=(k:Int))
  (by
   rintro s ⟨j,w,rfl,hj,hw,hm⟩;by_cases he:j=l.length;subst he;refine .inl ⟨(w:Int),by simp only [IV,ltI,AH],w,rfl,Nat.lt_of_lt_of_le hw (by decide),fun k=> ?_⟩;rw [hm k];constructor;rintro⟨i,_,h,hi,hs⟩;exact⟨h,List.mem_of_getElem? hi,hs⟩;rintro⟨h,hh,hs⟩;obtain⟨i,hi⟩:=List.mem_iff_getElem?.1 hh;exact⟨i,(List.getElem?_eq_some_iff.1 hi).1,h,hi,hs⟩;right;obtain⟨y,hy,_⟩:=Aa (l:=l) (i:=j) (by omega);have hsy:=hl.sym y (List.mem_of_getElem? hy);obtain⟨z,hz⟩: ∃z:Nat,y.symbol=(z:Int):=⟨y.symbol.toNat,by omega⟩;have hz12:z<12:=by omega
   have hwz:w<2^z:=Nat.lt_pow_two_of_testBit w fun i hi=>by
    cases hb:w.testBit i with
    |false=>rfl
    |true=>
     exfalso
     obtain⟨a,ha,h,hh,hs⟩:=(hm i).1 hb
     obtain⟨p1,e1⟩:=List.getElem?_eq_some_iff.1 hh
     obtain⟨p2,e2⟩:=List.getElem?_eq_some_iff.1 hy
     have:=List.pairwise_iff_getElem.1 hl.rise a j p1 p2 ha
     rw [e1,e2]at this
     omega
   have hor:w+2^z=2^z|||w:=by have:=Nat.two_pow_add_eq_or_of_lt hwz 1;rw [Nat.mul_one]at this;rw [Nat.add_comm];exact this
   have hp12:2^z<2^12:=Nat.pow_lt_pow_right (by decide) hz12;have hlt12:w+2^z<2^12:=by rw [hor];exact Nat.or_lt_two_pow hp12 hw
   have hwz2:IntKind.wrap .u64 (z:Int)=(z:Int):=At (by omega);refine⟨(((w+2^z:Nat):Int),((j+1:Nat):Int)), ?_,⟨j+1,w+2^z,rfl,by omega,hlt12,fun k=> ?_⟩,by simp only;omega⟩;simp only [IV,ltD hy,AI,AP hy,hz,hwz2,A8 (show(0:Int)<=(z:Int) by omega),An hy (show l.length<=9223372036854775807 by omega)];rw [aHm (by omega),aLl (Nat.lt_of_lt_of_le hlt12 (by decide))];rw [hor,Nat.testBit_or,Nat.testBit_two_pow,Bool.or_eq_true,decide_eq_true_eq,hm k];constructor;rintro(h|⟨i,hi,a⟩);exact⟨j,by omega,y,hy,by rw [hz,h]⟩;exact⟨i,by omega,a⟩;rintro⟨i,hi,h,hh,hs⟩;rcases Nat.lt_or_ge i j with g|g
   exact .inr ⟨i,g,h,hh,hs⟩;have:i=j:=by omega
   subst this;rw [hy,oe]at hh;subst hh;exact .inl (by omega))
  ((0:Int),(0:Int)) ⟨0,0,rfl,by omega,by decide,fun k=>by simp⟩
 have ho':aKx l 0 0=some (M:Int):=ho;exact⟨M,by unfold Yy;rw [ho',AB],hQ⟩
theorem Fc{α:Type}(f:Nat->α->Nat)(P:α->Nat->Prop)(hf: ∀w x k,(f w x).testBit k=true↔w.testBit k=true\/P x k): ∀(l:List α) (w k:Nat),(l.foldl f w).testBit k=true↔w.testBit k=true\/ ∃x∈l,P x k
 |[],w,k=>by simp
 |x::l,w,k=>by
  rw [List.foldl_cons,Fc f P hf l,hf];constructor;rintro((h|h)|⟨y,hy,h⟩);exact .inl h;exact .inr ⟨x,by simp,h⟩;exact .inr ⟨y,List.mem_cons_of_mem _ hy,h⟩;rintro(h|⟨y,hy,h⟩);exact .inl (.inl h);rcases mc.1 hy with rfl|hy
  exact .inl (.inr h);exact .inr ⟨y,hy,h⟩
theorem aMz(q:AD)(M s k:Nat):(toN q M s).testBit k=true↔ ∃t∈q.trans,(t.from_=(s:Int)/\M.testBit t.symbol.toNat=true)/\t.to.toNat=k:=by
 unfold toN;rw [Fc (toF M s) (fun t k=>(t.from_=(s:Int)/\M.testBit t.symbol.toNat=true)/\t.to.toNat=k) (fun w t k=>by unfold toF;by_cases h:t.from_=(s:Int)/\M.testBit t.symbol.toNat=true;rw [if_pos h,Nat.testBit_or,Nat.testBit_two_pow,Bool.or_eq_true,decide_eq_true_eq];exact⟨fun a=>a.elim .inl fun b=> .inr ⟨h,b⟩,fun a=>a.elim .inl fun b=> .inr b.2⟩;rw [if_neg h];exact⟨.inl,fun a=>a.elim id fun b=>absurd b.1 h⟩)]
 simp
theorem W6(q:AD)(S M k:Nat):(EH q S M).testBit k=true↔ ∃s,s<q.states.length/\S.testBit s=true/\(aIi q M s).testBit k=true:=by
 unfold EH;rw [Fc (Kw q S M) (fun s k=>S.testBit s=true/\(aIi q M s).testBit k=true) (fun w s k=>by unfold Kw;by_cases h:S.testBit s=true;rw [if_pos h,Nat.testBit_or,Bool.or_eq_true];exact⟨fun a=>a.elim .inl fun b=> .inr ⟨h,b⟩,fun a=>a.elim .inl fun b=> .inr b.2⟩;rw [if_neg h];exact⟨.inl,fun a=>a.elim id fun b=>absurd b.1 h⟩)]
 simp only [List.mem_range,Nat.zero_testBit,Bool.false_eq_true,false_or]
theorem QH{q:AD}(hF:De q)(hR:Ah q)(hS:DI q)(e:X8)(b:List X2):aNj q.symbols.length (((List.range q.symbols.length).filterMap fun i=>I2 q i e).filter fun h=>Dt h.bind b):=by
 have hsy:=hF.symbols;have hmem: ∀h∈(List.range q.symbols.length).filterMap (fun i=>I2 q i e),∃i,i<q.symbols.length/\I2 q i e=some h:=fun h hh=>by obtain⟨i,hi,hh⟩:=List.mem_filterMap.1 hh;exact⟨i,List.mem_range.1 hi,hh⟩
 refine⟨⟨fun h hh=> ?_, ?_, ?_⟩,fun h hh=> ?_⟩;obtain⟨i,_,hi⟩:=hmem h (List.mem_filter.1 hh).1;exact Wd hR hS hi;refine List.Pairwise.filter _ ?_;rw [List.pairwise_filterMap];refine List.Pairwise.imp ?_ (List.pairwise_lt_range (n:=q.symbols.length));intro i j hij a ha c hc;have h1:=(Lt ha).1;have h2:=(Lt hc).1;omega;have h1:=List.length_filter_le (fun h:Ao=>Dt h.bind b) ((List.range q.symbols.length).filterMap fun i=>I2 q i e);have h2:=List.length_filterMap_le (fun i=>I2 q i e) (List.range q.symbols.length);rw [List.length_range]at h2;omega;obtain⟨i,hi,hh⟩:=hmem h (List.mem_filter.1 hh).1;have:=(Lt hh).1;omega

theorem HQ(l:List X0)(v:X0)(hl:l.length<=1000000):Q0 l v=some (decide (v∈l)):=by
 have hloop:aFs l (l.length:Int) v 0=some (if(l.any fun t=>decide (v=t))=true then .inr ((l.findIdx fun t=>decide (v=t):Nat):Int)else .inl ()):=by unfold aFs;refine Dh (step:=fun s=>Ic l (l.length:Int) v s) l (fun t=>decide (v=t)) (fun i x hx=> ?_) ?_;simp only [Ic,ltD hx,AI,AP hx,X0.eqb_dec,An hx (show l.length<=9223372036854775807 by omega)];by_cases h:v=x<;>simp [h,AE];simp only [Ic,ltI,AH]
 have hany:(l.any fun t=>decide (v=t))=decide (v∈l):=by rw [Bool.eq_iff_iff,List.any_eq_true];simp
 unfold Q0 Z8;rw [hloop,AB,hany];by_cases h:v∈l;simp only [h,decide_true,if_true,EC,AB];simp;simp only [h,decide_false,Bool.false_eq_true,if_false,CT,AB];rfl
theorem FI{w:List X0}{x v:X0}:v∈Md w x↔v=x\/v∈w:=by unfold Md;by_cases h:x∈w;rw [if_pos h];exact⟨.inr,fun hh=>hh.elim (fun e=>e▸h) id⟩;rw [if_neg h];simp only [ma,mc,List.mem_filter];cases ltV v x<;>simp<;>constructor<;>(intro hh;rcases hh with a|b<;>simp_all)
theorem RO{x:X0}:Zm x=some (true,[x]):=by
 have hb:Y3 ([]:List X0) x ([]:List X0)=some (0,false):=by unfold Y3 aDo;rw [Aj];simp [Gd,UM,AE,AJ,CU]
 unfold Zm aF5 U0 aP1;rw [hb];simp [AJ,AE,fit]
theorem aNf{w:List X0}(h:w.length<=1000):Qb w=some (w,w):=by unfold Qb U1 Oq;rw [if_pos (Bw (by omega) (by decide))];rfl



theorem Gr{α β τ:Type}{step:β×Int->Option (β×Int⊕τ)}(l:List α)(f:β->α->β)(fin:β->τ)(I:Nat->β->Prop)
 (h1: ∀(i:Nat) x w,l[i]? =some x->I i w->step (w,(i:Int))=some (.inl (f w x,((i+1:Nat):Int)))/\I (i+1) (f w x))
 (h2: ∀w,I l.length w->step (w,(l.length:Int))=some (.inr (fin w))) (w:β) (h0:I 0 w):AR step (w,0)=some (fin (l.foldl f w)):=by
 have h:=Et (step:=step) l (fun i w=>(w,(i:Int))) (fun _ w x=>(.inl (f w x):β⊕τ)) fin I (fun i x w hx hI=>⟨(h1 i x w hx hI).1,fun w' hw=>by cases hw;exact(h1 i x w hx hI).2⟩) h2 (l.length+1) 0 w (by omega) (by omega) h0
 rw [show(w,(0:Int))=(w,((0:Nat):Int))from rfl,h,List.drop_zero]
 congr 1
 clear h h1 h2 h0
 generalize 0=i
 revert i w
 induction l with
 |nil=>intro w i;rfl
 |cons x xs ih=>intro w i;rw [No];exact ih _ _
def Jq(k:Int)(w:List X0)(a:CE):List X0:=if a.kind=1/\a.value.kind=k then Md w a.value else w
def DV(q:AD)(k:Int):List X0:=q.symbols.foldl (fun w s=>s.args.foldl (Jq k) w) (if k=3 then [X0.mk 3 0 [] false,X0.mk 3 0 [] true]else [])
theorem Ix{α β:Type}(I:Nat->β->Prop)(f:β->α->β): ∀(l:List α) (i:Nat) (w:β),(∀(j:Nat) x w,x∈l->I j w->I (j+1) (f w x))->I i w->I (i+l.length) (l.foldl f w)
 |[],i,w,_,h0=>h0
 |x::l,i,w,h,h0=>by
  rw [List.foldl_cons,List.length_cons,show i+(l.length+1)=(i+1)+l.length by omega];exact Ix I f l (i+1) _ (fun j y w hy=>h j y w (List.mem_cons_of_mem _ hy)) (h i x w (by simp) h0)
theorem Mk(k:Int):SW (if k=3 then [X0.mk 3 0 [] false,X0.mk 3 0 [] true]else []):=by
 split;refine⟨?_, ?_⟩;simp [ltV];intro v hv;simp only [mc,List.not_mem_nil,or_false]at hv;rcases hv with rfl|rfl<;>decide
 exact⟨List.Pairwise.nil,by simp⟩
theorem Kf{k:Int}{w:List X0}{a:CE}{n:Nat}(ha:a.kind=1->vR a.value=true)(hw:SW w)(hl:w.length<=n):SW (Jq k w a)/\(Jq k w a).length<=n+1:=by unfold Jq;split;rename_i h;have:=LI hw (ha h.1);refine⟨this.1, ?_⟩;rw [this.2];split<;>omega;exact⟨hw,by omega⟩
theorem Kg{q:AD}(hF:De q)(hR:Ah q){s:X3}(hs:s∈q.symbols){k:Int}{w:List X0}{n:Nat}(hw:SW w)(hl:w.length<=n):SW (s.args.foldl (Jq k) w)/\(s.args.foldl (Jq k) w).length<=n+12:=by have h:=Ix (fun i w=>SW w/\w.length<=n+i) (Jq k) s.args 0 w (fun j a w ha hI=>Kf ((hR.symbols s hs).args a ha).one hI.1 hI.2) ⟨hw,by omega⟩;have:=hF.args s hs;exact⟨h.1,by omega⟩
theorem cons_inv{q:AD}(hF:De q)(hR:Ah q)(k:Int):SW (DV q k)/\(DV q k).length<=200:=by
 have h:=Ix (fun i w=>SW w/\w.length<=2+12*i) (fun w s=>s.args.foldl (Jq k) w) q.symbols 0 (if k=3 then [X0.mk 3 0 [] false,X0.mk 3 0 [] true]else [])
  (fun j s w hs hI=>by have:=Kg hF hR hs (k:=k) hI.1 hI.2;exact⟨this.1,by omega⟩) ⟨Mk k,by split<;>simp⟩
 have:=hF.symbols;exact⟨h.1,by unfold DV;omega⟩
theorem aRl{q:AD}(hF:De q)(hR:Ah q)(k:Int):Xk q k=some (DV q k):=by
 have hsy:=hF.symbols;have hb:S9 k (decide (k=3)) q=some (if k=3 then [X0.mk 3 0 [] false,X0.mk 3 0 [] true]else []):=by unfold S9 Qa;rw [Db];split;simp only [AB,RO];rw [LG (w:=[X0.mk 3 0 [] false]) ⟨by simp,by simp;decide⟩ (by decide) (by simp)];rfl;rfl
 have hin: ∀(s:X3) (i:Int) (w:List X0),s∈q.symbols->SW w->w.length<=200->aBm k q.symbols (q.symbols.length:Int) i s.args (s.args.length:Int) 0 w=some (s.args.foldl (Jq k) w):=by intro s i w hs hw hl;have ha:=hF.args s hs;unfold aBm;refine DX (step:=fun z:Int×List X0=>Hu k q.symbols (q.symbols.length:Int) i s.args (s.args.length:Int) z.1 z.2) s.args (Jq k) id (fun j w=>SW w/\w.length<=200+j) (fun j a w hx hI=> ?_) (fun w _=> ?_) w ⟨hw,by omega⟩;have hv:=((hR.symbols s hs).args a (List.mem_of_getElem? hx)).one;have hlt:=(List.getElem?_eq_some_iff.1 hx).1;refine⟨?_,Kf hv hI.1 hI.2⟩;simp only [Hu,ltD hx,AI,aBj,AP hx,An hx (show s.args.length<=9223372036854775807 by omega),TA];unfold Jq;by_cases h1:a.kind=1<;>by_cases h2:a.value.kind=k;rw [Db,if_pos h1,Db,if_pos h2,if_pos ⟨h1,h2⟩,LG hI.1 (hv h1) (by have:=hI.2;omega)];rfl;rw [Db,if_pos h1,Db,if_neg h2,if_neg (fun h=>h2 h.2)];rfl;rw [Db,if_neg h1,if_neg (fun h=>h1 h.1)];rfl;rw [Db,if_neg h1,if_neg (fun h=>h1 h.1)];rfl;simp only [Hu,ltI,AH,id]
 unfold Xk Qt aJw;rw [AB,hb,AB,DX (step:=fun z:Int×List X0=>Ht k q.symbols (q.symbols.length:Int) z.1 z.2) q.symbols (fun w s=>s.args.foldl (Jq k) w) id (fun j w=>SW w/\w.length<=2+12*j)
  (fun j s w hx hI=>by have hs:=List.mem_of_getElem? hx;have hlt:=(List.getElem?_eq_some_iff.1 hx).1;have:=Kg hF hR hs (k:=k) hI.1 hI.2;refine⟨?_,this.1,by omega⟩;simp only [Ht,ltD hx,AI,AP hx,An hx (show q.symbols.length<=9223372036854775807 by omega)];rw [hin s _ w hs hI.1 (by have:=hI.2;omega)];rfl)
  (fun w _=>by simp only [Ht,ltI,AH,id]) _ ⟨Mk k,by split<;>simp⟩,AB]
 have hc:=cons_inv hF hR k;show AJ (Qb (DV q k)) _=_;rw [aNf (by omega)];rfl
theorem aN2{q:AD}(hF:De q)(hR:Ah q)(k:Int):Xj q k=some (DV q k):=by
 have hsy:=hF.symbols;have hb:S1 k (decide (k=3)) q=some (if k=3 then [X0.mk 3 0 [] false,X0.mk 3 0 [] true]else []):=by unfold S1;rw [Db];split<;>rfl
 have hin: ∀(s:X3) (i:Nat) (w:List X0),q.symbols[i]? =some s->SW w->w.length<=200->aBg k (i:Int) q w 0=some (s.args.foldl (Jq k) w):=by intro s i w hxs hw hl;have hs:=List.mem_of_getElem? hxs;have ha:=hF.args s hs;unfold aBg;refine Gr (step:=fun z:List X0×Int=>Hs k (i:Int) q z.1 z.2) s.args (Jq k) id (fun j w=>SW w/\w.length<=200+j) (fun j a w hx hI=> ?_) (fun w _=> ?_) w ⟨hw,by omega⟩;have hv:=((hR.symbols s hs).args a (List.mem_of_getElem? hx)).one;have hlt:=(List.getElem?_eq_some_iff.1 hx).1;refine⟨?_,Kf hv hI.1 hI.2⟩;simp only [Hs,AP hxs,ltD hx,AI,aBd,AP hx,An hx (show s.args.length<=9223372036854775807 by omega),S4];unfold Jq;by_cases h1:a.kind=1<;>by_cases h2:a.value.kind=k;rw [Db,if_pos h1,Db,if_pos h2,if_pos ⟨h1,h2⟩,aEj hI.1 (hv h1) (by have:=hI.2;omega)];rfl;rw [Db,if_pos h1,Db,if_neg h2,if_neg (fun h=>h2 h.2)];rfl;rw [Db,if_neg h1,if_neg (fun h=>h1 h.1)];rfl;rw [Db,if_neg h1,if_neg (fun h=>h1 h.1)];rfl;simp only [Hs,AP hxs,ltI,AH,id]
 unfold Xj aJv;rw [hb,AB,Gr (step:=fun z:List X0×Int=>Hr k q z.1 z.2) q.symbols (fun w s=>s.args.foldl (Jq k) w) id (fun j w=>SW w/\w.length<=2+12*j)
  (fun j s w hx hI=>by have hs:=List.mem_of_getElem? hx;have hlt:=(List.getElem?_eq_some_iff.1 hx).1;have:=Kg hF hR hs (k:=k) hI.1 hI.2;refine⟨?_,this.1,by omega⟩;simp only [Hr,ltD hx,AI,An hx (show q.symbols.length<=9223372036854775807 by omega)];rw [hin s j w hx hI.1 (by have:=hI.2;omega)];rfl)
  (fun w _=>by simp only [Hr,ltI,AH,id]) _ ⟨Mk k,by split<;>simp⟩,AB]
 rfl
def GC(k:Int)(j:Nat):X0:=if k=1 then⟨k,(j:Int),[],false⟩else⟨k,0,List.replicate j 97,false⟩
theorem aHa{k:Int}{i j:Nat}(h:GC k i=GC k j):i=j:=by
 unfold GC at h;split at h;injection h with _ h2;omega
 injection h with _ _ h3
 have:=congrArg List.length h3;simpa using this
theorem MA(k:Int)(j:Nat):(GC k j).kind=k:=by unfold GC;split<;>rfl
theorem W4{k:Int}{j:Nat}(hk:k=1\/k=2)(hj:j<=1000):vR (GC k j)=true:=by
 unfold GC vR;rcases hk with rfl|rfl
 simp;simp;omega
theorem aIv{α:Type} [DecidableEq α](f:Nat->α)(hf: ∀i j,f i=f j->i=j): ∀(n:Nat) (l:List α),(∀i,i<n->f i∈l)->n<=l.length
 |0,_,_=>Nat.zero_le _
 |n+1,l,h=>by
  have hm:=h n (by omega);have:=aIv f hf n (l.erase (f n)) (fun i hi=>(List.mem_erase_of_ne (fun e=>by have:=hf _ _ e;omega)).2 (h i (by omega)));rw [List.length_erase_of_mem hm]at this;have:0<l.length:=List.length_pos_of_mem hm;omega
theorem aNi{w:List X0}{v:X0}(hw:SW w)(hv:vR v=true)(hl:w.length<=900):Qe w v=some (decide (v∈w)):=by unfold Qe;rw [aEj hw hv hl,AB,(LI hw hv).2];by_cases h:v∈w;simp [h];simp only [h,if_false,decide_false,oe,decide_eq_false_iff_not];omega
theorem MB(k:Int)(j:Nat)(hk:k=1\/k=2)(hj:j<=1000)(l:List X0)(z:X0):UH k l z (GC k j)=some (GC k (j+1))/\UP k l z (GC k j)=some (GC k (j+1)):=by
 unfold UH UP aDc aDr GC;rcases hk with rfl|rfl
 simp only [if_true,decide_true,AI,AB];rw [LP (by omega) (by omega)];simp;simp only [show¬(2:Int)=1 by decide,if_false,decide_false,AH,List.length_replicate];rw [A8 (by simp;omega)];simp [AJ,List.replicate_succ']
theorem O9{k:Int}(hk:k=1\/k=2){l w:List X0}(hl:l.length<=1000)(hw:SW w)(hwl:w.length<=900)(hm: ∀v,v.kind=k->(v∈w↔v∈l))(z:X0): ∀(m j:Nat),j+m<=900->(∃i,j<=i/\i<j+m/\GC k i∉l)-> ∃i,j<=i/\i<j+m/\GC k i∉l/\Pq k l z (GC k j)=some (GC k i)/\UQ k w z (GC k j)=some (GC k i)
 |0,j,_,⟨i,h1,h2,_⟩=>by omega
 |m+1,j,hj,⟨i,h1,h2,h3⟩=>by
  have e1:Q0 l (GC k j)=some (decide (GC k j∈l)):=HQ _ _ (by omega);have e2:Qe w (GC k j)=some (decide (GC k j∈l)):=by rw [aNi hw (W4 hk (by omega)) hwl];simp only [hm _ (MA k j)]
  by_cases h:GC k j∈l;have hne:i≠j:=fun e=>h3 (e▸h);obtain⟨i',a1,a2,a3,a4,a5⟩:=O9 hk hl hw hwl hm z m (j+1) (by omega) ⟨i,by omega,by omega,h3⟩;refine⟨i',by omega,by omega,a3, ?_, ?_⟩;rw [OT];unfold IC;rw [e1,AB];simp only [h,decide_true,AI,(MB k j hk (by omega) l z).1,AB,BE];exact a4;rw [OV];unfold IE;rw [e2,AB];simp only [h,decide_true,AI,(MB k j hk (by omega) w z).2,AB,BE];exact a5;refine⟨j,by omega,by omega,h, ?_, ?_⟩;rw [OT];unfold IC;rw [e1,AB];simp only [h,decide_false,AH,Ad];rw [OV];unfold IE;rw [e2,AB];simp only [h,decide_false,AH,Ad]
def D6(n:Nat)(p:Nat->Bool):Nat:=(List.range n).foldl (fun w i=>if p i=true then w|||2^i else w) 0
theorem Js(n:Nat)(p:Nat->Bool):D6 (n+1) p=if p n=true then D6 n p|||2^n else D6 n p:=by unfold D6;rw [List.range_succ,List.foldl_append];rfl
theorem Er(n:Nat)(p:Nat->Bool)(k:Nat):(D6 n p).testBit k=true↔k<n/\p k=true:=by
 induction n with
 |zero=>simp [D6]
 |succ n ih=>
  rw [Js]
  split
  rename_i h
  rw [Nat.testBit_or,Nat.testBit_two_pow,Bool.or_eq_true,decide_eq_true_eq,ih]
  constructor
  rintro(⟨a,b⟩|rfl)
  exact⟨by omega,b⟩
  exact⟨by omega,h⟩
  rintro⟨a,b⟩
  by_cases hk:n=k
  exact .inr hk
  exact .inl ⟨by omega,b⟩
  rename_i h
  rw [ih]
  constructor
  rintro⟨a,b⟩;exact⟨by omega,b⟩
  rintro⟨a,b⟩
  refine⟨?_,b⟩
  by_cases hk:n=k
  subst hk;exact absurd b h
  omega
theorem HL(n:Nat)(p:Nat->Bool):D6 n p<2^n:=Nat.lt_pow_two_of_testBit _ fun i hi=>by
 cases h:(D6 n p).testBit i with
 |false=>rfl
 |true=>have:=(Er n p i).1 h;omega
theorem Og{a b:Nat}(h: ∀k,a.testBit k=true↔b.testBit k=true):a=b:=Nat.eq_of_testBit_eq fun i=>by rw [Bool.eq_iff_iff];exact h i
theorem L6{step:Int×Int->Option (Int×Int⊕Int)}{n:Nat}(hn:n<=12)(p:Nat->Bool)
 (h1: ∀i w:Nat,i<n->w<4096->step ((w:Int),(i:Int))=some (.inl (((if p i=true then w|||2^i else w:Nat):Int),((i+1:Nat):Int))))
 (h2: ∀w:Nat,step ((w:Int),(n:Int))=some (.inr (w:Int))):AR step (0,0)=some ((D6 n p:Nat):Int):=by
 refine aG4 (fun s=> ∃i:Nat,i<=n/\s=(((D6 i p:Nat):Int),(i:Int))) (fun s=>(n-s.2).toNat) (fun _=>((D6 n p:Nat):Int)) ?_ (0,0) ⟨0,by omega,rfl⟩
 rintro s ⟨i,hi,rfl⟩
 by_cases he:i=n
 subst he;exact .inl (h2 _)
 have hlt:D6 i p<4096:=Nat.lt_of_lt_of_le (HL i p) (show 2^i<=2^12 from Nat.pow_le_pow_right (by decide) (by omega))
 refine .inr ⟨_,h1 i (D6 i p) (by omega) hlt,⟨i+1,by omega,by rw [Js]⟩, ?_,rfl⟩
 simp only;omega
def RC(b:List X2)(a:CE)(x:X0):Bool:=if a.kind=1 then decide (a.value=x)else if a.kind=2 then decide (D1 b a.n=(x,true))else true
theorem MY{w b:List X2}(h:Dt w b=true){s:X2}(hs:s∈w):D1 b s.var=(s.value,true):=by unfold Dt at h;have:=(List.all_eq_true.1 h) s hs;simpa using this
theorem YH{w b:List X2}{x:X2}:Dt (NS w x) b=true↔D1 b x.var=(x.value,true)/\Dt w b=true:=by unfold Dt;simp only [List.all_eq_true,decide_eq_true_eq,EM];constructor;intro h;exact⟨h x (.inl rfl),fun s hs=>h s (.inr hs)⟩;rintro⟨h1,h2⟩ s (rfl|hs);exact h1;exact h2 s hs
theorem Ow(b:List X2): ∀(al:List CE) (xs:List X0) (bd f:List X2),al.length=xs.length->(∀a∈al,a.kind≠3)->
 ((∃p,HA al xs bd f=some p/\Dt p.1 b=true)↔Dt bd b=true/\ ∀z∈al.zip xs,RC b z.1 z.2=true)
 |[],[],bd,f,_,_=>by simp [HA]
 |[],x::xs,bd,f,h,_=>by simp at h
 |a::al,[],bd,f,h,_=>by simp at h
 |a::al,x::xs,bd,f,hl,hk=>by
  have hl':al.length=xs.length:=by simpa using hl
  have hk': ∀a∈al,a.kind≠3:=fun y hy=>hk y (List.mem_cons_of_mem _ hy);have h3:=hk a (by simp);have ih:=fun bd f=>Ow b al xs bd f hl' hk';rw [HA,List.zip_cons_cons];simp only [List.forall_mem_cons];unfold RC;by_cases k1:a.kind=1;rw [if_pos k1,if_pos k1];by_cases hv:a.value=x;rw [if_pos hv,ih];simp [hv,RC];rw [if_neg hv];simp [hv];rw [if_neg k1,if_neg k1];by_cases k2:a.kind=2;rw [if_pos k2,if_pos k2];unfold MG;by_cases hg:(D1 bd a.n).2=true;simp only [hg,if_true];have hge:D1 bd a.n=((D1 bd a.n).1,true):=by rw [<-hg]
  by_cases hv:(D1 bd a.n).1=x;simp only [hv,if_true];rw [ih];constructor;rintro⟨u,z⟩;have:=MY u (FC hge);simp only [hv]at this;exact⟨u,by simp [this],z⟩;rintro⟨u,_,z⟩;exact⟨u,z⟩;simp only [hv,if_false];constructor;rintro⟨p,hp,_⟩;cases hp;rintro⟨u,z,_⟩;have:=MY u (FC hge);simp only [decide_eq_true_eq]at z;rw [z]at this;exact absurd (by simpa using this.symm) hv;simp only [hg,if_false,Bool.false_eq_true];rw [ih,YH];simp only [decide_eq_true_eq];constructor;rintro⟨⟨h1,h2⟩,z⟩;exact⟨h2,h1,z⟩;rintro⟨h2,h1,z⟩;exact⟨⟨h1,h2⟩,z⟩;rw [if_neg k2,if_neg h3,if_neg k2,ih];simp [RC]
def NQ(q:AD)(b:List X2)(d:Nat)(args:List X0)(i:Nat):Bool:=match q.symbols[i]? with
 |some s=>decide (s.event=(d:Int))&&(s.args.zip args).all fun z=>RC b z.1 z.2
 |none=>false
def mkM(q:AD)(b:List X2)(d:Nat)(args:List X0):Nat:=D6 q.symbols.length (NQ q b d args)
theorem QU{q:AD}(hR:Ah q)(hS:DI q){s:X3}(hs:s∈q.symbols): ∀a∈s.args,a.kind≠3:=fun a ha h=>by have:=((hR.symbols s hs).args a ha).three h;rw [hS.frees]at this;simp at this;omega
theorem WV{q:AD}(hR:Ah q){i j:Nat}{d d':Xd}(h1:q.decls[i]? =some d)(h2:q.decls[j]? =some d')(hn:d.name=d'.name):i=j:=by have a1:=hR.decls i d h1;have a2:=hR.decls j d' h2;rw [hn,a2]at a1;exact(Option.some.inj a1).symm
theorem We{q:AD}(hR:Ah q)(hS:DI q)(b:List X2){e:X8}{d i:Nat}{dd:Xd}(hd:q.decls[d]? =some dd)(hn:e.name=dd.name)(hl:e.args.length=dd.types.length):
 (∃h,I2 q i e=some h/\Dt h.bind b=true)↔NQ q b d e.args i=true:=by
 unfold I2 NQ
 cases hs:q.symbols[i]? with
 |none=>simp
 |some s=>
  have hsm:=List.mem_of_getElem? hs
  obtain⟨d',hd',hlen⟩:=(hR.symbols s hsm).decl
  have h0:=(hR.symbols s hsm).event
  simp only [hd',ba,decide_eq_true_eq]
  by_cases he:s.event=(d:Int)
  have:s.event.toNat=d:=by omega
  rw [this,hd]at hd'
  cases hd'
  rw [if_pos ⟨hn.symm,by omega⟩]
  have:=Ow b s.args e.args [] [] (by omega) (QU hR hS hsm)
  rw [List.all_eq_true]
  constructor
  rintro⟨h,hh,hu⟩
  obtain⟨p,hp,rfl⟩:=om.1 hh
  exact⟨he,(this.1 ⟨p,hp,hu⟩).2⟩
  rintro⟨_,hz⟩
  obtain⟨p,hp,hu⟩:=this.2 ⟨by simp [Dt],hz⟩
  exact⟨_,by rw [hp];rfl,hu⟩
  constructor
  rintro⟨h,hh,_⟩
  split at hh
  rename_i hc
  have:=WV hR hd' hd (by rw [hc.1,hn])
  omega
  cases hh
  rintro⟨h,_⟩;exact absurd h he
theorem aMl{q:AD}(hF:De q)(hR:Ah q)(hS:DI q)(b:List X2){e:X8}{d:Nat}{dd:Xd}(hd:q.decls[d]? =some dd)(hn:e.name=dd.name)(hl:e.args.length=dd.types.length):
 Yy (((List.range q.symbols.length).filterMap fun i=>I2 q i e).filter fun h=>Dt h.bind b)=some ((mkM q b d e.args:Nat):Int):=by
 obtain⟨M,hM,_,hb⟩:=aI9 hF.symbols (QH hF hR hS e b)
 rw [hM]
 congr 2
 apply Og
 intro k
 rw [hb]
 unfold mkM
 rw [Er]
 simp only [List.mem_filter,List.mem_filterMap,List.mem_range]
 constructor
 rintro⟨h,⟨⟨i,hi,hh⟩,hu⟩,hk⟩
 have hik:i=k:=by have:=(Lt hh).1;omega
 subst hik
 exact⟨hi,(We hR hS b hd hn hl).1 ⟨h,hh,hu⟩⟩
 rintro⟨hk,hf⟩
 obtain⟨h,hh,hu⟩:=(We hR hS b hd hn hl).2 hf
 exact⟨h,⟨⟨k,hk,hh⟩,hu⟩,(Lt hh).1⟩
theorem aPg{q:AD}(hF:De q)(d:Nat):Yf q (d:Int)=some ((mkM q [] d []:Nat):Int):=by
 have hsy:=hF.symbols;have h:=L6 (step:=fun s:Int×Int=>IL (d:Int) q.symbols (q.symbols.length:Int) s.1 s.2) hsy (NQ q [] d []) (fun i w hi hw=>by
  obtain⟨x,hx,_⟩:=Aa hi;have hwi:IntKind.wrap .u64 (i:Int)=(i:Int):=At (by omega);simp only [IL,ltD hx,AI,aEl,AP hx,aEn,hwi,A8 (show(0:Int)<=(i:Int) by omega),An hx (show q.symbols.length<=9223372036854775807 by omega)];unfold NQ;rw [hx];by_cases he:x.event=(d:Int);simp only [he,decide_true,AI,AB,List.zip_nil_right,List.all_nil,Bool.and_self,if_true];rw [aHm (by omega),orU (by omega) (Nat.lt_of_lt_of_le (Nat.pow_lt_pow_right (by decide) (show i<12 by omega)) (by decide))];simp only [he,decide_false,AH,AB,Bool.false_and,Bool.false_eq_true,if_false]) (fun w=>by
  simp only [IL,ltI,AH])
 unfold Yf aKl;rw [h,AB];rfl
theorem aNh(b:List X2)(v:Int)(hb:b.length<=1000):Z9 b v=some (D1 b v):=by
 have hl:=D9 (step:=fun s=>Id v b (b.length:Int) zV s) b (fun _ t=>if t.var=v then some (Sum.inr t.value:Unit⊕X0)else none) (.inl ())
  (fun i x hx=>by simp only [Id,ltD hx,AI,AP hx,An hx (show b.length<=9223372036854775807 by omega)];by_cases h:x.var=v<;>simp [h,AE]) (by simp only [Id,ltI,AH])
 unfold Z9 aK5;have hz:(X0.mk 0 0 ([]:List UInt8) false)=zV:=rfl;rw [hz,hl,AB,DY (fun t:X2=>if t.var=v then some (Sum.inr t.value:Unit⊕X0)else none)]
 unfold D1;have:(b.findSome? fun t=>if t.var=v then some (Sum.inr t.value:Unit⊕X0)else none)=(b.findSome? fun s=>if s.var=v then some s.value else none).map Sum.inr:=by
  clear hl hb;induction b with
  |nil=>rfl
  |cons x b ih=>
   rw [List.findSome?_cons,List.findSome?_cons]
   by_cases h:x.var=v
   simp [h]
   simp only [h,if_false];exact ih
 rw [this];cases(b.findSome? fun s=>if s.var=v then some s.value else none)<;>rfl
theorem aMa(p:Xp)(a:CE)(x:X0)(hb:p.b.length<=1000):Qo p a x=some (RC p.b a x):=by
 unfold Qo RC;rw [aNh _ _ hb];by_cases k1:a.kind=1;simp [k1,AE,X0.eqb_dec];by_cases k2:a.kind=2;simp only [k2,decide_true,AI,if_true,show¬(2:Int)=1 by decide,decide_false,AH,if_false,AB];cases hg:D1 p.b a.n with
 |mk v f=>cases f with
  |true=>simp [AE,X0.eqb_dec]
  |false=>simp [AE]
 simp [k1,k2,AE]
def HF(q:AD)(b:List X2)(d k:Nat)(v:X0)(i:Nat):Bool:=match q.symbols[i]? with
 |some s=>decide (s.event=(d:Int))&&(match s.args[k]? with
  |some a=>RC b a v
  |none=>false)
 |none=>false
theorem aM1{q:AD}(hF:De q)(hR:Ah q){b:List X2}(hb:b.length<=1000){d k:Nat}{dd:Xd}(hd:q.decls[d]? =some dd)(hk:k<dd.types.length)(v:X0):
 Y9 (Xp.mk q b (d:Int) (k:Int)) v=some ((D6 q.symbols.length (HF q b d k v):Nat):Int):=by
 have hsy:=hF.symbols
 have h:=L6 (step:=fun s:Int×Int=>II q.symbols (q.symbols.length:Int) (Xp.mk q b (d:Int) (k:Int)) v s.1 s.2) hsy (HF q b d k v) (fun i w hi hw=>by
  obtain⟨x,hx,_⟩:=Aa hi;have hwi:IntKind.wrap .u64 (i:Int)=(i:Int):=At (by omega);have hxm:=List.mem_of_getElem? hx;simp only [II,ltD hx,AI,aD6,AP hx,Ua,hwi,A8 (show(0:Int)<=(i:Int) by omega),An hx (show q.symbols.length<=9223372036854775807 by omega)];unfold HF;rw [hx];by_cases he:x.event=(d:Int);obtain⟨d',hd',hlen⟩:=(hR.symbols x hxm).decl;have:x.event.toNat=d:=by omega
  rw [this,hd]at hd';cases hd';obtain⟨a,ha,_⟩:=Aa (l:=x.args) (i:=k) (by omega);simp only [he,decide_true,AI,AP ha,ha,Bool.true_and];rw [aMa (Xp.mk q b (d:Int) (k:Int)) a v hb,AB];cases RC b a v with
  |true=>
   simp only [AI,if_true,AB]
   rw [aHm (by omega),orU (by omega) (Nat.lt_of_lt_of_le (Nat.pow_lt_pow_right (by decide) (show i<12 by omega)) (by decide))]
  |false=>simp only [AH,Bool.false_eq_true,if_false,AB]
  simp only [he,decide_false,AH,AB,Bool.false_and,Bool.false_eq_true,if_false]) (fun w=>by
  simp only [II,ltI,AH])
 unfold Y9 aKh
 simp only
 rw [h,AB]
theorem YL{α β:Type}: ∀{al:List α} {xs:List β} {a:α} (v:β),al[xs.length]? =some a->al.zip (xs++[v])=al.zip xs++[(a,v)]
 |a::al,[],_,v,h=>by simp at h;subst h;simp
 |[],xs,_,v,h=>by simp at h
 |a::al,x::xs,a',v,h=>by
  simp only [List.length_cons,List.getElem?_cons_succ]at h;simp [YL v h]
theorem Wy{q:AD}(hR:Ah q){b:List X2}{d:Nat}{dd:Xd}(hd:q.decls[d]? =some dd){args:List X0}(hk:args.length<dd.types.length)(v:X0):
 mkM q b d args&&&D6 q.symbols.length (HF q b d args.length v)=mkM q b d (args++[v]):=by
 apply Og
 intro k
 unfold mkM
 rw [Nat.testBit_and,ba,Er,Er,Er]
 unfold NQ HF
 cases hs:q.symbols[k]? with
 |none=>simp
 |some s=>
  have hxm:=List.mem_of_getElem? hs
  simp only [ba,decide_eq_true_eq]
  by_cases he:s.event=(d:Int)
  obtain⟨d',hd',hlen⟩:=(hR.symbols s hxm).decl
  have:s.event.toNat=d:=by omega
  rw [this,hd]at hd';cases hd'
  obtain⟨a,ha,_⟩:=Aa (l:=s.args) (i:=args.length) (by omega)
  rw [YL v ha,List.all_append,ha]
  simp [he]
  constructor
  rintro⟨⟨h1,h2⟩,_,h3⟩;exact⟨h1,h2,h3⟩
  rintro⟨h1,h2,h3⟩;exact⟨⟨h1,h2⟩,h1,h3⟩
  simp [he]
theorem aIq(q:AD)(b:List X2)(d:Nat):mkM q b d []=mkM q [] d []:=by unfold mkM;congr 1;funext i;unfold NQ;cases q.symbols[i]? <;>simp
theorem aNm{k:Int}(hk:k=1\/k=2){l w:List X0}(hl:l.length<=800)(hw:SW w)(hwl:w.length<=900)(hm: ∀v,v.kind=k->(v∈w↔v∈l)): ∃v,Y1 k l=some (v,true)/\Y4 k w=some v/\v∉l/\v.kind=k/\vR v=true:=by
 have hex: ∃i,0<=i/\i<0+(l.length+1)/\GC k i∉l:=by apply Classical.byContradiction;intro hn;have:=aIv (GC k) (fun i j h=>aHa h) (l.length+1) l (fun i hi=>Classical.byContradiction fun h=>hn ⟨i,by omega,by omega,h⟩);omega
 obtain⟨i,_,hi,hni,a4,a5⟩:=O9 hk (by omega) hw hwl hm (X0.mk 0 0 [] false) (l.length+1) 0 (by omega) hex;have h0:GC k 0=X0.mk k 0 [] false:=by unfold GC;split<;>rfl
 rw [h0]at a4 a5;refine⟨GC k i, ?_, ?_,hni,MA k i,W4 hk (by omega)⟩;unfold Y1;rcases hk with rfl|rfl
 simp only [decide_true,Bool.not_true,AH,a4,AB];simp only [show¬(2:Int)=1 by decide,decide_false,decide_true,Bool.not_false,Bool.not_true,AI,AH,a4,AB];unfold Y4;rw [a5,AB]
theorem Is{q:AD}{k:Int}{v:X0}:v∈DV q k↔(k=3/\(v=⟨3,0,[],false⟩\/v=⟨3,0,[],true⟩))\/ ∃s∈q.symbols,∃a∈s.args,a.kind=1/\a.value.kind=k/\v=a.value:=by
 have h1: ∀(l:List CE) (w:List X0),v∈l.foldl (Jq k) w↔v∈w\/ ∃a∈l,a.kind=1/\a.value.kind=k/\v=a.value:=by
  intro l;induction l with
  |nil=>intro w;simp
  |cons a l ih=>
   intro w
   rw [List.foldl_cons,ih]
   have:v∈Jq k w a↔v∈w\/(a.kind=1/\a.value.kind=k/\v=a.value):=by unfold Jq;split;rename_i h;rw [FI];simp [h.1,h.2,or_comm];rename_i h;constructor;exact .inl;rintro(h2|⟨a1,a2,_⟩);exact h2;exact absurd ⟨a1,a2⟩ h
   rw [this]
   constructor
   rintro((h|h)|⟨b,hb,h⟩)
   exact .inl h
   exact .inr ⟨a,by simp,h⟩
   exact .inr ⟨b,List.mem_cons_of_mem _ hb,h⟩
   rintro(h|⟨b,hb,h⟩)
   exact .inl (.inl h)
   rcases mc.1 hb with rfl|hb
   exact .inl (.inr h)
   exact .inr ⟨b,hb,h⟩
 have h2: ∀(l:List X3) (w:List X0),v∈l.foldl (fun w s=>s.args.foldl (Jq k) w) w↔v∈w\/ ∃s∈l,∃a∈s.args,a.kind=1/\a.value.kind=k/\v=a.value:=by
  intro l;induction l with
  |nil=>intro w;simp
  |cons a l ih=>
   intro w
   rw [List.foldl_cons,ih,h1]
   constructor
   rintro((h|h)|⟨b,hb,h⟩)
   exact .inl h
   exact .inr ⟨a,by simp,h⟩
   exact .inr ⟨b,List.mem_cons_of_mem _ hb,h⟩
   rintro(h|⟨b,hb,h⟩)
   exact .inl (.inl h)
   rcases mc.1 hb with rfl|hb
   exact .inl (.inr h)
   exact .inr ⟨b,hb,h⟩
 unfold DV;rw [h2];by_cases hk:k=3;simp [hk];simp [hk]
theorem QC{q:AD}{k:Int}{v:X0}(h:v∈DV q k):v.kind=k:=by
 rcases Is.1 h with⟨rfl,rfl|rfl⟩|⟨s,_,a,_,_,hk,rfl⟩
 rfl;rfl;exact hk
theorem RJ{l:List X0}(hl:l.length<=1000):Xi [l,[]]=some l:=by
 have h1:Su [l,[]] [l,[]] 2 0 0=some (l.length:Int):=by
  rw [KL];unfold GS Sr Ss;rw [show decide ((0:Int)<2)=true from rfl,AI,Wg,LP (a:=0) (b:=(l.length:Int)) (by omega) (by omega),decide_eq_false (by omega),AH,AB,AB,BE];simp only;rw [KL];unfold GS Sr Ss;have e1:AA .add .i64 0 1=1:=LP (a:=0) (b:=1) (by omega) (by omega);have e2:AA .add .i64 1 1=2:=LP (a:=1) (b:=1) (by omega) (by omega);rw [e1,show decide ((1:Int)<2)=true from rfl,AI,aIm];have e3:AA .add .i64 (0+(l.length:Int)) (([]:List X0).length:Int)=(l.length:Int):=by rw [LP (by simp<;>omega) (by simp<;>omega)];simp
  rw [e3,decide_eq_false (by omega),AH,AB,AB,BE,e2];simp only;rw [KL];unfold GS;rw [show decide ((2:Int)<2)=false from rfl,AH,Ad]
 have h2:Sx [l,[]] 2 0 []=some l:=by have e1:AA .add .i64 0 1=1:=LP (a:=0) (b:=1) (by omega) (by omega);have e2:AA .add .i64 1 1=2:=LP (a:=1) (b:=1) (by omega) (by omega);rw [KM];unfold GT;rw [show decide ((0:Int)<2)=true from rfl,AI,Wg,A8 (Bw (by simp;omega) (by decide)),BE,e1];simp only [List.nil_append];rw [KM];unfold GT;rw [show decide ((1:Int)<2)=true from rfl,AI,aIm,A8 (Bw (by simp;omega) (by decide)),BE,e2];simp only [List.append_nil];rw [KM];unfold GT;rw [show decide ((2:Int)<2)=false from rfl,AH,Ad]
 unfold Xi;have hln:(([l,[]]:List (List X0)).length:Int)=2:=rfl;rw [hln,h1,AB];have hg:Qv (l.length:Int)=some []:=by unfold Qv aGs;rw [if_pos ⟨by omega,by simp;omega,by omega⟩]
 rw [hg,AB,h2,AB]
def LA(t:Int)(w:List X0)(s:X2):List X0:=if s.value.kind=t/\s.value∉w then w++[s.value]else w
def JX(t:Int)(w:List X0)(s:X2):List X0:=if s.value.kind=t then Md w s.value else w
theorem Oj(t:Int)(v:X0): ∀(b:List X2) (w:List X0),v∈b.foldl (LA t) w↔v∈w\/ ∃s∈b,s.value=v/\v.kind=t
 |[],w=>by simp
 |s::b,w=>by
  rw [List.foldl_cons,Oj t v b];have:v∈LA t w s↔v∈w\/(s.value=v/\v.kind=t):=by unfold LA;split;rename_i h;simp only [ma,List.mem_singleton];constructor;rintro(h2|rfl);exact .inl h2;exact .inr ⟨rfl,h.1⟩;rintro(h2|⟨rfl,_⟩);exact .inl h2;exact .inr rfl;rename_i h;constructor;exact .inl;rintro(h2|⟨rfl,h3⟩);exact h2;exact Classical.byContradiction fun hn=>h ⟨h3,hn⟩
  rw [this];simp only [mc,exists_eq_or_imp];rw [or_assoc]
theorem E4(t:Int)(v:X0): ∀(b:List X2) (w:List X0),v∈b.foldl (JX t) w↔v∈w\/ ∃s∈b,s.value=v/\v.kind=t
 |[],w=>by simp
 |s::b,w=>by
  rw [List.foldl_cons,E4 t v b];have:v∈JX t w s↔v∈w\/(s.value=v/\v.kind=t):=by unfold JX;split;rename_i h;rw [FI];constructor;rintro(rfl|h2);exact .inr ⟨rfl,h⟩;exact .inl h2;rintro(h2|⟨rfl,_⟩);exact .inr h2;exact .inl rfl;rename_i h;constructor;exact .inl;rintro(h2|⟨rfl,h3⟩);exact h2;exact absurd h3 h
  rw [this];simp only [mc,exists_eq_or_imp];rw [or_assoc]
theorem WO(t:Int)(w:List X0)(s:X2):(LA t w s).length<=w.length+1:=by unfold LA;split<;>simp
theorem Oi(t:Int): ∀(b:List X2) (w:List X0),(b.foldl (LA t) w).length<=w.length+b.length
 |[],w=>by simp
 |s::b,w=>by
  rw [List.foldl_cons];have h1:=Oi t b (LA t w s);have h2:(LA t w s).length<=w.length+1:=by unfold LA;split<;>simp
  simp only [List.length_cons];omega
theorem Ok{t:Int}: ∀{b:List X2} {w:List X0},(∀s∈b,vR s.value=true)->SW w->SW (b.foldl (JX t) w)/\(b.foldl (JX t) w).length<=w.length+b.length
 |[],w,_,hw=>⟨hw,by simp⟩
 |s::b,w,hb,hw=>by
  rw [List.foldl_cons];have h2:SW (JX t w s)/\(JX t w s).length<=w.length+1:=by unfold JX;split;have:=LI hw (hb s (by simp));exact⟨this.1,by rw [this.2];split<;>omega⟩;exact⟨hw,by omega⟩
  have h1:=Ok (t:=t) (fun s hs=>hb s (List.mem_cons_of_mem _ hs)) h2.1;refine⟨h1.1, ?_⟩;simp only [List.length_cons];omega
theorem vR3{v:X0}(hv:vR v=true)(hk:v.kind=3):v=⟨3,0,[],false⟩\/v=⟨3,0,[],true⟩:=by
 obtain⟨k,i,s,b⟩:=v;simp only at hk;subst hk;rcases HP hv with h|h|h
 simp at h;simp at h;obtain⟨_,h2,h3⟩:=h;simp only at h2 h3;subst h2;subst h3;cases b<;>simp
structure aQ5(q:AD)(b:List X2)(t:Int)(jl rl:List X0):Prop where
 same: ∀v,v∈jl↔v∈rl
 jlen:jl.length<=300
 rlen:rl.length<=300
 kind: ∀v∈rl,v.kind=t/\vR v=true
 whole: ∀v,vR v=true->v.kind=t-> ∃v'∈rl,∀s∈q.symbols,∀a∈s.args,RC b a v'=RC b a v
theorem YK{q:AD}(hF:De q)(hR:Ah q){b:List X2}(hB:BR b){d k:Nat}{dd:Xd}{t:Int}(hd:q.decls[d]? =some dd)(ht:dd.types[k]? =some t)(h13:1<=t/\t<=3):
 ∃jl rl,Y0 (Xp.mk q b (d:Int) (k:Int)) []=some jl/\Y7 q t b []=some rl/\aQ5 q b t jl rl:=by
 have hbl:=RI hB
 have hbv: ∀s∈b,vR s.value=true:=fun s hs=>(hB.2 s hs).2.2
 obtain⟨hcw,hcl⟩:=cons_inv hF hR t
 have hjl:=Oi t b (DV q t)
 have hG:=Ok (t:=t) hbv hcw
 have hmem: ∀v,v∈b.foldl (JX t) (DV q t)↔v∈b.foldl (LA t) (DV q t):=fun v=>by rw [E4,Oj]
 have hkind: ∀v∈b.foldl (JX t) (DV q t),v.kind=t:=fun v hv=>by
  rcases(E4 t v b _).1 hv with h|⟨s,_,_,h⟩
  exact QC h;exact h
 --the program's loop over the binding
 have e1:aC9 [] t b (b.length:Int) 0 (DV q t)=some (b.foldl (LA t) (DV q t)):=by unfold aC9;refine DX (step:=fun s:Int×List X0=>IB [] t b (b.length:Int) s.1 s.2) b (LA t) (fun w=>w) (fun i w=>w.length<=200+i) (fun i x w hx hI=> ?_) (fun w _=>by simp only [IB,ltI,AH]) _ (by omega);have hlt:=(List.getElem?_eq_some_iff.1 hx).1;refine⟨?_,by have:=WO t w x;omega⟩;simp only [IB,ltD hx,AI,aC6,UE,AP hx,An hx (show b.length<=9223372036854775807 by omega)];unfold LA;by_cases h1:x.value.kind=t;rw [Db,if_pos h1,HQ _ _ (by omega),AB];by_cases h2:x.value∈w;rw [decide_eq_true h2,if_neg (fun h=>h.2 h2)];rfl;rw [decide_eq_false h2,if_pos ⟨h1,h2⟩,Bool.not_false,AI,A8 (Bw (by simp;omega) (by decide))];rfl;rw [Db,if_neg h1,if_neg (fun h=>h1 h.1)];rfl
 have e2:aDz t b [] (DV q t) 0=some (b.foldl (JX t) (DV q t)):=by unfold aDz;refine Gr (step:=fun s:List X0×Int=>IG t b [] s.1 s.2) b (JX t) (fun w=>w) (fun i w=>SW w/\w.length<=200+i) (fun i x w hx hI=> ?_) (fun w _=>by simp only [IG,ltI,AH]) _ ⟨hcw,by omega⟩;have hlt:=(List.getElem?_eq_some_iff.1 hx).1;have hxv:=hbv x (List.mem_of_getElem? hx);have hput:=LI hI.1 hxv;refine⟨?_, ?_⟩;simp only [IG,ltD hx,AI,aDv,aDx,AP hx,An hx (show b.length<=9223372036854775807 by omega)];unfold JX;by_cases h1:x.value.kind=t;rw [Db,if_pos h1,if_pos h1,aEj hI.1 hxv (by have:=hI.2;omega)];rfl;rw [Db,if_neg h1,if_neg h1];rfl;unfold JX;split;refine⟨hput.1, ?_⟩;rw [hput.2];have:=hI.2;split<;>omega;exact⟨hI.1,by have:=hI.2;omega⟩
 have eJ:Y0 (Xp.mk q b (d:Int) (k:Int)) []=(AJ (Y1 t (b.foldl (LA t) (DV q t))) fun r11=>AJ (Pp r11.2 (b.foldl (LA t) (DV q t)) r11.1) fun o12=>some o12):=by unfold Y0;simp only;rw [AP hd,AP ht,aRl hF hR,AB,e1,AB,RJ (by omega),AB]
 by_cases h3:t=3
 subst h3
 have hN:Y1 3 (b.foldl (LA 3) (DV q 3))=some (X0.mk 0 0 [] false,false):=by unfold Y1;rfl
 refine⟨_,_,by rw [eJ,hN,AB];unfold Pp;rfl, ?_,fun v=>(hmem v).symm,by omega,by omega,fun v hv=>⟨hkind v hv,hG.1.2 v hv⟩,fun v hv hk=>⟨v, ?_,fun _ _ _ _=>rfl⟩⟩
 unfold Y7
 rw [aN2 hF hR,AB,e2,AB];rfl
 rw [E4]
 exact .inl (Is.2 (.inl ⟨rfl,vR3 hv hk⟩))
 have h12:t=1\/t=2:=by omega
 obtain⟨nv,n1,n2,n3,n4,n5⟩:=aNm h12 (l:=b.foldl (LA t) (DV q t)) (w:=b.foldl (JX t) (DV q t)) (by omega) hG.1 (by omega) (fun v _=>hmem v)
 have hput:=LI hG.1 n5
 refine⟨b.foldl (LA t) (DV q t)++[nv],Md (b.foldl (JX t) (DV q t)) nv, ?_, ?_,fun v=> ?_,by simp;omega,by rw [hput.2];split<;>omega,fun v hv=> ?_,fun v hv hk=> ?_⟩
 rw [eJ,n1,AB]
 unfold Pp
 simp only
 rw [AI,A8 (Bw (by simp;omega) (by decide)),AB]
 unfold Y7
 have hof:Yg [] t=some []:=by unfold Yg;rw [aEt];unfold KQ;rfl
 have hun:Yw (b.foldl (JX t) (DV q t)) []=some (b.foldl (JX t) (DV q t)):=by unfold Yw;rw [aFf];unfold KT;rfl
 rw [aN2 hF hR,AB,e2,AB,decide_eq_false h3,AH,hof,AB,hun,AB,n2,AB,aEj hG.1 n5 (by omega),AB]
 rw [FI,hmem,ma,List.mem_singleton,or_comm]
 rcases FI.1 hv with rfl|h
 exact⟨n4,n5⟩
 exact⟨hkind v h,hG.1.2 v h⟩
 by_cases hin:v∈b.foldl (JX t) (DV q t)
 exact⟨v,FI.2 (.inr hin),fun _ _ _ _=>rfl⟩
 refine⟨nv,FI.2 (.inl rfl),fun s hs a ha=> ?_⟩
 have hnv:nv∉b.foldl (JX t) (DV q t):=fun h=>n3 ((hmem nv).1 h)
 have key: ∀x:X0,(x.kind=t->x∈b.foldl (JX t) (DV q t))->x≠v/\x≠nv:=fun x hx=>by refine⟨fun e=>hin (e▸hx (by rw [e];exact hk)),fun e=>hnv (e▸hx (by rw [e];exact n4))⟩
 unfold RC
 by_cases k1:a.kind=1
 have:=key a.value (fun h=>(E4 t _ b _).2 (.inl (Is.2 (.inr ⟨s,hs,a,ha,k1,h,rfl⟩))))
 rw [if_pos k1,if_pos k1,decide_eq_false this.1,decide_eq_false this.2]
 rw [if_neg k1,if_neg k1]
 by_cases k2:a.kind=2
 rw [if_pos k2,if_pos k2]
 cases hg:D1 b a.n with
 |mk x f=>
  cases f with
  |false=>simp
  |true=>
   have:=key x (fun h=>(E4 t _ b _).2 (.inr ⟨_,FC hg,rfl,h⟩))
   rw [decide_eq_false (fun e=>this.2 (by simpa using e)),decide_eq_false (fun e=>this.1 (by simpa using e))]
 rw [if_neg k2,if_neg k2]
structure KS(S:List (Int×Bool))(P:Nat->Prop):Prop where
 nd:(S.map (·.1)).Nodup
 tr: ∀x∈S,x.2=true
 is: ∀x:Int,x∈S.map (·.1)↔ ∃n:Nat,x=(n:Int)/\P n
theorem W3{α β:Type}(f:α->β): ∀{l:List α},(l.map f).Nodup->l.Nodup
 |[],_=>List.nodup_nil
 |a::l,h=>by
  rw [List.map_cons,List.nodup_cons]at h;exact List.nodup_cons.2 ⟨fun hm=>h.1 (mm.2 ⟨a,hm,rfl⟩),W3 f h.2⟩
theorem KS.perm{S S':List (Int×Bool)}{P:Nat->Prop}(h:KS S P)(h':KS S' P):S.Perm S':=by
 rw [List.perm_ext_iff_of_nodup (W3 _ h.nd) (W3 _ h'.nd)];have key: ∀{A B:List (Int×Bool)},KS A P->KS B P-> ∀a∈A,a∈B:=fun{A B} hA hB a ha=>by obtain⟨b,hb,e⟩:=mm.1 ((hB.is a.1).2 ((hA.is a.1).1 (mm.2 ⟨a,ha,rfl⟩)));have:b=a:=Prod.ext e (by rw [hB.tr b hb,hA.tr a ha]);exact this▸hb
 exact fun a=>⟨key h h' a,key h' h a⟩
theorem KS.of_perm{S S':List (Int×Bool)}{P:Nat->Prop}(h:KS S P)(hp:S'.Perm S):KS S' P:=
 ⟨(hp.map _).nodup_iff.2 h.nd,fun x hx=>h.tr x (hp.mem_iff.1 hx),fun x=>by rw [(hp.map _).mem_iff,h.is]⟩
theorem KS.can{S S':List (Int×Bool)}{P:Nat->Prop}(h:KS S P)(h':KS S' P):aG1 S=aG1 S':=by have h1:=h.of_perm (Ft S);have h2:=h'.of_perm (Ft S');refine List.Perm.eq_of_pairwise (le:=fun a b:Int×Bool=>a.1<=b.1) (fun a b ha hb e1 e2=> ?_) (I6 S) (I6 S') (h1.perm h2);exact Prod.ext (by omega) (by rw [h1.tr a ha,h2.tr b hb])
theorem KS.congr{S:List (Int×Bool)}{P Q:Nat->Prop}(h:KS S P)(hq: ∀n,P n↔Q n):KS S Q:=⟨h.nd,h.tr,fun x=>by rw [h.is];simp only [hq]⟩
theorem KS.nil:KS [] (fun _=>False):=⟨List.nodup_nil,(fun x hx=>by cases hx),fun x=>by simp⟩
theorem JG(k:Int)(v:Bool)(x:Int): ∀S:List (Int×Bool),x∈(F4 k v S).map (·.1)↔x=k\/x∈S.map (·.1)
 |[]=>by simp [F4]
 |y::S=>by
  rw [F4];split;rename_i h;simp [h];rename_i h;simp only [List.map_cons,mc,JG k v x S];constructor;rintro(h|h|h);exact .inr (.inl h);exact .inl h;exact .inr (.inr h);rintro(h|h|h);exact .inr (.inl h);exact .inl h;exact .inr (.inr h)
theorem XD(k:Int)(v:Bool): ∀{S:List (Int×Bool)},(S.map (·.1)).Nodup->((F4 k v S).map (·.1)).Nodup
 |[],_=>by simp [F4]
 |y::S,h=>by
  rw [List.map_cons,List.nodup_cons]at h;rw [F4];split;rename_i e;rw [List.map_cons,List.nodup_cons];exact⟨by rw [<-e];exact h.1,h.2⟩;rename_i e;rw [List.map_cons,List.nodup_cons];refine⟨fun hm=> ?_,XD k v h.2⟩;rcases(JG k v y.1 S).1 hm with h2|h2
  exact e h2;exact h.1 h2
theorem XF(k:Int): ∀{S:List (Int×Bool)},(∀x∈S,x.2=true)-> ∀x∈F4 k true S,x.2=true
 |[],_,x,hx=>by simp [F4]at hx;rw [hx]
 |y::S,h,x,hx=>by
  rw [F4]at hx;split at hx;rcases mc.1 hx with rfl|hx
  rfl;exact h x (List.mem_cons_of_mem _ hx);rcases mc.1 hx with rfl|hx
  exact h _ (by simp);exact XF k (fun z hz=>h z (List.mem_cons_of_mem _ hz)) x hx
theorem KS.put{S:List (Int×Bool)}{P:Nat->Prop}(h:KS S P)(m:Nat):KS (F4 (m:Int) true S) (fun n=>P n\/n=m):=by refine⟨XD _ _ h.nd,XF _ h.tr,fun x=> ?_⟩;rw [JG,h.is];constructor;rintro(rfl|⟨n,rfl,hn⟩);exact⟨m,rfl,.inr rfl⟩;exact⟨n,rfl,.inl hn⟩;rintro⟨n,rfl,hn|rfl⟩;exact .inr ⟨n,rfl,hn⟩;exact .inl rfl
theorem Le(k x:Int): ∀{S:List (Int×Bool)},(S.map (·.1)).Nodup->(x∈(NL k S).map (·.1)↔x≠k/\x∈S.map (·.1))
 |[],_=>by simp [NL]
 |y::S,h=>by
  rw [List.map_cons,List.nodup_cons]at h;rw [NL];split;rename_i e;rw [List.map_cons,mc];constructor;intro hx;exact⟨fun e2=>h.1 (by rw [e,<-e2];exact hx),.inr hx⟩;rintro⟨h1,h2|h2⟩;exact absurd (h2.trans e) h1;exact h2;rename_i e;rw [List.map_cons,mc,List.map_cons,mc,Le k x h.2];constructor;rintro(h1|⟨h1,h2⟩);exact⟨fun e2=>e (h1.symm.trans e2),.inl h1⟩;exact⟨h1,.inr h2⟩;rintro⟨h1,h2|h2⟩;exact .inl h2;exact .inr ⟨h1,h2⟩
theorem Kp(k:Int): ∀(S:List (Int×Bool)),(NL k S).Sublist S
 |[]=>List.Sublist.refl _
 |y::S=>by
  rw [NL];split;exact List.sublist_cons_self _ _;exact(Kp k S).cons_cons y
theorem KS.del{S:List (Int×Bool)}{P:Nat->Prop}(h:KS S P):KS (NL 0 S) (fun n=>P n/\n≠0):=by refine⟨h.nd.sublist ((Kp 0 S).map _),fun x hx=>h.tr x ((Kp 0 S).subset hx),fun x=> ?_⟩;rw [Le 0 x h.nd,h.is];constructor;rintro⟨h1,n,rfl,hn⟩;exact⟨n,rfl,hn,by omega⟩;rintro⟨n,rfl,hn,h0⟩;exact⟨by omega,n,rfl,hn⟩
theorem Lm{α σ:Type}(f:σ->α->σ): ∀(l:List α) (s:σ),EY (fun x s=>some (f s x)) s l=some (l.foldl f s)
 |[],_=>rfl
 |x::l,s=>by rw [EY,AB,List.foldl_cons];exact Lm f l _
theorem KS.fold{P:Nat->Prop}(f:Nat->Nat): ∀{p:List (Int×Bool)} {S:List (Int×Bool)} {Q:Nat->Prop},(∀x∈p,∃n:Nat,x.1=(n:Int)/\P n)->KS S Q->
 KS (p.foldl (fun s x=>F4 ((f x.1.toNat:Nat):Int) true s) S) (fun n=>Q n\/ ∃x∈p,n=f x.1.toNat)
 |[],S,Q,_,h=>h.congr fun n=>by simp
 |x::p,S,Q,hp,h=>by
  rw [List.foldl_cons];refine(KS.fold f (fun y hy=>hp y (List.mem_cons_of_mem _ hy)) (h.put (f x.1.toNat))).congr fun n=> ?_;simp only [mc,exists_eq_or_imp];rw [or_assoc]
theorem Li{S0 S:List (Int×Bool)}{P Q:Nat->Prop}(f:Nat->Nat){c:List (Int×Bool)->List (Int×Bool)}(hc:c=fun s=>aG1 s){step:Int×Bool->List (Int×Bool)->Option (List (Int×Bool))}
 (hs: ∀(n:Nat) (v:Bool) (s:List (Int×Bool)),P n->step ((n:Int),v) s=some (F4 ((f n:Nat):Int) true s)) (h0:KS S0 P) (h:KS S Q):
 ∃S',Fr c S0 step S=some S'/\KS S' (fun n=>Q n\/ ∃m,P m/\n=f m):=by
 have run: ∀p:List (Int×Bool),p.Perm S0->EY step S p=some (p.foldl (fun s x=>F4 ((f x.1.toNat:Nat):Int) true s) S)/\KS (p.foldl (fun s x=>F4 ((f x.1.toNat:Nat):Int) true s) S) (fun n=>Q n\/ ∃m,P m/\n=f m):=fun p hp=>by
  have hk:=h0.of_perm hp;have hx: ∀x∈p,∃n:Nat,x.1=(n:Int)/\P n:=fun x hx=>(hk.is x.1).1 (mm.2 ⟨x,hx,rfl⟩);constructor;rw [<-Lm (fun s x=>F4 ((f x.1.toNat:Nat):Int) true s) p S];clear hp hk;revert hx;generalize S=s;revert s;induction p with
  |nil=>intro s _;rfl
  |cons x p ih=>
   intro s hx
   obtain⟨n,e,hn⟩:=hx x (by simp)
   obtain⟨x1,x2⟩:=x
   simp only at e
   subst e
   rw [EY,EY,hs n x2 s hn]
   exact ih _ fun y hy=>hx y (List.mem_cons_of_mem _ hy)
  refine(KS.fold f hx h).congr fun n=> ?_;constructor;rintro(h1|⟨x,hxp,rfl⟩);exact .inl h1;obtain⟨m,e,hm⟩:=hx x hxp;exact .inr ⟨m,hm,by rw [e];rfl⟩;rintro(h1|⟨m,hm,rfl⟩);exact .inl h1;obtain⟨x,hxp,e⟩:=mm.1 ((hk.is (m:Int)).2 ⟨m,rfl,hm⟩);exact .inr ⟨x,hxp,by rw [e];rfl⟩
 obtain⟨r0,k0⟩:=run S0 (List.Perm.refl _)
 refine⟨aG1 (S0.foldl (fun s x=>F4 ((f x.1.toNat:Nat):Int) true s) S),Lh fun p hp=> ?_,k0.of_perm (Ft _)⟩
 obtain⟨r1,k1⟩:=run p hp
 exact⟨_,r1,by rw [hc];exact k1.can k0⟩
def VS(q:AD)(b:List X2)(t:Int)(v:X0):Prop:= ∃rl,Y7 q t b []=some rl/\v∈rl
def MS(q:AD)(b:List X2)(d:Nat)(dd:Xd)(k n:Nat):Prop:= ∃args:List X0,args.length=k/\(∀(j:Nat) v t,args[j]? =some v->dd.types[j]? =some t->VS q b t v)/\n=mkM q b d args
theorem aI6{q:AD}(hF:De q){b:List X2}{d:Nat}{dd:Xd}{k n:Nat}(h:MS q b d dd k n):n<4096:=by obtain⟨args,_,_,rfl⟩:=h;have:=hF.symbols;exact Nat.lt_of_lt_of_le (HL _ _) (show 2^q.symbols.length<=2^12 from Nat.pow_le_pow_right (by decide) this)
theorem aI8{q:AD}{b:List X2}{d:Nat}{dd:Xd}{n:Nat}:MS q b d dd 0 n↔n=mkM q [] d []:=by constructor;rintro⟨args,hl,_,rfl⟩;rw [List.eq_nil_of_length_eq_zero hl,aIq];rintro rfl;exact⟨[],rfl,(fun j v t h=>by simp at h),(aIq q b d).symm⟩
theorem aI7{q:AD}(hR:Ah q){b:List X2}{d k:Nat}{dd:Xd}{t:Int}(hd:q.decls[d]? =some dd)(ht:dd.types[k]? =some t){n:Nat}:
 MS q b d dd (k+1) n↔ ∃v,VS q b t v/\ ∃m,MS q b d dd k m/\n=m&&&D6 q.symbols.length (HF q b d k v):=by
 have hk:=(List.getElem?_eq_some_iff.1 ht).1
 constructor
 rintro⟨args,hl,hv,rfl⟩
 obtain⟨v,hvk,_⟩:=Aa (l:=args) (i:=k) (by omega)
 have hsplit:args=args.take k++[v]:=by have h1:args.take (k+1)=args:=List.take_of_length_le (by omega);rw [List.take_add_one,hvk]at h1;exact h1.symm
 have hlt:(args.take k).length=k:=by rw [List.length_take];omega
 refine⟨v,hv k v t hvk ht,_,⟨args.take k,hlt,fun j w t' hj ht'=>hv j w t' ?_ ht',rfl⟩, ?_⟩
 rw [hsplit,List.getElem?_append_left ((List.getElem?_eq_some_iff.1 hj).1)];exact hj
 have:=Wy hR (b:=b) hd (args:=args.take k) (by omega) v
 rw [hlt]at this
 rw [this,<-hsplit]
 rintro⟨v,hv,m,⟨args,hl,ha,rfl⟩,rfl⟩
 refine⟨args++[v],by simp [hl],fun j w t' hj ht'=> ?_, ?_⟩
 by_cases hj2:j<args.length
 rw [List.getElem?_append_left hj2]at hj;exact ha j w t' hj ht'
 have hj3:=(List.getElem?_eq_some_iff.1 hj).1
 simp at hj3
 have:j=k:=by omega
 subst this
 rw [<-hl,List.getElem?_append_right (Nat.le_refl _)]at hj
 simp at hj
 subst hj
 rw [ht]at ht';cases ht'
 exact hv
 rw [<-hl];exact Wy hR hd (by omega) v
theorem YF{q:AD}{d:Nat}{dd:Xd}(hT: ∀d∈q.decls,∀t∈d.types,(1:Int)<=t/\t<=3)(hd:q.decls[d]? =some dd){k:Nat}{t:Int}(ht:dd.types[k]? =some t):1<=t/\t<=3:=
 hT dd (List.mem_of_getElem? hd) t (List.mem_of_getElem? ht)
theorem W0{q:AD}(hF:De q)(hR:Ah q)(hT: ∀d∈q.decls,∀t∈d.types,(1:Int)<=t/\t<=3){b:List X2}(hB:BR b){d k:Nat}{dd:Xd}{t:Int}(hd:q.decls[d]? =some dd)(ht:dd.types[k]? =some t){S0:List (Int×Bool)}(h0:KS S0 (MS q b d dd k)):
 ∃S',Xl (Xp.mk q b (d:Int) (k:Int)) S0=some S'/\KS S' (MS q b d dd (k+1)):=by
 have hbl:=RI hB
 have hk:=(List.getElem?_eq_some_iff.1 ht).1
 obtain⟨jl,rl,hj,hr,hV⟩:=YK hF hR hB hd ht (YF hT hd ht)
 have hsy:=hF.symbols
 have hW: ∀v,D6 q.symbols.length (HF q b d k v)<4096:=fun v=>Nat.lt_of_lt_of_le (HL _ _) (show 2^q.symbols.length<=2^12 from Nat.pow_le_pow_right (by decide) hsy)
 obtain⟨S',hS,hK⟩:=BG (step:=fun s:Int×List (Int×Bool)=>Hv jl (jl.length:Int) S0 (Xp.mk q b (d:Int) (k:Int)) s.1 s.2)
  (fun s=> ∃i:Nat,s.1=(i:Int)/\i<=jl.length/\KS s.2 (fun n=> ∃v∈jl.take i,∃m,MS q b d dd k m/\n=m&&&D6 q.symbols.length (HF q b d k v)))
  (fun s=>(jl.length-s.1).toNat)
  (fun S'=>KS S' (fun n=> ∃v∈jl,∃m,MS q b d dd k m/\n=m&&&D6 q.symbols.length (HF q b d k v)))
  (by
   rintro⟨s,S⟩ ⟨i,rfl,hi,hS⟩;simp only at hS⊢;have hjl:=hV.jlen;by_cases he:i=jl.length;subst he;rw [List.take_length]at hS;exact .inl ⟨S,by simp only [Hv,ltI,AH],hS⟩;right;obtain⟨x,hx,_⟩:=Aa (l:=jl) (i:=i) (by omega);obtain⟨S2,e2,k2⟩:=Li (f:=fun m=>m&&&D6 q.symbols.length (HF q b d k x)) (S:=S) (c:=KN ((D6 q.symbols.length (HF q b d k x):Nat):Int) jl (jl.length:Int) (i:Int) S0 (Xp.mk q b (d:Int) (k:Int))) rfl
    (step:=fun(x_1:Int×Bool) (s:List (Int×Bool))=>GW ((D6 q.symbols.length (HF q b d k x):Nat):Int) jl (jl.length:Int) (i:Int) S0 (Xp.mk q b (d:Int) (k:Int)) x_1.1 x_1.2 s)
    (fun n v s hn=>by simp only [GW];have h1:=aI6 hF hn;have h2:=hW x;rw [aTt (by omega) (by omega)]) h0 hS
   refine⟨(((i+1:Nat):Int),S2), ?_,⟨i+1,rfl,by omega,k2.congr fun n=> ?_⟩,by simp only;omega⟩;simp only [Hv,ltD hx,AI,AP hx,An hx (show jl.length<=9223372036854775807 by omega)];rw [aM1 hF hR (by omega) hd hk x,AB];unfold aBo aJy;rw [e2,AB,AB];rw [List.take_add_one,hx];simp only [Option.toList_some,ma,List.mem_singleton];constructor;rintro(⟨v,hv,h⟩|⟨m,hm,h⟩);exact⟨v,.inl hv,h⟩;exact⟨x,.inr rfl,m,hm,h⟩;rintro⟨v,hv|rfl,h⟩;exact .inl ⟨v,hv,h⟩;obtain⟨m,hm,h⟩:=h;exact .inr ⟨m,hm,h⟩)
  ((0:Int),[]) ⟨0,rfl,by omega,KS.nil.congr fun n=>by simp⟩
 refine⟨S', ?_,hK.congr fun n=> ?_⟩
 unfold Xl aJx
 rw [hj,AB,hS,AB]
 rw [aI7 hR hd ht]
 constructor
 rintro⟨v,hv,h⟩;exact⟨v,⟨rl,hr,(hV.same v).1 hv⟩,h⟩
 rintro⟨v,⟨rl',hr',hv⟩,h⟩
 rw [hr]at hr';cases hr'
 exact⟨v,(hV.same v).2 hv,h⟩
def DS(q:AD)(b:List X2)(i n:Nat):Prop:= ∃d dd,d<i/\q.decls[d]? =some dd/\MS q b d dd dd.types.length n
theorem aL5{q:AD}(hF:De q)(hR:Ah q)(hT: ∀d∈q.decls,∀t∈d.types,(1:Int)<=t/\t<=3){b:List X2}(hB:BR b){d:Nat}{dd:Xd}(hd:q.decls[d]? =some dd)(h3:dd.types.length<=8)(s15:Int)(w5:List (Int×Bool)):
 ∃S',aJe b (d:Int) s15 (d:Int) (dd.types.length:Int) q w5 0 (F4 ((mkM q [] d []:Nat):Int) true [])=some S'/\KS S' (MS q b d dd dd.types.length):=by
 obtain⟨S',hS,hK⟩:=BG (step:=fun s:Int×List (Int×Bool)=>HU b (d:Int) s15 (d:Int) (dd.types.length:Int) q w5 s.1 s.2)
  (fun s=> ∃k:Nat,s.1=(k:Int)/\k<=dd.types.length/\KS s.2 (MS q b d dd k)) (fun s=>(dd.types.length-s.1).toNat) (fun S'=>KS S' (MS q b d dd dd.types.length))
  (by rintro⟨s,S⟩ ⟨k,rfl,hk,hS⟩;simp only at hS⊢;by_cases he:k=dd.types.length;subst he;exact .inl ⟨S,by simp only [HU,ltI,AH],hS⟩;right;obtain⟨t,ht,_⟩:=Aa (l:=dd.types) (i:=k) (by omega);obtain⟨S2,e2,k2⟩:=W0 hF hR hT hB hd ht hS;refine⟨(((k+1:Nat):Int),S2), ?_,⟨k+1,rfl,by omega,k2⟩,by simp only;omega⟩;simp only [HU,ltD ht,AI,An ht (show dd.types.length<=9223372036854775807 by omega)];rw [e2,AB])
  ((0:Int),F4 ((mkM q [] d []:Nat):Int) true []) ⟨0,rfl,by omega,(KS.nil.put (mkM q [] d [])).congr fun n=>by rw [aI8];simp⟩
 exact⟨S',hS,hK⟩
theorem aO8{q:AD}(hF:De q)(hR:Ah q)(hT: ∀d∈q.decls,∀t∈d.types,(1:Int)<=t/\t<=3)(h3: ∀d∈q.decls,d.types.length<=3){b:List X2}(hB:BR b):
 ∃S',aJd b (q.decls.length:Int) q 0 []=some S'/\KS S' (DS q b q.decls.length):=by
 have hdl:=hF.decls
 obtain⟨S',hS,hK⟩:=BG (step:=fun s:Int×List (Int×Bool)=>HT b (q.decls.length:Int) q s.1 s.2)
  (fun s=> ∃i:Nat,s.1=(i:Int)/\i<=q.decls.length/\KS s.2 (DS q b i)) (fun s=>(q.decls.length-s.1).toNat) (fun S'=>KS S' (DS q b q.decls.length))
  (by
   rintro⟨s,S⟩ ⟨i,rfl,hi,hS⟩;simp only at hS⊢;by_cases he:i=q.decls.length;subst he;exact .inl ⟨S,by simp only [HT,ltI,AH],hS⟩;right;obtain⟨dd,hd,_⟩:=Aa (l:=q.decls) (i:=i) (by omega);obtain⟨S2,e2,k2⟩:=aL5 hF hR hT hB hd (by have:=h3 dd (List.mem_of_getElem? hd);omega) (q.decls.length:Int) S;obtain⟨S3,e3,k3⟩:=Li (f:=fun m=>m) (S:=S) (c:=KJ b (q.decls.length:Int) (i:Int) q S2) rfl
    (step:=fun(x_1:Int×Bool) (s:List (Int×Bool))=>HV b (q.decls.length:Int) (i:Int) q S2 x_1.1 x_1.2 s) (fun n v s hn=>rfl) k2 hS
   refine⟨(((i+1:Nat):Int),S3), ?_,⟨i+1,rfl,by omega,k3.congr fun n=> ?_⟩,by simp only;omega⟩;simp only [HT,ltD hd,AI,AP hd,An hd (show q.decls.length<=9223372036854775807 by omega)];rw [aPg hF,AB,e2,AB];unfold YW aJf;rw [e3,AB,AB];constructor;rintro(⟨d,d2,h1,h2,h3⟩|⟨m,hm,rfl⟩);exact⟨d,d2,by omega,h2,h3⟩;exact⟨i,dd,by omega,hd,hm⟩;rintro⟨d,d2,h1,h2,h3⟩;by_cases hdi:d=i;subst hdi;rw [hd]at h2;cases h2;exact .inr ⟨n,h3,rfl⟩;exact .inl ⟨d,d2,by omega,h2,h3⟩)
  ((0:Int),[]) ⟨0,rfl,by omega,KS.nil.congr fun n=>⟨fun h=>h.elim,fun⟨d,_,h,_⟩=>by omega⟩⟩
 exact⟨S',hS,hK⟩
structure RS(L:List Int)(P:Nat->Prop):Prop where
 up:L.Pairwise (· < ·)
 is: ∀x:Int,x∈L↔ ∃n:Nat,x=(n:Int)/\P n
theorem RS.uniq{L M:List Int}{P:Nat->Prop}(h:RS L P)(k:RS M P):L=M:=by
 have nd: ∀{A:List Int},A.Pairwise (· < ·)->A.Nodup:=fun h=>h.imp fun h=>by omega
 exact Fi (h.up.imp fun h=>by omega) (k.up.imp fun h=>by omega) ((List.perm_ext_iff_of_nodup (nd h.up) (nd k.up)).2 fun x=>by rw [h.is,k.is])
theorem RS.len{L:List Int}{P:Nat->Prop}{m:Nat}(h:RS L P)(hP: ∀n,P n->n<m):L.length<=m:=by
 have h1:L.Nodup:=h.up.imp fun h=>by omega
 have:=h1.length_le_of_subset (l₂:=(List.range m).map (fun n:Nat=>(n:Int))) fun x hx=>by obtain⟨n,rfl,hn⟩:=(h.is x).1 hx;exact mm.2 ⟨n,List.mem_range.2 (hP n hn),rfl⟩
 simpa using this
def aJc(q:AD)(b:List X2)(n:Nat):Prop:=DS q b q.decls.length n/\n≠0
theorem Ml{q:AD}(hF:De q){b:List X2}{n:Nat}(h:aJc q b n):n<4096:=by obtain⟨⟨d,dd,_,_,hm⟩,_⟩:=h;exact aI6 hF hm
theorem aT7{S:List (Int×Bool)}{P:Nat->Prop}(h:KS S P)(hl:S.length<=4096): ∃w,aJh S []=some w/\w.Perm (S.map (·.1)):=by
 have run: ∀(p:List (Int×Bool)) (w:List Int),p.length+w.length<=4096->EY (fun(x:Int×Bool) (s:List Int)=>FW S x.1 x.2 s) w p=some (w++p.map (·.1)):=by
  intro p;induction p with
  |nil=>intro w _;simp [EY]
  |cons x p ih=>
   intro w hw
   rw [List.length_cons]at hw
   have e:FW S x.1 x.2 w=some (w++[x.1]):=by unfold FW;exact A8 (Bw (by simp;omega) (by decide)) _
   rw [EY,e,AB,ih _ (by simp;omega)]
   simp
 refine⟨aHk (S.map (·.1)),Lh fun p hp=>⟨_,run p [] (by rw [hp.length_eq];simp;omega), ?_⟩,EB _⟩
 show aHk ([]++p.map (·.1))=aHk (S.map (·.1))
 rw [List.nil_append];exact Fi (Eh _) (Eh _) ((EB _).trans ((hp.map _).trans (EB _).symm))
theorem aQ6{q:AD}(hF:De q)(hR:Ah q)(hT: ∀d∈q.decls,∀t∈d.types,(1:Int)<=t/\t<=3)(h3: ∀d∈q.decls,d.types.length<=3){b:List X2}(hB:BR b):
 ∃L,X4 q b=some L/\RS L (aJc q b):=by
 obtain⟨S,e1,k1⟩:=aO8 hF hR hT h3 hB
 have k2:KS (NL 0 S) (aJc q b):=k1.del
 have hlen:(NL 0 S).length<=4096:=by
  have:=k2.nd.length_le_of_subset (l₂:=(List.range 4096).map (fun n:Nat=>(n:Int))) fun x hx=>by obtain⟨n,rfl,hn⟩:=(k2.is x).1 hx;exact mm.2 ⟨n,List.mem_range.2 (Ml hF hn),rfl⟩
  simpa using this
 obtain⟨w,e2,p2⟩:=aT7 k2 hlen
 have hsort:=YV (w:=w) (l:=aHk w) (by rw [p2.length_eq];simp;omega) (Eh w) (EB w)
 refine⟨aHk w, ?_, ?_,fun x=> ?_⟩
 unfold X4
 rw [e1,AB]
 unfold YY
 rw [e2,AB,AB,hsort,AB]
 have hnd:(aHk w).Nodup:=((EB w).trans p2).nodup_iff.2 k2.nd
 exact List.Pairwise.imp (fun h=>by have h1:=h.1;have h2:=h.2;omega) ((Eh w).and hnd)
 rw [((EB w).trans p2).mem_iff,k2.is]
def EvP(q:AD)(b:List X2)(dd:Xd)(args:List X0)(e:X8):Prop:=
 ∃tail:List X0,args.length+tail.length=dd.types.length/\(∀(j:Nat) v t,tail[j]? =some v->dd.types[args.length+j]? =some t->VS q b t v)/\e=X8.mk dd.name (args++tail)
theorem YQ{q:AD}{b:List X2}{dd:Xd}{args:List X0}(hl:args.length=dd.types.length)(e:X8):EvP q b dd args e↔e=X8.mk dd.name args:=by constructor;rintro⟨tail,h1,_,rfl⟩;rw [List.eq_nil_of_length_eq_zero (show tail.length=0 by omega),List.append_nil];rintro rfl;exact⟨[],by simpa using hl,(fun j v t h=>by simp at h),by rw [List.append_nil]⟩
theorem YR{q:AD}{b:List X2}{dd:Xd}{args:List X0}{t:Int}(ht:dd.types[args.length]? =some t)(e:X8):EvP q b dd args e↔ ∃v,VS q b t v/\EvP q b dd (args++[v]) e:=by
 have hk:=(List.getElem?_eq_some_iff.1 ht).1;constructor;rintro⟨tail,h1,h2,rfl⟩;cases tail with
 |nil=>simp at h1;omega
 |cons v tail=>
  refine⟨v,h2 0 v t rfl ht,tail,by simp at h1⊢;omega,fun j w t' hj ht'=> ?_,by simp⟩
  refine h2 (j+1) w t' (by simpa using hj) ?_
  rw [<-ht'];congr 1;simp;omega
 rintro⟨v,hv,tail,h1,h2,rfl⟩;refine⟨v::tail,by simp at h1⊢;omega,fun j w t' hj ht'=> ?_,by simp⟩;cases j with
 |zero=>
  simp at hj ht'
  subst hj
  rw [ht]at ht';cases ht'
  exact hv
 |succ j=>
  refine h2 j w t' (by simpa using hj) ?_
  rw [<-ht'];congr 1;simp;omega
theorem Nk{r:Nat}(h:r<=3):300^r<=27000000:=by
 have:r=0\/r=1\/r=2\/r=3:=by omega
 rcases this with rfl|rfl|rfl|rfl<;>decide
theorem Wa{q:AD}(hF:De q)(hR:Ah q)(hT: ∀d∈q.decls,∀t∈d.types,(1:Int)<=t/\t<=3){b:List X2}(hB:BR b){d:Nat}{dd:Xd}(hd:q.decls[d]? =some dd)(h3:dd.types.length<=3):
 ∀(n r:Nat) (args:List X0),r<n->args.length+r=dd.types.length-> ∃evs,aH4 n q (d:Int) b [] args=some evs/\(∀e,e∈evs↔EvP q b dd args e)/\evs.length<=300^r:=by
 intro n
 induction n with
 |zero=>intro r args h;omega
 |succ n ih=>
  intro r args hr hl
  show∃evs,aN8 (aH4 n) q (d:Int) b [] args=some evs/\_
  unfold aN8
  rw [AP hd]
  cases r with
  |zero=>
   refine⟨[X8.mk dd.name args], ?_,fun e=> ?_,by simp⟩
   rw [decide_eq_true (by omega),AI,AP hd]
   rw [YQ (by omega),List.mem_singleton]
  |succ r=>
   obtain⟨t,ht,_⟩:=Aa (l:=dd.types) (i:=args.length) (by omega)
   obtain⟨jl,rl,_,hrl,hV⟩:=YK hF hR hB hd ht (YF hT hd ht)
   have hc:=Nk (r:=r) (by omega)
   have hp:300^(r+1)=300*300^r:=by rw [Nat.pow_succ,Nat.mul_comm]
   have hlp:300^(r+1)<=27000000:=Nk (by omega)
   obtain⟨evs,e1,e2,e3⟩:=BG (step:=fun s:Int×List X8=>IF (aH4 n) (d:Int) b [] args rl q s.1 s.2)
    (fun s=> ∃i:Nat,s.1=(i:Int)/\i<=rl.length/\(∀e,e∈s.2↔ ∃v∈rl.take i,EvP q b dd (args++[v]) e)/\s.2.length<=i*300^r)
    (fun s=>(rl.length-s.1).toNat) (fun evs=>(∀e,e∈evs↔ ∃v∈rl,EvP q b dd (args++[v]) e)/\evs.length<=rl.length*300^r)
    (by rintro⟨s,w⟩ ⟨i,rfl,hi,hm,hw⟩;simp only at hm hw⊢;by_cases he:i=rl.length;subst he;rw [List.take_length]at hm;exact .inl ⟨w,by simp only [IF,ltI,AH],hm,hw⟩;right;obtain⟨x,hx,_⟩:=Aa (l:=rl) (i:=i) (by omega);obtain⟨ev,f1,f2,f3⟩:=ih r (args++[x]) (by omega) (by simp;omega);have hrlen:=hV.rlen;have hi3:i*300^r<=300*300^r:=Nat.mul_le_mul_right _ (by omega);refine⟨(((i+1:Nat):Int),w++ev), ?_,⟨i+1,rfl,by omega,fun e=> ?_, ?_⟩,by simp only;omega⟩;simp only [IF,ltD hx,AI,AP hx,An hx (show rl.length<=9223372036854775807 by omega),List.nil_append];rw [A8 (Bw (by simp;omega) (by decide)),A8 (Bw (by simp;omega) (by decide)),f1,AB,A8 (Bw (by omega) (by decide))];rw [List.take_add_one,hx,ma,hm,f2];simp only [Option.toList_some,ma,List.mem_singleton];constructor;rintro(⟨v,hv,h⟩|h);exact⟨v,.inl hv,h⟩;exact⟨x,.inr rfl,h⟩;rintro⟨v,hv|rfl,h⟩;exact .inl ⟨v,hv,h⟩;exact .inr h;simp only [List.length_append];rw [Nat.succ_mul];omega)
    ((0:Int),[]) ⟨0,rfl,by omega,fun e=>by simp,by simp⟩
   have e1':aKf (aH4 n) (d:Int) b [] args rl q 0 []=some evs:=e1
   refine⟨evs, ?_,fun e=> ?_, ?_⟩
   rw [decide_eq_false (by omega),AH,AP hd,AP ht,hrl,AB,e1',AB]
   rw [e2,YR ht]
   constructor
   rintro⟨v,hv,h⟩;exact⟨v,⟨rl,hrl,hv⟩,h⟩
   rintro⟨v,⟨rl',h1,hv⟩,h⟩
   rw [hrl]at h1;cases h1
   exact⟨v,hv,h⟩
   have:=hV.rlen
   have h1:rl.length*300^r<=300*300^r:=Nat.mul_le_mul_right _ this
   omega
theorem aPl(L:List Int)(x:Int)(hl:L.length<=5000): ∀k,k<=L.length->(∀i,k<=i->i<L.length->x<ga L i)-> ∃j:Nat,U3 L x (k:Int)=some (j:Int)/\j<=k/\(∀i,j<=i->i<L.length->x<ga L i)/\(0<j->ga L (j-1)<=x):=by
 intro k;induction k with
 |zero=>
  intro hk hg
  refine⟨0, ?_,Nat.le_refl _,hg,fun h=>by omega⟩
  rw [OY]
  unfold IP
  rw [decide_eq_false (by omega),AH,Ad]
 |succ k ih=>
  intro hk hg
  rw [OY]
  unfold IP
  rw [decide_eq_true (by omega),AI,Dj (by omega),Nat.add_sub_cancel,Ek (by omega)]
  by_cases h:x<ga L k
  obtain⟨j,e1,e2,e3,e4⟩:=ih (by omega) (fun i h1 h2=>by by_cases hi:i=k;subst hi;exact h;exact hg i (by omega) h2)
  exact⟨j,by rw [decide_eq_true h,AI,BE];exact e1,by omega,e3,e4⟩
  refine⟨k+1,by rw [decide_eq_false h,AH,Ad],Nat.le_refl _,hg,fun _=> ?_⟩
  rw [Nat.add_sub_cancel];omega
theorem RS.put{L:List Int}{P:Nat->Prop}(h:RS L P)(hl:L.length<=4500)(m:Nat): ∃L',Yp L (m:Int)=some L'/\RS L' (fun n=>P n\/n=m):=by
 obtain⟨j,e1,e2,e3,e4⟩:=aPl L (m:Int) (by omega) L.length (Nat.le_refl _) (fun i h1 h2=>by omega);have hup: ∀p q,p<q->q<L.length->ga L p<ga L q:=fun p q h1 h2=>by have:=(List.pairwise_iff_getElem.1 h.up) p q (by omega) h2 h1;rwa [Iy,Iy]at this
 unfold Yp;rw [e1,AB];by_cases hin:0<j/\ga L (j-1)=(m:Int);refine⟨L, ?_,h.up,fun x=> ?_⟩;rw [decide_eq_true (by omega),AI,Dj (by omega),Ek (by omega),decide_eq_true hin.2,AI];rw [h.is];constructor;rintro⟨n,rfl,hn⟩;exact⟨n,rfl,.inl hn⟩;rintro⟨n,rfl,hn|rfl⟩;exact⟨n,rfl,hn⟩;have:((n:Nat):Int)∈L:=by rw [<-hin.2,<-Iy (show j-1<L.length by omega)];exact List.getElem_mem _
 exact(h.is _).1 this;have hlow: ∀i,i<j->ga L i<(m:Int):=fun i hi=>by have h1:=e4 (by omega);have h2:ga L (j-1)≠(m:Int):=fun e=>hin ⟨by omega,e⟩;by_cases hij:i=j-1;subst hij;omega;have:=hup i (j-1) (by omega) (by omega);omega
 have hrun:(AY ((0:Int)<=0/\(0:Int)<=(j:Int)/\(j:Int)<=(L.length:Int)) (AY (fit ([]:List Int).length (sub L 0 (j:Int)).length 8) (AY (fit (([]:List Int)++(sub L 0 (j:Int))).length [(m:Int)].length 8) (AY ((0:Int)<=(j:Int)/\((j:Int):Int)<=(L.length:Int)/\(L.length:Int)<=(L.length:Int)) (AY (fit ((([]:List Int)++(sub L 0 (j:Int)))++[(m:Int)]).length (sub L (j:Int) (L.length:Int)).length 8) (some (((([]:List Int)++(sub L 0 (j:Int)))++[(m:Int)])++(sub L (j:Int) (L.length:Int)))))))):Option (List Int))=some (L.take j++(m:Int)::L.drop j):=by
  have s1:sub L 0 (j:Int)=L.take j:=by have:=XY L 0 j;simpa using this
  rw [s1,XX,A8 ⟨by omega,by omega,by omega⟩,A8 (Bw (by simp;omega) (by decide)),A8 (Bw (by simp;omega) (by decide)),A8 ⟨by omega,by omega,by omega⟩,A8 (Bw (by simp;omega) (by decide))];simp
 refine⟨L.take j++(m:Int)::L.drop j, ?_, ?_,fun x=> ?_⟩;by_cases hj:0<j;rw [decide_eq_true (by omega),AI,Dj (by omega),Ek (by omega),decide_eq_false (fun e=>hin ⟨hj,e⟩),AH];exact hrun;rw [decide_eq_false (by omega),AH];exact hrun;rw [List.pairwise_append,List.pairwise_cons];refine⟨h.up.sublist (List.take_sublist _ _),⟨fun a ha=> ?_,h.up.sublist (List.drop_sublist _ _)⟩,fun a ha c hc=> ?_⟩;obtain⟨i,hi⟩:=List.mem_iff_getElem?.1 ha;rw [List.getElem?_drop]at hi;obtain⟨h1,h2⟩:=List.getElem?_eq_some_iff.1 hi;rw [<-h2,Iy];exact e3 _ (by omega) h1;obtain⟨i,hi⟩:=List.mem_iff_getElem?.1 ha;rw [List.getElem?_take]at hi;split at hi;rename_i hij;obtain⟨h1,h2⟩:=List.getElem?_eq_some_iff.1 hi;have ha':a<(m:Int):=by rw [<-h2,Iy];exact hlow i hij
 rcases mc.1 hc with rfl|hc
 exact ha';obtain⟨k,hk⟩:=List.mem_iff_getElem?.1 hc;rw [List.getElem?_drop]at hk;obtain⟨g1,g2⟩:=List.getElem?_eq_some_iff.1 hk;have:(m:Int)<c:=by rw [<-g2,Iy];exact e3 _ (by omega) g1
 omega;cases hi;have hmem:x∈L↔x∈L.take j\/x∈L.drop j:=by rw [<-ma,List.take_append_drop]
 rw [ma,mc];constructor;rintro(h1|rfl|h1);obtain⟨n,rfl,hn⟩:=(h.is x).1 (hmem.2 (.inl h1));exact⟨n,rfl,.inl hn⟩;exact⟨m,rfl,.inr rfl⟩;obtain⟨n,rfl,hn⟩:=(h.is x).1 (hmem.2 (.inr h1));exact⟨n,rfl,.inl hn⟩;rintro⟨n,rfl,hn|rfl⟩;rcases hmem.1 ((h.is _).2 ⟨n,rfl,hn⟩)with h1|h1
 exact .inl h1;exact .inr (.inr h1);exact .inr (.inl rfl)
theorem RS.congr{L:List Int}{P Q:Nat->Prop}(h:RS L P)(hq: ∀n,P n↔Q n):RS L Q:=⟨h.up,fun x=>by rw [h.is];simp only [hq]⟩
theorem aGv{q:AD}(hF:De q)(hR:Ah q){i:Nat}{e:X8}{h:Ao}(hh:I2 q i e=some h):h.bind.length<=12:=by unfold I2 at hh;split at hh;cases hh;rename_i s hs;split at hh;cases hh;split at hh;have hsm:=List.mem_of_getElem? hs;obtain⟨p,hp,rfl⟩:=om.1 hh;have:=Iw s.args e.args [] [] p (aUw hF hR hsm) ⟨List.Pairwise.nil,by simp⟩ ⟨List.Pairwise.nil,by simp⟩ (fun s hs=>by simp at hs) hp;have h12:=hF.args s hsm;have:=this.2.2.2.1;simp at this;simp only;omega;cases hh
theorem aO4{q:AD}(hF:De q)(hR:Ah q)(hS:DI q){b:List X2}(hB:BR b){d:Nat}{dd:Xd}(hd:q.decls[d]? =some dd)(args:List X0)(hl:args.length=dd.types.length):
 ∃l1 l2,Y8 q (X8.mk dd.name args)=some l1/\Ya l1 b=some l2/\Yy l2=some ((mkM q b d args:Nat):Int):=by
 have hsy:=hF.symbols
 have hbl:=RI hB
 have hlen:((List.range q.symbols.length).filterMap fun i=>I2 q i (X8.mk dd.name args)).length<=1000:=by have h2:=List.length_filterMap_le (fun i=>I2 q i (X8.mk dd.name args)) (List.range q.symbols.length);rw [List.length_range]at h2;omega
 have hbind: ∀h∈(List.range q.symbols.length).filterMap (fun i=>I2 q i (X8.mk dd.name args)),h.bind.length<=9223372036854775807:=fun h hh=>by obtain⟨i,hi,hh2⟩:=List.mem_filterMap.1 hh;have:=aGv hF hR hh2;omega
 exact⟨_,_,aSd hF hR,aSg hlen hbind (by omega),aMl hF hR hS b hd rfl hl⟩
theorem aT3{q:AD}(hF:De q)(hR:Ah q)(hS:DI q){b:List X2}(hB:BR b){d:Nat}{dd:Xd}(hd:q.decls[d]? =some dd){evs:List X8}(hev: ∀e,e∈evs↔EvP q b dd [] e)(hel:evs.length<=27000000){L:List Int}(hL:RS L (fun n=>DS q b d n/\n≠0)):
 ∃L',aJ1 b (d:Int) evs q L 0=some L'/\RS L' (fun n=>DS q b (d+1) n/\n≠0):=by
 have hDS: ∀{i n},DS q b i n->n<4096:=fun⟨_,_,_,_,hm⟩=>aI6 hF hm
 obtain⟨L',e1,e2⟩:=BG (step:=fun s:List Int×Int=>GX b (d:Int) evs q s.1 s.2)
  (fun s=> ∃i:Nat,s.2=(i:Int)/\i<=evs.length/\RS s.1 (fun n=>(DS q b d n/\n≠0)\/ ∃e∈evs.take i,n=mkM q b d e.args/\n≠0))
  (fun s=>(evs.length-s.2).toNat) (fun L'=>RS L' (fun n=>(DS q b d n/\n≠0)\/ ∃e∈evs,n=mkM q b d e.args/\n≠0))
  (by
   rintro⟨w,s⟩ ⟨i,rfl,hi,hw⟩;simp only at hw⊢;by_cases he:i=evs.length;subst he;rw [List.take_length]at hw;exact .inl ⟨w,by simp only [GX,ltI,AH],hw⟩;right;obtain⟨x,hx,_⟩:=Aa (l:=evs) (i:=i) (by omega);obtain⟨tail,t1,_,rfl⟩:=(hev x).1 (List.mem_of_getElem? hx);rw [List.nil_append]at hx;obtain⟨l1,l2,m1,m2,m3⟩:=aO4 hF hR hS hB hd tail (by simpa using t1);have hmlt: ∀l,mkM q b d l<4096:=fun l=>Nat.lt_of_lt_of_le (HL _ _) (show 2^q.symbols.length<=2^12 from Nat.pow_le_pow_right (by decide) hF.symbols);have hwl:w.length<=4500:=Nat.le_trans (hw.len (m:=4096) fun n hn=>by
    rcases hn with h|⟨e,_,h,_⟩
    exact hDS h.1;rw [h];exact hmlt _) (by decide)
   have hstep:GX b (d:Int) evs q w (i:Int)=(AJ (Pg b w (d:Int) evs (i:Int) ((mkM q b d tail:Nat):Int) (!decide (((mkM q b d tail:Nat):Int)=0)) q) fun o=>some (.inl (o,((i+1:Nat):Int)))):=by simp only [GX,ltD hx,AI,aBx,AP hx,An hx (show evs.length<=9223372036854775807 by omega)];rw [m1,AB,m2,AB,m3,AB];cases(Pg b w (d:Int) evs (i:Int) ((mkM q b d tail:Nat):Int) (!decide (((mkM q b d tail:Nat):Int)=0)) q)<;>rfl
   rw [hstep];unfold Pg;by_cases h0:mkM q b d tail=0;refine⟨(w,((i+1:Nat):Int)),by rw [h0];rfl,⟨i+1,rfl,by omega,hw.congr fun n=> ?_⟩,by simp only;omega⟩;rw [List.take_add_one,hx];simp only [Option.toList_some,ma,List.mem_singleton];constructor;rintro(h|⟨e,he,h⟩);exact .inl h;exact .inr ⟨e,.inl he,h⟩;rintro(h|⟨e,he|rfl,h,h'⟩);exact .inl h;exact .inr ⟨e,he,h,h'⟩;exact absurd (h.trans h0) h';obtain⟨L2,p1,p2⟩:=hw.put hwl (mkM q b d tail);refine⟨(L2,((i+1:Nat):Int)),by rw [decide_eq_false (by omega),Bool.not_false,AI,p1];rfl,⟨i+1,rfl,by omega,p2.congr fun n=> ?_⟩,by simp only;omega⟩;rw [List.take_add_one,hx];simp only [Option.toList_some,ma,List.mem_singleton];constructor;rintro((h|⟨e,he,h⟩)|rfl);exact .inl h;exact .inr ⟨e,.inl he,h⟩;exact .inr ⟨_,.inr rfl,rfl,h0⟩;rintro(h|⟨e,he|rfl,h,h'⟩);exact .inl (.inl h);exact .inl (.inr ⟨e,he,h,h'⟩);exact .inr h)
  (L,(0:Int)) ⟨0,rfl,by omega,hL.congr fun n=>by simp⟩
 refine⟨L',e1,e2.congr fun n=> ?_⟩
 constructor
 rintro(⟨⟨d',dd',h1,h2,h3⟩,h0⟩|⟨e,he,h,h0⟩)
 exact⟨⟨d',dd',by omega,h2,h3⟩,h0⟩
 obtain⟨tail,t1,t2,rfl⟩:=(hev e).1 he
 refine⟨⟨d,dd,by omega,hd,tail,by simpa using t1,fun j v t hj ht=>t2 j v t hj (by simpa using ht), ?_⟩,h0⟩
 simpa using h
 rintro⟨⟨d',dd',h1,h2,h3⟩,h0⟩
 by_cases hdd:d'=d
 subst hdd
 rw [hd]at h2;cases h2
 obtain⟨args,a1,a2,rfl⟩:=h3
 exact .inr ⟨X8.mk dd.name args,(hev _).2 ⟨args,by simpa using a1,fun j v t hj ht=>a2 j v t hj (by simpa using ht),by simp⟩,rfl,h0⟩
 exact .inl ⟨⟨d',dd',by omega,h2,h3⟩,h0⟩
theorem aRq{q:AD}(hF:De q)(hR:Ah q)(hS:DI q)(hT: ∀d∈q.decls,∀t∈d.types,(1:Int)<=t/\t<=3)(h3: ∀d∈q.decls,d.types.length<=3){b:List X2}(hB:BR b):
 ∃L,Xo q b=some L/\RS L (aJc q b):=by
 have hdl:=hF.decls
 obtain⟨L,e1,e2⟩:=BG (step:=fun s:List Int×Int=>Hy b q s.1 s.2)
  (fun s=> ∃i:Nat,s.2=(i:Int)/\i<=q.decls.length/\RS s.1 (fun n=>DS q b i n/\n≠0)) (fun s=>(q.decls.length-s.2).toNat) (fun L=>RS L (aJc q b))
  (by rintro⟨w,s⟩ ⟨i,rfl,hi,hw⟩;simp only at hw⊢;by_cases he:i=q.decls.length;subst he;exact .inl ⟨w,by simp only [Hy,ltI,AH],hw⟩;right;obtain⟨dd,hd,_⟩:=Aa (l:=q.decls) (i:=i) (by omega);have h3':=h3 dd (List.mem_of_getElem? hd);obtain⟨evs,f1,f2,f3⟩:=Wa hF hR hT hB hd h3' 100000 dd.types.length [] (by omega) (by simp);have hp:=Nk h3';obtain⟨L2,g1,g2⟩:=aT3 hF hR hS hB hd f2 (by omega) hw;refine⟨(L2,((i+1:Nat):Int)), ?_,⟨i+1,rfl,by omega,g2⟩,by simp only;omega⟩;have f1':Y5 q (i:Int) b [] []=some evs:=f1;simp only [Hy,ltD hd,AI,An hd (show q.decls.length<=9223372036854775807 by omega)];rw [f1',AB,g1,AB])
  ([],(0:Int)) ⟨0,rfl,by omega,⟨List.Pairwise.nil,fun x=>⟨fun h=>by simp at h,fun⟨n,_,⟨_,_,h,_⟩,_⟩=>by omega⟩⟩⟩
 exact⟨L,by unfold Xo aJ0;rw [e1,AB],e2⟩
theorem LK{q:AD}(hF:De q)(hR:Ah q)(hS:DI q)(hT: ∀d∈q.decls,∀t∈d.types,(1:Int)<=t/\t<=3)(h3: ∀d∈q.decls,d.types.length<=3){b:List X2}(hB:BR b):
 ∃L,X4 q b=some L/\Xo q b=some L/\RS L (aJc q b):=by
 obtain⟨L,e1,e2⟩:=aQ6 hF hR hT h3 hB
 obtain⟨M,f1,f2⟩:=aRq hF hR hS hT h3 hB
 exact⟨L,e1,by rw [f1,e2.uniq f2],e2⟩
theorem L4{σ τ:Type}{step:σ->Option (σ⊕τ)}{I:σ->Prop}(hI: ∀s s',I s->step s=some (.inl s')->I s'){s:σ}{t:τ}(h0:I s)(h:AR step s=some t): ∃s',I s'/\step s'=some (.inr t):=by
 obtain⟨n,hn⟩:=Fx.1 h;clear h;induction n generalizing s with
 |zero=>simp [itE]at hn
 |succ n ih=>
  simp only [itE]at hn
  split at hn
  cases hn
  rename_i s' hs;exact ih (hI s s' h0 hs) hn
  rename_i t' hs;cases hn;exact⟨s,h0,hs⟩
theorem aO0{l:List Xd}{i:Nat}{x:Xd}(hx:l[i]? =some x)(hl:x.types.length<=8)(h:aCy l (i:Int) 0=some (.inl ())): ∀t∈x.types,1<=t/\t<=3:=by
 have hstep: ∀n:Nat,En l (i:Int) (n:Int)=match x.types[n]? with
  |some t=>if t<1\/3<t then some (.inr (.inr ()))else some (.inl ((n+1:Nat):Int))
  |none=>some (.inr (.inl ())):=fun n=>by
  unfold En
  rw [AP hx]
  cases ht:x.types[n]? with
  |none=>
   have:=List.getElem?_eq_none_iff.1 ht
   rw [decide_eq_false (by omega),AH]
  |some t=>
   simp only [ltD ht,AI,AP hx,AP ht,An ht (show x.types.length<=9223372036854775807 by omega),Db]
   by_cases h1:t<1
   simp [h1]
   by_cases h2:3<t
   simp [h1,h2]
   simp [h1,h2]
 obtain⟨s',⟨n,rfl,hn⟩,hs⟩:=L4 (step:=fun s=>En l (i:Int) s) (I:=fun s=> ∃n:Nat,s=(n:Int)/\ ∀j t,j<n->x.types[j]? =some t->1<=t/\t<=3)
  (by
   rintro s s' ⟨n,rfl,hn⟩ hs;rw [hstep]at hs;cases ht:x.types[n]? with
   |none=>rw [ht]at hs;cases hs
   |some t=>
    rw [ht]at hs
    simp only at hs
    split at hs
    cases hs
    rename_i hc
    cases hs
    refine⟨n+1,rfl,fun j u hj hu=> ?_⟩
    by_cases hjn:j=n
    subst hjn;rw [ht]at hu;cases hu;omega
    exact hn j u (by omega) hu) ⟨0,rfl,fun j t hj=>by omega⟩ h
 rw [hstep]at hs;intro t ht;obtain⟨j,hj⟩:=List.mem_iff_getElem?.1 ht;refine hn j t ?_ hj;cases hx2:x.types[n]? with
 |none=>
  have h1:=List.getElem?_eq_none_iff.1 hx2
  have h2:=(List.getElem?_eq_some_iff.1 hj).1
  omega
 |some u=>
  rw [hx2]at hs
  simp only at hs
  split at hs<;>cases hs
theorem aOz{l:List Xd}(hl:l.length<=1000){o:Unit⊕(Int×Int)}(h:aCw l 0=some o)(ho: ∀r,o= .inr r->r.1=0): ∀d∈l,∀t∈d.types,1<=t/\t<=3:=by
 have fwd: ∀(n:Nat) (y:Int⊕(Unit⊕(Int×Int))),Em l (n:Int)=some y->(y= .inr (.inl ())/\l.length<=n)\/(y= .inl ((n+1:Nat):Int)/\ ∀d,l[n]? =some d-> ∀t∈d.types,1<=t/\t<=3)\/ ∃r,y= .inr (.inr r)/\r.1≠0:=by
  intro n y hy;unfold Em at hy;rcases iS hy with⟨h1,hy⟩|⟨h1,hy⟩
  have hlt:n<l.length:=by have:=of_decide_eq_true h1;omega
  obtain⟨x,hx,_⟩:=Aa hlt;rw [AP hx]at hy;obtain⟨r2,_,hy⟩:=bS hy;rcases iS hy with⟨_,hy⟩|⟨_,hy⟩
  cases hy;exact .inr (.inr ⟨_,rfl,by simp⟩);rw [AP hx]at hy;obtain⟨r4,_,hy⟩:=bS hy;rcases iS hy with⟨_,hy⟩|⟨_,hy⟩
  cases hy;exact .inr (.inr ⟨_,rfl,by simp⟩);rw [AP hx]at hy;rcases iS hy with⟨_,hy⟩|⟨h8,hy⟩
  cases hy;exact .inr (.inr ⟨_,rfl,by simp⟩);have h8:=of_decide_eq_false h8;obtain⟨o11,h2,hy⟩:=bS hy;cases o11 with
  |inl u=>
   cases hy
   refine .inr (.inl ⟨by rw [MU (by omega)],fun d hd=> ?_⟩)
   rw [hx]at hd;cases hd
   exact aO0 hx (by omega) h2
  |inr u=>cases hy;exact .inr (.inr ⟨_,rfl,by simp⟩)
  cases hy;have:=of_decide_eq_false h1;exact .inl ⟨rfl,by omega⟩
 obtain⟨s',⟨n,rfl,hn⟩,hs⟩:=L4 (step:=fun s=>Em l s) (I:=fun s=> ∃n:Nat,s=(n:Int)/\ ∀j d,j<n->l[j]? =some d-> ∀t∈d.types,1<=t/\t<=3)
  (by
   rintro s s' ⟨n,rfl,hn⟩ hs;rcases fwd n _ hs with⟨h1,_⟩|⟨h1,h2⟩|⟨r,h1,_⟩
   cases h1;cases h1;refine⟨n+1,rfl,fun j d hj hd=> ?_⟩;by_cases hjn:j=n;subst hjn;exact h2 d hd;exact hn j d (by omega) hd;cases h1) ⟨0,rfl,fun j d hj=>by omega⟩ h
 rcases fwd n _ hs with⟨h1,h2⟩|⟨h1,h2⟩|⟨r,h1,h2⟩
 intro d hd;obtain⟨j,hj⟩:=List.mem_iff_getElem?.1 hd;exact hn j d (by have:=(List.getElem?_eq_some_iff.1 hj).1;omega) hj;cases h1;cases h1;exact absurd (ho r rfl) h2
theorem Mj{q:AD}(hF:De q)(h:Yn q=some true): ∀d∈q.decls,∀t∈d.types,(1:Int)<=t/\t<=3:=by
 unfold Yn at h;obtain⟨r1,h1,h⟩:=bS h;rcases iS h with⟨_,h⟩|⟨h2,h⟩
 cases h;have hr:r1.1=0:=by simpa using h2
 unfold Xx at h1;rcases iS h1 with⟨_,h1⟩|⟨_,h1⟩
 cases h1;simp at hr;obtain⟨o14,h3,h1⟩:=bS h1;have hd:=hF.decls;refine aOz (by omega) h3 fun r hr2=> ?_;subst hr2;cases h1;exact hr
section
variable {α σ τ:Type} [DecidableEq α]
def Jp(o l:List α):List α:=l.foldl (fun o x=>if x∈o then o else o++[x]) o
theorem Ep(o l:List α)(x:α):Jp o (x::l)=Jp (if x∈o then o else o++[x]) l:=rfl
theorem HK: ∀{l o:List α} {x:α},x∈Jp o l↔x∈o\/x∈l
 |[],o,x=>by simp [Jp]
 |y::l,o,x=>by
  rw [Ep,HK];by_cases h:y∈o;rw [if_pos h,mc];constructor;rintro(h1|h1);exact .inl h1;exact .inr (.inr h1);rintro(h1|rfl|h1);exact .inl h1;exact .inl h;exact .inr h1;rw [if_neg h,ma,List.mem_singleton,mc,or_assoc]
theorem V8: ∀{l o:List α},o.Nodup->(Jp o l).Nodup
 |[],o,h=>h
 |y::l,o,h=>by
  rw [Ep];apply V8;by_cases hy:y∈o;rw [if_pos hy];exact h;rw [if_neg hy,List.nodup_append];exact⟨h,by simp,fun a ha b hb e=>hy (by rw [List.mem_singleton]at hb;rw [<-hb,<-e];exact ha)⟩
theorem Kb: ∀(l o:List α),∃r,Jp o l=o++r
 |[],o=>⟨[],by simp [Jp]⟩
 |y::l,o=>by
  rw [Ep];obtain⟨r,h⟩:=Kb l (if y∈o then o else o++[y])
  rw [h];by_cases hy:y∈o;rw [if_pos hy];exact⟨r,rfl⟩;rw [if_neg hy];exact⟨[y]++r,by simp⟩
theorem Oa{l o:List α}{j:Nat}{x:α}(h:o[j]? =some x):(Jp o l)[j]? =some x:=by obtain⟨r,e⟩:=Kb l o;rw [e,List.getElem?_append_left (List.getElem?_eq_some_iff.1 h).1];exact h
theorem aF9(l o:List α):o.length<=(Jp o l).length:=by obtain⟨r,e⟩:=Kb l o;rw [e,List.length_append];omega
inductive Rch(succ:α->List α)(s:α):α->Prop
 |refl:Rch succ s s
 |step {x y:α}:Rch succ s x->y∈succ x->Rch succ s y
structure WI(succ:α->List α)(s:α)(i:Nat)(o:List α):Prop where
 nd:o.Nodup
 hd:o[0]? =some s
 le:i<=o.length
 rc: ∀x∈o,Rch succ s x
 cl: ∀j x,j<i->o[j]? =some x-> ∀y∈succ x,y∈o
variable {succ:α->List α} {s:α}
theorem WI.init:WI succ s 0 [s]:=⟨by simp,rfl,Nat.zero_le _,fun x hx=>by rw [List.mem_singleton]at hx;subst hx;exact .refl,fun j x hj=>by omega⟩
theorem WI.step{i:Nat}{o:List α}(h:WI succ s i o){x:α}(hx:o[i]? =some x):WI succ s (i+1) (Jp o (succ x)):=by
 have hi:=(List.getElem?_eq_some_iff.1 hx).1;refine⟨V8 h.nd,Oa h.hd,Nat.le_trans hi (aF9 _ _),fun y hy=> ?_,fun j y hj hy z hz=> ?_⟩;rcases HK.1 hy with hy|hy
 exact h.rc y hy;exact(h.rc x (List.mem_of_getElem? hx)).step hy;have hj2:j<o.length:=by omega
 obtain⟨w,hw,_⟩:=Aa hj2;have e:w=y:=by rw [Oa hw,oe]at hy;exact hy
 subst e;by_cases hji:j=i;subst hji;rw [hx,oe]at hw;subst hw;exact HK.2 (.inr hz);exact HK.2 (.inl (h.cl j w (by omega) hw z hz))
def wl(succ:α->List α):Nat->Nat->List α->List α
 |0,_,o=>o
 |n+1,i,o=>match o[i]? with
  |none=>o
  |some x=>wl succ n (i+1) (Jp o (succ x))
def Bd(succ:α->List α)(s:α)(N:Nat):Prop:= ∀o:List α,o.Nodup->(∀x∈o,Rch succ s x)->o.length<=N
theorem aPx{N:Nat}(hN:Bd succ s N): ∀(n i:Nat) (o:List α),WI succ s i o->N+1<=n+i->WI succ s (wl succ n i o).length (wl succ n i o)
 |0,i,o,h,hn=>by have:=h.le;have:=hN o h.nd h.rc;omega
 |n+1,i,o,h,hn=>by
  rw [wl];split;rename_i e;have:=List.getElem?_eq_none_iff.1 e;have he:i=o.length:=by have:=h.le;omega
  subst he;exact h;rename_i x hx;exact aPx hN n (i+1) _ (h.step hx) (by omega)
theorem Nt{N:Nat}(hN:Bd succ s N){step:σ->Option (σ⊕τ)}(mk:Nat->List α->σ)(fin:List α->τ)
 (h1: ∀i x o,WI succ s i o->o[i]? =some x->step (mk i o)=some (.inl (mk (i+1) (Jp o (succ x)))))
 (h2: ∀o,WI succ s o.length o->step (mk o.length o)=some (.inr (fin o))): ∀(n i:Nat) (o:List α),WI succ s i o->N+1<=n+i->AR step (mk i o)=some (fin (wl succ n i o))
 |0,i,o,h,hn=>by have:=h.le;have:=hN o h.nd h.rc;omega
 |n+1,i,o,h,hn=>by
  rw [wl,Aj];cases e:o[i]? with
  |none=>
   have:=List.getElem?_eq_none_iff.1 e
   have he:i=o.length:=by have:=h.le;omega
   subst he
   rw [h2 o h,Ad]
  |some x=>
   rw [h1 i x o h e,BE]
   exact Nt hN mk fin h1 h2 n (i+1) _ (h.step e) (by omega)
def clo(succ:α->List α)(N:Nat)(s:α):List α:=wl succ (N+1) 0 [s]
theorem Oo{N:Nat}(hN:Bd succ s N):WI succ s (clo succ N s).length (clo succ N s):=aPx hN _ _ _ WI.init (Nat.le_refl _)
theorem Gi{N:Nat}(hN:Bd succ s N){x:α}:x∈clo succ N s↔Rch succ s x:=by
 have h:=Oo hN;refine⟨h.rc x,fun hx=> ?_⟩;induction hx with
 |refl=>exact List.mem_of_getElem? h.hd
 |step hx hy ih=>
  obtain⟨j,hj⟩:=List.mem_iff_getElem?.1 ih
  exact h.cl j _ (List.getElem?_eq_some_iff.1 hj).1 hj _ hy
theorem Kn{N:Nat}(hN:Bd succ s N):(clo succ N s).length<=N:=hN _ (Oo hN).nd (Oo hN).rc
end
theorem aIc{succ:Int->List Int}{s:Int}{N:Nat}(h: ∀x,Rch succ s x->0<=x/\x<N):Bd succ s N:=fun o h1 h2=>by
 have:=h1.length_le_of_subset (l₂:=(List.range N).map (fun n:Nat=>(n:Int))) fun x hx=>by obtain⟨a,b⟩:=h x (h2 x hx);exact mm.2 ⟨x.toNat,List.mem_range.2 (by omega),by omega⟩
 simpa using this
theorem LQ{α β:Type} [DecidableEq α](p:β->Bool)(g:β->α): ∀(l:List β) (o:List α),l.foldl (fun o t=>if p t=true/\g t∉o then o++[g t]else o) o=Jp o ((l.filter p).map g)
 |[],o=>rfl
 |t::l,o=>by
  rw [List.foldl_cons,LQ p g l,List.filter_cons];by_cases h:p t=true;rw [if_pos h,List.map_cons,Ep];by_cases h2:g t∈o;simp [h2];simp [h,h2];simp [h]
theorem aMb(q:AD)(hW: ∀t∈q.trans,Ji t): ∃r,Z5 q=some r/\(r=true->De q/\Ah q/\Yn q=some true/\ ∀d∈q.decls,d.types.length<=3):=by
 obtain⟨n,hn,hF⟩:=aRc q;unfold Z5;refine BW hn ?_;refine BT (fun _=>⟨_,rfl,by simp⟩) (fun h0=> ?_);have hF:=hF h0;obtain⟨r,hr,hR⟩:=aSp q hF hW;refine BW hr ?_;refine Eb (fun _=>⟨_,rfl,by simp⟩) (fun h1=> ?_);have hR2:=hR h1;have hd:=hF.decls;obtain⟨o,ho,hQ⟩:=Ak (step:=fun s=>IZ q s) q.decls.length (fun i=> ∀d,q.decls[i]? =some d->d.types.length<=3) (fun o=>o=Sum.inl ()-> ∀d∈q.decls,d.types.length<=3)
  (fun i hi=>by obtain⟨x,hx,_⟩:=Aa hi;simp only [IZ,ltD hx,AI,AP hx,An hx (show q.decls.length<=9223372036854775807 by omega)];by_cases h:3<x.types.length;exact .inr ⟨.inr (),by rw [decide_eq_true (by omega)];rfl,fun h=>by cases h⟩;exact .inl ⟨by rw [decide_eq_false (by omega)];rfl,fun t h2=>by rw [hx,oe]at h2;subst h2;omega⟩)
  (fun hall=>⟨.inl (),by simp only [IZ,ltI,AH],fun _=>FY hall⟩)
 have ho':aK2 q 0=some o:=ho;refine BW ho' ?_;subst h1;rcases o with⟨⟩|⟨⟩
 rw [CT];exact⟨_,rfl,fun _=>⟨hF,hR2,hr,hQ rfl⟩⟩;rw [EC];exact⟨_,rfl,by simp⟩
def Gy(q:AD)(x:Int):List Int:=(q.trans.filter fun t=>decide (t.from_=x)).map (·.to)
theorem XZ{q:AD}{x y:Int}:y∈Gy q x↔ ∃t∈q.trans,t.from_=x/\t.to=y:=by simp [Gy,and_assoc]
theorem rcT{q:AD}(hR:Ah q){s:Int}(hs:0<=s/\s<q.states.length): ∀x,Rch (Gy q) s x->0<=x/\x<q.states.length:=fun x h=>by
 cases h with
 |refl=>exact hs
 |step _ hy=>
  obtain⟨t,ht,_,rfl⟩:=XZ.1 hy
  exact(hR.ends t ht).2.2
theorem bdT{q:AD}(hR:Ah q){s:Int}(hs:0<=s/\s<q.states.length):Bd (Gy q) s q.states.length:=aIc (rcT hR hs)
theorem RK(l:List Int)(x:Int)(hl:l.length<=9223372036854775807):Z7 l x=some (if l.any (fun y=>decide (x=y))=true then((l.findIdx (fun y=>decide (x=y)):Nat):Int)else-1):=by
 have h:aK4 l x (l.length:Int) 0=_:=Dh (step:=fun s=>Ib l x (l.length:Int) s) l (fun y=>decide (x=y))
  (fun i y hy=>by simp only [Ib,ltD hy,AI,AP hy,An hy hl,Db];by_cases h:x=y<;>simp [h])
  (by simp only [Ib,ltI,AH])
 unfold Z7;rw [h,AB];split;rfl;rfl
theorem LE(l:List Int)(x:Int)(hl:l.length<=9223372036854775807):Qj l x=some (decide (x∈l)):=by unfold Qj;rw [RK l x hl,AB];congr 1;rw [Bool.eq_iff_iff,decide_eq_true_eq,decide_eq_true_eq];split;rename_i h;rw [List.any_eq_true]at h;obtain⟨y,hy,h⟩:=h;have:=of_decide_eq_true h;subst this;exact⟨fun _=>hy,fun _=>by omega⟩;rename_i h;refine⟨fun h=>by omega,fun hx=>absurd (List.any_eq_true.2 ⟨x,hx,by simp⟩) h⟩
theorem aUq{q:AD}(hF:De q)(i:Nat){x:Int}{o:List Int}(hx:o[i]? =some x)(ho:o.length<=1000):aJ5 (i:Int) q.trans (q.trans.length:Int) q 0 o=some (Jp o (Gy q x)):=by
 have ht:=hF.trans;have h:=DX (step:=fun s:Int×List Int=>H4 (i:Int) q.trans (q.trans.length:Int) q s.1 s.2) q.trans (fun o t=>if decide (t.from_=x)=true/\t.to∉o then o++[t.to]else o) id (fun j w=>w[i]? =some x/\w.length<=1000+j)
  (fun j t w hj hI=>by
   have hjl:=Ec hj;have hw:w.length<=9223372036854775807:=by have:=hI.2;omega
   refine⟨?_, ?_⟩;simp only [H4,ltD hj,AI,aCc,AP hj,AP hI.1,LE w t.to hw,AB,Tc,An hj (show q.trans.length<=9223372036854775807 by omega)];rw [Db];by_cases h1:t.from_=x;rw [if_pos h1];by_cases h2:t.to∈w;simp [h1,h2,AE,AJ];simp only [h2,decide_false,Bool.not_false,AI];rw [LZ (by have:=hI.2;simp;omega) (by decide),AB,AB];simp [h1];simp [h1,AE,AJ];split;exact⟨by rw [List.getElem?_append_left (Ec hI.1)];exact hI.1,by have:=hI.2;simp;omega⟩;exact⟨hI.1,by have:=hI.2;omega⟩)
  (fun w _=>by simp only [H4,ltI,AH];rfl) o ⟨hx,ho⟩
 refine Eq.trans h ?_;rw [LQ (fun t:Xc=>decide (t.from_=x)) (fun t=>t.to)];rfl
theorem aN5{q:AD}(hF:De q)(hR:Ah q){s:Int}(hs:0<=s/\s<q.states.length):Xs q s=some (clo (Gy q) q.states.length s):=by
 have hb:=bdT hR hs;have hst:=hF.states;have h:=Nt hb (step:=fun s:Int×List Int=>H3 q s.1 s.2) (fun i o=>((i:Int),o)) id
  (fun i x o hI hx=>by have hl:=hb o hI.nd hI.rc;simp only [H3,ltD hx,AI,aUq hF i hx (by omega),AB,An hx (show o.length<=9223372036854775807 by omega)])
  (fun o hI=>by simp only [H3,ltI,AH];rfl) _ 0 [s] WI.init (Nat.le_refl _)
 have h':aJ4 q 0 [s]=some (clo (Gy q) q.states.length s):=h;unfold Xs;rw [h',AB]
def okS(q:AD)(j:Nat):Prop:= ∀st,q.states[j]? =some st->st.accept=true/\st.next=false
def noS(q:AD)(j:Nat):Prop:= ∀st,q.states[j]? =some st->st.accept=false
def MO(q:AD)(s:Int):Prop:= ∀j:Nat,Rch (Gy q) s (j:Int)->okS q j
def aGl(q:AD)(s:Int):Prop:= ∀j:Nat,Rch (Gy q) s (j:Int)->noS q j
open Classical in
def EF(q:AD)(s:Int):Int:=if MO q s then 1 else if aGl q s then 2 else 0
theorem HN{l:List Int}{p:Int->Bool}:decide ((0:Int)<=if l.any p=true then((l.findIdx p:Nat):Int)else-1)=l.any p:=by split;rename_i h;rw [h];simp;rename_i h;simp at h;simpa using h
theorem CF1(l:List Int)(q:AD)(p:Int->Bool)(hl:l.length<=9223372036854775807)(hp: ∀x∈l,Qk x q=some (p x)):Ql l q=some (l.any p):=by
 have h:aK8 l q (l.length:Int) 0=_:=Dh (step:=fun s=>Ih l q (l.length:Int) s) l p
  (fun i y hy=>by simp only [Ih,ltD hy,AI,AP hy,hp y (List.mem_of_getElem? hy),AB,An hy hl,BD];cases p y<;>rfl)
  (by simp only [Ih,ltI,AH])
 unfold Ql Zd;rw [h,AB,<-HN];split<;>rfl
theorem CF2(l:List Int)(q:AD)(p:Int->Bool)(hl:l.length<=9223372036854775807)(hp: ∀x∈l,Qm x q=some (p x)):Qn l q=some (l.any p):=by
 have h:aK9 l q (l.length:Int) 0=_:=Dh (step:=fun s=>Ii l q (l.length:Int) s) l p
  (fun i y hy=>by simp only [Ii,ltD hy,AI,AP hy,hp y (List.mem_of_getElem? hy),AB,An hy hl,BD];cases p y<;>rfl)
  (by simp only [Ii,ltI,AH])
 unfold Qn Ze;rw [h,AB,<-HN];split<;>rfl
theorem aLc{q:AD}(hF:De q)(hR:Ah q){s:Int}(hs:0<=s/\s<q.states.length):Zj q s=some (EF q s):=by
 have hb:=bdT hR hs;have hst:=hF.states;have hlen:=Kn hb;have hget: ∀x∈clo (Gy q) q.states.length s,∃st,q.states[x.toNat]? =some st/\0<=x:=fun x hx=>by have:=rcT hR hs x ((Gi hb).1 hx);obtain⟨st,h,_⟩:=Wb this.1 this.2;exact⟨st,h,this.1⟩
 have e1:=CF1 (clo (Gy q) q.states.length s) q (fun x=>match q.states[x.toNat]? with|some st=> !st.accept||st.next|none=>false) (by omega) (fun x hx=>by obtain⟨st,h,h0⟩:=hget x hx;unfold Qk;rw [Do h h0,Do h h0,h];simp only;cases st.accept<;>rfl)
 have e2:=CF2 (clo (Gy q) q.states.length s) q (fun x=>match q.states[x.toNat]? with|some st=>st.accept|none=>false) (by omega) (fun x hx=>by obtain⟨st,h,h0⟩:=hget x hx;unfold Qm;rw [Do h h0,h])
 unfold Zj EF;rw [decide_eq_false (by omega),AH,decide_eq_false (by omega),AH,aN5 hF hR hs,AB,e1,AB,BD];by_cases c1:MO q s;rw [if_pos c1,if_pos];rw [Bool.not_eq_true',List.any_eq_false];intro x hx;obtain⟨st,h,h0⟩:=hget x hx;have:=c1 x.toNat (by rw [Int.toNat_of_nonneg h0];exact(Gi hb).1 hx) st h;rw [h];simp [this];rw [if_neg c1,if_neg];rw [e2,AB,BD];by_cases c2:aGl q s;rw [if_pos c2,if_pos];rw [Bool.not_eq_true',List.any_eq_false];intro x hx;obtain⟨st,h,h0⟩:=hget x hx;have:=c2 x.toNat (by rw [Int.toNat_of_nonneg h0];exact(Gi hb).1 hx) st h;rw [h];simp [this];rw [if_neg c2,if_neg];intro h;rw [Bool.not_eq_true',List.any_eq_false]at h;refine c2 fun j hj st hst=> ?_;have:=h _ ((Gi hb).2 hj);rw [Int.toNat_natCast,hst]at this;simpa using this;intro h;rw [Bool.not_eq_true',List.any_eq_false]at h;refine c1 fun j hj st hst=> ?_;have:=h _ ((Gi hb).2 hj);rw [Int.toNat_natCast,hst]at this;simpa using this
def InS(q:AD)(l:List Yk):Prop:= ∀c∈l,0<=c.state/\c.state<q.states.length
def aIk(q:AD)(l:List Yk):Int:=if(l.any fun c=>decide (EF q c.state=1))=true then 1 else if(l.all fun c=>decide (EF q c.state=2))=true then 2 else 0
theorem aT2(q:AD)(s:Int):EF q s=1\/EF q s=2\/EF q s=0:=by unfold EF;by_cases h1:MO q s;exact .inl (if_pos h1);rw [if_neg h1];by_cases h2:aGl q s;exact .inr (.inl (if_pos h2));exact .inr (.inr (if_neg h2))
def gI(b:Bool):Int:=if b=true then 2 else 0
theorem aRv{q:AD}(hF:De q)(hR:Ah q){l:List Yk}(hl:l.length<=1000)(hi:InS q l):Xt q l=some (aIk q l):=by
 have h:aJ6 l (l.length:Int) q 2 0=some (if(l.any fun c=>decide (EF q c.state=1))=true then .inr ()else .inl (gI (l.all fun c=>decide (EF q c.state=2)))):=by
  obtain⟨o,ho,hQ⟩:=BG (step:=fun s:Int×Int=>GZ l (l.length:Int) q s.1 s.2)
   (fun s=> ∃i:Nat,s.2=(i:Int)/\i<=l.length/\(∀c∈l.take i,EF q c.state≠1)/\s.1=gI ((l.take i).all fun c=>decide (EF q c.state=2)))
   (fun s=>(l.length-s.2).toNat)
   (fun o=>o=(if(l.any fun c=>decide (EF q c.state=1))=true then .inr ()else .inl (gI (l.all fun c=>decide (EF q c.state=2)))))
   (by
    rintro⟨n,m⟩ ⟨i,rfl,hi2,ha,hb⟩;simp only at hb;subst hb;by_cases he:i=l.length;subst he;refine .inl ⟨_,by simp only [GZ,ltI,AH];rfl, ?_⟩;rw [List.take_length]at*;have hne: ¬(l.any fun c=>decide (EF q c.state=1))=true:=by rw [List.any_eq_true];rintro⟨c,hc,h⟩;exact ha c hc (of_decide_eq_true h)
    rw [if_neg hne];obtain⟨c,hc,_⟩:=Aa (l:=l) (i:=i) (by omega);have hcm:=List.mem_of_getElem? hc;have ht:l.take (i+1)=l.take i++[c]:=by rw [List.take_add_one,hc];rfl
    have hk:=aLc hF hR (hi c hcm);by_cases e:EF q c.state=1;refine .inl ⟨.inr (), ?_, ?_⟩;simp only [GZ,ltD hc,AI,Th,AP hc,hk,AB,Ti,Tj,e,decide_true,EC];rw [if_pos];rw [List.any_eq_true];exact⟨c,hcm,decide_eq_true e⟩;refine .inr ⟨(gI ((l.take i).all (fun c=>decide (EF q c.state=2))&&decide (EF q c.state=2)),((i+1:Nat):Int)), ?_,⟨i+1,rfl,by omega, ?_, ?_⟩,by simp only;omega⟩;simp only [GZ,ltD hc,AI,Th,AP hc,hk,AB,Ti,Tj,e,decide_false,AH,aCj,An hc (show l.length<=9223372036854775807 by omega)];rcases aT2 q c.state with h|h|h
    exact absurd h e;rw [h];cases(l.take i).all (fun c=>decide (EF q c.state=2))<;>rfl;rw [h];cases(l.take i).all (fun c=>decide (EF q c.state=2))<;>rfl;intro x hx;rw [ht]at hx;rcases ma.1 hx with h|h
    exact ha x h;rw [List.mem_singleton]at h;exact h▸e;rw [ht];simp)
   (2,(0:Int)) ⟨0,rfl,by omega,by simp,by simp [gI]⟩
  rw [<-hQ];exact ho
 unfold Xt aIk;rw [h,AB];split<;>rfl
def MSt{K V:Type}(m:MP K V):Prop:= ∀e∈m.es,e.1<m.clk
theorem PK{K V:Type}(c:Nat)(k:K)(z v:V): ∀l:List (Nat×K×V),(∀e∈l,e.1<c)->aMv (c:Int) v (l++[(c,k,z)])=l++[(c,k,v)]
 |[],_=>by simp [aMv]
 |x::xs,h=>by
  have:=h x (by simp);rw [List.cons_append,aMv,if_neg (by omega),PK c k z v xs fun e he=>h e (List.mem_cons_of_mem _ he)];rfl
section
variable {K V:Type} [DecidableEq K]
theorem Kr(z:V)(c:Nat)(k:K)(v:V)(k':K): ∀l:List (Nat×K×V),LB z k' (Mc c k v l).2=if k=k' then(v,true)else LB z k' l
 |[]=>by
  simp only [Mc,LB]
 |x::xs=>by
  rw [Mc];split;rename_i h;by_cases e:k=k';rw [if_pos e,LB,if_pos (h.trans e)];rw [if_neg e,LB,LB,if_neg (by rw [h];exact e),if_neg (by rw [h];exact e)];rename_i h;by_cases e:k=k';rw [if_pos e,LB,if_neg (by rw [<-e];exact h),Kr z c k v k' xs,if_pos e];rw [if_neg e,LB,LB,Kr z c k v k' xs,if_neg e]
theorem O7(z:V)(m:MP K V)(k:K)(v:V)(k':K):Ja z (EV m k v) k'=if k=k' then(v,true)else Ja z m k':=Kr z _ _ _ _ _
theorem PF(z:V)(c:Nat)(k:K)(v:V): ∀l:List (Nat×K×V),(LB z k l).2=false->Mc c k v l=(c+1,l++[(c,k,v)])/\Jz c z k l=((c+1,l++[(c,k,z)]),z,c)
 |[],_=>⟨rfl,rfl⟩
 |x::xs,h=>by
  rw [LB]at h;split at h;cases h;rename_i hx;obtain⟨a,b⟩:=PF z c k v xs h;rw [Mc,if_neg hx,Jz,if_neg hx,a,b];exact⟨rfl,rfl⟩
theorem aIr{z:V}{m:MP K V}{k:K}(v:V)(h:(Ja z m k).2=false)(hm:MSt m):Ng z m k=m.clk/\aG9 (Gs z m k) ((Ng z m k:Nat):Int)=true/\QN (Gs z m k) ((Ng z m k:Nat):Int) v=EV m k v/\MSt (EV m k v)/\(EV m k v).clk=m.clk+1:=by
 obtain⟨a,b⟩:=PF z m.clk k v m.es h;refine⟨by simp [Ng,b],by simp [aG9,Gs,Ng,b], ?_, ?_,by simp [EV,a]⟩;simp only [QN,Gs,Ng,EV,a,b,PK m.clk k z v m.es hm];intro e he;simp only [EV,a]at he⊢;rcases ma.1 he with h|h
 have:=hm e h;omega;rw [List.mem_singleton]at h;subst h;simp
theorem aG8(z:V)(k:K):Ja z (Gt:MP K V) k=(z,false):=rfl
end
section
variable {α σ τ:Type} [DecidableEq α] {succ:α->List α} {s:α}
def wlS(succ:α->List α)(p:α->Bool):Nat->Nat->List α->Nat×List α
 |0,i,o=>(i,o)
 |n+1,i,o=>match o[i]? with
  |none=>(i,o)
  |some x=>if p x=true then(i,o)else wlS succ p n (i+1) (Jp o (succ x))
theorem PO{N:Nat}(hN:Bd succ s N)(p:α->Bool){step:σ->Option (σ⊕τ)}(R:Nat->List α->σ->Prop)(Q:Nat->List α->τ->Prop)
 (h1: ∀i x o st,WI succ s i o->R i o st->o[i]? =some x->p x=false-> ∃st',step st=some (.inl st')/\R (i+1) (Jp o (succ x)) st')
 (h2: ∀i x o st,WI succ s i o->R i o st->o[i]? =some x->p x=true-> ∃t,step st=some (.inr t)/\Q i o t)
 (h3: ∀o st,WI succ s o.length o->R o.length o st-> ∃t,step st=some (.inr t)/\Q o.length o t): ∀(n i:Nat) (o:List α) (st:σ),WI succ s i o->R i o st->N+1<=n+i->
 ∃t,AR step st=some t/\Q (wlS succ p n i o).1 (wlS succ p n i o).2 t
 |0,i,o,st,h,_,hn=>by have:=h.le;have:=hN o h.nd h.rc;omega
 |n+1,i,o,st,h,hr,hn=>by
  rw [wlS,Aj];cases e:o[i]? with
  |none=>
   have:=List.getElem?_eq_none_iff.1 e
   have he:i=o.length:=by have:=h.le;omega
   subst he
   obtain⟨t,a,b⟩:=h3 o st h hr
   exact⟨t,by rw [a,Ad],b⟩
  |some x=>
   simp only
   cases hp:p x with
   |true=>
    obtain⟨t,a,b⟩:=h2 i x o st h hr e hp
    exact⟨t,by rw [a,Ad],b⟩
   |false=>
    obtain⟨st',a,b⟩:=h1 i x o st h hr e hp
    rw [a,BE]
    exact PO hN p R Q h1 h2 h3 n (i+1) _ st' (h.step e) b (by omega)
theorem aI2(succ:α->List α){p:α->Bool}(hp: ∀x,p x=false): ∀(n i:Nat) (o:List α),(wlS succ p n i o).2=wl succ n i o
 |0,_,_=>rfl
 |n+1,i,o=>by
  rw [wlS,wl];cases o[i]? with
  |none=>rfl
  |some x=>simp only [hp x,Bool.false_eq_true,if_false];exact aI2 succ hp n (i+1) _
end
theorem Oc{α β:Type} [DecidableEq α](g:β->α): ∀(l:List β) (o:List α),l.foldl (fun o m=>if g m∈o then o else o++[g m]) o=Jp o (l.map g)
 |[],o=>rfl
 |m::l,o=>by rw [List.foldl_cons,Oc g l];rfl
def Gx(q:AD)(L:List Int)(x:Int):List Int:=L.map fun m=>((EH q x.toNat m.toNat:Nat):Int)
theorem aHb{q:AD}(hR:Ah q)(S M:Nat):EH q S M<2^q.states.length:=by apply Nat.lt_pow_two_of_testBit;intro k hk;rw [<-Bool.not_eq_true,W6];rintro⟨s,hs,_,hf⟩;unfold aIi at hf;split at hf;rw [Nat.testBit_two_pow]at hf;have:=of_decide_eq_true hf;omega;obtain⟨t,ht,_,he⟩:=(aMz q M s k).1 hf;have:=(hR.ends t ht).2.2;omega
structure LJ(q:AD)(L:List Int):Prop where
 len:L.length<=5000
 up:L.Pairwise (· < ·)
 lt: ∀x∈L,∃n:Nat,x=(n:Int)/\n<4096
theorem aMs{q:AD}(hF:De q)(hR:Ah q)(hS:DI q)(hT:Yn q=some true)(h3: ∀d∈q.decls,d.types.length<=3){b:List X2}(hB:BR b): ∃L,X4 q b=some L/\Xo q b=some L/\RS L (aJc q b)/\LJ q L:=by obtain⟨L,e1,e2,hL⟩:=LK hF hR hS (Mj hF hT) h3 hB;refine⟨L,e1,e2,hL,Nat.le_trans (hL.len fun n hn=>Ml hF hn) (by decide),hL.up,fun x hx=> ?_⟩;obtain⟨n,rfl,hn⟩:=(hL.is x).1 hx;exact⟨n,rfl,Ml hF hn⟩
theorem rcS{q:AD}(hR:Ah q)(hS:DI q){L:List Int}{s:Nat}(hs:s<2^q.states.length): ∀x,Rch (Gx q L) (s:Int) x-> ∃n:Nat,x=(n:Int)/\n<256:=fun x h=>by
 have h8:2^q.states.length<=256:=show 2^q.states.length<=2^8 from Nat.pow_le_pow_right (by decide) hS.states;cases h with
 |refl=>exact⟨s,rfl,by omega⟩
 |step _ hy=>
  obtain⟨m,_,rfl⟩:=mm.1 hy
  exact⟨_,rfl,by have:=aHb hR;exact Nat.lt_of_lt_of_le (this _ _) h8⟩
theorem bdS{q:AD}(hR:Ah q)(hS:DI q){L:List Int}{s:Nat}(hs:s<2^q.states.length):Bd (Gx q L) (s:Int) 256:=aIc fun x hx=>by obtain⟨n,rfl,h⟩:=rcS hR hS hs x hx;omega
theorem aO6(l:List Int)(x:Int)(hl:l.length<=9223372036854775807):Za l x=some (decide (x∈l)):=by
 have h:aK6 l x 0=_:=D9 (step:=fun s=>Ie l x s) l (fun _ y=>if y=x then some (Sum.inr ():Unit⊕Unit)else none) (.inl ())
  (fun i y hy=>by simp only [Ie,ltD hy,AI,AP hy,An hy hl,Db];by_cases h:y=x<;>simp [h])
  (by simp only [Ie,ltI,AH])
 unfold Za;rw [h,AB,DY];by_cases hx:x∈l;have:l.findSome? (fun y=>if y=x then some (Sum.inr ():Unit⊕Unit)else none)=some (.inr ()):=by
  obtain⟨y,hy⟩:=Option.isSome_iff_exists.1 (List.findSome?_isSome_iff.2 (⟨x,hx,by simp⟩: ∃y,y∈l/\(if y=x then some (Sum.inr ():Unit⊕Unit)else none).isSome=true))
  rw [hy];cases y with
  |inl u=>
   obtain⟨z,_,hz⟩:=List.exists_of_findSome?_eq_some hy
   split at hz<;>simp at hz
  |inr u=>rfl
 rw [this];simp [hx,CP];have:l.findSome? (fun y=>if y=x then some (Sum.inr ():Unit⊕Unit)else none)=none:=by rw [List.findSome?_eq_none_iff];intro y hy;exact if_neg fun e=>hx (by rw [<-e];exact hy)
 rw [this];simp [hx,CP]
theorem aIt{q:AD}(hF:De q)(hR:Ah q){L:List Int}(hL:LJ q L){x m:Int}(hx: ∃n:Nat,x=(n:Int)/\n<256)(hm:m∈L):Xf q x m=some ((EH q x.toNat m.toNat:Nat):Int)/\Xg q x m=some ((EH q x.toNat m.toNat:Nat):Int):=by obtain⟨n,rfl,hn⟩:=hx;obtain⟨k,rfl,hk⟩:=hL.lt m hm;exact⟨aRe hF hR (by omega) (by omega),aRg hF hR (by omega) (by omega)⟩
theorem aNg{q:AD}(hF:De q)(hR:Ah q){L:List Int}(hL:LJ q L)(i:Nat){x:Int}(hx: ∃n:Nat,x=(n:Int)/\n<256){o:List Int}(ho:o[i]? =some x)(hl:o.length<=1000):aJ3 L (i:Int) q 0 o=some (Jp o (Gx q L x)):=by
 have hll:=hL.len;have h:=DX (step:=fun s:Int×List Int=>H0 L (i:Int) q s.1 s.2) L (fun o m=>if((EH q x.toNat m.toNat:Nat):Int)∈o then o else o++[((EH q x.toNat m.toNat:Nat):Int)]) id (fun j w=>w[i]? =some x/\w.length<=1000+j)
  (fun j m w hj hI=>by
   have hjl:=Ec hj;have hw:w.length<=9223372036854775807:=by have:=hI.2;omega
   refine⟨?_, ?_⟩;simp only [H0,ltD hj,AI,aB6,AP hj,AP hI.1,(aIt hF hR hL hx (List.mem_of_getElem? hj)).2,aO6 w _ hw,AB,aB8,An hj (show L.length<=9223372036854775807 by omega)];by_cases h2:((EH q x.toNat m.toNat:Nat):Int)∈w;simp [h2,AE,AJ];rw [if_neg h2];simp only [h2,decide_false,Bool.not_false,AI];rw [LZ (by have:=hI.2;simp;omega) (by decide),AB,AB];split;exact⟨hI.1,by have:=hI.2;omega⟩;exact⟨by rw [List.getElem?_append_left (Ec hI.1)];exact hI.1,by have:=hI.2;simp;omega⟩)
  (fun w _=>by simp only [H0,ltI,AH];rfl) o ⟨ho,hl⟩
 refine Eq.trans h ?_;rw [Oc (fun m:Int=>((EH q x.toNat m.toNat:Nat):Int))];rfl
theorem aRt{q:AD}(hF:De q)(hR:Ah q)(hS:DI q){L:List Int}(hL:LJ q L){b:List X2}(he:Xo q b=some L){s:Nat}(hs:s<2^q.states.length):Xr q b (s:Int)=some (clo (Gx q L) 256 (s:Int)):=by
 have hb:=bdS (L:=L) hR hS hs;have h:=Nt hb (step:=fun s:Int×List Int=>Hz L q s.1 s.2) (fun i o=>((i:Int),o)) id
  (fun i x o hI hx=>by have hl:=hb o hI.nd hI.rc;simp only [Hz,ltD hx,AI,aNg hF hR hL i (rcS hR hS hs x (hI.rc x (List.mem_of_getElem? hx))) hx (by omega),AB,An hx (show o.length<=9223372036854775807 by omega)])
  (fun o hI=>by simp only [Hz,ltI,AH];rfl) _ 0 [(s:Int)] WI.init (Nat.le_refl _)
 have h':aJ2 L q 0 [(s:Int)]=some (clo (Gx q L) 256 (s:Int)):=h;unfold Xr;rw [he,AB,h',AB]
def aLk(S:Nat)(i:Nat)(st:Xb):Option (Unit⊕Unit):=if st.accept=true/\S.testBit i=true then some (.inr ())else none
def aM8(q:AD)(S:Nat):Bool:=match No (Fb (aLk S)) (fun _=> .inl ()) 0 q.states ()with
 | .inl _=>false
 | .inr _=>true
theorem Jo{q:AD}(hF:De q){S:Nat}(hS:S<4294967296):Yv q (S:Int)=some (aM8 q S):=by
 have h8:=hF.states;have h:aKv (S:Int) q.states (q.states.length:Int) 0=_:=D9 (step:=fun s=>IT (S:Int) q.states (q.states.length:Int) s) q.states (aLk S) (.inl ())
  (fun i st hi=>by
   have hil:=Ec hi;have h1:=At (n:=i) (by omega);have h2:=aIa (n:=S) (m:=2^i) hS (Nat.lt_of_lt_of_le (Nat.pow_lt_pow_right (by decide) (show i<32 by omega)) (by decide));simp only [IT,ltD hi,AI,AP hi,An hi (show q.states.length<=9223372036854775807 by omega),h1,Nr (show i<32 by omega),h2,aLk];rw [A8 (by omega)];have h3:((S&&&2^i:Nat):Int)=0↔S.testBit i=false:=by rw [<-NF];omega
   cases st.accept with
   |false=>simp [AE]
   |true=>
    rw [AI]
    cases hb:S.testBit i with
    |false=>rw [decide_eq_true (h3.2 hb)];simp [AE]
    |true=>rw [decide_eq_false (by rw [h3,hb];simp)];simp [AE])
  (by simp only [IT,ltI,AH])
 unfold Yv aM8;rw [h,AB];cases No (Fb (aLk S)) (fun _=> .inl ()) 0 q.states ()<;>rfl
theorem PS{q:AD}(hF:De q){S:Nat}(hS:S<4294967296):Zb q (S:Int)=some (aM8 q S):=by
 have h8:=hF.states;have h:aK7 (S:Int) q 0=_:=D9 (step:=fun s=>If (S:Int) q s) q.states (aLk S) (.inl ())
  (fun i st hi=>by
   have hil:=Ec hi;have h1:=At (n:=i) (by omega);simp only [If,ltD hi,AI,AP hi,An hi (show q.states.length<=9223372036854775807 by omega),h1,Ns (k:= .u32) (n:=S) (s:=i) (show i<32 by omega),aUn,NG,aLk];rw [A8 (by omega)];cases hb:S.testBit i with
   |false=>simp [AE]
   |true=>
    simp only [if_true]
    rw [show decide (((1:Nat):Int)=1)=true from rfl,AI]
    cases st.accept<;>simp [AE])
  (by simp only [If,ltI,AH])
 unfold Zb aM8;rw [h,AB];cases No (Fb (aLk S)) (fun _=> .inl ()) 0 q.states ()<;>rfl
def HI(q:AD)(x:Int):Bool:=aM8 q x.toNat
def MR(q:AD)(l:List Int):Int:=if(l.all (HI q))=true then 1 else if(l.all fun x=> !HI q x)=true then 2 else 0
theorem QV{q:AD}{l m:List Int}(h:l.Perm m):MR q l=MR q m:=by
 have: ∀p:Int->Bool,l.all p=m.all p:=fun p=>by rw [Bool.eq_iff_iff,List.all_eq_true,List.all_eq_true];exact⟨fun g x hx=>g x (h.mem_iff.2 hx),fun g x hx=>g x (h.mem_iff.1 hx)⟩
 unfold MR;rw [this,this]
def Ny(l:List Int):Prop:= ∀x∈l,∃n:Nat,x=(n:Int)/\n<256
theorem aMw{q:AD}(hF:De q){l:List Int}(hl:l.length<=9223372036854775807)(hs:Ny l):Qr q l=some (MR q l):=by
 have e1:Qp l q=some (l.any fun x=> !HI q x):=by
  have h:aLa l q (l.length:Int) 0=_:=Dh (step:=fun s=>Ij l q (l.length:Int) s) l (fun x=> !HI q x)
   (fun i y hy=>by obtain⟨n,rfl,hn⟩:=hs y (List.mem_of_getElem? hy);simp only [Ij,ltD hy,AI,AP hy,Qy,Jo hF (show n<4294967296 by omega),AB,An hy hl,HI,Int.toNat_natCast];rw [BD];split<;>simp_all)
   (by simp only [Ij,ltI,AH])
  unfold Qp Zf;rw [h,AB,<-HN];split<;>rfl
 have e2:Qq l q=some (l.any (HI q)):=by
  have h:aLb l q (l.length:Int) 0=_:=Dh (step:=fun s=>Ik l q (l.length:Int) s) l (HI q)
   (fun i y hy=>by obtain⟨n,rfl,hn⟩:=hs y (List.mem_of_getElem? hy);simp only [Ik,ltD hy,AI,AP hy,Qz,Jo hF (show n<4294967296 by omega),AB,An hy hl,HI,Int.toNat_natCast];rw [BD];split<;>simp_all)
   (by simp only [Ik,ltI,AH])
  unfold Qq Zg;rw [h,AB,<-HN];split<;>rfl
 unfold Qr MR;rw [e1,AB,e2,AB,BD,BD,List.all_eq_not_any_not,List.all_eq_not_any_not];simp only [Bool.not_not];split;rfl;split<;>rfl
theorem RU{q:AD}(hF:De q){l:List Int}(hl:l.length<=100000)(hs:Ny l):aKj l q 0 0=some ((l.countP (HI q):Nat):Int):=by
 obtain⟨o,ho,h1⟩:=BG (step:=fun s:Int×Int=>IJ l q s.1 s.2)
  (fun s=> ∃i:Nat,s.2=(i:Int)/\i<=l.length/\s.1=(((l.take i).countP (HI q):Nat):Int)) (fun s=>(l.length-s.2).toNat) (fun o=>o=((l.countP (HI q):Nat):Int))
  (by
   rintro⟨n,m⟩ ⟨i,rfl,hi,hb⟩;simp only at hb;subst hb;by_cases he:i=l.length;subst he;exact .inl ⟨_,by simp only [IJ,ltI,AH,List.take_length],rfl⟩;obtain⟨x,hx,_⟩:=Aa (l:=l) (i:=i) (by omega);obtain⟨n,rfl,hn⟩:=hs x (List.mem_of_getElem? hx);have hc:=List.countP_le_length (p:=HI q) (l:=l.take i);rw [List.length_take]at hc;refine .inr ⟨((((l.take (i+1)).countP (HI q):Nat):Int),((i+1:Nat):Int)), ?_,⟨i+1,rfl,by omega,rfl⟩,by simp only;omega⟩;have ha:HI q (n:Int)=aM8 q n:=by rw [HI,Int.toNat_natCast]
   simp only [IJ,ltD hx,AI,aEe,aEg,AP hx,PS hF (show n<4294967296 by omega),AB,An hx (show l.length<=9223372036854775807 by omega),List.take_add_one,hx,Option.toList_some,List.countP_append,List.countP_singleton,ha];rw [BD];split;rw [MU (by omega),AB,AB];rw [AB,AB];rfl)
  ((0:Int),(0:Int)) ⟨0,rfl,by omega,by simp⟩
 rw [<-h1];exact ho
theorem aSi{q:AD}(hF:De q){b:List X2}{s:Int}{l:List Int}(hA:Xr q b s=some l)(hl:l.length<=100000)(hs:Ny l):Yb q b s=some (MR q l):=by
 unfold Yb MR;rw [hA,AB,RU hF hl hs,AB,Db,Db];have h1:(((l.countP (HI q):Nat):Int)=(l.length:Int))↔(l.all (HI q))=true:=by rw [List.all_eq_true,<-List.countP_eq_length];omega
 have h2:(((l.countP (HI q):Nat):Int)=0)↔(l.all fun x=> !HI q x)=true:=by rw [List.all_eq_true];have:=List.countP_eq_zero (p:=HI q) (l:=l);simp only [Bool.not_eq_true'];rw [show(((l.countP (HI q):Nat):Int)=0)↔l.countP (HI q)=0 by omega,this];simp
 by_cases c1:(l.all (HI q))=true;rw [if_pos (h1.2 c1),if_pos c1];rw [if_neg (fun h=>c1 (h1.1 h)),if_neg c1];by_cases c2:(l.all fun x=> !HI q x)=true;rw [if_pos (h2.2 c2),if_pos c2];rw [if_neg (fun h=>c2 (h2.1 h)),if_neg c2]
abbrev TR:=List Int×MP Int Int×MP Int Int
def Fj(q:AD)(x:Int)(t:TR)(m:Int):TR:=if((EH q x.toNat m.toNat:Nat):Int)∈t.1 then t else(t.1++[((EH q x.toNat m.toNat:Nat):Int)],EV t.2.1 ((EH q x.toNat m.toNat:Nat):Int) x,EV t.2.2 ((EH q x.toNat m.toNat:Nat):Int) m)
structure TI(t:TR):Prop where
 st:MSt t.2.1
 clk:t.2.1.clk=t.1.length
 get: ∀k,(Ja 0 t.2.1 k).2=decide (k∈t.1)
theorem TI.step{t:TR}(h:TI t)(q:AD)(x m:Int):TI (Fj q x t m):=by unfold Fj;split;exact h;rename_i hn;obtain⟨_,_,_,h4,h5⟩:=aIr (m:=t.2.1) (z:=(0:Int)) (k:=((EH q x.toNat m.toNat:Nat):Int)) x (by rw [h.get];simp [hn]) h.st;refine⟨h4,by rw [h5,h.clk];simp,fun k=> ?_⟩;simp only;rw [O7];split;rename_i e;simp [e];rename_i e;rw [h.get];have e2:k≠((EH q x.toNat m.toNat:Nat):Int):=fun h=>e h.symm;simp [e2]
theorem TI.fold{q:AD}{x:Int}: ∀{l:List Int} {t:TR},TI t->TI (l.foldl (Fj q x) t)
 |[],_,h=>h
 |m::l,t,h=>by rw [List.foldl_cons];exact TI.fold (h.step q x m)
theorem MT{q:AD}{x:Int}: ∀(l:List Int) (t:TR),(l.foldl (Fj q x) t).1=Jp t.1 (Gx q l x)
 |[],_=>rfl
 |m::l,t=>by
  rw [List.foldl_cons,MT l];show _=Jp t.1 (_::Gx q l x);rw [Ep];congr 1;unfold Fj;split<;>rfl
theorem XS{q:AD}{x m:Int}{t:TR}{i:Nat}{y:Int}(h:t.1[i]? =some y):(Fj q x t m).1[i]? =some y:=by unfold Fj;split;exact h;rw [List.getElem?_append_left (Ec h)];exact h
theorem XT(q:AD)(x m:Int)(t:TR):(Fj q x t m).1.length<=t.1.length+1:=by unfold Fj;split;omega;simp
theorem TI.init(s:Int):TI ([s],EV (Gt:MP Int Int) s s,Gt):=by refine⟨fun e he=> ?_,rfl,fun k=> ?_⟩;simp [EV,Mc,Gt]at he⊢;subst he;simp;rw [O7,aG8];split;rename_i e;simp [e];rename_i e;have e2:k≠s:=fun h=>e h.symm;simp [e2]
theorem XO{q:AD}(hF:De q)(hR:Ah q){L:List Int}(hL:LJ q L)(i:Nat){x:Int}(hx: ∃n:Nat,x=(n:Int)/\n<256){t:TR}(ho:t.1[i]? =some x)(hl:t.1.length<=1000)(hT:TI t):aJ8 L (i:Int) L (L.length:Int) q 0 t.1 t.2.1 t.2.2=some (L.foldl (Fj q x) t):=by
 have hll:=hL.len;exact DX (step:=fun s:Int×TR=>H6 L (i:Int) L (L.length:Int) q s.1 s.2.1 s.2.2.1 s.2.2.2) L (Fj q x) id (fun j t=>t.1[i]? =some x/\t.1.length<=1000+j/\TI t)
  (fun j m t hj hI=>by
   have hjl:=Ec hj;obtain⟨hg,hn,hT⟩:=hI;refine⟨?_,XS hg,Nat.le_trans (XT _ _ _ _) (by omega),hT.step q x m⟩;have hc:(0:Int)<=(i:Int)/\(i:Int)+1<=(t.1.length:Int):=by have:=Ec hg;omega
   simp only [H6,ltD hj,AI,aCq,AP hj,A8 hc,AP hg,(aIt hF hR hL hx (List.mem_of_getElem? hj)).1,AB,aCs,An hj (show L.length<=9223372036854775807 by omega),hT.get];unfold Fj;by_cases h2:((EH q x.toNat m.toNat:Nat):Int)∈t.1;simp [h2,AE,AJ];obtain⟨g1,g2,g3,_,_⟩:=aIr (m:=t.2.1) (z:=(0:Int)) (k:=((EH q x.toNat m.toNat:Nat):Int)) x (by rw [hT.get];simp [h2]) hT.st;rw [if_neg h2];simp only [h2,decide_false,Bool.not_false,AI];rw [A8 (by rw [g1,hT.clk];omega),A8 g2,LZ (by simp;omega) (by decide),g3,AB,AB])
  (fun w _=>by simp only [H6,ltI,AH];rfl) t ⟨ho,hl,hT⟩
theorem aRz{q:AD}(hF:De q)(hR:Ah q)(hS:DI q){L:List Int}(hL:LJ q L){b:List X2}(he:X4 q b=some L){s:Nat}(hs:s<2^q.states.length): ∃F B,Xw q b (s:Int)=some (clo (Gx q L) 256 (s:Int),F,B):=by
 have hb:=bdS (L:=L) hR hS hs;obtain⟨t,h,hQ⟩:=PO hb (fun _=>false) (step:=fun s:Int×List Int×MP Int Int×MP Int Int=>H5 L q s.1 s.2.1 s.2.2.1 s.2.2.2) (fun i o st=> ∃F B,st=((i:Int),o,F,B)/\TI (o,F,B)) (fun _ o t=> ∃F B,t=(o,F,B))
  (fun i x o st hI hr hx _=>by
   obtain⟨F,B,rfl,hT⟩:=hr;have hl:=hb o hI.nd hI.rc;have e:=XO hF hR hL i (rcS hR hS hs x (hI.rc x (List.mem_of_getElem? hx))) (t:=(o,F,B)) hx (by simp only;omega) hT;have e1:=MT (q:=q) (x:=x) L (o,F,B);have e2:=TI.fold (q:=q) (x:=x) (l:=L) hT;refine⟨(((i+1:Nat):Int),L.foldl (Fj q x) (o,F,B)), ?_,(L.foldl (Fj q x) (o,F,B)).2.1,(L.foldl (Fj q x) (o,F,B)).2.2, ?_, ?_⟩;have hc:(0:Int)<=(i:Int)/\(i:Int)+1<=(o.length:Int):=by have:=Ec hx;omega
   simp only at e;simp only [H5,ltD hx,AI,A8 hc,AP hx,Qx,AB,AH,e,An hx (show o.length<=9223372036854775807 by omega)];rw [<-e1];rw [<-e1];exact e2)
  (fun i x o st _ _ _ hp=>by cases hp)
  (fun o st _ hr=>by obtain⟨F,B,rfl,_⟩:=hr;exact⟨(o,F,B),by simp only [H5,ltI,AH],F,B,rfl⟩) 257 0 [(s:Int)] ((0:Nat),[(s:Int)],EV (Gt:MP Int Int) s s,Gt) WI.init ⟨_,_,rfl,TI.init _⟩ (Nat.le_refl _)
 obtain⟨F,B,rfl⟩:=hQ;rw [aI2 _ (fun _=>rfl)]at h;have h':aJ7 L q 0 [(s:Int)] (EV (Gt:MP Int Int) s s) Gt=some (clo (Gx q L) 256 (s:Int),F,B):=h;refine⟨F,B, ?_⟩;unfold Xw;rw [he,AB,h',AB]
theorem La{q:AD}(hR:Ah q)(hS:DI q){L:List Int}{s:Nat}(hs:s<2^q.states.length):Ny (clo (Gx q L) 256 (s:Int)):=fun x hx=>rcS hR hS hs x ((Gi (bdS hR hS hs)).1 hx)
theorem aOq{q:AD}(hF:De q)(hR:Ah q)(hS:DI q){L:List Int}(hL:LJ q L){b:List X2}(he:X4 q b=some L){s:Nat}(hs:s<2^q.states.length): ∃l,Zv q b (s:Int)=some l/\l.Perm (clo (Gx q L) 256 (s:Int))/\l.Pairwise (· <= ·):=by obtain⟨F,B,h⟩:=aRz hF hR hS hL he hs;have hlen:=Kn (bdS (L:=L) hR hS hs);obtain⟨l,e1,e2,e3⟩:=RT (w:=clo (Gx q L) 256 (s:Int)) (by omega);refine⟨l, ?_,e2,e3⟩;unfold Zv;rw [h,AB,e1,AB]
theorem aOj{q:AD}(hF:De q)(hR:Ah q)(hS:DI q){L:List Int}(hL:LJ q L){b:List X2}(he:X4 q b=some L){s:Nat}(hs:s<2^q.states.length):Zn q b (s:Int)=some (MR q (clo (Gx q L) 256 (s:Int))):=by obtain⟨l,h1,h2,_⟩:=aOq hF hR hS hL he hs;have hlen:=Kn (bdS (L:=L) hR hS hs);unfold Zn;rw [h1,AB,aMw hF (by rw [h2.length_eq];omega) (fun x hx=>La hR hS hs x (h2.mem_iff.1 hx)),AB,QV h2]
def exQ:AD:=AD.mk ([113]:List UInt8) ([]:List Xd) ([]:List Yc) ([]:List Ye) ([Xb.mk ([115]:List UInt8) false true,Xb.mk ([116]:List UInt8) true false]) 0 ([]:List X3) ([]:List Yj) ([]:List Xc)
theorem exF:De exQ:=⟨by decide,by decide,by decide,by decide,by decide,by decide,by decide,(fun s h=>by cases h),(fun s h=>by cases h)⟩
theorem exR:Ah exQ:=⟨(fun j d h=>by cases h),by decide,(fun s h=>by cases h),(fun s h=>by cases h),(fun s h=>by cases h),(fun s h=>by cases h)⟩
theorem exS:DI exQ:=⟨rfl,by decide,by decide,by decide,fun s h=>by cases h⟩
theorem exT{s x:Int}(h:Rch (Gy exQ) s x):x=s:=by
 cases h with
 |refl=>rfl
 |step _ h=>cases h
theorem aL8:X4 exQ []=some []:=by
 obtain⟨L,e1,_,hL⟩:=LK exF exR exS (fun d h=>by cases h) (fun d h=>by cases h) (b:=[]) ⟨List.Pairwise.nil,fun s h=>by cases h⟩;have:L=[]:=by
  cases L with
  |nil=>rfl
  |cons y l=>
   obtain⟨n,_,⟨d,dd,h,_⟩,_⟩:=(hL.is y).1 (by simp)
   exact absurd h (Nat.not_lt_zero _)
 rw [<-this];exact e1
theorem aTp:Zw=some true:=by
 have h0:Zj exQ 0=some 1:=by
  rw [aLc exF exR (by decide)];have hs:MO exQ 0:=fun j hj st hst=>by
   have e:=exT hj;have:j=0:=by omega
   subst this;cases hst;exact⟨rfl,rfl⟩
  unfold EF;rw [if_pos hs]
 have hd:aGl exQ 1:=fun j hj st hst=>by
  have e:=exT hj;have:j=1:=by omega
  subst this;cases hst;rfl
 have h1:Zj exQ 1=some 2:=by
  rw [aLc exF exR (by decide)];have hs: ¬MO exQ 1:=fun h=>by have:=(h 1 .refl _ rfl).1;cases this
  unfold EF;rw [if_neg hs,if_pos hd]
 have h2:Xt exQ []=some 2:=by rw [aRv exF exR (by decide) (fun c h=>by cases h)];rfl
 have h3:Zn exQ [] 1=some 1:=by have:=aOj exF exR exS (L:=[]) ⟨by decide,List.Pairwise.nil,fun x h=>by cases h⟩ aL8 (s:=1) (by decide);exact this.trans (by kernel_rfl)
 show(AJ (Zj exQ 0) fun r1=>AE (decide (r1=1)) (AJ (Zj exQ 1) fun r2=>AE (decide (r2=2)) (AJ (Xt exQ []) fun r3=>AE (decide (r3=2)) (AJ (Zn exQ [] 1) fun r4=>some (decide (r4=1))) (some false)) (some false)) (some false))=some true;rw [h0,h1,h2,h3];rfl
theorem aHn(q:AD)(b:List X2)(hW: ∀t∈q.trans,Ji t)(hb:b.length<=9223372036854775807): ∃r,Qi q b=some r/\(r=true->De q/\Ah q/\DI q/\BR b/\Yn q=some true/\ ∀d∈q.decls,d.types.length<=3):=by obtain⟨r1,hr1,hP⟩:=aMb q hW;unfold Qi;refine BW hr1 ?_;refine Eb (fun _=>⟨_,rfl,by simp⟩) (fun h1=> ?_);obtain⟨hF,hR,hr,h3⟩:=hP h1;obtain⟨r2,hr2,hS⟩:=aSw hF;refine BW hr2 ?_;refine Eb (fun _=>⟨_,rfl,by simp⟩) (fun h2=> ?_);obtain⟨r3,hr3,hB⟩:=aQe q b hb;refine BW hr3 ?_;refine Eb (fun _=>⟨_,rfl,by simp⟩) (fun h4=> ?_);refine DW (fun _=>⟨_,rfl,by simp⟩) (fun h5=> ?_);refine BT (fun _=>⟨_,rfl,fun _=>⟨hF,hR,hS h2,hB h4,hr,h3⟩⟩) (fun h6=> ?_);obtain⟨x,hx,_⟩:=Aa (l:=b) (i:=0) (by omega);rw [show(0:Int)=((0:Nat):Int)from rfl,AP hx];exact⟨_,rfl,fun _=>⟨hF,hR,hS h2,hB h4,hr,h3⟩⟩
theorem RG(s8:List Int)(s9:Nat)(w:List Int){x:Int}(hx:s8[s9]? =some x)(hw:w.length<=5000)(h:x∈w):aKc w s8 (s9:Int) false 0=some true:=by
 obtain⟨o,h1,h2⟩:=BG (step:=fun s:Bool×Int=>IA w s8 (s9:Int) s.1 s.2) (fun s=> ∃i:Nat,s.2=(i:Int)/\i<=w.length/\(s.1=true\/x∈w.drop i)) (fun s=>(w.length-s.2).toNat) (fun o=>o=true)
  (by
   rintro⟨m,s⟩ ⟨i,rfl,hi,hm⟩;simp only at hm⊢;by_cases he:i=w.length;subst he;rw [List.drop_length]at hm;refine .inl ⟨m,by simp only [IA,ltI,AH], ?_⟩;rcases hm with h|h
   exact h;cases h;right;obtain⟨y,hy,hdr⟩:=Aa (l:=w) (i:=i) (by omega);refine⟨(m||decide (y=x),((i+1:Nat):Int)), ?_,⟨i+1,rfl,by omega, ?_⟩,by simp only;omega⟩;simp only [IA,ltD hy,AI,AP hy,AP hx,An hy (show w.length<=9223372036854775807 by omega)];cases m with
   |true=>rfl
   |false=>rfl
   rw [hdr]at hm;rcases hm with h|h
   exact .inl (by simp [h]);rcases mc.1 h with h|h
   exact .inl (by simp [h]);exact .inr h)
  (false,(0:Int)) ⟨0,rfl,by omega,.inr (by simpa using h)⟩
 rw [<-h2];exact h1
theorem RF{l w:List Int}(hw:w.length<=5000)(hl:l.length<=5000)(hm: ∀x∈l,x∈w)(hs:l.Pairwise (· <= ·))(hn:l.Nodup):aKb w l 0=some (.inl ()):=by
 obtain⟨o,h1,h2⟩:=Ak (step:=fun s=>H9 w l s) l.length (fun _=>True) (fun o=>o= .inl ())
  (fun i hi=>by
   obtain⟨x,hx,_⟩:=Aa hi;left;refine⟨?_,trivial⟩;simp only [H9,ltD hx,AI,RG l i w hx hw (hm x (List.mem_of_getElem? hx)),AB,Bool.not_true,AH,An hx (show l.length<=9223372036854775807 by omega)];rw [Db];split;rename_i h0;obtain⟨y,hy,_⟩:=Aa (l:=l) (i:=i-1) (by omega);rw [aUp (by omega) (by omega),AP hx,AP hy,decide_eq_false,AH];have hi1:i-1<l.length:=by omega
   have e1:y=l[i-1]:=by rw [List.getElem?_eq_getElem hi1,oe]at hy;exact hy.symm
   have e2:x=l[i]:=by rw [List.getElem?_eq_getElem hi,oe]at hx;exact hx.symm
   have a1:=List.pairwise_iff_getElem.1 hs (i-1) i hi1 hi (by omega);have a2:=List.pairwise_iff_getElem.1 hn (i-1) i hi1 hi (by omega);rw [e1,e2];omega;rfl)
  (fun _=>⟨.inl (),by simp only [H9,ltI,AH],rfl⟩)
 rw [<-h2];exact h1
theorem aU6{n:Nat}(h:n<=12):AA .shl .u32 1 (IntKind.wrap .u64 (n:Int))=((2^n:Nat):Int):=by rw [At (by omega),Nr (by omega)]
theorem aR4(q:AD)(b:List X2)(x:Int)(hW: ∀t∈q.trans,Ji t)(hb:b.length<=9223372036854775807)(hx:0<=x):Xz q b x=some true:=by
 obtain⟨r,hr,hP⟩:=aHn q b hW hb;unfold Xz;rw [hr,AB,aTp];cases r with
 |false=>rfl
 |true=>
  obtain⟨hF,hR,hS,hB,hT,h3⟩:=hP rfl
  have h12:=hF.states
  rw [Bool.not_true,AH,A8 (by rw [At (by omega)];omega),aU6 h12,Db]
  split
  rfl
  rename_i hlt
  obtain⟨n,rfl⟩: ∃n:Nat,x=(n:Int):=⟨x.toNat,by omega⟩
  have hs:n<2^q.states.length:=by omega
  obtain⟨L,e1,e2,_,hL⟩:=aMs hF hR hS hT h3 hB
  have hA:=aRt hF hR hS hL e2 hs
  obtain⟨l,f1,f2,f3⟩:=aOq hF hR hS hL e1 hs
  have hok:=Oo (bdS (L:=L) hR hS hs)
  have hlen:=Kn (bdS (L:=L) hR hS hs)
  rw [hA,AB,f1,AB,f2.length_eq,decide_eq_true rfl,Bool.not_true,AH,aOj hF hR hS hL e1 hs,AB,aSi hF hA (by omega) (La hR hS hs),AB,decide_eq_true rfl,Bool.not_true,AH,RF (by omega) (by rw [f2.length_eq];omega) (fun x hx=>f2.mem_iff.1 hx) f3 (f2.nodup_iff.2 hok.nd),AB,CT,AB]
end
end Go.Ac
