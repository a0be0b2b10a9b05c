/- Own work: the plain law. -/
import Derived.Test.YtnjgfcpccmiglaaGreatDoorP25qD
set_option linter.unusedVariables false
set_option linter.unusedSimpArgs false
namespace Go.Ac
theorem AX.eqb_dec(a b:AX):AX.eqb a b=decide (a=b):=by rw[Bool.eq_iff_iff,AX.eqb_iff];simp
def Es(s:X2)(v:Int):Bool:=s.args.any fun a=>decide (a.kind=2)&&decide (a.n=v)
def stB(s:X2)(v:Int):Bool:=s.args.any fun a=>decide ((⟨2,v,zV⟩:AX)=a)
theorem Oa(s:X2)(v:Int)(hs:s.args.length<=12):Za s v=some (Es s v):=by
 unfold Za aMy;rw[A0 s.args (fun a=> !(decide (a.kind=2)&&decide (a.n=v))) (.inl ():Unit⊕Unit) (.inr ())
  (fun i x hx=>by simp only[Jv,ltD hx,AP,AN hx,Aq hx (show s.args.length<=9223372036854775807 by omega)];simp only[AL];cases decide (x.kind=2)<;>cases decide (x.n=v)<;>rfl)
  (by simp only[Jv,ltI,AR]),KC,AD]
 unfold Es;cases s.args.any _<;>rfl
theorem LC(s:X2)(v:Int)(hs:s.args.length<=12):Zq s v=some (stB s v):=by
 unfold Zq Qb Yr Wo;rw[Bj s.args (fun a=>decide ((⟨2,v,zV⟩:AX)=a))
  (fun i x hx=>by
   simp only[HB,ltD hx,AP,AN hx,Aq hx (show s.args.length<=9223372036854775807 by omega),AX.eqb_dec,AL];change (if decide ((⟨2,v,zV⟩:AX)=x)=true then _ else _)=_
   cases decide ((⟨2,v,zV⟩:AX)=x)<;>rfl)
  (by simp only[HB,ltI,AR]),AD]
 unfold stB;cases s.args.any _<;>simp[As,AG]
def aCs(nm:X2->Int->Bool)(q:AA)(s:X2)(a b:Int):Bool:=(sub q.nodes a b).all fun x=> !decide (x.op=2)||nm s x.a
theorem aB1{q:AA}(hq:q.nodes.length<=2048){s:X2}(hs:s.args.length<=12){a b:Int}(h0:0<=a)(h1:a<=b)(h2:b<=q.nodes.length):Zi q s a b=some (aCs Es q s a b):=by
 obtain⟨m,rfl⟩:∃m:Nat,a=(m:Int):=⟨a.toNat,by omega⟩;obtain⟨n,rfl⟩:∃n:Nat,b=(n:Int):=⟨b.toNat,by omega⟩;have hl:(q.nodes.take n).length=n:=by rw[List.length_take];omega
 unfold Zi aM5;rw[QY (q.nodes.take n) (fun x=> !decide (x.op=2)||Es s x.a) (.inl ():Unit⊕Unit) (.inr ())
  (fun i x hx=>by
   have hi:=BM hx;rw[hl]at hi;have hx2:q.nodes[i]? =some x:=by rw[List.getElem?_take_of_lt hi]at hx;exact hx
   have hd:decide ((i:Int)<(n:Int))=true:=by simp;omega
   simp only[J0,hd,AP,AN hx2,Aq hx2 (show q.nodes.length<=9223372036854775807 by omega),Oa _ _ hs,AD,AL];cases decide (x.op=2)<;>cases Es s x.a<;>rfl)
  (by rw[hl];simp only[J0,ltI,AR]) m (by rw[hl];omega),AD]
 unfold aCs sub;rw[show((n:Int)).toNat=n from rfl,show((m:Int)).toNat=m from rfl];cases((q.nodes.take n).drop m).all _<;>rfl
theorem SO{q:AA}{t:X5}{s:X2}(hs:s.args.length<=12)(h0:0<=t.symbol)(hx:q.symbols[t.symbol.toNat]? =some s){l:List Xb}(hl:l.length<=2048):
 Y4 l q t=some (l.all fun x=> !decide (x.op=2)||stB s x.a):=by
 unfold Y4 Vm
 rw[A0 l (fun x=> !decide (x.op=2)||stB s x.a) (.inl ():Unit⊕Unit) (.inr ())
  (fun i x hx2=>by simp only[E5,ltD hx2,AP,AN hx2,Aq hx2 (show l.length<=9223372036854775807 by omega),Qc,B0 hx h0,LC _ _ hs,AD,AL];cases decide (x.op=2)<;>cases stB s x.a<;>rfl)
  (by simp only[E5,ltI,AR]),AD]
 cases l.all _<;>rfl
def trS(q:AA)(l:List X4)(nm:X2->Int->Bool)(a:Int)(t:X5):Option Int:=
 if 0<=t.from_/\t.from_<q.states.length/\0<=t.to/\t.to<q.states.length/\0<=t.symbol/\t.symbol<q.symbols.length then
  if t.guard≠ -1/\whB l a t.guard 3=false then none
  else match Sr q l [] (if t.guard= -1 then a else t.guard+1) t.sets with
   |none=>none
   |some b=>match q.symbols[t.symbol.toNat]? with
    |none=>none
    |some s=>if aCs nm q s a b=true then some b else none
 else none
theorem aCh{q:AA}{l:List X4}{nm:X2->Int->Bool}(h:LOk q l){a b:Int}{t:X5}(h0:0<=a)(h1:a<=q.nodes.length)(ht:trS q l nm a t=some b):a<=b/\b<=q.nodes.length:=by
 unfold trS at ht;split at ht;split at ht;cases ht;rename_i hg;have hg2:0<=(if t.guard= -1 then a else t.guard+1)/\a<=(if t.guard= -1 then a else t.guard+1)/\(if t.guard= -1 then a else t.guard+1)<=q.nodes.length:=by
  split;omega;rename_i hgn;have hw:whB l a t.guard 3=true:=by
   cases hw:whB l a t.guard 3 with
   |true=>rfl
   |false=>exact absurd ⟨hgn,hw⟩ hg
  have:=DA h hw;omega
 cases hs:Sr q l [] (if t.guard= -1 then a else t.guard+1) t.sets with
 |none=>rw[hs]at ht;cases ht
 |some c=>
  rw[hs]at ht
  have:=GA h hg2.1 hg2.2.2 hs
  simp only at ht
  cases hy:q.symbols[t.symbol.toNat]? with
  |none=>rw[hy]at ht;cases ht
  |some s=>
   rw[hy]at ht
   simp only at ht
   split at ht
   cases ht;omega
   cases ht
 cases ht
theorem aOy{α:Type}(l:List α)(a b:Int):(sub l a b).length<=l.length:=by unfold sub;rw[List.length_drop,List.length_take];omega
theorem Nv{q:AA}{l:List X4}(h:LOk q l)(hA:∀s∈q.symbols,s.args.length<=12)(i:Int){t:X5}(ht:t.sets.length<=12){a:Int}(h0:0<=a)(h1:a<=q.nodes.length):
 ∃r,Zy i t q a l=some r/\match trS q l stB a t with|some b=>r=(true,b,l)|none=>r.1=false:=by
 have hsm:=h.small
 unfold Zy trS
 simp only[AL]
 by_cases c1:t.from_<0
 rw[if_pos (by simpa using c1),if_neg (by omega)];exact⟨_,rfl,rfl⟩
 rw[if_neg (by simpa using c1)]
 by_cases c2:(q.states.length:Int)<=t.from_
 rw[if_pos (by simpa using c2),if_neg (by omega)];exact⟨_,rfl,rfl⟩
 rw[if_neg (by simpa using c2)]
 by_cases c3:t.to<0
 rw[if_pos (by simpa using c3),if_neg (by omega)];exact⟨_,rfl,rfl⟩
 rw[if_neg (by simpa using c3)]
 by_cases c4:(q.states.length:Int)<=t.to
 rw[if_pos (by simpa using c4),if_neg (by omega)];exact⟨_,rfl,rfl⟩
 rw[if_neg (by simpa using c4)]
 by_cases c5:t.symbol<0
 rw[if_pos (by simpa using c5),if_neg (by omega)];exact⟨_,rfl,rfl⟩
 rw[if_neg (by simpa using c5)]
 by_cases c6:(q.symbols.length:Int)<=t.symbol
 rw[if_pos (by simpa using c6),if_neg (by omega)];exact⟨_,rfl,rfl⟩
 rw[if_neg (by simpa using c6)]
 have hc:0<=t.from_/\t.from_<q.states.length/\0<=t.to/\t.to<q.states.length/\0<=t.symbol/\t.symbol<q.symbols.length:=by omega
 rw[if_pos hc]
 obtain⟨s,hs,_⟩:=K3 (l:=q.symbols) (i:=t.symbol) hc.2.2.2.2.1 hc.2.2.2.2.2
 have hsl:=hA s (List.mem_of_getElem? hs)
 have fin:∀b:Int,0<=b->a<=b->b<=q.nodes.length->∃r,(AG (Xx t.sets t q l b) fun r2=>if r2.1=true then Az ((0:Int)<=a/\(a:Int)<=r2.2.2/\r2.2.2<=(q.nodes.length:Int)) (AG (Y4 (sub q.nodes a r2.2.2) q t) fun r3=>some (r3,r2.2.2,r2.2.1))else some (false,r2.2.2,r2.2.1))=some r/\
  match (match Sr q l [] b t.sets with|none=>none|some c=>match q.symbols[t.symbol.toNat]? with|none=>none|some s=>if aCs stB q s a c=true then some c else none:Option Int)with|some b=>r=(true,b,l)|none=>r.1=false:=by
  intro b hb0 hb1 hb2
  obtain⟨o,ho,hm⟩:=La h t ht t.sets [] b rfl hb0
  unfold Xx
  rw[show(0:Int)=(([]:List A9).length:Int)from rfl,ho,AD]
  cases hS:Sr q l [] b t.sets with
  |none=>
   rw[hS]at hm
   obtain⟨z,rfl⟩:=hm
   simp only[MT,AD,Bool.false_eq_true,if_false]
   exact⟨_,rfl,rfl⟩
  |some c=>
   rw[hS]at hm
   simp only at hm
   subst hm
   have hr:=GA h hb0 hb2 hS
   simp only[DH,AD,if_true]
   rw[Ai (by simp only[List.length_nil];omega),SO hsl hc.2.2.2.2.1 hs (by have:=aOy q.nodes a c;omega),AD,hs]
   simp only
   rw[show((sub q.nodes a c).all fun x=> !decide (x.op=2)||stB s x.a)=aCs stB q s a c from rfl]
   cases aCs stB q s a c with
   |true=>exact⟨_,rfl,rfl⟩
   |false=>exact⟨_,rfl,rfl⟩
 by_cases hg:t.guard= -1
 rw[if_neg (by simp[hg]),if_neg (by simp[hg]),if_pos hg]
 exact fin a h0 (Int.le_refl _) h1
 rw[if_pos (by simp[hg]),if_neg hg,aAd h h0,AD]
 cases hw:whB l a t.guard 3 with
 |false=>
  simp only[Bool.false_eq_true,if_false,Bool.not_false,if_true]
  rw[if_pos ⟨hg,trivial⟩]
  exact⟨_,rfl,rfl⟩
 |true=>
  have:=DA h hw
  simp only[if_true,Bool.not_true,Bool.false_eq_true,if_false]
  rw[if_neg (show¬(t.guard≠ -1/\true=false)from fun hh=>by cases hh.2)]
  exact fin (t.guard+1) (by omega) (by omega) (by omega)
theorem Sm{q:AA}{l:List X4}(h:LOk q l)(hA:∀s∈q.symbols,s.args.length<=12){t:X5}(ht:t.sets.length<=12){a:Int}(h0:0<=a)(h1:a<=q.nodes.length):
 ∃r,Y2 q t a=some r/\match trS q l Es a t with|some b=>r=(b,true)|none=>r.2=false:=by
 have hsm:=h.small
 unfold Y2 trS
 simp only[AL]
 by_cases c1:t.from_<0
 rw[if_pos (by simpa using c1),if_neg (by omega)];exact⟨_,rfl,rfl⟩
 rw[if_neg (by simpa using c1)]
 by_cases c2:(q.states.length:Int)<=t.from_
 rw[if_pos (by simpa using c2),if_neg (by omega)];exact⟨_,rfl,rfl⟩
 rw[if_neg (by simpa using c2)]
 by_cases c3:t.to<0
 rw[if_pos (by simpa using c3),if_neg (by omega)];exact⟨_,rfl,rfl⟩
 rw[if_neg (by simpa using c3)]
 by_cases c4:(q.states.length:Int)<=t.to
 rw[if_pos (by simpa using c4),if_neg (by omega)];exact⟨_,rfl,rfl⟩
 rw[if_neg (by simpa using c4)]
 by_cases c5:t.symbol<0
 rw[if_pos (by simpa using c5),if_neg (by omega)];exact⟨_,rfl,rfl⟩
 rw[if_neg (by simpa using c5)]
 by_cases c6:(q.symbols.length:Int)<=t.symbol
 rw[if_pos (by simpa using c6),if_neg (by omega)];exact⟨_,rfl,rfl⟩
 rw[if_neg (by simpa using c6)]
 have hc:0<=t.from_/\t.from_<q.states.length/\0<=t.to/\t.to<q.states.length/\0<=t.symbol/\t.symbol<q.symbols.length:=by omega
 rw[if_pos hc]
 obtain⟨s,hs,_⟩:=K3 (l:=q.symbols) (i:=t.symbol) hc.2.2.2.2.1 hc.2.2.2.2.2
 have hsl:=hA s (List.mem_of_getElem? hs)
 have hb1:Ve a a (!decide (t.guard= -1)) q t=some (if t.guard≠ -1/\whB l a t.guard 3=false then .inr ()else .inl (if t.guard= -1 then a else t.guard+1)):=by
  unfold Ve;by_cases hg:t.guard= -1;simp[hg,AE];obtain⟨k,d,hk,hkw⟩:=S7 h a t.guard;have hw:=hkw 3;rw[hk,AD,AL,if_pos (by simp[hg]),AL,AL];cases hwb:whB l a t.guard 3 with
  |true=>
   have h3:=hw.2 hwb
   have:=DA h hwb
   rw[if_neg (by simp;omega),if_neg (by simp;omega),if_neg (by simp),if_neg hg,aIb (by omega) (by omega)]
  |false=>
   have h3:¬(k=3/\(3:Int)≠0/\d<=64):=fun hh=>by have:=hw.1 hh;rw[hwb]at this;cases this
   have hR:(if t.guard≠ -1/\false=false then(.inr ():Int⊕Unit)else .inl (if t.guard= -1 then a else t.guard+1))=.inr ():=if_pos ⟨hg,rfl⟩
   rw[hR]
   by_cases c1:k=3
   have c2:64<d:=by omega
   simp[c1,c2]
   simp[c1]
 rw[hb1,AD]
 by_cases hg:t.guard≠ -1/\whB l a t.guard 3=false
 rw[if_pos hg,if_pos hg]
 exact⟨_,rfl,rfl⟩
 rw[if_neg hg,if_neg hg,DH]
 have hg2:0<=(if t.guard= -1 then a else t.guard+1)/\a<=(if t.guard= -1 then a else t.guard+1)/\(if t.guard= -1 then a else t.guard+1)<=q.nodes.length:=by
  split;omega;rename_i hgn;have hw:whB l a t.guard 3=true:=by
   cases hw:whB l a t.guard 3 with
   |true=>rfl
   |false=>exact absurd ⟨hgn,hw⟩ hg
  have:=DA h hw;omega
 generalize (if t.guard= -1 then a else t.guard+1)=b at hg2
 have:=RO h t ht a t.sets [] b rfl hg2.1
 rw[show(0:Int)=(([]:List A9).length:Int)from rfl,this,AD]
 cases hS:Sr q l [] b t.sets with
 |none=>exact⟨_,rfl,rfl⟩
 |some c=>
  have hr:=GA h hg2.1 hg2.2.2 hS
  simp only[DH]
  rw[B0 hs hc.2.2.2.2.1,aB1 h.small hsl h0 (by omega) hr.2,AD,hs]
  simp only
  cases aCs Es q s a c with
  |true=>exact⟨_,rfl,rfl⟩
  |false=>exact⟨_,rfl,rfl⟩
end Go.Ac
