/- Own work: the plain law. -/
import Derived.Test.YtnjgfcpccmiglaaGreatDoorP25A
set_option linter.unusedVariables false
set_option linter.unusedSimpArgs false
namespace Go.Ac
noncomputable section
def vR(v:X4):Bool:=
 if v.kind=1 then decide (v.str=[])&& !v.bool
 else if v.kind=2 then decide (v.int=0)&& !v.bool&&decide (v.str.length<=4096)
 else if v.kind=3 then decide (v.int=0)&&decide (v.str=[])else false
theorem X4.eqb_dec(a b:X4):X4.eqb a b=decide (a=b):=by rw[Bool.eq_iff_iff,X4.eqb_iff];simp
theorem X8.eqb_dec(a b:X8):X8.eqb a b=decide (a=b):=by rw[Bool.eq_iff_iff,X8.eqb_iff];simp
def zV:X4:=⟨0,0,[],false⟩
theorem Un(v:X4):Z0 v=some (vR v):=by
 unfold Z0 vR;have hc:decide ((v.str.length:Int)<=4096)=decide (v.str.length<=4096):=by
  by_cases h:v.str.length<=4096;have:(v.str.length:Int)<=4096:=by omega
  simp[h,this];have:¬(v.str.length:Int)<=4096:=by omega
  simp[h,this]
 rw[hc];by_cases h1:v.kind=1;by_cases hs:v.str=[]<;>simp[h1,hs,AE];by_cases h2:v.kind=2;by_cases hn:v.int=0<;>cases hb:v.bool<;>simp[h2,hn,AE];by_cases h3:v.kind=3;by_cases hn:v.int=0<;>simp[h3,hn,AE];simp[h1,h2,h3,AE]
theorem Wn(v:X4):Yy v=some (vR v):=by rw[<-Un];obtain⟨k,n,s,b⟩:=v;unfold Yy Z0 Ql Qm Qn;simp only[AH,EX,X4.eqb_dec,X4.mk.injEq,AN];by_cases h1:k=1;subst h1;by_cases hs:s=[]<;>cases b<;>simp[hs];by_cases h2:k=2;subst h2;by_cases hn:n=0<;>cases b<;>simp[hn];by_cases h3:k=3;subst h3;by_cases hn:n=0<;>by_cases hs:s=[]<;>cases b<;>simp[hn,hs];simp[h1,h2,h3]
theorem Sb{v:X4}(h:vR v=true):1<=v.kind/\v.kind<=3:=by unfold vR at h;split at h;omega;split at h;omega;split at h;omega;cases h
theorem II{α:Type}{l:List α}{i:Int}(h0:0<=i)(h1:i<l.length):∃x,l[i.toNat]? =some x/\i=(i.toNat:Int):=by obtain⟨x,hx,_⟩:=Cc (l:=l) (i:=i.toNat) (by omega);exact⟨x,hx,by omega⟩
theorem Bn{α β:Type}{l:List α}{i:Int}{x:α}(h:l[i.toNat]? =some x)(h0:0<=i)(k:α->Option β):Ae l i k=k x:=by have e:Ae l ((i.toNat:Nat):Int) k=k x:=AU h k;rwa [show((i.toNat:Nat):Int)=i by omega]at e
theorem NS:Yn [] []=some false:=by unfold Yn Wh;rw[Cj];simp[KD,AE,H4,AF,Ap]
theorem K1:Zz ⟨2,0,[],false⟩ ⟨2,0,[],false⟩=some false:=by show AF (Yn [] []) _=_;rw[NS];rfl
theorem YY:Yw 15 2 2=some 3:=by have:Yw 15 2 2=AF (AF (Zz ⟨2,0,[],false⟩ ⟨2,0,[],false⟩) fun r9=>AF (Ys r9) fun r10=>some (r10.1,r10.2)) fun r1=>AE (decide (r1.2=7)) (some 1) (AE (!decide (r1.2=0)) (some 0) (some r1.1.kind)):=rfl;rw[this,K1];rfl
theorem YZ:Yw 16 2 2=some 3:=by have:Yw 16 2 2=AF (AF (Zz ⟨2,0,[],false⟩ ⟨2,0,[],false⟩) fun r9=>AF (Ys (!r9)) fun r10=>some (r10.1,r10.2)) fun r1=>AE (decide (r1.2=7)) (some 1) (AE (!decide (r1.2=0)) (some 0) (some r1.1.kind)):=rfl;rw[this,K1];rfl
def aHq(op a b:Int):Prop:=∃t,Xd op a b=some t/\Yw op a b=some t/\0<=t/\t<=3
theorem NX{op a b:Int}(h1:4<=op/\op<=16)(h2:1<=a/\a<=3)(h3:1<=b/\b<=3)(h4:op<=5->a=b):aHq op a b:=by
 have ho:op=4\/op=5\/op=6\/op=7\/op=8\/op=9\/op=10\/op=11\/op=12\/op=13\/op=14\/op=15\/op=16:=by omega
 have ha:a=1\/a=2\/a=3:=by omega
 have hb:b=1\/b=2\/b=3:=by omega
 rcases ho with rfl|rfl|rfl|rfl|rfl|rfl|rfl|rfl|rfl|rfl|rfl|rfl|rfl<;>rcases ha with rfl|rfl|rfl<;>rcases hb with rfl|rfl|rfl<;>
  first
  |exact⟨_,rfl,YY,by decide,by decide⟩
  |exact⟨_,rfl,YZ,by decide,by decide⟩
  |exact⟨_,rfl,rfl,by decide,by decide⟩
  |exact absurd (h4 (by decide)) (by decide)
def Kg(q:AA)(x:X8):Option Int:=
 if x.op=1 then if x.a=0/\x.b=0/\vR x.value=true then some x.value.kind else none
 else if¬(x.value=zV/\x.b=0/\0<=x.a)then none
 else if x.op=2 then(q.quants[x.a.toNat]?).map (·.type)
 else if x.op=3 then(q.frees[x.a.toNat]?).map (·.init_.kind)
 else none
theorem XO{q:AA}{i:Nat}{x:X8}(hx:q.nodes[i]? =some x):Q9 q i=some (match Kg q x with|some k=>(⟨k,1,i⟩,true)|none=>(⟨0,0,0⟩,false)):=by
 obtain⟨op,a,b,v⟩:=x;unfold Q9 Kg;rw[AU hx];simp only[X8.eqb_dec,X8.mk.injEq,AN,Wn,AH,true_and,and_true,decide_eq_true_eq];change (if op=1 then _ else _)=_
 by_cases h1:op=1;subst h1;simp only[if_true,if_false,show¬(1:Int)=2 by decide,show¬(1:Int)=3 by decide];by_cases ha:a=0<;>by_cases hb:b=0<;>cases hv:vR v<;>simp[ha,hb];simp only[if_neg h1];change (if op=2 then if b=0/\v=zV then _ else _ else if op=3 then if b=0/\v=zV then _ else _ else _)=_
 by_cases h2:op=2;subst h2;simp only[if_true,if_false,show¬(2:Int)=3 by decide];by_cases hb:b=0/\v=zV;rw[if_pos hb];by_cases ha:0<=a;rw[if_pos ha,if_neg (show¬ ¬(v=zV/\b=0/\0<=a)from fun h=>h ⟨hb.2,hb.1,ha⟩)];by_cases hl:a<(q.quants.length:Int);obtain⟨y,hy,_⟩:=II ha hl;rw[if_pos hl,Bn hy ha,hy];rfl;rw[if_neg hl,List.getElem?_eq_none (by omega)];rfl;rw[if_neg ha,if_pos (show¬(v=zV/\b=0/\0<=a)from fun h=>ha h.2.2)];rw[if_neg hb,if_pos (show¬(v=zV/\b=0/\0<=a)from fun h=>hb ⟨h.2.1,h.1⟩)];simp only[if_neg h2];by_cases h3:op=3;subst h3;simp only[if_true];by_cases hb:b=0/\v=zV;rw[if_pos hb];by_cases ha:0<=a;rw[if_pos ha,if_neg (show¬ ¬(v=zV/\b=0/\0<=a)from fun h=>h ⟨hb.2,hb.1,ha⟩)];by_cases hl:a<(q.frees.length:Int);obtain⟨y,hy,_⟩:=II ha hl;rw[if_pos hl,Bn hy ha,hy];rfl;rw[if_neg hl,List.getElem?_eq_none (by omega)];rfl;rw[if_neg ha,if_pos (show¬(v=zV/\b=0/\0<=a)from fun h=>ha h.2.2)];rw[if_neg hb,if_pos (show¬(v=zV/\b=0/\0<=a)from fun h=>hb ⟨h.2.1,h.1⟩)];simp only[if_neg h3,ite_self]
def YG(self:AA->Int->Option (Int×Int×Int))(q:AA)(i:Int)(x:X8):Option (Int×Int×Int):=
 AF (self q (AB .sub .i64 i 1)) fun r5=>
 if x.op<=5 then if r5.1=0\/x.a≠AB .sub .i64 i 1\/x.b≠0 then some (0,0,0)else AF (Yw x.op r5.1 r5.1) fun r6=>some (r6,(AB .add .i64 r5.2.1 1),r5.2.2)
 else if r5.1=0\/x.b≠AB .sub .i64 i 1\/x.a≠AB .sub .i64 r5.2.2 1 then some (0,0,0)else
  AF (self q (AB .sub .i64 r5.2.2 1)) fun r7=>AF (Yw x.op r7.1 r5.1) fun r8=>some (r8,(AB .add .i64 (Ea r5.2.1 r7.2.1) 1),r7.2.2)
theorem L3{self:AA->Int->Option (Int×Int×Int)}{q:AA}{i:Nat}{x:X8}(hx:q.nodes[i]? =some x):
 Jx self q i=match Kg q x with|some k=>some (k,1,(i:Int))|none=>if x.op<4\/16<x.op\/x.value≠zV then some (0,0,0)else YG self q i x:=by
 have hi:=CG hx
 obtain⟨op,a,b,v⟩:=x
 unfold Jx Kg YG
 rw[AN,if_neg (by simp),AN,if_neg (by simp;omega),AU hx]
 simp only[X4.eqb_dec,AN,Un,AH,decide_eq_true_eq,Bool.not_eq_true',decide_eq_false_iff_not]
 change (if op=1 then _ else if¬v=zV then _ else _)=_
 by_cases h1:op=1
 subst h1
 simp only[if_true]
 by_cases ha:a=0<;>by_cases hb:b=0<;>cases hv:vR v<;>simp[ha,hb]
 simp only[if_neg h1]
 by_cases hv:v=zV
 subst hv
 simp only[not_true_eq_false,if_false,true_and]
 by_cases h2:op=2
 subst h2
 simp only[if_true]
 by_cases ha:a<0
 rw[if_pos ha,if_pos (by omega)];simp
 rw[if_neg ha]
 by_cases hl:(q.quants.length:Int)<=a
 rw[if_pos hl,List.getElem?_eq_none (by omega)]
 simp only[Option.map_none,ite_self]
 simp
 obtain⟨y,hy,_⟩:=II (l:=q.quants) (i:=a) (by omega) (by omega)
 rw[if_neg hl,Bn hy (by omega),hy]
 by_cases hb:b=0
 rw[if_neg (by simp[hb]),if_neg (by simp[hb];omega)];rfl
 rw[if_pos hb,if_pos (by simp[hb])];simp
 simp only[if_neg h2]
 by_cases h3:op=3
 subst h3
 simp only[if_true]
 by_cases ha:a<0
 rw[if_pos ha,if_pos (by omega)];simp
 rw[if_neg ha]
 by_cases hl:(q.frees.length:Int)<=a
 rw[if_pos hl,List.getElem?_eq_none (by omega)]
 simp only[Option.map_none,ite_self]
 simp
 obtain⟨y,hy,_⟩:=II (l:=q.frees) (i:=a) (by omega) (by omega)
 rw[if_neg hl,Bn hy (by omega),hy]
 by_cases hb:b=0
 rw[if_neg (by simp[hb]),if_neg (by simp[hb];omega)];rfl
 rw[if_pos hb,if_pos (by simp[hb])];simp
 simp only[if_neg h3,ite_self]
 by_cases h4:op<4
 rw[if_pos h4];simp[h4]
 rw[if_neg h4]
 by_cases h5:16<op
 rw[if_pos h5];simp[h5]
 rw[if_neg h5]
 simp only[h4,h5,false_or,ne_eq,not_true_eq_false,if_false]
 congr 1
 funext r5
 by_cases h6:op<=5
 simp only[if_pos h6]
 by_cases h7:r5.1=0<;>by_cases h8:a=AB .sub .i64 i 1<;>by_cases h9:b=0<;>simp[h7,h8,h9]
 simp only[if_neg h6]
 by_cases h7:r5.1=0<;>by_cases h8:b=AB .sub .i64 i 1<;>by_cases h9:a=AB .sub .i64 r5.2.2 1<;>simp[h7,h8,h9]
 have:¬(v=zV/\b=0/\0<=a):=fun h=>hv h.1
 rw[if_pos hv,if_pos this]
 simp[hv]
end
end Go.Ac
