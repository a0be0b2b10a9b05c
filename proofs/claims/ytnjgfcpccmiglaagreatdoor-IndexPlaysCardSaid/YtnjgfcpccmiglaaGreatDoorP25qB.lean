/- Own work: the plain law. -/
import Derived.Test.YtnjgfcpccmiglaaGreatDoorP25qA
set_option linter.unusedVariables false
set_option linter.unusedSimpArgs false
namespace Go.Ac
noncomputable section
def vR(v:X3):Bool:=
 if v.kind=1 then decide (v.str=[])&& !v.bool
 else if v.kind=2 then decide (v.int=0)&& !v.bool&&decide (v.str.length<=4096)
 else if v.kind=3 then decide (v.int=0)&&decide (v.str=[])else false
theorem X3.eqb_dec(a b:X3):X3.eqb a b=decide (a=b):=by rw[Bool.eq_iff_iff,X3.eqb_iff];simp
theorem Xb.eqb_dec(a b:Xb):Xb.eqb a b=decide (a=b):=by rw[Bool.eq_iff_iff,Xb.eqb_iff];simp
def zV:X3:=⟨0,0,[],false⟩
theorem Rz(v:X3):Zm v=some (vR v):=by
 unfold Zm vR;have hc:decide ((v.str.length:Int)<=4096)=decide (v.str.length<=4096):=by
  by_cases h:v.str.length<=4096;have:(v.str.length:Int)<=4096:=by omega
  simp[h,this];have:¬(v.str.length:Int)<=4096:=by omega
  simp[h,this]
 rw[hc];by_cases h1:v.kind=1;by_cases hs:v.str=[]<;>simp[h1,hs,AE];by_cases h2:v.kind=2;by_cases hn:v.int=0<;>cases hb:v.bool<;>simp[h2,hn,AE];by_cases h3:v.kind=3;by_cases hn:v.int=0<;>simp[h3,hn,AE];simp[h1,h2,h3,AE]
theorem aM9(v:X3):Zp v=some (vR v):=by rw[<-Rz];obtain⟨k,n,s,b⟩:=v;unfold Zp Zm U2 U3 U4;simp only[AD,CX,X3.eqb_dec,X3.mk.injEq,AL];by_cases h1:k=1;subst h1;by_cases hs:s=[]<;>cases b<;>simp[hs];by_cases h2:k=2;subst h2;by_cases hn:n=0<;>cases b<;>simp[hn];by_cases h3:k=3;subst h3;by_cases hn:n=0<;>by_cases hs:s=[]<;>cases b<;>simp[hn,hs];simp[h1,h2,h3]
theorem aCn{v:X3}(h:vR v=true):1<=v.kind/\v.kind<=3:=by unfold vR at h;split at h;omega;split at h;omega;split at h;omega;cases h
theorem K3{α:Type}{l:List α}{i:Int}(h0:0<=i)(h1:i<l.length):∃x,l[i.toNat]? =some x/\i=(i.toNat:Int):=by obtain⟨x,hx,_⟩:=A8 (l:=l) (i:=i.toNat) (by omega);exact⟨x,hx,by omega⟩
theorem B0{α β:Type}{l:List α}{i:Int}{x:α}(h:l[i.toNat]? =some x)(h0:0<=i)(k:α->Option β):Ab l i k=k x:=by have e:Ab l ((i.toNat:Nat):Int) k=k x:=AN h k;rwa [show((i.toNat:Nat):Int)=i by omega]at e
theorem S5:Yy [] []=some false:=by unfold Yy aHn;rw[Au];simp[FF,AE,Bh,AG,As]
theorem OZ:Qt ⟨2,0,[],false⟩ ⟨2,0,[],false⟩=some false:=by show AG (Yy [] []) _=_;rw[S5];rfl
theorem aQe:Zr 15 2 2=some 3:=by have:Zr 15 2 2=AG (AG (Qt ⟨2,0,[],false⟩ ⟨2,0,[],false⟩) fun r9=>AG (Zn r9) fun r10=>some (r10.1,r10.2)) fun r1=>AE (decide (r1.2=7)) (some 1) (AE (!decide (r1.2=0)) (some 0) (some r1.1.kind)):=rfl;rw[this,OZ];rfl
theorem aQf:Zr 16 2 2=some 3:=by have:Zr 16 2 2=AG (AG (Qt ⟨2,0,[],false⟩ ⟨2,0,[],false⟩) fun r9=>AG (Zn (!r9)) fun r10=>some (r10.1,r10.2)) fun r1=>AE (decide (r1.2=7)) (some 1) (AE (!decide (r1.2=0)) (some 0) (some r1.1.kind)):=rfl;rw[this,OZ];rfl
def bAr(op a b:Int):Prop:=∃t,Xf op a b=some t/\Zr op a b=some t/\0<=t/\t<=3
theorem TC{op a b:Int}(h1:4<=op/\op<=16)(h2:1<=a/\a<=3)(h3:1<=b/\b<=3)(h4:op<=5->a=b):bAr op a b:=by
 have ho:op=4\/op=5\/op=6\/op=7\/op=8\/op=9\/op=10\/op=11\/op=12\/op=13\/op=14\/op=15\/op=16:=by omega
 have ha:a=1\/a=2\/a=3:=by omega
 have hb:b=1\/b=2\/b=3:=by omega
 rcases ho with rfl|rfl|rfl|rfl|rfl|rfl|rfl|rfl|rfl|rfl|rfl|rfl|rfl<;>rcases ha with rfl|rfl|rfl<;>rcases hb with rfl|rfl|rfl<;>
  first
  |exact⟨_,rfl,aQe,by decide,by decide⟩
  |exact⟨_,rfl,aQf,by decide,by decide⟩
  |exact⟨_,rfl,rfl,by decide,by decide⟩
  |exact absurd (h4 (by decide)) (by decide)
def N9(q:AA)(x:Xb):Option Int:=
 if x.op=1 then if x.a=0/\x.b=0/\vR x.value=true then some x.value.kind else none
 else if¬(x.value=zV/\x.b=0/\0<=x.a)then none
 else if x.op=2 then(q.quants[x.a.toNat]?).map (·.type)
 else if x.op=3 then(q.frees[x.a.toNat]?).map (·.init_.kind)
 else none
theorem aOc{q:AA}{i:Nat}{x:Xb}(hx:q.nodes[i]? =some x):U5 q i=some (match N9 q x with|some k=>(⟨k,1,i⟩,true)|none=>(⟨0,0,0⟩,false)):=by
 obtain⟨op,a,b,v⟩:=x;unfold U5 N9;rw[AN hx];simp only[Xb.eqb_dec,Xb.mk.injEq,AL,aM9,AD,true_and,and_true,decide_eq_true_eq];change (if op=1 then _ else _)=_
 by_cases h1:op=1;subst h1;simp only[if_true,if_false,show¬(1:Int)=2 by decide,show¬(1:Int)=3 by decide];by_cases ha:a=0<;>by_cases hb:b=0<;>cases hv:vR v<;>simp[ha,hb];simp only[if_neg h1];change (if op=2 then if b=0/\v=zV then _ else _ else if op=3 then if b=0/\v=zV then _ else _ else _)=_
 by_cases h2:op=2;subst h2;simp only[if_true,if_false,show¬(2:Int)=3 by decide];by_cases hb:b=0/\v=zV;rw[if_pos hb];by_cases ha:0<=a;rw[if_pos ha,if_neg (show¬ ¬(v=zV/\b=0/\0<=a)from fun h=>h ⟨hb.2,hb.1,ha⟩)];by_cases hl:a<(q.quants.length:Int);obtain⟨y,hy,_⟩:=K3 ha hl;rw[if_pos hl,B0 hy ha,hy];rfl;rw[if_neg hl,List.getElem?_eq_none (by omega)];rfl;rw[if_neg ha,if_pos (show¬(v=zV/\b=0/\0<=a)from fun h=>ha h.2.2)];rw[if_neg hb,if_pos (show¬(v=zV/\b=0/\0<=a)from fun h=>hb ⟨h.2.1,h.1⟩)];simp only[if_neg h2];by_cases h3:op=3;subst h3;simp only[if_true];by_cases hb:b=0/\v=zV;rw[if_pos hb];by_cases ha:0<=a;rw[if_pos ha,if_neg (show¬ ¬(v=zV/\b=0/\0<=a)from fun h=>h ⟨hb.2,hb.1,ha⟩)];by_cases hl:a<(q.frees.length:Int);obtain⟨y,hy,_⟩:=K3 ha hl;rw[if_pos hl,B0 hy ha,hy];rfl;rw[if_neg hl,List.getElem?_eq_none (by omega)];rfl;rw[if_neg ha,if_pos (show¬(v=zV/\b=0/\0<=a)from fun h=>ha h.2.2)];rw[if_neg hb,if_pos (show¬(v=zV/\b=0/\0<=a)from fun h=>hb ⟨h.2.1,h.1⟩)];simp only[if_neg h3,ite_self]
def aO7(self:AA->Int->Option (Int×Int×Int))(q:AA)(i:Int)(x:Xb):Option (Int×Int×Int):=
 AG (self q (AB .sub .i64 i 1)) fun r5=>
 if x.op<=5 then if r5.1=0\/x.a≠AB .sub .i64 i 1\/x.b≠0 then some (0,0,0)else AG (Zr x.op r5.1 r5.1) fun r6=>some (r6,(AB .add .i64 r5.2.1 1),r5.2.2)
 else if r5.1=0\/x.b≠AB .sub .i64 i 1\/x.a≠AB .sub .i64 r5.2.2 1 then some (0,0,0)else
  AG (self q (AB .sub .i64 r5.2.2 1)) fun r7=>AG (Zr x.op r7.1 r5.1) fun r8=>some (r8,(AB .add .i64 (Fv r5.2.1 r7.2.1) 1),r7.2.2)
theorem P8{self:AA->Int->Option (Int×Int×Int)}{q:AA}{i:Nat}{x:Xb}(hx:q.nodes[i]? =some x):
 NM self q i=match N9 q x with|some k=>some (k,1,(i:Int))|none=>if x.op<4\/16<x.op\/x.value≠zV then some (0,0,0)else aO7 self q i x:=by
 have hi:=BM hx
 obtain⟨op,a,b,v⟩:=x
 unfold NM N9 aO7
 rw[AL,if_neg (by simp),AL,if_neg (by simp;omega),AN hx]
 simp only[X3.eqb_dec,AL,Rz,AD,decide_eq_true_eq,Bool.not_eq_true',decide_eq_false_iff_not]
 change (if op=1 then _ else if¬v=zV then _ else _)=_
 by_cases h1:op=1
 subst h1
 simp only[if_true]
 by_cases ha:a=0<;>by_cases hb:b=0<;>cases hv:vR v<;>simp[ha,hb]
 simp only[if_neg h1]
 by_cases hv:v=zV
 subst hv
 simp only[not_true_eq_false,if_false,true_and]
 by_cases h2:op=2
 subst h2
 simp only[if_true]
 by_cases ha:a<0
 rw[if_pos ha,if_pos (by omega)];simp
 rw[if_neg ha]
 by_cases hl:(q.quants.length:Int)<=a
 rw[if_pos hl,List.getElem?_eq_none (by omega)]
 simp only[Option.map_none,ite_self]
 simp
 obtain⟨y,hy,_⟩:=K3 (l:=q.quants) (i:=a) (by omega) (by omega)
 rw[if_neg hl,B0 hy (by omega),hy]
 by_cases hb:b=0
 rw[if_neg (by simp[hb]),if_neg (by simp[hb];omega)];rfl
 rw[if_pos hb,if_pos (by simp[hb])];simp
 simp only[if_neg h2]
 by_cases h3:op=3
 subst h3
 simp only[if_true]
 by_cases ha:a<0
 rw[if_pos ha,if_pos (by omega)];simp
 rw[if_neg ha]
 by_cases hl:(q.frees.length:Int)<=a
 rw[if_pos hl,List.getElem?_eq_none (by omega)]
 simp only[Option.map_none,ite_self]
 simp
 obtain⟨y,hy,_⟩:=K3 (l:=q.frees) (i:=a) (by omega) (by omega)
 rw[if_neg hl,B0 hy (by omega),hy]
 by_cases hb:b=0
 rw[if_neg (by simp[hb]),if_neg (by simp[hb];omega)];rfl
 rw[if_pos hb,if_pos (by simp[hb])];simp
 simp only[if_neg h3,ite_self]
 by_cases h4:op<4
 rw[if_pos h4];simp[h4]
 rw[if_neg h4]
 by_cases h5:16<op
 rw[if_pos h5];simp[h5]
 rw[if_neg h5]
 simp only[h4,h5,false_or,ne_eq,not_true_eq_false,if_false]
 congr 1
 funext r5
 by_cases h6:op<=5
 simp only[if_pos h6]
 by_cases h7:r5.1=0<;>by_cases h8:a=AB .sub .i64 i 1<;>by_cases h9:b=0<;>simp[h7,h8,h9]
 simp only[if_neg h6]
 by_cases h7:r5.1=0<;>by_cases h8:b=AB .sub .i64 i 1<;>by_cases h9:a=AB .sub .i64 r5.2.2 1<;>simp[h7,h8,h9]
 have:¬(v=zV/\b=0/\0<=a):=fun h=>hv h.1
 rw[if_pos hv,if_pos this]
 simp[hv]
end
end Go.Ac
