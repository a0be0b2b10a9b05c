/- Own work: the plain law. -/
import Derived.Test.YtnjgfcpccmiglaaGreatDoorP25U
set_option linter.unusedVariables false
set_option linter.unusedSimpArgs false
namespace Go.Ac
def SS(b:List X0)(n:Int):List UInt8:=if(BJ b n).2=true then Bf (BJ b n).1 else []
def at2(i j:Nat):List UInt8:=[u8w (i:Int),u8w (j:Int)]
theorem aBg(b:List X0)(s:Int)(p:List UInt8):∀(al:List AX) (j0:Nat),p∈plS b s j0 al↔ ∃j a,al[j]? =some a/\a.kind=2/\p=[u8w s,u8w ((j0+j:Nat):Int)]++SS b a.n
 |[],j0=>by simp[plS]
 |a::al,j0=>by
  rw[plS,ma,aBg b s p al (j0+1)];constructor;rintro(h|⟨j,x,hx,hk,rfl⟩);unfold plA at h;split at h;rename_i hk;rw[List.mem_singleton]at h;exact⟨0,a,rfl,hk,h⟩;cases h;exact⟨j+1,x,by simpa using hx,hk,by rw[show j0+1+j=j0+(j+1) by omega]⟩;rintro⟨j,x,hx,hk,rfl⟩;cases j with
  |zero=>
   simp only[List.getElem?_cons_zero,oe]at hx
   subst hx
   left
   unfold plA
   rw[if_pos hk,List.mem_singleton];rfl
  |succ j=>
   right
   exact⟨j,x,by simpa using hx,hk,by rw[show j0+1+j=j0+(j+1) by omega]⟩
theorem aBf(b:List X0)(p:List UInt8):∀(sl:List X2) (i0:Nat),p∈plQ b i0 sl↔ ∃i sy j a,sl[i]? =some sy/\sy.args[j]? =some a/\a.kind=2/\p=at2 (i0+i) j++SS b a.n
 |[],i0=>by simp[plQ]
 |y::sl,i0=>by
  rw[plQ,ma,aBf b p sl (i0+1),aBg];constructor;rintro(⟨j,a,ha,hk,rfl⟩|⟨i,sy,j,a,hs,ha,hk,rfl⟩);exact⟨0,y,j,a,rfl,ha,hk,by rw[Nat.zero_add];rfl⟩;exact⟨i+1,sy,j,a,by simpa using hs,ha,hk,by rw[show i0+1+i=i0+(i+1) by omega]⟩;rintro⟨i,sy,j,a,hs,ha,hk,rfl⟩;cases i with
  |zero=>
   simp only[List.getElem?_cons_zero,oe]at hs
   subst hs
   left
   exact⟨j,a,ha,hk,by rw[Nat.zero_add];rfl⟩
  |succ i=>
   right
   exact⟨i,sy,j,a,by simpa using hs,ha,hk,by rw[show i0+1+i=i0+(i+1) by omega]⟩
theorem aCi{a b:Nat}(ha:a<256)(hb:b<256)(h:u8w (a:Int)=u8w (b:Int)):a=b:=by have:=congrArg UInt8.toNat h;rwa [Ky ha,Ky hb]at this
theorem aNq{i j i' j':Nat}{x y:List UInt8}(h1:i<256)(h2:j<256)(h3:i'<256)(h4:j'<256)(h:at2 i j++x=at2 i' j'++y):i=i'/\j=j'/\x=y:=by unfold at2 at h;simp only[List.cons_append,List.nil_append,List.cons.injEq]at h;exact⟨aCi h1 h3 h.1,aCi h2 h4 h.2.1,h.2.2⟩
theorem aBh{q:AA}(hF:CV q){i j:Nat}{sy:X2}{a:AX}(hs:q.symbols[i]? =some sy)(ha:sy.args[j]? =some a)(hk:a.kind=2)(b:List X0)(x:List UInt8):at2 i j++x∈plc q b↔SS b a.n=x:=by have f1:=hF.symbols;have f2:=hF.args sy (List.mem_of_getElem? hs);have g1:=BM hs;have g2:=BM ha;unfold plc;rw[aBf];constructor;rintro⟨i',sy',j',a',hs',ha',hk',e⟩;have f2':=hF.args sy' (List.mem_of_getElem? hs');have g1':=BM hs';have g2':=BM ha';rw[Nat.zero_add]at e;obtain⟨rfl,rfl,rfl⟩:=aNq (by omega) (by omega) (by omega) (by omega) e;rw[hs]at hs';cases hs';rw[ha]at ha';cases ha';rfl;rintro rfl;exact⟨i,sy,j,a,hs,ha,hk,by rw[Nat.zero_add]⟩
theorem Kc(v:X3):Bf v≠[]:=by unfold Bf;split;simp;split<;>simp
theorem aA3{v w:X3}(hv:VOk v)(hw:VOk w)(h:Bf v=Bf w):v=w:=by have h1:=aLg hv [];have h2:=aLg hw [];rw[h,h2]at h1;simpa using h1.symm
theorem QK{b:List X0}(hb:BOk b){n:Int}{v:X3}(hv:VOk v):SS b n=Bf v↔BJ b n=(v,true):=by unfold SS;constructor;intro h;split at h;rename_i hg;have:=aA3 (KW hb hg) hv h;exact Prod.ext this hg;exact absurd h.symm (Kc v);intro h;rw[h];rfl
theorem QL{b:List X0}{n:Int}:SS b n=[]↔(BJ b n).2=false:=by unfold SS;split;rename_i hg;simp[hg,Kc];rename_i hg;simpa using hg
theorem INV.at{n:Nat}{q:AA}{L:List Ent}{M:MP Int (List X0)}{m:PM}(h:INV n q L M m)(hF:CV q){i j:Nat}{sy:X2}{a:AX}(hs:q.symbols[i]? =Option.some sy)(ha:sy.args[j]? =Option.some a)(hk:a.kind=2)(x:List UInt8)(y:Int):
 y∈Gp m (at2 i j++x)↔ ∃e∈L,e.iD=y/\SS e.bind a.n=x:=by
 rw[h.pl]
 constructor
 rintro⟨e,he,h1,h2⟩
 exact⟨e,he,h1,(aBh hF hs ha hk _ _).1 h2⟩
 rintro⟨e,he,h1,h2⟩
 exact⟨e,he,h1,(aBh hF hs ha hk _ _).2 h2⟩
theorem aK6{α:Type} [DecidableEq α]:∀{r l:List α},r.Pairwise (· ≠ ·)->(∀x∈r,x∈l)->r.length<=l.length
 |[],_,_,_=>by simp
 |x::r,l,hp,hm=>by
  rw[List.pairwise_cons]at hp;have hx:=hm x (by simp);have:=aK6 (r:=r) (l:=l.erase x) hp.2 fun y hy=>(List.mem_erase_of_ne fun e=>hp.1 y hy e.symm).2 (hm y (List.mem_cons_of_mem _ hy));rw[List.length_erase_of_mem hx]at this;have:=List.length_pos_of_mem hx;rw[List.length_cons];omega
def Is(L:List Ent)(F:List X0->Prop)(r:List Int):Prop:=Rs r/\∀y,y∈r↔ ∃e∈L,e.iD=y/\F e.bind
theorem Is.len{L:List Ent}{F:List X0->Prop}{r:List Int}(h:Is L F r):r.length<=L.length:=by
 have:=aK6 (r:=r) (l:=L.map (·.iD)) (h.1.imp fun h=>by omega) fun x hx=>by obtain⟨e,he,h1,_⟩:=(h.2 x).1 hx;exact h1▸List.mem_map_of_mem he
 simpa using this
theorem Is.uniq{L:List Ent}{F G:List X0->Prop}{r s:List Int}(h:Is L F r)(h':Is L G s)(hFG:∀e∈L,F e.bind↔G e.bind):r=s:=
 aQd h.1 h'.1 fun x=>by rw[h.2,h'.2];constructor;rintro⟨e,he,h1,h2⟩;exact⟨e,he,h1,(hFG e he).1 h2⟩;rintro⟨e,he,h1,h2⟩;exact⟨e,he,h1,(hFG e he).2 h2⟩
theorem Is.congr{L:List Ent}{F G:List X0->Prop}{r:List Int}(h:Is L F r)(hFG:∀e∈L,F e.bind↔G e.bind):Is L G r:=
 ⟨h.1,fun y=>by rw[h.2];constructor;rintro⟨e,he,h1,h2⟩;exact⟨e,he,h1,(hFG e he).1 h2⟩;rintro⟨e,he,h1,h2⟩;exact⟨e,he,h1,(hFG e he).2 h2⟩⟩
theorem Is.join{L:List Ent}{F G:List X0->Prop}{r s t:List Int}(h:Is L F r)(h':Is L G s)(ht:Rs t)(hm:∀y,y∈t↔y∈r\/y∈s):Is L (fun b=>F b\/G b) t:=
 ⟨ht,fun y=>by rw[hm,h.2,h'.2];constructor;rintro(⟨e,he,h1,h2⟩|⟨e,he,h1,h2⟩);exact⟨e,he,h1,.inl h2⟩;exact⟨e,he,h1,.inr h2⟩;rintro⟨e,he,h1,h2|h2⟩;exact .inl ⟨e,he,h1,h2⟩;exact .inr ⟨e,he,h1,h2⟩⟩
theorem Is.common{L:List Ent}(hu:(L.map (·.iD)).Pairwise (· ≠ ·)){F G:List X0->Prop}{r s t:List Int}(h:Is L F r)(h':Is L G s)(ht:Rs t)(hm:∀y,y∈t↔y∈r/\y∈s):Is L (fun b=>F b/\G b) t:=
 ⟨ht,fun y=>by rw[hm,h.2,h'.2];constructor;rintro⟨⟨e,he,h1,h2⟩,⟨e',he',h1',h2'⟩⟩;obtain rfl:=Go.Ac.uniq hu he he' (h1.trans h1'.symm);exact⟨e,he,h1,h2,h2'⟩;rintro⟨e,he,h1,h2,h3⟩;exact⟨⟨e,he,h1,h2⟩,⟨e,he,h1,h3⟩⟩⟩
theorem aJw{l m:List Int}(h:l.Perm m):aLh l=aLh m:=by
 have le:∀l:List Int,(aLh l).Pairwise (· <= ·):=fun l=>by
  have ins:∀(x:Int) (l:List Int),l.Pairwise (· <= ·)->(N6 (fun a b=>decide (a<=b)) x l).Pairwise (· <= ·):=by
   intro x l;induction l with
   |nil=>intro _;simp[N6]
   |cons y l ih=>
    intro h
    rw[List.pairwise_cons]at h
    rw[N6]
    split
    rename_i hxy
    have hxy:x<=y:=of_decide_eq_true hxy
    rw[List.pairwise_cons]
    refine⟨fun z hz=>?_,List.pairwise_cons.2 h⟩
    rcases mc.1 hz with rfl|hz
    exact hxy
    exact Int.le_trans hxy (h.1 z hz)
    rename_i hxy
    have hxy:¬x<=y:=of_decide_eq_false hxy
    rw[List.pairwise_cons]
    refine⟨fun z hz=>?_,ih h.2⟩
    rcases mc.1 ((FR _ _ _).mem_iff.1 hz)with rfl|hz
    omega
    exact h.1 z hz
  unfold aLh;induction l with
  |nil=>simp[MQ]
  |cons x l ih=>rw[MQ];exact ins x _ ih
 exact List.Perm.eq_of_pairwise (le:=fun a b:Int=>a<=b) (fun a b _ _ h1 h2=>Int.le_antisymm h1 h2) (le l) (le m) ((DX l).trans (h.trans (DX m).symm))
end Go.Ac
