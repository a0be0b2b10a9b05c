/- Own work: how calls of the model run over plain data. -/
import Derived.Test.YtnjgfcpccmiglaaGreatDoorAcA
import Derived.MapKept
import Derived.ChangeKeysEq
import Derived.WideKeyRuns
import Derived.RangeFuncSeq
import Derived.Maps.RangeRun
import Derived.RangeFuncLeaves
import Derived.RangeFuncCalls
import Derived.OrdersIn
set_option linter.unusedVariables false
set_option linter.unusedSimpArgs false
namespace Go.Ac
theorem aOr(P:Program)(w:World)(t e:TypeId)(hu:P.underlying t=some (.slice e))(hI:(P.info? e).isSome=true)(g n cap:Nat)(k:IntKind)(i:Int)(h0:0<=i)(h1:i<=cap):
 (Instr.sliceAt t (.slice (some ⟨g,0,none⟩) n cap) none (some (.int k i)) none).run P w=.ok (.slice (some ⟨g,0,none⟩) i.toNat cap) w:=by
 have hP:P.elem t=e:=by simp[Program.elem,hu]
 have hq:P.underlying t=some (.slice (P.elem t)):=by rw[hP];exact hu
 rw[run_sliceAt_slice w t _ _ _ _ hq,run_slice_h w t _ _ _ hq k i h0 h1,hP,Aw hI]
 simp[sliced,Addr.add]
def Ei:Op->Bool
 | .defer _=>false
 |_=>true
def ZK(P:Program)(o:Oper)(s:St)(wt:W):Option (Cn×A×List Ed):=
 match o.dst,o.op with
 |some d,.slice t x none (some y) none=>match aCu s (s.ev x),s.ev y,P.underlying t with
  |some (n,e,k,xs),.d (.v (.int _ i)),some (.slice e')=>
   if e'==e&&(P.info? e).isSome&&decide (d<up)&& !AV d s.E&& !BW d s.B then
    some (.both (.le 0 i) (.both (.le i xs.length) (.app (xs.take i.toNat) [] (K4 (fun _=>xs.take i.toNat) wt))),.row d,[.chg n .dead,.add d (.rw e k (K4 (fun _=>xs.take i.toNat) wt))])else none
  |_,_,_=>none
 |_,_=>none
theorem ZL{P:Program}{o:Oper}{s:St}{wt:W}{Φ:Cn}{r:A}{es:List Ed}(he:ZK P o s wt=some (Φ,r,es)):EM P o s Φ.ok r (s.edit es):=by
 intro hΦ h w val a H K Q hK;unfold ZK at he;split at he;rename_i d t x y hd ho;split at he;rename_i n e k xs ki i e' hb hi hu;split at he;rename_i hc;simp only[ba,beq_iff_eq,decide_eq_true_eq,Bool.not_eq_true']at hc;obtain⟨⟨⟨⟨rfl,hI⟩,c1⟩,c2⟩,c3⟩:=hc;simp only[oe,pe]at he;obtain⟨rfl,rfl,rfl⟩:=he;simp only[Cn.ok]at hΦ;obtain⟨p1,p2,p3⟩:=hΦ;rw[<-p3,List.append_nil]at hK;have hΦ:0<=i/\i<=(xs.length:Int):=⟨p1,p2⟩;obtain⟨hl,hu1,us,hown,hrow,hh⟩:=Kt H (H.ev x) hb;have hi':=H.ev y;rw[hi]at hi';simp only[RA,RD]at hi';obtain⟨hdrop,hsub,hnot⟩:=H.dead' hl rfl;have hmem:(n,Bk.rw e' k xs)∈s.all:=ml_ _ (Ag hl);have hlen:=Ah.length hrow;have hlt:(xs.take i.toNat).length=i.toNat:=by rw[List.length_take];omega
 --the value behind
 obtain⟨v',hrun,hown',hsame⟩:∃v',(Instr.sliceAt t (val n) none (some (.int ki i)) none).run P w=.ok v' w/\w.ownsRow 0 e' k v' (xs.take i.toNat).length (us.take (i.toNat*k))/\v'.ownBlock=(val n).ownBlock:=by
  rcases hown.2 with⟨hv,hz⟩|⟨g,cap,cur,hv,hg0,hg,hn,hm,hs,ht⟩
  have hi0:i=0:=by omega
  subst hi0;refine⟨.slice none 0 0,?_,?_,by rw[hv]⟩;have hP:P.elem t=e':=by simp[Program.elem,hu]
  have hq:P.underlying t=some (.slice (P.elem t)):=by rw[hP];exact hu
  rw[hv,run_sliceAt_slice w t _ _ _ _ hq,run_slice_h w t _ _ _ hq ki 0 (by omega) (by omega),hP,Aw hI];simp[sliced];have:=World.ownsRow_nil w 0 e' k;simpa using this;refine⟨.slice (some ⟨g,0,none⟩) i.toNat cap,?_,⟨?_,.inr ⟨g,cap,cur,by rw[hlt],hg0,hg,by rw[hlt];omega,hm,hs,?_⟩⟩,by rw[hv];rfl⟩;rw[hv];exact aOr P w t e' hu hI g _ cap ki i hΦ.1 (by omega);rw[hlt,List.length_take,hlen];have:=Nat.mul_le_mul_right k (show i.toNat<=xs.length by omega);omega;rw[hlt,<-ht,List.take_take];have:=Nat.mul_le_mul_right k (show i.toNat<=xs.length by omega);rw[Nat.min_eq_left this]
 have hvb:vblk v'=v'.ownBlock:=BV hown';have hvd:An val d v' d=v':=by simp[An]
 obtain⟨k2,k3⟩:=hdrop.add c1 c2 (Dh c3 rfl) (BI.refl [] h w) (fun b _ hm=>by cases hm) (fun b hb=>by cases hb) v' (.rw e' k (xs.take i.toNat)) (fun b hb=>hnot b (by
  rw[hvb,hsame]at hb;exact B4 hb)) rfl
  ⟨us.take (i.toNat*k),by rw[hvd];exact hown',Ah.take _ hrow,fun g hg=>hh g (by rw[hvd,hsame]at hg;exact hg)⟩
 refine AQ (u:=v') (w':=w) ?_ (hK h w _ v' (by simp only[RA];exact⟨by simp[An],.inl (Bq hown')⟩) k2.ins (Nx.ins ⟨BI.refl _ _ _,fun m hm=>by have:m≠d:=Nat.ne_of_gt (Nat.lt_of_lt_of_le c1 (Ic hm));simp[An,this],fun b hb=>?_⟩));simp[execOp,ho,hu1,hi'.1,hrun];replace hb:b∈Aa (An val d v') ((d,Bk.rw e' k (xs.take i.toNat))::({s with B:=BG s.B n .dead}:St).all):=hb
 rw[k3]at hb;rcases ma.1 hb with hb|hb
 refine .inl ?_;simp only[Option.mem_toList]at hb;rw[hvb,hsame]at hb;exact Inv.blk_mem hmem (Ar (B4 hb) rfl);exact .inl (hsub b hb);cases he;cases he;cases he
def P2(P:Program)(s:St)(o o2:Oper)(wt:W):Option (Cn×List Ed):=
 match o.dst,o.op,o2.op with
 |some d,.slice t x (some y) none none,.call c=>match c.callee,c.args.toList,c.argTypes.toList with
  | .builtin .clear,[.tmp d'],[t']=>match aCu s (s.ev x),s.ev y,P.underlying t with
   |some (n,e,k,xs),.d (.v (.int _ i)),some (.slice e')=>match P.info? e with
    |some inf=>match inf.zero with
     |some z=>if d'==d&&t'==t&&e'==e&&o.guard.isNone&&o2.guard.isNone&&z.cells.size==k&&inf.size==k&&z.cells.toList.all (·.oneCell')&&(Cp z).nc==k&&decide (0<k)&&decide (d<s.E.length)then
      some (.both (.le 0 i) (.both (.le i xs.length) (.app (xs.take i.toNat) (List.replicate (xs.length-i.toNat) (Cp z)) (K4 (fun _=>xs.take i.toNat++List.replicate (xs.length-i.toNat) (Cp z)) wt))),[.chg n (.rw e k (K4 (fun _=>xs.take i.toNat++List.replicate (xs.length-i.toNat) (Cp z)) wt))])else none
     |none=>none
    |none=>none
   |_,_,_=>none
  |_,_,_=>none
 |_,_,_=>none
theorem YZ{P:Program}{o o2:Oper}{s:St}{wt:W}{Φ:Cn}{es:List Ed}(he:P2 P s o o2 wt=some (Φ,es))(hΦ:Φ.ok){h w val}{a:Act}(H:Holds s h w val a):
 ∃d u w',o.dst=some d/\o.guard=none/\o2.guard=none/\Ei o.op=true/\Ei o2.op=true/\(execOp a.eval o).run P w=.ok (.value u) w/\(execOp (a.put (some d) u).eval o2).run P w=.ok (.value (.tuple #[])) w'/\
  Holds (s.edit es) h w' val a/\Nx s h w val (s.edit es) h w' val:=by
 unfold P2 at he
 split at he
 rename_i d t x y c hd ho ho2
 obtain⟨callee,args,argTypes⟩:=c
 simp only at he
 split at he
 rename_i d' t' hargs htys
 obtain⟨args⟩:=args
 obtain⟨argTypes⟩:=argTypes
 simp only at hargs htys
 subst hargs;subst htys
 split at he
 rename_i n e k xs ki i e' hb hi hu
 split at he
 rename_i inf hinf
 split at he
 rename_i z hz
 split at he
 rename_i hc
 simp only[ba,beq_iff_eq,decide_eq_true_eq,Option.isNone_iff_eq_none]at hc
 obtain⟨⟨⟨⟨⟨⟨⟨⟨⟨⟨rfl,rfl⟩,rfl⟩,g1⟩,g2⟩,zs⟩,is⟩,z1⟩,zn⟩,hk0⟩,hdl⟩:=hc
 simp only[oe,pe]at he
 obtain⟨rfl,rfl⟩:=he
 simp only[Cn.ok]at hΦ
 obtain⟨p1,p2,p3⟩:=hΦ
 rw[<-p3]
 have hΦ:0<=i/\i<=(xs.length:Int):=⟨p1,p2⟩
 have z1':∀v∈z.cells.toList,v.oneCell'=true:=fun v hv=>List.all_eq_true.1 z1 v hv
 obtain⟨hl,hu1,us,hown,hrow,hh⟩:=Kt H (H.ev x) hb
 have hi':=H.ev y
 rw[hi]at hi'
 simp only[RA,RD]at hi'
 have hP:P.elem t'=e':=by simp[Program.elem,hu]
 have hq:P.underlying t'=some (.slice (P.elem t')):=by rw[hP];exact hu
 have hI:(P.info? e').isSome=true:=by rw[hinf];rfl
 have hcs:P.cellsOf e'=k:=by simp[Program.cellsOf,hinf,is]
 have hzv:∀w,(zeroValue e').run P w=.ok z w:=fun w=>by simp[zeroValue,typeInfo,hinf,hz]
 have hlen:=Ah.length hrow
 have hput:∀u,(a.put (some d') u).eval (.tmp d')=u:=fun u=>by
  have hsz:a.tmps.size=s.E.length:=by have:=RAs.length H.e;simpa using this
  simp[Act.put,Act.eval,hsz,hdl]
 have same:(∀u,(execOp a.eval o).run P w=.ok (.value u) w->(execOp (a.put (some d') u).eval o2).run P w=.ok (.value (.tuple #[])) w)->xs.length-i.toNat=0->(∃u,(execOp a.eval o).run P w=.ok (.value u) w)->
  ∃d u w',o.dst=some d/\o.guard=none/\o2.guard=none/\Ei o.op=true/\Ei o2.op=true/\(execOp a.eval o).run P w=.ok (.value u) w/\(execOp (a.put (some d) u).eval o2).run P w=.ok (.value (.tuple #[])) w'/\
   Holds (s.edit [.chg n (.rw e' k (xs.take i.toNat++List.replicate (xs.length-i.toNat) (Cp z)))]) h w' val a/\Nx s h w val (s.edit [.chg n (.rw e' k (xs.take i.toNat++List.replicate (xs.length-i.toNat) (Cp z)))]) h w' val:=by
  intro h1 h2 h3
  obtain⟨u,hu⟩:=h3
  have e1:xs.take i.toNat++List.replicate (xs.length-i.toNat) (Cp z)=xs:=by rw[h2,List.replicate_zero,List.append_nil,List.take_of_length_le (by omega)]
  have e2:s.edit [.chg n (.rw e' k xs)]=s:=by
   have:BG s.B n (.rw e' k xs)=s.B:=by
    unfold BG;rw[List.map_congr_left (g:=id)];simp;intro p hp;split;rename_i hpn;have hp2:p=(n,Bk.rw e' k xs):=by have:=BB (b:=p.2) (b':=Bk.rw e' k xs) (n:=n) H.inv.nms (ml_ _ (by rw[<-hpn];exact hp)) (ml_ _ (Ag hl));obtain⟨p1,p2⟩:=p;simp only at hpn this;rw[hpn,this]
    rw[hp2];rfl;rfl
   show({s with B:=BG s.B n (.rw e' k xs)}:St)=s
   rw[this]
  rw[e1,e2]
  exact⟨d',u,w,hd,g1,g2,by rw[ho];rfl,by rw[ho2];rfl,hu,h1 u hu,H,Nx.refl s h w val rfl⟩
 rcases hown.2 with⟨hv,hz0⟩|⟨g,cap,cur,hv,hg0,hg,hn,hm,hs,ht⟩
 have hi0:i=0:=by omega
 subst hi0
 have hr1:(execOp a.eval o).run P w=.ok (.value (.slice none 0 0)) w:=by simp[execOp,ho,hu1,hi'.1,hv,Sem.run_bind,run_sliceAt_slice w t' _ _ _ _ hq,run_slice_l w t' none 0 0 hq ki 0 (by omega) (by omega),hP,Aw hI,sliced]
 refine same (fun u hu=>?_) (by omega) ⟨_,hr1⟩
 rw[hr1]at hu
 cases hu
 simp[execOp,ho2,resolve,invoke,builtin,hput,Builtin.clear_,run_underlying hu, *]
 have hr1:(execOp a.eval o).run P w=.ok (.value (sliced (some ⟨g,0,none⟩) i.toNat xs.length cap k)) w:=by simp[execOp,ho,hu1,hi'.1,hv,run_sliceAt_slice w t' _ _ _ _ hq,run_slice_l w t' _ _ _ hq ki i hΦ.1 hΦ.2,hP,Aw hI,hcs]
 by_cases hz0:xs.length-i.toNat=0
 refine same (fun u hu=>?_) hz0 ⟨_,hr1⟩
 rw[hr1]at hu
 cases hu
 by_cases hci:cap=i.toNat<;>simp[execOp,ho2,resolve,invoke,builtin,hput,Builtin.clear_,sliced,hz0,hci,run_underlying ‹P.underlying t'=some (TypeDesc.slice e')›]
 have hcap:¬cap=i.toNat:=by omega
 obtain⟨m,hmm⟩:∃m,xs.length-i.toNat=m+1:=⟨xs.length-i.toNat-1,by omega⟩
 have hr2:(execOp a.eval o).run P w=.ok (.value (.slice (some ⟨g,i.toNat*k,none⟩) (m+1) (cap-i.toNat))) w:=by rw[hr1];simp[sliced,hcap,Addr.add_lit,hmm]
 have hle:i.toNat*k<=xs.length*k:=Nat.mul_le_mul_right k (by omega)
 have hle2:xs.length*k<=cap*k:=Nat.mul_le_mul_right k hn
 have hmk:i.toNat*k+(m+1)*k=xs.length*k:=by rw[<-Nat.add_mul];congr 1;omega
 have hzl:(Builtin.zeroCells z.cells (m+1)).toList.length=(m+1)*k:=by simp[Builtin.zeroCells,zs]
 have hone:∀v∈(Builtin.zeroCells z.cells (m+1)).toList,v.oneCell'=true:=fun v hv=>by simp only[Builtin.zeroCells,Array.toList_map,mm]at hv;obtain⟨j,_,rfl⟩:=hv;have hlt:j % z.cells.size<z.cells.size:=Nat.mod_lt _ (by omega);rw[getElem!_pos z.cells _ hlt];exact z1' _ (by simp)
 have hst:=run_storeCells_at P g (i.toNat*k) e' (Builtin.zeroCells z.cells (m+1)).toList 0 cur w hg (by rw[hzl];omega) hone
 simp only[Nat.add_zero,hzl]at hst
 have hrow2:Ah h w k (xs.take i.toNat++List.replicate (m+1) (Cp z)) (us.take (i.toNat*k)++(Builtin.zeroCells z.cells (m+1)).toList):=by
  refine Ah.append (Ah.take _ hrow) ?_;have:=GD (h:=h) (w:=w) z1' (by omega) (by omega) (m+1);rw[zs]at this;have e:Builtin.zeroCells z.cells (m+1)=madeCells z.cells ((m+1)*k):=by rw[<-zs];rfl
  rw[e];exact this
 have hcl:cur.toList.length=cap*k:=by simpa using hs
 have hus:us=cur.toList.take (xs.length*k):=ht.symm
 have et:(cur.toList.take (i.toNat*k)++(Builtin.zeroCells z.cells (m+1)).toList++cur.toList.drop (i.toNat*k+(m+1)*k)).take (xs.length*k)=us.take (i.toNat*k)++(Builtin.zeroCells z.cells (m+1)).toList:=by rw[List.take_append_of_le_length (by simp only[List.length_append,List.length_take,hcl,hzl];omega),List.take_of_length_le (by simp only[List.length_append,List.length_take,hcl,hzl];omega),hus,List.take_take,Nat.min_eq_left hle]
 rw[<-et]at hrow2
 obtain⟨f1,f2⟩:=aCa H hl hv (us:=cur.toList) (by simpa using hg) hn hm (hh g (by rw[hv];rfl)) (us':=cur.toList.take (i.toNat*k)++(Builtin.zeroCells z.cells (m+1)).toList++cur.toList.drop (i.toNat*k+(m+1)*k))
  (by simp only[List.length_append,List.length_take,List.length_drop,hcl,hzl];omega) (by simp only[List.length_append,List.length_take,List.length_replicate];omega) hrow2
 refine⟨d',_,w.setRow g (cur.toList.take (i.toNat*k)++(Builtin.zeroCells z.cells (m+1)).toList++cur.toList.drop (i.toNat*k+(m+1)*k)).toArray,hd,g1,g2,by rw[ho];rfl,by rw[ho2];rfl,hr2,?_,?_,?_⟩
 simp[execOp,ho2,resolve,invoke,builtin,hput,Builtin.clear_,run_underlying ‹P.underlying t'=some (TypeDesc.slice e')›,hzv,hst]
 rw[hmm];exact f1
 rw[hmm];exact f2
 cases he
 cases he
 cases he
 cases he
 cases he
 cases he
end Go.Ac
namespace Go.Ac
open Go.MapKept
def aKf(P:Program):List Field->List Value->Nat->Prop
 |[],us,_=>us=[]
 |f::fs,us,o=>∃u us',us=u::us'/\f.name≠ "_" /\f.offset=o/\(∃k n,P.underlying f.type=some (.int k)/\u=.int k n)/\aKf P fs us' (o+1)
def IH(P:Program)(kt:TypeId)(v:Value):Prop:=∃fs us,P.underlying kt=some (.struct fs)/\P.stoodInHeld kt=false/\v=.agg ⟨us⟩/\aKf P fs.toList us 0
def S6(P:Program)(kt:TypeId)(v:Value):Prop:=(∃d,P.underlying kt=some d/\IsKey d v)\/IH P kt v
theorem ON{P:Program}(w:World){t:TypeId}{k:IntKind}(hk:P.underlying t=some (.int k))(pre post:List Value)(u:Value):(part t ⟨pre++u::post⟩ pre.length).run P w=.ok u w:=
 run_part_plain w (by simp[Program.plainKey,hk]) (by simp)
theorem ZX{P:Program}(w:World){t:TypeId}{k:IntKind}(hk:P.underlying t=some (.int k))(em:Bool)(d:Nat)(n:Int):(Instr.checkKey em (d+1) t (.int k n)).run P w=.ok () w:=by simp[Instr.checkKey,run_underlying hk]
theorem ZW{P:Program}(w:World)(em:Bool)(d:Nat){us:List Value}:∀(l:List Field) (pre us':List Value),us=pre++us'->aKf P l us' pre.length->(forIn (m:=Sem) l PUnit.unit fun(f:Field) (_:PUnit)=>do
 if f.name≠ "_" then
  Instr.checkKey em (d+1) f.type (<-part f.type ⟨us⟩ f.offset)
  pure (ForInStep.yield PUnit.unit)
 else pure (ForInStep.yield PUnit.unit)).run P w=.ok PUnit.unit w:=by
 intro l
 induction l with
 |nil=>intro pre us' _ _;simp
 |cons f l ih=>
  intro pre us' he hl
  obtain⟨u,us2,rfl,hn,ho,⟨k,n,hk,rfl⟩,hrest⟩:=hl
  have hp:=ON w hk pre us2 (.int k n)
  rw[<-he]at hp
  have hc:=ZX w hk em d n
  simp only[List.forIn_cons,Sem.run_bind,hn,ne_eq,not_false_eq_true,if_true,ho,Result.andThen_ok,hp,hc,Sem.run_pure]
  exact ih (pre++[.int k n]) us2 (by rw[he];simp) (by simpa using hrest)
theorem aIp{P:Program}{kt:TypeId}{v:Value}(h:IH P kt v)(em:Bool)(w:World)(d:Nat):(Instr.checkKey em (d+1+1) kt v).run P w=.ok () w:=by obtain⟨fs,us,hu,_,rfl,hf⟩:=h;have key:=ZW w em d fs.toList [] us rfl hf;rw[Instr.checkKey];simp only[Sem.run_bind,run_underlying hu,Result.andThen_ok];rw[<-Array.forIn_toList];simp at key⊢;rw[key];simp
theorem IH.check{P:Program}{kt:TypeId}{v:Value}(h:IH P kt v)(em:Bool)(w:World):(Instr.checkKey em 10000 kt v).run P w=.ok () w:=aIp h em w 9998
theorem aKy{P:Program}(w:World)(d:Nat):∀(fs:List Field) (pre qre us vs:List Value),pre.length=qre.length->aKf P fs us pre.length->aKf P fs vs pre.length->∃r,(Op.eqFields (d+1) ⟨pre++us⟩ ⟨qre++vs⟩ fs).run P w=.ok r w/\(r=true↔us=vs)
 |[],pre,qre,us,vs,_,hu,hv=>by
  simp only[aKf]at hu hv;subst hu;subst hv;exact⟨true,by simp[Op.eqFields],by simp⟩
 |f::fs,pre,qre,us,vs,hl,hu,hv=>by
  obtain⟨u,us',rfl,hn,ho,⟨k,a,hk,rfl⟩,hu'⟩:=hu;obtain⟨v,vs',rfl,_,_,⟨k',b,hk',rfl⟩,hv'⟩:=hv;have hkk:k'=k:=by rw[hk]at hk';cases hk';rfl
  subst hkk;obtain⟨r,ih,hr⟩:=aKy w d fs (pre++[.int k' a]) (qre++[.int k' b]) us' vs' (by simp[hl]) (by simpa using hu') (by simpa using hv');have p1:=ON w hk pre us' (.int k' a);have p2:=ON w hk qre vs' (.int k' b);rw[<-hl]at p2;have p3:=run_equalIn_int w d f.type k' k' a b hk;simp only[List.append_assoc,List.singleton_append]at ih;by_cases hab:a=b;subst hab;refine⟨r,?_,by rw[hr];simp⟩;simp only[Op.eqFields];rw[if_pos hn,ho];simp only[Sem.run_bind,p1,p2,p3,Result.andThen_ok];simpa using ih;refine⟨false,?_,by simp[hab]⟩;simp only[Op.eqFields];rw[if_pos hn,ho];simp only[Sem.run_bind,p1,p2,p3,Result.andThen_ok];simp[hab]
theorem IH.equal{P:Program}{kt:TypeId}{u v:Value}(hu:IH P kt u)(hv:IH P kt v)(w:World):∃r,(Op.equal kt u v).run P w=.ok r w/\(r=true↔u=v):=by
 obtain⟨fs,us,h1,h2,rfl,hf⟩:=hu;obtain⟨fs',vs,h3,_,rfl,hg⟩:=hv;rw[h1]at h3;cases h3;have hfo:P.fieldsOf kt=fs:=by simp[Program.fieldsOf,h1]
 obtain⟨r,h4,h5⟩:=aKy w 9998 fs.toList [] [] us vs rfl hf hg;refine⟨r,?_,by rw[h5];simp⟩;show(Op.equalIn (9998+1+1) kt (.agg ⟨us⟩) (.agg ⟨vs⟩)).run P w=_;rw[run_equalIn_struct w _ kt _ _ (by rw[hfo];exact h1) h2,hfo];exact h4
theorem IH.stays{P:Program}{kt:TypeId}{v:Value}(h:IH P kt v)(w:World):(Instr.keyThatStays v v).run P w=.ok v w:=by
 obtain⟨fs,us,_,_,rfl,hf⟩:=h;have key:∀(l:List Field) (us:List Value) (o:Nat),aKf P l us o->∀p∈us.zip us,Instr.sameBits 9999 p.1 p.2=true:=by
  intro l;induction l with
  |nil=>intro us o hl p hp;simp only[aKf]at hl;subst hl;simp at hp
  |cons f l ih=>
   intro us o hl p hp
   obtain⟨u,us',rfl,_,_,⟨k,n,_,rfl⟩,hrest⟩:=hl
   rw[List.zip_cons_cons]at hp
   rcases mc.1 hp with rfl|hp
   simp[Instr.sameBits]
   exact ih us' _ hrest p hp
 have hs:Instr.sameBits 10000 (.agg ⟨us⟩) (.agg ⟨us⟩)=true:=by show Instr.sameBits (9999+1) (.agg ⟨us⟩) (.agg ⟨us⟩)=true;simp only[Instr.sameBits,beq_self_eq_true,Bool.true_and,List.all_eq_true];intro p hp;exact key fs.toList us 0 hf p hp
 simp[Instr.keyThatStays,hs]
theorem IH.ask_no{P:Program}{kt:TypeId}{key:Value}(h:IH P kt key)(w:World):∀(l:List MapEntry) (i:Nat),(∀e∈l,IH P kt e.key/\e.key≠key)->(Instr.findAsking kt key l i).run P w=.ok none w
 |[],i,_=>by simp[Instr.findAsking]
 |e::l,i,hl=>by
  obtain⟨r,he,hr⟩:=h.equal (hl e (by simp)).1 w;have hrf:r=false:=by
   cases r with
   |false=>rfl
   |true=>exact absurd (hr.1 rfl).symm (hl e (by simp)).2
  subst hrf;simp[Instr.findAsking,he,IH.ask_no h w l (i+1) fun x hx=>hl x (by simp[hx])]
theorem IH.ask_at{P:Program}{kt:TypeId}{key:Value}(h:IH P kt key)(w:World){e:MapEntry}(he:e.key=key)(lq:List MapEntry):∀(lp:List MapEntry) (i:Nat),(∀e∈lp,IH P kt e.key/\e.key≠key)->(Instr.findAsking kt key (lp++e::lq) i).run P w=.ok (some (i+lp.length,e.val)) w
 |[],i,_=>by
  obtain⟨r,h1,hr⟩:=h.equal (v:=e.key) (by rw[he];exact h) w;have hr:=hr.2 he.symm;subst hr;simp[Instr.findAsking,h1]
 |x::lp,i,hl=>by
  obtain⟨r,h1,hr⟩:=h.equal (hl x (by simp)).1 w;have hrf:r=false:=by
   cases r with
   |false=>rfl
   |true=>exact absurd (hr.1 rfl).symm (hl x (by simp)).2
  subst hrf;have ih:=IH.ask_at h w he lq lp (i+1) fun y hy=>hl y (by simp[hy]);simp[Instr.findAsking,h1,ih];omega
structure Ask(P:Program)(kt:TypeId)(key:Value)(l:List MapEntry)(r:Option (Nat×Value)):Prop where
 chk:∀(em:Bool) (w:World),(Instr.checkKey em 10000 kt key).run P w=.ok () w
 sty:∀w:World,(Instr.keyThatStays key key).run P w=.ok key w
 fnd:∀w:World,(Instr.findKey kt key l).run P w=.ok r w
theorem S6.all{P:Program}{kt:TypeId}{key:Value}{d:TypeDesc}(hd:P.underlying kt=some d)(hv:IsKey d key){v:Value}(h:S6 P kt v):IsKey d v:=by
 rcases h with⟨d',h1,h2⟩|⟨fs,us,h1,_⟩
 rw[hd]at h1;cases h1;exact h2;rw[hd]at h1;cases h1;cases key<;>exact absurd hv id
theorem S6.allW{P:Program}{kt:TypeId}{key:Value}(hk:IH P kt key){v:Value}(h:S6 P kt v):IH P kt v:=by
 rcases h with⟨d',h1,h2⟩|h
 obtain⟨fs,us,g1,_⟩:=hk;rw[g1]at h1;cases h1;cases v<;>exact absurd h2 id;exact h
theorem IH.wide{P:Program}{kt:TypeId}{key:Value}(h:IH P kt key):(match P.underlying kt with|some (.array _ _)|some (.struct _)=>true|_=>false)=true:=by obtain⟨fs,us,g1,_⟩:=h;rw[g1]
theorem ask_no{P:Program}{kt:TypeId}{key:Value}{l:List MapEntry}(hk:S6 P kt key)(hl:∀e∈l,S6 P kt e.key/\e.key≠key):Ask P kt key l none:=by
 rcases hk with⟨d,hd,hv⟩|hk
 rcases findNow_spec hv l 0 (fun x hx=>(hl x hx).1.all hd hv)with⟨h1,_⟩|⟨j,e,_,h2,h3⟩
 exact⟨fun em w=>MapKept.run_checkKey hd hv em 9999,fun w=>MapKept.run_keyThatStays hv,fun w=>MapKept.run_findKey hd h1⟩;exact absurd h3 (hl e (List.mem_of_getElem? h2)).2;exact⟨fun em w=>hk.check em w,fun w=>hk.stays w,fun w=>by rw[run_findKey_eq w hk.wide];exact hk.ask_no w l 0 fun e he=>⟨(hl e he).1.allW hk,(hl e he).2⟩⟩
theorem ask_at{P:Program}{kt:TypeId}{key:Value}{lp lq:List MapEntry}{e:MapEntry}(hk:S6 P kt key)(he:e.key=key)(hl:∀x∈lp,S6 P kt x.key/\x.key≠key):Ask P kt key (lp++e::lq) (some (lp.length,e.val)):=by
 rcases hk with⟨d,hd,hv⟩|hk
 have key2:∀(lp:List MapEntry) (i:Nat),(∀x∈lp,IsKey d x.key/\x.key≠key)->Instr.findNow d key (lp++e::lq) i=some (some (i+lp.length,e.val)):=by
  intro lp;induction lp with
  |nil=>
   intro i _
   obtain⟨r,hr,hiff⟩:=sameNow_of_keys hv (by rw[he];exact hv:IsKey d e.key)
   have:r=true:=hiff.2 he.symm
   subst this
   simp[Instr.findNow,hr]
  |cons x lp ih=>
   intro i hx
   obtain⟨r,hr,hiff⟩:=sameNow_of_keys hv (hx x (by simp)).1
   have:r=false:=by
    cases r with
    |false=>rfl
    |true=>exact absurd (hiff.1 rfl).symm (hx x (by simp)).2
   subst this
   simp only[List.cons_append,Instr.findNow,hr]
   rw[ih (i+1) fun y hy=>hx y (by simp[hy])]
   simp;omega
 have h2:=key2 lp 0 fun x hx=>⟨(hl x hx).1.all hd hv,(hl x hx).2⟩;rw[Nat.zero_add]at h2;exact⟨fun em w=>MapKept.run_checkKey hd hv em 9999,fun w=>MapKept.run_keyThatStays hv,fun w=>MapKept.run_findKey hd h2⟩;refine⟨fun em w=>hk.check em w,fun w=>hk.stays w,fun w=>?_⟩;rw[run_findKey_eq w hk.wide];have:=hk.ask_at w he lq lp 0 fun x hx=>⟨(hl x hx).1.allW hk,(hl x hx).2⟩;rw[Nat.zero_add]at this;exact this
def aZy:Value->D
 | .agg a=>.agg (a.toList.map .v)
 |v=>.v v
end Go.Ac
namespace Go.Ac
open Go.MapKept

theorem REs.append{h w}:∀{xs:List (Nat×D×D)} {l:List MapEntry} {ys m},REs h w xs l->REs h w ys m->REs h w (xs++ys) (l++m)
 |[],_,_,_,hl,hr=>by simp only[REs]at hl;subst hl;exact hr
 |x::xs,_,_,_,⟨e,l',a,b,c,d,r⟩,hr=>by
  subst a;exact⟨e,l'++_,rfl,b,c,d,REs.append r hr⟩
theorem REs.split{h w}:∀{pre:List (Nat×D×D)} {x post} {l:List MapEntry},REs h w (pre++x::post) l->∃lp e lq,l=lp++e::lq/\lp.length=pre.length/\REs h w pre lp/\e.born=x.1/\RD h w x.2.1 e.key/\RD h w x.2.2 e.val/\REs h w post lq
 |[],x,post,l,⟨e,l',a,b,c,d,r⟩=>⟨[],e,l',a,rfl,rfl,b,c,d,r⟩
 |y::pre,x,post,l,⟨e,l',a,b,c,d,r⟩=>by
  obtain⟨lp,e2,lq,q1,q2,q3,q4⟩:=REs.split r;refine⟨e::lp,e2,lq,by rw[a,q1];rfl,by simp[q2],⟨e,lp,rfl,b,c,d,q3⟩,q4⟩
theorem REs.length{h w}:∀{xs:List (Nat×D×D)} {l:List MapEntry},REs h w xs l->l.length=xs.length
 |[],_,hl=>by simp only[REs]at hl;subst hl;rfl
 |x::xs,_,⟨e,l',a,b,c,d,r⟩=>by subst a;simp[REs.length r]
theorem REs.mem{h w}:∀{xs:List (Nat×D×D)} {l:List MapEntry},REs h w xs l->∀e∈l,∃x∈xs,e.born=x.1/\RD h w x.2.1 e.key/\RD h w x.2.2 e.val
 |[],_,hl,e,he=>by simp only[REs]at hl;subst hl;simp at he
 |x::xs,_,⟨e0,l',a,b,c,d,r⟩,e,he=>by
  subst a;rcases mc.1 he with rfl|he
  exact⟨x,by simp,b,c,d⟩;obtain⟨y,hy,q⟩:=REs.mem r e he;exact⟨y,by simp[hy],q⟩
theorem REs.born{h w}:∀{xs:List (Nat×D×D)} {l:List MapEntry},REs h w xs l->l.map (·.born)=xs.map (·.1)
 |[],_,hl=>by simp only[REs]at hl;subst hl;rfl
 |x::xs,_,⟨e,l',a,b,c,d,r⟩=>by subst a;simp[b,REs.born r]

def KOk(P:Program)(kt:TypeId)(x:D):Prop:=∃v,x=aZy v/\S6 P kt v
def aUb(P:Program)(kt:TypeId)(z:D)(es:List (Nat×D×D))(kd vd:D)(ok:Bool):Prop:=
 (∀x∈es,KOk P kt x.2.1)/\KOk P kt kd/\((ok=true/\∃(pre:List (Nat×D×D)) (s:Nat) (post:List (Nat×D×D)),es=pre++(s,kd,vd)::post/\∀x∈pre,x.2.1≠kd)\/(ok=false/\vd=z/\∀x∈es,x.2.1≠kd))
def aPi(P:Program)(kt:TypeId)(es:List (Nat×D×D))(kd vd:D)(clk:Nat)(es':List (Nat×D×D))(clk':Nat):Prop:=
 (∀x∈es,KOk P kt x.2.1)/\KOk P kt kd/\((clk'=clk/\∃(pre:List (Nat×D×D)) (s:Nat) (v0:D) (post:List (Nat×D×D)),es=pre++(s,kd,v0)::post/\(∀x∈pre,x.2.1≠kd)/\es'=pre++(s,kd,vd)::post)\/(clk'=clk+1/\es'=es++[(clk,kd,vd)]/\∀x∈es,x.2.1≠kd))
def bAp(P:Program)(kt:TypeId)(z:D)(es:List (Nat×D×D))(kd:D)(clk:Nat)(es':List (Nat×D×D))(clk':Nat)(v:D)(st:Nat):Prop:=
 (∀x∈es,KOk P kt x.2.1)/\KOk P kt kd/\st<=4611686018427387904/\((clk'=clk/\es'=es/\∃(pre post:List (Nat×D×D)),es=pre++(st,kd,v)::post/\∀x∈pre,x.2.1≠kd)\/(clk'=clk+1/\st=clk/\v=z/\es'=es++[(clk,kd,z)]/\∀x∈es,x.2.1≠kd))
def bAq(es:List (Nat×D×D))(st:Int)(vd:D)(es':List (Nat×D×D)):Prop:=
 ∃(pre:List (Nat×D×D)) (s:Nat) (kd v0:D) (post:List (Nat×D×D)),st=(s:Int)/\es=pre++(s,kd,v0)::post/\(∀x∈pre,x.1≠s)/\es'=pre++(s,kd,vd)::post
def aUa(P:Program)(kt:TypeId)(es:List (Nat×D×D))(kd:D)(es':List (Nat×D×D)):Prop:=
 (∀x∈es,KOk P kt x.2.1)/\KOk P kt kd/\((∃(pre:List (Nat×D×D)) (s:Nat) (v0:D) (post:List (Nat×D×D)),es=pre++(s,kd,v0)::post/\(∀x∈pre,x.2.1≠kd)/\es'=pre++post)\/(es'=es/\∀x∈es,x.2.1≠kd))
def aZ9(es:List (Nat×D×D))(n:Int):Prop:=(es.length:Int)=n/\n<=4611686018427387904

theorem bAa{h w}{v u:Value}(hr:RD h w (.v v) u):u=v:=by simp only[RD]at hr;exact hr.1
theorem aQb{h w}:∀{l:List Value} {us:List Value},RDs h w (l.map .v) us->us=l
 |[],us,hr=>by simpa[RDs]using hr
 |v::l,us,hr=>by
  simp only[List.map_cons,RDs]at hr;obtain⟨u,us',rfl,h1,h2⟩:=hr;rw[bAa h1,aQb h2.2]
theorem C0{h w}{v u:Value}(hr:RD h w (aZy v) u):u=v:=by unfold aZy at hr;split at hr;simp only[RD]at hr;obtain⟨us,rfl,hr⟩:=hr;rw[aQb hr];exact bAa hr
theorem FN{P:Program}{h:Hw}{w:World}{kt:TypeId}{pre:List (Nat×D×D)}{s:Nat}{kd v0:D}{post:List (Nat×D×D)}{l:List MapEntry}{key:Value}(hr:REs h w (pre++(s,kd,v0)::post) l)
 (hK:∀x∈pre++(s,kd,v0)::post,KOk P kt x.2.1) (hk:KOk P kt kd) (hne:∀x∈pre,x.2.1≠kd) (hkr:RD h w kd key):
 ∃lp e lq,l=lp++e::lq/\lp.length=pre.length/\REs h w pre lp/\e.born=s/\e.key=key/\RD h w v0 e.val/\REs h w post lq/\Ask P kt key l (some (pre.length,e.val)):=by
 obtain⟨lp,e,lq,e1,e2,e3,e4,e5,e6,e7⟩:=REs.split hr
 obtain⟨v,rfl,hv⟩:=hk
 have hkv:key=v:=C0 hkr
 subst hkv
 have hek:e.key=key:=C0 e5
 have hlp:∀x∈lp,S6 P kt x.key/\x.key≠key:=fun x hx=>by obtain⟨y,hy,_,q,_⟩:=REs.mem e3 x hx;obtain⟨v',h2,h3⟩:=hK y (ml_ _ hy);rw[h2]at q;have:=C0 q;rw[this];exact⟨h3,fun e=>hne y hy (by rw[h2,e])⟩
 refine⟨lp,e,lq,e1,e2,e3,e4,hek,e6,e7,?_⟩
 rw[e1,<-e2]
 exact ask_at hv hek hlp
theorem ED{P:Program}{h:Hw}{w:World}{kt:TypeId}{es:List (Nat×D×D)}{kd:D}{l:List MapEntry}{key:Value}(hr:REs h w es l)
 (hK:∀x∈es,KOk P kt x.2.1) (hk:KOk P kt kd) (hne:∀x∈es,x.2.1≠kd) (hkr:RD h w kd key):Ask P kt key l none:=by
 obtain⟨v,rfl,hv⟩:=hk
 have hkv:key=v:=C0 hkr
 subst hkv
 refine ask_no hv fun x hx=>?_
 obtain⟨y,hy,_,q,_⟩:=REs.mem hr x hx
 obtain⟨v',h2,h3⟩:=hK y hy
 rw[h2]at q
 have e:=C0 q
 rw[e]
 exact⟨h3,fun e2=>hne y hy (by rw[h2,e2])⟩
def Bv(s:St):A->Option (Nat×Nat×List (Nat×D×D))
 | .row n=>match lk s.B n with
  |some (.map clk es)=>some (n,clk,es)
  |_=>none
 |_=>none
theorem Cc{s:St}{h w val}{a:Act}(H:Holds s h w val a){x:A}{u:Value}(hr:RA h w val x u){n clk es}(he:Bv s x=some (n,clk,es)):
 lk s.B n=some (.map clk es)/\∃b l,u=.map (some b)/\val n=.map (some b)/\w.heap[b]? =some (.map ⟨l⟩ clk)/\REs h w es l/\(∀x∈es,x.1<clk)/\(es.map (·.1)).Nodup/\(es.map (·.2.1)).Nodup/\h b=0:=by
 unfold Bv at he
 split at he
 rename_i m
 split at he
 rename_i clk' es' hl
 simp only[oe,pe]at he
 obtain⟨rfl,rfl,rfl⟩:=he
 simp only[RA]at hr
 obtain⟨b,l,hv,rest⟩:=H.inv.rep _ (ml_ _ (Ag hl))
 exact⟨hl,b,l,by rw[hr.1];exact hv,hv,rest⟩
 cases he
 cases he
theorem Bc{w:World}{b g:Nat}{o:Obj}(hg:g≠b):({w with heap:=w.heap.setIfInBounds b o}:World).heap[g]? =w.heap[g]? :=by simp[Array.getElem?_setIfInBounds,Ne.symm hg]
theorem Hi{w:World}{b:Nat}{o o':Obj}(hb:w.heap[b]? =some o):({w with heap:=w.heap.setIfInBounds b o'}:World).heap[b]? =some o':=by have hlt:b<w.heap.size:=(Array.getElem?_eq_some_iff.1 hb).1;simp[hlt]
theorem Eh{s:St}{h:Hw}{w:World}{val:Val}{a:Act}(H:Holds s h w val a){n clk clk':Nat}{es':List (Nat×D×D)}{b:Nat}{l l':List MapEntry}{bk bk':Bk}
 (hl:lk s.B n=some bk) (ho:bk.kd=1) (ho':bk'.kd=1) (hv:val n=.map (some b)) (hg:w.heap[b]? =some (.map ⟨l⟩ clk)) (h0:h b=0) (hr:REs h w es' l') (h1:∀x∈es',x.1<clk') (h2:(es'.map (·.1)).Nodup) (h3:(es'.map (·.2.1)).Nodup)
 (hb':∀w',RM h w' (val n) clk' es'->RB h w' val n bk'):
 Holds {s with B:=BG s.B n bk'} h {w with heap:=w.heap.setIfInBounds b (.map ⟨l'⟩ clk')} val a/\Nx s h w val {s with B:=BG s.B n bk'} h {w with heap:=w.heap.setIfInBounds b (.map ⟨l'⟩ clk')} val:=by
 have hmem:(n,bk)∈s.all:=ml_ _ (Ag hl)
 have hvb:vblk (val n)=some b:=by rw[hv];rfl
 have hgM:b∈Aa val s.all:=Inv.blk_mem hmem (Ar hvb (Bk.kd_one ho).1)
 have hk:BI (Aa val s.all) h w h {w with heap:=w.heap.setIfInBounds b (.map ⟨l'⟩ clk')}:=⟨rfl,rfl,rfl,by simp,fun x i v _ hc=>by unfold World.cell? at hc⊢;by_cases e:x=b;subst e;simp only[hg]at hc;cases hc;simp only at hc⊢;rw[Bc e];exact hc,fun _ _=>Nat.le_refl _,fun x _ hn=>⟨Bc fun e=>hn (e▸hgM),rfl⟩⟩
 have hsame:∀b',(n,b')∈s.B->b'.kd=bk'.kd:=fun b2 hb2=>by have:=BB H.inv.nms (ml_ _ hb2) hmem;rw[this,ho,ho']
 refine⟨⟨RAs.stays hk.stays _ _ _ H.e,⟨?_,?_,?_,(by first|exact H.inv.glob.stays hk.stays|exact H.inv.glob|exact I.glob|exact I.glob.stays k.stays|exact H.inv.glob.stays k.stays|exact hI.glob|exact hInv.glob|exact hI0.glob|exact hIX.glob|exact H'.inv.glob|exact hI.glob.stays hk.stays|exact H1.inv.glob|exact hIR.glob|exact H.glob|exact hI.glob.stays k.stays|exact h.inv.glob|exact H2.inv.glob|exact hI'.glob)⟩,H.far,H.defs.keep H.inv hk (fun b hb=>hb) rfl⟩,⟨hk,fun _ _=>rfl,fun b hb=>.inl ?_⟩⟩
 intro p hp
 rcases ma.1 hp with hp|hp
 rcases BY hp with rfl|⟨hp,hne⟩
 exact hb' _ ⟨b,l',hv,Hi hg,REs.stays hk.stays _ _ hr,h1,h2,h3,h0⟩
 refine RB.stays hk.stays (fun g hg'=>⟨Bc fun e=>?_,rfl⟩) (H.inv.rep p (ml_ _ hp))
 subst e
 have:=Bg H.inv.bks (ml_ _ hp) hmem hg' (Ar hvb (Bk.kd_one ho).1)
 rw[this]at hne
 exact hne rfl
 refine RB.stays hk.stays (fun g hg'=>⟨Bc fun e=>?_,rfl⟩) (H.inv.rep p (mr_ _ hp))
 subst e
 have e4:=Bg H.inv.bks (mr_ _ hp) hmem hg' (Ar hvb (Bk.kd_one ho).1)
 have hnd:=H.inv.nms
 simp only[St.all,AI]at hnd
 have m1:n∈AK s.B:=by simp only[AK,mm];exact⟨_,Ag hl,rfl⟩
 have m2:n∈AK s.F:=by simp only[AK,mm];exact⟨p,hp,by rw[e4]⟩
 exact(List.nodup_append.1 hnd).2.2 n m1 n m2 rfl
 have:=H.inv.nms
 simpa only[St.all,AI,BD]using this
 have:=H.inv.bks
 simpa only[St.all,AJ,A6 hsame]using this
 simpa only[St.all,AJ,A6 hsame]using hb
theorem map_set{s:St}{h:Hw}{w:World}{val:Val}{a:Act}(H:Holds s h w val a){n clk clk':Nat}{es es':List (Nat×D×D)}{b:Nat}{l l':List MapEntry}
 (hl:lk s.B n=some (.map clk es)) (hv:val n=.map (some b)) (hg:w.heap[b]? =some (.map ⟨l⟩ clk)) (h0:h b=0) (hr:REs h w es' l') (h1:∀x∈es',x.1<clk') (h2:(es'.map (·.1)).Nodup) (h3:(es'.map (·.2.1)).Nodup):
 Holds {s with B:=BG s.B n (.map clk' es')} h {w with heap:=w.heap.setIfInBounds b (.map ⟨l'⟩ clk')} val a/\Nx s h w val {s with B:=BG s.B n (.map clk' es')} h {w with heap:=w.heap.setIfInBounds b (.map ⟨l'⟩ clk')} val:=
 Eh H hl rfl rfl hv hg h0 hr h1 h2 h3 fun _ hm=>hm

def aKl(P:Program)(o:Oper)(s:St)(wt:W):Option (Cn×A×List Ed):=
 match o.op with
 | .makeMap _ none=>match o.dst with
  |some d=>if d<up&& !AV d s.E&& !BW d s.B then some (.t,.row d,[.add d (.map 0 [])])else none
  |none=>none
 | .lookup t m k cok=>match Bv s (s.ev m),toD (s.look (s.ev k)),P.underlying t,wt with
  |some (_,_,es),some kd,some (.map kt et),.mg vd ok=>match (P.info? et).bind (·.zero)with
   |some z=>if z.cells.toList.all (·.oneCell')then some (.pr (aUb P kt (Cp z) es kd vd ok),if cok then .tup [.d vd,bo ok]else .d vd,[])else none
   |none=>none
  |some (_,_,es),some kd,some (.map kt et),.bit false=>match (P.info? et).bind (·.zero),cok with
   |some (.slice none 0 0),false=>some (.pr (aUb P kt (.v (.bool false)) es kd (.v (.bool false)) false),.nil,[])
   |_,_=>none
  |_,_,_,_=>none
 | .mapUpdate t m k x=>match Bv s (s.ev m),toD (s.look (s.ev k)),toD (s.look (s.ev x)),P.underlying t,wt with
  |some (n,clk,es),some kd,some vd,some (.map kt _),.mp clk' es'=>some (.pr (aPi P kt es kd vd clk es' clk'),.any,[.chg n (.map clk' es')])
  |_,_,_,_,_=>none
 | .insert t m k x=>match Bv s (s.ev m),toD (s.look (s.ev k)),toD (s.look (s.ev x)),P.underlying t,wt with
  |some (n,clk,es),some kd,some vd,some (.map kt _),.mp clk' es'=>some (.pr (aPi P kt es kd vd clk es' clk'),.any,[.chg n (.map clk' es')])
  |_,_,_,_,_=>none
 | .mapEntry t m k=>match Bv s (s.ev m),toD (s.look (s.ev k)),P.underlying t,wt with
  |some (n,clk,es),some kd,some (.map kt et),.me clk' es' v st=>match (P.info? et).bind (·.zero)with
   |some z=>if z.cells.toList.all (·.oneCell')then some (.pr (bAp P kt (Cp z) es kd clk es' clk' v st),.tup [.d v,.d (.v (.int .i64 st))],[.chg n (.map clk' es')])else none
   |none=>none
  |_,_,_,_=>none
 | .entryStore _ m st x=>match Bv s (s.ev m),s.ev st,toD (s.look (s.ev x)),wt with
  |some (n,clk,es),.d (.v (.int .i64 i)),some vd,.mp _ es'=>some (.pr (bAq es i vd es'),.any,[.chg n (.map clk es')])
  |_,_,_,_=>none
 | .call c=>match c.callee,c.args.toList,c.argTypes.toList with
  | .builtin .delete,[m,k],[t,_]=>match Bv s (s.ev m),toD (s.look (s.ev k)),P.underlying t,wt with
   |some (n,clk,es),some kd,some (.map kt _),.mp _ es'=>some (.pr (aUa P kt es kd es'),.tup [],[.chg n (.map clk es')])
   |_,_,_,_=>none
  | .builtin .clear,[m],[t]=>match Bv s (s.ev m),P.underlying t with
   |some (n,clk,_),some (.map _ _)=>some (.t,.tup [],[.chg n (.map clk [])])
   |_,_=>none
  | .builtin .len,[m],[t]=>match Bv s (s.ev m),P.underlying t,wt with
   |some (_,_,es),some (.map _ _),.int n=>some (.pr (aZ9 es n),.d (.v (.int .i64 n)),[])
   |_,_,_=>none
  |_,_,_=>none
 |_=>none
theorem HO(lp lq:List MapEntry)(e:MapEntry)(f:MapEntry->MapEntry){n:Nat}(hn:lp.length=n):(⟨lp++e::lq⟩:Array MapEntry).modify n f=⟨lp++f e::lq⟩:=by
 subst hn;apply Array.ext';rw[Array.toList_modify];show(lp++e::lq).modify lp.length f=lp++f e::lq;induction lp with
 |nil=>rfl
 |cons x lp ih=>simp only[List.cons_append,List.length_cons,List.modify_succ_cons,ih]
theorem F1(l:List MapEntry)(x:MapEntry):(⟨l⟩:Array MapEntry).push x=⟨l++[x]⟩:=by apply Array.ext';simp
theorem KG(lp lq:List MapEntry)(e:MapEntry){n:Nat}(hn:lp.length=n):(⟨lp++e::lq⟩:Array MapEntry)[n]? =some e:=by subst hn;simp
theorem Nn(lp lq:List MapEntry)(e:MapEntry){n:Nat}(hn:lp.length=n):(⟨lp++e::lq⟩:Array MapEntry).eraseIdxIfInBounds n=⟨lp++lq⟩:=by subst hn;apply Array.ext';simp[Array.eraseIdxIfInBounds,List.eraseIdx_append]
theorem aNp{lp lq:List MapEntry}{e:MapEntry}{s:Nat}(h1:∀x∈lp,x.born≠s)(h2:e.born=s):(⟨lp++e::lq⟩:Array MapEntry).findIdx? (fun e=>(e.born:Int)==(s:Int))=some lp.length:=by
 rw[List.findIdx?_toArray,List.findIdx?_append];have:lp.findIdx? (fun e=>(e.born:Int)==(s:Int))=none:=by rw[List.findIdx?_eq_none_iff];intro x hx;have:=h1 x hx;simp;omega
 rw[this];simp[List.findIdx?_cons,h2]
theorem REs.set{h w}:∀{pre:List (Nat×D×D)} {lp:List MapEntry} {s:Nat} {kd vd:D} {post:List (Nat×D×D)} {lq:List MapEntry} {e:MapEntry},REs h w pre lp->e.born=s->RD h w kd e.key->RD h w vd e.val->REs h w post lq->REs h w (pre++(s,kd,vd)::post) (lp++e::lq):=
 fun h1 h2 h3 h4 h5=>REs.append h1 ⟨_,_,rfl,h2,h3,h4,h5⟩
theorem REs.one{h w}{s:Nat}{kd vd:D}{e:MapEntry}(h2:e.born=s)(h3:RD h w kd e.key)(h4:RD h w vd e.val):REs h w [(s,kd,vd)] [e]:=⟨_,_,rfl,h2,h3,h4,rfl⟩
theorem QZ{pre post:List (Nat×D×D)}{s clk:Nat}{kd v0 vd:D}(h:∀x∈pre++(s,kd,v0)::post,x.1<clk):∀x∈pre++(s,kd,vd)::post,x.1<clk:=fun x hx=>by
 rcases ma.1 hx with g|g
 exact h x (by simp[g]);rcases mc.1 g with rfl|g
 exact h (s,kd,v0) (by simp);exact h x (by simp[g])
theorem RF{pre post:List (Nat×D×D)}{s:Nat}{kd v0 vd:D}(h:((pre++(s,kd,v0)::post).map (·.1)).Nodup):((pre++(s,kd,vd)::post).map (·.1)).Nodup:=by simpa using h
theorem OD{es:List (Nat×D×D)}{clk:Nat}{kd vd:D}(h:∀x∈es,x.1<clk):∀x∈es++[(clk,kd,vd)],x.1<clk+1:=fun x hx=>by
 rcases ma.1 hx with g|g
 have:=h x g;omega;rw[List.mem_singleton]at g;subst g;exact Nat.lt_succ_self _
theorem OK{es:List (Nat×D×D)}{clk:Nat}{kd vd:D}(h1:∀x∈es,x.1<clk)(h:(es.map (·.1)).Nodup):((es++[(clk,kd,vd)]).map (·.1)).Nodup:=by rw[List.map_append,List.nodup_append];refine⟨h,by simp,fun a ha b hb=>?_⟩;obtain⟨x,hx,rfl⟩:=mm.1 ha;simp only[List.map_cons,List.map_nil,List.mem_singleton]at hb;have:=h1 x hx;omega
theorem QU{pre post:List (Nat×D×D)}{s:Nat}{kd v0 vd:D}(h:((pre++(s,kd,v0)::post).map (·.2.1)).Nodup):((pre++(s,kd,vd)::post).map (·.2.1)).Nodup:=by simpa using h
theorem N8{es:List (Nat×D×D)}{clk:Nat}{kd vd:D}(h1:∀x∈es,x.2.1≠kd)(h:(es.map (·.2.1)).Nodup):((es++[(clk,kd,vd)]).map (·.2.1)).Nodup:=by rw[List.map_append,List.nodup_append];refine⟨h,by simp,fun a ha b hb=>?_⟩;obtain⟨x,hx,rfl⟩:=mm.1 ha;simp only[List.map_cons,List.map_nil,List.mem_singleton]at hb;subst hb;exact h1 x hx
theorem Lm{n:Nat}(h:n<=4611686018427387904):IntKind.i64.wrap (n:Int)=n:=IntWalk.i64_in _ ⟨by omega,by omega⟩

theorem Eg{P:Program}{s:St}{h:Hw}{w:World}{val:Val}{a:Act}(H:Holds s h w val a){t kt et:TypeId}(ht:P.underlying t=some (.map kt et)){n clk clk':Nat}{es es':List (Nat×D×D)}{kd vd:D}{um key v:Value}
 (hm:Bv s (.row n)=some (n,clk,es)) (hu:RA h w val (.row n) um) (hk:RD h w kd key) (hv:RD h w vd v) (hp:aPi P kt es kd vd clk es' clk'):
 ∃w',(Instr.mapUpdate t um key v).run P w=.ok () w'/\Holds {s with B:=BG s.B n (.map clk' es')} h w' val a/\Nx s h w val {s with B:=BG s.B n (.map clk' es')} h w' val:=by
 obtain⟨hl,b,l,rfl,hv0,hg,hr,q1,q2,q3,h0⟩:=Cc H hu hm
 obtain⟨hK,hkk,⟨rfl,pre,st,v0,post,rfl,hne,rfl⟩|⟨rfl,rfl,hne⟩⟩:=hp
 obtain⟨lp,e,lq,rfl,e2,e3,e4,e5,e6,e7,hd,hik,hf⟩:=FN hr hK hkk hne hk
 obtain⟨f1,f2⟩:=map_set H hl hv0 hg h0 (REs.set (s:=st) (kd:=kd) (vd:=vd) (e:={e with key:=key,val:=v}) e3 e4 hk hv e7) (QZ q1) (RF q2) (QU q3)
 refine⟨_,?_,f1,f2⟩
 have ha:=KG lp lq e e2
 simp only[Instr.mapUpdate,Sem.run_bind,run_underlying ht,MapKept.run_getObj_map hg,hd,hf,Result.andThen_ok,ha,Option.map_some,Option.getD_some,e5,hik,HO lp lq e _ e2,MapKept.run_setObj_map _ hg]
 obtain⟨hd,hik,hf⟩:=ED hr hK hkk hne hk
 obtain⟨f1,f2⟩:=map_set H hl hv0 hg h0 (REs.append hr (REs.one (s:=clk) (kd:=kd) (vd:=vd) (e:=⟨key,v,clk⟩) rfl hk hv)) (OD q1) (OK q1 q2) (N8 hne q3)
 refine⟨_,?_,f1,f2⟩
 simp only[Instr.mapUpdate,Sem.run_bind,run_underlying ht,MapKept.run_getObj_map hg,hd,hf,Result.andThen_ok,MapKept.run_setObj_map _ hg,F1]
theorem Ef{s:St}{x:A}{n clk es}(h:Bv s x=some (n,clk,es)):x=.row n:=by unfold Bv at h;split at h;split at h;simp only[oe,pe]at h;rw[h.1];cases h;cases h
theorem GC{P:Program}{et:TypeId}{z:Value}(hz:(P.info? et).bind (·.zero)=some z)(w:World):(zeroValue et).run P w=.ok z w:=by simp only[Option.bind_eq_some_iff]at hz;obtain⟨i,hi,hz⟩:=hz;simp[zeroValue,typeInfo,hi,hz]
theorem aNf{P:Program}{o:Oper}{s:St}{wt:W}{Φ:Cn}{r:A}{es:List Ed}(he:aKl P o s wt=some (Φ,r,es)):EM P o s Φ.ok r (s.edit es):=by
 intro hΦ h w val a H K Q hK;unfold aKl at he;split at he;rename_i t ho;split at he;rename_i d hd;split at he;rename_i hc;simp only[ba,decide_eq_true_eq,Bool.not_eq_true']at hc;obtain⟨⟨c3,c4⟩,c5⟩:=hc;simp only[oe,pe]at he;obtain⟨rfl,rfl,rfl⟩:=he;have hvd:An val d (.map (some w.heap.size)) d=.map (some w.heap.size):=by simp[An]
 obtain⟨f1,f2⟩:=H.fresh c3 c4 c5 (.map #[] 0) (.map (some w.heap.size)) 0 (.map 0 []) rfl rfl
  ⟨w.heap.size,[],hvd,heap_alloc_new w _,rfl,by simp,by simp,by simp,by simp[Dz]⟩
 refine AQ (u:=.map (some w.heap.size)) (w':=w.alloc (.map #[] 0)) ?_ (hK _ _ _ _ (by simp only[RA];exact⟨hvd.symm,.inr ⟨_,rfl⟩⟩) f1.ins f2.ins);simp[execOp,ho,Instr.makeMap];cases he;cases he;rename_i t m k cok ho;split at he;rename_i n clk es kd kt et vd ok hm hk ht;split at he;rename_i z hz;split at he;rename_i hz1;simp only[oe,pe]at he;obtain⟨rfl,rfl,rfl⟩:=he;have hx:=Ef hm;have hu:=H.ev m;obtain⟨hl,b,l,hum,hv0,hg,hr,q1,q2,q3,h0⟩:=Cc H hu hm;have hkr:=Bm hk (H.look (H.ev k));have hzr:(zeroValue et).run P w=.ok z w:=GC hz w;obtain⟨hKs,hkk,hcase⟩:=hΦ;have key:∃v,(Instr.lookup t (a.eval m) (a.eval k) cok).run P w=.ok (if cok then .tuple #[v,.bool ok]else v) w/\RD h w vd v:=by
  rcases hcase with⟨rfl,pre,st,post,rfl,hne⟩|⟨rfl,rfl,hne⟩
  obtain⟨lp,e,lq,rfl,e2,e3,e4,e5,e6,e7,hd,hik,hf⟩:=FN hr hKs hkk hne hkr;refine⟨e.val,?_,e6⟩;rw[hum];cases cok<;>simp[Instr.lookup,run_underlying ht,MapKept.run_getObj_map hg,hd,hf];obtain⟨hd,hik,hf⟩:=ED hr hKs hkk hne hkr;refine⟨z,?_,Jd fun x hx=>List.all_eq_true.1 hz1 x hx⟩;rw[hum];cases cok<;>simp[Instr.lookup,run_underlying ht,MapKept.run_getObj_map hg,hd,hf,hzr]
 obtain⟨v,hrun,hvr⟩:=key;refine AQ (u:=if cok then .tuple #[v,.bool ok]else v) (w':=w) ?_ (hK h w val _ ?_ H (Nx.refl s h w val rfl))
 simp[execOp,ho,hrun];cases cok;simp only[Bool.false_eq_true,if_false,RA];exact hvr;simp only[if_true,RA,RAs];exact⟨[v,.bool ok],rfl,v,[.bool ok],rfl,hvr,.bool ok,[],rfl,by simp[bo,RA,RD,Value.oneCell'],rfl⟩;cases he;cases he;rename_i n clk es kd kt et hm hk ht;split at he;rename_i hz;simp only[oe,pe]at he;obtain⟨rfl,rfl,rfl⟩:=he;have hx:=Ef hm;have hu:=H.ev m;obtain⟨hl,b,l,hum,hv0,hg,hr,q1,q2,q3,h0⟩:=Cc H hu hm;have hkr:=Bm hk (H.look (H.ev k));have hzr:(zeroValue et).run P w=.ok (.slice none 0 0) w:=GC hz w;obtain⟨hKs,hkk,hcase⟩:=hΦ;rcases hcase with⟨hq,_⟩|⟨_,_,hne⟩
 cases hq;obtain⟨hd,hik,hf⟩:=ED hr hKs hkk hne hkr;refine AQ (u:=.slice none 0 0) (w':=w) ?_ (hK h w val _ (by simp only[RA]) H (Nx.refl s h w val rfl));have hrun:(Instr.lookup t (a.eval m) (a.eval k) false).run P w=.ok (.slice none 0 0) w:=by rw[hum];simp[Instr.lookup,run_underlying ht,MapKept.run_getObj_map hg,hd,hf,hzr]
 simp[execOp,ho,hrun];cases he;cases he;rename_i t m k x ho;split at he;rename_i n clk es kd vd kt et clk' es' hm hk hv ht;simp only[oe,pe]at he;obtain⟨rfl,rfl,rfl⟩:=he;have hx:=Ef hm;obtain⟨w',hrun,f1,f2⟩:=Eg H ht (um:=a.eval m) (by rw[<-hx];exact hm) (by rw[<-hx];exact H.ev m) (Bm hk (H.look (H.ev k))) (Bm hv (H.look (H.ev x))) hΦ;exact Be (w':=w') (by simp[execOp,ho,hrun]) (hK h _ val undef (by simp[RA]) f1 f2);cases he;rename_i t m k x ho;split at he;rename_i n clk es kd vd kt et clk' es' hm hk hv ht;simp only[oe,pe]at he;obtain⟨rfl,rfl,rfl⟩:=he;have hx:=Ef hm;obtain⟨w',hrun,f1,f2⟩:=Eg H ht (um:=a.eval m) (by rw[<-hx];exact hm) (by rw[<-hx];exact H.ev m) (Bm hk (H.look (H.ev k))) (Bm hv (H.look (H.ev x))) hΦ;exact Be (w':=w') (by simp[execOp,ho,hrun]) (hK h _ val undef (by simp[RA]) f1 f2);cases he;rename_i t m k ho;split at he;rename_i n clk es kd kt et clk' es' v st hm hk ht;split at he;rename_i z hz;split at he;rename_i hz1;simp only[oe,pe]at he;obtain⟨rfl,rfl,rfl⟩:=he;obtain⟨hl,b,l,hum,hv0,hg,hr,q1,q2,q3,h0⟩:=Cc H (H.ev m) hm;have hkr:=Bm hk (H.look (H.ev k));have hzr:(zeroValue et).run P w=.ok z w:=GC hz w;have hzd:=Jd (h:=h) (w:=w) fun x hx=>List.all_eq_true.1 hz1 x hx;obtain⟨hKs,hkk,hst,hcase⟩:=hΦ;have h63:=Lm hst;have key:∃v' w',(Instr.mapEntry t (a.eval m) (a.eval k)).run P w=.ok (.tuple #[v',.int .i64 st]) w'/\RD h w' v v'/\Holds {s with B:=BG s.B n (.map clk' es')} h w' val a/\Nx s h w val {s with B:=BG s.B n (.map clk' es')} h w' val:=by
  rcases hcase with⟨rfl,rfl,pre,post,rfl,hne⟩|⟨rfl,rfl,rfl,rfl,hne⟩
  obtain⟨lp,e,lq,rfl,e2,e3,e4,e5,e6,e7,hd,hik,hf⟩:=FN hr hKs hkk hne hkr;obtain⟨f1,f2⟩:=map_set H hl hv0 hg h0 (REs.set (s:=st) (kd:=kd) (vd:=v) (e:={e with key:=a.eval k}) e3 e4 hkr e6 e7) (QZ q1) (RF q2) (QU q3)
  refine⟨e.val,_,?_,RD.stays f2.keep.stays _ _ e6,f1,f2⟩;have ha:=KG lp lq e e2;rw[hum];simp only[Instr.mapEntry,Sem.run_bind,run_underlying ht,MapKept.run_getObj_map hg,hd,hf,Result.andThen_ok,ha,Option.map_some,Option.getD_some,e5,hik,HO lp lq e _ e2,MapKept.run_setObj_map _ hg,Sem.run_pure,goInt,e4,h63];obtain⟨hd,hik,hf⟩:=ED hr hKs hkk hne hkr;obtain⟨f1,f2⟩:=map_set H hl hv0 hg h0 (REs.append hr (REs.one (s:=st) (kd:=kd) (vd:=Cp z) (e:=⟨a.eval k,z,st⟩) rfl hkr hzd)) (OD q1) (OK q1 q2) (N8 hne q3);refine⟨z,_,?_,RD.stays f2.keep.stays _ _ hzd,f1,f2⟩;rw[hum];simp only[Instr.mapEntry,Sem.run_bind,run_underlying ht,MapKept.run_getObj_map hg,hd,hf,hzr,Result.andThen_ok,MapKept.run_setObj_map _ hg,Sem.run_pure,goInt,h63,F1]
 obtain⟨v',w',hrun,hvr,f1,f2⟩:=key;refine AQ (u:=.tuple #[v',.int .i64 st]) (w':=w') ?_ (hK h w' val _ ?_ f1 f2);simp[execOp,ho,hrun];simp only[RA,RAs];exact⟨[v',.int .i64 st],rfl,v',[.int .i64 st],rfl,hvr,.int .i64 st,[],rfl,by simp[RD,Value.oneCell'],rfl⟩;cases he;cases he;cases he;rename_i t m st x ho;split at he;rename_i n clk es i vd clk' es' hm hst hv;simp only[oe,pe]at he;obtain⟨rfl,rfl,rfl⟩:=he;obtain⟨hl,b,l,hum,hv0,hg,hr,q1,q2,q3,h0⟩:=Cc H (H.ev m) hm;have hvr:=Bm hv (H.look (H.ev x));obtain⟨pre,st',kd,v0,post,rfl,rfl,hne,rfl⟩:=hΦ;have hi:=H.ev st;rw[hst]at hi;simp only[RA,RD]at hi;obtain⟨lp,e,lq,rfl,e2,e3,e4,e5,e6,e7⟩:=REs.split hr;obtain⟨f1,f2⟩:=map_set H hl hv0 hg h0 (REs.set (s:=st') (kd:=kd) (vd:=vd) (e:={e with val:=a.eval x}) e3 e4 e5 hvr e7) (QZ q1) (RF q2) (QU q3)
 have hlp:∀x∈lp,x.born≠st':=fun x hx=>by obtain⟨y,hy,q,_⟩:=REs.mem e3 x hx;rw[q];exact hne y hy
 refine Be (w':=_) ?_ (hK h _ val undef (by simp[RA]) f1 f2);simp only[execOp,ho,hum,hi.1,Instr.entryStore,Sem.run_bind,MapKept.run_getObj_map hg,asInt,asIntOf,Sem.run_pure,Result.andThen_ok,aNp hlp e4,HO lp lq e _ rfl,MapKept.run_setObj_map _ hg];cases he;rename_i c ho;obtain⟨callee,⟨args⟩,⟨tys⟩⟩:=c;simp only at he;split at he;rename_i m k t t2;split at he;rename_i n clk es kd kt et clk' es' hm hk ht;simp only[oe,pe]at he;obtain⟨rfl,rfl,rfl⟩:=he;obtain⟨hl,b,l,hum,hv0,hg,hr,q1,q2,q3,h0⟩:=Cc H (H.ev m) hm;have hkr:=Bm hk (H.look (H.ev k));obtain⟨hKs,hkk,⟨pre,st,v0,post,rfl,hne,rfl⟩|⟨rfl,hne⟩⟩:=hΦ;obtain⟨lp,e,lq,rfl,e2,e3,e4,e5,e6,e7,hd,hik,hf⟩:=FN hr hKs hkk hne hkr;obtain⟨f1,f2⟩:=map_set H hl hv0 hg h0 (REs.append e3 e7) (clk':=clk) (fun x hx=>q1 x (by
  rcases ma.1 hx with g|g<;>simp[g])) (by
  have:(pre++post).Sublist (pre++(st,kd,v0)::post):=List.Sublist.append (List.Sublist.refl _) (List.sublist_cons_self _ _);exact(this.map _).nodup q2) (by
  have:(pre++post).Sublist (pre++(st,kd,v0)::post):=List.Sublist.append (List.Sublist.refl _) (List.sublist_cons_self _ _);exact(this.map _).nodup q3)
 refine AQ (u:=.tuple #[]) (w':=_) ?_ (hK h _ val _ (by simp[RA,RAs]) f1 f2);simp[execOp,ho,resolve,invoke,builtin,Builtin.delete_,run_underlying ht,hum,MapKept.run_getObj_map hg,hd,hf,MapKept.run_setObj_map _ hg];have:=Nn lp lq e e2;simp only[List.eraseIdxIfInBounds_toArray]at this;first|rw[this]|rw[<-e2,List.eraseIdx_append_of_length_le (Nat.le_refl _),Nat.sub_self];rfl
 obtain⟨hd,hik,hf⟩:=ED hr hKs hkk hne hkr;obtain⟨f1,f2⟩:=map_set H hl hv0 hg h0 hr q1 q2 q3;refine AQ (u:=.tuple #[]) (w':=_) ?_ (hK h _ val _ (by simp[RA,RAs]) f1 f2);simp[execOp,ho,resolve,invoke,builtin,Builtin.delete_,run_underlying ht,hum,MapKept.run_getObj_map hg,hd,hf,MapKept.run_setObj_map _ hg];cases he;rename_i m t;split at he;rename_i n clk es kt et hm ht;simp only[oe,pe]at he;obtain⟨rfl,rfl,rfl⟩:=he;obtain⟨hl,b,l,hum,hv0,hg,hr,q1,q2,q3,h0⟩:=Cc H (H.ev m) hm;obtain⟨f1,f2⟩:=map_set H hl hv0 hg h0 (es':=[]) (l':=[]) (clk':=clk) rfl (by simp) (by simp) (by simp);refine AQ (u:=.tuple #[]) (w':=_) ?_ (hK h _ val _ (by simp[RA,RAs]) f1 f2);simp[execOp,ho,resolve,invoke,builtin,Builtin.clear_,run_underlying ht,hum,MapKept.run_getObj_map hg,MapKept.run_setObj_map _ hg];cases he;rename_i m t;split at he;rename_i n clk es kt et n' hm ht;simp only[oe,pe]at he;obtain⟨rfl,rfl,rfl⟩:=he;obtain⟨hl,b,l,hum,hv0,hg,hr,q1,q2,q3,h0⟩:=Cc H (H.ev m) hm;obtain⟨rfl,hn⟩:=hΦ;have h63:=Lm (n:=es.length) (by omega);refine AQ (u:=.int .i64 es.length) (w':=w) ?_ (hK h w val _ (by simp[RA,RD,Value.oneCell']) H (Nx.refl s h w val rfl));have hlen:l.length=es.length:=REs.length hr;simp[execOp,ho,resolve,invoke,builtin,Builtin.len_,run_underlying ht,hum,MapKept.run_getObj_map hg,goInt,hlen,h63];cases he;cases he;cases he
end Go.Ac
namespace Go.Ac
open Go.MapKept
section
variable {h:Hw} {w:World} {val:Val} {outs:List (D×Nat)}
def RKe(h:Hw)(w:World)(val:Val)(outs:List (D×Nat))(x:Nat×D)(u:Value)(en:MapEntry):Prop:=
 en.born=x.1/\RD h w x.2 en.key/\(∀m,(x.2,m)∈outs->en.val=val m)/\((∀m,(x.2,m)∉outs)->en.val=u)
theorem RKs.cons_iff{x:Nat×D}{ks:List (Nat×D)}{us:List Value}{l:List MapEntry}:RKs h w val outs (x::ks) us l↔ ∃u us' en l',us=u::us'/\l=en::l'/\RKe h w val outs x u en/\RKs h w val outs ks us' l':=by constructor;rintro⟨u,us',en,l',a,b,c,d,e1,e2,r⟩;exact⟨u,us',en,l',a,b,⟨c,d,e1,e2⟩,r⟩;rintro⟨u,us',en,l',a,b,⟨c,d,e1,e2⟩,r⟩;exact⟨u,us',en,l',a,b,c,d,e1,e2,r⟩
theorem RKs.append:∀{ks:List (Nat×D)} {us:List Value} {l:List MapEntry} {ks' us' l'},RKs h w val outs ks us l->RKs h w val outs ks' us' l'->RKs h w val outs (ks++ks') (us++us') (l++l')
 |[],_,_,_,_,_,⟨a,b⟩,hr=>by subst a;subst b;exact hr
 |x::ks,_,_,_,_,_,hl,hr=>by
  obtain⟨u,us',en,l',rfl,rfl,c,r⟩:=RKs.cons_iff.1 hl;exact RKs.cons_iff.2 ⟨u,us'++_,en,l'++_,rfl,rfl,c,RKs.append r hr⟩
theorem RKs.split:∀{pre:List (Nat×D)} {x:Nat×D} {post:List (Nat×D)} {us:List Value} {l:List MapEntry},RKs h w val outs (pre++x::post) us l->
 ∃up u uq lp e lq,us=up++u::uq/\l=lp++e::lq/\up.length=pre.length/\lp.length=pre.length/\RKs h w val outs pre up lp/\RKe h w val outs x u e/\RKs h w val outs post uq lq
 |[],x,post,us,l,hl=>by
  obtain⟨u,us',en,l',rfl,rfl,c,r⟩:=RKs.cons_iff.1 hl;exact⟨[],u,us',[],en,l',rfl,rfl,rfl,rfl,⟨rfl,rfl⟩,c,r⟩
 |y::pre,x,post,us,l,hl=>by
  obtain⟨u,us',en,l',rfl,rfl,c,r⟩:=RKs.cons_iff.1 hl;obtain⟨up,u2,uq,lp,e2,lq,rfl,rfl,q1,q2,q3,q4,q5⟩:=RKs.split r;exact⟨u::up,u2,uq,en::lp,e2,lq,rfl,rfl,by simp[q1],by simp[q2],RKs.cons_iff.2 ⟨u,up,en,lp,rfl,rfl,c,q3⟩,q4,q5⟩
theorem RKs.length:∀{ks:List (Nat×D)} {us:List Value} {l:List MapEntry},RKs h w val outs ks us l->us.length=ks.length/\l.length=ks.length
 |[],_,_,⟨a,b⟩=>by subst a;subst b;exact⟨rfl,rfl⟩
 |x::ks,_,_,hl=>by
  obtain⟨u,us',en,l',rfl,rfl,c,r⟩:=RKs.cons_iff.1 hl;obtain⟨q1,q2⟩:=RKs.length r;exact⟨by simp[q1],by simp[q2]⟩
theorem RKs.mem:∀{ks:List (Nat×D)} {us:List Value} {l:List MapEntry},RKs h w val outs ks us l->∀e∈l,∃x∈ks,e.born=x.1/\RD h w x.2 e.key
 |[],_,_,⟨a,b⟩,e,he=>by subst b;cases he
 |x::ks,_,_,hl,e,he=>by
  obtain⟨u,us',en,l',rfl,rfl,c,r⟩:=RKs.cons_iff.1 hl;rcases mc.1 he with rfl|he
  exact⟨x,by simp,c.1,c.2.1⟩;obtain⟨y,hy,q⟩:=RKs.mem r e he;exact⟨y,by simp[hy],q⟩
theorem BA.append{e:TypeId}:∀{xss:List (Option (List D))} {us:List Value} {yss us'},BA h w e xss us->BA h w e yss us'->BA h w e (xss++yss) (us++us')
 |[],_,_,_,hl,hr=>by rw[show _=[]from hl];exact hr
 |none::xss,_,_,_,⟨u,us',e1,h1,h2⟩,hr=>by subst e1;exact⟨u,us'++_,rfl,h1,BA.append h2 hr⟩
 |some xs::xss,_,_,_,⟨u,us',vs,e1,h1,h2⟩,hr=>by subst e1;exact⟨u,us'++_,vs,rfl,h1,BA.append h2 hr⟩
def RRe(h:Hw)(w:World)(e:TypeId):Option (List D)->Value->Prop
 |none,u=>u.ownBlock=none
 |some xs,u=>∃vs,w.ownsRow 0 e 1 u xs.length vs/\Ah h w 1 xs vs/\∀g,u.ownBlock=some g->h g=0
theorem BA.cons_iff{e:TypeId}{x:Option (List D)}{xss:List (Option (List D))}{us:List Value}:BA h w e (x::xss) us↔ ∃u us',us=u::us'/\RRe h w e x u/\BA h w e xss us':=by
 cases x with
 |none=>exact Iff.rfl
 |some xs=>
  constructor
  rintro⟨u,us',vs,e1,h1,h2⟩;exact⟨u,us',e1,⟨vs,h1⟩,h2⟩
  rintro⟨u,us',e1,⟨vs,h1⟩,h2⟩;exact⟨u,us',vs,e1,h1,h2⟩
theorem BA.split{e:TypeId}:∀{pre:List (Option (List D))} {x:Option (List D)} {post:List (Option (List D))} {us:List Value},BA h w e (pre++x::post) us->
 ∃up u uq,us=up++u::uq/\up.length=pre.length/\BA h w e pre up/\RRe h w e x u/\BA h w e post uq
 |[],x,post,us,hl=>by
  obtain⟨u,us',rfl,c,r⟩:=BA.cons_iff.1 hl;exact⟨[],u,us',rfl,rfl,rfl,c,r⟩
 |y::pre,x,post,us,hl=>by
  obtain⟨u,us',rfl,c,r⟩:=BA.cons_iff.1 hl;obtain⟨up,u2,uq,rfl,q1,q2,q3,q4⟩:=BA.split r;exact⟨u::up,u2,uq,rfl,by simp[q1],BA.cons_iff.2 ⟨u,up,rfl,c,q2⟩,q3,q4⟩
end
theorem KQ{P:Program}{h:Hw}{w:World}{val:Val}{outs:List (D×Nat)}{kt:TypeId}{pre:List (Nat×D)}{s:Nat}{kd:D}{post:List (Nat×D)}{us:List Value}{l:List MapEntry}{key:Value}
 (hr:RKs h w val outs (pre++(s,kd)::post) us l) (hK:∀x∈pre++(s,kd)::post,KOk P kt x.2) (hk:KOk P kt kd) (hne:∀x∈pre,x.2≠kd) (hkr:RD h w kd key):
 ∃up u uq lp e lq,us=up++u::uq/\l=lp++e::lq/\up.length=pre.length/\lp.length=pre.length/\RKs h w val outs pre up lp/\RKe h w val outs (s,kd) u e/\e.key=key/\RKs h w val outs post uq lq/\Ask P kt key l (some (pre.length,e.val)):=by
 obtain⟨up,u,uq,lp,e,lq,e1,e2,e3,e4,e5,e6,e7⟩:=RKs.split hr
 obtain⟨v,rfl,hv⟩:=hk
 have hkv:key=v:=C0 hkr
 subst hkv
 have hek:e.key=key:=C0 e6.2.1
 have hlp:∀x∈lp,S6 P kt x.key/\x.key≠key:=fun x hx=>by obtain⟨y,hy,_,q⟩:=RKs.mem e5 x hx;obtain⟨v',h2,h3⟩:=hK y (ml_ _ hy);rw[h2]at q;have:=C0 q;rw[this];exact⟨h3,fun e=>hne y hy (by rw[h2,e])⟩
 refine⟨up,u,uq,lp,e,lq,e1,e2,e3,e4,e5,e6,hek,e7,?_⟩
 rw[e2,<-e4]
 exact ask_at hv hek hlp
theorem KR{P:Program}{h:Hw}{w:World}{val:Val}{outs:List (D×Nat)}{kt:TypeId}{ks:List (Nat×D)}{kd:D}{us:List Value}{l:List MapEntry}{key:Value}(hr:RKs h w val outs ks us l)
 (hK:∀x∈ks,KOk P kt x.2) (hk:KOk P kt kd) (hne:∀x∈ks,x.2≠kd) (hkr:RD h w kd key):Ask P kt key l none:=by
 obtain⟨v,rfl,hv⟩:=hk
 have hkv:key=v:=C0 hkr
 subst hkv
 refine ask_no hv fun x hx=>?_
 obtain⟨y,hy,_,q⟩:=RKs.mem hr x hx
 obtain⟨v',h2,h3⟩:=hK y hy
 rw[h2]at q
 have e:=C0 q
 rw[e]
 exact⟨h3,fun e2=>hne y hy (by rw[h2,e2])⟩
theorem IT{B:Bx}(h:(AK B).Nodup):B.Nodup:=by
 induction B with
 |nil=>exact List.nodup_nil
 |cons p B ih=>
  simp only[AK,List.map_cons,List.nodup_cons]at h
  exact List.nodup_cons.2 ⟨fun hm=>h.1 (mm.2 ⟨p,hm,rfl⟩),ih h.2⟩
theorem RAs.upds{h w}:∀(G:List Nat) {val val':Val} (as':List A) (us:List Value),(∀m,m∉G->val' m=val m)->(∀g∈G,AV g as'=false)->RAs h w val as' us->RAs h w val' as' us
 |[],val,val',as',us,hv,_,hr=>by
  have:val'=val:=funext fun m=>hv m (by simp);rw[this];exact hr
 |g::G,val,val',as',us,hv,hg,hr=>by
  have h1:RAs h w (An val g (val' g)) as' us:=RAs.upd (n:=g) (fun m hm=>by simp[An,hm]) as' us (hg g (.head _)) hr;refine RAs.upds G as' us (fun m hm=>?_) (fun x hx=>hg x (.tail _ hx)) h1;by_cases e:m=g;subst e;simp[An];simp only[An,e,if_false];exact hv m (by simp[e,hm])
theorem RB.upds{h w}:∀(G:List Nat) {val val':Val} {n:Nat} {b:Bk},(∀m,m∉G->val' m=val m)->(∀g∈G,n≠g/\b.has g=false)->RB h w val n b->RB h w val' n b
 |[],val,val',n,b,hv,_,hr=>by
  have:val'=val:=funext fun m=>hv m (by simp);rw[this];exact hr
 |g::G,val,val',n,b,hv,hg,hr=>by
  have h1:RB h w (An val g (val' g)) n b:=RB.upd (n:=g) (fun m hm=>by simp[An,hm]) (hg g (.head _)).1 (hg g (.head _)).2 hr;refine RB.upds G (fun m hm=>?_) (fun x hx=>hg x (.tail _ hx)) h1;by_cases e:m=g;subst e;simp[An];simp only[An,e,if_false];exact hv m (by simp[e,hm])
theorem CM{val:Val}{A B:Bx}(h:A.Perm B):(Aa val A).Perm (Aa val B):=List.Perm.flatMap_right (CW val) h
def aKi(val val':Val):Prop:=∀m,val' m=val m\/(∃t,val m=.tuple t)/\∃t,val' m=.tuple t
theorem aKi.hnd{val val':Val}(h:aKi val val'){m:Nat}(hm:Go.Ac.hnd (val m)):val' m=val m:=by
 rcases h m with h|⟨⟨t,h⟩,_⟩
 exact h;rw[h]at hm;rcases hm with⟨_,_,_,e⟩|⟨_,e⟩<;>cases e
mutual
theorem RA.tups{h w}:∀{val val':Val} (a:A) (u:Value),aKi val val'->RA h w val a u->RA h w val' a u
 |val,val',.d x,u,_,hr=>by simpa only[RA]using hr
 |val,val',.box n off,u,ht,hr=>by
  simp only[RA]at hr⊢;obtain⟨b,e1,e2⟩:=hr;rcases ht n with e|⟨⟨t,e⟩,_⟩
  exact⟨b,e.trans e1,e2⟩;rw[e]at e1;cases e1
 |val,val',.bsl n off len,u,ht,hr=>by
  simp only[RA]at hr⊢;obtain⟨b,c,e1,r⟩:=hr;rcases ht n with e|⟨⟨t,e⟩,_⟩
  exact⟨b,c,e.trans e1,r⟩;rw[e]at e1;cases e1
 |val,val',.ep n k i off,u,ht,hr=>by
  simp only[RA]at hr⊢;obtain⟨b,e1,r⟩:=hr;rcases ht n with e|⟨⟨t,e⟩,_⟩
  exact⟨b,by rw[e];exact e1,r⟩;rw[e]at e1;cases e1
 |val,val',.row n,u,ht,hr=>by
  simp only[RA]at hr⊢;obtain⟨e1,r⟩:=hr;exact⟨by rw[ht.hnd (e1▸r)];exact e1,r⟩
 |val,val',.eptr cs,u,_,hr=>by simpa only[RA]using hr
 |val,val',.clo f a b,u,ht,hr=>by
  simp only[RA]at hr⊢;obtain⟨fs,cs,e,h1,h2⟩:=hr;exact⟨fs,cs,e,RAs.tups a fs ht h1,RAs.tups b cs ht h2⟩
 |val,val',.agg cs,u,ht,hr=>by
  simp only[RA]at hr⊢;obtain⟨us,e,h1,h2⟩:=hr;exact⟨us,e,RAs.tups cs us ht h1,h2⟩
 |val,val',.tup vs,u,ht,hr=>by
  simp only[RA]at hr⊢;obtain⟨us,e,h1⟩:=hr;exact⟨us,e,RAs.tups vs us ht h1⟩
 |val,val',.opq a,u,ht,hr=>by
  simp only[RA]at hr⊢;exact RA.tups a u (fun m=>ht (m+up)) hr
 |val,val',.nil,u,_,hr=>by simpa only[RA]using hr
 |val,val',.ub,u,_,hr=>by simpa only[RA]using hr
 |val,val',.any,u,_,_=>by simp[RA]
theorem RAs.tups{h w}:∀{val val':Val} (as':List A) (us:List Value),aKi val val'->RAs h w val as' us->RAs h w val' as' us
 |val,val',[],us,_,hr=>by simpa only[RAs]using hr
 |val,val',a::as',us,ht,hr=>by
  simp only[RAs]at hr⊢;obtain⟨u,us',e,h1,h2⟩:=hr;exact⟨u,us',e,RA.tups a u ht h1,RAs.tups as' us' ht h2⟩
end
theorem RB.tups{h w}{val val':Val}{n:Nat}{b:Bk}(ht:aKi val val')(hn:val' n=val n)(hg:∀g clk ks outs,b=.mapR g clk ks outs->val' g=val g)(hr:RB h w val n b):RB h w val' n b:=by
 cases b with
 |cells cs=>
  obtain⟨g,us,t,e,hg,hr,h1,h0⟩:=hr
  exact⟨g,us,t,hn.trans e,hg,RAs.tups cs us ht hr,h1,h0⟩
 |vals as' us=>exact RAs.tups as' us ht hr
 |mit m clk seen=>
  obtain⟨r,b,e1,e2,e3⟩:=hr
  exact⟨r,b,hn.trans e1,(ht.hnd (by rw[e2];exact .inr ⟨_,rfl⟩)).trans e2,e3⟩
 |mapR g clk ks outs=>
  obtain⟨b,l,us,e1,e2,e3,e4,r1,r2,r3,r4,ho⟩:=hr
  have hx:∀x∈outs,val' x.2=val x.2:=fun x hx=>ht.hnd (ho x hx)
  exact⟨b,l,us,hn.trans e1,e2,(hg g clk ks outs rfl).trans e3,RKs.congr hx _ _ _ e4,r1,r2,r3,r4,fun x h2=>by rw[hx x h2];exact ho x h2⟩
 |rows e xss=>obtain⟨v,us,a,b⟩:=hr;exact⟨v,us,hn.trans a,b⟩
 |dead=>trivial
 |_=>simp only[RB]at hr⊢;rw[hn];exact hr
theorem Holds.swap{s:St}{h h':Hw}{w w':World}{val val':Val}{a:Act}(H:Holds s h w val a){P Q R B':Bx}(hP:s.B.Perm (P++R))(hB':B'.Perm (Q++R))(D:List Nat)
 (hv:∀m,m∉D->val' m=val m\/m∈AK P/\(∃t,val m=.tuple t)/\∃t,val' m=.tuple t) (hD:∀g∈D,g<up) (hE:∀g∈D,AV g s.E=false) (hR:∀g∈D,∀p∈s.B,p.1≠g/\p.2.has g=false) (hbn:val' bn=val bn)
 (hT:∀p∈R++s.F,∀g clk ks outs,p.2=.mapR g clk ks outs->val' g=val g\/g∈D)
 (hk:BI (Aa val P) h w h' w') (hQ:∀p∈Q,RB h' w' val' p.1 p.2) (hQn:(AK Q).Nodup) (hQm:∀n∈AK Q,n∈AK P\/n∈D) {L:List Nat} (hQb:(Aa val P).Perm (Aa val' Q++L)):
 Holds {s with B:=B'} h' w' val' a/\Nx s h w val {s with B:=B'} h' w' val':=by
 have hall:s.all.Perm (P++(R++s.F)):=by have:=hP.append_right s.F;rwa [List.append_assoc]at this
 have hall':({s with B:=B'}:St).all.Perm (Q++(R++s.F)):=by have:=hB'.append_right s.F;rwa [List.append_assoc]at this
 have hRF:∀g∈D,∀p∈R++s.F,p.1≠g/\p.2.has g=false:=fun g hg p hp=>by
  rcases ma.1 hp with hp|hp
  exact hR g hg p (hP.mem_iff.2 (mr_ _ hp));exact H.far g (.inl (hD g hg)) p hp
 have hnd:=(show(AK s.all).Perm (AK (P++(R++s.F)))from hall.map _).nodup_iff.1 H.inv.nms
 have hbd:=(CM (val:=val) hall).nodup_iff.1 H.inv.bks
 rw[AJ]at hbd
 obtain⟨hb1,hb2,hb3⟩:=List.nodup_append.1 hbd
 have hn2:(AK P++AK (R++s.F)).Nodup:=by rw[<-AI];exact hnd
 obtain⟨hn1,hn3,hn4⟩:=List.nodup_append.1 hn2
 have hRv:∀p∈R++s.F,val' p.1=val p.1:=fun p hp=>by
  rcases hv p.1 fun hg=>(hRF _ hg p hp).1 rfl with e|⟨e,_⟩
  exact e;exact absurd rfl (hn4 _ e _ (mm.2 ⟨p,hp,rfl⟩))
 have hbRF:Aa val' (R++s.F)=Aa val (R++s.F):=BZ fun m hm=>by obtain⟨p,hp,rfl⟩:=mm.1 hm;exact hRv p hp
 have hsub:∀b∈Aa val' Q,b∈Aa val P:=fun b hb=>hQb.mem_iff.2 (ml_ _ hb)
 have hPall:∀b∈Aa val P,b∈Aa val s.all:=fun b hb=>(CM (val:=val) hall).mem_iff.2 (by rw[AJ];exact ml_ _ hb)
 have hkA:BI (Aa val s.all) h w h' w':=hk.mono' fun b hb=>.inl (hPall b hb)
 --first the AK that are new,then the tuples
 let val1:Val:=fun m=>if m∈D then val' m else val m
 have h1a:∀m,m∉D->val1 m=val m:=fun m hm=>if_neg hm
 have h1t:aKi val1 val':=fun m=>by
  by_cases hm:m∈D;exact .inl (by simp only[val1,if_pos hm]);rw[h1a m hm];rcases hv m hm with e|⟨_,e⟩
  exact .inl e;exact .inr e
 refine⟨⟨RAs.tups _ _ h1t (RAs.upds D _ _ h1a hE (RAs.stays hk.stays _ _ _ H.e)),⟨fun p hp=>?_,?_,?_,H.inv.glob.stays hk.stays⟩,H.far,H.defs.keep' hkA H.inv.blk_def hbn⟩,⟨hkA,fun m hm=>by rw[hm];exact hbn,fun b hb=>?_⟩⟩
 rcases ma.1 (hall'.mem_iff.1 hp)with hq|hq
 exact hQ p hq
 have hin:p∈s.all:=hall.mem_iff.2 (mr_ _ hq)
 refine RB.tups h1t (by rw[hRv p hq,h1a _ fun hg=>(hRF _ hg p hq).1 rfl]) (fun g clk ks outs e=>?_) (RB.upds D h1a (fun g hg=>⟨(hRF g hg p hq).1,(hRF g hg p hq).2⟩) (RB.stays hk.stays (fun b hb=>?_) (H.inv.rep p hin)))
 rcases hT p hq g clk ks outs e with q|q
 by_cases hm:g∈D
 simp only[val1,if_pos hm]
 rw[q,h1a g hm]
 simp only[val1,if_pos q]
 have hm:b∈Aa val s.all:=Cd.2 ⟨p,hin,hb⟩
 exact hk.far b (H.inv.blk_lt b hm) fun hbP=>hb3 b hbP b (Cd.2 ⟨p,hq,hb⟩) rfl
 refine(show(AK ({s with B:=B'}:St).all).Perm (AK (Q++(R++s.F)))from hall'.map _).nodup_iff.2 ?_
 rw[AI]
 refine List.nodup_append.2 ⟨hQn,hn3,fun x hx y hy e=>?_⟩
 subst e
 rcases hQm x hx with h1|h1
 exact hn4 x h1 x hy rfl
 obtain⟨p,hp,rfl⟩:=mm.1 hy
 exact(hRF _ h1 p hp).1 rfl
 refine(CM (val:=val') hall').nodup_iff.2 ?_
 rw[AJ,hbRF]
 refine List.nodup_append.2 ⟨?_,hb2,fun x hx y hy e=>hb3 x (hsub x hx) y hy e⟩
 exact(List.nodup_append.1 (hQb.nodup_iff.1 hb1)).1
 have hb:=(CM (val:=val') hall').mem_iff.1 hb
 rw[AJ,hbRF]at hb
 refine .inl ((CM (val:=val) hall).mem_iff.2 ?_)
 rw[AJ]
 rcases ma.1 hb with hb|hb
 exact ml_ _ (hsub b hb)
 exact mr_ _ hb
def DO(n:Nat)(B:Bx):Bx:=B.filter fun p=>decide (p.1≠n)
theorem Bw{n:Nat}{B:Bx}{p:Nat×Bk}:p∈DO n B↔p∈B/\p.1≠n:=by unfold DO;rw[List.mem_filter];simp
theorem Hr{B:Bx}(hn:(AK B).Nodup){n:Nat}{b:Bk}(hl:lk B n=some b):B.Perm ((n,b)::DO n B):=by have hnB:B.Nodup:=IT hn;refine(List.perm_ext_iff_of_nodup hnB ?_).2 fun p=>?_;exact List.nodup_cons.2 ⟨fun hm=>(Bw.1 hm).2 rfl,hnB.filter _⟩;rw[mc,Bw];constructor;intro hp;by_cases e:p.1=n;left;obtain⟨m,c⟩:=p;simp only at e;subst e;rw[BB hn hp (Ag hl)];exact .inr ⟨hp,e⟩;rintro(rfl|⟨h,_⟩);exact Ag hl;exact h
theorem GB{B:Bx}(hn:(AK B).Nodup){n:Nat}{b b':Bk}(hl:lk B n=some b):(BG B n b').Perm ((n,b')::DO n B):=by
 have h1:=(Hr hn hl).map fun p=>if p.1=n then(n,b')else p
 refine h1.trans ?_;rw[List.map_cons,if_pos rfl];have:(DO n B).map (fun p=>if p.1=n then(n,b')else p)=DO n B:=by refine(List.map_congr_left fun p hp=>?_).trans (List.map_id _);rw[if_neg (Bw.1 hp).2];rfl
 rw[this]
theorem Lz{B:Bx}{n m:Nat}(hne:m≠n):lk (DO n B) m=lk B m:=by unfold lk DO;rw[List.find?_filter];congr 2;funext p;by_cases e:p.1=m;simp[e,hne];simp[e]
theorem Ek{B:Bx}(hn:(AK B).Nodup)(n:Nat):(AK (DO n B)).Nodup:=hn.sublist ((List.filter_sublist).map _)
end Go.Ac
namespace Go.Ac
open Go.MapKept
structure RMp where
 n:Nat
 g:Nat
 clk:Nat
 ks:List (Nat×D)
 outs:List (D×Nat)
 e:TypeId
 xss:List (Option (List D))
def CL(s:St)(g0:Nat):A->Option RMp
 | .row n=>match lk s.B n with
  |some (.mapR g clk ks outs)=>if Nat.beq g g0&&decide (g<up)&& !Nat.beq g n then match lk s.B g0 with
   |some (.rows e xss)=>some ⟨n,g,clk,ks,outs,e,xss⟩
   |_=>none
   else none
  |_=>none
 |_=>none
structure II(s:St)(r:RMp):Prop where
 ln:lk s.B r.n=some (.mapR r.g r.clk r.ks r.outs)
 lg:lk s.B r.g=some (.rows r.e r.xss)
 hu:r.g<up
 ne:r.g≠r.n
theorem DG{s:St}{g0:Nat}{x:A}{r:RMp}(h:CL s g0 x=some r):x=.row r.n/\II s r:=by unfold CL at h;split at h;rename_i n;split at h;rename_i g clk ks outs h1;split at h;rename_i h3;split at h;rename_i e xss h2;cases h;simp only[ba,decide_eq_true_eq,Bool.not_eq_true',Nat.beq_eq]at h3;obtain⟨⟨a1,a2⟩,a3⟩:=h3;subst a1;exact⟨rfl,⟨h1,h2,a2,fun e=>by simp only at e;rw[e,Nat.beq_refl]at a3;cases a3⟩⟩;cases h;cases h;cases h;cases h
structure aQc(h:Hw)(w:World)(val:Val)(r:RMp)(b:Nat)(us:List Value)(l:List MapEntry):Prop where
 hv:val r.n=.map (some b)
 hg:w.heap[b]? =some (.map ⟨l⟩ r.clk)
 hu:val r.g=.tuple ⟨.map (some b)::us⟩
 rk:RKs h w val r.outs r.ks us l
 lt:∀x∈r.ks,x.1<r.clk
 n1:(r.ks.map (·.1)).Nodup
 n2:(r.ks.map (·.2)).Nodup
 h0:h b=0
 ho:∀x∈r.outs,hnd (val x.2)
 rr:BA h w r.e r.xss us
theorem II.v{s:St}{h w val}{a:Act}{r:RMp}(R:II s r)(H:Holds s h w val a):∃b us l,aQc h w val r b us l:=by
 obtain⟨b,l,us,h1,h2,h3,h4,h5,h6,h7,h8,h9⟩:=H.inv.rep _ (ml_ _ (Ag R.ln));obtain⟨v,us2,g1,g0,g2⟩:=H.inv.rep _ (ml_ _ (Ag R.lg));have:v=.map (some b)/\us2=us:=by have:=g1.symm.trans h3;simpa using this
 obtain⟨rfl,rfl⟩:=this;exact⟨b,us2,l,h1,h2,h3,h4,h5,h6,h7,h8,h9,g2⟩
theorem C7{s:St}{h w val}{a:Act}(H:Holds s h w val a):(AK s.B).Nodup:=by have:=H.inv.nms;rw[St.all,AI]at this;exact(List.nodup_append.1 this).1
theorem Db{B C:Bx}{m n:Nat}{c b:Bk}(h:B.Perm ((m,c)::C))(hne:m≠n):(BG B n b).Perm ((m,c)::BG C n b):=by
 have:=h.map fun p=>if p.1=n then(n,b)else p
 refine this.trans ?_;rw[List.map_cons,if_neg hne];exact .refl _
theorem Da{B:Bx}(hn:(AK B).Nodup){n g:Nat}{b1 b2 c1 c2:Bk}(h1:lk B n=some c1)(h2:lk B g=some c2)(hne:g≠n):
 B.Perm ([(n,c1),(g,c2)]++DO g (DO n B))/\(BG (BG B n b1) g b2).Perm ([(n,b1),(g,b2)]++DO g (DO n B)):=by
 have h3:lk (DO n B) g=some c2:=by rw[Lz hne];exact h2
 exact⟨(Hr hn h1).trans ((Hr (Ek hn n) h3).cons _),(Db (GB hn h1) (fun e=>hne e.symm)).trans ((GB (Ek hn n) h3).cons _)⟩
theorem RKs.re{h w}{val:Val}{outs outs':List (D×Nat)}:∀{ks:List (Nat×D)} {us:List Value} {l:List MapEntry},(∀x∈ks,∀m,(x.2,m)∈outs'↔(x.2,m)∈outs)->RKs h w val outs ks us l->RKs h w val outs' ks us l
 |[],_,_,_,hr=>hr
 |x::ks,us,l,hx,hr=>by
  obtain⟨u,us',en,l',rfl,rfl,⟨a,b,c,d⟩,r⟩:=RKs.cons_iff.1 hr;have h1:=hx x (.head _);exact RKs.cons_iff.2 ⟨u,us',en,l',rfl,rfl,⟨a,b,fun m hm=>c m ((h1 m).1 hm),fun hm=>d fun m hh=>hm m ((h1 m).2 hh)⟩,RKs.re (fun y hy=>hx y (.tail _ hy)) r⟩
theorem aJk{w:World}{base:Nat}{e:TypeId}{k:Nat}{u:Value}{n:Nat}{vs:List Value}(h:w.ownsRow base e k u n vs):vblk u=u.ownBlock/\hnd u:=by
 rcases h.2 with⟨hv,_⟩|⟨g,cap,cur,hv,_⟩
 subst hv;exact⟨rfl,hnd.sl _ _ _⟩;subst hv;exact⟨rfl,hnd.sl _ _ _⟩
theorem RRe.vblk{h w e xs u}(hr:RRe h w e (some xs) u):Go.Ac.vblk u=u.ownBlock/\hnd u:=by obtain⟨vs,ho,_⟩:=hr;exact aJk ho
def aO1(P:Program)(kt:TypeId)(r:RMp)(kd:D)(xs:List D)(xss':List (Option (List D))):Prop:=
 (∀x∈r.ks,KOk P kt x.2)/\KOk P kt kd/\(∀p∈r.outs,p.1≠kd)/\
  ((∃(pre:List (Nat×D)) (st:Nat) (post:List (Nat×D)) (p1 p2:List (Option (List D))),r.ks=pre++(st,kd)::post/\(∀x∈pre,x.2≠kd)/\r.xss=p1++some xs::p2/\p1.length=pre.length/\xss'=p1++none::p2)\/
   (xs=[]/\xss'=r.xss/\∀x∈r.ks,x.2≠kd))
theorem Kl{pre post:List (Nat×D)}{st:Nat}{kd:D}(h:((pre++(st,kd)::post).map (·.2)).Nodup):∀x∈post,x.2≠kd:=fun x hx e=>by rw[List.map_append,List.map_cons]at h;have:=(List.nodup_cons.1 (List.nodup_append.1 h).2.1).1;exact this (mm.2 ⟨x,hx,e⟩)
theorem aS5{P:Program}{h:Hw}{w:World}{val:Val}{r:RMp}{b:Nat}{us:List Value}{l:List MapEntry}(V:aQc h w val r b us l){kt:TypeId}{kd:D}{xs xss'}{key:Value}(hm:aO1 P kt r kd xs xss')(hkr:RD h w kd key)(d:Nat):
 ∃u us',(Ask P kt key l none/\u=.slice none 0 0\/∃i,Ask P kt key l (some (i,u)))/\RRe h w r.e (some xs) u/\BA h w r.e xss' us'/\
  (∀val':Val,(∀x∈r.outs,val' x.2=val x.2)->val' d=u->RKs h w val' ((kd,d)::r.outs) r.ks us' l)/\(us.filterMap Value.ownBlock).Perm (u.ownBlock.toList++us'.filterMap Value.ownBlock):=by
 obtain⟨hK,hkk,ho,hcase⟩:=hm
 rcases hcase with⟨pre,st,post,p1,p2,e1,hne,e2,hl,rfl⟩|⟨rfl,rfl,hne⟩
 have hpost:=Kl (e1▸V.n2)
 have hrk:=V.rk
 rw[e1]at hrk hK
 obtain⟨up,u,uq,lp,en,lq,rfl,rfl,q1,q2,q3,q4,q5,q6,q7⟩:=KQ hrk hK hkk hne hkr
 have hrr:=V.rr
 rw[e2]at hrr
 obtain⟨up2,u2,uq2,f1,f2,f3,f4,f5⟩:=BA.split hrr
 have hlen:up.length=up2.length:=by rw[q1,f2,hl]
 obtain⟨rfl,f6⟩:=List.append_inj f1 hlen
 obtain⟨rfl,rfl⟩:=List.cons.inj f6
 have hval:en.val=u:=q4.2.2.2 fun m hm=>ho _ hm rfl
 refine⟨u,up++ .slice none 0 0::uq,.inr ⟨_,hval▸q7⟩,f4,BA.append f3 (BA.cons_iff.2 ⟨_,_,rfl,rfl,f5⟩),fun val' h1 h2=>?_,?_⟩
 rw[e1]
 have hre:∀ks:List (Nat×D),(∀x∈ks,x.2≠kd)->∀x∈ks,∀m,(x.2,m)∈(kd,d)::r.outs↔(x.2,m)∈r.outs:=fun ks hks x hx m=>by simp only[mc,pe,or_iff_right_iff_imp];intro hh;exact absurd hh.1 (hks x hx)
 refine RKs.append (RKs.re (hre pre hne) (RKs.congr h1 _ _ _ q3)) (RKs.cons_iff.2 ⟨_,_,_,_,rfl,rfl,⟨q4.1,q4.2.1,fun m hm=>?_,fun hm=>absurd (List.mem_cons_self) (hm d)⟩,RKs.re (hre post hpost) (RKs.congr h1 _ _ _ q6)⟩)
 rcases mc.1 hm with hm|hm
 cases hm;rw[h2];exact hval
 exact absurd rfl (ho _ hm)
 simp only[List.filterMap_append,List.filterMap_cons]
 rw[show(Value.slice none 0 0).ownBlock=none from rfl]
 cases u.ownBlock with
 |none=>simp
 |some g=>simp only[Option.toList_some,List.singleton_append];exact List.perm_middle
 refine⟨.slice none 0 0,us,.inl ⟨KR V.rk hK hkk hne hkr,rfl⟩,⟨[],World.ownsRow_nil w 0 r.e 1,by simp[Ah],fun g hg=>by simp[Value.ownBlock]at hg⟩,V.rr,fun val' h1 _=>RKs.re (fun x hx m=>?_) (RKs.congr h1 _ _ _ V.rk),?_⟩
 simp only[mc,pe,or_iff_right_iff_imp]
 intro hh;exact absurd hh.1 (hne x hx)
 simp[Value.ownBlock]
theorem ZS(val:Val)(n g:Nat)(v:Nat)(clk:Nat)(ks:List (Nat×D))(outs:List (D×Nat))(e:TypeId)(xss:List (Option (List D))){b c:Nat}{us:List Value}(hv:val n=.map (some b))(hu:val g=.tuple ⟨.map (some c)::us⟩):
 Aa val [(n,.mapR v clk ks outs),(g,.rows e xss)]=b::us.filterMap Value.ownBlock:=by
 simp[Aa,CW,BE,Bk.isOld,hv,hu,vblk,aZ5]
 rw[List.filterMap_cons];rfl
theorem Nq{val:Val}{n:Nat}{e:TypeId}{xs:List D}{u:Value}(hv:val n=u)(h:vblk u=u.ownBlock):CW val (n,.rw e 1 xs)=u.ownBlock.toList:=by simp[CW,BE,Bk.isOld,hv,h]
theorem aQc.alone{s:St}{h w val}{a:Act}{r:RMp}{b us l}(H:Holds s h w val a)(R:II s r)(V:aQc h w val r b us l){p:Nat×Bk}(hp:p∈s.all)(hne:p.1≠r.n){g clk ks outs}(e:p.2=.mapR g clk ks outs):g≠r.g:=by
 intro hg;have h1:=H.inv.rep p hp;rw[e]at h1;obtain⟨b2,l2,us2,e1,e2,e3,_⟩:=h1;rw[hg,V.hu]at e3;have hbb:b=b2:=by have:=e3.symm;simp at this;exact this.1.symm
 subst hbb;have m1:b∈CW val p:=by obtain⟨n,k⟩:=p;simp only at e e1;subst e;exact Ar (by rw[e1];rfl) rfl
 have hin:(r.n,Bk.mapR r.g r.clk r.ks r.outs)∈s.all:=ml_ _ (Ag R.ln);have m2:b∈CW val (r.n,Bk.mapR r.g r.clk r.ks r.outs):=Ar (by rw[V.hv];rfl) rfl;have:=Bg H.inv.bks hp hin m1 m2;exact hne (by rw[this])
theorem aZ6{val:Val}{g d:Nat}{x y:Value}(hne:d≠g):An (An val g x) d y g=x/\An (An val g x) d y d=y/\∀m,m≠g->m≠d->An (An val g x) d y m=val m:=
 ⟨by simp[An,hne.symm],by simp[An],fun m h1 h2=>by simp[An,h1,h2]⟩
theorem Sg{P:Program}{s:St}{h:Hw}{w:World}{val:Val}{a:Act}(H:Holds s h w val a){r:RMp}(R:II s r){kt:TypeId}{kd:D}{xs xss'}{key:Value}(hm:aO1 P kt r kd xs xss')(hkr:RD h w kd key)
 {d:Nat} (d1:d<up) (d2:AV d s.E=false) (d3:BW d s.B=false):
 ∃b l u val',val r.n=.map (some b)/\w.heap[b]? =some (.map ⟨l⟩ r.clk)/\(Ask P kt key l none/\u=.slice none 0 0\/∃i,Ask P kt key l (some (i,u)))/\RA h w val' (.row d) u/\
  Holds (s.edit [.chg r.n (.mapR r.g r.clk r.ks ((kd,d)::r.outs)),.chg r.g (.rows r.e xss'),.add d (.rw r.e 1 xs)]) h w val' a/\
  Nx s h w val (s.edit [.chg r.n (.mapR r.g r.clk r.ks ((kd,d)::r.outs)),.chg r.g (.rows r.e xss'),.add d (.rw r.e 1 xs)]) h w val':=by
 obtain⟨b,us,l,V⟩:=R.v H
 obtain⟨u,us',hask,hre,hrr,hrk,hpm⟩:=aS5 V hm hkr d
 have hdB:=BP d3
 have hdn:d≠r.n:=fun e=>(hdB _ (Ag R.ln)).1 e.symm
 have hdg:d≠r.g:=fun e=>(hdB _ (Ag R.lg)).1 e.symm
 have hdo:∀x∈r.outs,x.2≠d:=fun x hx e=>by have:=(hdB _ (Ag R.ln)).2;simp only[Bk.has,Bool.or_eq_false_iff,List.any_eq_false,beq_iff_eq]at this;exact this.2 x hx e
 obtain⟨v1,v2,v3⟩:=aZ6 (val:=val) (g:=r.g) (d:=d) (x:=.tuple ⟨.map (some b)::us'⟩) (y:=u) hdg
 obtain⟨hvb,hh⟩:=hre.vblk
 obtain⟨p1,p2⟩:=Da (b1:=.mapR r.g r.clk r.ks ((kd,d)::r.outs)) (b2:=.rows r.e xss') (C7 H) R.ln R.lg R.ne
 have hV':An (An val r.g (.tuple ⟨.map (some b)::us'⟩)) d u r.n=.map (some b):=(v3 _ (fun e=>R.ne e.symm) (fun e=>hdn e.symm)).trans V.hv
 have hbn:bn≠r.g/\bn≠d:=by have:=R.hu;simp only[up]at this d1;simp only[bn];omega
 have hog:∀x∈r.outs,x.2≠r.g:=fun x hx e=>by have:=V.ho x hx;rw[e,V.hu]at this;rcases this with⟨_,_,_,q⟩|⟨_,q⟩<;>cases q
 have key:=H.swap (P:=[(r.n,.mapR r.g r.clk r.ks r.outs),(r.g,.rows r.e r.xss)]) (Q:=[(d,.rw r.e 1 xs),(r.n,.mapR r.g r.clk r.ks ((kd,d)::r.outs)),(r.g,.rows r.e xss')]) (R:=DO r.g (DO r.n s.B))
  (B':=Cq d (.rw r.e 1 xs) (BG (BG s.B r.n (.mapR r.g r.clk r.ks ((kd,d)::r.outs))) r.g (.rows r.e xss'))) p1 ((Bp _ _ _).trans (p2.cons _)) [d] (h':=h) (w':=w) (val':=An (An val r.g (.tuple ⟨.map (some b)::us'⟩)) d u)
  (fun m hm=>by by_cases e:m=r.g;subst e;exact .inr ⟨by simp[AK],⟨_,V.hu⟩,⟨_,v1⟩⟩;exact .inl (v3 m e (fun e=>hm (by simp[e])))) (fun x hx=>by rw[List.mem_singleton.1 hx];exact d1) (fun x hx=>by rw[List.mem_singleton.1 hx];exact d2) (fun x hx p hp=>by rw[List.mem_singleton.1 hx];exact hdB p hp) (v3 _ hbn.1 hbn.2)
  (fun p hp g clk ks outs e=>by
   have hpn:p.1≠r.n/\p∈s.all:=by
    rcases ma.1 hp with hp|hp
    obtain⟨q1,q2⟩:=Bw.1 hp;obtain⟨q3,q4⟩:=Bw.1 q1;exact⟨q4,ml_ _ q3⟩;refine⟨fun e=>?_,mr_ _ hp⟩;have hnd:=H.inv.nms;rw[St.all,AI]at hnd;exact(List.nodup_append.1 hnd).2.2 r.n (mm.2 ⟨_,Ag R.ln,rfl⟩) p.1 (mm.2 ⟨p,hp,rfl⟩) e.symm
   by_cases hd2:g=d;exact .inr (by simp[hd2]);exact .inl (v3 g (V.alone H R hpn.2 hpn.1 e) hd2))
  (BI.refl _ _ _) (fun p hp=>by
   simp only[mc,List.not_mem_nil,or_false]at hp;rcases hp with rfl|rfl|rfl
   obtain⟨vs,f1,f2,f3⟩:=hre;refine⟨vs,?_,f2,fun g hg=>f3 g ?_⟩;simp only;rw[v2];exact f1;rw[v2]at hg;exact hg;refine⟨b,l,us',hV',V.hg,v1,hrk _ (fun x hx=>v3 _ (hog x hx) (hdo x hx)) v2,V.lt,V.n1,V.n2,V.h0,fun x hx=>?_⟩;rcases mc.1 hx with rfl|hx
   simp only;rw[v2];exact hh;rw[v3 _ (hog x hx) (hdo x hx)];exact V.ho x hx;exact⟨_,us',v1,rfl,hrr⟩) (by simp[AK,hdn,hdg,R.ne.symm]) (fun x hx=>by
   simp only[AK,List.map_cons,List.map_nil,mc,List.not_mem_nil,or_false]at hx⊢;rcases hx with rfl|rfl|rfl
   exact .inr rfl;exact .inl (.inl rfl);exact .inl (.inr rfl)) (L:=[]) (by
   rw[ZS val _ _ _ _ _ _ _ _ V.hv V.hu,Aj,ZS _ _ _ _ _ _ _ _ _ hV' v1,Nq v2 hvb,List.append_nil];exact(hpm.cons b).trans List.perm_middle.symm)
 exact⟨b,l,u,_,V.hv,V.hg,hask,by simp only[RA];exact⟨v2.symm,hh⟩,key.1,key.2⟩
theorem LS(val:Val):∀X:Bx,Aa val (X.map fun p=>(p.1,Bk.dead))=[]
 |[]=>rfl
 |p::X=>by
  rw[List.map_cons,Aj,LS val X];simp[CW,BE,Bk.isOld]
theorem BA.keepb{h:Hw}{w:World}{e:TypeId}{xss:List (Option (List D))}{us:List Value}{b:Nat}{o:Obj}(hs:Do h w h {w with heap:=w.heap.setIfInBounds b o})(hb:b∉us.filterMap Value.ownBlock)(hr:BA h w e xss us):
 BA h {w with heap:=w.heap.setIfInBounds b o} e xss us:=
 BA.stays hs xss us (fun u hu g hg=>⟨Bc fun e=>hb (List.mem_filterMap.2 ⟨u,hu,e▸hg⟩),rfl⟩) hr
theorem CP{s:St}{h:Hw}{w:World}{val:Val}{a:Act}(H:Holds s h w val a){r:RMp}(R:II s r){b:Nat}{us:List Value}{l:List MapEntry}(V:aQc h w val r b us l)
 {us':List Value} {l':List MapEntry} {clk':Nat} {ks':List (Nat×D)} {outs':List (D×Nat)} {xss':List (Option (List D))} (hrk:RKs h w val outs' ks' us' l') (lt':∀x∈ks',x.1<clk') (n1:(ks'.map (·.1)).Nodup) (n2:(ks'.map (·.2)).Nodup)
 (ho:∀x∈outs',x∈r.outs) {X Rr B':Bx} (hrr:BA h w r.e xss' us')
 (hP:s.B.Perm (X++[(r.n,.mapR r.g r.clk r.ks r.outs),(r.g,.rows r.e r.xss)]++Rr)) (hB':B'.Perm (X.map (fun p=>(p.1,Bk.dead))++[(r.n,.mapR r.g clk' ks' outs'),(r.g,.rows r.e xss')]++Rr))
 (hX:∀p∈X,p.1≠r.g/\p.1≠r.n) (hRr:∀p∈Rr,p.1≠r.g/\p.1≠r.n/\p∈s.B) {L:List Nat} (hL:(Aa val X++us.filterMap Value.ownBlock).Perm (us'.filterMap Value.ownBlock++L)):
 Holds {s with B:=B'} h {w with heap:=w.heap.setIfInBounds b (.map ⟨l'⟩ clk')} (An val r.g (.tuple ⟨.map (some b)::us'⟩)) a/\Nx s h w val {s with B:=B'} h {w with heap:=w.heap.setIfInBounds b (.map ⟨l'⟩ clk')} (An val r.g (.tuple ⟨.map (some b)::us'⟩)):=by
 have hvg:An val r.g (.tuple ⟨.map (some b)::us'⟩) r.g=.tuple ⟨.map (some b)::us'⟩:=by simp[An]
 have hvm:∀m,m≠r.g->An val r.g (.tuple ⟨.map (some b)::us'⟩) m=val m:=fun m hm=>by simp[An,hm]
 have hPb:Aa val (X++[(r.n,.mapR r.g r.clk r.ks r.outs),(r.g,.rows r.e r.xss)])=Aa val X++(b::us.filterMap Value.ownBlock):=by rw[AJ,ZS val _ _ _ _ _ _ _ _ V.hv V.hu]
 have hnd:(Aa val X++(b::us.filterMap Value.ownBlock)).Nodup:=by have hb:=H.inv.bks;rw[St.all,AJ]at hb;have h2:=(CM (val:=val) hP).nodup_iff.1 (List.nodup_append.1 hb).1;rw[AJ,hPb]at h2;exact(List.nodup_append.1 h2).1
 have hmid:(Aa val X++(b::us.filterMap Value.ownBlock)).Perm (b::(Aa val X++us.filterMap Value.ownBlock)):=List.perm_middle
 have hbn:=(List.nodup_cons.1 (hmid.nodup_iff.1 hnd)).1
 have hbu:b∉us'.filterMap Value.ownBlock:=fun hh=>hbn (hL.mem_iff.2 (ml_ _ hh))
 have hbM:b∈Aa val (X++[(r.n,.mapR r.g r.clk r.ks r.outs),(r.g,.rows r.e r.xss)]):=by rw[hPb];simp
 have hk:BI (Aa val (X++[(r.n,.mapR r.g r.clk r.ks r.outs),(r.g,.rows r.e r.xss)])) h w h {w with heap:=w.heap.setIfInBounds b (.map ⟨l'⟩ clk')}:=⟨rfl,rfl,rfl,by simp,fun x i v _ hc=>by unfold World.cell? at hc⊢;by_cases e:x=b;subst e;simp only[V.hg]at hc;cases hc;simp only at hc⊢;rw[Bc e];exact hc,fun _ _=>Nat.le_refl _,fun x _ hn=>⟨Bc fun e=>hn (e▸hbM),rfl⟩⟩
 have hXn:(AK (X.map fun p=>(p.1,Bk.dead)))=AK X:=by simp[AK,List.map_map,Function.comp_def]
 have hXnd:(AK X).Nodup:=by have h2:(AK (X++[(r.n,.mapR r.g r.clk r.ks r.outs),(r.g,.rows r.e r.xss)]++Rr)).Nodup:=(show(AK s.B).Perm _ from hP.map _).nodup_iff.1 (C7 H);rw[AI,AI]at h2;exact(List.nodup_append.1 (List.nodup_append.1 h2).1).1
 have hbn:bn≠r.g:=by have:=R.hu;simp only[up]at this;simp only[bn];omega
 have hog:∀x∈r.outs,x.2≠r.g:=fun x hx e=>by have:=V.ho x hx;rw[e,V.hu]at this;rcases this with⟨_,_,_,q⟩|⟨_,q⟩<;>cases q
 exact H.swap (P:=X++[(r.n,.mapR r.g r.clk r.ks r.outs),(r.g,.rows r.e r.xss)]) (Q:=X.map (fun p=>(p.1,Bk.dead))++[(r.n,.mapR r.g clk' ks' outs'),(r.g,.rows r.e xss')]) (R:=Rr) hP hB' []
  (fun m _=>by by_cases e:m=r.g;subst e;exact .inr ⟨by simp[AK],⟨_,V.hu⟩,⟨_,hvg⟩⟩;exact .inl (hvm m e)) (by simp) (by simp) (by simp) (hvm _ hbn)
  (fun p hp g clk ks outs e=>by
   have hpn:p.1≠r.n/\p∈s.all:=by
    rcases ma.1 hp with hp|hp
    obtain⟨q1,q2,q3⟩:=hRr p hp;exact⟨q2,ml_ _ q3⟩;refine⟨fun e=>?_,mr_ _ hp⟩;have hnd:=H.inv.nms;rw[St.all,AI]at hnd;exact(List.nodup_append.1 hnd).2.2 r.n (mm.2 ⟨_,Ag R.ln,rfl⟩) p.1 (mm.2 ⟨p,hp,rfl⟩) e.symm
   exact .inl (hvm g (V.alone H R hpn.2 hpn.1 e))) hk (fun p hp=>by
   rcases ma.1 hp with hp|hp
   obtain⟨q,hq,rfl⟩:=mm.1 hp;trivial;simp only[mc,List.not_mem_nil,or_false]at hp;rcases hp with rfl|rfl
   exact⟨b,l',us',(hvm _ (fun e=>R.ne e.symm)).trans V.hv,Hi V.hg,hvg,RKs.congr (fun x hx=>hvm _ (hog x (ho x hx))) _ _ _ (RKs.stays hk.stays _ _ _ hrk),lt',n1,n2,V.h0,fun x hx=>by rw[hvm _ (hog x (ho x hx))];exact V.ho x (ho x hx)⟩;exact⟨_,us',hvg,rfl,BA.keepb hk.stays hbu hrr⟩)
  (by
   rw[AI,hXn];refine List.nodup_append.2 ⟨hXnd,by simp[AK,R.ne.symm],fun x hx y hy e=>?_⟩;obtain⟨p,hp,rfl⟩:=mm.1 hx;simp only[AK,List.map_cons,List.map_nil,mc,List.not_mem_nil,or_false]at hy;rcases hy with rfl|rfl
   exact(hX p hp).2 e;exact(hX p hp).1 e) (fun x hx=>by
   rw[AI,hXn]at hx;rw[AI];left;rcases ma.1 hx with hx|hx
   exact ml_ _ hx;exact mr_ _ (by simpa[AK]using hx)) (L:=L) (by
   rw[hPb,AJ,LS,List.nil_append,ZS _ _ _ _ _ _ _ _ _ ((hvm _ (fun e=>R.ne e.symm)).trans V.hv) hvg];exact hmid.trans (hL.cons b))
def MIn(P:Program)(kt:TypeId)(r:RMp)(kd kd0:D)(outs0:List (D×Nat))(xs:List D)(clk':Nat)(ks':List (Nat×D))(xss':List (Option (List D))):Prop:=
 (∀x∈r.ks,KOk P kt x.2)/\KOk P kt kd/\kd0=kd/\(∀p∈outs0,p.1≠kd)/\
  ((clk'=r.clk/\ks'=r.ks/\∃(pre:List (Nat×D)) (st:Nat) (post:List (Nat×D)) (p1 p2:List (Option (List D))),r.ks=pre++(st,kd)::post/\(∀x∈pre,x.2≠kd)/\r.xss=p1++none::p2/\p1.length=pre.length/\xss'=p1++some xs::p2)\/
   (clk'=r.clk+1/\ks'=r.ks++[(r.clk,kd)]/\xss'=r.xss++[some xs]/\∀x∈r.ks,x.2≠kd))
def MDl(P:Program)(kt:TypeId)(r:RMp)(kd kd0:D)(outs0:List (D×Nat))(ks':List (Nat×D))(xss':List (Option (List D))):Prop:=
 (∀x∈r.ks,KOk P kt x.2)/\KOk P kt kd/\kd0=kd/\(∀p∈outs0,p.1≠kd)/\
  ((∃(pre:List (Nat×D)) (st:Nat) (post:List (Nat×D)) (p1 p2:List (Option (List D))),r.ks=pre++(st,kd)::post/\(∀x∈pre,x.2≠kd)/\r.xss=p1++none::p2/\p1.length=pre.length/\ks'=pre++post/\xss'=p1++p2)\/
   (ks'=r.ks/\xss'=r.xss/\∀x∈r.ks,x.2≠kd))
theorem RKs.pop{h w}{val:Val}{outs0:List (D×Nat)}{kd:D}{m0:Nat}{ks us l}(hks:∀x∈ks,x.2≠kd)(hr:RKs h w val ((kd,m0)::outs0) ks us l):RKs h w val outs0 ks us l:=
 RKs.re (fun x hx m=>by simp only[mc,pe];exact⟨.inr,fun hh=>hh.elim (fun q=>absurd q.1 (hks x hx)) id⟩) hr
theorem aAt{P:Program}{s:St}{h:Hw}{w:World}{val:Val}{a:Act}(H:Holds s h w val a){r:RMp}(R:II s r){t kt et:TypeId}(ht:P.underlying t=some (.map kt et)){kd kd0:D}{m0 q:Nat}{outs0:List (D×Nat)}{xs:List D}{clk' ks' xss'}{um key:Value}
 (hum:RA h w val (.row r.n) um) (ho:r.outs=(kd0,m0)::outs0) (hq:lk s.B q=some (.rw r.e 1 xs)) (hm:MIn P kt r kd kd0 outs0 xs clk' ks' xss') (hkr:RD h w kd key):
 ∃w' val',(Instr.mapUpdate t um key (val q)).run P w=.ok () w'/\Holds (s.edit [.chg q .dead,.chg r.n (.mapR r.g clk' ks' outs0),.chg r.g (.rows r.e xss')]) h w' val' a/\
  Nx s h w val (s.edit [.chg q .dead,.chg r.n (.mapR r.g clk' ks' outs0),.chg r.g (.rows r.e xss')]) h w' val':=by
 obtain⟨b,us,l,V⟩:=R.v H
 obtain⟨hK,hkk,rfl,hos,hcase⟩:=hm
 have hqn:q≠r.n:=fun e=>by rw[e,R.ln]at hq;cases hq
 have hqg:q≠r.g:=fun e=>by rw[e,R.lg]at hq;cases hq
 have hum2:um=.map (some b):=by simp only[RA]at hum;rw[hum.1];exact V.hv
 subst hum2
 obtain⟨vs,g1,g2,g3⟩:=H.inv.rep _ (ml_ _ (Ag hq))
 simp only at g1 g3
 have hre:RRe h w r.e (some xs) (val q):=⟨vs,g1,g2,g3⟩
 have hqv:=hre.vblk.1
 have n1:=Ek (C7 H) q
 have l1:lk (DO q s.B) r.n=some (.mapR r.g r.clk r.ks r.outs):=by rw[Lz hqn.symm];exact R.ln
 have l2:lk (DO q s.B) r.g=some (.rows r.e r.xss):=by rw[Lz hqg.symm];exact R.lg
 obtain⟨p1,p2⟩:=Da (b1:=.mapR r.g clk' ks' outs0) (b2:=.rows r.e xss') n1 l1 l2 R.ne
 have hP:=(Hr (C7 H) hq).trans (p1.cons _)
 have hB':(BG (BG (BG s.B q .dead) r.n (.mapR r.g clk' ks' outs0)) r.g (.rows r.e xss')).Perm ([(q,Bk.dead)]++[(r.n,.mapR r.g clk' ks' outs0),(r.g,.rows r.e xss')]++DO r.g (DO r.n (DO q s.B))):=
  (Db (Db (GB (C7 H) hq) hqn) hqg).trans (p2.cons _)
 have hRr:∀p∈DO r.g (DO r.n (DO q s.B)),p.1≠r.g/\p.1≠r.n/\p∈s.B:=fun p hp=>by obtain⟨a1,a2⟩:=Bw.1 hp;obtain⟨a3,a4⟩:=Bw.1 a1;exact⟨a2,a4,(Bw.1 a3).1⟩
 have hX:∀p∈[(q,Bk.rw r.e 1 xs)],p.1≠r.g/\p.1≠r.n:=fun p hp=>by rw[List.mem_singleton.1 hp];exact⟨hqg,hqn⟩
 have hXb:Aa val [(q,Bk.rw r.e 1 xs)]=(val q).ownBlock.toList:=by rw[Aj,Nq rfl hqv];simp[Aa]
 have hsub:∀x∈outs0,x∈r.outs:=fun x hx=>by rw[ho];exact List.mem_cons_of_mem _ hx
 have hrk:=V.rk
 rw[ho]at hrk
 rcases hcase with⟨rfl,rfl,pre,st,post,p1',p2',e1,hne,e2,hl,rfl⟩|⟨rfl,rfl,rfl,hne⟩
 have hpost:=Kl (e1▸V.n2)
 have hrk2:=hrk
 rw[e1]at hrk2 hK
 obtain⟨up,u,uq,lp,en,lq,rfl,rfl,q1,q2,q3,q4,q5,q6,q7⟩:=KQ hrk2 hK hkk hne hkr
 have hrr:=V.rr
 rw[e2]at hrr
 obtain⟨up2,u2,uq2,f1,f2,f3,f4,f5⟩:=BA.split hrr
 have hlen:up.length=up2.length:=by rw[q1,f2,hl]
 obtain⟨rfl,f6⟩:=List.append_inj f1 hlen
 obtain⟨rfl,rfl⟩:=List.cons.inj f6
 have hu0:u.ownBlock=none:=f4
 obtain⟨h1,h2⟩:=CP H R V (us':=up++val q::uq) (l':=lp++{en with key:=key,val:=val q}::lq) (clk':=r.clk) (ks':=r.ks) (outs':=outs0) (xss':=p1'++some xs::p2')
  (by rw[e1];exact RKs.append (RKs.pop hne q3) (RKs.cons_iff.2 ⟨_,_,_,_,rfl,rfl,⟨q4.1,hkr,fun m hm=>absurd rfl (hos _ hm),fun _=>rfl⟩,RKs.pop hpost q6⟩))
  V.lt V.n1 V.n2 hsub (BA.append f3 (BA.cons_iff.2 ⟨_,_,rfl,hre,f5⟩)) hP hB' hX hRr (L:=[]) (by
   rw[hXb,List.append_nil];simp only[List.filterMap_append,List.filterMap_cons,hu0];cases(val q).ownBlock with
   |none=>simp
   |some g=>simp only[Option.toList_some,List.singleton_append];exact List.perm_middle.symm)
 refine⟨_,_,?_,h1,h2⟩
 have ha:=KG lp lq en q2
 have hd:=q7.chk;have hik:=q7.sty;have hf:=q7.fnd
 simp only[Instr.mapUpdate,Sem.run_bind,run_underlying ht,MapKept.run_getObj_map V.hg,hd,hf,Result.andThen_ok,ha,Option.map_some,Option.getD_some,q5,hik,HO lp lq en _ q2,MapKept.run_setObj_map _ V.hg]
 have hno:=KR hrk hK hkk hne hkr
 have hrl:=RKs.length hrk
 obtain⟨h1,h2⟩:=CP H R V (us':=us++[val q]) (l':=l++[⟨key,val q,r.clk⟩]) (clk':=r.clk+1) (ks':=r.ks++[(r.clk,kd0)]) (outs':=outs0) (xss':=r.xss++[some xs])
  (RKs.append (RKs.pop hne hrk) (RKs.cons_iff.2 ⟨_,_,_,_,rfl,rfl,⟨rfl,hkr,fun m hm=>absurd rfl (hos _ hm),fun _=>rfl⟩,⟨rfl,rfl⟩⟩))
  (fun x hx=>by
   rcases ma.1 hx with hx|hx
   have:=V.lt x hx;omega;rw[List.mem_singleton.1 hx];exact Nat.lt_succ_self _)
  (by rw[List.map_append];refine List.nodup_append.2 ⟨V.n1,by simp,fun x hx y hy e=>?_⟩;obtain⟨z,hz,rfl⟩:=mm.1 hx;simp only[List.map_cons,List.map_nil,List.mem_singleton]at hy;have:=V.lt z hz;omega)
  (by
   rw[List.map_append];refine List.nodup_append.2 ⟨V.n2,by simp,fun x hx y hy e=>?_⟩;obtain⟨z,hz,rfl⟩:=mm.1 hx;simp only[List.map_cons,List.map_nil,List.mem_singleton]at hy;exact hne z hz (e.trans hy)) hsub (BA.append V.rr (BA.cons_iff.2 ⟨_,_,rfl,hre,rfl⟩)) hP hB' hX hRr (L:=[]) (by
   rw[hXb,List.append_nil];simp only[List.filterMap_append,List.filterMap_cons,List.filterMap_nil];cases(val q).ownBlock with
   |none=>simp
   |some g=>exact List.perm_append_comm)
 refine⟨_,_,?_,h1,h2⟩
 have hd:=hno.chk;have hf:=hno.fnd
 simp only[Instr.mapUpdate,Sem.run_bind,run_underlying ht,MapKept.run_getObj_map V.hg,hd,hf,Result.andThen_ok,MapKept.run_setObj_map _ V.hg,F1]
theorem aIu{P:Program}{s:St}{h:Hw}{w:World}{val:Val}{a:Act}(H:Holds s h w val a){r:RMp}(R:II s r){kt:TypeId}{kd kd0:D}{m0:Nat}{outs0:List (D×Nat)}{ks' xss'}{key:Value}
 (ho:r.outs=(kd0,m0)::outs0) (hm:MDl P kt r kd kd0 outs0 ks' xss') (hkr:RD h w kd key):
 ∃b l l' w' val',val r.n=.map (some b)/\w.heap[b]? =some (.map ⟨l⟩ r.clk)/\w'={w with heap:=w.heap.setIfInBounds b (.map ⟨l'⟩ r.clk)}/\(Ask P kt key l none/\l'=l\/∃lp en lq,l=lp++en::lq/\l'=lp++lq/\Ask P kt key l (some (lp.length,en.val)))/\
  Holds (s.edit [.chg r.n (.mapR r.g r.clk ks' outs0),.chg r.g (.rows r.e xss')]) h w' val' a/\Nx s h w val (s.edit [.chg r.n (.mapR r.g r.clk ks' outs0),.chg r.g (.rows r.e xss')]) h w' val':=by
 obtain⟨b,us,l,V⟩:=R.v H
 obtain⟨hK,hkk,rfl,hos,hcase⟩:=hm
 obtain⟨p1,p2⟩:=Da (b1:=.mapR r.g r.clk ks' outs0) (b2:=.rows r.e xss') (C7 H) R.ln R.lg R.ne
 have hRr:∀p∈DO r.g (DO r.n s.B),p.1≠r.g/\p.1≠r.n/\p∈s.B:=fun p hp=>by obtain⟨a1,a2⟩:=Bw.1 hp;obtain⟨a3,a4⟩:=Bw.1 a1;exact⟨a2,a4,a3⟩
 have hsub:∀x∈outs0,x∈r.outs:=fun x hx=>by rw[ho];exact List.mem_cons_of_mem _ hx
 have hrk:=V.rk
 rw[ho]at hrk
 rcases hcase with⟨pre,st,post,p1',p2',e1,hne,e2,hl,rfl,rfl⟩|⟨rfl,rfl,hne⟩
 have hpost:=Kl (e1▸V.n2)
 have hrk2:=hrk
 have hlt:=V.lt
 have hn1:=V.n1
 have hn2:=V.n2
 rw[e1]at hrk2 hK hlt hn1 hn2
 obtain⟨up,u,uq,lp,en,lq,rfl,rfl,q1,q2,q3,q4,q5,q6,q7⟩:=KQ hrk2 hK hkk hne hkr
 have hrr:=V.rr
 rw[e2]at hrr
 obtain⟨up2,u2,uq2,f1,f2,f3,f4,f5⟩:=BA.split hrr
 have hlen:up.length=up2.length:=by rw[q1,f2,hl]
 obtain⟨rfl,f6⟩:=List.append_inj f1 hlen
 obtain⟨rfl,rfl⟩:=List.cons.inj f6
 have hu0:u.ownBlock=none:=f4
 have hsl:(pre++post).Sublist (pre++(st,kd0)::post):=List.Sublist.append (List.Sublist.refl _) (List.sublist_cons_self _ _)
 obtain⟨h1,h2⟩:=CP H R V (us':=up++uq) (l':=lp++lq) (clk':=r.clk) (ks':=pre++post) (outs':=outs0) (xss':=p1'++p2') (RKs.append (RKs.pop hne q3) (RKs.pop hpost q6))
  (fun x hx=>hlt x (hsl.mem hx)) ((hsl.map _).nodup hn1) ((hsl.map _).nodup hn2) hsub (BA.append f3 f5) (X:=[]) p1 p2 (by simp) hRr (L:=[]) (by simp only[List.filterMap_append,List.filterMap_cons,hu0,List.append_nil];simp[Aa])
 refine⟨b,_,_,_,_,V.hv,V.hg,rfl,.inr ⟨lp,en,lq,rfl,rfl,?_⟩,h1,h2⟩
 rw[q2];exact q7
 have hno:=KR hrk hK hkk hne hkr
 obtain⟨h1,h2⟩:=CP H R V (us':=us) (l':=l) (clk':=r.clk) (ks':=r.ks) (outs':=outs0) (xss':=r.xss) (RKs.pop hne hrk) V.lt V.n1 V.n2 hsub V.rr (X:=[]) p1 p2 (by simp) hRr (L:=[]) (by simp[Aa])
 exact⟨b,_,_,_,_,V.hv,V.hg,rfl,.inl ⟨hno,rfl⟩,h1,h2⟩
theorem OE{s:St}{h:Hw}{w:World}{val:Val}{a:Act}(H:Holds s h w val a){d g:Nat}(d1:d<up)(d2:AV d s.E=false)(d3:BW d s.B=false)(g1:g<up)(g2:AV g s.E=false)(g3:BW g s.B=false)(hdg:d≠g)(e:TypeId):
 ∃h' val',val' d=.map (some w.heap.size)/\Holds (s.edit [.add d (.mapR g 0 [] []),.add g (.rows e [])]) h' (w.alloc (.map #[] 0)) val' a/\Nx s h w val (s.edit [.add d (.mapR g 0 [] []),.add g (.rows e [])]) h' (w.alloc (.map #[] 0)) val':=by
 have hvd:An val d (.map (some w.heap.size)) d=.map (some w.heap.size):=by simp[An]
 obtain⟨f1,f2⟩:=H.fresh d1 d2 d3 (.map #[] 0) (.map (some w.heap.size)) 0 (.map 0 []) rfl rfl ⟨w.heap.size,[],hvd,heap_alloc_new w _,rfl,by simp,by simp,by simp,by simp[Dz]⟩
 have hgB:=BP g3
 let tv:Value:=.tuple ⟨[.map (some w.heap.size)]⟩
 have hvg:An (An val d (.map (some w.heap.size))) g tv g=tv:=by simp[An]
 have hvm:∀m,m≠g->An (An val d (.map (some w.heap.size))) g tv m=An val d (.map (some w.heap.size)) m:=fun m hm=>by simp[An,hm]
 have hvd2:=(hvm d hdg).trans hvd
 have key:=f1.swap (P:=[(d,.map 0 [])]) (Q:=[(g,.rows e []),(d,.mapR g 0 [] [])]) (R:=s.B) (B':=Cq g (.rows e []) (Cq d (.mapR g 0 [] []) s.B)) (.refl _) ((Bp _ _ _).trans ((Bp _ _ _).cons _)) [g]
  (h':=Dz h w.heap.size 0) (w':=w.alloc (.map #[] 0)) (val':=An (An val d (.map (some w.heap.size))) g tv)
  (fun m hm=>.inl (hvm m (fun e=>hm (by simp[e])))) (fun x hx=>by rw[List.mem_singleton.1 hx];exact g1) (fun x hx=>by rw[List.mem_singleton.1 hx];exact g2) (fun x hx p hp=>by
   rw[List.mem_singleton.1 hx];rcases mc.1 hp with rfl|hp
   exact⟨hdg,rfl⟩;exact hgB p hp) (hvm _ (by have:=g1;simp only[up]at this;simp only[bn];omega))
  (fun p hp g2 clk ks outs e=>by by_cases hg:g2=g;exact .inr (by simp[hg]);exact .inl (hvm g2 hg))
  (BI.refl _ _ _) (fun p hp=>by
   simp only[mc,List.not_mem_nil,or_false]at hp;rcases hp with rfl|rfl
   exact⟨_,[],hvg,rfl,rfl⟩;exact⟨w.heap.size,[],[],hvd2,heap_alloc_new w _,hvg,⟨rfl,rfl⟩,by simp,by simp,by simp,by simp[Dz],by simp⟩) (by simp[AK,hdg.symm]) (fun x hx=>by
   simp only[AK,List.map_cons,List.map_nil,mc,List.not_mem_nil,or_false]at hx⊢;rcases hx with rfl|rfl
   exact .inr rfl;exact .inl rfl) (L:=[]) (by
   simp[Aa,CW,BE,Bk.isOld,hvd,hvd2,hvg,vblk,aZ5,tv,Value.ownBlock])
 exact⟨_,_,hvd2,key.1,Nx.trans f2 key.2⟩
def dfr(d:Nat)(s:St):Bool:=decide (d<up)&& !AV d s.E&& !BW d s.B
theorem aAk{d:Nat}{s:St}(h:dfr d s=true):d<up/\AV d s.E=false/\BW d s.B=false:=by simp only[dfr,ba,decide_eq_true_eq,Bool.not_eq_true']at h;exact⟨h.1.1,h.1.2,h.2⟩
def KE(P:Program)(o:Oper)(s:St)(wt:W):Option (Cn×A×List Ed):=
 match o.op with
 | .makeMap t none=>match o.dst,wt with
  |some d,.mkr g=>match P.underlying t with
   |some (.map _ et)=>match P.underlying et with
    |some (.slice e)=>if dfr d s&&dfr g s&& !Nat.beq d g then some (.t,.row d,[.add d (.mapR g 0 [] []),.add g (.rows e [])])else none
    |_=>none
   |_=>none
  |_,_=>none
 | .lookup t m k false=>match wt with
  | .mr g _ _ xss' xs=>match o.dst,CL s g (s.ev m),toD (s.look (s.ev k)),P.underlying t with
   |some d,some r,some kd,some (.map kt et)=>match (P.info? et).bind (·.zero)with
    |some (.slice none 0 0)=>if dfr d s then some (.pr (aO1 P kt r kd xs xss'),.row d,[.chg r.n (.mapR r.g r.clk r.ks ((kd,d)::r.outs)),.chg r.g (.rows r.e xss'),.add d (.rw r.e 1 xs)])else none
    |_=>none
   |_,_,_,_=>none
  |_=>none
 | .mapUpdate t m k x=>match wt with
  | .mr g clk' ks' xss' _=>match CL s g (s.ev m),toD (s.look (s.ev k)),s.ev x,P.underlying t with
   |some r,some kd,.row q,some (.map kt _)=>match lk s.B q,r.outs with
    |some (.rw e 1 xs),(kd0,_)::outs0=>if Nat.beq e r.e then some (.pr (MIn P kt r kd kd0 outs0 xs clk' ks' xss'),.any,[.chg q .dead,.chg r.n (.mapR r.g clk' ks' outs0),.chg r.g (.rows r.e xss')])else none
    |_,_=>none
   |_,_,_,_=>none
  |_=>none
 | .insert t m k x=>match wt with
  | .mr g clk' ks' xss' _=>match CL s g (s.ev m),toD (s.look (s.ev k)),s.ev x,P.underlying t with
   |some r,some kd,.row q,some (.map kt _)=>match lk s.B q,r.outs with
    |some (.rw e 1 xs),(kd0,_)::outs0=>if Nat.beq e r.e then some (.pr (MIn P kt r kd kd0 outs0 xs clk' ks' xss'),.any,[.chg q .dead,.chg r.n (.mapR r.g clk' ks' outs0),.chg r.g (.rows r.e xss')])else none
    |_,_=>none
   |_,_,_,_=>none
  |_=>none
 | .call c=>match c.callee,c.args.toList,c.argTypes.toList with
  | .builtin .delete,[m,k],[t,_]=>match wt with
   | .mr g _ ks' xss' _=>match CL s g (s.ev m),toD (s.look (s.ev k)),P.underlying t with
    |some r,some kd,some (.map kt _)=>match r.outs with
     |(kd0,_)::outs0=>some (.pr (MDl P kt r kd kd0 outs0 ks' xss'),.tup [],[.chg r.n (.mapR r.g r.clk ks' outs0),.chg r.g (.rows r.e xss')])
     |_=>none
    |_,_,_=>none
   |_=>none
  |_,_,_=>none
 |_=>none
theorem P5{P:Program}{o:Oper}{s:St}{wt:W}{Φ:Cn}{r:A}{es:List Ed}(he:KE P o s wt=some (Φ,r,es)):EM P o s Φ.ok r (s.edit es):=by
 intro hΦ h w val a H K Q hK;unfold KE at he;split at he;rename_i t ho;split at he;rename_i d g hd;split at he;split at he;rename_i e _;split at he;rename_i hc;simp only[ba,Bool.not_eq_true']at hc;obtain⟨⟨c1,c2⟩,c3⟩:=hc;obtain⟨d1,d2,d3⟩:=aAk c1;obtain⟨g1,g2,g3⟩:=aAk c2;simp only[oe,pe]at he;obtain⟨rfl,rfl,rfl⟩:=he;obtain⟨h',val',hv,f1,f2⟩:=OE H d1 d2 d3 g1 g2 g3 (fun e=>by rw[e,Nat.beq_refl]at c3;cases c3) e;refine AQ (u:=.map (some w.heap.size)) (w':=w.alloc (.map #[] 0)) ?_ (hK _ _ _ _ (by simp only[RA];exact⟨hv.symm,.inr ⟨_,rfl⟩⟩) f1 f2);simp[execOp,ho,Instr.makeMap];cases he;cases he;cases he;cases he;rename_i t m k ho;split at he;rename_i g _ _ xss' xs;split at he;rename_i d r0 kd kt et hd hm hk ht;split at he;rename_i hz;split at he;rename_i hc;obtain⟨d1,d2,d3⟩:=aAk hc;simp only[oe,pe]at he;obtain⟨rfl,rfl,rfl⟩:=he;obtain⟨hx,R⟩:=DG hm;have hu:=H.ev m;rw[hx]at hu;obtain⟨b,l,u,val',hv,hg,hask,hra,f1,f2⟩:=Sg H R hΦ (Bm hk (H.look (H.ev k))) d1 d2 d3;have hum:a.eval m=.map (some b):=by simp only[RA]at hu;rw[hu.1];exact hv
 have hzr:(zeroValue et).run P w=.ok (.slice none 0 0) w:=GC hz w;have hrun:(Instr.lookup t (a.eval m) (a.eval k) false).run P w=.ok u w:=by
  rw[hum];rcases hask with⟨⟨hd,hik,hf⟩,rfl⟩|⟨i,hd,hik,hf⟩
  simp[Instr.lookup,run_underlying ht,MapKept.run_getObj_map hg,hd,hf,hzr];simp[Instr.lookup,run_underlying ht,MapKept.run_getObj_map hg,hd,hf]
 refine AQ (u:=u) (w':=w) ?_ (hK h w val' _ hra f1 f2);simp[execOp,ho,hrun];cases he;cases he;cases he;cases he;rename_i t m k x ho;split at he;rename_i g clk' ks' xss' _;split at he;rename_i r0 kd q kt _ hm hk hx ht;split at he;rename_i e xs kd0 m0 outs0 hq hout;split at he;rename_i hc;rw[Nat.eq_of_beq_eq_true hc]at hq;simp only[oe,pe]at he;obtain⟨rfl,rfl,rfl⟩:=he;obtain⟨hxr,R⟩:=DG hm;have hu:=H.ev m;rw[hxr]at hu;have hxv:=H.ev x;rw[hx]at hxv;simp only[RA]at hxv;obtain⟨w',val',hrun,f1,f2⟩:=aAt H R ht hu hout hq hΦ (Bm hk (H.look (H.ev k)));rw[<-hxv.1]at hrun;exact Be (w':=w') (by simp[execOp,ho,hrun]) (hK h _ val' undef (by simp[RA]) f1 f2);cases he;cases he;cases he;cases he;rename_i t m k x ho;split at he;rename_i g clk' ks' xss' _;split at he;rename_i r0 kd q kt _ hm hk hx ht;split at he;rename_i e xs kd0 m0 outs0 hq hout;split at he;rename_i hc;rw[Nat.eq_of_beq_eq_true hc]at hq;simp only[oe,pe]at he;obtain⟨rfl,rfl,rfl⟩:=he;obtain⟨hxr,R⟩:=DG hm;have hu:=H.ev m;rw[hxr]at hu;have hxv:=H.ev x;rw[hx]at hxv;simp only[RA]at hxv;obtain⟨w',val',hrun,f1,f2⟩:=aAt H R ht hu hout hq hΦ (Bm hk (H.look (H.ev k)));rw[<-hxv.1]at hrun;exact Be (w':=w') (by simp[execOp,ho,hrun]) (hK h _ val' undef (by simp[RA]) f1 f2);cases he;cases he;cases he;cases he;rename_i c ho;obtain⟨callee,⟨args⟩,⟨tys⟩⟩:=c;simp only at he;split at he;rename_i m k t t2;split at he;rename_i g _ ks' xss' _;split at he;rename_i r0 kd kt _ hm hk ht;split at he;rename_i kd0 m0 outs0 hout;simp only[oe,pe]at he;obtain⟨rfl,rfl,rfl⟩:=he;obtain⟨hxr,R⟩:=DG hm;have hu:=H.ev m;rw[hxr]at hu;obtain⟨b,l,l',w',val',hv,hg,rfl,hask,f1,f2⟩:=aIu H R hout hΦ (Bm hk (H.look (H.ev k)));have hum:a.eval m=.map (some b):=by simp only[RA]at hu;rw[hu.1];exact hv
 refine AQ (u:=.tuple #[]) (w':=_) ?_ (hK h _ val' _ (by simp[RA,RAs]) f1 f2);rcases hask with⟨⟨hd,hik,hf⟩,rfl⟩|⟨lp,en,lq,rfl,rfl,hd,hik,hf⟩
 simp[execOp,ho,resolve,invoke,builtin,Builtin.delete_,run_underlying ht,hum,MapKept.run_getObj_map hg,hd,hf,MapKept.run_setObj_map _ hg];simp[execOp,ho,resolve,invoke,builtin,Builtin.delete_,run_underlying ht,hum,MapKept.run_getObj_map hg,hd,hf,MapKept.run_setObj_map _ hg];have:=Nn lp lq en rfl;simp only[List.eraseIdxIfInBounds_toArray]at this;first|rw[this]|(rw[List.eraseIdx_append_of_length_le (Nat.le_refl _),Nat.sub_self];rfl)
 cases he;cases he;cases he;cases he;cases he
end Go.Ac
namespace Go.Ac

def AM(P:Program)(f:FuncId)(args:List A)(X:Bx)(r:A)(X':Bx):Prop:=
 ∀h w val vs,Inv h w val X->RAs h w val args vs->Calls P f ⟨vs⟩ w fun e w'=>∃h' val' u,e=.returned u/\Inv h' w' val' X'/\RA h' w' val' r u/\
  BI (Aa val X) h w h' w'/\(∀n,(n∈AK X'->n∈AK X)->val' n=val n)/\∀b∈Aa val' X',b∈Aa val X\/w.heap.size<=b

def K6(P:Program)(f:FuncId)(args:List A)(X:Bx)(r:A)(X':Bx):Prop:=
 ∀h w val vs,Inv h w val X->RAs h w val args vs->Calls P f ⟨vs⟩ w fun e w'=>∃h' val' u,e=.returned u/\Inv h' w' val' X'/\RA h' w' val' r u/\
  BI (Aa val X) h w h' w'/\(∀n,n∉AK X'->val' n=val n)/\∀b∈Aa val' X',b∈Aa val X\/w.heap.size<=b
def aPc(P:Program)(l:Nat)(args:List A)(X:Bx)(r:A)(X':Bx):Prop:=
 ∀h w val vs,Inv h w val X->RAs h w val args vs->YieldAt Fence.wide 0 P l ⟨vs⟩ w fun e w'=>∃h' val' u,e=.returned u/\Inv h' w' val' X'/\RA h' w' val' r u/\
  BI (Aa val X) h w h' w'/\(∀n,n∉AK X'->val' n=val n)/\∀b∈Aa val' X',b∈Aa val X\/w.heap.size<=b

inductive Ex where
 |normal
 |exit (id:Nat)
 |ret
def Ex.toExit:Ex->Exit
 | .normal=>.normal
 | .exit id=>.exit id
 | .ret=>.ret
inductive Ob where
 |c (φ:Cn)
 |call (f:FuncId) (args:List A) (X:Bx) (r:A) (X':Bx)
 |yld (l:Nat) (args:List A) (X:Bx) (r:A) (X':Bx)
 |frame (F F':Bx)
 |loop (path:List Nat) (s:St) (e:Ex) (s':St)
 |both (a b:Ob)
abbrev Lp:=List Nat->St->Ex->St->Prop
def Ob.ok(P:Program)(L:Lp):Ob->Prop
 | .c φ=>φ.ok
 | .call f args X r X'=>AM P f args X r X'
 | .yld l args X r X'=>aPc P l args X r X'
 | .frame F F'=>F'=F\/AK F'=AK F/\Far F'
 | .loop path s e s'=>L path s e s'
 | .both a b=>a.ok P L/\b.ok P L
def Ob.and:Ob->Ob->Ob
 | .c .t,b=>b
 |a,.c .t=>a
 |a,b=>.both a b
theorem Ob.and_ok{P:Program}{L:Lp}{a b:Ob}(h:(a.and b).ok P L):a.ok P L/\b.ok P L:=by unfold Ob.and at h;split at h;exact⟨trivial,h⟩;exact⟨h,trivial⟩;exact h

mutual
def A.bare:A->Bool
 | .d _=>true
 | .eptr _=>true
 | .clo _ fs cs=>IP fs&&IP cs
 | .agg cs=>IP cs
 | .tup vs=>IP vs
 | .nil=>true
 | .any=>true
 | .ub=>true
 |_=>false
def IP:List A->Bool
 |[]=>true
 |a::as'=>a.bare&&IP as'
end
mutual
theorem RA.bare{h w}{val val':Val}:∀(a:A) (u:Value),a.bare=true->RA h w val a u->RA h w val' a u
 | .d _,u,_,hr=>by simpa only[RA]using hr
 | .eptr _,u,_,hr=>by simpa only[RA]using hr
 | .nil,u,_,hr=>by simpa only[RA]using hr
 | .ub,u,_,hr=>by simpa only[RA]using hr
 | .any,u,_,hr=>by simp[RA]
 | .box ..,u,hb,hr=>by simp[A.bare]at hb
 | .bsl ..,u,hb,hr=>by simp[A.bare]at hb
 | .row ..,u,hb,hr=>by simp[A.bare]at hb
 | .opq ..,u,hb,hr=>by simp[A.bare]at hb
 | .clo f x y,u,hb,hr=>by
  simp only[A.bare,ba]at hb;simp only[RA]at hr⊢;obtain⟨fs,cs,e,h1,h2⟩:=hr;exact⟨fs,cs,e,RAs.bare x fs hb.1 h1,RAs.bare y cs hb.2 h2⟩
 | .agg cs,u,hb,hr=>by
  simp only[A.bare]at hb;simp only[RA]at hr⊢;obtain⟨us,e,h1,h2⟩:=hr;exact⟨us,e,RAs.bare cs us hb h1,h2⟩
 | .tup cs,u,hb,hr=>by
  simp only[A.bare]at hb;simp only[RA]at hr⊢;obtain⟨us,e,h1⟩:=hr;exact⟨us,e,RAs.bare cs us hb h1⟩
theorem RAs.bare{h w}{val val':Val}:∀(as':List A) (us:List Value),IP as'=true->RAs h w val as' us->RAs h w val' as' us
 |[],us,_,hr=>by simpa[RAs]using hr
 |a::as',us,hb,hr=>by
  simp only[IP,ba]at hb;simp only[RAs]at hr⊢;obtain⟨u,us',e,h1,h2⟩:=hr;exact⟨u,us',e,RA.bare a u hb.1 h1,RAs.bare as' us' hb.2 h2⟩
end

theorem Inv.nil{h:Hw}{w:World}(g:GOk h w)(val:Val):Inv h w val []:=⟨(fun _ hp=>by cases hp),List.nodup_nil,List.nodup_nil,g⟩

theorem Inv.quiet{h w val h' w'}{B:Bx}(I:Inv h w val B)(k:BI [] h w h' w'):Inv h' w' val B:=
 ⟨fun p hp=>RB.stays k.stays (fun g hg=>k.far g (I.blk_lt g (Inv.blk_mem hp hg)) (by simp)) (I.rep p hp),I.nms,I.bks,(by first|exact H.inv.glob.stays hk.stays|exact H.inv.glob|exact I.glob|exact I.glob.stays k.stays|exact H.inv.glob.stays k.stays|exact hI.glob|exact hInv.glob|exact hI0.glob|exact hIX.glob|exact H'.inv.glob|exact hI.glob.stays hk.stays|exact H1.inv.glob|exact hIR.glob|exact H.glob|exact hI.glob.stays k.stays|exact h.inv.glob|exact H2.inv.glob|exact hI'.glob)⟩
theorem Holds.quiet{s:St}{h w val h' w'}{a:Act}(H:Holds s h w val a)(k:BI [] h w h' w'):Holds s h' w' val a:=
 ⟨RAs.stays k.stays _ _ _ H.e,H.inv.quiet k,H.far,H.defs.keep H.inv k (fun b hb=>by cases hb) rfl⟩

def aN4(P:Program)(f:FuncId):Bool:=
 match P.funcs[f]? with
 |some fn=>fn.name != "runtime.NumGoroutine" &&fn.body.isSome
 |none=>false
theorem MM{P:Program}{f:FuncId}(hf:aN4 P f=true)(args:Array Value)(w:World):(callFunc f args).run P w=.ok (.enter f args) w:=by
 unfold aN4 at hf;split at hf;rename_i fn hfn;simp only[ba,bne_iff_ne]at hf;have h2:¬fn.body=none:=fun e=>by rw[e]at hf;cases hf.2
 simp[callFunc,hfn,hf.1,h2];cases hf

def Cv:A->Option (FuncId×List A×List A)
 | .clo (.func f) fs cs=>some (f,fs,cs)
 | .opq (.clo (.func f) fs cs)=>some (f,fs.map .opq,cs.map .opq)
 | .d (.v (.func (.func f) fs cs))=>if fs.size==0&&cs.size==0 then some (f,[],[])else none
 |_=>none
theorem Me{h w val}:∀{as':List A} {us:List Value},RAs h w (fun n=>val (n+up)) as' us->RAs h w val (as'.map .opq) us
 |[],us,hr=>by simpa[RAs]using hr
 |a::as',us,hr=>by
  simp only[RAs]at hr;obtain⟨u,us',e,h1,h2⟩:=hr;simp only[List.map_cons,RAs,RA];exact⟨u,us',e,h1,Me h2⟩
theorem EC{h w val}{a:A}{f:FuncId}{fs cs:List A}{u:Value}(he:Cv a=some (f,fs,cs))(hr:RA h w val a u):
 ∃us vs,u=.func (.func f) ⟨us⟩ ⟨vs⟩/\RAs h w val fs us/\RAs h w val cs vs:=by
 unfold Cv at he
 split at he
 simp only[oe,pe]at he
 obtain⟨rfl,rfl,rfl⟩:=he
 simpa only[RA]using hr
 simp only[oe,pe]at he
 obtain⟨rfl,rfl,rfl⟩:=he
 simp only[RA]at hr
 obtain⟨us,vs,e,h1,h2⟩:=hr
 exact⟨us,vs,e,Me h1,Me h2⟩
 split at he
 rename_i hb
 simp only[oe,pe]at he
 obtain⟨rfl,rfl,rfl⟩:=he
 simp only[ba,beq_iff_eq]at hb
 simp only[RA,RD]at hr
 rw[Array.eq_empty_of_size_eq_zero hb.1,Array.eq_empty_of_size_eq_zero hb.2]at hr
 exact⟨[],[],hr.1,by simp[RAs],by simp[RAs]⟩
 cases he
 cases he

def I8(P:Program)(o:Oper)(s:St)(wt:W):Option (Ob×A):=
 match o.op with
 | .call c=>match c.callee with
  | .value g=>match Cv (s.ev g),wt with
   |some (f,fs,cs),.ret r=>
    if aN4 P f&&IP (fs++c.args.toList.map (fun x=>s.look (s.ev x))++cs)&&r.bare then
     some (.call f (fs++c.args.toList.map (fun x=>s.look (s.ev x))++cs) [] r [],r)else none
   |_,_=>none
  |_=>none
 |_=>none
def LN(P:Program)(o:Oper)(s:St)(wt:W):Option (Ob×A×St):=
 match o.op with
 | .call c=>match c.callee with
  | .value g=>match Cv (s.ev g),wt with
   |some (f,fs,cs),.own raw r B F=>
    if aN4 P f&&B.all (fun p=>(AK s.B).contains p.1||(decide (p.1<up)&& !AV p.1 s.E))then
     some (.both (.call f (fs++c.args.toList.map (fun x=>if raw then s.ev x else s.look (s.ev x))++cs) (s.B++s.F) r (B++F)) (.frame s.F F),r,{s with B:=B,F:=F})else none
   |_,_=>none
  |_=>none
 |_=>none

mutual
theorem RA.congr{h w}{val val':Val}:∀(a:A) (u:Value),(∀n,a.has n=true->val' n=val n)->RA h w val a u->RA h w val' a u
 | .ub,u,_,hr=>by simpa only[RA]using hr
 | .d _,u,_,hr=>by simpa only[RA]using hr
 | .eptr _,u,_,hr=>by simpa only[RA]using hr
 | .nil,u,_,hr=>by simpa only[RA]using hr
 | .any,u,_,hr=>by simp[RA]
 | .box n off,u,hb,hr=>by
  have:=hb n (by simp[A.has]);simpa only[RA,this]using hr
 | .bsl n off l,u,hb,hr=>by
  have:=hb n (by simp[A.has]);simpa only[RA,this]using hr
 | .ep n k i off,u,hb,hr=>by
  have:=hb n (by simp[A.has]);simpa only[RA,this]using hr
 | .row n,u,hb,hr=>by
  have:=hb n (by simp[A.has]);simpa only[RA,this]using hr
 | .opq a,u,hb,hr=>by
  simp only[RA]at hr⊢;have:(fun n=>val' (n+up))=fun n=>val (n+up):=by funext n;exact hb (n+up) (by simp only[A.has];exact Nat.ble_eq_true_of_le (Nat.le_add_left _ _))
  rw[this];exact hr
 | .clo f x y,u,hb,hr=>by
  simp only[RA]at hr⊢;obtain⟨fs,cs,e,h1,h2⟩:=hr;exact⟨fs,cs,e,RAs.congr x fs (fun n hn=>hb n (by simp[A.has,hn])) h1,RAs.congr y cs (fun n hn=>hb n (by simp[A.has,hn])) h2⟩
 | .agg cs,u,hb,hr=>by
  simp only[RA]at hr⊢;obtain⟨us,e,h1,h2⟩:=hr;exact⟨us,e,RAs.congr cs us (fun n hn=>hb n (by simpa only[A.has]using hn)) h1,h2⟩
 | .tup cs,u,hb,hr=>by
  simp only[RA]at hr⊢;obtain⟨us,e,h1⟩:=hr;exact⟨us,e,RAs.congr cs us (fun n hn=>hb n (by simpa only[A.has]using hn)) h1⟩
theorem RAs.congr{h w}{val val':Val}:∀(as':List A) (us:List Value),(∀n,AV n as'=true->val' n=val n)->RAs h w val as' us->RAs h w val' as' us
 |[],us,_,hr=>by simpa[RAs]using hr
 |a::as',us,hb,hr=>by
  simp only[RAs]at hr⊢;obtain⟨u,us',e,h1,h2⟩:=hr;exact⟨u,us',e,RA.congr a u (fun n hn=>hb n (by simp[AV,hn])) h1,RAs.congr as' us' (fun n hn=>hb n (by simp[AV,hn])) h2⟩
end

theorem Kr{P:Program}{o:Oper}{callee:Operand}{args:Array Operand}{argTypes:Array TypeId}{ρ:Operand->Value}{w:World}{f:FuncId}{us vs:List Value}
 (ho:o.op=.call {callee:=.value callee,args,argTypes}) (e1:ρ callee=.func (.func f) ⟨us⟩ ⟨vs⟩) (hf:aN4 P f=true):
 (execOp ρ o).run P w=.ok (.enter f ⟨us++args.toList.map ρ++vs⟩) w:=by
 have harr:(⟨us⟩:Array Value)++args.map ρ++⟨vs⟩=⟨us++args.toList.map ρ++vs⟩:=by apply Array.ext';simp
 simp only[execOp,ho,resolve,e1,Deferred.ofValue,Sem.run_bind,Sem.run_pure,Result.andThen_ok,invoke]
 rw[harr,MM hf]

theorem YV{P:Program}{o:Oper}{s:St}{wt:W}{L:Lp}{Φ:Ob}{r:A}(he:I8 P o s wt=some (Φ,r)):EM P o s (Φ.ok P L) r s:=by
 intro hΦ h w val a H K Q hK;unfold I8 at he;split at he;rename_i c ho;obtain⟨callee,args,argTypes⟩:=c;simp only at he;split at he;rename_i g;split at he;rename_i f fs cs r' hg;obtain⟨us,vs,e1,hfs,hcs⟩:=EC hg (H.ev g);split at he;rename_i hb;simp only[ba]at hb;simp only[oe,pe]at he;obtain⟨rfl,rfl⟩:=he;simp only[Ob.ok]at hΦ;unfold Oper.wp;rw[Kr ho e1 hb.1.1,Oper.upon_enter];have hargs:RAs h w val (fs++args.toList.map (fun x=>s.look (s.ev x))++cs) (us++args.toList.map a.eval++vs):=
  (hfs.append (D0 (f:=fun x=>s.look (s.ev x)) (fun x=>H.look (H.ev x)) _)).append hcs
 refine(hΦ h w val _ (Inv.nil H.inv.glob val) hargs).mono fun e w' hh=>?_;obtain⟨h',val',u,rfl,_,hr,hk,_,_⟩:=hh;have hk0:BI [] h w h' w':=hk;exact hK h' w' val u (RA.bare _ _ hb.2 hr) (H.quiet hk0) ⟨hk0.mono' (fun x hx=>by cases hx),fun _ _=>rfl,fun b hb=>.inl hb⟩;cases he;cases he;cases he;cases he

theorem LO{P:Program}{o:Oper}{s s':St}{wt:W}{L:Lp}{Φ:Ob}{r:A}(he:LN P o s wt=some (Φ,r,s')):EM P o s (Φ.ok P L) r s':=by
 intro hΦ h w val a H K Q hK;unfold LN at he;split at he;rename_i c ho;obtain⟨callee,args,argTypes⟩:=c;simp only at he;split at he;rename_i g;split at he;rename_i f fs cs raw r' B F hg;obtain⟨us,vs,e1,hfs,hcs⟩:=EC hg (H.ev g);split at he;rename_i hb;simp only[ba]at hb;simp only[oe,pe]at he;obtain⟨rfl,rfl,rfl⟩:=he;simp only[Ob.ok]at hΦ;obtain⟨hc,hF⟩:=hΦ;unfold Oper.wp;rw[Kr ho e1 hb.1,Oper.upon_enter];have hargs:RAs h w val (fs++args.toList.map (fun x=>if raw then s.ev x else s.look (s.ev x))++cs) (us++args.toList.map a.eval++vs):=
  (hfs.append (D0 (f:=fun x=>if raw then s.ev x else s.look (s.ev x)) (fun x=>by cases raw;exact H.look (H.ev x);exact H.ev x) _)).append hcs
 have hnF:AK F=AK s.F:=by
  rcases hF with e|e
  rw[e];exact e.1
 have hFar:Far F:=by
  rcases hF with e|e
  rw[e];exact H.far;exact e.2
 refine(hc h w val _ H.inv hargs).mono fun e w' hh=>?_;obtain⟨h',val',u,rfl,hI,hr,hk,hv,hnew⟩:=hh;have hfresh:∀n,n∈AK (B++F)->n∉AK (s.B++s.F)->n<up/\AV n s.E=false:=by
  intro n hn hnn;rw[AI]at hn hnn;rcases ma.1 hn with hn|hn
  obtain⟨p,hp,rfl⟩:=mm.1 hn;have:=List.all_eq_true.1 hb.2 p hp;simp only[Bool.or_eq_true,ba,decide_eq_true_eq,Bool.not_eq_true',List.contains_iff_mem]at this;rcases this with h1|h1
  exact absurd (ml_ _ h1) hnn;exact h1;exact absurd (mr_ _ (hnF▸hn)) hnn
 have hval:∀n,(n<up->AV n s.E=true)->val' n=val n:=by intro n hn;apply hv;intro hn1;apply Classical.byContradiction;intro hn2;obtain⟨c1,c2⟩:=hfresh n hn1 hn2;rw[hn c1]at c2;cases c2
 exact hK h' w' val' u hr ⟨RAs.congr _ _ (fun n hn=>hval n fun _=>hn) (RAs.stays hk.stays _ _ _ H.e),hI,hFar,H.defs.keep H.inv hk (fun b hb=>hb) (hval bn fun h=>absurd h (by decide))⟩ ⟨hk,fun n hn=>hval n fun hlt=>absurd hlt (Nat.not_lt.2 (Ic hn)),hnew⟩;cases he;cases he;cases he;cases he
end Go.Ac
namespace Go.Ac

mutual
def A.mapN(ρ:Nat->Nat):A->A
 | .box n off=>.box (ρ n) off
 | .bsl n off l=>.bsl (ρ n) off l
 | .ep n k i off=>.ep (ρ n) k i off
 | .row n=>.row (ρ n)
 | .clo f fs cs=>.clo f (Cr ρ fs) (Cr ρ cs)
 | .agg cs=>.agg (Cr ρ cs)
 | .tup vs=>.tup (Cr ρ vs)
 |a=>a
def Cr(ρ:Nat->Nat):List A->List A
 |[]=> []
 |a::as'=>a.mapN ρ::Cr ρ as'
end
def Bk.mapN(ρ:Nat->Nat):Bk->Bk
 | .cells cs=>.cells (Cr ρ cs)
 | .vals as' us=>.vals (Cr ρ as') us
 | .mit m clk seen=>.mit (ρ m) clk seen
 | .mapR g clk ks outs=>.mapR (ρ g) clk ks (outs.map fun x=>(x.1,ρ x.2))
 |b=>b
mutual
def A.nms:A->Option (List Nat)
 | .box n _=>some [n]
 | .bsl n _ _=>some [n]
 | .ep n _ _ _=>some [n]
 | .row n=>some [n]
 | .clo _ fs cs=>match Sd fs,Sd cs with
  |some x,some y=>some (x++y)
  |_,_=>none
 | .agg cs=>Sd cs
 | .tup vs=>Sd vs
 | .opq _=>none
 |_=>some []
def Sd:List A->Option (List Nat)
 |[]=>some []
 |a::as'=>match a.nms,Sd as' with
  |some x,some y=>some (x++y)
  |_,_=>none
end
def Bk.nms:Bk->Option (List Nat)
 | .cells cs=>Sd cs
 | .vals as' _=>Sd as'
 | .mit m _ _=>some [m]
 | .mapR g _ _ outs=>some (g::outs.map (·.2))
 |_=>some []
mutual
theorem A.has_nms:∀(a:A) {l:List Nat},a.nms=some l->∀n,a.has n=true->n∈l
 | .d _,l,h,n,hn=>by simp[A.has]at hn
 | .eptr _,l,h,n,hn=>by simp[A.has]at hn
 | .nil,l,h,n,hn=>by simp[A.has]at hn
 | .ub,l,h,n,hn=>by simp[A.has]at hn
 | .any,l,h,n,hn=>by simp[A.has]at hn
 | .box m off,l,h,n,hn=>by simp[A.nms]at h;simp[A.has]at hn;subst h;simp[hn]
 | .bsl m off k,l,h,n,hn=>by simp[A.nms]at h;simp[A.has]at hn;subst h;simp[hn]
 | .ep m k i off,l,h,n,hn=>by simp[A.nms]at h;simp[A.has]at hn;subst h;simp[hn]
 | .row m,l,h,n,hn=>by simp[A.nms]at h;simp[A.has]at hn;subst h;simp[hn]
 | .opq a,l,h,n,hn=>by simp[A.nms]at h
 | .clo f fs cs,l,h,n,hn=>by
  simp only[A.nms]at h;split at h;rename_i x y hx hy;simp only[oe]at h;subst h;simp only[A.has,Bool.or_eq_true]at hn;rcases hn with hn|hn
  exact ml_ _ (Ca fs hx n hn);exact mr_ _ (Ca cs hy n hn);cases h
 | .agg cs,l,h,n,hn=>Ca cs (by simpa only[A.nms]using h) n (by simpa only[A.has]using hn)
 | .tup cs,l,h,n,hn=>Ca cs (by simpa only[A.nms]using h) n (by simpa only[A.has]using hn)
theorem Ca:∀(as':List A) {l:List Nat},Sd as'=some l->∀n,AV n as'=true->n∈l
 |[],l,h,n,hn=>by simp[AV]at hn
 |a::as',l,h,n,hn=>by
  simp only[Sd]at h;split at h;rename_i x y hx hy;simp only[oe]at h;subst h;simp only[AV,Bool.or_eq_true]at hn;rcases hn with hn|hn
  exact ml_ _ (A.has_nms a hx n hn);exact mr_ _ (Ca as' hy n hn);cases h
end
theorem Bk.has_nms{b:Bk}{l:List Nat}(h:b.nms=some l)(n:Nat)(hn:b.has n=true):n∈l:=by
 cases b with
 |cells cs=>exact Ca cs h n hn
 |vals as' us=>exact Ca as' h n hn
 |mit m clk seen=>simp only[Bk.nms,oe]at h;simp only[Bk.has,beq_iff_eq]at hn;subst h;simp[hn]
 |mapR g clk ks outs=>
  simp only[Bk.nms,oe]at h
  simp only[Bk.has,Bool.or_eq_true,beq_iff_eq,List.any_eq_true]at hn
  subst h
  rcases hn with rfl|⟨x,hx,rfl⟩
  exact List.mem_cons_self
  exact List.mem_cons_of_mem _ (mm.2 ⟨x,hx,rfl⟩)
 |_=>simp[Bk.has]at hn
mutual
theorem A.mapN_id:∀(a:A) {l:List Nat} {ρ:Nat->Nat},a.nms=some l->(∀n∈l,ρ n=n)->a.mapN ρ=a
 | .d _,l,ρ,h,hn=>rfl
 | .eptr _,l,ρ,h,hn=>rfl
 | .nil,l,ρ,h,hn=>rfl
 | .ub,l,ρ,h,hn=>rfl
 | .any,l,ρ,h,hn=>rfl
 | .opq a,l,ρ,h,hn=>rfl
 | .box m off,l,ρ,h,hn=>by simp[A.nms]at h;subst h;simp[A.mapN,hn m (by simp)]
 | .bsl m off k,l,ρ,h,hn=>by simp[A.nms]at h;subst h;simp[A.mapN,hn m (by simp)]
 | .ep m k i off,l,ρ,h,hn=>by simp[A.nms]at h;subst h;simp[A.mapN,hn m (by simp)]
 | .row m,l,ρ,h,hn=>by simp[A.nms]at h;subst h;simp[A.mapN,hn m (by simp)]
 | .clo f fs cs,l,ρ,h,hn=>by
  simp only[A.nms]at h;split at h;rename_i x y hx hy;simp only[oe]at h;subst h;simp only[A.mapN,Cz fs hx fun n h=>hn n (ml_ _ h),Cz cs hy fun n h=>hn n (mr_ _ h)];cases h
 | .agg cs,l,ρ,h,hn=>by simp only[A.nms]at h;simp only[A.mapN,Cz cs h hn]
 | .tup cs,l,ρ,h,hn=>by simp only[A.nms]at h;simp only[A.mapN,Cz cs h hn]
theorem Cz:∀(as':List A) {l:List Nat} {ρ:Nat->Nat},Sd as'=some l->(∀n∈l,ρ n=n)->Cr ρ as'=as'
 |[],l,ρ,h,hn=>rfl
 |a::as',l,ρ,h,hn=>by
  simp only[Sd]at h;split at h;rename_i x y hx hy;simp only[oe]at h;subst h;simp only[Cr,A.mapN_id a hx fun n h=>hn n (ml_ _ h),Cz as' hy fun n h=>hn n (mr_ _ h)];cases h
end
mutual
theorem A.mapN_mapN(f g:Nat->Nat):∀a:A,(a.mapN g).mapN f=a.mapN (fun n=>f (g n))
 | .d _| .eptr _| .nil| .ub| .any| .opq _| .box _ _| .bsl _ _ _| .ep _ _ _ _| .row _=>by simp only[A.mapN]
 | .clo h fs cs=>by simp only[A.mapN,B6 f g fs,B6 f g cs]
 | .agg cs=>by simp only[A.mapN,B6 f g cs]
 | .tup cs=>by simp only[A.mapN,B6 f g cs]
theorem B6(f g:Nat->Nat):∀l:List A,Cr f (Cr g l)=Cr (fun n=>f (g n)) l
 |[]=>rfl
 |a::as'=>by simp only[Cr,A.mapN_mapN f g a,B6 f g as']
end
mutual
theorem S9{h w}{val:Val}{ρ:Nat->Nat}(hup:∀n,up<=n->ρ n=n):∀(a:A) (u:Value),RA h w val (a.mapN ρ) u↔RA h w (fun n=>val (ρ n)) a u
 | .d _,u=>by simp only[A.mapN,RA]
 | .eptr _,u=>by simp only[A.mapN,RA]
 | .nil,u=>by simp only[A.mapN,RA]
 | .ub,u=>by simp only[A.mapN,RA]
 | .any,u=>by simp only[A.mapN,RA]
 | .box _ _,u=>by simp only[A.mapN,RA]
 | .bsl _ _ _,u=>by simp only[A.mapN,RA]
 | .ep _ _ _ _,u=>by simp only[A.mapN,RA]
 | .row _,u=>by simp only[A.mapN,RA]
 | .opq a,u=>by
  simp only[A.mapN,RA];have:(fun n=>val (ρ (n+up)))=fun n=>val (n+up):=by funext n;rw[hup (n+up) (Nat.le_add_left _ _)]
  rw[this]
 | .clo f fs cs,u=>by simp only[A.mapN,RA,Ct hup fs,Ct hup cs]
 | .agg cs,u=>by simp only[A.mapN,RA,Ct hup cs]
 | .tup cs,u=>by simp only[A.mapN,RA,Ct hup cs]
theorem Ct{h w}{val:Val}{ρ:Nat->Nat}(hup:∀n,up<=n->ρ n=n):∀(as':List A) (us:List Value),RAs h w val (Cr ρ as') us↔RAs h w (fun n=>val (ρ n)) as' us
 |[],us=>by simp only[Cr,RAs]
 |a::as',us=>by simp only[Cr,RAs,S9 hup a,Ct hup as']
end
theorem Je{h w}{val:Val}{ρ:Nat->Nat}{outs:List (D×Nat)}:∀(ks:List (Nat×D)) (us:List Value) (l:List MapEntry),RKs h w val (outs.map fun x=>(x.1,ρ x.2)) ks us l↔RKs h w (fun n=>val (ρ n)) outs ks us l
 |[],us,l=>Iff.rfl
 |x::ks,us,l=>by
  have hm:∀m,(x.2,m)∈outs.map (fun x=>(x.1,ρ x.2))↔ ∃m0,(x.2,m0)∈outs/\ρ m0=m:=fun m=>by simp only[mm,pe];constructor;rintro⟨y,hy,e1,e2⟩;exact⟨y.2,by rw[<-e1];exact hy,e2⟩;rintro⟨m0,h0,e⟩;exact⟨_,h0,rfl,e⟩
  constructor;rintro⟨u,us',en,l',a,b,c,d,e1,e2,r⟩;exact⟨u,us',en,l',a,b,c,d,fun m h0=>e1 _ ((hm _).2 ⟨m,h0,rfl⟩),fun hn=>e2 fun m h0=>by obtain⟨m0,h1,_⟩:=(hm _).1 h0;exact hn _ h1,(Je ks us' l').1 r⟩;rintro⟨u,us',en,l',a,b,c,d,e1,e2,r⟩;exact⟨u,us',en,l',a,b,c,d,fun m h0=>by obtain⟨m0,h1,rfl⟩:=(hm _).1 h0;exact e1 _ h1,fun hn=>e2 fun m h0=>hn _ ((hm _).2 ⟨m,h0,rfl⟩),(Je ks us' l').2 r⟩
theorem TA{h w}{val:Val}{ρ:Nat->Nat}(hup:∀n,up<=n->ρ n=n)(n:Nat)(b:Bk):RB h w val (ρ n) (b.mapN ρ)↔RB h w (fun n=>val (ρ n)) n b:=by
 cases b with
 |cells cs=>simp only[Bk.mapN,RB,Ct hup cs]
 |vals as' us=>simp only[Bk.mapN,RB,Ct hup as']
 |mapR g clk ks outs=>simp only[Bk.mapN,RB,Je,List.forall_mem_map]
 |_=>simp only[Bk.mapN,RB]
theorem RB.congr{h w}{val val':Val}{n:Nat}{b:Bk}(h1:val' n=val n)(h2:∀m,b.has m=true->val' m=val m)(hr:RB h w val n b):RB h w val' n b:=by
 cases b with
 |cells cs=>
  obtain⟨g,us,t,e,hg,hr,ho,h0⟩:=hr
  exact⟨g,us,t,h1.trans e,hg,RAs.congr cs us h2 hr,ho,h0⟩
 |rows e xss=>obtain⟨v,us,a,b⟩:=hr;exact⟨v,us,h1.trans a,b⟩
 |mapR g clk ks outs=>
  obtain⟨b,l,us,e1,hg,hu,hk,r1,r2,r3,r4,ho⟩:=hr
  have hx2:∀x∈outs,val' x.2=val x.2:=fun x hx=>h2 _ (by simp only[Bk.has,Bool.or_eq_true,List.any_eq_true,beq_iff_eq];exact .inr ⟨x,hx,rfl⟩)
  exact⟨b,l,us,h1.trans e1,hg,(h2 g (by simp[Bk.has])).trans hu,RKs.congr hx2 _ _ _ hk,r1,r2,r3,r4,fun x hx=>by rw[hx2 x hx];exact ho x hx⟩
 |row e k xs=>obtain⟨us,a,b,c⟩:=hr;rw[<-h1]at a c;exact⟨us,a,b,c⟩
 |rw e k xs=>obtain⟨us,a,b,c⟩:=hr;rw[<-h1]at a c;exact⟨us,a,b,c⟩
 |old xs=>simp only[RB]at hr⊢;rw[h1];exact hr
 |vals as' us=>exact RAs.congr as' us h2 hr
 |dead=>trivial
 |buf sl e k xs=>obtain⟨g,us,a,r⟩:=hr;exact⟨g,us,h1.trans a,r⟩
 |fz cs=>obtain⟨g,us,a,r⟩:=hr;exact⟨g,us,h1.trans a,r⟩
 |obj g o=>obtain⟨a,r⟩:=hr;exact⟨h1.trans a,r⟩
 |map clk es=>obtain⟨g,l,a,r⟩:=hr;exact⟨g,l,h1.trans a,r⟩
 |mapS es=>obtain⟨clk,es',⟨g,l,a,r⟩,hp⟩:=hr;exact⟨clk,es',⟨g,l,h1.trans a,r⟩,hp⟩
 |bag e k xs=>obtain⟨xs',us,hp,a,b,c⟩:=hr;rw[<-h1]at a c;exact⟨xs',us,hp,a,b,c⟩
 |mit m clk seen=>obtain⟨r,b,a,c,d⟩:=hr;exact⟨r,b,h1.trans a,(h2 m (by simp[Bk.has])).trans c,d⟩
def DI(ρ:Nat->Nat)(p:Nat×Bk):Nat×Bk:=(ρ p.1,p.2.mapN ρ)
theorem ES(ρ:Nat->Nat)(val:Val)(X:Bx):Aa val (X.map (DI ρ))=Aa (fun n=>val (ρ n)) X:=by
 induction X with
 |nil=>rfl
 |cons p X ih=>
  rw[List.map_cons,Aj,Aj,ih]
  congr 1
  obtain⟨n,b⟩:=p
  unfold CW BE
  cases b<;>rfl
theorem CO(ρ:Nat->Nat)(X:Bx):AK (X.map (DI ρ))=(AK X).map ρ:=by simp only[AK,List.map_map];rfl

theorem B8{α β}(f:α->β):∀{l:List α},(l.map f).Nodup->l.Nodup
 |[],_=>List.Pairwise.nil
 |a::l,h=>by
  rw[List.map_cons,List.nodup_cons]at h;exact List.nodup_cons.2 ⟨fun ha=>h.1 (mm.2 ⟨a,ha,rfl⟩),B8 f h.2⟩
theorem DW{α β}{f:α->β}:∀{l:List α},(∀x∈l,∀y∈l,f x=f y->x=y)->l.Nodup->(l.map f).Nodup
 |[],_,_=>List.Pairwise.nil
 |a::l,hi,h=>by
  rw[List.nodup_cons]at h;rw[List.map_cons,List.nodup_cons];refine⟨fun ha=>?_,DW (fun x hx y hy=>hi x (.tail _ hx) y (.tail _ hy)) h.2⟩;obtain⟨b,hb,e⟩:=mm.1 ha;have:=hi b (.tail _ hb) a (.head _) e;exact h.1 (this▸hb)

theorem AM.frame{P:Program}{f:FuncId}{args:List A}{X X':Bx}{r:A}(hc:AM P f args X r X')(ρ:Nat->Nat)(hup:∀n,up<=n->ρ n=n)(Y:Bx)
 (hinj:∀n∈AK X',∀m∈AK X',ρ n=ρ m->n=m) (hnX:∀n∈AK X',n∉AK X->∀m∈AK X,ρ n≠ρ m) (hnY:∀n∈AK X',ρ n∉AK Y)
 (hnew:∀n∈AK X',n∉AK X->∀p∈Y,p.2.has (ρ n)=false) (hr:∀n,r.has n=true->n∈AK X') (hX':∀p∈X',∀n,p.2.has n=true->n∈AK X'):
 AM P f (Cr ρ args) (X.map (DI ρ)++Y) (r.mapN ρ) (X'.map (DI ρ)++Y):=by
 intro h w val vs hI hargs
 have hargs':=(Ct hup args vs).1 hargs
 have hbks:=hI.bks
 rw[AJ,ES]at hbks
 have hnms:=hI.nms
 rw[AI,CO]at hnms
 obtain⟨b1,b2,b3⟩:=List.nodup_append.1 hbks
 obtain⟨m1,m2,m3⟩:=List.nodup_append.1 hnms
 have hIX:Inv h w (fun n=>val (ρ n)) X:=⟨fun p hp=>(TA hup p.1 p.2).1 (hI.rep (DI ρ p) (ml_ _ (mm.2 ⟨p,hp,rfl⟩))),B8 _ m1,b1,(by first|exact H.inv.glob.stays hk.stays|exact H.inv.glob|exact I.glob|exact I.glob.stays k.stays|exact H.inv.glob.stays k.stays|exact hI.glob|exact hInv.glob|exact hI0.glob|exact hIX.glob|exact H'.inv.glob|exact hI.glob.stays hk.stays|exact H1.inv.glob|exact hIR.glob|exact H.glob|exact hI.glob.stays k.stays|exact H.inv.glob.stays n.keep.stays|exact hI.glob.stays n.keep.stays|exact h.inv.glob|exact H2.inv.glob|exact hI'.glob)⟩
 refine(hc h w _ vs hIX hargs').mono fun e w' hh=>?_
 obtain⟨h',val1,u,rfl,hI',hru,hk,hv,hb⟩:=hh
 --the values behind the call
 let val':Val:=fun m=>match (AK X').find? fun n=>ρ n==m with
  |some n=>val1 n
  |none=>val m
 have v1:∀n∈AK X',val' (ρ n)=val1 n:=by
  intro n hn;show(match (AK X').find? fun k=>ρ k==ρ n with|some k=>val1 k|none=>val (ρ n))=val1 n
  cases hf:(AK X').find? (fun k=>ρ k==ρ n)with
  |none=>
   have:=List.find?_eq_none.1 hf n hn
   simp at this
  |some k=>
   have h1:=List.find?_some hf
   have h2:=List.mem_of_find?_eq_some hf
   simp only[beq_iff_eq]at h1
   simp only
   rw[hinj k h2 n hn h1]
 have v2:∀m,(∀n∈AK X',n∉AK X->ρ n≠m)->val' m=val m:=by
  intro m hm;show(match (AK X').find? fun k=>ρ k==m with|some k=>val1 k|none=>val m)=val m
  cases hf:(AK X').find? (fun k=>ρ k==m)with
  |none=>rfl
  |some k=>
   have h1:=List.find?_some hf
   have h2:=List.mem_of_find?_eq_some hf
   simp only[beq_iff_eq]at h1
   simp only
   have hkX:k∈AK X:=Classical.byContradiction fun hk=>hm k h2 hk h1
   rw[hv k fun _=>hkX,h1]
 have hkM:BI (Aa val (X.map (DI ρ)++Y)) h w h' w':=hk.mono' fun x hx=>.inl (by rw[AJ,ES];exact ml_ _ hx)
 have hY:∀p∈Y,RB h' w' val' p.1 p.2:=by intro p hp;refine RB.congr (val:=val) (v2 _ fun n hn _ e=>hnY n hn (by rw[e];exact mm.2 ⟨p,hp,rfl⟩)) (fun m hm=>v2 _ fun n hn hnn e=>?_) (RB.stays hk.stays (fun g hg=>?_) (hI.rep p (mr_ _ hp)));have:=hnew n hn hnn p hp;rw[e,hm]at this;cases this;have hgY:g∈Aa val Y:=Inv.blk_mem hp hg;refine hk.far g (hI.blk_lt g (by rw[AJ];exact mr_ _ hgY)) fun hgX=>?_;exact b3 g hgX g hgY rfl
 have hblkX:Aa val' (X'.map (DI ρ))=Aa val1 X':=by rw[ES];exact BZ fun n hn=>v1 n hn
 have hblkY:Aa val' Y=Aa val Y:=BZ fun m hm=>v2 m fun n hn _ e=>hnY n hn (e▸hm)
 refine⟨h',val',u,rfl,⟨?_,?_,?_,(by first|exact H.inv.glob.stays hk.stays|exact H.inv.glob|exact I.glob|exact I.glob.stays k.stays|exact H.inv.glob.stays k.stays|exact hI.glob|exact hInv.glob|exact hI0.glob|exact hIX.glob|exact H'.inv.glob|exact hI.glob.stays hk.stays|exact H1.inv.glob|exact hIR.glob|exact H.glob|exact hI.glob.stays k.stays|exact H.inv.glob.stays n.keep.stays|exact hI.glob.stays n.keep.stays|exact h.inv.glob|exact H2.inv.glob|exact hI'.glob)⟩,?_,hkM,?_,?_⟩
 intro p hp
 rcases ma.1 hp with hp|hp
 obtain⟨q,hq,rfl⟩:=mm.1 hp
 have hqn:q.1∈AK X':=mm.2 ⟨q,hq,rfl⟩
 exact(TA hup q.1 q.2).2 (RB.congr (v1 _ hqn) (fun m hm=>v1 m (hX' q hq m hm)) (hI'.rep q hq))
 exact hY p hp
 rw[AI,CO]
 refine List.nodup_append.2 ⟨?_,m2,fun x hx y hy e=>?_⟩
 exact DW hinj hI'.nms
 obtain⟨n,hn,rfl⟩:=mm.1 hx
 exact hnY n hn (e▸hy)
 rw[AJ,hblkX,hblkY]
 refine List.nodup_append.2 ⟨hI'.bks,b2,fun x hx y hy e=>?_⟩
 subst e
 rcases hb x hx with h1|h1
 exact b3 x h1 x hy rfl
 have:=hI.blk_lt x (by rw[AJ];exact mr_ _ hy)
 omega
 exact(S9 hup r u).2 (RA.congr r u (fun n hn=>v1 n (hr n hn)) hru)
 intro m hm
 refine v2 m fun n hn hnn e=>?_
 have h1:=hm (by rw[AI,CO];exact ml_ _ (mm.2 ⟨n,hn,e⟩))
 rw[AI,CO]at h1
 rcases ma.1 h1 with h1|h1
 obtain⟨k,hk,e2⟩:=mm.1 h1
 exact hnX n hn hnn k hk (e.trans e2.symm)
 exact hnY n hn (e▸h1)
 intro b hbb
 rw[AJ,hblkX,hblkY]at hbb
 rw[AJ,ES]
 rcases ma.1 hbb with h1|h1
 rcases hb b h1 with h2|h2
 exact .inl (ml_ _ h2)
 exact .inr h2
 exact .inl (mr_ _ h1)
theorem AM.perm{P:Program}{f:FuncId}{args:List A}{X X' Z Z':Bx}{r:A}(hc:AM P f args X r X')(h1:Z.Perm X)(h2:X'.Perm Z'):AM P f args Z r Z':=by
 intro h w val vs hI hargs;refine(hc h w val vs (hI.perm h1) hargs).mono fun e w' hh=>?_;obtain⟨h',val1,u,rfl,hI',hru,hk,hv,hb⟩:=hh;have hbl:∀{x},x∈Aa val X↔x∈Aa val Z:=fun{x}=>((List.Perm.flatMap_right (CW val) h1).mem_iff).symm;refine⟨h',val1,u,rfl,hI'.perm h2,hru,hk.mono' fun x hx=>.inl (hbl.1 hx),fun n hn=>hv n fun hx=>?_,fun b hb'=>?_⟩;exact((h1.map (·.1)).mem_iff).1 (hn (((h2.map (·.1)).mem_iff).1 hx))
 rcases hb b (((List.Perm.flatMap_right (CW val1) h2).mem_iff).2 hb')with h|h
 exact .inl (hbl.1 h);exact .inr h
def aZ0(B:Bx):Bool:=B.all fun p=>decide (p.1<up)&&match p.2.nms with
 |some l=>l.all fun n=>decide (n<up)
 |none=>false
theorem OC{B:Bx}(h:aZ0 B=true){p:Nat×Bk}(hp:p∈B):p.1<up/\∀n,p.2.has n=true->n<up:=by have:=List.all_eq_true.1 h p hp;simp only[ba,decide_eq_true_eq]at this;refine⟨this.1,fun n hn=>?_⟩;have h2:=this.2;split at h2;rename_i l hl;have:=List.all_eq_true.1 h2 n (Bk.has_nms hl n hn);simpa using this;cases h2
def aT5(E:List A):Bool:=match Sd E with
 |some l=>l.all fun n=>decide (n<up)
 |none=>false
theorem aBa{E:List A}(h:aT5 E=true)(n:Nat)(hn:AV n E=true):n<up:=by unfold aT5 at h;split at h;rename_i l hl;have:=List.all_eq_true.1 h n (Ca E hl n hn);simpa using this;cases h
end Go.Ac
namespace Go.Ac

def rho(l:List (Nat×Nat))(n:Nat):Nat:=if Nat.ble up n then n else match l.find? fun p=>p.1==n with
 |some p=>p.2
 |none=>n
def Kq(l:List (Nat×Nat))(n:Nat):Nat:=if Nat.ble up n then n else match l.find? fun p=>p.2==n with
 |some p=>p.1
 |none=>n
theorem aTh{l:List (Nat×Nat)}{n:Nat}(h:up<=n):rho l n=n:=by unfold rho;rw[if_pos (Nat.ble_eq_true_of_le h)]
def aOt(B:Bx):Bx:=B.foldr (fun p C=>Cq p.1 p.2 C) []
theorem Fa:∀B:Bx,(aOt B).Perm B
 |[]=>.refl _
 |p::B=>by
  show(Cq p.1 p.2 (aOt B)).Perm _;exact(Bp _ _ _).trans (.cons _ (Fa B))
def BT(f:Nat->Bool):List Nat->Bool
 |[]=>true
 |x::l=>f x&&BT f l
theorem A7{f:Nat->Bool}:∀{l:List Nat},BT f l=true->∀x∈l,f x=true
 |[],_,x,hx=>by cases hx
 |y::l,h,x,hx=>by
  simp only[BT,ba]at h;rcases mc.1 hx with rfl|hx
  exact h.1;exact A7 h.2 x hx
def BF(n:Nat):List Nat->Bool
 |[]=>false
 |x::l=>Nat.beq x n||BF n l
theorem At{n:Nat}:∀{l:List Nat},BF n l=true↔n∈l
 |[]=>by simp[BF]
 |x::l=>by
  simp only[BF,Bool.or_eq_true,Nat.beq_eq,mc,At];constructor;rintro(h|h);exact .inl h.symm;exact .inr h;rintro(h|h);exact .inl h.symm;exact .inr h
theorem Bt{n:Nat}{l:List Nat}(h:BF n l=false):n∉l:=fun hn=>by rw[At.2 hn]at h;cases h
def aJp(l:List Nat)(B:Bx):Bx:=B.filter fun p=>BF p.1 l
def MJ(l:List Nat)(B:Bx):Bx:=B.filter fun p=> !BF p.1 l
theorem MB(l:List Nat):∀B:Bx,B.Perm (aJp l B++MJ l B)
 |[]=>.refl _
 |p::B=>by
  have ih:=MB l B;unfold aJp MJ;simp only[List.filter_cons];cases h:BF p.1 l;simp only[Bool.not_false,if_true,Bool.false_eq_true,if_false];exact(ih.cons p).trans (List.perm_middle.symm);simp only[Bool.not_true,if_true,Bool.false_eq_true,if_false,List.cons_append];exact ih.cons p
def aJh(a:A)(l:List Nat):Bool:=match a.nms with
 |some x=>BT (fun n=>BF n l) x
 |none=>false
def JQ(as':List A)(l:List Nat):Bool:=match Sd as' with
 |some x=>BT (fun n=>BF n l) x
 |none=>false
def aKn(b:Bk)(l:List Nat):Bool:=match b.nms with
 |some x=>BT (fun n=>BF n l) x
 |none=>false
theorem RG{a:A}{l:List Nat}(h:aJh a l=true)(n:Nat)(hn:a.has n=true):n∈l:=by unfold aJh at h;split at h;rename_i x hx;exact At.1 (A7 h n (A.has_nms a hx n hn));cases h
theorem ZP{b:Bk}{l:List Nat}(h:aKn b l=true)(n:Nat)(hn:b.has n=true):n∈l:=by unfold aKn at h;split at h;rename_i x hx;exact At.1 (A7 h n (Bk.has_nms hx n hn));cases h
theorem Bk.mapN_mapN(f g:Nat->Nat)(b:Bk):(b.mapN g).mapN f=b.mapN (fun n=>f (g n)):=by cases b<;>simp[Bk.mapN,B6]
theorem Bk.mapN_id{b:Bk}{l:List Nat}{ρ:Nat->Nat}(h:b.nms=some l)(hρ:∀n∈l,ρ n=n):b.mapN ρ=b:=by
 cases b with
 |cells cs=>simp only[Bk.mapN];rw[Cz cs h hρ]
 |vals as' us=>simp only[Bk.mapN];rw[Cz as' h hρ]
 |mit m clk seen=>simp only[Bk.nms,oe]at h;subst h;simp only[Bk.mapN];rw[hρ m (by simp)]
 |mapR g clk ks outs=>
  simp only[Bk.nms,oe]at h;subst h;simp only[Bk.mapN]
  rw[hρ g List.mem_cons_self]
  congr 1
  have:∀x∈outs,(x.1,ρ x.2)=id x:=fun x hx=>by rw[hρ x.2 (List.mem_cons_of_mem _ (mm.2 ⟨x,hx,rfl⟩))];rfl
  exact(List.map_congr_left this).trans (List.map_id _)
 |_=>rfl
theorem aBq{as':List A}{l:List Nat}{ρ:Nat->Nat}(h:JQ as' l=true)(hρ:∀n∈l,ρ n=n):Cr ρ as'=as':=by unfold JQ at h;split at h;rename_i x hx;exact Cz as' hx fun n hn=>hρ n (At.1 (A7 h n hn));cases h
theorem aBc{ρ:Nat->Nat}{l:List Nat}(hρ:∀n∈l,ρ n=n):∀{B:Bx},(∀p∈B,p.1∈l/\aKn p.2 l=true)->B.map (DI ρ)=B
 |[],_=>rfl
 |p::B,h=>by
  obtain⟨h1,h2⟩:=h p (.head _);have e:DI ρ p=p:=by unfold aKn at h2;split at h2;rename_i x hx;show(ρ p.1,p.2.mapN ρ)=p;rw[hρ p.1 h1,Bk.mapN_id hx fun n hn=>hρ n (At.1 (A7 h2 n hn))];cases h2
  rw[List.map_cons,e,aBc hρ fun q hq=>h q (.tail _ hq)]

def Ea(B:Bx):List (Nat×Nat)->Option Bx
 |[]=>some []
 |p::l=>match lk B p.2,Ea B l with
  |some b,some X=>some ((p.2,b)::X)
  |_,_=>none
theorem Hp{B:Bx}:∀{l:List (Nat×Nat)} {X:Bx},Ea B l=some X->AK X=l.map (·.2)
 |[],X,h=>by simp only[Ea,oe]at h;subst h;rfl
 |p::l,X,h=>by
  simp only[Ea]at h;split at h;rename_i b X' h1 h2;simp only[oe]at h;subst h;simp only[AK,List.map_cons];rw[<-Hp h2];rfl;cases h
theorem Ho{B:Bx}:∀{l:List (Nat×Nat)} {X:Bx},Ea B l=some X->∀p∈X,p∈B
 |[],X,h,p,hp=>by simp only[Ea,oe]at h;subst h;cases hp
 |q::l,X,h,p,hp=>by
  simp only[Ea]at h;split at h;rename_i b X' h1 h2;simp only[oe]at h;subst h;rcases mc.1 hp with rfl|hp
  exact Ag h1;exact Ho h2 p hp;cases h
theorem JO{B B':Bx}:∀{l:List (Nat×Nat)},(∀p∈l,lk B' p.2=lk B p.2)->Ea B' l=Ea B l
 |[],_=>rfl
 |p::l,h=>by
  simp only[Ea];rw[h p (.head _),JO fun q hq=>h q (.tail _ hq)]
def L8:List Nat->Bool
 |[]=>true
 |x::l=> !BF x l&&L8 l
theorem DV:∀{l:List Nat},L8 l=true->l.Nodup
 |[],_=>List.nodup_nil
 |x::l,h=>by
  simp only[L8,ba,Bool.not_eq_true']at h;exact List.nodup_cons.2 ⟨Bt h.1,DV h.2⟩
def frs(d:Nat)(s:St):Bool:=decide (d<up)&& !AV d s.E&& !BW d s.B
def xOk(ρ0 ρ1:List (Nat×Nat))(s:St)(args:List A)(r:A)(X' raw:Bx):Bool:=
 let l:=ρ0.map (·.2)
 let X:=l.map (Kq ρ0)
 let ρ:=rho (ρ0++ρ1)
 BT (fun n=>Nat.beq (ρ (Kq ρ0 n)) n) l&&L8 l&&
 JQ args l&&raw.all (fun p=>aKn p.2 l)&&
 (L8 (AK X')&&BT (fun n=>BT (fun m=> !Nat.beq (ρ n) (ρ m)||Nat.beq n m) (AK X')) (AK X'))&&
 BT (fun n=>BF n X||BF (ρ n) (ρ1.map (·.2))) (AK X')&&
 aJh r (AK X')&&X'.all (fun p=>aKn p.2 (AK X'))&&BT (fun n=>frs n s) (ρ1.map (·.2))
def aLk(ρ0 ρ1:List (Nat×Nat))(X':Bx)(a:Nat):Bk:=match X'.find? fun q=>Nat.beq (rho (ρ0++ρ1) q.1) a with
 |some q=>q.2.mapN (rho (ρ0++ρ1))
 |none=>.dead
def xEd(ρ0 ρ1:List (Nat×Nat))(X':Bx):List Ed:=ρ0.map (fun p=>.chg p.2 (aLk ρ0 ρ1 X' p.2))++
 (X'.filter fun q=> !BF (rho (ρ0++ρ1) q.1) (ρ0.map (·.2))).map fun p=>.add (rho (ρ0++ρ1) p.1) (p.2.mapN (rho (ρ0++ρ1)))
theorem MX{B:Bx}{n:Nat}{b:Bk}{p:Nat×Bk}:p∈BG B n b↔(p=(n,b)/\n∈AK B)\/(p∈B/\p.1≠n):=by simp only[BG,mm,AK];constructor;rintro⟨q,hq,rfl⟩;by_cases h:q.1=n;left;simp only[h,if_true,true_and];exact⟨q,hq,h⟩;right;simp only[h,if_false];exact⟨hq,h⟩;rintro(⟨rfl,q,hq,e⟩|⟨hp,hne⟩);exact⟨q,hq,by simp[e]⟩;exact⟨p,hp,by simp[hne]⟩
theorem JC(g:Nat->Bk):∀(l:List (Nat×Nat)) (B:Bx),AK ((l.map fun p=>Ed.chg p.2 (g p.2)).foldl Al B)=AK B
 |[],B=>rfl
 |p::l,B=>by
  simp only[List.map_cons,List.foldl_cons,Al];rw[JC g l,BD]
theorem QE(g:Nat->Bk):∀(l:List (Nat×Nat)) (B:Bx) (q:Nat×Bk),q∈(l.map fun p=>Ed.chg p.2 (g p.2)).foldl Al B↔(q∈B/\q.1∉l.map (·.2))\/(q.1∈AK B/\q.1∈l.map (·.2)/\q.2=g q.1)
 |[],B,q=>by simp
 |p::l,B,q=>by
  simp only[List.map_cons,List.foldl_cons,Al];rw[QE g l,MX,BD];simp only[mc,not_or];constructor;rintro(⟨⟨rfl,h1⟩|⟨h1,h2⟩,h3⟩|⟨h1,h2,h3⟩);exact .inr ⟨h1,.inl rfl,rfl⟩;exact .inl ⟨h1,h2,h3⟩;exact .inr ⟨h1,.inr h2,h3⟩;rintro(⟨h1,h2,h3⟩|⟨h1,h2,h3⟩);exact .inl ⟨.inr ⟨h1,h2⟩,h3⟩;by_cases h4:q.1∈l.map (·.2)
  exact .inr ⟨h1,h4,h3⟩;rcases h2 with h2|h2
  refine .inl ⟨.inl ⟨?_,h2▸h1⟩,h4⟩;obtain⟨a,b⟩:=q;simp only at h2 h3;rw[h2]at h3⊢;rw[h3];exact absurd h2 h4
theorem LP(ρ:Nat->Nat):∀(X:Bx) (B:Bx),((X.map fun p=>Ed.add (ρ p.1) (p.2.mapN ρ)).foldl Al B).Perm (X.map (DI ρ)++B)
 |[],B=>.refl _
 |p::X,B=>by
  simp only[List.map_cons,List.foldl_cons,Al,List.cons_append];refine(LP ρ X _).trans ?_;refine((Bp _ _ _).append_left _).trans ?_;exact List.perm_middle
def Fx(ρ0 ρ1:List (Nat×Nat))(X':Bx):Bx:=((ρ0.map (·.2)).filter fun a=> !X'.any fun q=>Nat.beq (rho (ρ0++ρ1) q.1) a).map fun a=>(a,.dead)
theorem aJ9{ρ0 ρ1:List (Nat×Nat)}{X':Bx}{s:St}(hB:(AK s.B).Nodup)(hl:(ρ0.map (·.2)).Nodup)(hin:∀a∈ρ0.map (·.2),a∈AK s.B)(hX:(AK (X'.map (DI (rho (ρ0++ρ1))))).Nodup)
 (hnew:∀q∈X',rho (ρ0++ρ1) q.1∈ρ0.map (·.2)\/rho (ρ0++ρ1) q.1∉AK s.B):
 (s.edit (xEd ρ0 ρ1 X')).B.Perm (X'.map (DI (rho (ρ0++ρ1)))++(Fx ρ0 ρ1 X'++MJ (ρ0.map (·.2)) s.B)):=by
 let ρ:=rho (ρ0++ρ1)
 let im:=ρ0.map (·.2)
 simp only[St.edit,xEd,List.foldl_append]
 refine(LP ρ _ _).trans ?_
 let N:=X'.filter fun q=> !BF (ρ q.1) im
 let C:=(ρ0.map fun p=>Ed.chg p.2 (aLk ρ0 ρ1 X' p.2)).foldl Al s.B
 have hCn:AK C=AK s.B:=JC (aLk ρ0 ρ1 X') ρ0 s.B
 have hNm:∀q∈N,q∈X'/\ρ q.1∉im:=fun q hq=>by obtain⟨h1,h2⟩:=List.mem_filter.1 hq;simp only[Bool.not_eq_true']at h2;exact⟨h1,Bt h2⟩
 have hnN:(AK (N.map (DI ρ))).Nodup:=hX.sublist ((List.filter_sublist.map _).map _)
 have hL:(N.map (DI ρ)++C).Nodup:=by
  refine B8 (·.1) ?_
  show(AK (N.map (DI ρ)++C)).Nodup;rw[AI,hCn];refine List.nodup_append.2 ⟨hnN,hB,fun x hx y hy e=>?_⟩;obtain⟨p,hp,rfl⟩:=mm.1 hx;obtain⟨q,hq,rfl⟩:=mm.1 hp;obtain⟨h1,h2⟩:=hNm q hq;rcases hnew q h1 with h|h
  exact h2 h;exact h (by rw[show rho (ρ0++ρ1) q.1=y from e];exact hy)
 have hD:∀p,p∈Fx ρ0 ρ1 X'↔p.1∈im/\(∀q∈X',ρ q.1≠p.1)/\p.2=.dead:=fun p=>by simp only[Fx,mm,List.mem_filter];constructor;rintro⟨a,⟨h1,h2⟩,rfl⟩;refine⟨mm.2 h1,fun q hq e=>?_,rfl⟩;simp only[Bool.not_eq_true',List.any_eq_false]at h2;exact h2 q hq (by rw[show rho (ρ0++ρ1) q.1=a from e];exact Nat.beq_refl a);rintro⟨h1,h2,h3⟩;refine⟨p.1,⟨mm.1 h1,?_⟩,by obtain⟨a,b⟩:=p;simp only at h3;rw[h3]⟩;simp only[Bool.not_eq_true',List.any_eq_false];intro q hq e;exact h2 q hq (Nat.eq_of_beq_eq_true e)
 have hDn:(AK (Fx ρ0 ρ1 X')).Nodup:=by simp only[AK,Fx,List.map_map];have:((fun p:Nat×Bk=>p.1) ∘ fun a=>(a,Bk.dead))=id:=rfl;rw[this,List.map_id];exact hl.filter _
 have hR:(X'.map (DI ρ)++(Fx ρ0 ρ1 X'++MJ im s.B)).Nodup:=by
  refine B8 (·.1) ?_
  show(AK (X'.map (DI ρ)++(Fx ρ0 ρ1 X'++MJ im s.B))).Nodup;rw[AI,AI];have hrs:∀x∈AK (MJ im s.B),x∈AK s.B/\x∉im:=fun x hx=>by obtain⟨p,hp,rfl⟩:=mm.1 hx;obtain⟨h1,h2⟩:=List.mem_filter.1 hp;simp only[Bool.not_eq_true']at h2;exact⟨mm.2 ⟨p,h1,rfl⟩,Bt h2⟩
  have hds:∀x∈AK (Fx ρ0 ρ1 X'),x∈im/\∀q∈X',ρ q.1≠x:=fun x hx=>by obtain⟨p,hp,rfl⟩:=mm.1 hx;obtain⟨h1,h2,_⟩:=(hD p).1 hp;exact⟨h1,h2⟩
  refine List.nodup_append.2 ⟨hX,List.nodup_append.2 ⟨hDn,hB.sublist (List.filter_sublist.map _),fun x hx y hy e=>?_⟩,fun x hx y hy e=>?_⟩;exact(hrs y hy).2 (e▸(hds x hx).1);obtain⟨p,hp,rfl⟩:=mm.1 hx;obtain⟨q,hq,rfl⟩:=mm.1 hp;rcases ma.1 hy with hy|hy
  exact(hds y hy).2 q hq e;obtain⟨c1,c2⟩:=hrs y hy;rcases hnew q hq with h|h
  exact c2 (e▸h);exact h (by rw[show rho (ρ0++ρ1) q.1=y from e];exact c1)
 refine(List.perm_ext_iff_of_nodup hL hR).2 fun p=>?_
 have hC:=QE (aLk ρ0 ρ1 X') ρ0 s.B p
 have hfind:∀q∈X',aLk ρ0 ρ1 X' (ρ q.1)=q.2.mapN ρ:=fun q hq=>by
  unfold aLk;cases hf:X'.find? (fun q'=>Nat.beq (rho (ρ0++ρ1) q'.1) (ρ q.1))with
  |none=>
   have:=List.find?_eq_none.1 hf q hq
   exact absurd (Nat.beq_refl _) this
  |some q'=>
   have h1:=List.mem_of_find?_eq_some hf
   have h2':Nat.beq (rho (ρ0++ρ1) q'.1) (ρ q.1)=true:=List.find?_some (p:=fun q':Nat×Bk=>Nat.beq (rho (ρ0++ρ1) q'.1) (ρ q.1)) hf
   have h2:=Nat.eq_of_beq_eq_true h2'
   have h3:DI ρ q'=DI ρ q:=by
    have h4:(DI ρ q').1=(DI ρ q).1:=h2;have e1:(DI ρ q')∈X'.map (DI ρ):=mm.2 ⟨q',h1,rfl⟩;have e2:(DI ρ q)∈X'.map (DI ρ):=mm.2 ⟨q,hq,rfl⟩;have h5:DI ρ q'=((DI ρ q).1,(DI ρ q').2):=by rw[<-h4]
    rw[h5]at e1;have e2':((DI ρ q).1,(DI ρ q).2)∈X'.map (DI ρ):=e2;rw[h5,BB hX e1 e2']
   exact congrArg (·.2) h3
 constructor
 intro hp
 rcases ma.1 hp with hp|hp
 obtain⟨q,hq,rfl⟩:=mm.1 hp
 exact ml_ _ (mm.2 ⟨q,(hNm q hq).1,rfl⟩)
 rcases hC.1 hp with⟨h1,h2⟩|⟨h1,h2,h3⟩
 refine mr_ _ (mr_ _ (List.mem_filter.2 ⟨h1,?_⟩))
 cases hm:BF p.1 im
 rfl
 exact absurd (At.1 hm) h2
 by_cases hq:∃q∈X',ρ q.1=p.1
 obtain⟨q,hq,e⟩:=hq
 refine ml_ _ (mm.2 ⟨q,hq,?_⟩)
 obtain⟨a,b⟩:=p
 simp only at e h3
 show(ρ q.1,q.2.mapN ρ)=(a,b)
 rw[h3,<-e,hfind q hq]
 refine mr_ _ (ml_ _ ((hD p).2 ⟨h2,fun q hq' e=>hq ⟨q,hq',e⟩,?_⟩))
 rw[h3]
 unfold aLk
 cases hf:X'.find? (fun q'=>Nat.beq (rho (ρ0++ρ1) q'.1) p.1)with
 |none=>rfl
 |some q'=>exact absurd ⟨q',List.mem_of_find?_eq_some hf,Nat.eq_of_beq_eq_true (List.find?_some (p:=fun q':Nat×Bk=>Nat.beq (rho (ρ0++ρ1) q'.1) p.1) hf)⟩ hq
 intro hp
 rcases ma.1 hp with hp|hp
 obtain⟨q,hq,rfl⟩:=mm.1 hp
 by_cases hm:ρ q.1∈im
 exact mr_ _ (hC.2 (.inr ⟨hin _ hm,hm,(hfind q hq).symm⟩))
 refine ml_ _ (mm.2 ⟨q,List.mem_filter.2 ⟨hq,?_⟩,rfl⟩)
 cases hmm:BF (ρ q.1) im
 rfl
 exact absurd (At.1 hmm) hm
 refine mr_ _ ?_
 rcases ma.1 hp with hp|hp
 obtain⟨h1,h2,h3⟩:=(hD p).1 hp
 refine hC.2 (.inr ⟨hin _ h1,h1,?_⟩)
 rw[h3]
 unfold aLk
 cases hf:X'.find? (fun q'=>Nat.beq (rho (ρ0++ρ1) q'.1) p.1)with
 |none=>rfl
 |some q'=>exact absurd (Nat.eq_of_beq_eq_true (List.find?_some (p:=fun q':Nat×Bk=>Nat.beq (rho (ρ0++ρ1) q'.1) p.1) hf)) (h2 q' (List.mem_of_find?_eq_some hf))
 obtain⟨h1,h2⟩:=List.mem_filter.1 hp
 simp only[Bool.not_eq_true']at h2
 exact hC.2 (.inl ⟨h1,Bt h2⟩)
theorem AM.dead{P:Program}{f:FuncId}{args:List A}{X X':Bx}{r:A}(hc:AM P f args X r X')(Dd:Bx)(hd:∀p∈Dd,p.2=.dead/\p.1∈AK X/\p.1∉AK X')(hn:(AK Dd).Nodup):AM P f args X r (X'++Dd):=by
 intro h w val vs hI hargs;refine(hc h w val vs hI hargs).mono fun e w' hh=>?_;obtain⟨h',val',u,rfl,hI',hru,hk,hv,hb⟩:=hh;have hbl:Aa val' (X'++Dd)=Aa val' X':=by
  rw[AJ];have:Aa val' Dd=[]:=by refine List.flatMap_eq_nil_iff.2 fun p hp=>?_;obtain⟨n,b⟩:=p;have:=(hd _ hp).1;simp only at this;subst this;rfl
  rw[this,List.append_nil]
 refine⟨h',val',u,rfl,⟨fun p hp=>?_,?_,?_,(by first|exact H.inv.glob.stays hk.stays|exact H.inv.glob|exact I.glob|exact I.glob.stays k.stays|exact H.inv.glob.stays k.stays|exact hI.glob|exact hInv.glob|exact hI0.glob|exact hIX.glob|exact H'.inv.glob|exact hI.glob.stays hk.stays|exact H1.inv.glob|exact hIR.glob|exact H.glob|exact hI.glob.stays k.stays|exact H.inv.glob.stays n.keep.stays|exact hI.glob.stays n.keep.stays|exact h.inv.glob|exact H2.inv.glob|exact hI'.glob)⟩,hru,hk,fun n hn=>hv n fun hx=>hn (by rw[AI];exact ml_ _ hx),by rw[hbl];exact hb⟩
 rcases ma.1 hp with hp|hp
 exact hI'.rep p hp;rw[(hd p hp).1];trivial;rw[AI];refine List.nodup_append.2 ⟨hI'.nms,hn,fun x hx y hy e=>?_⟩;obtain⟨p,hp,rfl⟩:=mm.1 hy;exact(hd p hp).2.2 (e▸hx);rw[hbl];exact hI'.bks
def I9(P:Program)(o:Oper)(s:St)(wt:W):Option (Ob×A×List Ed):=
 match o.op with
 | .call c=>match c.callee with
  | .value g=>match Cv (s.ev g),wt with
   |some (f,fs,cs),.cx bb ρ0 ρ1 r X'=>match Ea s.B ρ0 with
    |some raw=>
     if aN4 P f&&xOk ρ0 ρ1 s (fs++c.args.toList.map (fun x=>if bb=true then s.ev x else s.look (s.ev x))++cs) r X' raw then
      some (.call f (Cr (Kq ρ0) (fs++c.args.toList.map (fun x=>if bb=true then s.ev x else s.look (s.ev x))++cs)) (raw.map (DI (Kq ρ0))) r X',r.mapN (rho (ρ0++ρ1)),xEd ρ0 ρ1 X')else none
    |none=>none
   |_,_=>none
  |_=>none
 |_=>none
theorem aJt{l:List Nat}{B raw:Bx}(hB:(AK B).Nodup)(hl:l.Nodup)(hr:AK raw=l)(hm:∀p∈raw,p∈B):(aJp l B).Perm raw:=by
 have hBn:B.Nodup:=B8 _ hB;have hrn:raw.Nodup:=B8 (·.1) (by rw[<-hr]at hl;exact hl)
 refine(List.perm_ext_iff_of_nodup (hBn.filter _) hrn).2 fun p=>?_;constructor;intro hp;obtain⟨h1,h2⟩:=List.mem_filter.1 hp;have h3:=At.1 h2;rw[<-hr]at h3;obtain⟨q,hq,e⟩:=mm.1 h3;obtain⟨n,b⟩:=p;obtain⟨n',b'⟩:=q;simp only at e;subst e;rw[BB hB h1 (hm _ hq)];exact hq;intro hp;refine List.mem_filter.2 ⟨hm p hp,At.2 ?_⟩;rw[<-hr];exact mm.2 ⟨p,hp,rfl⟩
theorem HT{n:Nat}{B:Bx}(h:BW n B=false):n∉AK B:=fun hn=>by obtain⟨p,hp,e⟩:=mm.1 hn;exact(BP h p hp).1 e
theorem aKb{P:Program}{f:FuncId}{ρ0 ρ1:List (Nat×Nat)}{s:St}{args:List A}{r:A}{X' raw:Bx}(hok:xOk ρ0 ρ1 s args r X' raw=true)(hraw:Ea s.B ρ0=some raw)(hF:Far s.F)(hn:(AK s.all).Nodup)
 (hc:AM P f (Cr (Kq ρ0) args) (raw.map (DI (Kq ρ0))) r X'):
 AM P f args (s.B++s.F) (r.mapN (rho (ρ0++ρ1))) ((s.edit (xEd ρ0 ρ1 X')).B++s.F)/\∀p∈(s.edit (xEd ρ0 ρ1 X')).B,p.1∈AK s.B\/(p.1<up/\AV p.1 s.E=false):=by
 simp only[xOk,ba]at hok
 obtain⟨⟨⟨⟨⟨⟨⟨⟨k1,k2⟩,k3⟩,k4⟩,k5⟩,k6⟩,k7⟩,k8⟩,k9⟩:=hok
 let im:=ρ0.map (·.2)
 let ρ:=rho (ρ0++ρ1)
 have hrn:AK raw=im:=Hp hraw
 have hnB:(AK s.B).Nodup:=by have:=hn;unfold St.all at this;rw[AI]at this;exact(List.nodup_append.1 this).1
 have hround:∀n∈im,(fun n=>ρ (Kq ρ0 n)) n=n:=fun n hn=>by simpa using A7 k1 n hn
 have hpick:∀p∈raw,p.1∈im/\aKn p.2 im=true:=fun p hp=>⟨by rw[<-hrn];exact mm.2 ⟨p,hp,rfl⟩,(List.all_eq_true.1 k4) p hp⟩
 have hargs:Cr ρ (Cr (Kq ρ0) args)=args:=by rw[B6];exact aBq k3 hround
 have hXmap:(raw.map (DI (Kq ρ0))).map (DI ρ)=raw:=by
  rw[List.map_map];have:(DI ρ ∘ DI (Kq ρ0))=DI (fun n=>ρ (Kq ρ0 n)):=by funext p;show(ρ (Kq ρ0 p.1),(p.2.mapN (Kq ρ0)).mapN ρ)=(ρ (Kq ρ0 p.1),p.2.mapN fun n=>ρ (Kq ρ0 n));rw[Bk.mapN_mapN]
  rw[this];exact aBc hround hpick
 have hnX:∀n,n∈AK (raw.map (DI (Kq ρ0)))↔n∈im.map (Kq ρ0):=fun n=>by rw[CO,hrn]
 have hinB:∀m∈im,m∈AK s.B:=fun m hm=>by rw[<-hrn]at hm;obtain⟨p,hp,e⟩:=mm.1 hm;exact mm.2 ⟨p,Ho hraw p hp,e⟩
 have hX:∀n∈im.map (Kq ρ0),ρ n∈im:=fun n hn=>by obtain⟨m,hm,rfl⟩:=mm.1 hn;have:=hround m hm;simp only at this;rw[this];exact hm
 have h4:∀n∈AK X',∀m∈AK X',ρ n=ρ m->n=m:=fun n hn m hm e=>by
  have:=A7 (A7 k5.2 n hn) m hm;simp only[Bool.or_eq_true,Bool.not_eq_true',Nat.beq_eq]at this;rcases this with h|h
  rw[show rho (ρ0++ρ1) n=rho (ρ0++ρ1) m from e]at h;rw[Nat.beq_refl]at h;cases h;exact h
 have h6:∀n∈AK X',n∈im.map (Kq ρ0)\/(ρ n<up/\AV (ρ n) s.E=false/\BW (ρ n) s.B=false):=fun n hn=>by
  have:=A7 k6 n hn;simp only[Bool.or_eq_true]at this;rcases this with h|h
  exact .inl (At.1 h);right;have h9:=A7 k9 _ (At.1 h);simp only[frs,ba,decide_eq_true_eq,Bool.not_eq_true']at h9;exact⟨h9.1.1,h9.1.2,h9.2⟩
 have hrest:∀p∈MJ im s.B,p∈s.B/\p.1∉im:=fun p hp=>by obtain⟨h1,h2⟩:=List.mem_filter.1 hp;simp only[Bool.not_eq_true']at h2;exact⟨h1,Bt h2⟩
 have hfr:=hc.frame ρ (fun n h=>aTh h) (MJ im s.B++s.F) h4
  (fun n hn hne m hm e=>by
   rcases h6 n hn with h|⟨_,_,h⟩
   exact hne ((hnX n).2 h);exact HT h (by rw[e];exact hinB _ (hX m ((hnX m).1 hm))))
  (fun n hn'=>by
   rw[AI,ma];rcases h6 n hn' with h|⟨h1,h2,h3⟩
   have hin:=hX n h;rintro(hh|hh);obtain⟨p,hp,e⟩:=mm.1 hh;exact(hrest p hp).2 (e▸hin);have:=hn;unfold St.all at this;rw[AI]at this;exact(List.nodup_append.1 this).2.2 _ (hinB _ hin) _ hh rfl;rintro(hh|hh);obtain⟨p,hp,e⟩:=mm.1 hh;exact(BP h3 p (hrest p hp).1).1 e;obtain⟨p,hp,e⟩:=mm.1 hh;exact(hF _ (.inl h1) p hp).1 e)
  (fun n hn hne p hp=>by
   rcases h6 n hn with h|⟨h1,h2,h3⟩
   exact absurd ((hnX n).2 h) hne;rcases ma.1 hp with hp|hp
   exact(BP h3 p (hrest p hp).1).2;exact(hF _ (.inl h1) p hp).2)
  (fun n hn=>RG k7 n hn) (fun p hp n hn=>ZP ((List.all_eq_true.1 k8) p hp) n hn)
 rw[hargs,hXmap]at hfr
 have hXn:(AK (X'.map (DI ρ))).Nodup:=by rw[CO];exact DW h4 (DV k5.1)
 have hnew:∀q∈X',ρ q.1∈im\/ρ q.1∉AK s.B:=fun q hq=>by
  rcases h6 q.1 (mm.2 ⟨q,hq,rfl⟩)with h|⟨_,_,h⟩
  exact .inl (hX _ h);exact .inr (HT h)
 have hperm:=aJ9 hnB (DV k2) hinB hXn hnew
 have hfr2:=hfr.dead (Fx ρ0 ρ1 X') (fun p hp=>by
  simp only[Fx,mm,List.mem_filter]at hp;obtain⟨a,⟨h1,h2⟩,rfl⟩:=hp;have ha:a∈im:=mm.2 h1;refine⟨rfl,?_,fun hh=>?_⟩;rw[AI];exact ml_ _ (by rw[hrn];exact ha);rw[AI,AI]at hh;rcases ma.1 hh with hh|hh
  rw[CO]at hh;obtain⟨n,hn',e⟩:=mm.1 hh;obtain⟨q,hq,rfl⟩:=mm.1 hn';simp only[Bool.not_eq_true',List.any_eq_false]at h2;exact h2 q hq (by rw[show rho (ρ0++ρ1) q.1=a from e];exact Nat.beq_refl a);rcases ma.1 hh with hh|hh
  obtain⟨p,hp,e⟩:=mm.1 hh;exact(hrest p hp).2 (e▸ha);have:=hn;unfold St.all at this;rw[AI]at this;exact(List.nodup_append.1 this).2.2 _ (hinB _ ha) _ hh rfl) (by
  simp only[AK,Fx,List.map_map];have:((fun p:Nat×Bk=>p.1) ∘ fun a=>(a,Bk.dead))=id:=rfl;rw[this,List.map_id];exact(DV k2).filter _)
 refine⟨hfr2.perm ?_ ?_,fun p hp=>?_⟩
 rw[<-List.append_assoc]
 exact((MB im s.B).trans ((aJt hnB (DV k2) hrn (Ho hraw)).append_right _)).append_right _
 refine List.Perm.trans ?_ (hperm.symm.append_right s.F)
 simp only[List.append_assoc]
 refine List.Perm.append_left _ ?_
 rw[<-List.append_assoc]
 exact List.perm_append_comm
 rcases ma.1 (hperm.mem_iff.1 hp)with hp|hp
 obtain⟨q,hq,rfl⟩:=mm.1 hp
 have hqn:q.1∈AK X':=mm.2 ⟨q,hq,rfl⟩
 rcases h6 q.1 hqn with h|⟨h1,h2,h3⟩
 exact .inl (hinB _ (hX _ h))
 exact .inr ⟨h1,h2⟩
 rcases ma.1 hp with hp|hp
 simp only[Fx,mm,List.mem_filter]at hp
 obtain⟨a,⟨h1,h2⟩,rfl⟩:=hp
 exact .inl (hinB _ (mm.2 h1))
 exact .inl (mm.2 ⟨p,(hrest p hp).1,rfl⟩)
theorem YW{P:Program}{o:Oper}{s:St}{wt:W}{L:Lp}{Φ:Ob}{r:A}{es:List Ed}(he:I9 P o s wt=some (Φ,r,es)):EM P o s (Φ.ok P L) r (s.edit es):=by
 intro hΦ h w val a H K Q hK;unfold I9 at he;split at he;rename_i c ho;obtain⟨callee,args,argTypes⟩:=c;simp only at he;split at he;rename_i g;split at he;rename_i f fs cs bb ρ0 ρ1 r' X' hg;split at he;rename_i raw hraw;obtain⟨ff,hff⟩:∃ff:Operand->A,ff=fun x=>if bb=true then s.ev x else s.look (s.ev x):=⟨_,rfl⟩
 rw[<-hff]at he;split at he;rename_i hb;simp only[ba]at hb;obtain⟨hf,hok⟩:=hb;simp only[oe,pe]at he;obtain⟨rfl,rfl,rfl⟩:=he;subst hff;simp only[Ob.ok]at hΦ;obtain⟨hc,hfree⟩:=aKb hok hraw H.far H.inv.nms hΦ;have heo:LN P o s (.own bb (r'.mapN (rho (ρ0++ρ1))) (s.edit (xEd ρ0 ρ1 X')).B s.F)=
  some (.both (.call f (fs++args.toList.map (fun x=>if bb=true then s.ev x else s.look (s.ev x))++cs) (s.B++s.F) (r'.mapN (rho (ρ0++ρ1))) ((s.edit (xEd ρ0 ρ1 X')).B++s.F)) (.frame s.F s.F),r'.mapN (rho (ρ0++ρ1)),
   {s with B:=(s.edit (xEd ρ0 ρ1 X')).B,F:=s.F}):=by
  unfold LN
  rw[ho]
  simp only[hg]
  rw[if_pos]
  simp only[ba]
  refine⟨hf,List.all_eq_true.2 fun p hp=>?_⟩
  simp only[Bool.or_eq_true,ba,decide_eq_true_eq,Bool.not_eq_true',List.contains_iff_mem]
  exact hfree p hp
 refine LO (L:=L) heo ?_ h w val a H K Q hK;simp only[Ob.ok];exact⟨by simpa using hc,by simp⟩;cases he;cases he;cases he;cases he;cases he
end Go.Ac
namespace Go.Ac
mutual
def D.scal:D->Bool
 | .v _=>true
 | .agg cs=>aJx cs
 | .sl _=>false
 | .ptr _=>false
def aJx:List D->Bool
 |[]=>true
 |x::l=>x.scal&&aJx l
end
mutual
theorem RD.scal{h w h' w'}:∀(x:D) (u:Value),x.scal=true->RD h w x u->RD h' w' x u
 | .v x,u,_,hr=>by simpa only[RD]using hr
 | .agg cs,u,hs,hr=>by
  simp only[D.scal]at hs;simp only[RD]at hr⊢;obtain⟨us,e,hr⟩:=hr;exact⟨us,e,RDs.scal cs us hs hr⟩
 | .sl xs,u,hs,hr=>by simp[D.scal]at hs
 | .ptr xs,u,hs,hr=>by simp[D.scal]at hs
theorem RDs.scal{h w h' w'}:∀(cs:List D) (us:List Value),aJx cs=true->RDs h w cs us->RDs h' w' cs us
 |[],us,_,hr=>by simpa only[RDs]using hr
 |c::cs,us,hs,hr=>by
  simp only[aJx,ba]at hs;simp only[RDs]at hr⊢;obtain⟨u,us',e,h1,h1',h2⟩:=hr;exact⟨u,us',e,RD.scal c u hs.1 h1,h1',RDs.scal cs us' hs.2 h2⟩
end
def RQ:List A->Bool
 |[]=>true
 | .d x::l=>x.scal&&RQ l
 |_::_=>false
def A.scal:A->Bool
 | .d x=>x.scal
 | .tup vs=>RQ vs
 | .any=>true
 |_=>false
theorem RAs.scal{h w h' w'}{val val':Val}:∀(as':List A) (us:List Value),RQ as'=true->RAs h w val as' us->RAs h' w' val' as' us
 |[],us,_,hr=>by simpa only[RAs]using hr
 | .d x::l,us,hs,hr=>by
  simp only[RQ,ba]at hs;simp only[RAs,RA]at hr⊢;obtain⟨u,us',e,h1,h2⟩:=hr;exact⟨u,us',e,RD.scal x u hs.1 h1,RAs.scal l us' hs.2 h2⟩
theorem RA.scal{h w h' w'}{val val':Val}{a:A}{u:Value}(hs:a.scal=true)(hr:RA h w val a u):RA h' w' val' a u:=by
 cases a with
 |d x=>simp only[RA]at hr⊢;exact RD.scal x u hs hr
 |tup vs=>
  simp only[RA]at hr⊢
  obtain⟨us,e,h1⟩:=hr
  exact⟨us,e,RAs.scal vs us hs h1⟩
 |any=>simp[RA]
 |_=>simp[A.scal]at hs

theorem ZV{w:World}{g j:Nat}{v:Value}(h:w.cell? ⟨g,j,none⟩=some v):∃c t f,w.heap[g]? =some (.cells c t f)/\j<c.size:=by unfold World.cell? at h;split at h;rename_i c t f hg;simp only[Option.isSome_none,Bool.false_eq_true,if_false]at h;exact⟨c,t,f,hg,(Array.getElem?_eq_some_iff.1 h).1⟩;cases h
def Np(w:World)(b:Nat):Nat:=match w.heap[b]? with
 |some (.cells c _ _)=>c.size
 |_=>0
theorem LT{w:World}{g j:Nat}{v:Value}(h:w.cell? ⟨g,j,none⟩=some v):j<Np w g:=by obtain⟨c,t,f,hg,hj⟩:=ZV h;unfold Np;rw[hg];exact hj
theorem RJ{h:Hw}{w:World}{e:TypeId}{k:Nat}{v:Value}{xs:List D}{us:List Value}(hown:w.ownsRow 0 e k v xs.length us)(hrow:Ah h w k xs us)
 (hh:∀g,v.ownBlock=some g->∀j x,w.cell? ⟨g,j,none⟩=some x->j<h g):RD h w (.sl xs) v:=by
 simp only[RD]
 rcases hown.2 with⟨hv,hn⟩|⟨g,cap,cur,hv,_,hg,hnc,hcm,hcs,htake⟩
 have hx:xs=[]:=List.eq_nil_of_length_eq_zero hn
 subst hx
 rw[hv]
 exact⟨none,0,k,us,by simp,by simp,by simp[maxLen],hrow,by simp⟩
 refine⟨some ⟨g,0,none⟩,cap,k,us,hv,hnc,hcm,hrow,fun h0=>⟨_,rfl,fun j x hj=>?_⟩⟩
 have hb:v.ownBlock=some g:=by rw[hv];rfl
 have hc:=hown.cells hb j x hj
 refine⟨hc,?_⟩
 rw[Addr.add_lit]at hc
 exact hh g hb _ x hc
theorem RB.buf_rw{h:Hw}{w:World}{val:Val}{n:Nat}{e:TypeId}{k:Nat}{xs:List D}(hr:RB h w val n (.buf true e k xs)):RB h w val n (.rw e k xs):=by obtain⟨g,us,hv,hm,hg,hrow,h0⟩:=hr;simp only[if_true]at hv;have hlen:=Ah.length hrow;refine⟨us,⟨hlen,.inr ⟨g,xs.length,⟨us⟩,hv,Nat.zero_le _,hg,Nat.le_refl _,hm,by simpa using hlen,?_⟩⟩,hrow,fun g' hg'=>?_⟩;rw[<-hlen];simp;simp only[hv,Value.ownBlock,oe]at hg';subst hg';exact h0

def EG(s:St)(ns:List Nat)(n:Nat):Option D:=
 if BF n ns then match lk s.B n with
  |some (.rw _ _ xs)=>some (.sl xs)
  |some (.buf true _ _ xs)=>some (.sl xs)
  |_=>none
 else none
def C5(s:St)(ns:List Nat)(bx:Nat->Option D):List A->Option (List D)
 |[]=>some []
 | .d x::l=>(C5 s ns bx l).map fun ds=>x::ds
 | .nil::l=>(C5 s ns bx l).map fun ds=>.sl []::ds
 | .row n::l=>match EG s ns n with
  |some x=>(C5 s ns bx l).map fun ds=>x::ds
  |none=>match s.look (.row n)with
   | .d x=>(C5 s ns bx l).map fun ds=>x::ds
   |_=>none
 | .clo f [] []::l=>(C5 s ns bx l).map fun ds=>.v (.func f #[] #[])::ds
 | .box n off::l=>if Nat.beq off 0 then match bx n with
  |some x=>(C5 s ns bx l).map fun ds=>x::ds
  |none=>none
  else none
 | .eptr cs::l=>(C5 s ns bx l).map fun ds=>.ptr cs::ds
 |_::_=>none
def Ke(s:St)(ns:List Nat):Nat->Nat->Option (List D)
 |0,_=>none
 |k+1,n=>if BF n ns then match lk s.B n with
  |some (.cells cs)=>C5 s ns (fun m=>(Ke s ns k m).map .ptr) cs
  |_=>none
  else none
mutual
def CC(s:St)(ns:List Nat):A->A
 | .row n=>match EG s ns n with
  |some x=>.d x
  |none=>.row n
 | .box n off=>if Nat.beq off 0 then match Ke s ns 4 n with
  |some ds=>.eptr ds
  |_=>.box n off
  else .box n off
 | .clo f a b=>.clo f (DD s ns a) (DD s ns b)
 |x=>x
def DD(s:St)(ns:List Nat):List A->List A
 |[]=> []
 |a::l=>CC s ns a::DD s ns l
end
def I7(P:Program)(o:Oper)(s:St)(wt:W):Option (Ob×A):=
 match o.op with
 | .call c=>match c.callee with
  | .value g=>match Cv (s.ev g),wt with
   |some (f,fs,cs),.lend ns r=>
    if aN4 P f&&IP (DD s ns (fs++c.args.toList.map (fun x=>s.look (s.ev x))++cs))&&r.scal then
     some (.call f (DD s ns (fs++c.args.toList.map (fun x=>s.look (s.ev x))++cs)) [] r [],r)else none
   |_,_=>none
  |_=>none
 |_=>none

def Hn(val:Val)(s:St)(ns:List Nat):List Nat:=Aa val (aJp ns s.B)
def DM(h:Hw)(w:World)(L:List Nat):Hw:=fun b=>if BF b L then max (h b) (Np w b)else h b
theorem Kg(h:Hw)(w:World)(L:List Nat)(b:Nat):h b<=DM h w L b:=by unfold DM;split;exact Nat.le_max_left _ _;exact Nat.le_refl _
theorem Ax(h:Hw)(w:World)(L:List Nat):Do h w (DM h w L) w:=⟨fun _ _ _ _ hc=>hc,fun b _=>Kg h w L b⟩
theorem Kf{h:Hw}{w:World}{L:List Nat}{b:Nat}(hb:b∈L){j:Nat}{x:Value}(hc:w.cell? ⟨b,j,none⟩=some x):j<DM h w L b:=by unfold DM;rw[if_pos (At.2 hb)];exact Nat.lt_of_lt_of_le (LT hc) (Nat.le_max_right _ _)
theorem aA7{val:Val}{s:St}{ns:List Nat}{n:Nat}{bk:Bk}{g:Nat}(hn:BF n ns=true)(hl:lk s.B n=some bk)(ho:bk.isOld=false)(hv:vblk (val n)=some g):g∈Hn val s ns:=
 Inv.blk_mem (p:=(n,bk)) (List.mem_filter.2 ⟨Ag hl,hn⟩) (Ar hv ho)
section
variable {s:St} {h:Hw} {w:World} {val:Val} {ns:List Nat}
theorem JN(I:Inv h w val s.all){n:Nat}{x:D}(he:EG s ns n=some x):RD (DM h w (Hn val s ns)) w x (val n):=by
 have key:∀e k xs,(∃bk,lk s.B n=some bk/\bk.isOld=false)->BF n ns=true->RB h w val n (.rw e k xs)->RD (DM h w (Hn val s ns)) w (.sl xs) (val n):=by intro e k xs ⟨bk,hl,ho⟩ hn hr;obtain⟨us,hown,hrow,_⟩:=hr;exact RJ hown (Ah.stays (Ax h w _) _ _ _ hrow) fun g hg j x hc=>Kf (aA7 hn hl ho (B4 hg)) hc
 unfold EG at he;split at he;rename_i hn;split at he;rename_i e k xs hl;simp only[oe]at he;subst he;exact key e k xs ⟨_,hl,rfl⟩ hn (I.rep _ (ml_ _ (Ag hl)));rename_i e k xs hl;simp only[oe]at he;subst he;exact key e k xs ⟨_,hl,rfl⟩ hn (RB.buf_rw (I.rep _ (ml_ _ (Ag hl))));cases he;cases he
theorem QX{a:Act}(H:Holds s h w val a){bx:Nat->Option D}(hbx:∀m x,bx m=some x->RD (DM h w (Hn val s ns)) w x (val m)):∀(cs:List A) (ds:List D) (us:List Value),C5 s ns bx cs=some ds->RAs h w val cs us->(∀u∈us,u.oneCell'=true)->RDs (DM h w (Hn val s ns)) w ds us
 |[],ds,us,he,hr,_=>by
  simp only[C5,oe]at he;subst he;simpa only[RAs,RDs]using hr
 |c::cs,ds,us,he,hr,h1=>by
  simp only[RAs]at hr;obtain⟨u,us',rfl,hc,hcs⟩:=hr;have hu1:=h1 u (.head _);have ih:=fun ds he=>QX H hbx cs ds us' he hcs fun v hv=>h1 v (.tail _ hv);have st:=Ax h w (Hn val s ns);unfold C5 at he;split at he;rename_i e;cases e;rename_i x l e;obtain⟨rfl,rfl⟩:=List.cons.inj e;simp only[om]at he;obtain⟨ds',h2,rfl⟩:=he;simp only[RA]at hc;simp only[RDs];exact⟨u,us',rfl,RD.stays st _ _ hc,hu1,ih _ h2⟩;rename_i l e;obtain⟨rfl,rfl⟩:=List.cons.inj e;simp only[om]at he;obtain⟨ds',h2,rfl⟩:=he;simp only[RA]at hc;subst hc;simp only[RDs];exact⟨_,us',rfl,Id _ _,hu1,ih _ h2⟩;rename_i n l e;obtain⟨rfl,rfl⟩:=List.cons.inj e;split at he;rename_i x hx;simp only[om]at he;obtain⟨ds',h2,rfl⟩:=he;simp only[RA]at hc;simp only[RDs];refine⟨u,us',rfl,?_,hu1,ih _ h2⟩;rw[hc.1];exact JN H.inv hx;split at he;rename_i x hx;simp only[om]at he;obtain⟨ds',h2,rfl⟩:=he;have:=H.look hc;rw[hx]at this;simp only[RA]at this;simp only[RDs];exact⟨u,us',rfl,RD.stays st _ _ this,hu1,ih _ h2⟩;cases he;rename_i f l e;obtain⟨rfl,rfl⟩:=List.cons.inj e;simp only[om]at he;obtain⟨ds',h2,rfl⟩:=he;simp only[RA,RAs]at hc;obtain⟨fs,cs2,e2,e3,e4⟩:=hc;subst e3;subst e4;simp only[RDs,RD];exact⟨u,us',rfl,⟨e2,by rw[<-e2];exact hu1⟩,hu1,ih _ h2⟩;rename_i n off l e;obtain⟨rfl,rfl⟩:=List.cons.inj e;split at he;rename_i hoff;simp only[Nat.beq_eq]at hoff;subst hoff;split at he;rename_i x hx;simp only[om]at he;obtain⟨ds',h2,rfl⟩:=he;simp only[RA]at hc;obtain⟨b,e1,e2⟩:=hc;simp only[RDs];refine⟨u,us',rfl,?_,hu1,ih _ h2⟩;rw[e2,<-e1];exact hbx _ _ hx;cases he;cases he;rename_i cs0 l e;obtain⟨rfl,rfl⟩:=List.cons.inj e;simp only[om]at he;obtain⟨ds',h2,rfl⟩:=he;simp only[RDs];refine⟨u,us',rfl,RD.stays st _ _ ?_,hu1,ih _ h2⟩;simpa only[RA,RD]using hc;cases he
theorem QW{a:Act}(H:Holds s h w val a):∀(k n:Nat) (ds:List D),Ke s ns k n=some ds->∃b us,val n=.pointer (some ⟨b,0,none⟩)/\RDs (DM h w (Hn val s ns)) w ds us/\
 ∀j v,us[j]? =some v->w.cell? ((⟨b,0,none⟩:Addr).add j)=some v/\(⟨b,0,none⟩:Addr).off+j<DM h w (Hn val s ns) b
 |0,n,ds,he=>by simp[Ke]at he
 |k+1,n,ds,he=>by
  simp only[Ke]at he;split at he;rename_i hn;split at he;rename_i cs hl;obtain⟨g,us,t,e,hg,hcs,h1,h0⟩:=H.inv.rep (n,.cells cs) (ml_ _ (Ag hl));refine⟨g,us,e,QX H (bx:=fun m=>(Ke s ns k m).map .ptr) (fun m x hx=>?_) cs ds us he hcs h1,fun j v hj=>?_⟩;simp only[om]at hx;obtain⟨ds',hd,rfl⟩:=hx;obtain⟨b,us',e1,e2,e3⟩:=QW H k m ds' hd;simp only[RD];exact⟨_,us',e1,e2,e3⟩;have hc:w.cell? ((⟨g,0,none⟩:Addr).add j)=some v:=by rw[Addr.add_lit,Nat.zero_add,cell_of_row w g j ⟨us⟩ t (0,0) hg];simpa using hj
  refine⟨hc,?_⟩;rw[Addr.add_lit]at hc;exact Kf (aA7 hn hl rfl (by rw[e];rfl)) hc;cases he;cases he
mutual
theorem aJe{a:Act}(H:Holds s h w val a):∀(x:A) (u:Value),RA h w val x u->RA (DM h w (Hn val s ns)) w val (CC s ns x) u
 | .row n,u,hr=>by
  unfold CC;split;rename_i x hx;simp only[RA]at hr⊢;rw[hr.1];exact JN H.inv hx;exact RA.stays (Ax h w _) _ _ _ hr
 | .box n off,u,hr=>by
  unfold CC;split;rename_i hoff;simp only[Nat.beq_eq]at hoff;subst hoff;split;rename_i ds hd;obtain⟨b,us,e1,e2,e3⟩:=QW H _ n ds hd;simp only[RA]at hr⊢;obtain⟨b',e4,e5⟩:=hr;rw[e1]at e4;cases e4;exact⟨_,us,e5,e2,e3⟩;exact RA.stays (Ax h w _) _ _ _ hr;exact RA.stays (Ax h w _) _ _ _ hr
 | .clo f fs cs,u,hr=>by
  simp only[CC,RA]at hr⊢;obtain⟨x,y,e,h1,h2⟩:=hr;exact⟨x,y,e,EZ H fs x h1,EZ H cs y h2⟩
 | .d x,u,hr=>by simpa only[CC]using RA.stays (Ax h w _) _ _ _ hr
 | .bsl n o l,u,hr=>by simpa only[CC]using RA.stays (Ax h w _) _ _ _ hr
 | .ep n k i o,u,hr=>by simpa only[CC]using RA.stays (Ax h w _) _ _ _ hr
 | .ub,u,hr=>by simpa only[CC]using RA.stays (Ax h w _) _ _ _ hr
 | .eptr cs,u,hr=>by simpa only[CC]using RA.stays (Ax h w _) _ _ _ hr
 | .agg cs,u,hr=>by simpa only[CC]using RA.stays (Ax h w _) _ _ _ hr
 | .tup cs,u,hr=>by simpa only[CC]using RA.stays (Ax h w _) _ _ _ hr
 | .opq x,u,hr=>by simpa only[CC]using RA.stays (Ax h w _) _ _ _ hr
 | .nil,u,hr=>by simpa only[CC]using RA.stays (Ax h w _) _ _ _ hr
 | .any,u,hr=>by simpa only[CC]using RA.stays (Ax h w _) _ _ _ hr
theorem EZ{a:Act}(H:Holds s h w val a):∀(xs:List A) (us:List Value),RAs h w val xs us->RAs (DM h w (Hn val s ns)) w val (DD s ns xs) us
 |[],us,hr=>by simpa only[DD,RAs]using hr
 |x::xs,us,hr=>by
  simp only[DD,RAs]at hr⊢;obtain⟨u,us',e,h1,h2⟩:=hr;exact⟨u,us',e,aJe H x u h1,EZ H xs us' h2⟩
end
end
theorem YU{P:Program}{o:Oper}{s:St}{wt:W}{L:Lp}{Φ:Ob}{r:A}(he:I7 P o s wt=some (Φ,r)):EM P o s (Φ.ok P L) r s:=by
 intro hΦ h w val a H K Q hK;unfold I7 at he;split at he;rename_i c ho;obtain⟨callee,args,argTypes⟩:=c;simp only at he;split at he;rename_i g;split at he;rename_i f fs cs ns r' hg;obtain⟨us,vs,e1,hfs,hcs⟩:=EC hg (H.ev g);split at he;rename_i hb;simp only[ba]at hb;simp only[oe,pe]at he;obtain⟨rfl,rfl⟩:=he;simp only[Ob.ok]at hΦ;unfold Oper.wp;rw[Kr ho e1 hb.1.1,Oper.upon_enter];have hargs:RAs h w val (fs++args.toList.map (fun x=>s.look (s.ev x))++cs) (us++args.toList.map a.eval++vs):=
  (hfs.append (D0 (f:=fun x=>s.look (s.ev x)) (fun x=>H.look (H.ev x)) _)).append hcs
 have hargs2:=EZ (ns:=ns) H _ _ hargs;let L0:=Hn val s ns;refine(hΦ (DM h w L0) w val _ (Inv.nil (H.inv.glob.stays (Ax h w L0)) val) hargs2).mono fun e w' hh=>?_;obtain⟨h',val',u,rfl,_,hr,hk,_,_⟩:=hh;let h2:Hw:=fun b=>if b<w.heap.size then h b else h' b
 have hk0:BI [] h w h2 w':=by refine⟨hk.os,hk.tape,hk.output,hk.size,fun b i v hi hc=>hk.cells b i v (Nat.lt_of_lt_of_le hi (Kg _ _ _ _)) hc,fun b hb=>?_,fun b hb _=>⟨(hk.far b hb (by simp[Aa])).1,?_⟩⟩;simp only[h2,hb,if_true];exact Nat.le_refl _;simp only[h2,hb,if_true]
 exact hK h2 w' val u (RA.scal hb.2 hr) (H.quiet hk0) ⟨hk0.mono' (fun x hx=>by cases hx),fun _ _=>rfl,fun b hb=>.inl hb⟩;cases he;cases he;cases he;cases he
theorem aB9{s:St}{h:Hw}{w:World}{val:Val}{a:Act}(H:Holds s h w val a){n:Nat}{e:TypeId}{k:Nat}{xs:List D}(hl:lk s.B n=some (.rw e k xs)):
 ∃h',Holds {s with B:=BG s.B n (.row e k xs)} h' w val a/\Nx s h w val {s with B:=BG s.B n (.row e k xs)} h' w val:=by
 have hmem:(n,Bk.rw e k xs)∈s.all:=ml_ _ (Ag hl)
 obtain⟨us,hown,hrow,h0⟩:=H.inv.rep _ hmem
 simp only at hown h0
 let h':Hw:=fun b=>if(val n).ownBlock=some b then xs.length*k else h b
 have hgM:∀g,(val n).ownBlock=some g->g∈Aa val s.all:=fun g hg=>Inv.blk_mem hmem (Ar (B4 hg) rfl)
 have hk:BI (Aa val s.all) h w h' w:=by
  refine⟨rfl,rfl,rfl,Nat.le_refl _,fun _ _ _ _ hc=>hc,fun b _=>?_,fun b _ hn=>⟨rfl,?_⟩⟩;show h b<=if(val n).ownBlock=some b then _ else h b
  split;rename_i e;rw[h0 b e];exact Nat.zero_le _;exact Nat.le_refl _;show(if(val n).ownBlock=some b then _ else h b)=h b
  rw[if_neg fun e=>hn (hgM b e)]
 have hsame:∀b',(n,b')∈s.B->b'.kd=(Bk.row e k xs).kd:=fun b' hb'=>by have:=BB H.inv.nms (ml_ _ hb') hmem;rw[this];rfl
 have hother:∀p∈s.all,p.1≠n->∀b,b∈CW val p->h' b=h b:=fun p hp hne b hb=>by
  show(if(val n).ownBlock=some b then _ else h b)=h b
  refine if_neg fun e=>?_;have:=Bg H.inv.bks hp hmem hb (Ar (B4 e) rfl);rw[this]at hne;exact hne rfl
 refine⟨h',⟨RAs.stays hk.stays _ _ _ H.e,⟨?_,?_,?_,(by first|exact H.inv.glob.stays hk.stays|exact H.inv.glob|exact I.glob|exact I.glob.stays k.stays|exact H.inv.glob.stays k.stays|exact hI.glob|exact hInv.glob|exact hI0.glob|exact hIX.glob|exact H'.inv.glob|exact hI.glob.stays hk.stays|exact H1.inv.glob|exact hIR.glob|exact H.glob|exact hI.glob.stays k.stays|exact H.inv.glob.stays n.keep.stays|exact hI.glob.stays n.keep.stays|exact h.inv.glob|exact H2.inv.glob|exact hI'.glob)⟩,H.far,H.defs⟩,⟨hk,fun _ _=>rfl,fun b hb=>.inl ?_⟩⟩
 intro p hp
 rcases ma.1 hp with hp|hp
 rcases BY hp with rfl|⟨hp,hne⟩
 exact⟨us,hown,Ah.stays hk.stays _ _ _ hrow,fun g hg=>if_pos hg⟩
 exact RB.stays hk.stays (fun b hb=>⟨rfl,hother p (ml_ _ hp) hne b hb⟩) (H.inv.rep p (ml_ _ hp))
 refine RB.stays hk.stays (fun b hb=>⟨rfl,hother p (mr_ _ hp) (fun e4=>?_) b hb⟩) (H.inv.rep p (mr_ _ hp))
 have hnd:=H.inv.nms
 simp only[St.all,AI]at hnd
 have m1:n∈AK s.B:=by simp only[AK,mm];exact⟨_,Ag hl,rfl⟩
 have m2:n∈AK s.F:=by simp only[AK,mm];exact⟨p,hp,by rw[e4]⟩
 exact(List.nodup_append.1 hnd).2.2 n m1 n m2 rfl
 have:=H.inv.nms
 simpa only[St.all,AI,BD]using this
 have:=H.inv.bks
 simpa only[St.all,AJ,A6 hsame]using this
 simpa only[St.all,AJ,A6 hsame]using hb
end Go.Ac
namespace Go.Ac
open Go.MapKept
theorem aJy{w:World}{b:Nat}{o:Obj}(h:w.heap[b]? =some o):({w with heap:=w.heap.setIfInBounds b o}:World)=w:=by
 have:w.heap.setIfInBounds b o=w.heap:=by apply Array.ext_getElem?;intro i;rw[Array.getElem?_setIfInBounds];split;rename_i e;subst e;split;rw[h];rename_i hn;rw[Array.getElem?_eq_none (by omega)];rfl
 rw[this]
def MBk(r:RMp)(kd:D)(outs0:List (D×Nat))(xs:List D)(xss':List (Option (List D))):Prop:=
 (∀p∈outs0,p.1≠kd)/\
  ((∃(pre:List (Nat×D)) (st:Nat) (post:List (Nat×D)) (p1 p2:List (Option (List D))),r.ks=pre++(st,kd)::post/\(∀x∈pre,x.2≠kd)/\r.xss=p1++none::p2/\p1.length=pre.length/\xss'=p1++some xs::p2)\/
   (xss'=r.xss/\∀x∈r.ks,x.2≠kd))
theorem HQ{s:St}{h:Hw}{w:World}{val:Val}{a:Act}(H:Holds s h w val a){r:RMp}(R:II s r){kd:D}{q:Nat}{outs0:List (D×Nat)}{xs:List D}{xss'}
 (ho:r.outs=(kd,q)::outs0) (hq:lk s.B q=some (.rw r.e 1 xs)) (hm:MBk r kd outs0 xs xss'):
 ∃val',aKi val val'/\Holds (s.edit [.chg q .dead,.chg r.n (.mapR r.g r.clk r.ks outs0),.chg r.g (.rows r.e xss')]) h w val' a/\
  Nx s h w val (s.edit [.chg q .dead,.chg r.n (.mapR r.g r.clk r.ks outs0),.chg r.g (.rows r.e xss')]) h w val':=by
 obtain⟨b,us,l,V⟩:=R.v H
 obtain⟨hos,hcase⟩:=hm
 have hqn:q≠r.n:=fun e=>by rw[e,R.ln]at hq;cases hq
 have hqg:q≠r.g:=fun e=>by rw[e,R.lg]at hq;cases hq
 obtain⟨vs,g1,g2,g3⟩:=H.inv.rep _ (ml_ _ (Ag hq))
 simp only at g1 g3
 have hre:RRe h w r.e (some xs) (val q):=⟨vs,g1,g2,g3⟩
 have hqv:=hre.vblk.1
 have n1:=Ek (C7 H) q
 have l1:lk (DO q s.B) r.n=some (.mapR r.g r.clk r.ks r.outs):=by rw[Lz hqn.symm];exact R.ln
 have l2:lk (DO q s.B) r.g=some (.rows r.e r.xss):=by rw[Lz hqg.symm];exact R.lg
 obtain⟨p1,p2⟩:=Da (b1:=.mapR r.g r.clk r.ks outs0) (b2:=.rows r.e xss') n1 l1 l2 R.ne
 have hP:=(Hr (C7 H) hq).trans (p1.cons _)
 have hB':(BG (BG (BG s.B q .dead) r.n (.mapR r.g r.clk r.ks outs0)) r.g (.rows r.e xss')).Perm ([(q,Bk.dead)]++[(r.n,.mapR r.g r.clk r.ks outs0),(r.g,.rows r.e xss')]++DO r.g (DO r.n (DO q s.B))):=
  (Db (Db (GB (C7 H) hq) hqn) hqg).trans (p2.cons _)
 have hRr:∀p∈DO r.g (DO r.n (DO q s.B)),p.1≠r.g/\p.1≠r.n/\p∈s.B:=fun p hp=>by obtain⟨a1,a2⟩:=Bw.1 hp;obtain⟨a3,a4⟩:=Bw.1 a1;exact⟨a2,a4,(Bw.1 a3).1⟩
 have hX:∀p∈[(q,Bk.rw r.e 1 xs)],p.1≠r.g/\p.1≠r.n:=fun p hp=>by rw[List.mem_singleton.1 hp];exact⟨hqg,hqn⟩
 have hXb:Aa val [(q,Bk.rw r.e 1 xs)]=(val q).ownBlock.toList:=by rw[Aj,Nq rfl hqv];simp[Aa]
 have hsub:∀x∈outs0,x∈r.outs:=fun x hx=>by rw[ho];exact List.mem_cons_of_mem _ hx
 have hrk:=V.rk
 rw[ho]at hrk
 have hsame:({w with heap:=w.heap.setIfInBounds b (.map ⟨l⟩ r.clk)}:World)=w:=aJy V.hg
 have htup:∀us':List Value,aKi val (An val r.g (.tuple ⟨.map (some b)::us'⟩)):=fun us' m=>by by_cases e:m=r.g;subst e;exact .inr ⟨⟨_,V.hu⟩,⟨_,by simp[An];rfl⟩⟩;exact .inl (by simp[An,e])
 rcases hcase with⟨pre,st,post,p1',p2',e1,hne,e2,hl,rfl⟩|⟨rfl,hne⟩
 have hpost:=Kl (e1▸V.n2)
 have hrk2:=hrk
 rw[e1]at hrk2
 obtain⟨up,u,uq,lp,en,lq,rfl,rfl,q1,q2,q3,q4,q6⟩:=RKs.split hrk2
 have hrr:=V.rr
 rw[e2]at hrr
 obtain⟨up2,u2,uq2,f1,f2,f3,f4,f5⟩:=BA.split hrr
 have hlen:up.length=up2.length:=by rw[q1,f2,hl]
 obtain⟨rfl,f6⟩:=List.append_inj f1 hlen
 obtain⟨rfl,rfl⟩:=List.cons.inj f6
 have hu0:u.ownBlock=none:=f4
 have hval:en.val=val q:=q4.2.2.1 q (List.mem_cons_self)
 have key:=CP H R V (us':=up++val q::uq) (l':=lp++en::lq) (clk':=r.clk) (ks':=r.ks) (outs':=outs0) (xss':=p1'++some xs::p2')
  (by rw[e1];exact RKs.append (RKs.pop hne q3) (RKs.cons_iff.2 ⟨_,_,_,_,rfl,rfl,⟨q4.1,q4.2.1,fun m hm=>absurd rfl (hos _ hm),fun _=>hval⟩,RKs.pop hpost q6⟩))
  V.lt V.n1 V.n2 hsub (BA.append f3 (BA.cons_iff.2 ⟨_,_,rfl,hre,f5⟩)) hP hB' hX hRr (L:=[]) (by
   rw[hXb,List.append_nil];simp only[List.filterMap_append,List.filterMap_cons,hu0];cases(val q).ownBlock with
   |none=>simp
   |some g=>simp only[Option.toList_some,List.singleton_append];exact List.perm_middle.symm)
 rw[hsame]at key
 exact⟨_,htup _,key.1,key.2⟩
 have key:=CP H R V (us':=us) (l':=l) (clk':=r.clk) (ks':=r.ks) (outs':=outs0) (xss':=r.xss) (RKs.pop hne hrk) V.lt V.n1 V.n2 hsub V.rr hP hB' hX hRr (L:=(val q).ownBlock.toList) (by rw[hXb];exact List.perm_append_comm)
 rw[hsame]at key
 exact⟨_,htup _,key.1,key.2⟩
def MFz(r:RMp)(es:List (Nat×D×D)):Prop:=
 r.outs=[]/\∃L:List (Nat×D×List D),r.ks=L.map (fun x=>(x.1,x.2.1))/\r.xss=L.map (fun x=>some x.2.2)/\es=L.map fun x=>(x.1,x.2.1,.sl x.2.2)
theorem aK0{h h':Hw}{w:World}{val:Val}{e:TypeId}(hs:Do h w h' w):∀(L:List (Nat×D×List D)) (us:List Value) (l:List MapEntry),(∀u∈us,∀g,u.ownBlock=some g->∀j x,w.cell? ⟨g,j,none⟩=some x->j<h' g)->
 RKs h w val [] (L.map fun x=>(x.1,x.2.1)) us l->BA h w e (L.map fun x=>some x.2.2) us->REs h' w (L.map fun x=>(x.1,x.2.1,.sl x.2.2)) l
 |[],us,l,_,hk,_=>hk.2
 |x::L,us,l,hh,hk,hr=>by
  rw[List.map_cons]at hk hr⊢;obtain⟨u,us',en,l',rfl,rfl,⟨a,b,_,d⟩,r⟩:=RKs.cons_iff.1 hk;obtain⟨u2,us2,e1,⟨vs,o1,o2,o3⟩,r2⟩:=BA.cons_iff.1 hr;obtain⟨rfl,rfl⟩:=List.cons.inj e1;refine⟨en,l',rfl,a,RD.stays hs _ _ b,?_,aK0 hs L us' l' (fun v hv=>hh v (List.mem_cons_of_mem _ hv)) r r2⟩;rw[d fun m hm=>by cases hm];exact RJ o1 (Ah.stays hs _ _ _ o2) (hh u (List.mem_cons_self))
theorem JJ{s:St}{h:Hw}{w:World}{val:Val}{a:Act}(H:Holds s h w val a){r:RMp}(R:II s r){es:List (Nat×D×D)}(hm:MFz r es):
 ∃h',Holds (s.edit [.chg r.n (.map r.clk es),.chg r.g .dead]) h' w val a/\Nx s h w val (s.edit [.chg r.n (.map r.clk es),.chg r.g .dead]) h' w val:=by
 obtain⟨b,us,l,V⟩:=R.v H
 obtain⟨ho,L,k1,k2,rfl⟩:=hm
 obtain⟨p1,p2⟩:=Da (b1:=.map r.clk (L.map fun(x:Nat×D×List D)=>(x.1,x.2.1,D.sl x.2.2))) (b2:=.dead) (C7 H) R.ln R.lg R.ne
 have hPb:Aa val [(r.n,.mapR r.g r.clk r.ks r.outs),(r.g,.rows r.e r.xss)]=b::us.filterMap Value.ownBlock:=ZS val _ _ _ _ _ _ _ _ V.hv V.hu
 let M:=us.filterMap Value.ownBlock
 have hnd:(b::M).Nodup:=by have hb:=H.inv.bks;rw[St.all,AJ]at hb;have h2:=(CM (val:=val) p1).nodup_iff.1 (List.nodup_append.1 hb).1;rw[AJ,hPb]at h2;exact(List.nodup_append.1 h2).1
 have hk:BI (Aa val [(r.n,.mapR r.g r.clk r.ks r.outs),(r.g,.rows r.e r.xss)]) h w (DM h w M) w:=by refine⟨rfl,rfl,rfl,Nat.le_refl _,fun _ _ _ _ hc=>hc,fun x _=>Kg h w M x,fun x _ hn=>⟨rfl,?_⟩⟩;unfold DM;rw[if_neg];intro hh;rw[hPb]at hn;exact hn (List.mem_cons_of_mem _ (At.1 hh))
 have hres:=V.rk
 rw[ho,k1]at hres
 have hrr:=V.rr
 rw[k2]at hrr
 have hes:=aK0 hk.stays L us l (fun u hu g hg j x hc=>Kf (List.mem_filterMap.2 ⟨u,hu,hg⟩) hc) hres hrr
 have hb0:DM h w M b=0:=by unfold DM;rw[if_neg (fun hh=>(List.nodup_cons.1 hnd).1 (At.1 hh))];exact V.h0
 have hlt:=V.lt
 have hn1:=V.n1
 have hn2:=V.n2
 rw[k1]at hlt hn1 hn2
 refine⟨DM h w M,H.swap (P:=[(r.n,.mapR r.g r.clk r.ks r.outs),(r.g,.rows r.e r.xss)]) (Q:=[(r.n,.map r.clk (L.map fun(x:Nat×D×List D)=>(x.1,x.2.1,D.sl x.2.2))),(r.g,.dead)]) (R:=DO r.g (DO r.n s.B)) p1 p2 []
  (fun m _=>.inl rfl) (by simp) (by simp) (by simp) rfl (fun _ _ _ _ _ _ _=>.inl rfl) hk (fun p hp=>?_) (by simp[AK,R.ne.symm]) (fun x hx=>.inl (by simpa[AK]using hx)) (L:=M) ?_⟩
 simp only[mc,List.not_mem_nil,or_false]at hp
 rcases hp with rfl|rfl
 refine⟨b,l,V.hv,V.hg,hes,fun y hy=>?_,?_,?_,hb0⟩
 obtain⟨x,hx,rfl⟩:=mm.1 hy
 exact hlt (x.1,x.2.1) (mm.2 ⟨x,hx,rfl⟩)
 rw[List.map_map]at hn1⊢;exact hn1
 rw[List.map_map]at hn2⊢;exact hn2
 trivial
 rw[hPb]
 simp[Aa,CW,BE,Bk.isOld,V.hv,vblk,M]
def L5(s:St)(n g:Nat):Option RMp:=CL s g (.row n)
def KD(o:Oper)(s:St)(wt:W):Option (Cn×A×List Ed):=
 match wt with
 | .mb n g m xss'=>match L5 s n g with
  |some r=>match r.outs,lk s.B m with
   |(kd,m')::outs0,some (.rw e 1 xs)=>if Nat.beq m m'&&Nat.beq e r.e then match o.op with
    | .assign x=>some (.pr (MBk r kd outs0 xs xss'),s.ev x,[.chg m .dead,.chg r.n (.mapR r.g r.clk r.ks outs0),.chg r.g (.rows r.e xss')])
    | .move x=>some (.pr (MBk r kd outs0 xs xss'),s.ev x,[.chg m .dead,.chg r.n (.mapR r.g r.clk r.ks outs0),.chg r.g (.rows r.e xss')])
    |_=>none
    else none
   |_,_=>none
  |none=>none
 | .mf n g es=>match L5 s n g with
  |some r=>match o.op with
   | .assign x=>some (.pr (MFz r es),s.ev x,[.chg r.n (.map r.clk es),.chg r.g .dead])
   | .move x=>some (.pr (MFz r es),s.ev x,[.chg r.n (.map r.clk es),.chg r.g .dead])
   |_=>none
  |none=>none
 |_=>none
theorem P4{P:Program}{o:Oper}{s:St}{wt:W}{Φ:Cn}{r:A}{es:List Ed}(he:KD o s wt=some (Φ,r,es)):EM P o s Φ.ok r (s.edit es):=by intro hΦ h w val a H K Q hK;unfold KD at he;split at he;rename_i n g m xss';split at he;rename_i r0 hr0;split at he;rename_i kd m' outs0 e xs hout hq;split at he;rename_i hc;simp only[ba,Nat.beq_eq]at hc;obtain⟨rfl,rfl⟩:=hc;have R:=(DG hr0).2;split at he;rename_i x ho;simp only[oe,pe]at he;obtain⟨rfl,rfl,rfl⟩:=he;obtain⟨val',ht,f1,f2⟩:=HQ H R hout hq hΦ;exact AQ (u:=a.eval x) (w':=w) (by simp[execOp,ho]) (hK h w val' _ (RA.tups _ _ ht (H.ev x)) f1 f2);rename_i x ho;simp only[oe,pe]at he;obtain⟨rfl,rfl,rfl⟩:=he;obtain⟨val',ht,f1,f2⟩:=HQ H R hout hq hΦ;exact AQ (u:=a.eval x) (w':=w) (by simp[execOp,ho]) (hK h w val' _ (RA.tups _ _ ht (H.ev x)) f1 f2);cases he;cases he;cases he;cases he;rename_i n g es';split at he;rename_i r0 hr0;have R:=(DG hr0).2;split at he;rename_i x ho;simp only[oe,pe]at he;obtain⟨rfl,rfl,rfl⟩:=he;obtain⟨h',f1,f2⟩:=JJ H R hΦ;exact AQ (u:=a.eval x) (w':=w) (by simp[execOp,ho]) (hK h' w val _ (RA.stays f2.keep.stays _ _ _ (H.ev x)) f1 f2);rename_i x ho;simp only[oe,pe]at he;obtain⟨rfl,rfl,rfl⟩:=he;obtain⟨h',f1,f2⟩:=JJ H R hΦ;exact AQ (u:=a.eval x) (w':=w) (by simp[execOp,ho]) (hK h' w val _ (RA.stays f2.keep.stays _ _ _ (H.ev x)) f1 f2);cases he;cases he;cases he
end Go.Ac
namespace Go.Ac
open Go.MapKept
def aCy(P:Program)(kt:TypeId)(S:List (D×D))(kd vd:D)(S':List (D×D)):Prop:=
 (∀x∈S,KOk P kt x.1)/\KOk P kt kd/\((∃(pre:List (D×D)) (v0:D) (post:List (D×D)),S=pre++(kd,v0)::post/\S'=pre++(kd,vd)::post)\/(S'=S++[(kd,vd)]/\∀x∈S,x.1≠kd))
def aPh(P:Program)(kt:TypeId)(S:List (D×D))(kd:D)(S':List (D×D)):Prop:=
 (∀x∈S,KOk P kt x.1)/\KOk P kt kd/\((∃(pre:List (D×D)) (v0:D) (post:List (D×D)),S=pre++(kd,v0)::post/\S'=pre++post)\/(S'=S/\∀x∈S,x.1≠kd))
theorem RU{es:List (Nat×D×D)}{kd v0:D}(hn:(es.map (·.2.1)).Nodup)(h:(kd,v0)∈es.map (·.2)):∃(pre:List (Nat×D×D)) (s:Nat) (post:List (Nat×D×D)),es=pre++(s,kd,v0)::post/\∀x∈pre,x.2.1≠kd:=by obtain⟨⟨s,p⟩,hx,e⟩:=mm.1 h;simp only at e;subst e;obtain⟨pre,post,rfl⟩:=List.append_of_mem hx;refine⟨pre,s,post,rfl,fun x hx e=>?_⟩;rw[List.map_append,List.map_cons,List.nodup_append]at hn;exact hn.2.2 _ (List.mem_map_of_mem hx) _ (by simp) e
theorem RL{pre post pre' post':List (D×D)}{x:D×D}(h:(pre++x::post).Perm (pre'++x::post')):(pre++post).Perm (pre'++post'):=
 ((List.perm_middle.symm.trans h).trans List.perm_middle).cons_inv
theorem aBy{P:Program}{kt:TypeId}{clk:Nat}{es:List (Nat×D×D)}{S S':List (D×D)}{kd vd:D}(hn:(es.map (·.2.1)).Nodup)(hp:(es.map (·.2)).Perm S)(h:aCy P kt S kd vd S'):
 ∃clk' es',aPi P kt es kd vd clk es' clk'/\(es'.map (·.2)).Perm S':=by
 obtain⟨hK,hk,hc⟩:=h
 have hK':∀x∈es,KOk P kt x.2.1:=fun x hx=>hK x.2 (hp.mem_iff.1 (List.mem_map_of_mem hx))
 rcases hc with⟨pre,v0,post,rfl,rfl⟩|⟨rfl,hne⟩
 obtain⟨pre2,s,post2,rfl,hne⟩:=RU (kd:=kd) (v0:=v0) hn (hp.mem_iff.2 (by simp))
 refine⟨clk,pre2++(s,kd,vd)::post2,⟨hK',hk,.inl ⟨rfl,pre2,s,v0,post2,rfl,hne,rfl⟩⟩,?_⟩
 rw[List.map_append,List.map_cons]at hp⊢
 have:=RL hp
 exact List.perm_middle.trans ((List.Perm.cons _ this).trans List.perm_middle.symm)
 refine⟨clk+1,es++[(clk,kd,vd)],⟨hK',hk,.inr ⟨rfl,rfl,fun x hx e=>?_⟩⟩,?_⟩
 exact hne x.2 (hp.mem_iff.1 (List.mem_map_of_mem hx)) e
 rw[List.map_append]
 exact hp.append_right _
theorem aAj{P:Program}{kt:TypeId}{es:List (Nat×D×D)}{S S':List (D×D)}{kd:D}(hn:(es.map (·.2.1)).Nodup)(hp:(es.map (·.2)).Perm S)(h:aPh P kt S kd S'):
 ∃es',aUa P kt es kd es'/\(es'.map (·.2)).Perm S':=by
 obtain⟨hK,hk,hc⟩:=h
 have hK':∀x∈es,KOk P kt x.2.1:=fun x hx=>hK x.2 (hp.mem_iff.1 (List.mem_map_of_mem hx))
 rcases hc with⟨pre,v0,post,rfl,rfl⟩|⟨rfl,hne⟩
 obtain⟨pre2,s,post2,rfl,hne⟩:=RU (kd:=kd) (v0:=v0) hn (hp.mem_iff.2 (by simp))
 refine⟨pre2++post2,⟨hK',hk,.inl ⟨pre2,s,v0,post2,rfl,hne,rfl⟩⟩,?_⟩
 rw[List.map_append,List.map_cons]at hp
 rw[List.map_append]
 exact RL hp
 exact⟨es,⟨hK',hk,.inr ⟨rfl,fun x hx e=>hne x.2 (hp.mem_iff.1 (List.mem_map_of_mem hx)) e⟩⟩,hp⟩
def Cm(s:St):A->Option (Nat×List (D×D))
 | .row n=>match lk s.B n with
  |some (.mapS S)=>some (n,S)
  |_=>none
 |_=>none
theorem L6{s:St}{h w val}{a:Act}(H:Holds s h w val a){x:A}{u:Value}(hr:RA h w val x u){n S}(he:Cm s x=some (n,S)):
 lk s.B n=some (.mapS S)/\∃clk es b l,(es.map (·.2)).Perm S/\u=.map (some b)/\val n=.map (some b)/\w.heap[b]? =some (.map ⟨l⟩ clk)/\REs h w es l/\(∀x∈es,x.1<clk)/\(es.map (·.1)).Nodup/\(es.map (·.2.1)).Nodup/\h b=0:=by
 unfold Cm at he
 split at he
 rename_i m
 split at he
 rename_i S' hl
 simp only[oe,pe]at he
 obtain⟨rfl,rfl⟩:=he
 simp only[RA]at hr
 obtain⟨clk,es,⟨b,l,hv,rest⟩,hp⟩:=H.inv.rep _ (ml_ _ (Ag hl))
 exact⟨hl,clk,es,b,l,hp,by rw[hr.1];exact hv,hv,rest⟩
 cases he
 cases he
def KF(P:Program)(o:Oper)(s:St)(wt:W):Option (Cn×A×List Ed):=
 match o.op with
 | .makeMap _ none=>match o.dst with
  |some d=>if d<up&& !AV d s.E&& !BW d s.B then some (.t,.row d,[.add d (.mapS [])])else none
  |none=>none
 | .mapUpdate t m k x=>match Cm s (s.ev m),toD (s.look (s.ev k)),toD (s.look (s.ev x)),P.underlying t,wt with
  |some (n,S),some kd,some vd,some (.map kt _),.ms S'=>some (.pr (aCy P kt S kd vd S'),.any,[.chg n (.mapS S')])
  |_,_,_,_,_=>none
 | .insert t m k x=>match Cm s (s.ev m),toD (s.look (s.ev k)),toD (s.look (s.ev x)),P.underlying t,wt with
  |some (n,S),some kd,some vd,some (.map kt _),.ms S'=>some (.pr (aCy P kt S kd vd S'),.any,[.chg n (.mapS S')])
  |_,_,_,_,_=>none
 | .call c=>match c.callee,c.args.toList,c.argTypes.toList with
  | .builtin .delete,[m,k],[t,_]=>match Cm s (s.ev m),toD (s.look (s.ev k)),P.underlying t,wt with
   |some (n,S),some kd,some (.map kt _),.ms S'=>some (.pr (aPh P kt S kd S'),.tup [],[.chg n (.mapS S')])
   |_,_,_,_=>none
  |_,_,_=>none
 |_=>none
theorem Dx{P:Program}{s:St}{h:Hw}{w:World}{val:Val}{a:Act}(H:Holds s h w val a){t kt et:TypeId}(ht:P.underlying t=some (.map kt et)){n:Nat}{S S':List (D×D)}{kd vd:D}{x:A}{um key v:Value}
 (hm:Cm s x=some (n,S)) (hu:RA h w val x um) (hk:RD h w kd key) (hv:RD h w vd v) (hp:aCy P kt S kd vd S'):
 ∃w',(Instr.mapUpdate t um key v).run P w=.ok () w'/\Holds {s with B:=BG s.B n (.mapS S')} h w' val a/\Nx s h w val {s with B:=BG s.B n (.mapS S')} h w' val:=by
 obtain⟨hl,clk,es,b,l,hpm,rfl,hv0,hg,hr,q1,q2,q3,h0⟩:=L6 H hu hm
 obtain⟨clk',es',hput,hpm'⟩:=aBy (clk:=clk) q3 hpm hp
 obtain⟨hK,hkk,⟨rfl,pre,st,v0,post,rfl,hne,rfl⟩|⟨rfl,rfl,hne⟩⟩:=hput
 obtain⟨lp,e,lq,rfl,e2,e3,e4,e5,e6,e7,hd,hik,hf⟩:=FN hr hK hkk hne hk
 obtain⟨f1,f2⟩:=Eh H hl rfl (bk':=.mapS S') rfl hv0 hg h0 (REs.set (s:=st) (kd:=kd) (vd:=vd) (e:={e with key:=key,val:=v}) e3 e4 hk hv e7) (QZ q1) (RF q2) (QU q3) (fun w' hm'=>⟨_,_,hm',hpm'⟩)
 refine⟨_,?_,f1,f2⟩
 have ha:=KG lp lq e e2
 simp only[Instr.mapUpdate,Sem.run_bind,run_underlying ht,MapKept.run_getObj_map hg,hd,hf,Result.andThen_ok,ha,Option.map_some,Option.getD_some,e5,hik,HO lp lq e _ e2,MapKept.run_setObj_map _ hg]
 obtain⟨hd,hik,hf⟩:=ED hr hK hkk hne hk
 obtain⟨f1,f2⟩:=Eh H hl rfl (bk':=.mapS S') rfl hv0 hg h0 (REs.append hr (REs.one (s:=clk) (kd:=kd) (vd:=vd) (e:=⟨key,v,clk⟩) rfl hk hv)) (OD q1) (OK q1 q2) (N8 hne q3) (fun w' hm'=>⟨_,_,hm',hpm'⟩)
 refine⟨_,?_,f1,f2⟩
 simp only[Instr.mapUpdate,Sem.run_bind,run_underlying ht,MapKept.run_getObj_map hg,hd,hf,Result.andThen_ok,MapKept.run_setObj_map _ hg,F1]
theorem P6{P:Program}{o:Oper}{s:St}{wt:W}{Φ:Cn}{r:A}{es:List Ed}(he:KF P o s wt=some (Φ,r,es)):EM P o s Φ.ok r (s.edit es):=by
 intro hΦ h w val a H K Q hK;unfold KF at he;split at he;rename_i t ho;split at he;rename_i d hd;split at he;rename_i hc;simp only[ba,decide_eq_true_eq,Bool.not_eq_true']at hc;obtain⟨⟨c3,c4⟩,c5⟩:=hc;simp only[oe,pe]at he;obtain⟨rfl,rfl,rfl⟩:=he;have hvd:An val d (.map (some w.heap.size)) d=.map (some w.heap.size):=by simp[An]
 obtain⟨f1,f2⟩:=H.fresh c3 c4 c5 (.map #[] 0) (.map (some w.heap.size)) 0 (.mapS []) rfl rfl
  ⟨0,[],⟨w.heap.size,[],hvd,heap_alloc_new w _,rfl,by simp,by simp,by simp,by simp[Dz]⟩,by simp⟩
 refine AQ (u:=.map (some w.heap.size)) (w':=w.alloc (.map #[] 0)) ?_ (hK _ _ _ _ (by simp only[RA];exact⟨hvd.symm,.inr ⟨_,rfl⟩⟩) f1.ins f2.ins);simp[execOp,ho,Instr.makeMap];cases he;cases he;rename_i t m k x ho;split at he;rename_i n S kd vd kt et S' hm hk hv ht;simp only[oe,pe]at he;obtain⟨rfl,rfl,rfl⟩:=he;obtain⟨w',hrun,f1,f2⟩:=Dx H ht (um:=a.eval m) hm (H.ev m) (Bm hk (H.look (H.ev k))) (Bm hv (H.look (H.ev x))) hΦ;exact Be (w':=w') (by simp[execOp,ho,hrun]) (hK h _ val undef (by simp[RA]) f1 f2);cases he;rename_i t m k x ho;split at he;rename_i n S kd vd kt et S' hm hk hv ht;simp only[oe,pe]at he;obtain⟨rfl,rfl,rfl⟩:=he;obtain⟨w',hrun,f1,f2⟩:=Dx H ht (um:=a.eval m) hm (H.ev m) (Bm hk (H.look (H.ev k))) (Bm hv (H.look (H.ev x))) hΦ;exact Be (w':=w') (by simp[execOp,ho,hrun]) (hK h _ val undef (by simp[RA]) f1 f2);cases he;rename_i c ho;obtain⟨callee,⟨args⟩,⟨tys⟩⟩:=c;simp only at he;split at he;rename_i m k t t2;split at he;rename_i n S kd kt et S' hm hk ht;simp only[oe,pe]at he;obtain⟨rfl,rfl,rfl⟩:=he;obtain⟨hl,clk,es,b,l,hpm,hum,hv0,hg,hr,q1,q2,q3,h0⟩:=L6 H (H.ev m) hm;have hkr:=Bm hk (H.look (H.ev k));obtain⟨es',hdel,hpm'⟩:=aAj q3 hpm hΦ;obtain⟨hKs,hkk,⟨pre,st,v0,post,rfl,hne,rfl⟩|⟨rfl,hne⟩⟩:=hdel;obtain⟨lp,e,lq,rfl,e2,e3,e4,e5,e6,e7,hd,hik,hf⟩:=FN hr hKs hkk hne hkr;have hsub:(pre++post).Sublist (pre++(st,kd,v0)::post):=List.Sublist.append (List.Sublist.refl _) (List.sublist_cons_self _ _);obtain⟨f1,f2⟩:=Eh H hl rfl (bk':=.mapS S') rfl hv0 hg h0 (REs.append e3 e7) (clk':=clk) (fun x hx=>q1 x (hsub.subset hx)) ((hsub.map _).nodup q2) ((hsub.map _).nodup q3) (fun w' hm'=>⟨_,_,hm',hpm'⟩);refine AQ (u:=.tuple #[]) (w':=_) ?_ (hK h _ val _ (by simp[RA,RAs]) f1 f2);simp[execOp,ho,resolve,invoke,builtin,Builtin.delete_,run_underlying ht,hum,MapKept.run_getObj_map hg,hd,hf,MapKept.run_setObj_map _ hg];have:=Nn lp lq e e2;simp only[List.eraseIdxIfInBounds_toArray]at this;first|rw[this]|rw[<-e2,List.eraseIdx_append_of_length_le (Nat.le_refl _),Nat.sub_self];rfl
 obtain⟨hd,hik,hf⟩:=ED hr hKs hkk hne hkr;obtain⟨f1,f2⟩:=Eh H hl rfl (bk':=.mapS S') rfl hv0 hg h0 hr q1 q2 q3 (fun w' hm'=>⟨_,_,hm',hpm'⟩);refine AQ (u:=.tuple #[]) (w':=_) ?_ (hK h _ val _ (by simp[RA,RAs]) f1 f2);simp[execOp,ho,resolve,invoke,builtin,Builtin.delete_,run_underlying ht,hum,MapKept.run_getObj_map hg,hd,hf,MapKept.run_setObj_map _ hg];cases he;cases he;cases he
end Go.Ac
namespace Go.Ac
open Go.MapKept
theorem aNt{s:St}{h:Hw}{w:World}{val:Val}{a:Act}(H:Holds s h w val a){n b:Nat}{bk bk':Bk}{o0 o':Obj}
 (hl:lk s.B n=some bk) (ho:bk.kd=1) (ho':bk'.kd=1) (hvb:vblk (val n)=some b) (hg:w.heap[b]? =some o0) (hc:∀c e f,o0≠ .cells c e f) (hb':RB h {w with heap:=w.heap.setIfInBounds b o'} val n bk'):
 Holds {s with B:=BG s.B n bk'} h {w with heap:=w.heap.setIfInBounds b o'} val a/\Nx s h w val {s with B:=BG s.B n bk'} h {w with heap:=w.heap.setIfInBounds b o'} val:=by
 have hmem:(n,bk)∈s.all:=ml_ _ (Ag hl)
 have hgM:b∈Aa val s.all:=Inv.blk_mem hmem (Ar hvb (Bk.kd_one ho).1)
 have hk:BI (Aa val s.all) h w h {w with heap:=w.heap.setIfInBounds b o'}:=⟨rfl,rfl,rfl,by simp,fun x i v _ hcc=>by
  unfold World.cell? at hcc⊢;by_cases e:x=b;subst e;simp only[hg]at hcc;cases o0<;>first|(cases hcc;done)|exact absurd rfl (hc _ _ _)
  simp only at hcc⊢;rw[Bc e];exact hcc,fun _ _=>Nat.le_refl _,fun x _ hn=>⟨Bc fun e=>hn (e▸hgM),rfl⟩⟩
 have hsame:∀b',(n,b')∈s.B->b'.kd=bk'.kd:=fun b2 hb2=>by have:=BB H.inv.nms (ml_ _ hb2) hmem;rw[this,ho,ho']
 refine⟨⟨RAs.stays hk.stays _ _ _ H.e,⟨?_,?_,?_,(by first|exact H.inv.glob.stays hk.stays|exact H.inv.glob|exact I.glob|exact I.glob.stays k.stays|exact H.inv.glob.stays k.stays|exact hI.glob|exact hInv.glob|exact hI0.glob|exact hIX.glob|exact H'.inv.glob|exact hI.glob.stays hk.stays|exact H1.inv.glob|exact hIR.glob|exact H.glob|exact hI.glob.stays k.stays|exact h.inv.glob|exact H2.inv.glob|exact hI'.glob)⟩,H.far,H.defs.keep H.inv hk (fun b hb=>hb) rfl⟩,⟨hk,fun _ _=>rfl,fun b hb=>.inl ?_⟩⟩
 intro p hp
 rcases ma.1 hp with hp|hp
 rcases BY hp with rfl|⟨hp,hne⟩
 exact hb'
 refine RB.stays hk.stays (fun g hg'=>⟨Bc fun e=>?_,rfl⟩) (H.inv.rep p (ml_ _ hp))
 subst e
 have:=Bg H.inv.bks (ml_ _ hp) hmem hg' (Ar hvb (Bk.kd_one ho).1)
 rw[this]at hne
 exact hne rfl
 refine RB.stays hk.stays (fun g hg'=>⟨Bc fun e=>?_,rfl⟩) (H.inv.rep p (mr_ _ hp))
 subst e
 have e4:=Bg H.inv.bks (mr_ _ hp) hmem hg' (Ar hvb (Bk.kd_one ho).1)
 have hnd:=H.inv.nms
 simp only[St.all,AI]at hnd
 have m1:n∈AK s.B:=by simp only[AK,mm];exact⟨_,Ag hl,rfl⟩
 have m2:n∈AK s.F:=by simp only[AK,mm];exact⟨p,hp,by rw[e4]⟩
 exact(List.nodup_append.1 hnd).2.2 n m1 n m2 rfl
 have:=H.inv.nms
 simpa only[St.all,AI,BD]using this
 have:=H.inv.bks
 simpa only[St.all,AJ,A6 hsame]using this
 simpa only[St.all,AJ,A6 hsame]using hb
theorem REs.mem'{h w}:∀{xs:List (Nat×D×D)} {l:List MapEntry},REs h w xs l->∀x∈xs,∃e∈l,e.born=x.1/\RD h w x.2.1 e.key/\RD h w x.2.2 e.val
 |[],_,_,x,hx=>by simp at hx
 |y::xs,_,⟨e0,l',a,b,c,d,r⟩,x,hx=>by
  subst a;rcases mc.1 hx with rfl|hx
  exact⟨e0,by simp,b,c,d⟩;obtain⟨e,he,q⟩:=REs.mem' r x hx;exact⟨e,by simp[he],q⟩
def aZ8(clk clk':Nat)(es:List (Nat×D×D))(seen:List Nat)(k v:D):Prop:=clk=clk'/\∃sn st,seen=sn++[st]/\(st,k,v)∈es
def aZp(P:Program)(o:Oper)(s:St)(wt:W):Option (Cn×A×List Ed):=
 match o.op with
 | .range t x=>match Bv s (s.ev x),P.underlying t,o.dst with
  |some (n,clk,_),some (.map _ _),some d=>if d<up&& !AV d s.E&& !BW d s.B then some (.t,.box d 0,[.add d (.mit n clk [])])else none
  |_,_,_=>none
 | .entry it=>match s.ev it,wt with
  | .box d 0,.en k v=>match lk s.B d with
   |some (.mit n clk seen)=>match lk s.B n with
    |some (.map clk' es)=>some (.pr (aZ8 clk clk' es seen k v),.tup [.d k,.d v],[])
    |_=>none
   |_=>none
  |_,_=>none
 |_=>none
theorem aBn(l:List Nat)(x:Nat):(⟨l⟩:Array Nat).push x=⟨l++[x]⟩:=by apply Array.ext';simp
theorem aNg{P:Program}{o:Oper}{s:St}{wt:W}{Φ:Cn}{r:A}{es:List Ed}(he:aZp P o s wt=some (Φ,r,es)):EM P o s Φ.ok r (s.edit es):=by
 intro hΦ h w val a H K Q hK;unfold aZp at he;split at he;rename_i t x ho;split at he;rename_i n clk es0 kt et d hm ht hd;split at he;rename_i hc;simp only[ba,decide_eq_true_eq,Bool.not_eq_true']at hc;obtain⟨⟨c3,c4⟩,c5⟩:=hc;simp only[oe,pe]at he;obtain⟨rfl,rfl,rfl⟩:=he;obtain⟨hl,b,l,hum,hv0,hg,hr,q1,q2,q3,h0⟩:=Cc H (H.ev x) hm;have hnd:n≠d:=fun e=>(BP c5 _ (Ag hl)).1 e;have hvd:An val d (.pointer (some ⟨w.heap.size,0,none⟩)) d=.pointer (some ⟨w.heap.size,0,none⟩):=by simp[An]
 obtain⟨f1,f2⟩:=H.fresh c3 c4 c5 (.mapIter (some b) clk #[] clk) (.pointer (some ⟨w.heap.size,0,none⟩)) 0 (.mit n clk []) rfl rfl
  ⟨w.heap.size,b,hvd,by simp only[An,hnd,if_false];exact hv0,heap_alloc_new w _⟩
 refine AQ (u:=.pointer (some ⟨w.heap.size,0,none⟩)) (w':=w.alloc (.mapIter (some b) clk #[] clk)) ?_ (hK _ _ _ _ (by simp only[RA];exact⟨_,hvd,rfl⟩) f1.ins f2.ins);simp[execOp,ho,Instr.range,run_underlying ht,hum,MapKept.run_getObj_map hg];cases he;cases he;rename_i it ho;split at he;rename_i d k v hit;split at he;rename_i n clk seen hl;split at he;rename_i clk' es0 hl2;simp only[oe,pe]at he;obtain⟨rfl,rfl,rfl⟩:=he;obtain⟨rfl,sn,st,rfl,hmem⟩:=hΦ;obtain⟨r,b,e1,e2,e3⟩:=H.inv.rep _ (ml_ _ (Ag hl));obtain⟨b',l,g1,g2,g3,g4,g5,g6,g7⟩:=H.inv.rep _ (ml_ _ (Ag hl2));simp only at e1 e2 g1;have hb:b=b':=by rw[e2]at g1;cases g1;rfl
 subst hb;have hi:=H.ev it;rw[hit]at hi;simp only[RA]at hi;obtain⟨r',i1,i2⟩:=hi;have hr':r'=r:=by rw[e1]at i1;cases i1;rfl
 subst hr';obtain⟨e,he,f1,f2,f3⟩:=REs.mem' g3 _ hmem;simp only at f1;have hrun:=run_entry_at (P:=P) w r' b clk ⟨sn⟩ ⟨l⟩ clk e (by rw[aBn,f1];exact e3) g2 he (by rw[REs.born g3];exact g5);refine AQ (u:=.tuple #[e.key,e.val]) (w':=w) ?_ (hK h w val _ ?_ H (Nx.refl s h w val rfl));simp[execOp,ho,i2,hrun];simp only[RA,RAs];exact⟨[e.key,e.val],rfl,e.key,[e.val],rfl,f2,e.val,[],rfl,f3,rfl⟩;cases he;cases he;cases he;cases he
end Go.Ac
namespace Go.Ac

def fc(rd:Option Nat):Fence:={Fence.wide with round:=rd}
theorem KP(rd:Option Nat):(fc rd).depth.isSome=true->1<=0:=by intro h;cases h

theorem SI{rd:Option Nat}{n:Nat}{P:Program}{f:FuncId}{args:Array Value}{w:World}{R:Ending->World->Prop}(h:Calls P f args w R):CallsIn (fc rd) n P f args w R:=by
 have h1:=(callsIn_wide (n:=n)).2 h;cases rd with
 |none=>exact h1
 |some l=>exact CallsIn.inRound l h1
theorem aB4{rd:Option Nat}{n:Nat}{P:Program}{row:String}{args:Array Value}{w:World}{R:Value->World->Prop}(h:Rows P row args w R):RowsIn (fc rd) n P row args w R:=
 fun c cs _=>let ⟨v,w',r,s⟩:=h c cs;⟨v,w',r,(StepsIn.of_steps s).mono fun m _=>fenced_wide P m⟩

def DU:Op->Bool
 | .defer _=>false
 |_=>true
theorem El{o:Oper}(h:DU o.op=true)(rd:Option Nat)(ρ:Operand->Value):o.semAt rd ρ=execOp ρ o:=by
 cases rd with
 |none=>rfl
 |some l=>
  unfold Oper.semAt
  cases ho:o.op<;>simp_all [DU]

theorem CA{rd:Option Nat}{P:Program}{o:Oper}{a:Act}{w:World}{K:Act->World->Prop}{Q:Exit->Act->World->Prop}(hd:DU o.op=true)(h:o.wp P a w K Q):o.wpIn (fc rd) 0 P a w K Q:=by
 refine⟨fun _ _=>trivial,?_⟩;rw[El hd];unfold Oper.wp at h;generalize (execOp a.eval o).run P w=r at h⊢;cases r with
 |ok x w'=>
  cases x<;>simp only[Oper.upon,Oper.uponIn]at h⊢ <;>first
   |exact h
   |exact⟨KP rd,SI h⟩
   |exact⟨KP rd,aB4 h⟩
   |exact h.elim
 |halt x w'=>cases x<;>simp only[Oper.upon,Oper.uponIn]at h⊢ <;>exact h

def Hg(ops:Array Oper)(s:St)(o:Oper):Option Bool:=
 match o.guard with
 |none=>some true
 |some (j,want)=>match (ops[j]?).bind (·.dst)with
  |some t=>match s.E[t]? with
   |some (.d (.v (.bool b)))=>some (b==want)
   |some (.tup [])=>some false
   |_=>none
  |none=>none
theorem CS{ops:Array Oper}{s:St}{o:Oper}{b:Bool}{h w val a}(he:Hg ops s o=some b)(H:Holds s h w val a):Region.wanted o (yielded ops a.tmps)=b:=by
 unfold Hg at he;unfold Region.wanted;split at he;rename_i hg;simp only[oe]at he;rw[hg];exact he;rename_i j want hg;rw[hg];simp only;split at he;rename_i t ht;split at he;rename_i c hc;simp only[oe]at he;obtain⟨u,hu,hr⟩:=RAs.get H.e t _ hc;simp only[RA,RD]at hr;have hu':a.tmps[t]? =some u:=by simpa using hu
 simp only[yielded,ht,Option.bind_some,hu',hr.1];rw[<-he];cases c<;>cases want<;>rfl;rename_i hc;simp only[oe]at he;obtain⟨u,hu,hr⟩:=RAs.get H.e t _ hc;simp only[RA,RAs]at hr;obtain⟨us,e1,e2⟩:=hr;have hu':a.tmps[t]? =some u:=by simpa using hu
 simp only[yielded,ht,Option.bind_some,hu',e1,e2];rw[<-he];rfl;cases he;cases he

def N7(s:St)(x:A):Bool:=(HR s x).isSome
def bAu:A->Bool
 | .ep _ _ _ _=>true
 |_=>false
def aJa(s:St)(x:A):Bool:=(Bv s x).isSome
def Kw(P:Program)(s:St)(o:Oper):Nat:=
 match o.op with
 | .alloc t=>if aZx P t then 8 else 2
 | .makeSlice _ _ _=>8
 | .box _ _=>2
 | .store _ x _=>if bAu (s.ev x)then 9 else 3
 | .indexAddr _ x _=>if N7 s (s.ev x)||aSw s (s.ev x)then 9 else 0
 | .slice _ x none none none=>if aSv x then 13 else if N7 s (s.ev x)then 9 else 0
 | .move x=>if N7 s (s.ev x)then 9 else 0
 | .binOp _ _ _ y _=>match s.ev y with
  | .nil=>11
  |_=>0
 | .buildSlice _ _ _=>5
 | .build _ _=>7
 | .load _ x=>match s.ev x with
  | .eptr _=>0
  | .ep _ _ _ _=>9
  |_=>1
 | .call c=>match c.callee with
  | .builtin .append=>4
  | .builtin .copy=>10
  | .builtin .len=>match c.args.toList with
   |[x]=>if N7 s (s.ev x)||aSw s (s.ev x)then 9 else if aJa s (s.ev x)then 12 else 0
   |_=>0
  | .builtin .delete=>12
  | .builtin .clear=>12
  | .builtin _=>0
  |_=>6
 | .makeMap _ _=>12
 | .lookup _ _ _ _=>12
 | .mapUpdate _ _ _ _=>12
 | .insert _ _ _ _=>12
 | .mapEntry _ _ _=>12
 | .entryStore _ _ _ _=>12
 |_=>0
def DQ(P:Program)(o:Oper)(s:St)(wt:W):Nat->Option (Ob×A×List Ed)
 |0=>match wt with
  | .mb _ _ _ _=>(KD o s wt).map fun p=>(.c p.1,p.2)
  | .mf _ _ _=>(KD o s wt).map fun p=>(.c p.1,p.2)
  |_=>(Nl P o s.ev (fun x=>s.look (s.ev x)) wt).map fun p=>(.c p.1,p.2,[])
 |1=>(R5 P o s wt).map fun p=>(.c p.1,p.2,[])
 |2=>match wt with
  | .frz=>(R1 o s).map fun r=>(.c .t,r,[])
  |_=>(aKj P o s).map fun p=>(.c .t,p.1,p.2)
 |3=>match wt with
  | .frz=>(FI P o s).map fun es=>(.c .t,.any,es)
  |_=>(EQ P o s).map fun es=>(.c .t,.any,es)
 |4=>match wt with
  | .rwl zs=>(Cu P o s zs).map fun p=>(.c p.1,p.2)
  |_=>(C1 P o s wt).map fun p=>(.c p.1,p.2)
 |5=>(Bn P o s (match wt with| .frz=>true|_=>false)).map fun p=>(.c p.1,p.2)
 |6=>match wt with
  | .lend _ _=>(I7 P o s wt).map fun p=>(p.1,p.2,[])
  | .cx _ _ _ _ _=>I9 P o s wt
  |_=>(I8 P o s wt).map fun p=>(p.1,p.2,[])
 |7=>(I6 P o (fun x=>s.look (s.ev x)) (match wt with| .frz=>true|_=>false)).map fun r=>(.c .t,r,[])
 |8=>(Ff P o s wt).map fun p=>(.c p.1,p.2)
 |9=>match wt with
  | .prt y0 zs=>(aO4 P o s y0 zs).map fun p=>(.c p.1,p.2)
  |_=>match I5 P o s wt with
   |some p=>some (.c p.1,p.2)
   |none=>(SD P o s wt).map fun p=>(.c p.1,p.2)
 |10=>(De P o s wt).map fun p=>(.c p.1,p.2)
 |11=>(aO3 P o s wt).map fun p=>(.c p.1,p.2)
 |12=>match wt with
  | .frz=>(KF P o s wt).map fun p=>(.c p.1,p.2)
  | .ms _=>(KF P o s wt).map fun p=>(.c p.1,p.2)
  | .mr _ _ _ _ _=>(KE P o s wt).map fun p=>(.c p.1,p.2)
  | .mkr _=>(KE P o s wt).map fun p=>(.c p.1,p.2)
  |_=>(aKl P o s wt).map fun p=>(.c p.1,p.2)
 |13=>(aNe P o).map fun r=>(.c .t,r,[])
 |_=>none
theorem Nk{P:Program}{o:Oper}{s:St}{es:List Ed}{wt:W}{L:Lp}{Φ:Ob}{r:A}:∀{k:Nat},DQ P o s wt k=some (Φ,r,es)->EM P o s (Φ.ok P L) r (s.edit es)
 |0,he=>by
  simp only[DQ]at he;split at he;simp only[om,pe]at he;obtain⟨p,h,rfl,e⟩:=he;exact P4 (by rw[h];rw[<-e]);simp only[om,pe]at he;obtain⟨p,h,rfl,e⟩:=he;exact P4 (by rw[h];rw[<-e]);simp only[om,pe]at he;obtain⟨p,h,rfl,rfl,rfl⟩:=he;exact aOk h
 |1,he=>by
  simp only[DQ,om,pe]at he;obtain⟨p,h,rfl,rfl,rfl⟩:=he;exact aIh h
 |2,he=>by
  simp only[DQ]at he;split at he;simp only[om,pe]at he;obtain⟨p,h,rfl,rfl,rfl⟩:=he;exact fun _=>aIc h trivial;simp only[om,pe]at he;obtain⟨p,h,rfl,rfl,rfl⟩:=he;exact aNb h
 |3,he=>by
  simp only[DQ]at he;split at he;simp only[om,pe]at he;obtain⟨p,h,rfl,rfl,rfl⟩:=he;exact SF h;simp only[om,pe]at he;obtain⟨p,h,rfl,rfl,rfl⟩:=he;exact LR h
 |4,he=>by
  simp only[DQ]at he;split at he;simp only[om,pe]at he;obtain⟨p,h,rfl,e⟩:=he;exact NY (by rw[h];rw[<-e]);simp only[om,pe]at he;obtain⟨p,h,rfl,e⟩:=he;exact R0 (by rw[h];rw[<-e])
 |5,he=>by
  simp only[DQ,om,pe]at he;obtain⟨p,h,rfl,e⟩:=he;exact IN (by rw[h];rw[<-e])
 |6,he=>by
  simp only[DQ]at he;split at he;simp only[om,pe]at he;obtain⟨p,h,rfl,rfl,rfl⟩:=he;exact YU h;exact YW he;simp only[om,pe]at he;obtain⟨p,h,rfl,rfl,rfl⟩:=he;exact YV h
 |7,he=>by
  simp only[DQ,om,pe]at he;obtain⟨p,h,rfl,rfl,rfl⟩:=he;exact fun _=>YT h trivial
 |8,he=>by
  simp only[DQ,om,pe]at he;obtain⟨p,h,rfl,e⟩:=he;exact YS (by rw[h];rw[<-e])
 |9,he=>by
  simp only[DQ]at he;split at he;simp only[om,pe]at he;obtain⟨p,h,rfl,e⟩:=he;exact aNk (by rw[h];rw[<-e]);split at he;rename_i p h;simp only[oe,pe]at he;obtain⟨rfl,e⟩:=he;exact YR (by rw[h];rw[<-e]);simp only[om,pe]at he;obtain⟨p,h,rfl,e⟩:=he;exact aIm (by rw[h];rw[<-e])
 |10,he=>by
  simp only[DQ,om,pe]at he;obtain⟨p,h,rfl,e⟩:=he;exact Na (by rw[h];rw[<-e])
 |11,he=>by
  simp only[DQ,om,pe]at he;obtain⟨p,h,rfl,e⟩:=he;exact aNh (by rw[h];rw[<-e])
 |12,he=>by
  simp only[DQ]at he;split at he;simp only[om,pe]at he;obtain⟨p,h,rfl,e⟩:=he;exact P6 (by rw[h];rw[<-e]);simp only[om,pe]at he;obtain⟨p,h,rfl,e⟩:=he;exact P6 (by rw[h];rw[<-e]);simp only[om,pe]at he;obtain⟨p,h,rfl,e⟩:=he;exact P5 (by rw[h];rw[<-e]);simp only[om,pe]at he;obtain⟨p,h,rfl,e⟩:=he;exact P5 (by rw[h];rw[<-e]);simp only[om,pe]at he;obtain⟨p,h,rfl,e⟩:=he;exact aNf (by rw[h];rw[<-e])
 |13,he=>by
  simp only[DQ,om,pe]at he;obtain⟨p,h,rfl,rfl,rfl⟩:=he;exact aIf h
 |k+14,he=>by simp only[DQ]at he;cases he
def EX:List Ed->Option (Nat×TypeId×Nat×List D)
 |[]=>none
 |[.add d (.rw e k xs)]=>some (d,e,k,xs)
 |_::es=>EX es
theorem Hq(d:Nat)(b:Bk):∀B:Bx,lk (Cq d b B) d=some b
 |[]=>by simp[Cq,lk]
 |p::B=>by
  simp only[Cq];split;simp[lk];rename_i h;have hne:p.1≠d:=fun e=>h (by rw[e];exact Nat.ble_eq_true_of_le (Nat.le_refl _));have:=Hq d b B;unfold lk at this⊢;rw[List.find?_cons,show(p.1==d)=false by simpa using hne];exact this
theorem Lu{d e k}{xs:List D}:∀{es:List Ed} {B:Bx},EX es=some (d,e,k,xs)->lk (es.foldl Al B) d=some (.rw e k xs)
 |[],B,h=>by cases h
 |[.add d' b],B,h=>by
  cases b with
  |rw e' k' xs'=>
   simp only[EX,oe,pe]at h
   obtain⟨rfl,rfl,rfl,rfl⟩:=h
   exact Hq _ _ _
  |_=>simp only[EX]at h;cases h
 |[.chg d' b],B,h=>by simp only[EX]at h;cases h
 |x::y::es,B,h=>by
  have h':EX (y::es)=some (d,e,k,xs):=by
   cases x with
   |add d' b=>cases b<;>simpa only[EX]using h
   |chg d' b=>simpa only[EX]using h
  exact Lu (es:=y::es) (B:=Al B x) h'
def aNi(P:Program)(o:Oper)(s:St)(wt:W):Option (Ob×A×List Ed):=match wt with
 | .fzn m=>match DQ P o s .no (Kw P s o)with
  |some (Φ,r,[])=>match lk s.B m with
   |some (.rw e k xs)=>some (Φ,r,[.chg m (.row e k xs)])
   |_=>none
  |_=>none
 | .rwz zs=>match DQ P o s (.rwl zs) (Kw P s o)with
  |some (Φ,.row d,es)=>match EX es with
   |some (d',e,k,xs)=>if Nat.beq d d' then some (Φ,.d (.sl xs),es++[.chg d (.row e k xs)])else none
   |_=>none
  |_=>none
 |wt=>DQ P o s wt (Kw P s o)
theorem ZE{P:Program}{o:Oper}{s:St}{es:List Ed}{wt:W}{L:Lp}{Φ:Ob}{r:A}(he:aNi P o s wt=some (Φ,r,es)):EM P o s (Φ.ok P L) r (s.edit es):=by
 unfold aNi at he;split at he;rename_i m;split at he;rename_i Φ' r' h1;split at he;rename_i e k xs hl;simp only[oe,pe]at he;obtain⟨rfl,rfl,rfl⟩:=he;intro hΦ h w val a H K Q hK;refine Nk h1 hΦ h w val a H K Q fun h' w' val' u hr H' n'=>?_;have hl':lk (s.edit []).B m=some (.rw e k xs):=hl;obtain⟨h2,f1,f2⟩:=aB9 H' hl';exact hK h2 w' val' u (RA.stays f2.keep.stays _ _ _ hr) f1 (n'.trans f2);cases he;cases he;rename_i zs;split at he;rename_i Φ' d es' h1;split at he;rename_i d' e k xs hl;split at he;rename_i hdd;simp only[oe,pe]at he;obtain⟨rfl,rfl,rfl⟩:=he;have hd:=Nat.eq_of_beq_eq_true hdd;subst hd;intro hΦ h w val a H K Q hK;refine Nk h1 hΦ h w val a H K Q fun h' w' val' u hr H' n'=>?_;have hl':lk (s.edit es').B d=some (.rw e k xs):=Lu hl;obtain⟨h2,f1,f2⟩:=aB9 H' hl';have hr2:=f1.look (RA.stays f2.keep.stays _ _ _ hr);have hB:BG (s.edit es').B d (.row e k xs)=(s.edit (es'++[.chg d (.row e k xs)])).B:=by simp only[St.edit,List.foldl_append,List.foldl_cons,List.foldl_nil,Al]
 have hS:({s.edit es' with B:=BG (s.edit es').B d (.row e k xs)}:St)=s.edit (es'++[.chg d (.row e k xs)]):=by rw[hB];rfl
 rw[hS]at f1 f2 hr2;have hlk:(s.edit (es'++[.chg d (.row e k xs)])).look (.row d)=.d (.sl xs):=by simp only[St.look];rw[<-hB,Fl hl']
 rw[hlk]at hr2;exact hK h2 w' val' u hr2 f1 (n'.trans f2);cases he;cases he;cases he;exact Nk he
def aop(P:Program)(o:Oper)(s:St)(wt:W):Option (Ob×A×St):=
 match aNi P o s wt with
 |some (Φ,r,es)=>some (Φ,r,s.edit es)
 |none=>LN P o s wt
theorem aSl{P:Program}{o:Oper}{s s':St}{wt:W}{L:Lp}{Φ:Ob}{r:A}(he:aop P o s wt=some (Φ,r,s')):EM P o s (Φ.ok P L) r s':=by unfold aop at he;split at he;rename_i h;simp only[oe,pe]at he;obtain⟨rfl,rfl,rfl⟩:=he;exact ZE h;exact LO he

def wOf(ws:List (Nat×W))(o:Oper):W:=
 match o.dst with
 |some d=>((ws.find? fun p=>p.1==d).map (·.2)).getD .no
 |none=>match o.op with
  | .store _ (.tmp t) _=>((ws.find? fun p=>p.1==t+10000).map (·.2)).getD .no
  | .mapUpdate _ (.tmp t) _ _=>((ws.find? fun p=>p.1==t+10000).map (·.2)).getD .no
  | .insert _ (.tmp t) _ _=>((ws.find? fun p=>p.1==t+10000).map (·.2)).getD .no
  | .entryStore _ _ (.tmp t) _=>((ws.find? fun p=>p.1==t+10000).map (·.2)).getD .no
  | .call c=>match c.args.toList with
   | .tmp t::_=>((ws.find? fun p=>p.1==t+10000).map (·.2)).getD .no
   |_=>.no
  |_=>.no

def aO0:A->Option Nat
 | .d (.v (.func (.yield l) fs cs))=>if fs.size==0&&cs.size==0 then some l else none
 |_=>none
theorem aKe{h w val}{a:A}{l:Nat}{u:Value}(he:aO0 a=some l)(hr:RA h w val a u):u=.func (.yield l) #[] #[]:=by unfold aO0 at he;split at he;rename_i l' fs cs;split at he;rename_i hb;simp only[oe]at he;subst he;simp only[ba,beq_iff_eq]at hb;simp only[RA,RD]at hr;rw[hr.1,Array.eq_empty_of_size_eq_zero hb.1,Array.eq_empty_of_size_eq_zero hb.2];cases he;cases he
def YX(o:Oper)(s:St)(wt:W):Option (Ob×A×St):=
 match o.op with
 | .call c=>match c.callee with
  | .value g=>match aO0 (s.ev g),wt with
   |some l,.own _ r _ F=>if r.bare&&aT5 s.E&&aZ0 s.B then some (.both (.yld l (c.args.toList.map fun x=>s.look (s.ev x)) s.F r F) (.frame s.F F),r,{s with F:=F})else none
   |_,_=>none
  |_=>none
 |_=>none
theorem Inv.right{h w val}{B F:Bx}(I:Inv h w val (B++F)):Inv h w val F:=
 ⟨fun p hp=>I.rep p (mr_ _ hp),(List.nodup_append.1 (by rw[<-AI];exact I.nms)).2.1,(List.nodup_append.1 (by rw[<-AJ];exact I.bks)).2.1,(by first|exact H.inv.glob.stays hk.stays|exact H.inv.glob|exact I.glob|exact I.glob.stays k.stays|exact H.inv.glob.stays k.stays|exact hI.glob|exact hInv.glob|exact hI0.glob|exact hIX.glob|exact H'.inv.glob|exact hI.glob.stays hk.stays|exact H1.inv.glob|exact hIR.glob|exact H.glob|exact hI.glob.stays k.stays|exact H.inv.glob.stays n.keep.stays|exact hI.glob.stays n.keep.stays|exact h.inv.glob|exact H2.inv.glob|exact hI'.glob)⟩
theorem YY{rd:Option Nat}{P:Program}{o:Oper}{s s':St}{wt:W}{L:Lp}{Φ:Ob}{r:A}(he:YX o s wt=some (Φ,r,s'))(hd:DU o.op=true)(hΦ:Φ.ok P L)
 {h w val a} (H:Holds s h w val a) {K:Act->World->Prop} {Q:Exit->Act->World->Prop}
 (hK:∀h' w' val' u,RA h' w' val' r u->Holds s' h' w' val' a->Nx s h w val s' h' w' val'->K (a.put o.dst u) w'):o.wpIn (fc rd) 0 P a w K Q:=by
 unfold YX at he
 split at he
 rename_i c ho
 obtain⟨callee,args,argTypes⟩:=c
 simp only at he
 split at he
 rename_i g
 split at he
 rename_i l raw r' B F hg
 split at he
 rename_i hb
 simp only[oe,pe]at he
 obtain⟨rfl,rfl,rfl⟩:=he
 simp only[Ob.ok]at hΦ
 obtain⟨hc,hF⟩:=hΦ
 have e1:=aKe hg (H.ev g)
 have hnF:AK F=AK s.F:=by
  rcases hF with e|e
  rw[e];exact e.1
 have hFar:Far F:=by
  rcases hF with e|e
  rw[e];exact H.far;exact e.2
 have hargs:RAs h w val (args.toList.map fun x=>s.look (s.ev x)) (args.toList.map a.eval):=D0 (f:=fun x=>s.look (s.ev x)) (fun x=>H.look (H.ev x)) _
 obtain⟨fn,tmps,assign,body,hrun,hround⟩:=hc h w val _ (Inv.right H.inv) hargs
 have hexec:(execOp a.eval o).run P w=.ok (.round l fn tmps assign body) w:=by
  have harr:args.map a.eval=⟨args.toList.map a.eval⟩:=by apply Array.ext';simp
  simp only[execOp,ho,resolve,e1,Deferred.ofValue,Sem.run_bind,Sem.run_pure,Result.andThen_ok,invoke];simpa[harr]using hrun
 refine⟨fun _ _=>trivial,?_⟩
 rw[El hd,hexec,Oper.uponIn_round]
 refine⟨KP rd,?_⟩
 have hround':RoundIn (fc rd) (0-1) P l fn tmps assign body w _:=hround
 refine hround'.mono fun e w' hh=>?_
 obtain⟨h',val',u,rfl,hI,hr,hk,hv,hnew⟩:=hh
 simp only[ba]at hb
 have hvF:∀n,(n<up\/n=1000000)->val' n=val n:=fun n hn=>hv n fun hin=>by obtain⟨p,hp,e⟩:=mm.1 hin;exact(hFar n hn p hp).1 e
 have hvB:∀p∈s.B,∀n,n=p.1\/p.2.has n=true->val' n=val n:=fun p hp n hn=>hvF n (.inl (by
  obtain⟨c1,c2⟩:=OC hb.2 hp;rcases hn with rfl|hn
  exact c1;exact c2 n hn))
 have hbB:Aa val' s.B=Aa val s.B:=BZ fun n hn=>by obtain⟨p,hp,rfl⟩:=mm.1 hn;exact hvB p hp _ (.inl rfl)
 have hkM:BI (Aa val s.all) h w h' w':=hk.mono' fun x hx=>.inl (by show x∈Aa val (s.B++s.F);rw[AJ];exact mr_ _ hx)
 have hall:=H.inv
 have hbks:=hall.bks
 have hnms:=hall.nms
 unfold St.all at hbks hnms
 rw[AJ]at hbks
 rw[AI]at hnms
 obtain⟨b1,b2,b3⟩:=List.nodup_append.1 hbks
 obtain⟨m1,m2,m3⟩:=List.nodup_append.1 hnms
 have hlt:∀g∈Aa val s.B,g<w.heap.size:=fun g hg=>hall.blk_lt g (by unfold St.all;rw[AJ];exact ml_ _ hg)
 refine hK h' w' val' u hr ⟨RAs.congr _ _ (fun n hn=>hvF n (.inl (aBa hb.1.2 n hn))) (RAs.stays hk.stays _ _ _ H.e),⟨fun p hp=>?_,?_,?_,(by first|exact H.inv.glob.stays hk.stays|exact H.inv.glob|exact I.glob|exact I.glob.stays k.stays|exact H.inv.glob.stays k.stays|exact hI.glob|exact hInv.glob|exact hI0.glob|exact hIX.glob|exact H'.inv.glob|exact hI.glob.stays hk.stays|exact H1.inv.glob|exact hIR.glob|exact H.glob|exact hI.glob.stays k.stays|exact H.inv.glob.stays n.keep.stays|exact hI.glob.stays n.keep.stays|exact h.inv.glob|exact H2.inv.glob|exact hI'.glob)⟩,hFar,H.defs.keep H.inv hkM (fun b hb=>hb) (hvF bn (.inr rfl))⟩ ⟨hkM,fun n hn=>hvF n (.inr hn),fun b hb'=>?_⟩
 rcases ma.1 hp with hp|hp
 refine RB.congr (hvB p hp _ (.inl rfl)) (fun m hm=>hvB p hp m (.inr hm)) (RB.stays hk.stays (fun g hg=>?_) (hall.rep p (ml_ _ hp)))
 have hgB:g∈Aa val s.B:=Inv.blk_mem hp hg
 exact hk.far g (hlt g hgB) fun hgF=>b3 g hgB g hgF rfl
 exact hI.rep p hp
 show(AK (s.B++F)).Nodup
 rw[AI,hnF]
 exact List.nodup_append.2 ⟨m1,m2,m3⟩
 show(Aa val' (s.B++F)).Nodup
 rw[AJ,hbB]
 refine List.nodup_append.2 ⟨b1,hI.bks,fun x hx y hy e=>?_⟩
 subst e
 rcases hnew x hy with h1|h1
 exact b3 x hx x h1 rfl
 have:=hlt x hx
 omega
 have hb1:b∈Aa val' (s.B++F):=hb'
 rw[AJ,hbB]at hb1
 show b∈Aa val (s.B++s.F)\/_
 rw[AJ]
 rcases ma.1 hb1 with h1|h1
 exact .inl (ml_ _ h1)
 rcases hnew b h1 with h2|h2
 exact .inl (mr_ _ h2)
 exact .inr h2
 cases he
 cases he
 cases he
 cases he

def aIn(P:Program)(ops:Array Oper)(ws:List (Nat×W))(s:St)(o:Oper):Option (Ob×St):=
 if DU o.op then
  match Hg ops s o with
  |some true=>match aop P o s (wOf ws o)with
   |some (Φ,r,s')=>some (Φ,s'.put o.dst r)
   |none=>match YX o s (wOf ws o)with
    |some (Φ,r,s')=>some (Φ,s'.put o.dst r)
    |none=>match ZK P o s (wOf ws o)with
     |some (Φ,r,es)=>some (.c Φ,(s.edit es).put o.dst r)
     |none=>match aZp P o s (wOf ws o)with
      |some (Φ,r,es)=>some (.c Φ,(s.edit es).put o.dst r)
      |none=>none
  |some false=>some (.c .t,s.put o.dst (.tup []))
  |none=>none
 else none

theorem Jb{h w val}:RA h w val (.tup []) undef:=by simp only[RA,RAs];exact⟨[],rfl,rfl⟩
theorem aOm(s:St)(d:Option Tmp)(v:A):(s.put d v).all=s.all:=by cases d<;>rfl
theorem Nx.put{s s':St}{h w val h' w' val'}(n:Nx s h w val s' h' w' val')(d:Option Tmp)(v:A):Nx s h w val (s'.put d v) h' w' val':=
 ⟨n.keep,n.vals,by rw[aOm];exact n.new⟩

theorem KI{rd:Option Nat}{P:Program}{ops:Array Oper}{ws:List (Nat×W)}{s s':St}{o:Oper}{L:Lp}{Φ:Ob}(he:aIn P ops ws s o=some (Φ,s'))(hΦ:Φ.ok P L)
 {h w val a} (H:Holds s h w val a) {i:Nat} (hi:ops[i]? =some o) {K:Act->World->Prop} {Q:Exit->Act->World->Prop}
 (hK:∀h' w' val' a',Holds s' h' w' val' a'->Nx s h w val s' h' w' val'->K a' w'):wpOpIn (fc rd) 0 P ops Q i K a w:=by
 unfold aIn at he
 split at he
 rename_i hnd
 split at he
 rename_i hg
 split at he
 rename_i Φ' r s1 ho
 simp only[oe,pe]at he
 obtain⟨rfl,rfl⟩:=he
 unfold wpOpIn
 rw[hi]
 simp only[CS hg H,if_true]
 exact CA hnd (aSl ho hΦ h w val a H K Q fun h' w' val' u hr H' hn=>hK h' w' val' _ (H'.put o.dst hr) (hn.put _ _))
 split at he
 rename_i Φ' r s1 ho
 simp only[oe,pe]at he
 obtain⟨rfl,rfl⟩:=he
 unfold wpOpIn
 rw[hi]
 simp only[CS hg H,if_true]
 exact YY ho hnd hΦ H fun h' w' val' u hr H' hn=>hK h' w' val' _ (H'.put o.dst hr) (hn.put _ _)
 split at he
 rename_i Φ' r es ho
 simp only[oe,pe]at he
 obtain⟨rfl,rfl⟩:=he
 unfold wpOpIn
 rw[hi]
 simp only[CS hg H,if_true]
 exact CA hnd (ZL ho hΦ h w val a H K Q fun h' w' val' u hr H' hn=>hK h' w' val' _ (H'.put o.dst hr) (hn.put _ _))
 split at he
 rename_i Φ' r es ho
 simp only[oe,pe]at he
 obtain⟨rfl,rfl⟩:=he
 unfold wpOpIn
 rw[hi]
 simp only[CS hg H,if_true]
 exact CA hnd (aNg ho hΦ h w val a H K Q fun h' w' val' u hr H' hn=>hK h' w' val' _ (H'.put o.dst hr) (hn.put _ _))
 cases he
 rename_i hg
 simp only[oe,pe]at he
 obtain⟨rfl,rfl⟩:=he
 unfold wpOpIn
 rw[hi]
 simp only[CS hg H,Bool.false_eq_true,if_false]
 exact⟨fun _ _=>trivial,hK h w val _ (H.put o.dst Jb) ((Nx.refl s h w val rfl).put _ _)⟩
 cases he
 cases he

theorem Se(o:Op):Ei o=DU o:=by cases o<;>rfl
theorem Ni{rd:Option Nat}{P:Program}{ops:Array Oper}{s:St}{o o2:Oper}{Φ:Cn}{es:List Ed}{wt:W}(he:P2 P s o o2 wt=some (Φ,es))(hΦ:Φ.ok){h w val a}(H:Holds s h w val a){i:Nat}(hi:ops[i]? =some o)(hi2:ops[i+1]? =some o2)
 {K:Act->World->Prop} {Q:Exit->Act->World->Prop}
 (hK:∀h' w' val' a',Holds (((s.edit es).put o.dst .any).put o2.dst .any) h' w' val' a'->Nx s h w val (((s.edit es).put o.dst .any).put o2.dst .any) h' w' val'->K a' w'):
 wpOpIn (fc rd) 0 P ops Q i (fun a w=>wpOpIn (fc rd) 0 P ops Q (i+1) K a w) a w:=by
 obtain⟨d,u,w',hd,g1,g2,n1,n2,r1,r2,H2,N2⟩:=YZ he hΦ H
 rw[Se]at n1 n2
 unfold wpOpIn
 rw[hi,hi2]
 have w1:Region.wanted o (yielded ops a.tmps)=true:=by unfold Region.wanted;rw[g1]
 simp only[w1,if_true]
 refine CA n1 (AQ r1 ?_)
 have w2:Region.wanted o2 (yielded ops (a.put o.dst u).tmps)=true:=by unfold Region.wanted;rw[g2]
 simp only[w2,if_true]
 rw[hd]
 refine CA n2 (AQ r2 ?_)
 refine hK h w' val _ ?_ ?_
 rw[hd]
 exact(H2.put (some d) (by simp[RA])).put o2.dst (by simp[RA])
 exact(N2.put _ _).put _ _
def aIl(P:Program)(ops:Array Oper)(ws:List (Nat×W)):List Oper->St->Option (Ob×St)
 |[],s=>some (.c .t,s)
 |o::l,s=>match aIn P ops ws s o with
  |some (Φ,s1)=>match aIl P ops ws l s1 with
   |some (Ψ,s2)=>some (Φ.and Ψ,s2)
   |none=>none
  |none=>match l with
   |[]=>none
   |o2::l2=>match P2 P s o o2 (wOf ws o)with
    |some (Φ,es)=>match aIl P ops ws l2 (((s.edit es).put o.dst .any).put o2.dst .any)with
     |some (Ψ,s2)=>some ((Ob.c Φ).and Ψ,s2)
     |none=>none
    |none=>none

theorem KH{rd:Option Nat}{L:Lp}{P:Program}{ops:Array Oper}{ws:List (Nat×W)}{Q:Exit->Act->World->Prop}:∀(l:List Oper) (k:Nat) (s s':St) (Φ:Ob),(∀j,l[j]? =ops[k+j]?)->aIl P ops ws l s=some (Φ,s')->Φ.ok P L->
 ∀h w val a,Holds s h w val a->(∀h' w' val' a',Holds s' h' w' val' a'->Nx s h w val s' h' w' val'->Q .normal a' w')->wpOpsIn (fc rd) 0 P ops Q (List.range' k l.length) a w
 |[],k,s,s',Φ,_,he,_,h,w,val,a,H,hQ=>by
  simp only[aIl,oe,pe]at he;obtain⟨_,rfl⟩:=he;simp only[List.length_nil,List.range'_zero,wpOpsIn];exact hQ h w val a H (Nx.refl s h w val rfl)
 |[o],k,s,s',Φ,hl,he,hΦ,h,w,val,a,H,hQ=>by
  simp only[aIl]at he;split at he;rename_i Φ1 s1 h1;simp only[oe,pe]at he;obtain⟨rfl,rfl⟩:=he;obtain⟨hΦ1,_⟩:=Ob.and_ok hΦ;have hk:ops[k]? =some o:=by simpa using (hl 0).symm
  simp only[List.length_cons,List.range'_succ];rw[wpOpsIn_cons];refine KI h1 hΦ1 H hk fun h' w' val' a' H' hn=>?_;simp only[List.length_nil,List.range'_zero,wpOpsIn];exact hQ h' w' val' a' H' hn;cases he
 |o::o2::l2,k,s,s',Φ,hl,he,hΦ,h,w,val,a,H,hQ=>by
  rw[aIl]at he;have hk:ops[k]? =some o:=by simpa using (hl 0).symm
  split at he;rename_i Φ1 s1 h1;split at he;rename_i Ψ s2 h2;simp only[oe,pe]at he;obtain⟨rfl,rfl⟩:=he;obtain⟨hΦ1,hΨ⟩:=Ob.and_ok hΦ;rw[List.length_cons,List.range'_succ,wpOpsIn_cons];refine KI h1 hΦ1 H hk fun h' w' val' a' H' hn=>?_;exact KH (o2::l2) (k+1) s1 s2 Ψ (fun j=>by have:=hl (j+1);simpa[Nat.add_assoc,Nat.add_comm 1 j]using this) h2 hΨ h' w' val' a' H' fun h2' w2 val2 a2 H2 hn2=>hQ h2' w2 val2 a2 H2 (hn.trans hn2);cases he;split at he;rename_i Φ1 es h1;split at he;rename_i Ψ s2 h2;simp only[oe,pe]at he;obtain⟨rfl,rfl⟩:=he;obtain⟨hΦ1,hΨ⟩:=Ob.and_ok hΦ;have hk2:ops[k+1]? =some o2:=by simpa using (hl 1).symm
  rw[List.length_cons,List.range'_succ,wpOpsIn_cons,List.length_cons,List.range'_succ];have e:(fun a w=>wpOpsIn (fc rd) 0 P ops Q ((k+1)::List.range' (k+1+1) l2.length) a w)=fun a w=>wpOpIn (fc rd) 0 P ops Q (k+1) (fun a w=>wpOpsIn (fc rd) 0 P ops Q (List.range' (k+1+1) l2.length) a w) a w:=by funext a w;rw[wpOpsIn_cons]
  have:=Ni (rd:=rd) (Q:=Q) h1 hΦ1 H hk hk2 (K:=fun a w=>wpOpsIn (fc rd) 0 P ops Q (List.range' (k+1+1) l2.length) a w) fun h' w' val' a' H' hn=>
   KH l2 (k+1+1) _ s2 Ψ (fun j=>by have:=hl (j+2);simpa[Nat.add_assoc,Nat.add_comm 1 j,Nat.add_comm 2 j]using this) h2 hΨ h' w' val' a' H' fun h2' w2 val2 a2 H2 hn2=>hQ h2' w2 val2 a2 H2 (hn.trans hn2)
  rw[<-e]at this;exact this;cases he;cases he
end Go.Ac
