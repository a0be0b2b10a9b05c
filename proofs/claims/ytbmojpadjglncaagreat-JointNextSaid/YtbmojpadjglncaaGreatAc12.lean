/- Own work: how calls of the model run over plain data. -/
import Derived.Test.YtbmojpadjglncaaGreatAc11d
import Derived.Test.YtbmojpadjglncaaGreatAc10i
import Derived.RangeFuncLeaves
import Derived.RangeFuncCalls
import Derived.OrdersIn
set_option linter.unusedVariables false
set_option linter.unusedSimpArgs false
namespace Go.Ac

def fc (rd : Option Nat) : Fence := { Fence.wide with round := rd }
theorem fc_depth (rd : Option Nat) : (fc rd).depth.isSome = true → 1 ≤ 0 := by intro h; cases h

theorem callsIn_fc {rd : Option Nat} {n : Nat} {P : Program} {f : FuncId} {args : Array Value} {w : World} {R : Ending → World → Prop} (h : Calls P f args w R) : CallsIn (fc rd) n P f args w R := by
  have h1 := (callsIn_wide (n := n)).2 h
  cases rd with
  | none => exact h1
  | some l => exact CallsIn.inRound l h1
theorem rowsIn_fc {rd : Option Nat} {n : Nat} {P : Program} {row : String} {args : Array Value} {w : World} {R : Value → World → Prop} (h : Rows P row args w R) : RowsIn (fc rd) n P row args w R :=
  fun c cs _ => let ⟨v, w', r, s⟩ := h c cs; ⟨v, w', r, (StepsIn.of_steps s).mono fun m _ => fenced_wide P m⟩

def noDefer : Op → Bool
  | .defer _ => false
  | _ => true
theorem semAt_noDefer {o : Oper} (h : noDefer o.op = true) (rd : Option Nat) (ρ : Operand → Value) : o.semAt rd ρ = execOp ρ o := by
  cases rd with
  | none => rfl
  | some l =>
    unfold Oper.semAt
    cases ho : o.op <;> simp_all [noDefer]

theorem wpIn_of_wp {rd : Option Nat} {P : Program} {o : Oper} {a : Act} {w : World} {K : Act → World → Prop} {Q : Exit → Act → World → Prop} (hd : noDefer o.op = true) (h : o.wp P a w K Q) : o.wpIn (fc rd) 0 P a w K Q := by
  refine ⟨fun _ _ => trivial, ?_⟩
  rw [semAt_noDefer hd]
  unfold Oper.wp at h
  generalize (execOp a.eval o).run P w = r at h ⊢
  cases r with
  | ok x w' =>
    cases x <;> simp only [Oper.upon, Oper.uponIn] at h ⊢ <;> first
      | exact h
      | exact ⟨fc_depth rd, callsIn_fc h⟩
      | exact ⟨fc_depth rd, rowsIn_fc h⟩
      | exact h.elim
  | halt x w' => cases x <;> simp only [Oper.upon, Oper.uponIn] at h ⊢ <;> exact h

def guardB (ops : Array Oper) (s : St) (o : Oper) : Option Bool :=
  match o.guard with
  | none => some true
  | some (j, want) => match (ops[j]?).bind (·.dst) with
    | some t => match s.E[t]? with
      | some (.d (.v (.bool b))) => some (b == want)
      | some (.tup []) => some false
      | _ => none
    | none => none
theorem guardB_ok {ops : Array Oper} {s : St} {o : Oper} {b : Bool} {h w val a} (he : guardB ops s o = some b) (H : Holds s h w val a) : Region.wanted o (yielded ops a.tmps) = b := by
  unfold guardB at he
  unfold Region.wanted
  split at he
  · rename_i hg; simp only [Option.some.injEq] at he; rw [hg]; exact he
  · rename_i j want hg
    rw [hg]
    simp only
    split at he
    · rename_i t ht
      split at he
      · rename_i c hc
        simp only [Option.some.injEq] at he
        obtain ⟨u, hu, hr⟩ := RAs.get H.e t _ hc
        simp only [RA, RD] at hr
        have hu' : a.tmps[t]? = some u := by simpa using hu
        simp only [yielded, ht, Option.bind_some, hu', hr.1]
        rw [← he]
        cases c <;> cases want <;> rfl
      · rename_i hc
        simp only [Option.some.injEq] at he
        obtain ⟨u, hu, hr⟩ := RAs.get H.e t _ hc
        simp only [RA, RAs] at hr
        obtain ⟨us, e1, e2⟩ := hr
        have hu' : a.tmps[t]? = some u := by simpa using hu
        simp only [yielded, ht, Option.bind_some, hu', e1, e2]
        rw [← he]
        rfl
      · cases he
    · cases he

def isBuf (s : St) (x : A) : Bool := (bufAt s x).isSome
def isEp : A → Bool
  | .ep _ _ _ _ => true
  | _ => false
def isMap (s : St) (x : A) : Bool := (mapAt s x).isSome
def tagOf (P : Program) (s : St) (o : Oper) : Nat :=
  match o.op with
  | .alloc t => if isArr P t then 8 else 2
  | .makeSlice _ _ _ => 8
  | .box _ _ => 2
  | .store _ x _ => if isEp (s.ev x) then 9 else 3
  | .indexAddr _ x _ => if isBuf s (s.ev x) || isRw s (s.ev x) then 9 else 0
  | .slice _ x none none none => if isBuf s (s.ev x) then 9 else 0
  | .move x => if isBuf s (s.ev x) then 9 else 0
  | .binOp _ _ _ y _ => match s.ev y with
    | .nil => 11
    | _ => 0
  | .buildSlice _ _ _ => 5
  | .build _ _ => 7
  | .load _ x => match s.ev x with
    | .eptr _ => 0
    | .ep _ _ _ _ => 9
    | _ => 1
  | .call c => match c.callee with
    | .builtin .append => 4
    | .builtin .copy => 10
    | .builtin .len => match c.args.toList with
      | [x] => if isBuf s (s.ev x) || isRw s (s.ev x) then 9 else if isMap s (s.ev x) then 12 else 0
      | _ => 0
    | .builtin .delete => 12
    | .builtin .clear => 12
    | .builtin _ => 0
    | _ => 6
  | .makeMap _ _ => 12
  | .lookup _ _ _ _ => 12
  | .mapUpdate _ _ _ _ => 12
  | .insert _ _ _ _ => 12
  | .mapEntry _ _ _ => 12
  | .entryStore _ _ _ _ => 12
  | _ => 0
def aopT (P : Program) (o : Oper) (s : St) (wt : W) : Nat → Option (Ob × A × List Ed)
  | 0 => (apure P o s.ev (fun x => s.look (s.ev x)) wt).map fun p => (.c p.1, p.2, [])
  | 1 => (aload P o s wt).map fun p => (.c p.1, p.2, [])
  | 2 => match wt with
    | .frz => (afbox o s).map fun r => (.c .t, r, [])
    | _ => (abox P o s).map fun p => (.c .t, p.1, p.2)
  | 3 => match wt with
    | .frz => (astoreF P o s).map fun es => (.c .t, .any, es)
    | _ => (astore P o s).map fun es => (.c .t, .any, es)
  | 4 => match wt with
    | .rwl zs => (aappendW P o s zs).map fun p => (.c p.1, p.2)
    | _ => (aappend P o s wt).map fun p => (.c p.1, p.2)
  | 5 => (abuildSlice P o s).map fun p => (.c p.1, p.2)
  | 6 => match wt with
    | .lend _ _ => (acallL P o s wt).map fun p => (p.1, p.2, [])
    | .cx _ _ _ _ _ => acallX P o s wt
    | _ => (acallP P o s wt).map fun p => (p.1, p.2, [])
  | 7 => (abuild P o (fun x => s.look (s.ev x))).map fun r => (.c .t, r, [])
  | 8 => (abufMk P o s wt).map fun p => (.c p.1, p.2)
  | 9 => match abufAt P o s wt with
    | some p => some (.c p.1, p.2)
    | none => (arwAt P o s wt).map fun p => (.c p.1, p.2)
  | 10 => (abufCopy P o s wt).map fun p => (.c p.1, p.2)
  | 11 => (anil P o s wt).map fun p => (.c p.1, p.2)
  | 12 => match wt with
    | .frz => (amapS P o s wt).map fun p => (.c p.1, p.2)
    | .ms _ => (amapS P o s wt).map fun p => (.c p.1, p.2)
    | _ => (amap P o s wt).map fun p => (.c p.1, p.2)
  | _ => none
theorem aopT_ok {P : Program} {o : Oper} {s : St} {es : List Ed} {wt : W} {L : Lp} {Φ : Ob} {r : A} : ∀ {k : Nat}, aopT P o s wt k = some (Φ, r, es) → OpOk P o s (Φ.ok P L) r (s.edit es)
  | 0, he => by
    simp only [aopT, Option.map_eq_some_iff, Prod.mk.injEq] at he
    obtain ⟨p, h, rfl, rfl, rfl⟩ := he
    exact pure_ok h
  | 1, he => by
    simp only [aopT, Option.map_eq_some_iff, Prod.mk.injEq] at he
    obtain ⟨p, h, rfl, rfl, rfl⟩ := he
    exact aload_ok h
  | 2, he => by
    simp only [aopT] at he
    split at he
    · simp only [Option.map_eq_some_iff, Prod.mk.injEq] at he
      obtain ⟨p, h, rfl, rfl, rfl⟩ := he
      exact fun _ => afbox_ok h trivial
    · simp only [Option.map_eq_some_iff, Prod.mk.injEq] at he
      obtain ⟨p, h, rfl, rfl, rfl⟩ := he
      exact abox_ok h
  | 3, he => by
    simp only [aopT] at he
    split at he
    · simp only [Option.map_eq_some_iff, Prod.mk.injEq] at he
      obtain ⟨p, h, rfl, rfl, rfl⟩ := he
      exact astoreF_ok h
    · simp only [Option.map_eq_some_iff, Prod.mk.injEq] at he
      obtain ⟨p, h, rfl, rfl, rfl⟩ := he
      exact astore_ok h
  | 4, he => by
    simp only [aopT] at he
    split at he
    · simp only [Option.map_eq_some_iff, Prod.mk.injEq] at he
      obtain ⟨p, h, rfl, e⟩ := he
      exact aappendW_ok (by rw [h]; rw [← e])
    · simp only [Option.map_eq_some_iff, Prod.mk.injEq] at he
      obtain ⟨p, h, rfl, e⟩ := he
      exact aappend_ok (by rw [h]; rw [← e])
  | 5, he => by
    simp only [aopT, Option.map_eq_some_iff, Prod.mk.injEq] at he
    obtain ⟨p, h, rfl, e⟩ := he
    exact abuildSlice_ok (by rw [h]; rw [← e])
  | 6, he => by
    simp only [aopT] at he
    split at he
    · simp only [Option.map_eq_some_iff, Prod.mk.injEq] at he
      obtain ⟨p, h, rfl, rfl, rfl⟩ := he
      exact acallL_ok h
    · exact acallX_ok he
    · simp only [Option.map_eq_some_iff, Prod.mk.injEq] at he
      obtain ⟨p, h, rfl, rfl, rfl⟩ := he
      exact acallP_ok h
  | 7, he => by
    simp only [aopT, Option.map_eq_some_iff, Prod.mk.injEq] at he
    obtain ⟨p, h, rfl, rfl, rfl⟩ := he
    exact fun _ => abuild_ok h trivial
  | 8, he => by
    simp only [aopT, Option.map_eq_some_iff, Prod.mk.injEq] at he
    obtain ⟨p, h, rfl, e⟩ := he
    exact abufMk_ok (by rw [h]; rw [← e])
  | 9, he => by
    simp only [aopT] at he
    split at he
    · rename_i p h
      simp only [Option.some.injEq, Prod.mk.injEq] at he
      obtain ⟨rfl, e⟩ := he
      exact abufAt_ok (by rw [h]; rw [← e])
    · simp only [Option.map_eq_some_iff, Prod.mk.injEq] at he
      obtain ⟨p, h, rfl, e⟩ := he
      exact arwAt_ok (by rw [h]; rw [← e])
  | 10, he => by
    simp only [aopT, Option.map_eq_some_iff, Prod.mk.injEq] at he
    obtain ⟨p, h, rfl, e⟩ := he
    exact abufCopy_ok (by rw [h]; rw [← e])
  | 11, he => by
    simp only [aopT, Option.map_eq_some_iff, Prod.mk.injEq] at he
    obtain ⟨p, h, rfl, e⟩ := he
    exact anil_ok (by rw [h]; rw [← e])
  | 12, he => by
    simp only [aopT] at he
    split at he
    · simp only [Option.map_eq_some_iff, Prod.mk.injEq] at he
      obtain ⟨p, h, rfl, e⟩ := he
      exact amapS_ok (by rw [h]; rw [← e])
    · simp only [Option.map_eq_some_iff, Prod.mk.injEq] at he
      obtain ⟨p, h, rfl, e⟩ := he
      exact amapS_ok (by rw [h]; rw [← e])
    · simp only [Option.map_eq_some_iff, Prod.mk.injEq] at he
      obtain ⟨p, h, rfl, e⟩ := he
      exact amap_ok (by rw [h]; rw [← e])
  | k + 13, he => by simp only [aopT] at he; cases he
def aopE (P : Program) (o : Oper) (s : St) (wt : W) : Option (Ob × A × List Ed) := match wt with
  | .fzn m => match aopT P o s .no (tagOf P s o) with
    | some (Φ, r, []) => match lk s.B m with
      | some (.rw e k xs) => some (Φ, r, [.chg m (.row e k xs)])
      | _ => none
    | _ => none
  | wt => aopT P o s wt (tagOf P s o)
theorem aopE_ok {P : Program} {o : Oper} {s : St} {es : List Ed} {wt : W} {L : Lp} {Φ : Ob} {r : A} (he : aopE P o s wt = some (Φ, r, es)) : OpOk P o s (Φ.ok P L) r (s.edit es) := by
  unfold aopE at he
  split at he
  · rename_i m
    split at he
    · rename_i Φ' r' h1
      split at he
      · rename_i e k xs hl
        simp only [Option.some.injEq, Prod.mk.injEq] at he
        obtain ⟨rfl, rfl, rfl⟩ := he
        intro hΦ h w val a H K Q hK
        refine aopT_ok h1 hΦ h w val a H K Q fun h' w' val' u hr H' n' => ?_
        have hl' : lk (s.edit []).B m = some (.rw e k xs) := hl
        obtain ⟨h2, f1, f2⟩ := rw_frz H' hl'
        exact hK h2 w' val' u (RA.stays f2.keep.stays _ _ _ hr) f1 (n'.trans f2)
      · cases he
    · cases he
  · exact aopT_ok he
def aop (P : Program) (o : Oper) (s : St) (wt : W) : Option (Ob × A × St) :=
  match aopE P o s wt with
  | some (Φ, r, es) => some (Φ, r, s.edit es)
  | none => acallO P o s wt
theorem aop_ok {P : Program} {o : Oper} {s s' : St} {wt : W} {L : Lp} {Φ : Ob} {r : A} (he : aop P o s wt = some (Φ, r, s')) : OpOk P o s (Φ.ok P L) r s' := by
  unfold aop at he
  split at he
  · rename_i h; simp only [Option.some.injEq, Prod.mk.injEq] at he; obtain ⟨rfl, rfl, rfl⟩ := he; exact aopE_ok h
  · exact acallO_ok he

def wOf (ws : List (Nat × W)) (o : Oper) : W :=
  match o.dst with
  | some d => ((ws.find? fun p => p.1 == d).map (·.2)).getD .no
  | none => match o.op with
    | .store _ (.tmp t) _ => ((ws.find? fun p => p.1 == t + 10000).map (·.2)).getD .no
    | .mapUpdate _ (.tmp t) _ _ => ((ws.find? fun p => p.1 == t + 10000).map (·.2)).getD .no
    | .insert _ (.tmp t) _ _ => ((ws.find? fun p => p.1 == t + 10000).map (·.2)).getD .no
    | .entryStore _ _ (.tmp t) _ => ((ws.find? fun p => p.1 == t + 10000).map (·.2)).getD .no
    | .call c => match c.args.toList with
      | .tmp t :: _ => ((ws.find? fun p => p.1 == t + 10000).map (·.2)).getD .no
      | _ => .no
    | _ => .no

def yldOf : A → Option Nat
  | .d (.v (.func (.yield l) fs cs)) => if fs.size == 0 && cs.size == 0 then some l else none
  | _ => none
theorem yldOf_ok {h w val} {a : A} {l : Nat} {u : Value} (he : yldOf a = some l) (hr : RA h w val a u) : u = .func (.yield l) #[] #[] := by
  unfold yldOf at he
  split at he
  · rename_i l' fs cs
    split at he
    · rename_i hb
      simp only [Option.some.injEq] at he
      subst he
      simp only [Bool.and_eq_true, beq_iff_eq] at hb
      simp only [RA, RD] at hr
      rw [hr.1, Array.eq_empty_of_size_eq_zero hb.1, Array.eq_empty_of_size_eq_zero hb.2]
    · cases he
  · cases he
def acallY (o : Oper) (s : St) (wt : W) : Option (Ob × A × St) :=
  match o.op with
  | .call c => match c.callee with
    | .value g => match yldOf (s.ev g), wt with
      | some l, .own _ r _ F => if r.bare && lowE s.E && lowB s.B then some (.both (.yld l (c.args.toList.map fun x => s.look (s.ev x)) s.F r F) (.frame s.F F), r, { s with F := F }) else none
      | _, _ => none
    | _ => none
  | _ => none
theorem Inv.right {h w val} {B F : Bx} (I : Inv h w val (B ++ F)) : Inv h w val F :=
  ⟨fun p hp => I.rep p (List.mem_append_right _ hp), (List.nodup_append.1 (by rw [← names_append]; exact I.nms)).2.1, (List.nodup_append.1 (by rw [← blks_append]; exact I.bks)).2.1⟩
theorem acallY_ok {rd : Option Nat} {P : Program} {o : Oper} {s s' : St} {wt : W} {L : Lp} {Φ : Ob} {r : A} (he : acallY o s wt = some (Φ, r, s')) (hd : noDefer o.op = true) (hΦ : Φ.ok P L)
    {h w val a} (H : Holds s h w val a) {K : Act → World → Prop} {Q : Exit → Act → World → Prop}
    (hK : ∀ h' w' val' u, RA h' w' val' r u → Holds s' h' w' val' a → Nx s h w val s' h' w' val' → K (a.put o.dst u) w') : o.wpIn (fc rd) 0 P a w K Q := by
  unfold acallY at he
  split at he
  · rename_i c ho
    obtain ⟨callee, args, argTypes⟩ := c
    simp only at he
    split at he
    · rename_i g
      split at he
      · rename_i l raw r' B F hg
        split at he
        · rename_i hb
          simp only [Option.some.injEq, Prod.mk.injEq] at he
          obtain ⟨rfl, rfl, rfl⟩ := he
          simp only [Ob.ok] at hΦ
          obtain ⟨hc, hF⟩ := hΦ
          have e1 := yldOf_ok hg (H.ev g)
          have hnF : names F = names s.F := by
            rcases hF with e | e
            · rw [e]
            · exact e.1
          have hFar : Far F := by
            rcases hF with e | e
            · rw [e]; exact H.far
            · exact e.2
          have hargs : RAs h w val (args.toList.map fun x => s.look (s.ev x)) (args.toList.map a.eval) := RAs_map (f := fun x => s.look (s.ev x)) (fun x => H.look (H.ev x)) _
          obtain ⟨fn, tmps, assign, body, hrun, hround⟩ := hc h w val _ (Inv.right H.inv) hargs
          have hexec : (execOp a.eval o).run P w = .ok (.round l fn tmps assign body) w := by
            have harr : args.map a.eval = ⟨args.toList.map a.eval⟩ := by apply Array.ext'; simp
            simp only [execOp, ho, resolve, e1, Deferred.ofValue, Sem.run_bind, Sem.run_pure, Result.andThen_ok, invoke]
            simpa [harr] using hrun
          refine ⟨fun _ _ => trivial, ?_⟩
          rw [semAt_noDefer hd, hexec, Oper.uponIn_round]
          refine ⟨fc_depth rd, ?_⟩
          have hround' : RoundIn (fc rd) (0 - 1) P l fn tmps assign body w _ := hround
          refine hround'.mono fun e w' hh => ?_
          obtain ⟨h', val', u, rfl, hI, hr, hk, hv, hnew⟩ := hh
          simp only [Bool.and_eq_true] at hb
          have hvF : ∀ n, (n < up ∨ n = 1000000) → val' n = val n := fun n hn => hv n fun hin => by
            obtain ⟨p, hp, e⟩ := List.mem_map.1 hin
            exact (hFar n hn p hp).1 e
          have hvB : ∀ p ∈ s.B, ∀ n, n = p.1 ∨ p.2.has n = true → val' n = val n := fun p hp n hn => hvF n (.inl (by
            obtain ⟨c1, c2⟩ := lowB_ok hb.2 hp
            rcases hn with rfl | hn
            · exact c1
            · exact c2 n hn))
          have hbB : blks val' s.B = blks val s.B := blks_congr fun n hn => by
            obtain ⟨p, hp, rfl⟩ := List.mem_map.1 hn
            exact hvB p hp _ (.inl rfl)
          have hkM : Keep (blks val s.all) h w h' w' := hk.mono' fun x hx => .inl (by show x ∈ blks val (s.B ++ s.F); rw [blks_append]; exact List.mem_append_right _ hx)
          have hall := H.inv
          have hbks := hall.bks
          have hnms := hall.nms
          unfold St.all at hbks hnms
          rw [blks_append] at hbks
          rw [names_append] at hnms
          obtain ⟨b1, b2, b3⟩ := List.nodup_append.1 hbks
          obtain ⟨m1, m2, m3⟩ := List.nodup_append.1 hnms
          have hlt : ∀ g ∈ blks val s.B, g < w.heap.size := fun g hg => hall.blk_lt g (by unfold St.all; rw [blks_append]; exact List.mem_append_left _ hg)
          refine hK h' w' val' u hr ⟨RAs.congr _ _ (fun n hn => hvF n (.inl (lowE_ok hb.1.2 n hn))) (RAs.stays hk.stays _ _ _ H.e), ⟨fun p hp => ?_, ?_, ?_⟩, hFar, H.defs.keep H.inv hkM (fun b hb => hb) (hvF bn (.inr rfl))⟩ ⟨hkM, fun n hn => hvF n (.inr hn), fun b hb' => ?_⟩
          · rcases List.mem_append.1 hp with hp | hp
            · refine RB.congr (hvB p hp _ (.inl rfl)) (fun m hm => hvB p hp m (.inr hm)) (RB.stays hk.stays (fun g hg => ?_) (hall.rep p (List.mem_append_left _ hp)))
              have hgB : g ∈ blks val s.B := Inv.blk_mem hp hg
              exact hk.far g (hlt g hgB) fun hgF => b3 g hgB g hgF rfl
            · exact hI.rep p hp
          · show (names (s.B ++ F)).Nodup
            rw [names_append, hnF]
            exact List.nodup_append.2 ⟨m1, m2, m3⟩
          · show (blks val' (s.B ++ F)).Nodup
            rw [blks_append, hbB]
            refine List.nodup_append.2 ⟨b1, hI.bks, fun x hx y hy e => ?_⟩
            subst e
            rcases hnew x hy with h1 | h1
            · exact b3 x hx x h1 rfl
            · have := hlt x hx
              omega
          · have hb1 : b ∈ blks val' (s.B ++ F) := hb'
            rw [blks_append, hbB] at hb1
            show b ∈ blks val (s.B ++ s.F) ∨ _
            rw [blks_append]
            rcases List.mem_append.1 hb1 with h1 | h1
            · exact .inl (List.mem_append_left _ h1)
            · rcases hnew b h1 with h2 | h2
              · exact .inl (List.mem_append_right _ h2)
              · exact .inr h2
        · cases he
      · cases he
    · cases he
  · cases he

def astep (P : Program) (ops : Array Oper) (ws : List (Nat × W)) (s : St) (o : Oper) : Option (Ob × St) :=
  if noDefer o.op then
    match guardB ops s o with
    | some true => match aop P o s (wOf ws o) with
      | some (Φ, r, s') => some (Φ, s'.put o.dst r)
      | none => match acallY o s (wOf ws o) with
        | some (Φ, r, s') => some (Φ, s'.put o.dst r)
        | none => match arwCut P o s (wOf ws o) with
          | some (Φ, r, es) => some (.c Φ, (s.edit es).put o.dst r)
          | none => match amit P o s (wOf ws o) with
            | some (Φ, r, es) => some (.c Φ, (s.edit es).put o.dst r)
            | none => none
    | some false => some (.c .t, s.put o.dst (.tup []))
    | none => none
  else none

theorem RA_undef {h w val} : RA h w val (.tup []) undef := by simp only [RA, RAs]; exact ⟨[], rfl, rfl⟩
theorem put_all (s : St) (d : Option Tmp) (v : A) : (s.put d v).all = s.all := by cases d <;> rfl
theorem Nx.put {s s' : St} {h w val h' w' val'} (n : Nx s h w val s' h' w' val') (d : Option Tmp) (v : A) : Nx s h w val (s'.put d v) h' w' val' :=
  ⟨n.keep, n.vals, by rw [put_all]; exact n.new⟩

theorem astep_ok {rd : Option Nat} {P : Program} {ops : Array Oper} {ws : List (Nat × W)} {s s' : St} {o : Oper} {L : Lp} {Φ : Ob} (he : astep P ops ws s o = some (Φ, s')) (hΦ : Φ.ok P L)
    {h w val a} (H : Holds s h w val a) {i : Nat} (hi : ops[i]? = some o) {K : Act → World → Prop} {Q : Exit → Act → World → Prop}
    (hK : ∀ h' w' val' a', Holds s' h' w' val' a' → Nx s h w val s' h' w' val' → K a' w') : wpOpIn (fc rd) 0 P ops Q i K a w := by
  unfold astep at he
  split at he
  · rename_i hnd
    split at he
    · rename_i hg
      split at he
      · rename_i Φ' r s1 ho
        simp only [Option.some.injEq, Prod.mk.injEq] at he
        obtain ⟨rfl, rfl⟩ := he
        unfold wpOpIn
        rw [hi]
        simp only [guardB_ok hg H, if_true]
        exact wpIn_of_wp hnd (aop_ok ho hΦ h w val a H K Q fun h' w' val' u hr H' hn => hK h' w' val' _ (H'.put o.dst hr) (hn.put _ _))
      · split at he
        · rename_i Φ' r s1 ho
          simp only [Option.some.injEq, Prod.mk.injEq] at he
          obtain ⟨rfl, rfl⟩ := he
          unfold wpOpIn
          rw [hi]
          simp only [guardB_ok hg H, if_true]
          exact acallY_ok ho hnd hΦ H fun h' w' val' u hr H' hn => hK h' w' val' _ (H'.put o.dst hr) (hn.put _ _)
        · split at he
          · rename_i Φ' r es ho
            simp only [Option.some.injEq, Prod.mk.injEq] at he
            obtain ⟨rfl, rfl⟩ := he
            unfold wpOpIn
            rw [hi]
            simp only [guardB_ok hg H, if_true]
            exact wpIn_of_wp hnd (arwCut_ok ho hΦ h w val a H K Q fun h' w' val' u hr H' hn => hK h' w' val' _ (H'.put o.dst hr) (hn.put _ _))
          · split at he
            · rename_i Φ' r es ho
              simp only [Option.some.injEq, Prod.mk.injEq] at he
              obtain ⟨rfl, rfl⟩ := he
              unfold wpOpIn
              rw [hi]
              simp only [guardB_ok hg H, if_true]
              exact wpIn_of_wp hnd (amit_ok ho hΦ h w val a H K Q fun h' w' val' u hr H' hn => hK h' w' val' _ (H'.put o.dst hr) (hn.put _ _))
            · cases he
    · rename_i hg
      simp only [Option.some.injEq, Prod.mk.injEq] at he
      obtain ⟨rfl, rfl⟩ := he
      unfold wpOpIn
      rw [hi]
      simp only [guardB_ok hg H, Bool.false_eq_true, if_false]
      exact ⟨fun _ _ => trivial, hK h w val _ (H.put o.dst RA_undef) ((Nx.refl s h w val rfl).put _ _)⟩
    · cases he
  · cases he

theorem noDefer_eq (o : Op) : noDefer' o = noDefer o := by cases o <;> rfl
theorem aclear_step {rd : Option Nat} {P : Program} {ops : Array Oper} {s : St} {o o2 : Oper} {Φ : Cn} {es : List Ed} {wt : W} (he : aclear P s o o2 wt = some (Φ, es)) (hΦ : Φ.ok) {h w val a} (H : Holds s h w val a) {i : Nat} (hi : ops[i]? = some o) (hi2 : ops[i + 1]? = some o2)
    {K : Act → World → Prop} {Q : Exit → Act → World → Prop}
    (hK : ∀ h' w' val' a', Holds (((s.edit es).put o.dst .any).put o2.dst .any) h' w' val' a' → Nx s h w val (((s.edit es).put o.dst .any).put o2.dst .any) h' w' val' → K a' w') :
    wpOpIn (fc rd) 0 P ops Q i (fun a w => wpOpIn (fc rd) 0 P ops Q (i + 1) K a w) a w := by
  obtain ⟨d, u, w', hd, g1, g2, n1, n2, r1, r2, H2, N2⟩ := aclear_ok he hΦ H
  rw [noDefer_eq] at n1 n2
  unfold wpOpIn
  rw [hi, hi2]
  have w1 : Region.wanted o (yielded ops a.tmps) = true := by unfold Region.wanted; rw [g1]
  simp only [w1, if_true]
  refine wpIn_of_wp n1 (wp_of_run r1 ?_)
  have w2 : Region.wanted o2 (yielded ops (a.put o.dst u).tmps) = true := by unfold Region.wanted; rw [g2]
  simp only [w2, if_true]
  rw [hd]
  refine wpIn_of_wp n2 (wp_of_run r2 ?_)
  refine hK h w' val _ ?_ ?_
  · rw [hd]
    exact (H2.put (some d) (by simp [RA])).put o2.dst (by simp [RA])
  · exact (N2.put _ _).put _ _
def arun (P : Program) (ops : Array Oper) (ws : List (Nat × W)) : List Oper → St → Option (Ob × St)
  | [], s => some (.c .t, s)
  | o :: l, s => match astep P ops ws s o with
    | some (Φ, s1) => match arun P ops ws l s1 with
      | some (Ψ, s2) => some (Φ.and Ψ, s2)
      | none => none
    | none => match l with
      | [] => none
      | o2 :: l2 => match aclear P s o o2 (wOf ws o) with
        | some (Φ, es) => match arun P ops ws l2 (((s.edit es).put o.dst .any).put o2.dst .any) with
          | some (Ψ, s2) => some ((Ob.c Φ).and Ψ, s2)
          | none => none
        | none => none

theorem arun_ok {rd : Option Nat} {L : Lp} {P : Program} {ops : Array Oper} {ws : List (Nat × W)} {Q : Exit → Act → World → Prop} : ∀ (l : List Oper) (k : Nat) (s s' : St) (Φ : Ob), (∀ j, l[j]? = ops[k + j]?) → arun P ops ws l s = some (Φ, s') → Φ.ok P L →
    ∀ h w val a, Holds s h w val a → (∀ h' w' val' a', Holds s' h' w' val' a' → Nx s h w val s' h' w' val' → Q .normal a' w') → wpOpsIn (fc rd) 0 P ops Q (List.range' k l.length) a w
  | [], k, s, s', Φ, _, he, _, h, w, val, a, H, hQ => by
    simp only [arun, Option.some.injEq, Prod.mk.injEq] at he
    obtain ⟨_, rfl⟩ := he
    simp only [List.length_nil, List.range'_zero, wpOpsIn]
    exact hQ h w val a H (Nx.refl s h w val rfl)
  | [o], k, s, s', Φ, hl, he, hΦ, h, w, val, a, H, hQ => by
    simp only [arun] at he
    split at he
    · rename_i Φ1 s1 h1
      simp only [Option.some.injEq, Prod.mk.injEq] at he
      obtain ⟨rfl, rfl⟩ := he
      obtain ⟨hΦ1, _⟩ := Ob.and_ok hΦ
      have hk : ops[k]? = some o := by simpa using (hl 0).symm
      simp only [List.length_cons, List.range'_succ]
      rw [wpOpsIn_cons]
      refine astep_ok h1 hΦ1 H hk fun h' w' val' a' H' hn => ?_
      simp only [List.length_nil, List.range'_zero, wpOpsIn]
      exact hQ h' w' val' a' H' hn
    · cases he
  | o :: o2 :: l2, k, s, s', Φ, hl, he, hΦ, h, w, val, a, H, hQ => by
    rw [arun] at he
    have hk : ops[k]? = some o := by simpa using (hl 0).symm
    split at he
    · rename_i Φ1 s1 h1
      split at he
      · rename_i Ψ s2 h2
        simp only [Option.some.injEq, Prod.mk.injEq] at he
        obtain ⟨rfl, rfl⟩ := he
        obtain ⟨hΦ1, hΨ⟩ := Ob.and_ok hΦ
        rw [List.length_cons, List.range'_succ, wpOpsIn_cons]
        refine astep_ok h1 hΦ1 H hk fun h' w' val' a' H' hn => ?_
        exact arun_ok (o2 :: l2) (k + 1) s1 s2 Ψ (fun j => by have := hl (j + 1); simpa [Nat.add_assoc, Nat.add_comm 1 j] using this) h2 hΨ h' w' val' a' H' fun h2' w2 val2 a2 H2 hn2 => hQ h2' w2 val2 a2 H2 (hn.trans hn2)
      · cases he
    · split at he
      · rename_i Φ1 es h1
        split at he
        · rename_i Ψ s2 h2
          simp only [Option.some.injEq, Prod.mk.injEq] at he
          obtain ⟨rfl, rfl⟩ := he
          obtain ⟨hΦ1, hΨ⟩ := Ob.and_ok hΦ
          have hk2 : ops[k + 1]? = some o2 := by simpa using (hl 1).symm
          rw [List.length_cons, List.range'_succ, wpOpsIn_cons, List.length_cons, List.range'_succ]
          have e : (fun a w => wpOpsIn (fc rd) 0 P ops Q ((k + 1) :: List.range' (k + 1 + 1) l2.length) a w) = fun a w => wpOpIn (fc rd) 0 P ops Q (k + 1) (fun a w => wpOpsIn (fc rd) 0 P ops Q (List.range' (k + 1 + 1) l2.length) a w) a w := by
            funext a w; rw [wpOpsIn_cons]
          have := aclear_step (rd := rd) (Q := Q) h1 hΦ1 H hk hk2 (K := fun a w => wpOpsIn (fc rd) 0 P ops Q (List.range' (k + 1 + 1) l2.length) a w) fun h' w' val' a' H' hn =>
            arun_ok l2 (k + 1 + 1) _ s2 Ψ (fun j => by have := hl (j + 2); simpa [Nat.add_assoc, Nat.add_comm 1 j, Nat.add_comm 2 j] using this) h2 hΨ h' w' val' a' H' fun h2' w2 val2 a2 H2 hn2 => hQ h2' w2 val2 a2 H2 (hn.trans hn2)
          rw [← e] at this
          exact this
        · cases he
      · cases he
end Go.Ac
