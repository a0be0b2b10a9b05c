/-
  Part of a proof: how calls of the model run over plain data (own work; no conditions).
-/
import Derived.Test.YtclhiklmoenkeaaAc11
import Derived.RangeFuncLeaves
import Derived.RangeFuncCalls
import Derived.OrdersIn
set_option linter.unusedVariables false
set_option linter.unusedSimpArgs false
namespace Go.Ac

/-- the fence without a wall; 'rd': in a round of a range over a function -/
def fc (rd : Option Nat) : Fence := { Fence.wide with round := rd }
theorem fc_depth (rd : Option Nat) : (fc rd).depth.isSome = true → 1 ≤ 0 := by intro h; cases h

theorem callsIn_fc {rd : Option Nat} {n : Nat} {P : Program} {f : FuncId} {args : Array Value} {w : World} {R : Ending → World → Prop} (h : Calls P f args w R) : CallsIn (fc rd) n P f args w R := by
  have h1 := (callsIn_wide (n := n)).2 h
  cases rd with
  | none => exact h1
  | some l => exact CallsIn.inRound l h1
theorem rowsIn_fc {rd : Option Nat} {n : Nat} {P : Program} {row : String} {args : Array Value} {w : World} {R : Value → World → Prop} (h : Rows P row args w R) : RowsIn (fc rd) n P row args w R :=
  fun c cs _ => let ⟨v, w', r, s⟩ := h c cs; ⟨v, w', r, (StepsIn.of_steps s).mono fun m _ => fenced_wide P m⟩

/-- not a deferred call -/
def noDefer : Op → Bool
  | .defer _ => false
  | _ => true
theorem semAt_noDefer {o : Oper} (h : noDefer o.op = true) (rd : Option Nat) (ρ : Operand → Value) : o.semAt rd ρ = execOp ρ o := by
  cases rd with
  | none => rfl
  | some l =>
    unfold Oper.semAt
    cases ho : o.op <;> simp_all [noDefer]

theorem wpIn_of_wp {rd : Option Nat} {P : Program} {o : Oper} {a : Act} {w : World} {K : Act → World → Prop} {Q : Exit → Act → World → Prop} (hd : noDefer o.op = true) (h : o.wp P a w K Q) : o.wpIn (fc rd) 0 P a w K Q := by
  refine ⟨fun _ _ => trivial, ?_⟩
  rw [semAt_noDefer hd]
  unfold Oper.wp at h
  generalize (execOp a.eval o).run P w = r at h ⊢
  cases r with
  | ok x w' =>
    cases x <;> simp only [Oper.upon, Oper.uponIn] at h ⊢ <;> first
      | exact h
      | exact ⟨fc_depth rd, callsIn_fc h⟩
      | exact ⟨fc_depth rd, rowsIn_fc h⟩
      | exact h.elim
  | halt x w' => cases x <;> simp only [Oper.upon, Oper.uponIn] at h ⊢ <;> exact h

/-! ### guards -/
def guardB (ops : Array Oper) (s : St) (o : Oper) : Option Bool :=
  match o.guard with
  | none => some true
  | some (j, want) => match (ops[j]?).bind (·.dst) with
    | some t => match s.E[t]? with
      | some (.d (.v (.bool b))) => some (b == want)
      | some (.tup []) => some false
      | _ => none
    | none => none
theorem guardB_ok {ops : Array Oper} {s : St} {o : Oper} {b : Bool} {h w val a} (he : guardB ops s o = some b) (H : Holds s h w val a) : Region.wanted o (yielded ops a.tmps) = b := by
  unfold guardB at he
  unfold Region.wanted
  split at he
  · rename_i hg; simp only [Option.some.injEq] at he; rw [hg]; exact he
  · rename_i j want hg
    rw [hg]
    simp only
    split at he
    · rename_i t ht
      split at he
      · rename_i c hc
        simp only [Option.some.injEq] at he
        obtain ⟨u, hu, hr⟩ := RAs.get H.e t _ hc
        simp only [RA, RD] at hr
        have hu' : a.tmps[t]? = some u := by simpa using hu
        simp only [yielded, ht, Option.bind_some, hu', hr.1]
        rw [← he]
        cases c <;> cases want <;> rfl
      · rename_i hc
        simp only [Option.some.injEq] at he
        obtain ⟨u, hu, hr⟩ := RAs.get H.e t _ hc
        simp only [RA, RAs] at hr
        obtain ⟨us, e1, e2⟩ := hr
        have hu' : a.tmps[t]? = some u := by simpa using hu
        simp only [yielded, ht, Option.bind_some, hu', e1, e2]
        rw [← he]
        rfl
      · cases he
    · cases he

/-! ### one operation -/
/-- which of the executor's parts runs an operation -/
def isBuf (s : St) (x : A) : Bool := (bufAt s x).isSome
def isEp : A → Bool
  | .ep _ _ _ _ => true
  | _ => false
def tagOf (P : Program) (s : St) (o : Oper) : Nat :=
  match o.op with
  | .alloc t => if isArr P t then 8 else 2
  | .makeSlice _ _ _ => 8
  | .box _ _ => 2
  | .store _ x _ => if isEp (s.ev x) then 9 else 3
  | .indexAddr _ x _ => if isBuf s (s.ev x) then 9 else 0
  | .slice _ x none none none => if isBuf s (s.ev x) then 9 else 0
  | .move x => if isBuf s (s.ev x) then 9 else 0
  | .buildSlice _ _ _ => 5
  | .build _ _ => 7
  | .load _ x => match s.ev x with
    | .eptr _ => 0
    | .ep _ _ _ _ => 9
    | _ => 1
  | .call c => match c.callee with
    | .builtin .append => 4
    | .builtin .copy => 10
    | .builtin .len => match c.args.toList with
      | [x] => if isBuf s (s.ev x) then 9 else 0
      | _ => 0
    | .builtin _ => 0
    | _ => 6
  | _ => 0
def aopT (P : Program) (o : Oper) (s : St) (wt : W) : Nat → Option (Ob × A × List Ed)
  | 0 => (apure P o s.ev (fun x => s.look (s.ev x)) wt).map fun p => (.c p.1, p.2, [])
  | 1 => (aload P o s wt).map fun p => (.c p.1, p.2, [])
  | 2 => (abox P o s).map fun p => (.c .t, p.1, p.2)
  | 3 => (astore P o s).map fun es => (.c .t, .any, es)
  | 4 => (aappend P o s wt).map fun p => (.c p.1, p.2)
  | 5 => (abuildSlice P o s).map fun p => (.c p.1, p.2)
  | 6 => (acallP P o s wt).map fun p => (p.1, p.2, [])
  | 7 => (abuild P o (fun x => s.look (s.ev x))).map fun r => (.c .t, r, [])
  | 8 => (abufMk P o s wt).map fun p => (.c p.1, p.2)
  | 9 => (abufAt P o s wt).map fun p => (.c p.1, p.2)
  | 10 => (abufCopy P o s wt).map fun p => (.c p.1, p.2)
  | _ => none
theorem aopT_ok {P : Program} {o : Oper} {s : St} {es : List Ed} {wt : W} {L : Lp} {Φ : Ob} {r : A} : ∀ {k : Nat}, aopT P o s wt k = some (Φ, r, es) → OpOk P o s (Φ.ok P L) r (s.edit es)
  | 0, he => by
    simp only [aopT, Option.map_eq_some_iff, Prod.mk.injEq] at he
    obtain ⟨p, h, rfl, rfl, rfl⟩ := he
    exact pure_ok h
  | 1, he => by
    simp only [aopT, Option.map_eq_some_iff, Prod.mk.injEq] at he
    obtain ⟨p, h, rfl, rfl, rfl⟩ := he
    exact aload_ok h
  | 2, he => by
    simp only [aopT, Option.map_eq_some_iff, Prod.mk.injEq] at he
    obtain ⟨p, h, rfl, rfl, rfl⟩ := he
    exact abox_ok h
  | 3, he => by
    simp only [aopT, Option.map_eq_some_iff, Prod.mk.injEq] at he
    obtain ⟨p, h, rfl, rfl, rfl⟩ := he
    exact astore_ok h
  | 4, he => by
    simp only [aopT, Option.map_eq_some_iff, Prod.mk.injEq] at he
    obtain ⟨p, h, rfl, e⟩ := he
    exact aappend_ok (by rw [h]; rw [← e])
  | 5, he => by
    simp only [aopT, Option.map_eq_some_iff, Prod.mk.injEq] at he
    obtain ⟨p, h, rfl, e⟩ := he
    exact abuildSlice_ok (by rw [h]; rw [← e])
  | 6, he => by
    simp only [aopT, Option.map_eq_some_iff, Prod.mk.injEq] at he
    obtain ⟨p, h, rfl, rfl, rfl⟩ := he
    exact acallP_ok h
  | 7, he => by
    simp only [aopT, Option.map_eq_some_iff, Prod.mk.injEq] at he
    obtain ⟨p, h, rfl, rfl, rfl⟩ := he
    exact fun _ => abuild_ok h trivial
  | 8, he => by
    simp only [aopT, Option.map_eq_some_iff, Prod.mk.injEq] at he
    obtain ⟨p, h, rfl, e⟩ := he
    exact abufMk_ok (by rw [h]; rw [← e])
  | 9, he => by
    simp only [aopT, Option.map_eq_some_iff, Prod.mk.injEq] at he
    obtain ⟨p, h, rfl, e⟩ := he
    exact abufAt_ok (by rw [h]; rw [← e])
  | 10, he => by
    simp only [aopT, Option.map_eq_some_iff, Prod.mk.injEq] at he
    obtain ⟨p, h, rfl, e⟩ := he
    exact abufCopy_ok (by rw [h]; rw [← e])
  | k + 11, he => by simp only [aopT] at he; cases he
/-- an operation that is no call with boxes: what it hands back, what it does to the boxes -/
def aopE (P : Program) (o : Oper) (s : St) (wt : W) : Option (Ob × A × List Ed) := aopT P o s wt (tagOf P s o)
theorem aopE_ok {P : Program} {o : Oper} {s : St} {es : List Ed} {wt : W} {L : Lp} {Φ : Ob} {r : A} (he : aopE P o s wt = some (Φ, r, es)) : OpOk P o s (Φ.ok P L) r (s.edit es) := aopT_ok he
def aop (P : Program) (o : Oper) (s : St) (wt : W) : Option (Ob × A × St) :=
  match aopE P o s wt with
  | some (Φ, r, es) => some (Φ, r, s.edit es)
  | none => acallO P o s wt
theorem aop_ok {P : Program} {o : Oper} {s s' : St} {wt : W} {L : Lp} {Φ : Ob} {r : A} (he : aop P o s wt = some (Φ, r, s')) : OpOk P o s (Φ.ok P L) r s' := by
  unfold aop at he
  split at he
  · rename_i h; simp only [Option.some.injEq, Prod.mk.injEq] at he; obtain ⟨rfl, rfl, rfl⟩ := he; exact aopE_ok h
  · exact acallO_ok he

def wOf (ws : List (Nat × W)) (o : Oper) : W :=
  match o.dst with
  | some d => ((ws.find? fun p => p.1 == d).map (·.2)).getD .no
  | none => match o.op with
    | .store _ (.tmp t) _ => ((ws.find? fun p => p.1 == t + 10000).map (·.2)).getD .no
    | _ => .no

def astep (P : Program) (ops : Array Oper) (ws : List (Nat × W)) (s : St) (o : Oper) : Option (Ob × St) :=
  if noDefer o.op then
    match guardB ops s o with
    | some true => match aop P o s (wOf ws o) with
      | some (Φ, r, s') => some (Φ, s'.put o.dst r)
      | none => none
    | some false => some (.c .t, s.put o.dst (.tup []))
    | none => none
  else none

theorem RA_undef {h w val} : RA h w val (.tup []) undef := by simp only [RA, RAs]; exact ⟨[], rfl, rfl⟩
theorem put_all (s : St) (d : Option Tmp) (v : A) : (s.put d v).all = s.all := by cases d <;> rfl
theorem Nx.put {s s' : St} {h w val h' w' val'} (n : Nx s h w val s' h' w' val') (d : Option Tmp) (v : A) : Nx s h w val (s'.put d v) h' w' val' :=
  ⟨n.keep, n.vals, by rw [put_all]; exact n.new⟩

/-- One operation of a region, at its turn. -/
theorem astep_ok {rd : Option Nat} {P : Program} {ops : Array Oper} {ws : List (Nat × W)} {s s' : St} {o : Oper} {L : Lp} {Φ : Ob} (he : astep P ops ws s o = some (Φ, s')) (hΦ : Φ.ok P L)
    {h w val a} (H : Holds s h w val a) {i : Nat} (hi : ops[i]? = some o) {K : Act → World → Prop} {Q : Exit → Act → World → Prop}
    (hK : ∀ h' w' val' a', Holds s' h' w' val' a' → Nx s h w val s' h' w' val' → K a' w') : wpOpIn (fc rd) 0 P ops Q i K a w := by
  unfold astep at he
  split at he
  · rename_i hnd
    split at he
    · rename_i hg
      split at he
      · rename_i Φ' r s1 ho
        simp only [Option.some.injEq, Prod.mk.injEq] at he
        obtain ⟨rfl, rfl⟩ := he
        unfold wpOpIn
        rw [hi]
        simp only [guardB_ok hg H, if_true]
        exact wpIn_of_wp hnd (aop_ok ho hΦ h w val a H K Q fun h' w' val' u hr H' hn => hK h' w' val' _ (H'.put o.dst hr) (hn.put _ _))
      · cases he
    · rename_i hg
      simp only [Option.some.injEq, Prod.mk.injEq] at he
      obtain ⟨rfl, rfl⟩ := he
      unfold wpOpIn
      rw [hi]
      simp only [guardB_ok hg H, Bool.false_eq_true, if_false]
      exact ⟨fun _ _ => trivial, hK h w val _ (H.put o.dst RA_undef) ((Nx.refl s h w val rfl).put _ _)⟩
    · cases he
  · cases he

/-! ### a region in the order of the text -/
def arun (P : Program) (ops : Array Oper) (ws : List (Nat × W)) : List Oper → St → Option (Ob × St)
  | [], s => some (.c .t, s)
  | o :: l, s => match astep P ops ws s o with
    | some (Φ, s1) => match arun P ops ws l s1 with
      | some (Ψ, s2) => some (Φ.and Ψ, s2)
      | none => none
    | none => none

theorem arun_ok {rd : Option Nat} {L : Lp} {P : Program} {ops : Array Oper} {ws : List (Nat × W)} {Q : Exit → Act → World → Prop} : ∀ (l : List Oper) (k : Nat) (s s' : St) (Φ : Ob), (∀ j, l[j]? = ops[k + j]?) → arun P ops ws l s = some (Φ, s') → Φ.ok P L →
    ∀ h w val a, Holds s h w val a → (∀ h' w' val' a', Holds s' h' w' val' a' → Nx s h w val s' h' w' val' → Q .normal a' w') → wpOpsIn (fc rd) 0 P ops Q (List.range' k l.length) a w
  | [], k, s, s', Φ, _, he, _, h, w, val, a, H, hQ => by
    simp only [arun, Option.some.injEq, Prod.mk.injEq] at he
    obtain ⟨_, rfl⟩ := he
    simp only [List.length_nil, List.range'_zero, wpOpsIn]
    exact hQ h w val a H (Nx.refl s h w val rfl)
  | o :: l, k, s, s', Φ, hl, he, hΦ, h, w, val, a, H, hQ => by
    simp only [arun] at he
    split at he
    · rename_i Φ1 s1 h1
      split at he
      · rename_i Ψ s2 h2
        simp only [Option.some.injEq, Prod.mk.injEq] at he
        obtain ⟨rfl, rfl⟩ := he
        obtain ⟨hΦ1, hΨ⟩ := Ob.and_ok hΦ
        have hk : ops[k]? = some o := by simpa using (hl 0).symm
        simp only [List.length_cons, List.range'_succ]
        rw [wpOpsIn_cons]
        refine astep_ok h1 hΦ1 H hk fun h' w' val' a' H' hn => ?_
        exact arun_ok l (k + 1) s1 s2 Ψ (fun j => by have := hl (j + 1); simpa [Nat.add_assoc, Nat.add_comm 1 j] using this) h2 hΨ h' w' val' a' H' fun h2' w2 val2 a2 H2 hn2 => hQ h2' w2 val2 a2 H2 (hn.trans hn2)
      · cases he
    · cases he
end Go.Ac
