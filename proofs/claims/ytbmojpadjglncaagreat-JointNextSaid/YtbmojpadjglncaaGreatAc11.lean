/- Own work: how calls of the model run over plain data. -/
import Derived.Test.YtbmojpadjglncaaGreatAc10e
import Derived.RangeFuncSeq
set_option linter.unusedVariables false
set_option linter.unusedSimpArgs false
namespace Go.Ac

def ACall (P : Program) (f : FuncId) (args : List A) (X : Bx) (r : A) (X' : Bx) : Prop :=
  ∀ h w val vs, Inv h w val X → RAs h w val args vs → Calls P f ⟨vs⟩ w fun e w' => ∃ h' val' u, e = .returned u ∧ Inv h' w' val' X' ∧ RA h' w' val' r u ∧
    Keep (blks val X) h w h' w' ∧ (∀ n, (n ∈ names X' → n ∈ names X) → val' n = val n) ∧ ∀ b ∈ blks val' X', b ∈ blks val X ∨ w.heap.size ≤ b

def ACallW (P : Program) (f : FuncId) (args : List A) (X : Bx) (r : A) (X' : Bx) : Prop :=
  ∀ h w val vs, Inv h w val X → RAs h w val args vs → Calls P f ⟨vs⟩ w fun e w' => ∃ h' val' u, e = .returned u ∧ Inv h' w' val' X' ∧ RA h' w' val' r u ∧
    Keep (blks val X) h w h' w' ∧ (∀ n, n ∉ names X' → val' n = val n) ∧ ∀ b ∈ blks val' X', b ∈ blks val X ∨ w.heap.size ≤ b
def AYield (P : Program) (l : Nat) (args : List A) (X : Bx) (r : A) (X' : Bx) : Prop :=
  ∀ h w val vs, Inv h w val X → RAs h w val args vs → YieldAt Fence.wide 0 P l ⟨vs⟩ w fun e w' => ∃ h' val' u, e = .returned u ∧ Inv h' w' val' X' ∧ RA h' w' val' r u ∧
    Keep (blks val X) h w h' w' ∧ (∀ n, n ∉ names X' → val' n = val n) ∧ ∀ b ∈ blks val' X', b ∈ blks val X ∨ w.heap.size ≤ b

inductive Ex where
  | normal
  | exit (id : Nat)
  | ret
def Ex.toExit : Ex → Exit
  | .normal => .normal
  | .exit id => .exit id
  | .ret => .ret
inductive Ob where
  | c (φ : Cn)
  | call (f : FuncId) (args : List A) (X : Bx) (r : A) (X' : Bx)
  | yld (l : Nat) (args : List A) (X : Bx) (r : A) (X' : Bx)
  | frame (F F' : Bx)
  | loop (path : List Nat) (s : St) (e : Ex) (s' : St)
  | both (a b : Ob)
abbrev Lp := List Nat → St → Ex → St → Prop
def Ob.ok (P : Program) (L : Lp) : Ob → Prop
  | .c φ => φ.ok
  | .call f args X r X' => ACall P f args X r X'
  | .yld l args X r X' => AYield P l args X r X'
  | .frame F F' => F' = F ∨ names F' = names F ∧ Far F'
  | .loop path s e s' => L path s e s'
  | .both a b => a.ok P L ∧ b.ok P L
def Ob.and : Ob → Ob → Ob
  | .c .t, b => b
  | a, .c .t => a
  | a, b => .both a b
theorem Ob.and_ok {P : Program} {L : Lp} {a b : Ob} (h : (a.and b).ok P L) : a.ok P L ∧ b.ok P L := by
  unfold Ob.and at h
  split at h
  · exact ⟨trivial, h⟩
  · exact ⟨h, trivial⟩
  · exact h

mutual
def A.bare : A → Bool
  | .d _ => true
  | .eptr _ => true
  | .clo _ fs cs => bares fs && bares cs
  | .agg cs => bares cs
  | .tup vs => bares vs
  | .nil => true
  | .any => true
  | .ub => true
  | _ => false
def bares : List A → Bool
  | [] => true
  | a :: as => a.bare && bares as
end
mutual
theorem RA.bare {h w} {val val' : Val} : ∀ (a : A) (u : Value), a.bare = true → RA h w val a u → RA h w val' a u
  | .d _, u, _, hr => by simpa only [RA] using hr
  | .eptr _, u, _, hr => by simpa only [RA] using hr
  | .nil, u, _, hr => by simpa only [RA] using hr
  | .ub, u, _, hr => by simpa only [RA] using hr
  | .any, u, _, hr => by simp [RA]
  | .box .., u, hb, hr => by simp [A.bare] at hb
  | .bsl .., u, hb, hr => by simp [A.bare] at hb
  | .row .., u, hb, hr => by simp [A.bare] at hb
  | .opq .., u, hb, hr => by simp [A.bare] at hb
  | .clo f x y, u, hb, hr => by
    simp only [A.bare, Bool.and_eq_true] at hb
    simp only [RA] at hr ⊢
    obtain ⟨fs, cs, e, h1, h2⟩ := hr
    exact ⟨fs, cs, e, RAs.bare x fs hb.1 h1, RAs.bare y cs hb.2 h2⟩
  | .agg cs, u, hb, hr => by
    simp only [A.bare] at hb
    simp only [RA] at hr ⊢
    obtain ⟨us, e, h1, h2⟩ := hr
    exact ⟨us, e, RAs.bare cs us hb h1, h2⟩
  | .tup cs, u, hb, hr => by
    simp only [A.bare] at hb
    simp only [RA] at hr ⊢
    obtain ⟨us, e, h1⟩ := hr
    exact ⟨us, e, RAs.bare cs us hb h1⟩
theorem RAs.bare {h w} {val val' : Val} : ∀ (as : List A) (us : List Value), bares as = true → RAs h w val as us → RAs h w val' as us
  | [], us, _, hr => by simpa [RAs] using hr
  | a :: as, us, hb, hr => by
    simp only [bares, Bool.and_eq_true] at hb
    simp only [RAs] at hr ⊢
    obtain ⟨u, us', e, h1, h2⟩ := hr
    exact ⟨u, us', e, RA.bare a u hb.1 h1, RAs.bare as us' hb.2 h2⟩
end

theorem Inv.nil (h : Hw) (w : World) (val : Val) : Inv h w val [] := ⟨(fun _ hp => by cases hp), List.nodup_nil, List.nodup_nil⟩

theorem Inv.quiet {h w val h' w'} {B : Bx} (I : Inv h w val B) (k : Keep [] h w h' w') : Inv h' w' val B :=
  ⟨fun p hp => RB.stays k.stays (fun g hg => k.far g (I.blk_lt g (Inv.blk_mem hp hg)) (by simp)) (I.rep p hp), I.nms, I.bks⟩
theorem Holds.quiet {s : St} {h w val h' w'} {a : Act} (H : Holds s h w val a) (k : Keep [] h w h' w') : Holds s h' w' val a :=
  ⟨RAs.stays k.stays _ _ _ H.e, H.inv.quiet k, H.far, H.defs.keep H.inv k (fun b hb => by cases hb) rfl⟩

def fnOk (P : Program) (f : FuncId) : Bool :=
  match P.funcs[f]? with
  | some fn => fn.name != "runtime.NumGoroutine" && fn.body.isSome
  | none => false
theorem run_callFunc {P : Program} {f : FuncId} (hf : fnOk P f = true) (args : Array Value) (w : World) : (callFunc f args).run P w = .ok (.enter f args) w := by
  unfold fnOk at hf
  split at hf
  · rename_i fn hfn
    simp only [Bool.and_eq_true, bne_iff_ne] at hf
    have h2 : ¬ fn.body = none := fun e => by rw [e] at hf; cases hf.2
    simp [callFunc, hfn, hf.1, h2]
  · cases hf

def calleeOf : A → Option (FuncId × List A × List A)
  | .clo (.func f) fs cs => some (f, fs, cs)
  | .opq (.clo (.func f) fs cs) => some (f, fs.map .opq, cs.map .opq)
  | .d (.v (.func (.func f) fs cs)) => if fs.size == 0 && cs.size == 0 then some (f, [], []) else none
  | _ => none
theorem RAs_opq {h w val} : ∀ {as : List A} {us : List Value}, RAs h w (fun n => val (n + up)) as us → RAs h w val (as.map .opq) us
  | [], us, hr => by simpa [RAs] using hr
  | a :: as, us, hr => by
    simp only [RAs] at hr
    obtain ⟨u, us', e, h1, h2⟩ := hr
    simp only [List.map_cons, RAs, RA]
    exact ⟨u, us', e, h1, RAs_opq h2⟩
theorem calleeOf_ok {h w val} {a : A} {f : FuncId} {fs cs : List A} {u : Value} (he : calleeOf a = some (f, fs, cs)) (hr : RA h w val a u) :
    ∃ us vs, u = .func (.func f) ⟨us⟩ ⟨vs⟩ ∧ RAs h w val fs us ∧ RAs h w val cs vs := by
  unfold calleeOf at he
  split at he
  · simp only [Option.some.injEq, Prod.mk.injEq] at he
    obtain ⟨rfl, rfl, rfl⟩ := he
    simpa only [RA] using hr
  · simp only [Option.some.injEq, Prod.mk.injEq] at he
    obtain ⟨rfl, rfl, rfl⟩ := he
    simp only [RA] at hr
    obtain ⟨us, vs, e, h1, h2⟩ := hr
    exact ⟨us, vs, e, RAs_opq h1, RAs_opq h2⟩
  · split at he
    · rename_i hb
      simp only [Option.some.injEq, Prod.mk.injEq] at he
      obtain ⟨rfl, rfl, rfl⟩ := he
      simp only [Bool.and_eq_true, beq_iff_eq] at hb
      simp only [RA, RD] at hr
      rw [Array.eq_empty_of_size_eq_zero hb.1, Array.eq_empty_of_size_eq_zero hb.2] at hr
      exact ⟨[], [], hr.1, by simp [RAs], by simp [RAs]⟩
    · cases he
  · cases he

def acallP (P : Program) (o : Oper) (s : St) (wt : W) : Option (Ob × A) :=
  match o.op with
  | .call c => match c.callee with
    | .value g => match calleeOf (s.ev g), wt with
      | some (f, fs, cs), .ret r =>
        if fnOk P f && bares (fs ++ c.args.toList.map (fun x => s.look (s.ev x)) ++ cs) && r.bare then
          some (.call f (fs ++ c.args.toList.map (fun x => s.look (s.ev x)) ++ cs) [] r [], r) else none
      | _, _ => none
    | _ => none
  | _ => none
def acallO (P : Program) (o : Oper) (s : St) (wt : W) : Option (Ob × A × St) :=
  match o.op with
  | .call c => match c.callee with
    | .value g => match calleeOf (s.ev g), wt with
      | some (f, fs, cs), .own raw r B F =>
        if fnOk P f && B.all (fun p => (names s.B).contains p.1 || (decide (p.1 < up) && !hasAny p.1 s.E)) then
          some (.both (.call f (fs ++ c.args.toList.map (fun x => if raw then s.ev x else s.look (s.ev x)) ++ cs) (s.B ++ s.F) r (B ++ F)) (.frame s.F F), r, { s with B := B, F := F }) else none
      | _, _ => none
    | _ => none
  | _ => none

mutual
theorem RA.congr {h w} {val val' : Val} : ∀ (a : A) (u : Value), (∀ n, a.has n = true → val' n = val n) → RA h w val a u → RA h w val' a u
  | .ub, u, _, hr => by simpa only [RA] using hr
  | .d _, u, _, hr => by simpa only [RA] using hr
  | .eptr _, u, _, hr => by simpa only [RA] using hr
  | .nil, u, _, hr => by simpa only [RA] using hr
  | .any, u, _, hr => by simp [RA]
  | .box n off, u, hb, hr => by
    have := hb n (by simp [A.has])
    simpa only [RA, this] using hr
  | .bsl n off l, u, hb, hr => by
    have := hb n (by simp [A.has])
    simpa only [RA, this] using hr
  | .ep n k i off, u, hb, hr => by
    have := hb n (by simp [A.has])
    simpa only [RA, this] using hr
  | .row n, u, hb, hr => by
    have := hb n (by simp [A.has])
    simpa only [RA, this] using hr
  | .opq a, u, hb, hr => by
    simp only [RA] at hr ⊢
    have : (fun n => val' (n + up)) = fun n => val (n + up) := by
      funext n
      exact hb (n + up) (by simp only [A.has]; exact Nat.ble_eq_true_of_le (Nat.le_add_left _ _))
    rw [this]
    exact hr
  | .clo f x y, u, hb, hr => by
    simp only [RA] at hr ⊢
    obtain ⟨fs, cs, e, h1, h2⟩ := hr
    exact ⟨fs, cs, e, RAs.congr x fs (fun n hn => hb n (by simp [A.has, hn])) h1, RAs.congr y cs (fun n hn => hb n (by simp [A.has, hn])) h2⟩
  | .agg cs, u, hb, hr => by
    simp only [RA] at hr ⊢
    obtain ⟨us, e, h1, h2⟩ := hr
    exact ⟨us, e, RAs.congr cs us (fun n hn => hb n (by simpa only [A.has] using hn)) h1, h2⟩
  | .tup cs, u, hb, hr => by
    simp only [RA] at hr ⊢
    obtain ⟨us, e, h1⟩ := hr
    exact ⟨us, e, RAs.congr cs us (fun n hn => hb n (by simpa only [A.has] using hn)) h1⟩
theorem RAs.congr {h w} {val val' : Val} : ∀ (as : List A) (us : List Value), (∀ n, hasAny n as = true → val' n = val n) → RAs h w val as us → RAs h w val' as us
  | [], us, _, hr => by simpa [RAs] using hr
  | a :: as, us, hb, hr => by
    simp only [RAs] at hr ⊢
    obtain ⟨u, us', e, h1, h2⟩ := hr
    exact ⟨u, us', e, RA.congr a u (fun n hn => hb n (by simp [hasAny, hn])) h1, RAs.congr as us' (fun n hn => hb n (by simp [hasAny, hn])) h2⟩
end

theorem run_call {P : Program} {o : Oper} {callee : Operand} {args : Array Operand} {argTypes : Array TypeId} {ρ : Operand → Value} {w : World} {f : FuncId} {us vs : List Value}
    (ho : o.op = .call { callee := .value callee, args, argTypes }) (e1 : ρ callee = .func (.func f) ⟨us⟩ ⟨vs⟩) (hf : fnOk P f = true) :
    (execOp ρ o).run P w = .ok (.enter f ⟨us ++ args.toList.map ρ ++ vs⟩) w := by
  have harr : (⟨us⟩ : Array Value) ++ args.map ρ ++ ⟨vs⟩ = ⟨us ++ args.toList.map ρ ++ vs⟩ := by
    apply Array.ext'; simp
  simp only [execOp, ho, resolve, e1, Deferred.ofValue, Sem.run_bind, Sem.run_pure, Result.andThen_ok, invoke]
  rw [harr, run_callFunc hf]

theorem acallP_ok {P : Program} {o : Oper} {s : St} {wt : W} {L : Lp} {Φ : Ob} {r : A} (he : acallP P o s wt = some (Φ, r)) : OpOk P o s (Φ.ok P L) r s := by
  intro hΦ h w val a H K Q hK
  unfold acallP at he
  split at he
  · rename_i c ho
    obtain ⟨callee, args, argTypes⟩ := c
    simp only at he
    split at he
    · rename_i g
      split at he
      · rename_i f fs cs r' hg
        obtain ⟨us, vs, e1, hfs, hcs⟩ := calleeOf_ok hg (H.ev g)
        split at he
        · rename_i hb
          simp only [Bool.and_eq_true] at hb
          simp only [Option.some.injEq, Prod.mk.injEq] at he
          obtain ⟨rfl, rfl⟩ := he
          simp only [Ob.ok] at hΦ
          unfold Oper.wp
          rw [run_call ho e1 hb.1.1, Oper.upon_enter]
          have hargs : RAs h w val (fs ++ args.toList.map (fun x => s.look (s.ev x)) ++ cs) (us ++ args.toList.map a.eval ++ vs) :=
            (hfs.append (RAs_map (f := fun x => s.look (s.ev x)) (fun x => H.look (H.ev x)) _)).append hcs
          refine (hΦ h w val _ (Inv.nil h w val) hargs).mono fun e w' hh => ?_
          obtain ⟨h', val', u, rfl, _, hr, hk, _, _⟩ := hh
          have hk0 : Keep [] h w h' w' := hk
          exact hK h' w' val u (RA.bare _ _ hb.2 hr) (H.quiet hk0) ⟨hk0.mono' (fun x hx => by cases hx), fun _ _ => rfl, fun b hb => .inl hb⟩
        · cases he
      · cases he
    · cases he
  · cases he

theorem acallO_ok {P : Program} {o : Oper} {s s' : St} {wt : W} {L : Lp} {Φ : Ob} {r : A} (he : acallO P o s wt = some (Φ, r, s')) : OpOk P o s (Φ.ok P L) r s' := by
  intro hΦ h w val a H K Q hK
  unfold acallO at he
  split at he
  · rename_i c ho
    obtain ⟨callee, args, argTypes⟩ := c
    simp only at he
    split at he
    · rename_i g
      split at he
      · rename_i f fs cs raw r' B F hg
        obtain ⟨us, vs, e1, hfs, hcs⟩ := calleeOf_ok hg (H.ev g)
        split at he
        · rename_i hb
          simp only [Bool.and_eq_true] at hb
          simp only [Option.some.injEq, Prod.mk.injEq] at he
          obtain ⟨rfl, rfl, rfl⟩ := he
          simp only [Ob.ok] at hΦ
          obtain ⟨hc, hF⟩ := hΦ
          unfold Oper.wp
          rw [run_call ho e1 hb.1, Oper.upon_enter]
          have hargs : RAs h w val (fs ++ args.toList.map (fun x => if raw then s.ev x else s.look (s.ev x)) ++ cs) (us ++ args.toList.map a.eval ++ vs) :=
            (hfs.append (RAs_map (f := fun x => if raw then s.ev x else s.look (s.ev x)) (fun x => by
              cases raw
              · exact H.look (H.ev x)
              · exact H.ev x) _)).append hcs
          have hnF : names F = names s.F := by
            rcases hF with e | e
            · rw [e]
            · exact e.1
          have hFar : Far F := by
            rcases hF with e | e
            · rw [e]; exact H.far
            · exact e.2
          refine (hc h w val _ H.inv hargs).mono fun e w' hh => ?_
          obtain ⟨h', val', u, rfl, hI, hr, hk, hv, hnew⟩ := hh
          have hfresh : ∀ n, n ∈ names (B ++ F) → n ∉ names (s.B ++ s.F) → n < up ∧ hasAny n s.E = false := by
            intro n hn hnn
            rw [names_append] at hn hnn
            rcases List.mem_append.1 hn with hn | hn
            · obtain ⟨p, hp, rfl⟩ := List.mem_map.1 hn
              have := List.all_eq_true.1 hb.2 p hp
              simp only [Bool.or_eq_true, Bool.and_eq_true, decide_eq_true_eq, Bool.not_eq_true', List.contains_iff_mem] at this
              rcases this with h1 | h1
              · exact absurd (List.mem_append_left _ h1) hnn
              · exact h1
            · exact absurd (List.mem_append_right _ (hnF ▸ hn)) hnn
          have hval : ∀ n, (n < up → hasAny n s.E = true) → val' n = val n := by
            intro n hn
            apply hv
            intro hn1
            apply Classical.byContradiction
            intro hn2
            obtain ⟨c1, c2⟩ := hfresh n hn1 hn2
            rw [hn c1] at c2
            cases c2
          exact hK h' w' val' u hr ⟨RAs.congr _ _ (fun n hn => hval n fun _ => hn) (RAs.stays hk.stays _ _ _ H.e), hI, hFar, H.defs.keep H.inv hk (fun b hb => hb) (hval bn fun h => absurd h (by decide))⟩ ⟨hk, fun n hn => hval n fun hlt => absurd hlt (Nat.not_lt.2 (up_le hn)), hnew⟩
        · cases he
      · cases he
    · cases he
  · cases he
end Go.Ac
