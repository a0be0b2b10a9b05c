/- Own work: how calls of the model run over plain data. -/
import Derived.Test.YtbmojpadjglncaaGreatAc2
import Derived.WalkLawsBesides
set_option linter.unusedVariables false
set_option linter.unusedSimpArgs false
namespace Go.Ac

structure St where
  E : List A
  B : Bx
  F : Bx
def St.all (s : St) : Bx := s.B ++ s.F

inductive W where
  | no
  | bit (b : Bool)
  | el (x : D)
  | int (n : Int)
  | str (l : List UInt8)
  | sl (xs : List D)
  | ret (r : A)
  | frz
  | own (raw : Bool) (r : A) (B F : Bx)
  | cx (raw : Bool) (ρ0 ρ1 : List (Nat × Nat)) (r : A) (X' : Bx)
  | lend (ns : List Nat) (r : A)
  | fzn (m : Nat)
  | rwl (zs : List D)
  | mg (v : D) (ok : Bool)
  | mp (clk : Nat) (es : List (Nat × D × D))
  | ms (S : List (D × D))
  | en (k v : D)
  | me (clk : Nat) (es : List (Nat × D × D)) (v : D) (st : Nat)

def cstCell : Value → D
  | .slice none 0 0 => .sl []
  | x => .v x
def cst : Value → A
  | .slice none 0 0 => .nil
  | .agg cs => if cs.toList.all (·.oneCell') then .d (.agg (cs.toList.map cstCell)) else .any
  | .tuple _ => .any
  | x => .d (.v x)

def St.ev (s : St) : Operand → A
  | .tmp t => s.E.getD t .any
  | .const v => cst v
  | .global _ => .any
  | .func f => .clo (.func f) [] []

def Bk.has (n : Nat) : Bk → Bool
  | .cells cs => hasAny n cs
  | .vals as _ => hasAny n as
  | .mit m _ _ => m == n
  | _ => false
theorem up_le {n : Nat} (h : n = 1000000) : up ≤ n := by rw [h]; decide
def Far (F : Bx) : Prop := ∀ n, n < up ∨ n = 1000000 → ∀ p ∈ F, p.1 ≠ n ∧ p.2.has n = false

def bn : Nat := 1000000
def bound (val : Val) : Nat := match val bn with
  | .int _ n => n.toNat
  | _ => 0
def DefsOk (val : Val) (w : World) (ds : List Deferred) : Prop :=
  bound val ≤ w.heap.size ∧ ∃ Ds : List Nat, ds = Ds.map (fun D => { target := .collected D, args := #[] }) ∧ Ds.Nodup ∧ ∀ D ∈ Ds, w.heap[D]? = some (.deferred (some [])) ∧ bound val ≤ D
theorem DefsOk.nil {val : Val} {w : World} (h : bound val ≤ w.heap.size) : DefsOk val w [] := ⟨h, [], rfl, List.nodup_nil, fun _ h => by cases h⟩
structure Holds (s : St) (h : Hw) (w : World) (val : Val) (a : Act) : Prop where
  e : RAs h w val s.E a.tmps.toList
  inv : Inv h w val s.all
  far : Far s.F
  defs : DefsOk val w a.defers

section
variable {h : Hw} {w : World} {val : Val}

theorem RD_nil (h : Hw) (w : World) : RD h w (.sl []) (.slice none 0 0) := by
  simp only [RD, RRow]
  exact ⟨none, 0, 0, [], by simp, by simp, by simp [maxLen], rfl, by simp⟩
theorem RD_cstCell (h : Hw) (w : World) (x : Value) (h1 : x.oneCell' = true) : RD h w (cstCell x) x := by
  unfold cstCell
  split
  · exact RD_nil h w
  · simp [RD, h1]
theorem RDs_cst : ∀ (l : List Value), (∀ x ∈ l, x.oneCell' = true) → RDs h w (l.map cstCell) l
  | [], _ => by simp [RDs]
  | x :: l, hl => by
    simp only [List.map_cons, RDs]
    exact ⟨x, l, rfl, RD_cstCell h w x (hl x (by simp)), hl x (by simp), RDs_cst l fun y hy => hl y (by simp [hy])⟩
theorem RA_cst (x : Value) : RA h w val (cst x) x := by
  unfold cst
  split
  · simp only [RA]
  · rename_i cs
    split
    · rename_i hall
      simp only [RA, RD]
      exact ⟨cs.toList, rfl, RDs_cst cs.toList fun y hy => (List.all_eq_true.1 hall) y hy⟩
    · simp [RA]
  · simp [RA]
  · rename_i h1 h2 h3
    simp only [RA, RD, true_and]
    cases x <;> simp_all [Value.oneCell']

theorem Holds.ev {s : St} {a : Act} (H : Holds s h w val a) (x : Operand) : RA h w val (s.ev x) (a.eval x) := by
  cases x with
  | tmp t =>
    simp only [St.ev, Act.eval]
    cases ht : s.E[t]? with
    | none => simp [List.getD, ht, RA]
    | some v =>
      obtain ⟨u, hu, hr⟩ := RAs.get H.e t v ht
      have hu' : a.tmps[t]? = some u := by simpa using hu
      simp only [List.getD, ht, Option.getD_some]
      rw [show a.tmps.getD t undef = u by simp [hu']]
      exact hr
  | const v => exact RA_cst v
  | global g => simp [St.ev, RA]
  | func f => simp only [St.ev, Act.eval, RA, RAs]; exact ⟨[], [], rfl, rfl, rfl⟩

theorem put_toList (a : Act) (d : Tmp) (u : Value) : (a.put (some d) u).tmps.toList = a.tmps.toList.set d u := by simp [Act.put]

def St.put (s : St) (dst : Option Tmp) (v : A) : St :=
  match dst with
  | some d => { s with E := s.E.set d v }
  | none => s
theorem Holds.put {s : St} {a : Act} (H : Holds s h w val a) (dst : Option Tmp) {v : A} {u : Value} (hv : RA h w val v u) : Holds (s.put dst v) h w val (a.put dst u) := by
  cases dst with
  | none => exact H
  | some d => exact ⟨by rw [put_toList]; exact H.e.set d hv, H.inv, H.far, H.defs⟩

end

theorem RB.data {h : Hw} {w : World} {val : Val} {n : Nat} {e : TypeId} {k : Nat} {xs : List D} (hr : RB h w val n (.row e k xs)) : RD h w (.sl xs) (val n) := by
  obtain ⟨us, hown, hrow, hh⟩ := hr
  simp only [RD]
  rcases hown.2 with ⟨hv, hn⟩ | ⟨g, cap, cur, hv, _, hg, hnc, hcm, hcs, htake⟩
  · have hx : xs = [] := List.eq_nil_of_length_eq_zero hn
    subst hx
    rw [hv]
    exact ⟨none, 0, k, us, by simp, by simp, by simp [maxLen], hrow, by simp⟩
  · refine ⟨some ⟨g, 0, none⟩, cap, k, us, hv, hnc, hcm, hrow, fun h0 => ⟨_, rfl, fun j v hj => ?_⟩⟩
    have hb : (val n).ownBlock = some g := by rw [hv]; rfl
    have hlt : j < us.length := by
      rcases Nat.lt_or_ge j us.length with h | h
      · exact h
      · rw [List.getElem?_eq_none h] at hj; cases hj
    refine ⟨hown.cells hb j v hj, ?_⟩
    simp only [Nat.zero_add]
    rw [hh g hb, ← RRow.length hrow]
    exact hlt

def lk (B : Bx) (n : Nat) : Option Bk := (B.find? fun p => p.1 == n).map (·.2)
theorem lk_mem {B : Bx} {n : Nat} {b : Bk} (h : lk B n = some b) : (n, b) ∈ B := by
  unfold lk at h
  cases hf : B.find? (fun p => p.1 == n) with
  | none => simp [hf] at h
  | some p =>
    simp [hf] at h
    have h1 := List.find?_some hf
    have h2 := List.mem_of_find?_eq_some hf
    simp at h1
    obtain ⟨m, b'⟩ := p
    simp_all

def St.look (s : St) : A → A
  | .box n 0 => match lk s.B n with
    | some (.fz cs) => .eptr cs
    | _ => .box n 0
  | .row n => match lk s.B n with
    | some (.row _ _ xs) => .d (.sl xs)
    | some (.old xs) => .d (.sl xs)
    | _ => .row n
  | .nil => .d (.sl [])
  | x => x
theorem Holds.look {s : St} {h w val} {a : Act} (H : Holds s h w val a) {x : A} {u : Value} (hr : RA h w val x u) : RA h w val (s.look x) u := by
  unfold St.look
  split
  · rename_i n
    split
    · rename_i cs hl
      simp only [RA] at hr ⊢
      obtain ⟨b, e1, e2⟩ := hr
      obtain ⟨b', us, e3, h1, h2⟩ := H.inv.rep (n, .fz cs) (List.mem_append_left _ (lk_mem hl))
      simp only at e3
      rw [e1] at e3
      cases e3
      refine ⟨⟨b, 0, none⟩, us, e2, h1, fun j v hj => ?_⟩
      rw [Addr.add_lit, Nat.zero_add]
      exact h2 j v hj
    · exact hr
  · rename_i n
    split
    · rename_i e k xs hl
      simp only [RA] at hr ⊢
      rw [hr.1]
      exact RB.data (e := e) (k := k) (H.inv.rep (n, .row e k xs) (List.mem_append_left _ (lk_mem hl)))
    · rename_i xs hl
      simp only [RA] at hr ⊢
      rw [hr.1]
      exact H.inv.rep (n, .old xs) (List.mem_append_left _ (lk_mem hl))
    · exact hr
  · simp only [RA] at hr ⊢
    rw [hr]
    exact RD_nil h w
  · exact hr

structure Nx (s : St) (h : Hw) (w : World) (val : Val) (s' : St) (h' : Hw) (w' : World) (val' : Val) : Prop where
  keep : Keep (blks val s.all) h w h' w'
  vals : ∀ n, n = 1000000 → val' n = val n
  new : ∀ b ∈ blks val' s'.all, b ∈ blks val s.all ∨ w.heap.size ≤ b
theorem Nx.refl (s : St) (h : Hw) (w : World) (val : Val) {s' : St} (he : s'.all = s.all) : Nx s h w val s' h w val :=
  ⟨Keep.refl _ _ _, fun _ _ => rfl, fun b hb => .inl (by rw [he] at hb; exact hb)⟩
theorem Nx.trans {s s1 s2 : St} {h h1 h2 : Hw} {w w1 w2 : World} {v v1 v2 : Val} (a : Nx s h w v s1 h1 w1 v1) (b : Nx s1 h1 w1 v1 s2 h2 w2 v2) : Nx s h w v s2 h2 w2 v2 where
  keep := a.keep.trans b.keep a.new
  vals := fun n hn => (b.vals n hn).trans (a.vals n hn)
  new := fun x hx => by
    rcases b.new x hx with h | h
    · exact a.new x h
    · exact .inr (Nat.le_trans a.keep.size h)

def dbyte (c : UInt8) : D := .v (.int .u8 c.toNat)
inductive BX where
  | lit (b : Bool)
  | iEq (a b : Int)
  | iLt (a b : Int)
  | iLe (a b : Int)
  | sEq (a b : ByteArray)
  | sLt (a b : ByteArray)
  | bEq (a b : Bool)
  | not (x : BX)
  | and (x y : BX)
def BX.val : BX → Bool
  | .lit b => b
  | .iEq a b => decide (a = b)
  | .iLt a b => decide (a < b)
  | .iLe a b => decide (a ≤ b)
  | .sEq a b => decide (a.data.toList = b.data.toList)
  | .sLt a b => Op.bytesLess a.data.toList b.data.toList
  | .bEq a b => a == b
  | .not x => !x.val
  | .and x y => x.val && y.val
def intVal (op : BinOp) (k : IntKind) (a b : Int) : Int :=
  match op with
  | .add => k.wrap (a + b)
  | .sub => k.wrap (a - b)
  | .mul => k.wrap (a * b)
  | .quo => k.wrap (a.tdiv b)
  | .rem => a.tmod b
  | .and => bits .and k a b
  | .or => bits .or k a b
  | .xor => bits .xor k a b
  | .andNot => bits .andNot k a b
  | .shl => k.wrap (a * 2 ^ (min b.toNat k.bits))
  | .shr => a.fdiv (2 ^ (min b.toNat k.bits))
  | _ => 0
inductive Cn where
  | t
  | eq (x : BX) (c : Bool)
  | int (op : BinOp) (k : IntKind) (a b n : Int)
  | wrap (k : IntKind) (a n : Int)
  | le (a b : Int)
  | ne (a b : Int)
  | max (a b n : Int)
  | min (a b n : Int)
  | elem (xs : List D) (i : Int) (y : D)
  | byte (s : ByteArray) (i n : Int)
  | nc (xs : List D) (k : Nat)
  | nonnil (xs : List D)
  | bytes (xs : List D) (l : List UInt8)
  | len (xs : List D) (n : Int)
  | slen (s : ByteArray) (n : Int)
  | cut (xs : List D) (l : Int) (h : Option Int) (ys : List D) (k : Nat)
  | scut (s : ByteArray) (l : Int) (h : Option Int) (ys : List UInt8)
  | sapp (a b : ByteArray) (l : List UInt8)
  | app (xs ys zs : List D)
  | fits (xs ys : List D) (n : Nat)
  | upd (xs : List D) (i : Nat) (y : D) (zs : List D)
  | pr (p : Prop)
  | both (a b : Cn)
def Cn.ok : Cn → Prop
  | .t => True
  | .eq x c => x.val = c
  | .int op k a b n => intVal op k a b = n
  | .wrap k a n => k.wrap a = n
  | .le a b => a ≤ b
  | .ne a b => a ≠ b
  | .max a b n => (if a < b then b else a) = n
  | .min a b n => (if b < a then b else a) = n
  | .elem xs i y => 0 ≤ i ∧ xs[i.toNat]? = some y
  | .byte s i n => 0 ≤ i ∧ ∃ c : UInt8, s.data.toList[i.toNat]? = some c ∧ (c.toNat : Int) = n
  | .nc xs k => ∀ y ∈ xs, y.nc = k
  | .nonnil xs => xs ≠ []
  | .bytes xs l => xs = l.map dbyte
  | .len xs n => (xs.length : Int) = n
  | .slen s n => (s.size : Int) = n
  | .cut xs l h ys k => 0 ≤ l ∧ l ≤ h.getD xs.length ∧ h.getD xs.length ≤ xs.length ∧ (∀ y ∈ xs, y.nc = k) ∧ (xs.take (h.getD xs.length).toNat).drop l.toNat = ys
  | .scut s l h ys => 0 ≤ l ∧ l ≤ h.getD s.size ∧ h.getD s.size ≤ s.size ∧ s.extract l.toNat (h.getD s.size).toNat = ⟨⟨ys⟩⟩
  | .sapp a b l => a.size + b.size ≤ 9223372036854775807 ∧ a ++ b = ⟨⟨l⟩⟩
  | .app xs ys zs => xs ++ ys = zs
  | .fits xs ys n => (xs.length + ys.length) * n ≤ 140737488355328
  | .upd xs i y zs => xs.set i y = zs
  | .pr p => p
  | .both a b => a.ok ∧ b.ok

def bo (b : Bool) : A := .d (.v (.bool b))
def conc (b : BX) : W → Cn × A
  | .bit c => (.eq b c, bo c)
  | _ => (.t, bo b.val)
theorem conc_ok {h w val} {b : BX} {wt : W} {Φ : Cn} {v : A} (he : conc b wt = (Φ, v)) (hΦ : Φ.ok) : RA h w val v (.bool b.val) := by
  unfold conc at he
  split at he
  · simp only [Prod.mk.injEq] at he
    obtain ⟨h1, h2⟩ := he
    subst h1; subst h2
    simp only [Cn.ok] at hΦ
    subst hΦ
    simp [bo, RA, RD, Value.oneCell']
  · simp only [Prod.mk.injEq] at he
    obtain ⟨h1, h2⟩ := he
    subst h2
    simp [bo, RA, RD, Value.oneCell']

def it (k : IntKind) (n : Int) : A := .d (.v (.int k n))
theorem RA_it {h w val} (k : IntKind) (n : Int) : RA h w val (it k n) (.int k n) := by simp [it, RA, RD, Value.oneCell']
def outI (k : IntKind) (f : Int → Cn) (v : Unit → Int) : W → Cn × A
  | .int n => (f n, it k n)
  | _ => (.t, it k (v ()))
theorem outI_ok {h w val} {k : IntKind} {f : Int → Cn} {v : Unit → Int} {wt : W} {Φ : Cn} {r : A} (hf : ∀ n, (f n).ok → v () = n) (he : outI k f v wt = (Φ, r)) (hΦ : Φ.ok) : RA h w val r (.int k (v ())) := by
  unfold outI at he
  split at he
  · simp only [Prod.mk.injEq] at he
    obtain ⟨h1, h2⟩ := he
    subst h1; subst h2
    rw [hf _ hΦ]
    exact RA_it _ _
  · simp only [Prod.mk.injEq] at he
    obtain ⟨h1, h2⟩ := he
    subst h2
    exact RA_it _ _
def outJ (c : Cn) (p : Cn × A) : Cn × A := (.both c p.1, p.2)

def intBin (op : BinOp) (k : IntKind) (a b : Int) (wt : W) : Option (Cn × A) :=
  match op with
  | .add => some (outI k (.int .add k a b) (fun _ => intVal .add k a b) wt)
  | .sub => some (outI k (.int .sub k a b) (fun _ => intVal .sub k a b) wt)
  | .mul => some (outI k (.int .mul k a b) (fun _ => intVal .mul k a b) wt)
  | .quo => some (outJ (.ne b 0) (outI k (.int .quo k a b) (fun _ => intVal .quo k a b) wt))
  | .rem => some (outJ (.ne b 0) (outI k (.int .rem k a b) (fun _ => intVal .rem k a b) wt))
  | .and => some (outI k (.int .and k a b) (fun _ => intVal .and k a b) wt)
  | .or => some (outI k (.int .or k a b) (fun _ => intVal .or k a b) wt)
  | .xor => some (outI k (.int .xor k a b) (fun _ => intVal .xor k a b) wt)
  | .andNot => some (outI k (.int .andNot k a b) (fun _ => intVal .andNot k a b) wt)
  | .shl | .shr => none
  | .eql => some (conc (.iEq a b) wt)
  | .neq => some (conc (.not (.iEq a b)) wt)
  | .lss => some (conc (.iLt a b) wt)
  | .leq => some (conc (.iLe a b) wt)
  | .gtr => some (conc (.iLt b a) wt)
  | .geq => some (conc (.iLe b a) wt)

theorem intBin_ok {P : Program} {h w val} {op : BinOp} {k : IntKind} {a b : Int} {wt : W} {Φ : Cn} {v : A} {t : TypeId} (he : intBin op k a b wt = some (Φ, v)) (hΦ : Φ.ok) :
    ∃ u, (binOp op t (.int k a) (.int k b)).run P w = .ok u w ∧ RA h w val v u := by
  cases op <;> simp only [intBin, Option.some.injEq] at he
  case shl => cases he
  case shr => cases he
  case quo =>
    simp only [outJ, Prod.mk.injEq] at he
    obtain ⟨h1, h2⟩ := he
    rw [← h1] at hΦ
    simp only [Cn.ok] at hΦ
    exact ⟨_, by simp [binOp, Op.intDiv, hΦ.1]; rfl, outI_ok (f := .int .quo k a b) (v := fun _ => intVal .quo k a b) (fun n hn => hn) (Prod.ext rfl h2) hΦ.2⟩
  case rem =>
    simp only [outJ, Prod.mk.injEq] at he
    obtain ⟨h1, h2⟩ := he
    rw [← h1] at hΦ
    simp only [Cn.ok] at hΦ
    exact ⟨_, by simp [binOp, Op.intDiv, hΦ.1]; rfl, outI_ok (f := .int .rem k a b) (v := fun _ => intVal .rem k a b) (fun n hn => hn) (Prod.ext rfl h2) hΦ.2⟩
  case eql => exact ⟨_, by simp [binOp, Op.intCmp]; rfl, conc_ok he hΦ⟩
  case neq => exact ⟨_, by simp [binOp, Op.intCmp]; rfl, conc_ok he hΦ⟩
  case lss => exact ⟨_, by simp [binOp, Op.intCmp]; rfl, conc_ok he hΦ⟩
  case leq => exact ⟨_, by simp [binOp, Op.intCmp]; rfl, conc_ok he hΦ⟩
  case gtr => exact ⟨_, by simp [binOp, Op.intCmp]; rfl, conc_ok he hΦ⟩
  case geq => exact ⟨_, by simp [binOp, Op.intCmp]; rfl, conc_ok he hΦ⟩
  case add => exact ⟨_, by simp [binOp, Op.intArith, go_sem]; rfl, outI_ok (f := .int .add k a b) (v := fun _ => intVal .add k a b) (fun n hn => hn) he hΦ⟩
  case sub => exact ⟨_, by simp [binOp, Op.intArith, go_sem]; rfl, outI_ok (f := .int .sub k a b) (v := fun _ => intVal .sub k a b) (fun n hn => hn) he hΦ⟩
  case mul => exact ⟨_, by simp [binOp, Op.intArith, go_sem]; rfl, outI_ok (f := .int .mul k a b) (v := fun _ => intVal .mul k a b) (fun n hn => hn) he hΦ⟩
  case and => exact ⟨_, by simp [binOp, Op.intArith, go_sem]; rfl, outI_ok (f := .int .and k a b) (v := fun _ => intVal .and k a b) (fun n hn => hn) he hΦ⟩
  case or => exact ⟨_, by simp [binOp, Op.intArith, go_sem]; rfl, outI_ok (f := .int .or k a b) (v := fun _ => intVal .or k a b) (fun n hn => hn) he hΦ⟩
  case xor => exact ⟨_, by simp [binOp, Op.intArith, go_sem]; rfl, outI_ok (f := .int .xor k a b) (v := fun _ => intVal .xor k a b) (fun n hn => hn) he hΦ⟩
  case andNot => exact ⟨_, by simp [binOp, Op.intArith, go_sem]; rfl, outI_ok (f := .int .andNot k a b) (v := fun _ => intVal .andNot k a b) (fun n hn => hn) he hΦ⟩
end Go.Ac
