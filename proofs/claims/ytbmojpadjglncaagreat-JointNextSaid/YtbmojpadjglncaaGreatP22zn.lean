/- Own work: the plain law. -/
import Derived.Test.YtbmojpadjglncaaGreatSh22zn
import Derived.Test.YtbmojpadjglncaaGreatPL
import Derived.Test.YtbmojpadjglncaaGreatAc35
set_option linter.unusedVariables false
set_option linter.unusedSimpArgs false
namespace Go.Ac
def vR (v : TValue) : Bool :=
  if v.kind = 1 then decide (v.str = []) && !v.bool
  else if v.kind = 2 then decide (v.int = 0) && !v.bool && decide (v.str.length ≤ 4096)
  else if v.kind = 3 then decide (v.int = 0) && decide (v.str = []) else false
theorem ref03_Right_eq (v : TValue) : ref03_Right v = some (vR v) := by
  unfold ref03_Right vR
  have hc : decide ((v.str.length : Int) ≤ 4096) = decide (v.str.length ≤ 4096) := by
    by_cases h : v.str.length ≤ 4096
    · have : (v.str.length : Int) ≤ 4096 := by omega
      simp [h, this]
    · have : ¬ (v.str.length : Int) ≤ 4096 := by omega
      simp [h, this]
  rw [hc]
  by_cases h1 : v.kind = 1
  · by_cases hs : v.str = [] <;> simp [h1, hs, iteE]
  by_cases h2 : v.kind = 2
  · by_cases hn : v.int = 0 <;> cases hb : v.bool <;> simp [h2, hn, iteE]
  by_cases h3 : v.kind = 3
  · by_cases hn : v.int = 0 <;> simp [h3, hn, iteE]
  · simp [h1, h2, h3, iteE]
theorem TValue.eqb_dec (a b : TValue) : TValue.eqb a b = decide (a = b) := by rw [Bool.eq_iff_iff, TValue.eqb_iff]; simp
def zV : TValue := ⟨0, 0, [], false⟩
def getS (l : List TSlot) (v : Int) : TValue × Bool := match l.findSome? (fun s => if s.var = v then some s.value else none) with
  | some x => (x, true)
  | none => (zV, false)
theorem getS_of (l : List TSlot) (v : Int) (o : Unit ⊕ TValue) (h : o = (l.findSome? (fun s => if s.var = v then some (Sum.inr s.value : Unit ⊕ TValue) else none)).getD (.inl ())) :
    sumE o (fun _ => some (TValue.mk 0 0 ([] : List UInt8) false, false)) (fun o4 => some (o4, true)) = some (getS l v) := by
  subst h
  have e : l.findSome? (fun s => if s.var = v then some (Sum.inr s.value : Unit ⊕ TValue) else none) = (l.findSome? (fun s => if s.var = v then some s.value else none)).map Sum.inr := by
    induction l with
    | nil => rfl
    | cons s l ih => rw [List.findSome?_cons, List.findSome?_cons]; by_cases h : s.var = v <;> simp [h, ih]
  rw [e]
  unfold getS
  cases l.findSome? (fun s => if s.var = v then some s.value else none) <;> rfl
theorem ref05_Get_eq (l : List TSlot) (v : Int) (hl : l.length ≤ 9223372036854775807) : ref05_Get l v = some (getS l v) := by
  unfold ref05_Get ref05_Get_l1
  rw [loop_find l (fun _ s => if s.var = v then some (Sum.inr s.value : Unit ⊕ TValue) else none) (.inl ())
    (fun i x hx => by simp only [ref05_Get_l1_s, ltD hx, iteE_t, idxE_n hx, succW hx hl, iteP]; by_cases h : x.var = v <;> simp [h])
    (by simp only [ref05_Get_l1_s, ltI, iteE_f]), runL_findSome, bndE_s]
  exact getS_of l v _ rfl
theorem ref03_Right_tot (v : TValue) : ∃ b, ref03_Right v = some b := by
  unfold ref03_Right
  simp only [iteE_if]
  repeat' split
  all_goals exact ⟨_, rfl⟩
theorem getS_mem {l : List TSlot} {v : Int} {x : TValue} (h : getS l v = (x, true)) : TSlot.mk v x ∈ l := by
  unfold getS at h
  split at h
  · rename_i y hy
    cases h
    obtain ⟨s, hs, hv⟩ := List.exists_of_findSome?_eq_some hy
    split at hv
    · rename_i e; cases hv; rw [← e]; exact hs
    · cases hv
  · cases h
theorem chkF {β : Type} {a b n : Nat} (h : a + b ≤ 1073741824) (hn : n ≤ 131072) (k : Option β) : chkE (fit a b n) k = k := chkE_p (fit_small h hn) k
structure FewP (q : TQea) : Prop where
  decls : q.decls.length ≤ 12
  quants : q.quants.length ≤ 9
  frees : q.frees.length ≤ 12
  states : q.states.length ≤ 12
  symbols : q.symbols.length ≤ 12
  trans : q.trans.length ≤ 12
  nodes : q.nodes.length ≤ 40
  args : ∀ s ∈ q.symbols, s.args.length ≤ 12
  sets : ∀ t ∈ q.trans, t.sets.length ≤ 12
theorem all_get {α : Type} {l : List α} {R : α → Prop} (h : ∀ j, j < l.length → ∀ x, l[j]? = some x → R x) : ∀ x ∈ l, R x := by
  intro x hx
  obtain ⟨j, hj, rfl⟩ := List.mem_iff_getElem.1 hx
  exact h j hj _ (List.getElem?_eq_getElem hj)
theorem ref13_Few_ex (q : TQea) : ∃ n, ref13_Few q = some n ∧ (n ≠ 0 → FewP q) := by
  unfold ref13_Few
  simp only [iteP]
  iterate 8 (split; · exact ⟨0, rfl, by simp⟩)
  rename_i h1 h2 h3 h4 h5 h6 h7 h8
  have hd : q.decls.length ≤ 9223372036854775807 := by omega
  have hs : q.symbols.length ≤ 9223372036854775807 := by omega
  have hf : q.frees.length ≤ 9223372036854775807 := by omega
  have hn : q.nodes.length ≤ 9223372036854775807 := by omega
  have ht : q.trans.length ≤ 9223372036854775807 := by omega
  obtain ⟨t1, e1, _⟩ := loop_scan0 (step := fun s => ref13_Few_l1_s q s) q.decls.length (fun _ => True) (fun _ => True)
    (fun i hi => by
      obtain ⟨x, hx, _⟩ := get_lt hi
      simp only [ref13_Few_l1_s, ltD hx, iteE_t, idxE_n hx, succW hx hd]
      simp only [iteE_if]
      repeat' split
      all_goals first | exact .inl ⟨rfl, trivial⟩ | exact .inr ⟨_, rfl, trivial⟩)
    (fun _ => ⟨.inl (), by simp only [ref13_Few_l1_s, ltI, iteE_f], trivial⟩)
  obtain ⟨t2, e2, Q2⟩ := loop_scan0 (step := fun s => ref13_Few_l2_s q s) q.symbols.length (fun i => ∀ x, q.symbols[i]? = some x → x.args.length ≤ 12) (fun t => t = .inl () → ∀ s ∈ q.symbols, s.args.length ≤ 12)
    (fun i hi => by
      obtain ⟨x, hx, _⟩ := get_lt hi
      simp only [ref13_Few_l2_s, ltD hx, iteE_t, idxE_n hx, succW hx hs, iteP]
      split
      · exact .inr ⟨_, rfl, by simp⟩
      · rename_i h12
        obtain ⟨t3, e3, _⟩ := loop_scan0 (step := fun s => ref13_Few_l3_s (i : Int) q s) x.args.length (fun _ => True) (fun _ => True)
          (fun j hj => by
            obtain ⟨y, hy, _⟩ := get_lt hj
            simp only [ref13_Few_l3_s, idxE_n hx, ltD hy, iteE_t, idxE_n hy, succW hy (show x.args.length ≤ 9223372036854775807 by omega)]
            simp only [iteE_if]
            split
            · exact .inr ⟨_, rfl, trivial⟩
            · exact .inl ⟨rfl, trivial⟩)
          (fun _ => ⟨.inl (), by simp only [ref13_Few_l3_s, idxE_n hx, ltI, iteE_f], trivial⟩)
        unfold ref13_Few_l3
        rw [e3, bndE_s]
        rcases t3 with _ | _
        · exact .inl ⟨rfl, fun y hy => by rw [hx] at hy; cases hy; omega⟩
        · exact .inr ⟨_, rfl, by simp⟩)
    (fun hP => ⟨.inl (), by simp only [ref13_Few_l2_s, ltI, iteE_f], fun _ => all_get hP⟩)
  obtain ⟨t4, e4, _⟩ := loop_scan0 (step := fun s => ref13_Few_l4_s q s) q.frees.length (fun _ => True) (fun _ => True)
    (fun i hi => by
      obtain ⟨x, hx, _⟩ := get_lt hi
      simp only [ref13_Few_l4_s, ltD hx, iteE_t, idxE_n hx, succW hx hf]
      simp only [iteE_if]
      split
      · exact .inr ⟨_, rfl, trivial⟩
      · exact .inl ⟨rfl, trivial⟩)
    (fun _ => ⟨.inl (), by simp only [ref13_Few_l4_s, ltI, iteE_f], trivial⟩)
  obtain ⟨t5, e5, _⟩ := loop_scan0 (step := fun s => ref13_Few_l5_s q s) q.nodes.length (fun _ => True) (fun _ => True)
    (fun i hi => by
      obtain ⟨x, hx, _⟩ := get_lt hi
      simp only [ref13_Few_l5_s, ltD hx, iteE_t, idxE_n hx, succW hx hn]
      simp only [iteE_if]
      split
      · exact .inr ⟨_, rfl, trivial⟩
      · exact .inl ⟨rfl, trivial⟩)
    (fun _ => ⟨.inl (), by simp only [ref13_Few_l5_s, ltI, iteE_f], trivial⟩)
  obtain ⟨t6, e6, Q6⟩ := loop_scan0 (step := fun s => ref13_Few_l6_s q s) q.trans.length (fun i => ∀ x, q.trans[i]? = some x → x.sets.length ≤ 12) (fun t => t = .inl () → ∀ s ∈ q.trans, s.sets.length ≤ 12)
    (fun i hi => by
      obtain ⟨x, hx, _⟩ := get_lt hi
      simp only [ref13_Few_l6_s, ltD hx, iteE_t, idxE_n hx, succW hx ht, iteP]
      split
      · exact .inr ⟨_, rfl, by simp⟩
      · exact .inl ⟨rfl, fun y hy => by rw [hx] at hy; cases hy; omega⟩)
    (fun hP => ⟨.inl (), by simp only [ref13_Few_l6_s, ltI, iteE_f], fun _ => all_get hP⟩)
  unfold ref13_Few_l1 ref13_Few_l2 ref13_Few_l4 ref13_Few_l5 ref13_Few_l6
  rw [e1, bndE_s, e2, e4, e5, e6]
  simp only [bndE_s]
  rcases t1 with _ | _ <;> rcases t2 with _ | _ <;> rcases t4 with _ | _ <;> rcases t5 with _ | _ <;> rcases t6 with _ | _ <;> simp only [sumE_l, sumE_r] <;>
    first
    | exact ⟨0, rfl, by simp⟩
    | exact ⟨1, rfl, fun _ => ⟨by omega, by omega, by omega, by omega, by omega, by omega, by omega, Q2 rfl, Q6 rfl⟩⟩
theorem ref07_Spelt_tot (s : List UInt8) : ∃ b, ref07_Spelt s = some b := by
  unfold ref07_Spelt
  simp only [iteP]
  split
  · exact ⟨_, rfl⟩
  split
  · exact ⟨_, rfl⟩
  obtain ⟨t1, e1, _⟩ := loop_scan0 (step := fun i => ref07_Spelt_l1_s s i) s.length (fun _ => True) (fun _ => True)
    (fun i hi => by
      obtain ⟨x, hx, _⟩ := get_lt hi
      simp only [ref07_Spelt_l1_s, ltD hx, iteE_t, idxE_n hx, succW hx (show s.length ≤ 9223372036854775807 by omega)]
      simp only [iteE_if]
      repeat' split
      all_goals first | exact .inl ⟨rfl, trivial⟩ | exact .inr ⟨_, rfl, trivial⟩)
    (fun _ => ⟨.inl (), by simp only [ref07_Spelt_l1_s, ltI, iteE_f], trivial⟩)
  unfold ref07_Spelt_l1
  rw [e1, bndE_s]
  rcases t1 with _ | _ <;> exact ⟨_, rfl⟩
theorem ref07_Name_tot (s : List UInt8) : ∃ b, ref07_Name s = some b := by
  unfold ref07_Name ref07_Words
  rw [bndE_s]
  generalize hw : ([([97, 99, 99, 101, 112, 116] : List UInt8), ([97, 108, 115, 111] : List UInt8), ([97, 110, 100] : List UInt8), ([98, 111, 111, 108] : List UInt8), ([100, 111] : List UInt8), ([101, 118, 101, 110, 116] : List UInt8), ([101, 120, 105, 115, 116, 115] : List UInt8), ([102, 97, 108, 115, 101] : List UInt8), ([102, 111, 114, 97, 108, 108] : List UInt8), ([102, 114, 101, 101] : List UInt8), ([105, 102] : List UInt8), ([105, 110, 116] : List UInt8), ([110, 101, 120, 116] : List UInt8), ([110, 111, 116] : List UInt8), ([111, 110] : List UInt8), ([111, 114] : List UInt8), ([113, 101, 97] : List UInt8), ([115, 107, 105, 112] : List UInt8), ([115, 116, 97, 114, 116] : List UInt8), ([115, 116, 114, 105, 110, 103] : List UInt8), ([116, 111] : List UInt8), ([116, 114, 117, 101] : List UInt8)] : List (List UInt8)) = ws
  have hl : ws.length ≤ 9223372036854775807 := by rw [← hw]; simp
  obtain ⟨t1, e1, _⟩ := loop_scan0 (step := fun i => ref07_Name_l1_s s ws i) ws.length (fun _ => True) (fun _ => True)
    (fun i hi => by
      obtain ⟨x, hx, _⟩ := get_lt hi
      simp only [ref07_Name_l1_s, ltD hx, iteE_t, idxE_n hx, succW hx hl]
      simp only [iteE_if]
      split
      · exact .inr ⟨_, rfl, trivial⟩
      · exact .inl ⟨rfl, trivial⟩)
    (fun _ => ⟨.inl (), by simp only [ref07_Name_l1_s, ltI, iteE_f], trivial⟩)
  unfold ref07_Name_l1
  rw [e1, bndE_s]
  rcases t1 with _ | _
  · obtain ⟨b, hb⟩ := ref07_Spelt_tot s
    rw [sumE_l, hb, bndE_s]
    cases b <;> exact ⟨_, rfl⟩
  · exact ⟨_, rfl⟩
def findS (l : List TDecl) (n : List UInt8) : Option Nat := if l.any (fun d => decide (d.name = n)) = true then some (l.findIdx fun d => decide (d.name = n)) else none
theorem ref07_Find_eq (l : List TDecl) (n : List UInt8) (hl : l.length ≤ 9223372036854775807) : ref07_Find l n = some (match findS l n with | some i => (i : Int) | none => -1) := by
  unfold ref07_Find ref07_Find_l1
  rw [loop_index l (fun d => decide (d.name = n))
    (fun i x hx => by
      simp only [ref07_Find_l1_s, ltD hx, iteE_t, idxE_n hx, succW hx hl]
      simp only [iteE_if]
      cases decide (x.name = n) <;> rfl)
    (by simp only [ref07_Find_l1_s, ltI, iteE_f]), bndE_s]
  unfold findS
  cases l.any _ <;> rfl
theorem findS_some {l : List TDecl} {n : List UInt8} {i : Nat} (h : findS l n = some i) : ∃ d, l[i]? = some d ∧ d.name = n := by
  unfold findS at h
  split at h
  · rename_i ha
    cases h
    obtain ⟨d, hd, hn⟩ := List.any_eq_true.1 ha
    have hlt := List.findIdx_lt_length_of_exists (p := fun d => decide (d.name = n)) ⟨d, hd, hn⟩
    exact ⟨_, List.getElem?_eq_getElem hlt, by simpa using List.findIdx_getElem (w := hlt)⟩
  · cases h
theorem findS_le {l : List TDecl} {n : List UInt8} {j : Nat} {d : TDecl} (hj : l[j]? = some d) (hn : d.name = n) : ∃ i, findS l n = some i ∧ i ≤ j := by
  have ha : l.any (fun d => decide (d.name = n)) = true := List.any_eq_true.2 ⟨d, List.mem_of_getElem? hj, by simpa using hn⟩
  refine ⟨l.findIdx fun d => decide (d.name = n), by unfold findS; rw [if_pos ha], ?_⟩
  refine Nat.le_of_not_lt fun hlt => ?_
  have := List.not_of_lt_findIdx hlt
  obtain ⟨h1, rfl⟩ := List.getElem?_eq_some_iff.1 hj
  simp [hn] at this
def DeclsOk (l : List TDecl) : Prop := ∀ j d, l[j]? = some d → findS l d.name = some j
theorem ref07_Check_ex (l : List TDecl) (hl : l.length ≤ 9223372036854775807) : ∃ r, ref07_Check l = some r ∧ (r.1 = 0 → DeclsOk l) := by
  unfold ref07_Check
  rw [iteP]
  split
  · exact ⟨_, rfl, by simp⟩
  obtain ⟨t1, e1, Q1⟩ := loop_scan0 (step := fun i => ref07_Check_l1_s l i) l.length (fun i => ∀ d, l[i]? = some d → findS l d.name = some i) (fun t => match t with | .inl _ => DeclsOk l | .inr r => r.1 ≠ 0)
    (fun i hi => by
      obtain ⟨x, hx, _⟩ := get_lt hi
      obtain ⟨b, hb⟩ := ref07_Name_tot x.name
      simp only [ref07_Check_l1_s, ltD hx, iteE_t, idxE_n hx, succW hx hl, hb, bndE_s, ref07_Find_eq l _ hl]
      cases b with
      | false => exact .inr ⟨_, rfl, by simp⟩
      | true =>
        simp only [Bool.not_true, iteE_f]
        obtain ⟨k, hk, hki⟩ := findS_le hx rfl
        rw [hk]
        dsimp only
        rw [iteP]
        split
        · exact .inr ⟨_, rfl, by simp⟩
        · rename_i hge
          rw [iteP]
          split
          · exact .inr ⟨_, rfl, by simp⟩
          · obtain ⟨t2, e2, _⟩ := loop_scan0 (step := fun s => ref07_Check_l2_s l (i : Int) s) x.types.length (fun _ => True) (fun _ => True)
              (fun j hj => by
                obtain ⟨y, hy, _⟩ := get_lt hj
                simp only [ref07_Check_l2_s, idxE_n hx, ltD hy, iteE_t, idxE_n hy, succW hy (show x.types.length ≤ 9223372036854775807 by omega)]
                simp only [iteE_if]
                repeat' split
                all_goals first | exact .inl ⟨rfl, trivial⟩ | exact .inr ⟨_, rfl, trivial⟩)
              (fun _ => ⟨.inl (), by simp only [ref07_Check_l2_s, idxE_n hx, ltI, iteE_f], trivial⟩)
            unfold ref07_Check_l2
            rw [e2, bndE_s]
            rcases t2 with _ | _
            · refine .inl ⟨rfl, fun d hd => ?_⟩
              rw [hx] at hd; cases hd
              have : k = i := by omega
              rw [hk, this]
            · exact .inr ⟨_, rfl, by simp⟩)
    (fun hP => ⟨.inl (), by simp only [ref07_Check_l1_s, ltI, iteE_f], fun j d hd => hP j (getLt hd) d hd⟩)
  unfold ref07_Check_l1
  rw [e1, bndE_s]
  rcases t1 with _ | r
  · exact ⟨_, rfl, fun _ => Q1⟩
  · exact ⟨_, rfl, fun h => absurd h Q1⟩
theorem ref03_arith_tot (op : Int) : ∃ r, ref03_arith op 0 0 = some r := by
  unfold ref03_arith
  rw [show ref01_Add 0 0 = some (intVal .add .i64 0 0, true) by simp [ref01_Add, iteE], show ref01_Sub 0 0 = some (intVal .sub .i64 0 0, true) by simp [ref01_Sub, iteE], show ref01_Mul 0 0 = some (0, true) by simp [ref01_Mul, iteE], show ref01_Div 0 0 = some (0, 0, 7) by simp [ref01_Div, iteE]]
  simp only [bndE_s, ref03_number, Bool.not_true, iteE_f]
  refine tot_ex ?_
  repeat' first | exact ⟨_, rfl, trivial⟩ | refine ex_if (fun _ => ?_) (fun _ => ?_) | refine ex_ifb (fun _ => ?_) (fun _ => ?_)
theorem ref03_Less_e (a b : Int) : ∃ r, ref03_Less ⟨a, 0, [], false⟩ ⟨b, 0, [], false⟩ = some r := by
  unfold ref03_Less
  have hb : ref03_Below [] [] = some false := by
    unfold ref03_Below ref03_Below_l1
    rw [loopE_eq]
    simp [ref03_Below_l1_s, iteE, nextE, bndE, sumE]
  simp only [hb, bndE_s]
  refine tot_ex ?_
  repeat' first | exact ⟨_, rfl, trivial⟩ | refine ex_if (fun _ => ?_) (fun _ => ?_) | refine ex_ifn (fun _ => ?_) (fun _ => ?_) | refine ex_ifb (fun _ => ?_) (fun _ => ?_)
theorem ref03_Op_e (op a b : Int) : ∃ r, ref03_Op op ⟨a, 0, [], false⟩ ⟨b, 0, [], false⟩ = some r := by
  unfold ref03_Op
  obtain ⟨r1, h1⟩ := ref03_Less_e a b
  obtain ⟨r2, h2⟩ := ref03_Less_e b a
  obtain ⟨r3, h3⟩ := ref03_arith_tot 9
  obtain ⟨r4, h4⟩ := ref03_arith_tot op
  have h4' : ref03_arith op 0 0 = some r4 := h4
  have hc : ∀ {β : Type} (k : Option β), chkE (([] : List UInt8).length + ([] : List UInt8).length ≤ 9223372036854775807) k = k := fun k => chkE_p (by simp) k
  simp only [ref03_truth, bndE_s, h1, h2, h3, h4', hc, iteE_f]
  refine tot_ex ?_
  repeat' first | exact ⟨_, rfl, trivial⟩ | refine ex_if (fun _ => ?_) (fun _ => ?_) | refine ex_ifn (fun _ => ?_) (fun _ => ?_) | refine ex_ifb (fun _ => ?_) (fun _ => ?_)
theorem ref13_Type_ex (op a b : Int) : ∃ r, ref13_Type op a b = some r ∧ (r ≠ 0 → a ≠ 0) := by
  unfold ref13_Type
  obtain ⟨r, hr⟩ := ref03_Op_e op a b
  rw [hr]
  simp only [bndE_s]
  refine ex_if (fun _ => ⟨_, rfl, by simp⟩) (fun h => ?_)
  repeat' first | exact ⟨_, rfl, fun _ => by omega⟩ | refine ex_if (fun _ => ?_) (fun _ => ?_) | refine ex_ifn (fun _ => ?_) (fun _ => ?_)
theorem getI {α : Type} {l : List α} {i : Int} (h0 : 0 ≤ i) (h1 : i < l.length) : ∃ x, l[i.toNat]? = some x ∧ i = (i.toNat : Int) := by
  obtain ⟨x, hx, _⟩ := get_lt (l := l) (i := i.toNat) (by omega)
  exact ⟨x, hx, by omega⟩
theorem idxE_i {α β : Type} {l : List α} {i : Int} {x : α} (h : l[i.toNat]? = some x) (h0 : 0 ≤ i) (k : α → Option β) : idxE l i k = k x := by
  have e : idxE l ((i.toNat : Nat) : Int) k = k x := idxE_n h k
  rwa [show ((i.toNat : Nat) : Int) = i by omega] at e
theorem below_ex (q : TQea) (hq : q.nodes.length ≤ 2048) : ∀ (n : Nat) (i : Int), -9223372036854775000 ≤ i → 0 < n → i + 1 < n → ∃ r, ref13_below_n n q i = some r ∧ (r.1 ≠ 0 → 0 ≤ r.2.2 ∧ r.2.2 ≤ i ∧ i < q.nodes.length) := by
  intro n
  induction n with
  | zero => intro i h0 h; omega
  | succ n ih =>
    intro i h0 _ h
    show ∃ r, ref13_below_F (ref13_below_n n) q i = some r ∧ _
    unfold ref13_below_F
    refine ex_if (fun _ => ⟨_, rfl, by simp⟩) (fun hi0 => ?_)
    refine ex_if (fun _ => ⟨_, rfl, by simp⟩) (fun hi1 => ?_)
    obtain ⟨x, hx, _⟩ := getI (l := q.nodes) (i := i) (by omega) (by omega)
    rw [idxE_i hx (by omega)]
    obtain ⟨b, hb⟩ := ref03_Right_tot x.value
    have e1 : intVal .sub .i64 i 1 = i - 1 := subI (by omega) (by omega)
    rw [e1]
    refine ex_if (fun _ => ?_) (fun _ => ?_)
    · refine ex_ifn (fun _ => ⟨_, rfl, by simp⟩) (fun _ => ?_)
      refine ex_ifn (fun _ => ⟨_, rfl, by simp⟩) (fun _ => ?_)
      refine ex_bnd hb ?_
      exact ex_ifnb (fun _ => ⟨_, rfl, by simp⟩) (fun _ => ⟨_, rfl, fun _ => ⟨by simp only; omega, Int.le_refl _, by omega⟩⟩)
    refine ex_ifnb (fun _ => ⟨_, rfl, by simp⟩) (fun _ => ?_)
    refine ex_if (fun _ => ?_) (fun _ => ?_)
    · refine ex_if (fun _ => ⟨_, rfl, by simp⟩) (fun _ => ?_)
      refine ex_if (fun _ => ⟨_, rfl, by simp⟩) (fun _ => ?_)
      refine ex_ifn (fun _ => ⟨_, rfl, by simp⟩) (fun _ => ?_)
      obtain ⟨y, hy, _⟩ := getI (l := q.quants) (i := x.a) (by omega) (by omega)
      rw [idxE_i hy (by omega)]
      exact ⟨_, rfl, fun _ => ⟨by simp only; omega, Int.le_refl _, by omega⟩⟩
    refine ex_if (fun _ => ?_) (fun _ => ?_)
    · refine ex_if (fun _ => ⟨_, rfl, by simp⟩) (fun _ => ?_)
      refine ex_if (fun _ => ⟨_, rfl, by simp⟩) (fun _ => ?_)
      refine ex_ifn (fun _ => ⟨_, rfl, by simp⟩) (fun _ => ?_)
      obtain ⟨y, hy, _⟩ := getI (l := q.frees) (i := x.a) (by omega) (by omega)
      rw [idxE_i hy (by omega)]
      exact ⟨_, rfl, fun _ => ⟨by simp only; omega, Int.le_refl _, by omega⟩⟩
    refine ex_if (fun _ => ⟨_, rfl, by simp⟩) (fun _ => ?_)
    refine ex_if (fun _ => ⟨_, rfl, by simp⟩) (fun _ => ?_)
    obtain ⟨r5, h5, p5⟩ := ih (i - 1) (by omega) (by omega) (by omega)
    refine ex_bnd h5 ?_
    refine ex_if (fun _ => ?_) (fun _ => ?_)
    · refine ex_if (fun _ => ⟨_, rfl, by simp⟩) (fun hk => ?_)
      refine ex_ifn (fun _ => ⟨_, rfl, by simp⟩) (fun _ => ?_)
      refine ex_ifn (fun _ => ⟨_, rfl, by simp⟩) (fun _ => ?_)
      obtain ⟨r6, h6, _⟩ := ref13_Type_ex x.op r5.1 r5.1
      refine ex_bnd h6 ?_
      have := p5 hk
      exact ⟨_, rfl, fun _ => by simp only; omega⟩
    · refine ex_if (fun _ => ⟨_, rfl, by simp⟩) (fun hk => ?_)
      have hp := p5 hk
      have e2 : intVal .sub .i64 r5.2.2 1 = r5.2.2 - 1 := subI (by omega) (by omega)
      rw [e2]
      refine ex_ifn (fun _ => ⟨_, rfl, by simp⟩) (fun _ => ?_)
      refine ex_ifn (fun _ => ⟨_, rfl, by simp⟩) (fun _ => ?_)
      obtain ⟨r7, h7, p7⟩ := ih (r5.2.2 - 1) (by omega) (by omega) (by omega)
      refine ex_bnd h7 ?_
      obtain ⟨r8, h8, p8⟩ := ref13_Type_ex x.op r7.1 r5.1
      refine ex_bnd h8 ?_
      refine ⟨_, rfl, fun h => ?_⟩
      have := p7 (p8 h)
      simp only; omega
theorem Kind_ex (q : TQea) (hq : q.nodes.length ≤ 2048) (f i : Int) (hi : -9223372036854775808 ≤ i ∧ i ≤ 9223372036854775807) : ∃ r, ref13_Kind q f i = some r ∧ (r.1 ≠ 0 → 0 ≤ i ∧ i < q.nodes.length) := by
  unfold ref13_Kind ref13_below
  by_cases h : 0 ≤ i ∧ i < q.nodes.length
  · obtain ⟨r, hr, _⟩ := below_ex q hq 100000 i (by omega) (by omega) (by omega)
    refine ex_bnd hr ?_
    refine ex_if (fun _ => ⟨_, rfl, by simp⟩) (fun _ => ?_)
    exact ex_ifn (fun _ => ⟨_, rfl, by simp⟩) (fun _ => ⟨_, rfl, fun _ => h⟩)
  · have hz : ref13_below_n 100000 q i = some (0, 0, 0) := by
      show ref13_below_F (ref13_below_n 99999) q i = _
      unfold ref13_below_F
      rw [iteP, iteP]
      split
      · rfl
      · rw [if_pos (by omega)]
    refine ex_bnd hz ?_
    exact ⟨(0, 0), by simp [iteE], by simp⟩
theorem Names_tot (s : TSymbol) (v : Int) (hs : s.args.length ≤ 9223372036854775807) : ∃ r, ref13_Names s v = some r := by
  unfold ref13_Names ref13_Names_l1
  obtain ⟨t, ht, _⟩ := loop_scan0 (step := fun i => ref13_Names_l1_s v s i) s.args.length (fun _ => True) (fun _ => True)
    (fun i hi => by
      obtain ⟨x, hx, _⟩ := get_lt hi
      simp only [ref13_Names_l1_s, ltD hx, iteE_t, idxE_n hx, succW hx hs]
      simp only [iteE_if]
      repeat' split
      all_goals first | exact .inl ⟨rfl, trivial⟩ | exact .inr ⟨_, rfl, trivial⟩)
    (fun _ => ⟨.inl (), by simp only [ref13_Names_l1_s, ltI, iteE_f], trivial⟩)
  rw [ht, bndE_s]
  rcases t with _ | _ <;> exact ⟨_, rfl⟩
theorem bound_tot (q : TQea) (s : TSymbol) (hs : s.args.length ≤ 9223372036854775807) (hq : q.nodes.length ≤ 2048) (f t : Int) (hf : 0 ≤ f) (ht : t ≤ q.nodes.length) : ∃ r, ref13_bound q s f t = some r := by
  unfold ref13_bound ref13_bound_l1
  obtain ⟨u, hu, _⟩ := loopE_ex (step := fun i => ref13_bound_l1_s t q s i) (fun i => 0 ≤ i) (fun i => (t - i).toNat) (fun _ => True)
    (by
      intro i hi
      by_cases h : i < t
      · obtain ⟨x, hx, _⟩ := getI (l := q.nodes) (i := i) hi (by omega)
        obtain ⟨b, hb⟩ := Names_tot s x.a hs
        simp only [ref13_bound_l1_s, h, decide_true, iteE_t, idxE_i hx hi, hb, bndE_s, addI (a := i) (b := 1) (by omega) (by omega)]
        simp only [iteE_if]
        repeat' split
        all_goals first | exact .inl ⟨_, rfl, trivial⟩ | exact .inr ⟨_, rfl, by omega, by omega⟩
      · exact .inl ⟨.inl (), by simp [ref13_bound_l1_s, h, iteE], trivial⟩)
    f hf
  rw [hu, bndE_s]
  rcases u with _ | _ <;> exact ⟨_, rfl⟩
def IntOk (n : Int) : Prop := -9223372036854775808 ≤ n ∧ n ≤ 9223372036854775807
structure TransW (t : TTrans) : Prop where
  guard : IntOk t.guard
  sets : ∀ s ∈ t.sets, IntOk s.expr
theorem trans_ex (q : TQea) (hF : FewP q) (t : TTrans) (hT : TransW t) (hts : t.sets.length ≤ 12) (f : Int) (hf : 0 ≤ f) (hfl : f ≤ q.nodes.length) :
    ∃ r, ref13_trans q t f = some r ∧ (r.2 = true → 0 ≤ t.symbol ∧ t.symbol < q.symbols.length ∧ 0 ≤ r.1 ∧ r.1 ≤ q.nodes.length ∧ (t.guard = -1 ∨ 0 ≤ t.guard) ∧ (0 ≤ t.from_ ∧ t.from_ < q.states.length) ∧ 0 ≤ t.to ∧ t.to < q.states.length) := by
  have hn : q.nodes.length ≤ 2048 := Nat.le_trans hF.nodes (by decide)
  have hfr : q.frees.length ≤ 12 := hF.frees
  unfold ref13_trans
  refine ex_if (fun _ => ⟨_, rfl, by simp⟩) (fun ha => ?_)
  refine ex_if (fun _ => ⟨_, rfl, by simp⟩) (fun hb => ?_)
  refine ex_if (fun _ => ⟨_, rfl, by simp⟩) (fun hc => ?_)
  refine ex_if (fun _ => ⟨_, rfl, by simp⟩) (fun hd => ?_)
  refine ex_if (fun _ => ⟨_, rfl, by simp⟩) (fun hs0 => ?_)
  refine ex_if (fun _ => ⟨_, rfl, by simp⟩) (fun hs1 => ?_)
  obtain ⟨o2, h2, p2⟩ : ∃ o, ref13_trans_b1 f f (!decide (t.guard = (-1))) q t = some o ∧ ∀ x, o = .inl x → 0 ≤ x ∧ x ≤ q.nodes.length ∧ (t.guard = -1 ∨ 0 ≤ t.guard) := by
    unfold ref13_trans_b1
    refine ex_ifn (fun _ => ?_) (fun hg => ⟨_, rfl, fun x hx => by cases hx; exact ⟨hf, hfl, .inl hg⟩⟩)
    obtain ⟨r1, h1, p1⟩ := Kind_ex q hn f t.guard hT.guard
    refine ex_bnd h1 ?_
    refine ex_ifn (fun _ => ⟨_, rfl, by simp⟩) (fun h3 => ?_)
    refine ex_if (fun _ => ⟨_, rfl, by simp⟩) (fun _ => ?_)
    have := p1 (by omega)
    refine ⟨_, rfl, fun x hx => ?_⟩
    cases hx
    refine ⟨?_, ?_, .inr this.1⟩ <;> (rw [addI (by omega) (by omega)]; omega)
  refine ex_bnd h2 ?_
  rcases o2 with o3 | _
  · have h3 := p2 o3 rfl
    rw [sumE_l]
    unfold ref13_trans_l2
    obtain ⟨u, hu, pu⟩ := loopE_ex (step := fun s : Int × Int => ref13_trans_l2_s f q t s.1 s.2) (fun s => ∃ i : Nat, s.2 = (i : Int) ∧ i ≤ t.sets.length ∧ 0 ≤ s.1 ∧ s.1 ≤ q.nodes.length) (fun s => (t.sets.length - s.2).toNat)
      (fun o => ∀ x, o = .inl x → 0 ≤ x ∧ x ≤ q.nodes.length)
      (by
        rintro ⟨w, s⟩ ⟨i, rfl, hi, hw0, hw1⟩
        simp only at hw0 hw1 ⊢
        by_cases he : i = t.sets.length
        · subst he
          exact .inl ⟨.inl w, by simp only [ref13_trans_l2_s, ltI, iteE_f], fun x hx => by cases hx; exact ⟨hw0, hw1⟩⟩
        · obtain ⟨x, hx, _⟩ := get_lt (l := t.sets) (i := i) (by omega)
          obtain ⟨r6, h6, p6⟩ := Kind_ex q hn w x.expr (hT.sets x (List.mem_of_getElem? hx))
          have h6' : ref13_Kind q w x.expr = some r6 := h6
          simp only [ref13_trans_l2_s, ltD hx, iteE_t, idxE_n hx, h6', bndE_s, succW hx (show t.sets.length ≤ 9223372036854775807 by omega)]
          by_cases g1 : x.free < 0
          · exact .inl ⟨.inr (), by simp [g1, iteE], by simp⟩
          by_cases g2 : (q.frees.length : Int) ≤ x.free
          · exact .inl ⟨.inr (), by simp [g1, g2, iteE], by simp⟩
          by_cases g3 : r6.1 = 0
          · exact .inl ⟨.inr (), by simp [g1, g2, g3, iteE], by simp⟩
          by_cases g4 : 64 < r6.2
          · exact .inl ⟨.inr (), by simp [g1, g2, g3, g4, iteE], by simp⟩
          obtain ⟨y, hy, _⟩ := getI (l := q.frees) (i := x.free) (by omega) (by omega)
          by_cases g5 : r6.1 = y.init_.kind
          · obtain ⟨t3, e3, _⟩ := loop_scan0 (step := fun s => ref13_trans_l3_s f (i : Int) q t x s) i (fun _ => True) (fun _ => True)
              (fun j hj => by
                obtain ⟨z, hz, _⟩ := get_lt (l := t.sets) (i := j) (by omega)
                have hlt : decide ((j : Int) < (i : Int)) = true := by simp; omega
                simp only [ref13_trans_l3_s, hlt, iteE_t, idxE_n hz, succW hz (show t.sets.length ≤ 9223372036854775807 by omega)]
                simp only [iteE_if]
                split
                · exact .inr ⟨_, rfl, trivial⟩
                · exact .inl ⟨rfl, trivial⟩)
              (fun _ => ⟨.inl (), by simp only [ref13_trans_l3_s, ltI, iteE_f], trivial⟩)
            have e3' : ref13_trans_l3 f (i : Int) q t x 0 = some t3 := e3
            have hp := p6 g3
            rcases t3 with _ | _
            · refine .inr ⟨(intVal .add .i64 x.expr 1, ((i + 1 : Nat) : Int)), ?_, ⟨i + 1, rfl, by omega, ?_, ?_⟩, by simp only; omega⟩
              · rw [iteP, if_neg g1, iteP, if_neg g2, iteP, if_neg g3, iteP, if_neg g4, idxE_i hy (show 0 ≤ x.free by omega)]
                simp only [g5, decide_true, Bool.not_true, iteE_f, e3', bndE_s, sumE_l]
              · simp only; rw [addI (by omega) (by omega)]; omega
              · simp only; rw [addI (by omega) (by omega)]; omega
            · refine .inl ⟨.inr (), ?_, by simp⟩
              rw [iteP, if_neg g1, iteP, if_neg g2, iteP, if_neg g3, iteP, if_neg g4, idxE_i hy (show 0 ≤ x.free by omega)]
              simp only [g5, decide_true, Bool.not_true, iteE_f, e3', bndE_s, sumE_r]
          · refine .inl ⟨.inr (), ?_, by simp⟩
            rw [iteP, if_neg g1, iteP, if_neg g2, iteP, if_neg g3, iteP, if_neg g4, idxE_i hy (show 0 ≤ x.free by omega)]
            simp only [g5, decide_false, Bool.not_false, iteE_t])
      (o3, (0 : Int)) ⟨0, rfl, by omega, h3.1, h3.2.1⟩
    refine ex_bnd hu ?_
    rcases u with o13 | _
    · rw [sumE_l]
      have h13 := pu o13 rfl
      obtain ⟨x, hx, _⟩ := getI (l := q.symbols) (i := t.symbol) (by omega) (by omega)
      rw [idxE_i hx (by omega)]
      obtain ⟨r16, h16⟩ := bound_tot q x (Nat.le_trans (hF.args x (List.mem_of_getElem? hx)) (by decide)) hn f o13 hf h13.2
      refine ex_bnd h16 ⟨_, rfl, fun _ => ⟨by omega, by omega, h13.1, h13.2, h3.2.2, ⟨by omega, by omega⟩, by omega, by omega⟩⟩
    · exact ⟨_, rfl, by simp⟩
  · exact ⟨_, rfl, by simp⟩
structure ArgOk (q : TQea) (a : TArg) : Prop where
  two : a.kind = 2 → 0 ≤ a.n ∧ a.n < q.quants.length
  three : a.kind = 3 → 0 ≤ a.n ∧ a.n < q.frees.length
  one : a.kind = 1 → vR a.value = true
theorem ref13_arg_ex (q : TQea) (a : TArg) (k : Int) : ∃ r, ref13_arg q a k = some r ∧ (r = true → ArgOk q a) := by
  unfold ref13_arg
  have hb := ref03_Right_eq a.value
  refine ex_if (fun h => ?_) (fun h1 => ?_)
  · have ho : vR a.value = true → ArgOk q a := fun hv => ⟨fun h2 => by omega, fun h2 => by omega, fun _ => hv⟩
    refine ex_if (fun _ => ?_) (fun _ => ⟨_, rfl, by simp⟩)
    refine ex_bnd hb ?_
    exact ex_ifb (fun hv => ⟨_, rfl, fun _ => ho hv⟩) (fun _ => ⟨_, rfl, by simp⟩)
  refine ex_ifnb (fun _ => ⟨_, rfl, by simp⟩) (fun _ => ?_)
  refine ex_if (fun h2 => ?_) (fun h2 => ?_)
  · refine ex_if (fun h3 => ?_) (fun _ => ⟨_, rfl, by simp⟩)
    refine ex_if (fun h4 => ?_) (fun _ => ⟨_, rfl, by simp⟩)
    obtain ⟨y, hy, _⟩ := getI h3 h4
    rw [idxE_i hy h3]
    exact ⟨_, rfl, fun _ => ⟨fun _ => ⟨h3, h4⟩, fun h => by omega, fun h => by omega⟩⟩
  refine ex_if (fun h5 => ?_) (fun h5 => ?_)
  · refine ex_if (fun h3 => ?_) (fun _ => ⟨_, rfl, by simp⟩)
    refine ex_if (fun h4 => ?_) (fun _ => ⟨_, rfl, by simp⟩)
    obtain ⟨y, hy, _⟩ := getI h3 h4
    rw [idxE_i hy h3]
    exact ⟨_, rfl, fun _ => ⟨fun h => by omega, fun _ => ⟨h3, h4⟩, fun h => by omega⟩⟩
  exact ex_if (fun _ => ⟨_, rfl, fun _ => ⟨fun h => by omega, fun h => by omega, fun h => by omega⟩⟩) (fun _ => ⟨_, rfl, by simp⟩)
structure SymOk (q : TQea) (s : TSymbol) : Prop where
  event : 0 ≤ s.event
  decl : ∃ d, q.decls[s.event.toNat]? = some d ∧ s.args.length = d.types.length
  args : ∀ a ∈ s.args, ArgOk q a
theorem ref13_symbol_ex (q : TQea) (s : TSymbol) (hs : s.args.length ≤ 12) : ∃ r, ref13_symbol q s = some r ∧ (r = true → SymOk q s) := by
  unfold ref13_symbol
  refine ex_if (fun _ => ⟨_, rfl, by simp⟩) (fun h0 => ?_)
  refine ex_if (fun _ => ⟨_, rfl, by simp⟩) (fun h1 => ?_)
  obtain ⟨d, hd, _⟩ := getI (l := q.decls) (i := s.event) (by omega) (by omega)
  rw [idxE_i hd (by omega)]
  refine ex_ifn (fun _ => ⟨_, rfl, by simp⟩) (fun h2 => ?_)
  obtain ⟨t, ht, hQ⟩ := loop_scan0 (step := fun i => ref13_symbol_l1_s q s i) s.args.length (fun i => ∀ a, s.args[i]? = some a → ArgOk q a) (fun t => t = .inl () → ∀ a ∈ s.args, ArgOk q a)
    (fun i hi => by
      obtain ⟨x, hx, _⟩ := get_lt hi
      obtain ⟨y, hy, _⟩ := get_lt (l := d.types) (i := i) (by omega)
      obtain ⟨b, hb, hbo⟩ := ref13_arg_ex q x y
      simp only [ref13_symbol_l1_s, ltD hx, iteE_t, idxE_n hx, idxE_i hd (show 0 ≤ s.event by omega), idxE_n hy, hb, bndE_s, succW hx (show s.args.length ≤ 9223372036854775807 by omega)]
      cases b with
      | false => exact .inr ⟨_, rfl, by simp⟩
      | true => exact .inl ⟨rfl, fun a ha => by rw [hx] at ha; cases ha; exact hbo rfl⟩)
    (fun hP => ⟨.inl (), by simp only [ref13_symbol_l1_s, ltI, iteE_f], fun _ => all_get hP⟩)
  refine ex_bnd ht ?_
  rcases t with _ | _
  · exact ⟨_, rfl, fun _ => ⟨by omega, ⟨d, hd, by omega⟩, hQ rfl⟩⟩
  · exact ⟨_, rfl, by simp⟩
theorem SameSymbol_tot (a b : TSymbol) (ha : a.args.length ≤ 9223372036854775807) : ∃ r, ref13_SameSymbol a b = some r := by
  unfold ref13_SameSymbol
  refine tot_ex ?_
  refine ex_ifn (fun _ => ⟨_, rfl, trivial⟩) (fun _ => ?_)
  refine ex_ifn (fun _ => ⟨_, rfl, trivial⟩) (fun h => ?_)
  obtain ⟨t, ht, _⟩ := loop_scan0 (step := fun i => ref13_SameSymbol_l1_s a b i) a.args.length (fun _ => True) (fun _ => True)
    (fun i hi => by
      obtain ⟨x, hx, _⟩ := get_lt hi
      obtain ⟨y, hy, _⟩ := get_lt (l := b.args) (i := i) (by omega)
      simp only [ref13_SameSymbol_l1_s, ltD hx, iteE_t, idxE_n hx, idxE_n hy, succW hx ha]
      simp only [iteE_if]
      split
      · exact .inr ⟨_, rfl, trivial⟩
      · exact .inl ⟨rfl, trivial⟩)
    (fun _ => ⟨.inl (), by simp only [ref13_SameSymbol_l1_s, ltI, iteE_f], trivial⟩)
  refine ex_bnd ht ?_
  rcases t with _ | _ <;> exact ⟨_, rfl, trivial⟩
theorem ref13_symbols_ex (q : TQea) (hF : FewP q) (hT : ∀ t ∈ q.trans, 0 ≤ t.symbol ∧ t.symbol < q.symbols.length) : ∃ r, ref13_symbols q = some r ∧ (r = true → ∀ s ∈ q.symbols, SymOk q s) := by
  have hsy := hF.symbols; have htr := hF.trans; have hqu := hF.quants
  unfold ref13_symbols
  rw [chkE_p ⟨by omega, fit_small (by omega) (by decide)⟩]
  obtain ⟨o9, h9, hl9⟩ := loopE_ex (step := fun s : Int × List Bool × List Int => ref13_symbols_l1_s q s.1 s.2.1 s.2.2) (fun s => ∃ i : Nat, s.1 = (i : Int) ∧ i ≤ q.trans.length ∧ s.2.1.length = q.symbols.length ∧ s.2.2.length ≤ i) (fun s => (q.trans.length - s.1).toNat) (fun o => o.length ≤ 12)
    (by
      rintro ⟨s, u, w⟩ ⟨i, rfl, hi, hu, hw⟩
      simp only at hu hw ⊢
      by_cases he : i = q.trans.length
      · subst he
        exact .inl ⟨w, by simp only [ref13_symbols_l1_s, ltI, iteE_f], by omega⟩
      · obtain ⟨x, hx, _⟩ := get_lt (l := q.trans) (i := i) (by omega)
        have hxs := hT x (List.mem_of_getElem? hx)
        obtain ⟨y, hy, _⟩ := getI (l := u) (i := x.symbol) hxs.1 (by omega)
        have hb5 : ∃ w', ref13_symbols_b5 (i : Int) x.symbol (!y) q u w = some w' ∧ w'.length ≤ i + 1 := by
          unfold ref13_symbols_b5
          refine ex_ifnb (fun _ => ?_) (fun _ => ⟨_, rfl, by omega⟩)
          rw [chkF (by simp; omega) (by decide)]
          exact ⟨_, rfl, by simpa using hw⟩
        obtain ⟨w', hb, hw'⟩ := hb5
        refine .inr ⟨(((i + 1 : Nat) : Int), u.set x.symbol.toNat true, w'), ?_, ⟨i + 1, rfl, by omega, by simpa using hu, hw'⟩, by simp only; omega⟩
        simp only [ref13_symbols_l1_s, ltD hx, iteE_t, succW hx (show q.trans.length ≤ 9223372036854775807 by omega)]
        unfold ref13_symbols_b4
        rw [idxE_n hx, chkE_p (by omega), idxE_i hy hxs.1, hb, bndE_s, chkE_p (by omega), chkE_p (by omega)]
        rfl)
    ((0 : Int), List.replicate (q.symbols.length : Int).toNat false, ([] : List Int)) ⟨0, rfl, by omega, by simp, by simp⟩
  refine ex_bnd h9 ?_
  obtain ⟨t1, e1, _⟩ := loop_scan0 (step := fun s => ref13_symbols_l6_s q o9 s) o9.length (fun _ => True) (fun _ => True)
    (fun i hi => by
      obtain ⟨x, hx, _⟩ := get_lt hi
      simp only [ref13_symbols_l6_s, ltD hx, iteE_t, idxE_n hx, succW hx (show o9.length ≤ 9223372036854775807 by omega)]
      simp only [iteE_if]
      split
      · exact .inr ⟨_, rfl, trivial⟩
      · exact .inl ⟨rfl, trivial⟩)
    (fun _ => ⟨.inl (), by simp only [ref13_symbols_l6_s, ltI, iteE_f], trivial⟩)
  refine ex_bnd e1 ?_
  rcases t1 with _ | _
  case inr => exact ⟨_, rfl, by simp⟩
  rw [sumE_l]
  have hsl : q.symbols.length ≤ 9223372036854775807 := by omega
  obtain ⟨t2, e2, Q2⟩ := loop_scan0 (step := fun s => ref13_symbols_l7_s q s) q.symbols.length (fun i => ∀ s, q.symbols[i]? = some s → SymOk q s) (fun t => t = .inl () → ∀ s ∈ q.symbols, SymOk q s)
    (fun i hi => by
      obtain ⟨x, hx, _⟩ := get_lt hi
      have hxa := hF.args x (List.mem_of_getElem? hx)
      obtain ⟨b, hb, hbo⟩ := ref13_symbol_ex q x hxa
      simp only [ref13_symbols_l7_s, ltD hx, iteE_t, idxE_n hx, hb, bndE_s, succW hx hsl]
      cases b with
      | false => exact .inr ⟨_, rfl, by simp⟩
      | true =>
        simp only [Bool.not_true, iteE_f]
        obtain ⟨t3, e3, _⟩ := loop_scan0 (step := fun s => ref13_symbols_l8_s (i : Int) q s) i (fun _ => True) (fun _ => True)
          (fun j hj => by
            obtain ⟨y, hy, _⟩ := get_lt (l := q.symbols) (i := j) (by omega)
            obtain ⟨c, hc⟩ := SameSymbol_tot x y (by omega)
            have hlt : decide ((j : Int) < (i : Int)) = true := by simp; omega
            simp only [ref13_symbols_l8_s, hlt, iteE_t, idxE_n hx, idxE_n hy, hc, bndE_s, succW hy hsl]
            simp only [iteE_if]
            split
            · exact .inr ⟨_, rfl, trivial⟩
            · exact .inl ⟨rfl, trivial⟩)
          (fun _ => ⟨.inl (), by simp only [ref13_symbols_l8_s, ltI, iteE_f], trivial⟩)
        unfold ref13_symbols_l8
        rw [e3, bndE_s]
        rcases t3 with _ | _
        · exact .inl ⟨rfl, fun s hs => by rw [hx] at hs; cases hs; exact hbo rfl⟩
        · exact .inr ⟨_, rfl, by simp⟩)
    (fun hP => ⟨.inl (), by simp only [ref13_symbols_l7_s, ltI, iteE_f], fun _ => all_get hP⟩)
  refine ex_bnd e2 ?_
  rcases t2 with _ | _
  case inr => exact ⟨_, rfl, by simp⟩
  rw [sumE_l]
  obtain ⟨t4, e4, _⟩ := loop_scan0 (step := fun s => ref13_symbols_l9_s q s) q.quants.length (fun _ => True) (fun _ => True)
    (fun i hi => by
      have hlt : decide ((i : Int) < (q.quants.length : Int)) = true := by simp; omega
      obtain ⟨o, ho, _⟩ := loopE_ex (step := fun s : Bool × Int => ref13_symbols_l10_s (i : Int) q s.1 s.2) (fun s => ∃ j : Nat, s.2 = (j : Int) ∧ j ≤ q.symbols.length) (fun s => (q.symbols.length - s.2).toNat) (fun _ => True)
        (by
          rintro ⟨b, s⟩ ⟨j, rfl, hj⟩
          simp only
          by_cases he : j = q.symbols.length
          · subst he; exact .inl ⟨b, by simp only [ref13_symbols_l10_s, ltI, iteE_f], trivial⟩
          · obtain ⟨x, hx, _⟩ := get_lt (l := q.symbols) (i := j) (by omega)
            have hxa := hF.args x (List.mem_of_getElem? hx)
            obtain ⟨c, hc⟩ := Names_tot x (i : Int) (by omega)
            have hc' : ref13_Names x (i : Int) = some c := hc
            cases b with
            | true => exact .inr ⟨(true, ((j + 1 : Nat) : Int)), by simp only [ref13_symbols_l10_s, ltD hx, iteE_t, succW hx hsl], ⟨j + 1, rfl, by omega⟩, by simp only; omega⟩
            | false => exact .inr ⟨(c, ((j + 1 : Nat) : Int)), by simp only [ref13_symbols_l10_s, ltD hx, iteE_t, iteE_f, idxE_n hx, hc', bndE_s, succW hx hsl], ⟨j + 1, rfl, by omega⟩, by simp only; omega⟩)
        (false, (0 : Int)) ⟨0, rfl, by omega⟩
      have ho' : ref13_symbols_l10 (i : Int) q false 0 = some o := ho
      simp only [ref13_symbols_l9_s, hlt, iteE_t, ho', bndE_s, succI (show i < 9223372036854775807 by omega)]
      simp only [iteE_if]
      split
      · exact .inr ⟨_, rfl, trivial⟩
      · exact .inl ⟨rfl, trivial⟩)
    (fun _ => ⟨.inl (), by simp only [ref13_symbols_l9_s, ltI, iteE_f], trivial⟩)
  refine ex_bnd e4 ?_
  rcases t4 with _ | _
  · exact ⟨_, rfl, fun _ => Q2 rfl⟩
  · exact ⟨_, rfl, by simp⟩
theorem twice_tot (l : List (List UInt8)) (at' : Nat) (h : at' < l.length) (hl : l.length ≤ 9223372036854775807) : ∃ r, ref13_twice l (at' : Int) = some r := by
  unfold ref13_twice
  refine tot_ex ?_
  obtain ⟨y, hy, _⟩ := get_lt h
  obtain ⟨t, ht, _⟩ := loop_scan0 (step := fun i => ref13_twice_l1_s l (at' : Int) i) at' (fun _ => True) (fun _ => True)
    (fun i hi => by
      obtain ⟨x, hx, _⟩ := get_lt (l := l) (i := i) (by omega)
      have hlt : decide ((i : Int) < (at' : Int)) = true := by simp; omega
      simp only [ref13_twice_l1_s, hlt, iteE_t, idxE_n hx, idxE_n hy, succW hx hl]
      simp only [iteE_if]
      split
      · exact .inr ⟨_, rfl, trivial⟩
      · exact .inl ⟨rfl, trivial⟩)
    (fun _ => ⟨.inl (), by simp only [ref13_twice_l1_s, ltI, iteE_f], trivial⟩)
  refine ex_bnd ht ?_
  rcases t with _ | _ <;> exact ⟨_, rfl, trivial⟩
theorem ref13_names_tot (q : TQea) (hF : FewP q) : ∃ r, ref13_names q = some r := by
  have h1 := hF.quants; have h2 := hF.frees; have h3 := hF.states
  unfold ref13_names
  refine tot_ex ?_
  obtain ⟨o7, e7, p7⟩ := loopE_ex (step := fun s : Int × List (List UInt8) => ref13_names_l1_s q s.1 s.2) (fun s => ∃ i : Nat, s.1 = (i : Int) ∧ i ≤ q.quants.length ∧ s.2.length ≤ i) (fun s => (q.quants.length - s.1).toNat) (fun o => ∀ w, o = .inl w → w.length ≤ 9)
    (by
      rintro ⟨s, w⟩ ⟨i, rfl, hi, hw⟩
      simp only at hw ⊢
      by_cases he : i = q.quants.length
      · subst he; exact .inl ⟨.inl w, by simp only [ref13_names_l1_s, ltI, iteE_f], fun w' hw' => by cases hw'; omega⟩
      · obtain ⟨x, hx, _⟩ := get_lt (l := q.quants) (i := i) (by omega)
        simp only [ref13_names_l1_s, ltD hx, iteE_t, idxE_n hx, succW hx (show q.quants.length ≤ 9223372036854775807 by omega)]
        rw [chkF (by simp; omega) (by decide)]
        simp only [iteE_if]
        split
        · exact .inl ⟨_, rfl, by simp⟩
        · split
          · exact .inl ⟨_, rfl, by simp⟩
          · exact .inr ⟨_, rfl, ⟨i + 1, rfl, by omega, by simpa using hw⟩, by simp only; omega⟩)
    ((0 : Int), ([] : List (List UInt8))) ⟨0, rfl, by omega, by simp⟩
  refine ex_bnd e7 ?_
  rcases o7 with o8 | _
  case inr => exact ⟨_, rfl, trivial⟩
  rw [sumE_l]
  have hw8 := p7 o8 rfl
  obtain ⟨o13, e13, p13⟩ := loopE_ex (step := fun s : Int × List (List UInt8) => ref13_names_l2_s q s.1 s.2) (fun s => ∃ i : Nat, s.1 = (i : Int) ∧ i ≤ q.frees.length ∧ s.2.length ≤ 9 + i) (fun s => (q.frees.length - s.1).toNat) (fun o => ∀ w, o = .inl w → w.length ≤ 21)
    (by
      rintro ⟨s, w⟩ ⟨i, rfl, hi, hw⟩
      simp only at hw ⊢
      by_cases he : i = q.frees.length
      · subst he; exact .inl ⟨.inl w, by simp only [ref13_names_l2_s, ltI, iteE_f], fun w' hw' => by cases hw'; omega⟩
      · obtain ⟨x, hx, _⟩ := get_lt (l := q.frees) (i := i) (by omega)
        obtain ⟨b, hb⟩ := ref03_Right_tot x.init_
        simp only [ref13_names_l2_s, ltD hx, iteE_t, idxE_n hx, hb, bndE_s, succW hx (show q.frees.length ≤ 9223372036854775807 by omega)]
        rw [chkF (by simp; omega) (by decide)]
        simp only [iteE_if]
        split
        · exact .inl ⟨_, rfl, by simp⟩
        · exact .inr ⟨_, rfl, ⟨i + 1, rfl, by omega, by simp; omega⟩, by simp only; omega⟩)
    ((0 : Int), o8) ⟨0, rfl, by omega, by simpa using hw8⟩
  refine ex_bnd e13 ?_
  rcases o13 with o14 | _
  case inr => exact ⟨_, rfl, trivial⟩
  rw [sumE_l]
  have hw14 := p13 o14 rfl
  obtain ⟨t, ht, _⟩ := loop_scan0 (step := fun i => ref13_names_l3_s q o14 i) o14.length (fun _ => True) (fun _ => True)
    (fun i hi => by
      obtain ⟨x, hx, _⟩ := get_lt hi
      obtain ⟨b, hb⟩ := ref07_Name_tot x
      obtain ⟨c, hc⟩ := twice_tot o14 i hi (by omega)
      simp only [ref13_names_l3_s, ltD hx, iteE_t, idxE_n hx, hb, hc, bndE_s, succW hx (show o14.length ≤ 9223372036854775807 by omega)]
      simp only [iteE_if]
      repeat' split
      all_goals first | exact .inl ⟨rfl, trivial⟩ | exact .inr ⟨_, rfl, trivial⟩)
    (fun _ => ⟨.inl (), by simp only [ref13_names_l3_s, ltI, iteE_f], trivial⟩)
  refine ex_bnd ht ?_
  rcases t with _ | _
  case inr => exact ⟨_, rfl, trivial⟩
  rw [sumE_l]
  obtain ⟨o30, e30, _⟩ := loopE_ex (step := fun s : Int × List (List UInt8) => ref13_names_l4_s q s.1 s.2) (fun s => ∃ i : Nat, s.1 = (i : Int) ∧ i ≤ q.states.length ∧ s.2.length = i) (fun s => (q.states.length - s.1).toNat) (fun _ => True)
    (by
      rintro ⟨s, w⟩ ⟨i, rfl, hi, hw⟩
      simp only at hw ⊢
      by_cases he : i = q.states.length
      · subst he; exact .inl ⟨.inl (), by simp only [ref13_names_l4_s, ltI, iteE_f], trivial⟩
      · obtain ⟨x, hx, _⟩ := get_lt (l := q.states) (i := i) (by omega)
        have hg : (w ++ [x.name])[i]? = some x.name := by rw [← hw]; simp
        obtain ⟨b, hb⟩ := ref07_Name_tot x.name
        obtain ⟨c, hc⟩ := twice_tot (w ++ [x.name]) i (by simp; omega) (by simp; omega)
        simp only [ref13_names_l4_s, ltD hx, iteE_t, idxE_n hx, succW hx (show q.states.length ≤ 9223372036854775807 by omega)]
        rw [chkF (by simp; omega) (by decide), idxE_n hg, hb, bndE_s, hc]
        simp only [bndE_s, iteE_if]
        split
        · exact .inl ⟨_, rfl, trivial⟩
        · split
          · exact .inl ⟨_, rfl, trivial⟩
          · exact .inr ⟨_, rfl, ⟨i + 1, rfl, by omega, by simp; omega⟩, by simp only; omega⟩)
    ((0 : Int), ([] : List (List UInt8))) ⟨0, rfl, by omega, by simp⟩
  refine ex_bnd e30 ?_
  rcases o30 with _ | _
  · obtain ⟨b, hb⟩ := ref07_Name_tot q.name
    rw [sumE_l]
    exact ex_bnd hb ⟨_, rfl, trivial⟩
  · exact ⟨_, rfl, trivial⟩
structure RightQ (q : TQea) : Prop where
  decls : DeclsOk q.decls
  quants : q.quants.length ≤ 8
  symbols : ∀ s ∈ q.symbols, SymOk q s
  guards : ∀ t ∈ q.trans, t.guard = -1 ∨ 0 ≤ t.guard
  ends : ∀ t ∈ q.trans, (0 ≤ t.symbol ∧ t.symbol < q.symbols.length) ∧ (0 ≤ t.from_ ∧ t.from_ < q.states.length) ∧ 0 ≤ t.to ∧ t.to < q.states.length
  fires : ∀ t ∈ q.trans, ∃ f r, ref13_trans q t f = some (r, true)
theorem ref13_Right_ex (q : TQea) (hF : FewP q) (hW : ∀ t ∈ q.trans, TransW t) : ∃ r, ref13_Right q = some r ∧ (r = true → RightQ q) := by
  have h1 := hF.decls; have h2 := hF.trans
  unfold ref13_Right
  obtain ⟨r1, e1, p1⟩ := ref07_Check_ex q.decls (by omega)
  refine ex_bnd e1 ?_
  refine ex_ifn (fun _ => ⟨_, rfl, by simp⟩) (fun hz => ?_)
  refine ex_if (fun _ => ⟨_, rfl, by simp⟩) (fun hq => ?_)
  refine ex_if (fun _ => ⟨_, rfl, by simp⟩) (fun _ => ?_)
  refine ex_if (fun _ => ⟨_, rfl, by simp⟩) (fun _ => ?_)
  refine ex_if (fun _ => ⟨_, rfl, by simp⟩) (fun _ => ?_)
  refine ex_if (fun _ => ⟨_, rfl, by simp⟩) (fun _ => ?_)
  refine ex_if (fun _ => ⟨_, rfl, by simp⟩) (fun _ => ?_)
  refine ex_if (fun _ => ⟨_, rfl, by simp⟩) (fun _ => ?_)
  refine ex_if (fun _ => ⟨_, rfl, by simp⟩) (fun _ => ?_)
  obtain ⟨r2, e2⟩ := ref13_names_tot q hF
  refine ex_bnd e2 ?_
  refine ex_ifnb (fun _ => ⟨_, rfl, by simp⟩) (fun _ => ?_)
  obtain ⟨o5, e5, p5⟩ := loopE_ex (step := fun s : Int × Int => ref13_Right_l1_s q s.1 s.2) (fun s => ∃ i : Nat, s.2 = (i : Int) ∧ i ≤ q.trans.length ∧ 0 ≤ s.1 ∧ s.1 ≤ q.nodes.length ∧ ∀ j, j < i → ∀ t, q.trans[j]? = some t → 0 ≤ t.symbol ∧ t.symbol < q.symbols.length ∧ (t.guard = -1 ∨ 0 ≤ t.guard) ∧ (0 ≤ t.from_ ∧ t.from_ < q.states.length) ∧ 0 ≤ t.to ∧ t.to < q.states.length ∧ ∃ f r, ref13_trans q t f = some (r, true)) (fun s => (q.trans.length - s.2).toNat)
    (fun o => ∀ w, o = .inl w → ∀ t ∈ q.trans, 0 ≤ t.symbol ∧ t.symbol < q.symbols.length ∧ (t.guard = -1 ∨ 0 ≤ t.guard) ∧ (0 ≤ t.from_ ∧ t.from_ < q.states.length) ∧ 0 ≤ t.to ∧ t.to < q.states.length ∧ ∃ f r, ref13_trans q t f = some (r, true))
    (by
      rintro ⟨w, s⟩ ⟨i, rfl, hi, hw0, hw1, hP⟩
      simp only at hw0 hw1 hP ⊢
      by_cases he : i = q.trans.length
      · subst he; exact .inl ⟨.inl w, by simp only [ref13_Right_l1_s, ltI, iteE_f], fun _ _ => all_get hP⟩
      · obtain ⟨x, hx, _⟩ := get_lt (l := q.trans) (i := i) (by omega)
        have hxm := List.mem_of_getElem? hx
        obtain ⟨r4, e4, p4⟩ := trans_ex q hF x (hW x hxm) (hF.sets x hxm) w hw0 hw1
        simp only [ref13_Right_l1_s, ltD hx, iteE_t, idxE_n hx, e4, bndE_s, succW hx (show q.trans.length ≤ 9223372036854775807 by omega)]
        cases hb : r4.2 with
        | false => exact .inl ⟨.inr (), rfl, by simp⟩
        | true =>
          have hp := p4 hb
          refine .inr ⟨(r4.1, ((i + 1 : Nat) : Int)), rfl, ⟨i + 1, rfl, by omega, hp.2.2.1, hp.2.2.2.1, fun j hj t ht => ?_⟩, by simp only; omega⟩
          rcases Nat.lt_or_ge j i with h | h
          · exact hP j h t ht
          · have : j = i := by omega
            subst this; rw [hx] at ht; cases ht; exact ⟨hp.1, hp.2.1, hp.2.2.2.2.1, hp.2.2.2.2.2.1, hp.2.2.2.2.2.2.1, hp.2.2.2.2.2.2.2, w, r4.1, by rw [e4, ← hb]⟩)
    ((0 : Int), (0 : Int)) ⟨0, rfl, by omega, by simp, by simp, fun j hj => by omega⟩
  refine ex_bnd e5 ?_
  rcases o5 with o6 | _
  · rw [sumE_l]
    refine ex_if (fun _ => ?_) (fun _ => ⟨_, rfl, by simp⟩)
    obtain ⟨r8, e8, p8⟩ := ref13_symbols_ex q hF (fun t ht => ⟨(p5 o6 rfl t ht).1, (p5 o6 rfl t ht).2.1⟩)
    refine ex_bnd e8 ⟨_, rfl, fun hr => ⟨p1 hz, by omega, p8 hr, fun t ht => (p5 o6 rfl t ht).2.2.1, fun t ht => ⟨⟨(p5 o6 rfl t ht).1, (p5 o6 rfl t ht).2.1⟩, (p5 o6 rfl t ht).2.2.2.1, (p5 o6 rfl t ht).2.2.2.2.1, (p5 o6 rfl t ht).2.2.2.2.2.1⟩, fun t ht => (p5 o6 rfl t ht).2.2.2.2.2.2⟩⟩
  · exact ⟨_, rfl, by simp⟩
def argsS (a : List TValue) (t : List Int) : Bool := decide (a.length = t.length) && (a.zip t).all fun p => decide (p.1.kind = p.2) && vR p.1
def eR (l : List TDecl) (e : TEvent) : Bool := match findS l e.name with
  | none => false
  | some i => match l[i]? with
    | none => false
    | some d => argsS e.args d.types
theorem ref08_Right_eq (l : List TDecl) (e : TEvent) (hl : l.length ≤ 9223372036854775807) (he : e.args.length ≤ 9223372036854775807) : ref08_Right l e = some (eR l e) := by
  unfold ref08_Right
  rw [ref07_Find_eq l _ hl, bndE_s]
  unfold eR
  cases hf : findS l e.name with
  | none => simp [iteE]
  | some i =>
    obtain ⟨d, hd, _⟩ := findS_some hf
    dsimp only
    rw [iteP, if_neg (Int.not_lt.2 (Int.natCast_nonneg i)), idxE_n hd, hd, iteE_if, len_dec]
    dsimp only
    unfold argsS
    by_cases hl2 : d.types.length = e.args.length
    · rw [if_neg (by simp [hl2])]
      unfold ref08_Right_l1
      have hz : (e.args.zip d.types).length = e.args.length := by simp [hl2]
      rw [loop_all0 (e.args.zip d.types) (fun p => decide (p.1.kind = p.2) && vR p.1) (.inl () : Unit ⊕ Unit) (.inr ())
        (fun i z hz => by
          obtain ⟨hx, hy⟩ := zip_get hz
          simp only [ref08_Right_l1_s, ltD hx, iteE_t, idxE_n hx, idxE_n hd, idxE_n hy, ref03_Right_eq, bndE_s, succW hx he]
          by_cases h : z.1.kind = z.2 <;> cases hv : vR z.1 <;> simp [h, iteE])
        (by rw [hz]; simp only [ref08_Right_l1_s, ltI, iteE_f]), bndE_s]
      cases (e.args.zip d.types).all _ <;> simp [sumE, hl2]
    · rw [if_pos (by simp [hl2])]
      have : ¬ e.args.length = d.types.length := fun h => hl2 h.symm
      simp [this]

def SV (w : List TSlot) : Prop := w.Pairwise (fun a b => a.var < b.var) ∧ ∀ s ∈ w, 0 ≤ s.var ∧ s.var ≤ 63
theorem sorted_ext : ∀ {a b : List TSlot}, a.Pairwise (fun x y => x.var < y.var) → b.Pairwise (fun x y => x.var < y.var) → (∀ s, s ∈ a ↔ s ∈ b) → a = b
  | [], [], _, _, _ => rfl
  | [], y :: b, _, _, h => by have := (h y).2 (by simp); simp at this
  | x :: a, [], _, _, h => by have := (h x).1 (by simp); simp at this
  | x :: a, y :: b, ha, hb, h => by
    obtain ⟨ha1, ha2⟩ := List.pairwise_cons.1 ha
    obtain ⟨hb1, hb2⟩ := List.pairwise_cons.1 hb
    have hxy : x = y := by
      rcases List.mem_cons.1 ((h x).1 (by simp)) with e | e
      · exact e
      · rcases List.mem_cons.1 ((h y).2 (by simp)) with e2 | e2
        · exact e2.symm
        · have := hb1 x e; have := ha1 y e2; omega
    subst hxy
    congr 1
    refine sorted_ext ha2 hb2 fun s => ⟨fun hs => ?_, fun hs => ?_⟩
    · rcases List.mem_cons.1 ((h s).1 (List.mem_cons_of_mem _ hs)) with e | e
      · subst e; have := ha1 s hs; omega
      · exact e
    · rcases List.mem_cons.1 ((h s).2 (List.mem_cons_of_mem _ hs)) with e | e
      · subst e; have := hb1 s hs; omega
      · exact e
def insV : List TSlot → TSlot → List TSlot
  | [], x => [x]
  | y :: l, x => if x.var < y.var then x :: y :: l else y :: insV l x
theorem insV_mem : ∀ (l : List TSlot) (x s : TSlot), s ∈ insV l x ↔ s = x ∨ s ∈ l
  | [], x, s => by simp [insV]
  | y :: l, x, s => by
    unfold insV
    split
    · simp
    · rw [List.mem_cons, insV_mem l x s, List.mem_cons]
      constructor
      · rintro (h | h | h) <;> simp [h]
      · rintro (h | h | h) <;> simp [h]
theorem insV_sorted : ∀ (l : List TSlot) (x : TSlot), l.Pairwise (fun a b => a.var < b.var) → (∀ s ∈ l, s.var ≠ x.var) → (insV l x).Pairwise (fun a b => a.var < b.var)
  | [], x, _, _ => by simp [insV]
  | y :: l, x, h, hn => by
    obtain ⟨h1, h2⟩ := List.pairwise_cons.1 h
    unfold insV
    split
    · rename_i hxy
      refine List.pairwise_cons.2 ⟨fun s hs => ?_, h⟩
      rcases List.mem_cons.1 hs with rfl | hs
      · exact hxy
      · have := h1 s hs; omega
    · rename_i hxy
      refine List.pairwise_cons.2 ⟨fun s hs => ?_, insV_sorted l x h2 fun s hs => hn s (List.mem_cons_of_mem _ hs)⟩
      rcases (insV_mem l x s).1 hs with rfl | hs
      · have := hn y (by simp); omega
      · exact h1 s hs
theorem insV_len : ∀ (l : List TSlot) (x : TSlot), (insV l x).length = l.length + 1
  | [], x => rfl
  | y :: l, x => by unfold insV; split <;> simp [insV_len l x]
theorem getS_none {l : List TSlot} {v : Int} (h : (getS l v).2 = false) : ∀ s ∈ l, s.var ≠ v := by
  intro s hs e
  unfold getS at h
  cases hf : l.findSome? (fun s => if s.var = v then some s.value else none) with
  | some x => rw [hf] at h; cases h
  | none =>
    rw [List.findSome?_eq_none_iff] at hf
    have := hf s hs
    simp [e] at this
theorem getS_sorted {l : List TSlot} (hl : l.Pairwise (fun a b => a.var < b.var)) {s : TSlot} (h : s ∈ l) : getS l s.var = (s.value, true) := by
  have key : ∀ (l : List TSlot), l.Pairwise (fun a b => a.var < b.var) → s ∈ l → l.findSome? (fun t => if t.var = s.var then some t.value else none) = some s.value := by
    intro l
    induction l with
    | nil => intro _ h; simp at h
    | cons t l ih =>
      intro hp hs
      rw [List.findSome?_cons]
      obtain ⟨h1, h2⟩ := List.pairwise_cons.1 hp
      rcases List.mem_cons.1 hs with rfl | hs
      · simp
      · have := h1 s hs
        rw [if_neg (by omega)]
        exact ih h2 hs
  unfold getS
  rw [key l hl h]
def putV (w : List TSlot) (x : TSlot) : Option (List TSlot) := if (getS w x.var).2 = true then (if (getS w x.var).1 = x.value then some w else none) else some (insV w x)
theorem putV_ok {w w' : List TSlot} {x : TSlot} (hw : SV w) (hx : 0 ≤ x.var ∧ x.var ≤ 63) (h : putV w x = some w') : SV w' ∧ w'.length ≤ w.length + 1 := by
  unfold putV at h
  split at h
  · split at h
    · cases h; exact ⟨hw, by omega⟩
    · cases h
  · rename_i hn
    cases h
    have hn' : (getS w x.var).2 = false := by simpa using hn
    refine ⟨⟨insV_sorted w x hw.1 (getS_none hn'), fun s hs => ?_⟩, by rw [insV_len]; exact Nat.le_refl _⟩
    rcases (insV_mem w x s).1 hs with rfl | hs
    · exact hx
    · exact hw.2 s hs
theorem cut_ins {w : List TSlot} {x : TSlot} (hw : w.Pairwise (fun a b => a.var < b.var)) (hn : ∀ s ∈ w, s.var ≠ x.var) {k : Nat} (hk : k ≤ w.length) (h1 : ∀ j s, w[j]? = some s → j < k → s.var < x.var) (h2 : ∀ j s, w[j]? = some s → k ≤ j → x.var < s.var) :
    w.take k ++ [x] ++ w.drop k = insV w x := by
  refine sorted_ext ?_ (insV_sorted w x hw hn) fun s => ?_
  · rw [List.append_assoc, List.singleton_append]
    have hd : ∀ s ∈ w.drop k, x.var < s.var := fun s hs => by
      obtain ⟨j, hj, rfl⟩ := List.mem_iff_getElem.1 hs
      rw [List.getElem_drop]
      exact h2 (k + j) _ (List.getElem?_eq_getElem (by simp at hj; omega)) (by omega)
    have htk : ∀ s ∈ w.take k, s.var < x.var := fun s hs => by
      obtain ⟨j, hj, rfl⟩ := List.mem_iff_getElem.1 hs
      rw [List.getElem_take]
      simp at hj
      exact h1 j _ (List.getElem?_eq_getElem (by omega)) (by omega)
    refine List.pairwise_append.2 ⟨hw.sublist (List.take_sublist _ _), List.pairwise_cons.2 ⟨hd, hw.sublist (List.drop_sublist _ _)⟩, fun a ha b hb => ?_⟩
    rcases List.mem_cons.1 hb with rfl | hb
    · exact htk a ha
    · have := htk a ha; have := hd b hb; omega
  · rw [insV_mem]
    have hw2 : s ∈ w ↔ s ∈ w.take k ∨ s ∈ w.drop k := by
      conv => lhs; rw [← List.take_append_drop k w]
      rw [List.mem_append]
    rw [hw2]
    simp only [List.mem_append, List.mem_singleton]
    constructor
    · rintro ((h | h) | h) <;> simp [h]
    · rintro (h | h | h) <;> simp [h]
def fitS : List TArg → List TValue → List TSlot → List TSlot → Option (List TSlot × List TSlot)
  | a :: al, x :: xs, b, f =>
    if a.kind = 1 then (if a.value = x then fitS al xs b f else none)
    else if a.kind = 2 then (match putV b ⟨a.n, x⟩ with | none => none | some b' => fitS al xs b' f)
    else if a.kind = 3 then (match putV f ⟨a.n, x⟩ with | none => none | some f' => fitS al xs b f')
    else fitS al xs b f
  | _, _, b, f => some (b, f)
def ArgV (a : TArg) : Prop := (a.kind = 2 → 0 ≤ a.n ∧ a.n ≤ 7) ∧ (a.kind = 3 → 0 ≤ a.n ∧ a.n ≤ 63)
def B7 (b : List TSlot) : Prop := ∀ s ∈ b, s.var ≤ 7
theorem putV_7 {w w' : List TSlot} {x : TSlot} (hw : B7 w) (hx : x.var ≤ 7) (h : putV w x = some w') : B7 w' := by
  unfold putV at h
  split at h
  · split at h
    · cases h; exact hw
    · cases h
  · cases h
    intro s hs
    rcases (insV_mem w x s).1 hs with rfl | hs
    · exact hx
    · exact hw s hs
theorem fitS_ok : ∀ (al : List TArg) (xs : List TValue) (b f : List TSlot) (p : List TSlot × List TSlot), (∀ a ∈ al, ArgV a) → SV b → SV f → B7 b → fitS al xs b f = some p → SV p.1 ∧ SV p.2 ∧ B7 p.1 ∧ p.1.length ≤ b.length + al.length ∧ p.2.length ≤ f.length + al.length
  | [], xs, b, f, p, _, hb, hf, h7, h => by simp only [fitS] at h; cases h; exact ⟨hb, hf, h7, by simp, by simp⟩
  | a :: al, [], b, f, p, _, hb, hf, h7, h => by simp only [fitS] at h; cases h; exact ⟨hb, hf, h7, by simp, by simp⟩
  | a :: al, x :: xs, b, f, p, hA, hb, hf, h7, h => by
    have hA' : ∀ a ∈ al, ArgV a := fun a h => hA a (List.mem_cons_of_mem _ h)
    have hAa := hA a (by simp)
    simp only [fitS] at h
    split at h
    · split at h
      · obtain ⟨a1, a2, a3, a4, a5⟩ := fitS_ok al xs b f p hA' hb hf h7 h
        exact ⟨a1, a2, a3, by simp; omega, by simp; omega⟩
      · cases h
    · split at h
      · rename_i h2
        split at h
        · cases h
        · rename_i b' hp
          have hv := hAa.1 h2
          obtain ⟨c1, c2⟩ := putV_ok hb (x := ⟨a.n, x⟩) ⟨hv.1, by simp only; omega⟩ hp
          obtain ⟨a1, a2, a3, a4, a5⟩ := fitS_ok al xs b' f p hA' c1 hf (putV_7 h7 (by simp only; omega) hp) h
          exact ⟨a1, a2, a3, by simp; omega, by simp; omega⟩
      · split at h
        · rename_i h3
          split at h
          · cases h
          · rename_i f' hp
            have hv := hAa.2 h3
            obtain ⟨c1, c2⟩ := putV_ok hf (x := ⟨a.n, x⟩) hv hp
            obtain ⟨a1, a2, a3, a4, a5⟩ := fitS_ok al xs b f' p hA' hb c1 h7 h
            exact ⟨a1, a2, a3, by simp; omega, by simp; omega⟩
        · obtain ⟨a1, a2, a3, a4, a5⟩ := fitS_ok al xs b f p hA' hb hf h7 h
          exact ⟨a1, a2, a3, by simp; omega, by simp; omega⟩
def fitsS (a b : List TSlot) : Bool := a.all fun s => !(getS b s.var).2 || decide ((getS b s.var).1 = s.value)
theorem ref05_Fits_eq (a b : List TSlot) (ha : a.length ≤ 9223372036854775807) (hb : b.length ≤ 9223372036854775807) : ref05_Fits a b = some (fitsS a b) := by
  unfold ref05_Fits ref05_Fits_l1
  rw [loop_all0 a (fun s => !(getS b s.var).2 || decide ((getS b s.var).1 = s.value)) (.inl () : Unit ⊕ Unit) (.inr ())
    (fun i x hx => by
      simp only [ref05_Fits_l1_s, ltD hx, iteE_t, idxE_n hx, succW hx ha, ref05_Get_eq b _ hb, bndE_s, TValue.eqb_dec]
      obtain ⟨y, o⟩ := getS b x.var
      cases o
      · simp [iteE]
      · by_cases h : y = x.value <;> simp [iteE, h])
    (by simp only [ref05_Fits_l1_s, ltI, iteE_f]), bndE_s]
  unfold fitsS
  cases a.all _ <;> rfl
theorem getS_one (x : TSlot) (v : Int) : getS [x] v = if x.var = v then (x.value, true) else (zV, false) := by
  unfold getS
  by_cases h : x.var = v <;> simp [h]
def unionF (a b : List TSlot) (v : Nat) : Option TSlot :=
  if (getS a v).2 = true then some ⟨v, (getS a v).1⟩ else if (getS b v).2 = true then some ⟨v, (getS b v).1⟩ else none
def unionS (a b : List TSlot) : List TSlot := (List.range 8).filterMap (unionF a b)
theorem ref05_Union_eq (a b : List TSlot) (ha : a.length ≤ 9223372036854775807) (hb : b.length ≤ 9223372036854775807) : ref05_Union a b = some (unionS a b) := by
  unfold ref05_Union ref05_Union_l1
  have hg : ∀ (l : List TSlot) (v : Int), l.length ≤ 9223372036854775807 → ref05_Get l v = some (getS l v) := fun l v hl => ref05_Get_eq l v hl
  have h := loop_fold (step := fun s : Int × List TSlot => ref05_Union_l1_s a b s.1 s.2) (List.range 8) (fun w v => w ++ (unionF a b v).toList) (fun w => w) (fun i w => w.length ≤ i)
    (fun i x w hx hI => by
      have hi : i < 8 := by simpa using getLt hx
      have hxi : x = i := by
        rw [List.getElem?_range hi] at hx; cases hx; rfl
      subst hxi
      have hd : decide ((x : Int) < 8) = true := by simp; omega
      refine ⟨?_, ?_⟩
      · simp only [ref05_Union_l1_s, hd, iteE_t, ref05_Union_b5, hg a _ ha, hg b _ hb, bndE_s, ref05_Union_b6, ref05_Union_b7, succI (show x < 9223372036854775807 by omega), unionF]
        rw [chkF (by simp; omega) (by decide), chkF (by simp; omega) (by decide)]
        cases (getS a (x : Int)).2 <;> cases (getS b (x : Int)).2 <;> simp [iteE, bndE]
      · unfold unionF
        split
        · simpa using hI
        · split
          · simpa using hI
          · simp; omega)
    (fun w _ => by simp [ref05_Union_l1_s, iteE]) [] (by simp)
  rw [h, bndE_s]
  congr 1
  unfold unionS
  have key : ∀ (l : List Nat) (w : List TSlot), l.foldl (fun w v => w ++ (unionF a b v).toList) w = w ++ l.filterMap (unionF a b) := by
    intro l
    induction l with
    | nil => intro w; simp
    | cons v l ih => intro w; rw [List.foldl_cons, ih, List.filterMap_cons]; cases unionF a b v <;> simp
  rw [key]; simp
theorem unionF_var {a b : List TSlot} {v : Nat} {s : TSlot} (h : unionF a b v = some s) : s.var = (v : Int) := by
  unfold unionF at h
  split at h
  · cases h; rfl
  · split at h
    · cases h; rfl
    · cases h
theorem unionS_sorted (a b : List TSlot) : (unionS a b).Pairwise (fun x y => x.var < y.var) := by
  unfold unionS
  have h8 : (List.range 8).Pairwise (· < ·) := List.pairwise_lt_range
  rw [List.pairwise_filterMap]
  refine h8.imp fun {v w} hvw s hs t ht => ?_
  have := unionF_var hs; have := unionF_var ht; omega
theorem unionS_mem {a b : List TSlot} {s : TSlot} : s ∈ unionS a b ↔ 0 ≤ s.var ∧ s.var ≤ 7 ∧ (getS a s.var = (s.value, true) ∨ (getS a s.var).2 = false ∧ getS b s.var = (s.value, true)) := by
  unfold unionS
  rw [List.mem_filterMap]
  constructor
  · rintro ⟨v, hv, h⟩
    have hv8 : v < 8 := by simpa using hv
    have hsv := unionF_var h
    refine ⟨by omega, by omega, ?_⟩
    rw [hsv]
    unfold unionF at h
    split at h
    · rename_i ha; cases h; left; simp only; rw [← ha]
    · rename_i ha
      split at h
      · rename_i hb; cases h; right; exact ⟨by simpa using ha, by simp only; rw [← hb]⟩
      · cases h
  · rintro ⟨h0, h7, h⟩
    refine ⟨s.var.toNat, by simp; omega, ?_⟩
    have e : ((s.var.toNat : Nat) : Int) = s.var := by omega
    unfold unionF
    rw [e]
    rcases h with h | ⟨h, h'⟩
    · rw [h]; simp
    · rw [h, h']; simp
theorem fits_one {b : List TSlot} {x : TSlot} (hb : SV b) : fitsS b [x] = (putV b x).isSome := by
  unfold fitsS putV
  cases hg : (getS b x.var).2 with
  | true =>
    have hm := getS_mem (l := b) (v := x.var) (x := (getS b x.var).1) (by rw [← hg])
    by_cases hv : (getS b x.var).1 = x.value
    · simp only [if_true, hv, Option.isSome_some]
      rw [List.all_eq_true]
      intro s hs
      rw [getS_one]
      by_cases h : x.var = s.var
      · have := getS_sorted hb.1 hs
        rw [← h] at this
        rw [this] at hv
        simp [h, ← hv]
      · simp [h]
    · simp only [if_true, hv, if_false, Option.isSome_none]
      rw [List.all_eq_false]
      refine ⟨_, hm, ?_⟩
      rw [getS_one]
      simp
      exact fun h => hv h.symm
  | false =>
    simp only [Bool.false_eq_true, if_false, Option.isSome_some]
    rw [List.all_eq_true]
    intro s hs
    rw [getS_one]
    have := getS_none hg s hs
    have h' : ¬ x.var = s.var := fun h => this h.symm
    simp [h']
theorem union_one {b w : List TSlot} {x : TSlot} (hb : SV b) (h7 : B7 b) (hx : 0 ≤ x.var ∧ x.var ≤ 7) (h : putV b x = some w) : unionS b [x] = w := by
  have hw := putV_ok hb (x := x) ⟨hx.1, by omega⟩ h
  refine sorted_ext (unionS_sorted _ _) hw.1.1 fun s => ?_
  rw [unionS_mem, getS_one]
  unfold putV at h
  split at h
  · rename_i hg
    split at h
    · rename_i hv
      cases h
      constructor
      · rintro ⟨_, _, h1 | ⟨h1, h2⟩⟩
        · exact getS_mem h1
        · split at h2
          · rename_i e; rw [e] at hg; rw [h1] at hg; cases hg
          · simp at h2
      · intro hs
        exact ⟨(hb.2 s hs).1, h7 s hs, .inl (getS_sorted hb.1 hs)⟩
    · cases h
  · rename_i hg
    have hg' : (getS b x.var).2 = false := by simpa using hg
    cases h
    rw [insV_mem]
    constructor
    · rintro ⟨_, _, h1 | ⟨h1, h2⟩⟩
      · exact .inr (getS_mem h1)
      · split at h2
        · rename_i e
          left
          obtain ⟨a, c⟩ := s
          obtain ⟨a', c'⟩ := x
          simp only at e h2
          subst e
          simp at h2
          rw [h2]
        · simp at h2
    · rintro (rfl | hs)
      · exact ⟨hx.1, hx.2, .inr ⟨hg', by simp⟩⟩
      · exact ⟨(hb.2 s hs).1, h7 s hs, .inl (getS_sorted hb.1 hs)⟩
theorem ref17_put_eq {w : List TSlot} {x : TSlot} (hw : SV w) (hn : ∀ s ∈ w, s.var ≠ x.var) (hl : w.length ≤ 1000) : ref17_put w x = some (insV w x) := by
  unfold ref17_put ref17_put_l1
  obtain ⟨t, ht, k, hk, rfl, p1, p2⟩ := loopE_ex (step := fun s => ref17_put_l1_s w x s) (fun s => ∃ i : Nat, s = (i : Int) ∧ i ≤ w.length ∧ ∀ j s, w[j]? = some s → i ≤ j → x.var < s.var) (fun s => s.toNat)
    (fun t => ∃ k : Nat, k ≤ w.length ∧ t = (k : Int) ∧ (∀ j s, w[j]? = some s → j < k → s.var < x.var) ∧ ∀ j s, w[j]? = some s → k ≤ j → x.var < s.var)
    (by
      rintro s ⟨i, rfl, hi, hj⟩
      cases i with
      | zero => exact .inl ⟨0, by simp [ref17_put_l1_s, iteE], 0, by omega, rfl, fun j s _ h => by omega, hj⟩
      | succ i =>
        obtain ⟨y, hy, _⟩ := get_lt (l := w) (i := i) (by omega)
        have e : intVal .sub .i64 ((i + 1 : Nat) : Int) 1 = (i : Int) := by rw [subI (by omega) (by omega)]; omega
        have hd : decide ((0 : Int) < ((i + 1 : Nat) : Int)) = true := by simp
        simp only [ref17_put_l1_s, hd, iteE_t, e, idxE_n hy]
        by_cases h : x.var < y.var
        · refine .inr ⟨_, by simp only [h, decide_true, iteE_t], ⟨i, rfl, by omega, fun j s hs hij => ?_⟩, by omega⟩
          rcases Nat.eq_or_lt_of_le hij with g | g
          · subst g; rw [hy] at hs; cases hs; exact h
          · exact hj j s hs g
        · refine .inl ⟨_, by simp only [h, decide_false, iteE_f], i + 1, hi, rfl, fun j s hs hij => ?_, hj⟩
          have hyx : y.var < x.var := by
            have := hn y (List.mem_of_getElem? hy); omega
          rcases Nat.lt_or_ge j i with g | g
          · obtain ⟨a1, rfl⟩ := List.getElem?_eq_some_iff.1 hs
            obtain ⟨a2, rfl⟩ := List.getElem?_eq_some_iff.1 hy
            have := List.pairwise_iff_getElem.1 hw.1 j i a1 a2 g; omega
          · have : j = i := by omega
            subst this; rw [hy] at hs; cases hs; exact hyx)
    (w.length : Int) ⟨w.length, rfl, Nat.le_refl _, fun j s hs hij => by have := getLt hs; omega⟩
  rw [ht, bndE_s]
  have es : sub w 0 (k : Int) = w.take k := by rw [show (0 : Int) = ((0 : Nat) : Int) from rfl, sub_nat]; rfl
  rw [es, sub_end, chkE_p (by omega), chkF (by simp; omega) (by decide), chkF (by simp; omega) (by decide), chkE_p (by omega), chkF (by simp; omega) (by decide)]
  rw [List.nil_append, cut_ins hw.1 hn hk p1 p2]
theorem hit_loop {al : List TArg} {e : TEvent} {sy : TSymbol} {s1 w6 : Int} {w9 : THit} (hsy : sy.args = al) (hlen : al.length = e.args.length) (h12 : al.length ≤ 12) (hA : ∀ a ∈ al, ArgV a) : ∀ (n i : Nat) (b f : List TSlot), al.length - i = n → i ≤ al.length → SV b → SV f → B7 b → b.length ≤ i → f.length ≤ i →
    ref17_Hit_l1 s1 e w6 sy w9 b f (i : Int) = some (match fitS (al.drop i) (e.args.drop i) b f with | none => .inr () | some p => .inl p) := by
  subst hsy
  intro n
  induction n with
  | zero =>
    intro i b f hn hi _ _ _ _ _
    have : i = sy.args.length := by omega
    subst this
    rw [ref17_Hit_l1_eq]
    simp only [ref17_Hit_l1_s, ltI, iteE_f, nextE_r]
    rw [List.drop_length]; simp [fitS]
  | succ n ih =>
    intro i b f hn hi hb hf h7 hbl hfl
    obtain ⟨a, ha, hda⟩ := get_lt (l := sy.args) (i := i) (by omega)
    obtain ⟨x, hx, hdx⟩ := get_lt (l := e.args) (i := i) (by omega)
    have hAa := hA a (List.mem_of_getElem? ha)
    rw [ref17_Hit_l1_eq, hda, hdx]
    simp only [ref17_Hit_l1_s, ltD ha, iteE_t, ref17_Hit_b6, idxE_n ha, idxE_n hx, succW ha (show sy.args.length ≤ 9223372036854775807 by omega), TValue.eqb_dec, ref17_Hit_b7, ref17_Hit_b8, ref17_Hit_b9]
    simp only [fitS]
    by_cases h1 : a.kind = 1
    · have h2 : ¬ a.kind = 2 := by omega
      have h3 : ¬ a.kind = 3 := by omega
      by_cases hv : a.value = x
      · have ho := ih (i + 1) b f (by omega) (by omega) hb hf h7 (by omega) (by omega)
        simp [h1, hv, iteE, nextE, bndE, sumE]; exact_mod_cast ho
      · simp [h1, hv, iteE, nextE, bndE, sumE]
    by_cases h2 : a.kind = 2
    · have h3 : ¬ a.kind = 3 := by omega
      have hvr := hAa.1 h2
      rw [ref05_Fits_eq _ _ (by omega) (by simp), fits_one (x := ⟨a.n, x⟩) hb, ref05_Union_eq _ _ (by omega) (by simp)]
      cases hp : putV b ⟨a.n, x⟩ with
      | none => simp [h1, h2, iteE, nextE, bndE, sumE]
      | some b' =>
        obtain ⟨c1, c2⟩ := putV_ok hb (x := ⟨a.n, x⟩) ⟨hvr.1, by simp only; omega⟩ hp
        rw [union_one hb h7 (x := ⟨a.n, x⟩) hvr hp]
        have ho := ih (i + 1) b' f (by omega) (by omega) c1 hf (putV_7 h7 (by simp only; omega) hp) (by omega) (by omega)
        simp [h1, h2, h3, iteE, nextE, bndE, sumE]; exact_mod_cast ho
    by_cases h3 : a.kind = 3
    · have hvr := hAa.2 h3
      rw [ref05_Get_eq f _ (by omega)]
      unfold putV
      simp only
      cases hg : (getS f a.n).2 with
      | true =>
        by_cases hv : (getS f a.n).1 = x
        · have ho := ih (i + 1) b f (by omega) (by omega) hb hf h7 (by omega) (by omega)
          simp [h1, h2, h3, hg, hv, iteE, nextE, bndE, sumE]; exact_mod_cast ho
        · simp [h1, h2, h3, hg, hv, iteE, nextE, bndE, sumE]
      | false =>
        have hp : putV f ⟨a.n, x⟩ = some (insV f ⟨a.n, x⟩) := by unfold putV; simp [hg]
        obtain ⟨c1, c2⟩ := putV_ok hf (x := ⟨a.n, x⟩) hvr hp
        have ho := ih (i + 1) b (insV f ⟨a.n, x⟩) (by omega) (by omega) hb c1 h7 (by omega) (by omega)
        have hput := ref17_put_eq (w := f) (x := ⟨a.n, x⟩) hf (getS_none hg) (by omega)
        simp [h1, h2, h3, hg, iteE, nextE, bndE, sumE, idxE_0, hput]; exact_mod_cast ho
    · have ho := ih (i + 1) b f (by omega) (by omega) hb hf h7 (by omega) (by omega)
      simp [h1, h2, h3, iteE, nextE, bndE, sumE]; exact_mod_cast ho
def hitS (q : TQea) (i : Nat) (e : TEvent) : Option THit := match q.symbols[i]? with
  | none => none
  | some s => match q.decls[s.event.toNat]? with
    | none => none
    | some d => if d.name = e.name ∧ s.args.length = e.args.length then (fitS s.args e.args [] []).map fun p => ⟨i, p.1, p.2⟩ else none
def hitsS (q : TQea) (e : TEvent) : List THit := if eR q.decls e = true then (List.range q.symbols.length).filterMap fun i => hitS q i e else []
theorem SV_nil : SV [] := ⟨List.Pairwise.nil, by simp⟩
theorem argV {q : TQea} (hF : FewP q) (hR : RightQ q) {s : TSymbol} (hs : s ∈ q.symbols) : ∀ a ∈ s.args, ArgV a := fun a ha => by
  have := (hR.symbols s hs).args a ha
  have h8 := hR.quants; have hf := hF.frees
  exact ⟨fun h => by have := this.two h; omega, fun h => by have := this.three h; omega⟩
def outH (o : Option THit) : THit × Bool := match o with
  | some h => (h, true)
  | none => (⟨0, [], []⟩, false)
theorem ref17_Hit_eq {q : TQea} (hF : FewP q) (hR : RightQ q) {e : TEvent} {i : Nat} (hi : i < q.symbols.length) : ref17_Hit q i e = some (outH (hitS q i e)) := by
  obtain ⟨s, hs, _⟩ := get_lt hi
  have hsm := List.mem_of_getElem? hs
  have hso := hR.symbols s hsm
  obtain ⟨d, hd, hdl⟩ := hso.decl
  unfold ref17_Hit hitS
  rw [idxE_n hs, idxE_i hd hso.event, hs, len_dec]
  simp only [hd]
  by_cases hn : d.name = e.name
  · by_cases hlen : s.args.length = e.args.length
    · have h12 := hF.args s hsm
      have ho := hit_loop (sy := s) (s1 := (i : Int)) (w6 := 0) (w9 := ⟨0, [], []⟩) rfl hlen h12 (argV hF hR hsm) _ 0 [] [] rfl (by omega) SV_nil SV_nil (fun s hs => by simp at hs) (by simp) (by simp)
      rw [show (0 : Int) = ((0 : Nat) : Int) from rfl] at ho ⊢
      simp only [List.drop_zero] at ho
      simp only [hn, hlen, and_self, if_true, decide_true, Bool.not_true, iteE_f]
      rw [show ref17_Hit_l1 (i : Int) e ((0 : Nat) : Int) s (THit.mk ((0 : Nat) : Int) [] []) [] [] ((0 : Nat) : Int) = _ from ho, bndE_s]
      cases fitS s.args e.args [] [] with
      | none => simp [sumE, outH]
      | some p => simp [sumE, outH]
    · simp [hn, hlen, iteE, outH]
  · simp [hn, iteE, outH]
theorem filterMap_push {α β : Type} (g : α → Option β) : ∀ (l : List α) (w : List β), l.foldl (fun w v => w ++ (g v).toList) w = w ++ l.filterMap g := by
  intro l
  induction l with
  | nil => intro w; simp
  | cons v l ih => intro w; rw [List.foldl_cons, ih, List.filterMap_cons]; cases g v <;> simp
theorem range_get {n i x : Nat} (h : (List.range n)[i]? = some x) : x = i ∧ i < n := by
  have hi : i < n := by simpa using getLt h
  rw [List.getElem?_range hi] at h; cases h; exact ⟨rfl, hi⟩
theorem hits_ok {q : TQea} (hF : FewP q) (hR : RightQ q) {e : TEvent} {h : THit} (hh : h ∈ hitsS q e) : SV h.bind ∧ B7 h.bind ∧ h.bind.length ≤ 12 ∧ h.frees.length ≤ 12 ∧ SV h.frees := by
  unfold hitsS at hh
  split at hh
  · obtain ⟨i, _, hi⟩ := List.mem_filterMap.1 hh
    unfold hitS at hi
    split at hi
    · cases hi
    · rename_i s hs
      have hsm := List.mem_of_getElem? hs
      split at hi
      · cases hi
      · split at hi
        · simp only [Option.map_eq_some_iff] at hi
          obtain ⟨p, hp, rfl⟩ := hi
          have h12 := hF.args s hsm
          obtain ⟨a1, a2, a3, a4, a5⟩ := fitS_ok _ _ _ _ _ (argV hF hR hsm) SV_nil SV_nil (fun s hs => by simp at hs) hp
          simp only [List.length_nil] at a4 a5
          exact ⟨a1, a3, by simp only; omega, by simp only; omega, a2⟩
        · cases hi
  · simp at hh
theorem putV_mem {w w' : List TSlot} {x s : TSlot} (h : putV w x = some w') (hs : s ∈ w') : s = x ∨ s ∈ w := by
  unfold putV at h
  split at h
  · split at h
    · cases h; exact .inr hs
    · cases h
  · cases h; exact (insV_mem w x s).1 hs
theorem fitS_mem : ∀ (al : List TArg) (xs : List TValue) (b f : List TSlot) (p : List TSlot × List TSlot), fitS al xs b f = some p → ∀ s ∈ p.1, s ∈ b ∨ s.value ∈ xs
  | [], xs, b, f, p, h => by simp only [fitS] at h; cases h; exact fun s hs => .inl hs
  | a :: al, [], b, f, p, h => by simp only [fitS] at h; cases h; exact fun s hs => .inl hs
  | a :: al, x :: xs, b, f, p, h => by
    simp only [fitS] at h
    have go : ∀ b f, fitS al xs b f = some p → ∀ s ∈ p.1, s ∈ b ∨ s.value ∈ x :: xs := fun b f h s hs => (fitS_mem al xs b f p h s hs).imp id (List.mem_cons_of_mem _)
    split at h
    · split at h
      · exact go b f h
      · cases h
    · split at h
      · split at h
        · cases h
        · rename_i b' hp
          intro s hs
          rcases go b' f h s hs with g | g
          · rcases putV_mem hp g with rfl | g
            · exact .inr (by simp)
            · exact .inl g
          · exact .inr g
      · split at h
        · split at h
          · cases h
          · rename_i f' hp
            exact go b f' h
        · exact go b f h
theorem hit_at {q : TQea} {e : TEvent} {i : Nat} {h : THit} (hi : hitS q i e = some h) : h.symbol = i ∧ ∀ s ∈ h.bind, s.value ∈ e.args := by
  unfold hitS at hi
  split at hi
  · cases hi
  · split at hi
    · cases hi
    · split at hi
      · simp only [Option.map_eq_some_iff] at hi
        obtain ⟨p, hp, rfl⟩ := hi
        exact ⟨rfl, fun s hs => (fitS_mem _ _ _ _ _ hp s hs).resolve_left (by simp)⟩
      · cases hi
theorem ref17_All_eq {q : TQea} {e : TEvent} (hF : FewP q) (hR : RightQ q) : ref17_All q e = some ((List.range q.symbols.length).filterMap fun i => hitS q i e) := by
  have hs := hF.symbols
  unfold ref17_All ref17_All_l1
  have h := loop_fold (step := fun s : Int × List THit => ref17_All_l1_s q e s.1 s.2) (List.range q.symbols.length) (fun w i => w ++ (hitS q i e).toList) (fun w => w) (fun i w => w.length ≤ i)
    (fun i x w hx hI => by
      obtain ⟨rfl, hi⟩ := range_get hx
      have hlt : decide ((x : Int) < (q.symbols.length : Int)) = true := by simp; omega
      refine ⟨?_, by cases hitS q x e <;> simp <;> omega⟩
      simp only [ref17_All_l1_s, hlt, iteE_t, ref17_All_b4, ref17_Hit_eq hF hR hi, bndE_s, ref17_All_b5, succI (show x < 9223372036854775807 by omega)]
      rw [chkF (by simp; omega) (by decide)]
      cases hitS q x e <;> simp [outH, iteE, bndE])
    (fun w _ => by rw [List.length_range]; simp only [ref17_All_l1_s, ltI, iteE_f]) [] (by simp)
  rw [h, bndE_s, filterMap_push]
  simp
def underS (a b : List TSlot) : Bool := a.all fun s => decide (getS b s.var = (s.value, true))
theorem ref05_Under_eq (a b : List TSlot) (ha : a.length ≤ 9223372036854775807) (hb : b.length ≤ 9223372036854775807) : ref05_Under a b = some (underS a b) := by
  unfold ref05_Under ref05_Under_l1
  rw [loop_all0 a (fun s => decide (getS b s.var = (s.value, true))) (.inl ()) (.inr ())
    (fun i x hx => by
      simp only [ref05_Under_l1_s, ltD hx, iteE_t, idxE_n hx, succW hx ha, ref05_Get_eq b _ hb, bndE_s, TValue.eqb_dec]
      obtain ⟨y, o⟩ := getS b x.var
      cases o
      · simp [iteE]
      · by_cases h : y = x.value <;> simp [iteE, h])
    (by simp only [ref05_Under_l1_s, ltI, iteE_f]), bndE_s]
  unfold underS
  cases a.all _ <;> rfl
theorem ref17_Under_eq {l : List THit} {b : List TSlot} (hl : l.length ≤ 1000) (hs : ∀ h ∈ l, h.bind.length ≤ 9223372036854775807) (hb : b.length ≤ 9223372036854775807) : ref17_Under l b = some (l.filter fun h => underS h.bind b) := by
  unfold ref17_Under ref17_Under_l1
  rw [loop_fold l (fun w x => if (underS x.bind b) = true then w ++ [x] else w) (fun w => w) (fun i w => w.length ≤ i)
    (fun i x w hx hI => by
      have := getLt hx
      refine ⟨?_, ?_⟩
      rotate_left
      · split
        · simpa using hI
        · omega
      simp only [ref17_Under_l1_s, ltD hx, iteE_t, ref17_Under_b4, idxE_n hx, ref05_Under_eq _ _ (hs x (List.mem_of_getElem? hx)) hb, bndE_s, ref17_Under_b5, succW hx (show l.length ≤ 9223372036854775807 by omega)]
      rw [chkF (by simp; omega) (by decide)]
      cases underS x.bind b <;> simp [iteE, bndE])
    (fun w _ => by simp only [ref17_Under_l1_s, ltI, iteE_f]) [] (by simp), foldl_filter, bndE_s]
  simp
def BR (b : List TSlot) : Prop := b.Pairwise (fun x y => x.var < y.var) ∧ ∀ s ∈ b, 0 ≤ s.var ∧ s.var ≤ 7 ∧ vR s.value = true
theorem sorted_len : ∀ (b : List TSlot) (lo : Int), b.Pairwise (fun x y => x.var < y.var) → (∀ s ∈ b, lo ≤ s.var ∧ s.var ≤ 7) → b.length ≤ (8 - lo).toNat
  | [], _, _, _ => by simp
  | x :: b, lo, hp, h => by
    rw [List.pairwise_cons] at hp
    have h1 := sorted_len b (x.var + 1) hp.2 fun s hs => ⟨by have := hp.1 s hs; omega, (h s (List.mem_cons_of_mem _ hs)).2⟩
    have h2 := h x (by simp)
    rw [List.length_cons]; omega
theorem BR_len {b : List TSlot} (h : BR b) : b.length ≤ 8 := by
  have := sorted_len b 0 h.1 fun s hs => ⟨(h.2 s hs).1, (h.2 s hs).2.1⟩
  omega
def okB (l : List TSlot) (i : Nat) : Prop := ∀ j, j < i → ∃ x, l[j]? = some x ∧ 0 ≤ x.var ∧ x.var ≤ 7 ∧ vR x.value = true ∧ ∀ y, 0 < j → l[j - 1]? = some y → y.var < x.var
theorem okB_right {l : List TSlot} (h : okB l l.length) : BR l := by
  have get : ∀ j (hj : j < l.length), 0 ≤ l[j].var ∧ l[j].var ≤ 7 ∧ vR l[j].value = true ∧ ∀ (_ : 0 < j) (h2 : j - 1 < l.length), l[j - 1].var < l[j].var := by
    intro j hj
    obtain ⟨x, hx, h1, h2, h5, h3⟩ := h j hj
    obtain ⟨_, rfl⟩ := List.getElem?_eq_some_iff.1 hx
    exact ⟨h1, h2, h5, fun h0 h4 => h3 _ h0 (List.getElem?_eq_getElem h4)⟩
  refine ⟨List.pairwise_iff_getElem.2 ?_, fun s hs => ?_⟩
  · intro i j hi hj hij
    induction j with
    | zero => omega
    | succ j ih =>
      have h1 := (get (j + 1) hj).2.2.2 (by omega) (by simp; omega)
      simp only [Nat.add_sub_cancel] at h1
      rcases Nat.lt_or_ge i j with h2 | h2
      · have := ih (by omega) h2; omega
      · have : i = j := by omega
        subst this; exact h1
  · obtain ⟨j, hj, rfl⟩ := List.mem_iff_getElem.1 hs
    exact ⟨(get j hj).1, (get j hj).2.1, (get j hj).2.2.1⟩
theorem ref05_RightB (l : List TSlot) (hl : l.length ≤ 9223372036854775807) : ∃ b, ref05_Right l = some b ∧ (b = true → BR l) := by
  unfold ref05_Right ref05_Right_l1
  obtain ⟨t, ht, hQ⟩ := loopE_ex (step := fun s => ref05_Right_l1_s l s) (fun s => ∃ i : Nat, s = (i : Int) ∧ i ≤ l.length ∧ okB l i) (fun s => (l.length - s).toNat) (fun t => t = .inl () → okB l l.length)
    (by
      rintro s ⟨i, rfl, hi, hok⟩
      by_cases he : i = l.length
      · subst he
        exact .inl ⟨.inl (), by simp only [ref05_Right_l1_s, ltI, iteE_f], fun _ => hok⟩
      · obtain ⟨x, hx, _⟩ := get_lt (l := l) (i := i) (by omega)
        simp only [ref05_Right_l1_s, ltD hx, iteE_t, idxE_n hx, ref03_Right_eq, bndE_s, succW hx hl, iteP]
        have hgo : (∀ y, 0 < i → l[i - 1]? = some y → y.var < x.var) → ¬ x.var < 0 → ¬ 7 < x.var → vR x.value = true → okB l (i + 1) := by
          intro h1 h2 h3 h5 j hj
          rcases Nat.lt_or_ge j i with h4 | h4
          · exact hok j h4
          · have : j = i := by omega
            subst this
            exact ⟨x, hx, by omega, by omega, h5, h1⟩
        by_cases h1 : x.var < 0
        · exact .inl ⟨.inr (), by simp [h1], by simp⟩
        by_cases h2 : 7 < x.var
        · exact .inl ⟨.inr (), by simp [h1, h2], by simp⟩
        cases hb : vR x.value with
        | false => exact .inl ⟨.inr (), by simp [h1, h2, iteE], by simp⟩
        | true =>
          by_cases h3 : 0 < i
          · obtain ⟨y, hy, _⟩ := get_lt (l := l) (i := i - 1) (by omega)
            have e : intVal .sub .i64 (i : Int) 1 = ((i - 1 : Nat) : Int) := by rw [subI (by omega) (by omega)]; omega
            rw [e, idxE_n hy]
            by_cases h4 : x.var ≤ y.var
            · exact .inl ⟨.inr (), by simp [h1, h2, h3, h4, iteE], by simp⟩
            · refine .inr ⟨((i + 1 : Nat) : Int), by simp [h1, h2, h3, h4, iteE], ⟨i + 1, rfl, by omega, hgo (fun z _ hz => ?_) h1 h2 hb⟩, by omega⟩
              rw [hy] at hz; cases hz; omega
          · refine .inr ⟨((i + 1 : Nat) : Int), by simp [h1, h2, h3, iteE], ⟨i + 1, rfl, by omega, hgo (fun z h0 => absurd h0 h3) h1 h2 hb⟩, by omega⟩)
    (0 : Int) ⟨0, rfl, by omega, fun j hj => by omega⟩
  rw [ht, bndE_s]
  rcases t with _ | _
  · exact ⟨true, rfl, fun _ => okB_right (hQ rfl)⟩
  · exact ⟨false, rfl, by simp⟩
theorem bv32_nat (n : Nat) (h : n < 4294967296) : (BitVec.ofInt 32 (n : Int)).toNat = n := by
  simp [BitVec.toNat_ofInt]; omega
theorem wrap32_nat {n : Nat} (h : n < 4294967296) : IntKind.wrap .u32 (n : Int) = n := by
  simp [IntKind.wrap, IntKind.signed, IntKind.bits]; omega
theorem orU32 {n m : Nat} (hn : n < 4294967296) (hm : m < 4294967296) : intVal .or .u32 (n : Int) (m : Int) = ((n ||| m : Nat) : Int) := by
  have h : n ||| m < 2 ^ 32 := Nat.or_lt_two_pow (by simpa using hn) (by simpa using hm)
  show IntKind.wrap .u32 (((BitVec.ofInt 32 (n : Int)) ||| (BitVec.ofInt 32 (m : Int))).toNat : Int) = _
  rw [BitVec.toNat_or, bv32_nat n hn, bv32_nat m hm]
  exact wrap32_nat (by simpa using h)
theorem andU32 {n m : Nat} (hn : n < 4294967296) (hm : m < 4294967296) : intVal .and .u32 (n : Int) (m : Int) = ((n &&& m : Nat) : Int) := by
  have h : n &&& m < 2 ^ 32 := Nat.and_lt_two_pow _ (by simpa using hm)
  show IntKind.wrap .u32 (((BitVec.ofInt 32 (n : Int)) &&& (BitVec.ofInt 32 (m : Int))).toNat : Int) = _
  rw [BitVec.toNat_and, bv32_nat n hn, bv32_nat m hm]
  exact wrap32_nat (by simpa using h)
theorem shl32 {s : Nat} (h : s < 32) : intVal .shl .u32 1 (s : Int) = ((2 ^ s : Nat) : Int) := by
  have e : (1 : Int) * 2 ^ (min (Int.toNat (s : Int)) (IntKind.bits .u32)) = ((2 ^ s : Nat) : Int) := by
    rw [Int.toNat_natCast, show min s (IntKind.bits .u32) = s from Nat.min_eq_left (Nat.le_of_lt h)]
    simp
  show IntKind.wrap .u32 (1 * 2 ^ (min (Int.toNat (s : Int)) (IntKind.bits .u32))) = _
  rw [e]
  exact wrap32_nat (Nat.lt_of_lt_of_le (Nat.pow_lt_pow_right (by decide) h) (by decide))
theorem shl64 {s : Nat} (h : s < 64) : intVal .shl .u64 1 (s : Int) = ((2 ^ s : Nat) : Int) := by
  have e : (1 : Int) * 2 ^ (min (Int.toNat (s : Int)) (IntKind.bits .u64)) = ((2 ^ s : Nat) : Int) := by
    rw [Int.toNat_natCast, show min s (IntKind.bits .u64) = s from Nat.min_eq_left (Nat.le_of_lt h)]
    simp
  show IntKind.wrap .u64 (1 * 2 ^ (min (Int.toNat (s : Int)) (IntKind.bits .u64))) = _
  rw [e]
  exact wrapU_nat (Nat.lt_of_lt_of_le (Nat.pow_lt_pow_right (by decide) h) (by decide))
theorem shr_nat {k : IntKind} {n s : Nat} (h : s < k.bits) : intVal .shr k (n : Int) (s : Int) = ((n / 2 ^ s : Nat) : Int) := by
  show (n : Int).fdiv (2 ^ (min (Int.toNat (s : Int)) k.bits)) = _
  rw [Int.toNat_natCast, Nat.min_eq_left (Nat.le_of_lt h), Int.fdiv_eq_ediv_of_nonneg _ (Int.le_of_lt (Int.pow_pos (by decide)))]
  simp
theorem rem2 {k : IntKind} (n : Nat) : intVal .rem k (n : Int) 2 = ((n % 2 : Nat) : Int) := by
  show (n : Int).tmod 2 = _
  rw [Int.tmod_eq_emod_of_nonneg (by omega)]; omega
theorem bit_div (n s : Nat) : n / 2 ^ s % 2 = if n.testBit s = true then 1 else 0 := by
  have := Nat.testBit_eq_decide_div_mod_eq (x := n) (i := s)
  rw [this]
  by_cases h : n / 2 ^ s % 2 = 1
  · simp [h]
  · simp only [h, decide_false, Bool.false_eq_true, if_false]
    have := Nat.mod_two_eq_zero_or_one (n / 2 ^ s)
    omega
theorem bit_and (n s : Nat) : (n &&& 2 ^ s = 0) ↔ n.testBit s = false := by
  constructor
  · intro h
    have h2 := congrArg (fun x => x.testBit s) h
    simp only [Nat.testBit_and, Nat.testBit_two_pow_self, Bool.and_true, Nat.zero_testBit] at h2
    exact h2
  · intro h
    apply Nat.eq_of_testBit_eq
    intro i
    rw [Nat.testBit_and, Nat.testBit_two_pow, Nat.zero_testBit]
    by_cases hi : s = i
    · subst hi; simp [h]
    · simp [hi]
theorem loop_foldE {α β γ τ : Type} {step : γ × Int → Option (γ × Int ⊕ τ)} (enc : β → γ) (l : List α) (f : β → α → β) (fin : β → τ) (I : Nat → β → Prop)
    (h1 : ∀ (i : Nat) x w, l[i]? = some x → I i w → step (enc w, (i : Int)) = some (.inl (enc (f w x), ((i + 1 : Nat) : Int))) ∧ I (i + 1) (f w x))
    (h2 : ∀ w, I l.length w → step (enc w, (l.length : Int)) = some (.inr (fin w))) (w : β) (h0 : I 0 w) : loopE step (enc w, 0) = some (fin (l.foldl f w)) := by
  have h := loop_list (step := step) l (fun i w => (enc w, (i : Int))) (fun _ w x => (.inl (f w x) : β ⊕ τ)) fin I (fun i x w hx hI => ⟨(h1 i x w hx hI).1, fun w' hw => by cases hw; exact (h1 i x w hx hI).2⟩) h2 (l.length + 1) 0 w (by omega) (by omega) h0
  rw [show (enc w, (0 : Int)) = (enc w, ((0 : Nat) : Int)) from rfl, h, List.drop_zero]
  congr 1
  clear h h1 h2 h0
  generalize 0 = i
  revert i w
  induction l with
  | nil => intro w i; rfl
  | cons x xs ih => intro w i; rw [runL]; exact ih _ _
def toF (M s : Nat) (w : Nat) (t : TTrans) : Nat := if t.from_ = (s : Int) ∧ M.testBit t.symbol.toNat = true then w ||| 2 ^ t.to.toNat else w
def toN (q : TQea) (M s : Nat) : Nat := q.trans.foldl (toF M s) 0
def finN (q : TQea) (M s : Nat) : Nat := if toN q M s = 0 ∧ (q.states[s]?.map (·.next)) = some false then 2 ^ s else toN q M s
def nextF (q : TQea) (S M : Nat) (w : Nat) (s : Nat) : Nat := if S.testBit s = true then w ||| finN q M s else w
def nextN (q : TQea) (S M : Nat) : Nat := (List.range q.states.length).foldl (nextF q S M) 0
theorem or_lt {a b : Nat} (h1 : a < 4294967296) (h2 : b < 4294967296) : a ||| b < 4294967296 := by
  have := Nat.or_lt_two_pow (n := 32) (x := a) (y := b) (by simpa using h1) (by simpa using h2)
  simpa using this
theorem pow_lt {s : Nat} (h : s < 32) : 2 ^ s < 4294967296 := Nat.lt_of_lt_of_le (Nat.pow_lt_pow_right (by decide) h) (by decide)
theorem toF_lt {q : TQea} (h8 : q.states.length ≤ 12) (hR : RightQ q) {M s w : Nat} {t : TTrans} (ht : t ∈ q.trans) (hw : w < 4294967296) : toF M s w t < 4294967296 := by
  unfold toF
  split
  · have := (hR.ends t ht).2.2
    exact or_lt hw (pow_lt (by omega))
  · exact hw
theorem toN_lt {q : TQea} (h8 : q.states.length ≤ 12) (hR : RightQ q) (M s : Nat) : toN q M s < 4294967296 := by
  unfold toN
  suffices ∀ (l : List TTrans) (w : Nat), (∀ t ∈ l, t ∈ q.trans) → w < 4294967296 → l.foldl (toF M s) w < 4294967296 from this _ _ (fun _ h => h) (by decide)
  intro l
  induction l with
  | nil => intro w _ h; exact h
  | cons t l ih => intro w hl hw; exact ih _ (fun t h => hl t (List.mem_cons_of_mem _ h)) (toF_lt h8 hR (hl t (by simp)) hw)
theorem finN_lt {q : TQea} (h8 : q.states.length ≤ 12) (hR : RightQ q) (M : Nat) {s : Nat} (hs : s < q.states.length) : finN q M s < 4294967296 := by
  unfold finN
  split
  · exact pow_lt (by omega)
  · exact toN_lt h8 hR M s
theorem nextF_lt {q : TQea} (h8 : q.states.length ≤ 12) (hR : RightQ q) (S M : Nat) {w s : Nat} (hs : s < q.states.length) (hw : w < 4294967296) : nextF q S M w s < 4294967296 := by
  unfold nextF
  split
  · exact or_lt hw (finN_lt h8 hR M hs)
  · exact hw
theorem range_at {n i x : Nat} (h : (List.range n)[i]? = some x) : x = i ∧ i < n := by
  have h1 : i < n := by simpa using (List.getElem?_eq_some_iff.1 h).1
  rw [List.getElem?_range h1, Option.some.injEq] at h
  exact ⟨h.symm, h1⟩
theorem joint_l3_eq {q : TQea} (hF : FewP q) (hR : RightQ q) (S M : Nat) (hM : M < 18446744073709551616) (s7 : Int) (s : Nat) (s14 : List TState) (s15 : Int) (x : TState) :
    joint_Next_l3 (S : Int) (M : Int) s7 (s : Int) s14 s15 (s : Int) q.trans (q.trans.length : Int) q x 0 0 = some ((toN q M s : Nat) : Int) := by
  have h8 := hF.states
  have ht12 := hF.trans
  have hsy := hF.symbols
  unfold joint_Next_l3
  have := loop_foldE (step := fun z : Int × Int => joint_Next_l3_s (S : Int) (M : Int) s7 (s : Int) s14 s15 (s : Int) q.trans (q.trans.length : Int) q x z.1 z.2) (fun w : Nat => (w : Int)) q.trans (toF M s) (fun w => (w : Int)) (fun _ w => w < 4294967296)
    (fun i t w hx hw => by
      have hm := List.mem_of_getElem? hx
      have he := hR.ends t hm
      refine ⟨?_, toF_lt h8 hR hm hw⟩
      obtain ⟨y, hy⟩ : ∃ y : Nat, t.symbol = (y : Int) := ⟨t.symbol.toNat, by omega⟩
      obtain ⟨z, hz⟩ : ∃ z : Nat, t.to = (z : Int) := ⟨t.to.toNat, by omega⟩
      have hy12 : y < 12 := by omega
      have hz12 : z < 12 := by omega
      have hwy : IntKind.wrap .u64 (y : Int) = (y : Int) := wrapU_nat (by omega)
      have hwz : IntKind.wrap .u64 (z : Int) = (z : Int) := wrapU_nat (by omega)
      simp only [joint_Next_l3_s, ltD hx, iteE_t, joint_Next_b4, idxE_n hx, succW hx (show q.trans.length ≤ 9223372036854775807 by omega), joint_Next_b5, hy, hz, hwy, hwz, toF, Int.toNat_natCast]
      rw [shl64 (by omega), andU hM (Nat.lt_of_lt_of_le (Nat.pow_lt_pow_right (by decide) (show y < 64 by omega)) (by decide)), shl32 (by omega), orU32 hw (pow_lt (by omega))]
      have hb : decide (((M &&& 2 ^ y : Nat) : Int) = 0) = !M.testBit y := by
        have := bit_and M y
        cases hb : M.testBit y with
        | false => have h0 := this.2 hb; rw [h0]; rfl
        | true =>
          have h0 : ¬ M &&& 2 ^ y = 0 := fun h => by have := this.1 h; rw [hb] at this; cases this
          simp; omega
      rw [hb]
      by_cases hf : t.from_ = (s : Int)
      · rw [iteP, if_pos hf, chkE_p (by omega)]
        cases hb2 : M.testBit y with
        | true => simp only [Bool.not_true, Bool.not_false, iteE_t, chkE_p (show (0 : Int) ≤ (z : Int) by omega), bndE_s, hf, true_and, if_true]
        | false => simp only [Bool.not_false, Bool.not_true, iteE_f, bndE_s, hf, true_and, Bool.false_eq_true, if_false]
      · rw [iteP, if_neg hf]
        simp only [iteE_f, bndE_s, hf, false_and, if_false])
    (fun w _ => by simp only [joint_Next_l3_s, ltI, iteE_f]) 0 (by decide)
  exact this
theorem joint_Next_eq {q : TQea} (hF : FewP q) (hR : RightQ q) {S M : Nat} (hS : S < 4294967296) (hM : M < 18446744073709551616) : joint_Next q (S : Int) (M : Int) = some ((nextN q S M : Nat) : Int) := by
  have h8 := hF.states
  have hl : (List.range q.states.length).length = q.states.length := List.length_range
  have key := loop_foldE (step := fun z : Int × Int => joint_Next_l1_s (S : Int) (M : Int) q.states (q.states.length : Int) q z.1 z.2) (fun w : Nat => (w : Int)) (List.range q.states.length) (nextF q S M) (fun w => (w : Int)) (fun _ w => w < 4294967296)
    (fun i s w hx hw => by
      obtain ⟨rfl, hs⟩ := range_at hx
      refine ⟨?_, nextF_lt h8 hR S M hs hw⟩
      obtain ⟨x, hxs, _⟩ := get_lt hs
      have hws : IntKind.wrap .u64 (s : Int) = (s : Int) := wrapU_nat (by omega)
      simp only [joint_Next_l1_s, ltD hxs, iteE_t, joint_Next_b2, idxE_n hxs, hws, succW hxs (show q.states.length ≤ 9223372036854775807 by omega), chkE_p (show (0 : Int) ≤ (s : Int) by omega)]
      rw [shl32 (by omega), andU32 hS (pow_lt (by omega)), joint_l3_eq hF hR S M hM]
      have hb : decide (((S &&& 2 ^ s : Nat) : Int) = 0) = !S.testBit s := by
        have := bit_and S s
        cases hb : S.testBit s with
        | false => have h0 := this.2 hb; rw [h0]; rfl
        | true =>
          have h0 : ¬ S &&& 2 ^ s = 0 := fun h => by have := this.1 h; rw [hb] at this; cases this
          simp; omega
      rw [hb]
      unfold nextF finN
      rw [hxs]
      cases hb2 : S.testBit s with
      | false => simp only [Bool.not_false, iteE_t, bndE_s, Bool.false_eq_true, if_false]
      | true =>
        have hto := toN_lt h8 hR M s
        simp only [Bool.not_true, iteE_f, bndE_s, if_true, Option.map_some, Option.some.injEq]
        by_cases h0 : toN q M s = 0
        · rw [h0]
          cases hn : x.next with
          | false =>
            simp only [Int.ofNat_zero, Int.natCast_zero, decide_true, iteE_t, joint_Next_b6, Bool.not_false, hws, chkE_p (show (0 : Int) ≤ (s : Int) by omega), bndE_s, and_self, if_true]
            rw [shl32 (by omega), orU32 hw (pow_lt (by omega))]
          | true =>
            simp only [Int.natCast_zero, decide_true, iteE_t, joint_Next_b6, Bool.not_true, iteE_f, bndE_s, Bool.true_eq_false, and_false, if_false]
            rw [show (0 : Int) = ((0 : Nat) : Int) from rfl, orU32 hw (by decide)]
        · have hd : decide (((toN q M s : Nat) : Int) = 0) = false := by simp; omega
          simp only [hd, iteE_f, joint_Next_b6, bndE_s, h0, false_and, if_false]
          rw [orU32 hw hto])
    (fun w _ => by rw [hl]; simp only [joint_Next_l1_s, ltI, iteE_f]) 0 (by decide)
  unfold joint_Next joint_Next_l1
  have key' : loopE (fun z : Int × Int => joint_Next_l1_s (S : Int) (M : Int) q.states (q.states.length : Int) q z.1 z.2) (0, 0) = some ((nextN q S M : Nat) : Int) := key
  rw [key', bndE_s]
theorem ref22_l3_eq {q : TQea} (hF : FewP q) (hR : RightQ q) (S M : Nat) (hM : M < 18446744073709551616) (s7 : Int) (s : Nat) :
    ref22_Next_l3 (S : Int) (M : Int) s7 (s : Int) q 0 0 = some ((toN q M s : Nat) : Int) := by
  have h8 := hF.states
  have ht12 := hF.trans
  have hsy := hF.symbols
  unfold ref22_Next_l3
  have := loop_foldE (step := fun z : Int × Int => ref22_Next_l3_s (S : Int) (M : Int) s7 (s : Int) q z.1 z.2) (fun w : Nat => (w : Int)) q.trans (toF M s) (fun w => (w : Int)) (fun _ w => w < 4294967296)
    (fun i t w hx hw => by
      have hm := List.mem_of_getElem? hx
      have he := hR.ends t hm
      refine ⟨?_, toF_lt h8 hR hm hw⟩
      obtain ⟨y, hy⟩ : ∃ y : Nat, t.symbol = (y : Int) := ⟨t.symbol.toNat, by omega⟩
      obtain ⟨z, hz⟩ : ∃ z : Nat, t.to = (z : Int) := ⟨t.to.toNat, by omega⟩
      have hy12 : y < 12 := by omega
      have hz12 : z < 12 := by omega
      have hwy : IntKind.wrap .u64 (y : Int) = (y : Int) := wrapU_nat (by omega)
      have hwz : IntKind.wrap .u64 (z : Int) = (z : Int) := wrapU_nat (by omega)
      simp only [ref22_Next_l3_s, ltD hx, iteE_t, ref22_Next_b4, idxE_n hx, succW hx (show q.trans.length ≤ 9223372036854775807 by omega), ref22_Next_b5, hy, hz, hwy, hwz, toF, Int.toNat_natCast]
      rw [shr_nat (k := .u64) (s := y) (show y < 64 by omega), rem2, bit_div, shl32 (by omega), orU32 hw (pow_lt (by omega))]
      by_cases hf : t.from_ = (s : Int)
      · rw [iteP, if_pos hf, chkE_p (by omega)]
        cases hb2 : M.testBit y with
        | true => simp only [if_true, Int.natCast_one, decide_true, iteE_t, chkE_p (show (0 : Int) ≤ (z : Int) by omega), bndE_s, hf, true_and]
        | false => simp only [Bool.false_eq_true, if_false, Int.natCast_zero, show decide ((0 : Int) = 1) = false from rfl, iteE_f, bndE_s, and_false]
      · rw [iteP, if_neg hf]
        simp only [iteE_f, bndE_s, hf, false_and, if_false])
    (fun w _ => by simp only [ref22_Next_l3_s, ltI, iteE_f]) 0 (by decide)
  exact this
theorem ref22_Next_eq {q : TQea} (hF : FewP q) (hR : RightQ q) {S M : Nat} (hS : S < 4294967296) (hM : M < 18446744073709551616) : ref22_Next q (S : Int) (M : Int) = some ((nextN q S M : Nat) : Int) := by
  have h8 := hF.states
  have hl : (List.range q.states.length).length = q.states.length := List.length_range
  have key := loop_foldE (step := fun z : Int × Int => ref22_Next_l1_s (S : Int) (M : Int) q z.1 z.2) (fun w : Nat => (w : Int)) (List.range q.states.length) (nextF q S M) (fun w => (w : Int)) (fun _ w => w < 4294967296)
    (fun i s w hx hw => by
      obtain ⟨rfl, hs⟩ := range_at hx
      refine ⟨?_, nextF_lt h8 hR S M hs hw⟩
      obtain ⟨x, hxs, _⟩ := get_lt hs
      have hws : IntKind.wrap .u64 (s : Int) = (s : Int) := wrapU_nat (by omega)
      simp only [ref22_Next_l1_s, ltD hxs, iteE_t, ref22_Next_b2, idxE_n hxs, hws, succW hxs (show q.states.length ≤ 9223372036854775807 by omega), chkE_p (show (0 : Int) ≤ (s : Int) by omega)]
      rw [shr_nat (k := .u32) (s := s) (show s < 32 by omega), rem2, bit_div, ref22_l3_eq hF hR S M hM]
      unfold nextF finN
      rw [hxs]
      cases hb2 : S.testBit s with
      | false => simp only [Bool.false_eq_true, if_false, Int.natCast_zero, decide_true, iteE_t, bndE_s]
      | true =>
        have hto := toN_lt h8 hR M s
        simp only [if_true, Int.natCast_one, show decide ((1 : Int) = 0) = false from rfl, iteE_f, bndE_s, Option.map_some, Option.some.injEq]
        by_cases h0 : toN q M s = 0
        · rw [h0]
          cases hn : x.next with
          | false =>
            simp only [Int.natCast_zero, decide_true, iteE_t, ref22_Next_b6, Bool.not_false, hws, chkE_p (show (0 : Int) ≤ (s : Int) by omega), bndE_s, and_self, if_true]
            rw [shl32 (by omega), orU32 hw (pow_lt (by omega))]
          | true =>
            simp only [Int.natCast_zero, decide_true, iteE_t, ref22_Next_b6, Bool.not_true, iteE_f, bndE_s, Bool.true_eq_false, and_false, if_false]
            rw [show (0 : Int) = ((0 : Nat) : Int) from rfl, orU32 hw (by decide)]
        · have hd : decide (((toN q M s : Nat) : Int) = 0) = false := by simp; omega
          simp only [hd, iteE_f, ref22_Next_b6, bndE_s, h0, false_and, if_false]
          rw [orU32 hw hto])
    (fun w _ => by rw [hl]; simp only [ref22_Next_l1_s, ltI, iteE_f]) 0 (by decide)
  unfold ref22_Next ref22_Next_l1
  have key' : loopE (fun z : Int × Int => ref22_Next_l1_s (S : Int) (M : Int) q z.1 z.2) (0, 0) = some ((nextN q S M : Nat) : Int) := key
  rw [key', bndE_s]
structure SmallP (q : TQea) : Prop where
  frees : q.frees = []
  quants : q.quants.length ≤ 1
  states : q.states.length ≤ 8
  symbols : q.symbols.length ≤ 8
  guards : ∀ t ∈ q.trans, t.guard = -1
theorem ref22_Small_ex {q : TQea} (hF : FewP q) : ∃ r, ref22_Small q = some r ∧ (r = true → SmallP q) := by
  have ht := hF.trans
  obtain ⟨o, ho, hQ⟩ := loop_scan0 (step := fun s => ref22_Small_l1_s q s) q.trans.length (fun i => ∀ t, q.trans[i]? = some t → t.guard = -1) (fun o => o = Sum.inl () → ∀ t ∈ q.trans, t.guard = -1)
    (fun i hi => by
      obtain ⟨x, hx, _⟩ := get_lt hi
      simp only [ref22_Small_l1_s, ltD hx, iteE_t, idxE_n hx, succW hx (show q.trans.length ≤ 9223372036854775807 by omega)]
      by_cases h : x.guard = -1
      · exact .inl ⟨by rw [decide_eq_true h]; rfl, fun t h2 => by rw [hx, Option.some.injEq] at h2; exact h2 ▸ h⟩
      · exact .inr ⟨.inr (), by rw [decide_eq_false h]; rfl, fun h => by cases h⟩)
    (fun hall => ⟨.inl (), by simp only [ref22_Small_l1_s, ltI, iteE_f], fun _ => all_get hall⟩)
  have ho' : ref22_Small_l1 q 0 = some o := ho
  unfold ref22_Small
  refine ex_if (fun _ => ⟨_, rfl, by simp⟩) (fun h1 => ?_)
  refine ex_if (fun _ => ⟨_, rfl, by simp⟩) (fun h2 => ?_)
  refine ex_if (fun _ => ⟨_, rfl, by simp⟩) (fun h3 => ?_)
  refine ex_if (fun _ => ⟨_, rfl, by simp⟩) (fun h4 => ?_)
  refine ex_bnd ho' ?_
  rcases o with ⟨⟩ | ⟨⟩
  · rw [sumE_l]
    exact ⟨_, rfl, fun _ => ⟨List.eq_nil_of_length_eq_zero (by omega), by omega, by omega, by omega, hQ rfl⟩⟩
  · rw [sumE_r]
    exact ⟨_, rfl, by simp⟩
theorem ref22_Fits_ex (q : TQea) (b : List TSlot) (hb : b.length ≤ 9223372036854775807) : ∃ r, ref22_Fits q b = some r ∧ (r = true → BR b) := by
  unfold ref22_Fits
  refine ex_if (fun h => ⟨_, rfl, fun _ => ?_⟩) (fun _ => ?_)
  · have : b = [] := List.eq_nil_of_length_eq_zero (by omega)
    subst this; exact ⟨List.Pairwise.nil, by simp⟩
  refine ex_if (fun h1 => ?_) (fun _ => ⟨_, rfl, by simp⟩)
  refine ex_if (fun h2 => ?_) (fun _ => ⟨_, rfl, by simp⟩)
  obtain ⟨x, hx, _⟩ := get_lt (l := b) (i := 0) (by omega)
  obtain ⟨y, hy, _⟩ := get_lt (l := q.quants) (i := 0) (by omega)
  rw [show (0 : Int) = ((0 : Nat) : Int) from rfl, idxE_n hx]
  refine ex_if (fun h3 => ?_) (fun _ => ⟨_, rfl, by simp⟩)
  rw [idxE_n hx, idxE_n hy]
  refine ex_if (fun h4 => ?_) (fun _ => ⟨_, rfl, by simp⟩)
  obtain ⟨r, hr, hR⟩ := ref05_RightB b hb
  exact ex_bnd hr ⟨_, rfl, hR⟩
theorem law22_small_ex (q : TQea) (b : List TSlot) (hW : ∀ t ∈ q.trans, TransW t) (hb : b.length ≤ 9223372036854775807) : ∃ r, law22_small q b = some r ∧ (r = true → FewP q ∧ RightQ q ∧ SmallP q ∧ b.length = q.quants.length ∧ BR b ∧ ∀ d ∈ q.decls, d.types.length ≤ 3) := by
  obtain ⟨n, hn, hF⟩ := ref13_Few_ex q
  unfold law22_small
  refine ex_bnd hn ?_
  refine ex_if (fun _ => ⟨_, rfl, by simp⟩) (fun h0 => ?_)
  have hF := hF h0
  obtain ⟨r, hr, hR⟩ := ref13_Right_ex q hF hW
  refine ex_bnd hr ?_
  refine ex_ifnb (fun _ => ⟨_, rfl, by simp⟩) (fun h1 => ?_)
  have hR := hR h1
  obtain ⟨r3, hr3, hS⟩ := ref22_Small_ex hF
  refine ex_bnd hr3 ?_
  refine ex_ifnb (fun _ => ⟨_, rfl, by simp⟩) (fun h2 => ?_)
  obtain ⟨r4, hr4, hB⟩ := ref22_Fits_ex q b hb
  refine ex_bnd hr4 ?_
  refine ex_ifnb (fun _ => ⟨_, rfl, by simp⟩) (fun h3 => ?_)
  refine ex_ifn (fun _ => ⟨_, rfl, by simp⟩) (fun h4 => ?_)
  have hd := hF.decls
  obtain ⟨o, ho, hQ⟩ := loop_scan0 (step := fun s => law22_small_l1_s b q s) q.decls.length (fun i => ∀ d, q.decls[i]? = some d → d.types.length ≤ 3) (fun o => o = Sum.inl () → ∀ d ∈ q.decls, d.types.length ≤ 3)
    (fun i hi => by
      obtain ⟨x, hx, _⟩ := get_lt hi
      simp only [law22_small_l1_s, ltD hx, iteE_t, idxE_n hx, succW hx (show q.decls.length ≤ 9223372036854775807 by omega)]
      by_cases h : (3 : Int) < (x.types.length : Int)
      · exact .inr ⟨.inr (), by rw [decide_eq_true h]; rfl, fun h => by cases h⟩
      · exact .inl ⟨by rw [decide_eq_false h]; rfl, fun t h2 => by rw [hx, Option.some.injEq] at h2; subst h2; omega⟩)
    (fun hall => ⟨.inl (), by simp only [law22_small_l1_s, ltI, iteE_f], fun _ => all_get hall⟩)
  have ho' : law22_small_l1 b q 0 = some o := ho
  refine ex_bnd ho' ?_
  have hall : ∀ {r : Bool}, o = Sum.inl () → (r = true → FewP q ∧ RightQ q ∧ SmallP q ∧ b.length = q.quants.length ∧ BR b ∧ ∀ d ∈ q.decls, d.types.length ≤ 3) := fun e _ => ⟨hF, hR, hS h2, by omega, hB h3, hQ e⟩
  rcases o with ⟨⟩ | ⟨⟩
  · rw [sumE_l]
    refine ex_if (fun _ => ⟨_, rfl, hall rfl⟩) (fun h => ?_)
    obtain ⟨x, hx, _⟩ := get_lt (l := b) (i := 0) (by omega)
    rw [show (0 : Int) = ((0 : Nat) : Int) from rfl, idxE_n hx]
    exact ⟨_, rfl, hall rfl⟩
  · rw [sumE_r]
    exact ⟨_, rfl, by simp⟩
def CV (n : Nat) (c : TConfig) : Prop := c.vals = [] ∧ 0 ≤ c.state ∧ c.state < n
theorem CV.ext {n : Nat} {a b : TConfig} (ha : CV n a) (hb : CV n b) (h : a.state = b.state) : a = b := by
  cases a; cases b
  have h1 := ha.1; have h2 := hb.1
  simp only at h h1 h2
  subst h; subst h1; subst h2; rfl
theorem ref18_Less_eq {n : Nat} {a b : TConfig} (ha : CV n a) (hb : CV n b) : ref18_Less a b = some (decide (a.state < b.state)) := by
  unfold ref18_Less
  by_cases h : a.state = b.state
  · rw [decide_eq_true h]
    simp only [Bool.not_true, iteE_f]
    rw [ref18_Less_l1_eq]
    unfold ref18_Less_l1_s
    rw [ha.1, hb.1]
    simp [iteE, nextE, bndE, sumE, h]
  · rw [decide_eq_false h]; rfl
theorem ref18_One_eq {n : Nat} {a b : TConfig} (ha : CV n a) (hb : CV n b) : ref18_One a b = some (decide (a = b)) := by
  unfold ref18_One
  rw [ref18_Less_eq ha hb, bndE_s, ref18_Less_eq hb ha, bndE_s]
  by_cases h : a = b
  · subst h; simp [iteE]
  · have hne : a.state ≠ b.state := fun e => h (ha.ext hb e)
    by_cases h1 : a.state < b.state
    · simp [h1, iteE, h]
    · have h2 : b.state < a.state := by omega
      simp [h1, h2, iteE, h]
theorem subN1 {i : Nat} (h : 0 < i) (hi : i ≤ 1000000) : intVal .sub .i64 (i : Int) 1 = ((i - 1 : Nat) : Int) := by
  have : IntKind.wrap .i64 ((i : Int) - 1) = (i : Int) - 1 := IntWalk.i64_in _ ⟨by omega, by omega⟩
  show IntKind.wrap .i64 ((i : Int) - 1) = _
  rw [this]; omega
theorem put_loop {n : Nat} {w : List TConfig} {c : TConfig} (hw : ∀ x ∈ w, CV n x) (hc : CV n c) (hl : w.length ≤ 1000) : ∃ k : Nat, k ≤ w.length ∧ ref18_Put_l1 w c (w.length : Int) = some (k : Int) ∧ ref18_Put_v2_l1 w c (w.length : Int) = some (k : Int) := by
  suffices ∀ i : Nat, i ≤ w.length → ∃ k : Nat, k ≤ w.length ∧ ref18_Put_l1 w c (i : Int) = some (k : Int) ∧ ref18_Put_v2_l1 w c (i : Int) = some (k : Int) from this _ (Nat.le_refl _)
  intro i
  induction i with
  | zero =>
    intro _
    refine ⟨0, Nat.zero_le _, ?_, ?_⟩
    · rw [ref18_Put_l1_eq]; simp [ref18_Put_l1_s, iteE, nextE]
    · rw [ref18_Put_v2_l1_eq]; simp [ref18_Put_v2_l1_s, iteE, nextE]
  | succ i ih =>
    intro hi
    obtain ⟨x, hx, _⟩ := get_lt (l := w) (i := i) (by omega)
    have hL := ref18_Less_eq hc (hw x (List.mem_of_getElem? hx))
    have hs : intVal .sub .i64 ((i + 1 : Nat) : Int) 1 = (i : Int) := by rw [subN1 (by omega) (by omega)]; simp
    have hpos : decide ((0 : Int) < ((i + 1 : Nat) : Int)) = true := decide_eq_true (by omega)
    by_cases h : c.state < x.state
    · obtain ⟨k, hk, h1, h2⟩ := ih (by omega)
      refine ⟨k, hk, ?_, ?_⟩
      · rw [ref18_Put_l1_eq]
        simp only [ref18_Put_l1_s, hpos, iteE_t, hs, idxE_n hx, hL, bndE_s, h, decide_true, nextE_l]
        exact h1
      · rw [ref18_Put_v2_l1_eq]
        simp only [ref18_Put_v2_l1_s, hpos, iteE_t, hs, chkE_p (show (0 : Int) ≤ (i : Int) ∧ (i : Int) + 1 ≤ (w.length : Int) by omega), idxE_n hx, hL, bndE_s, h, decide_true, nextE_l]
        exact h2
    · refine ⟨i + 1, hi, ?_, ?_⟩
      · rw [ref18_Put_l1_eq]
        simp only [ref18_Put_l1_s, hpos, iteE_t, hs, idxE_n hx, hL, bndE_s, h, decide_false, iteE_f, nextE_r]
      · rw [ref18_Put_v2_l1_eq]
        simp only [ref18_Put_v2_l1_s, hpos, iteE_t, hs, chkE_p (show (0 : Int) ≤ (i : Int) ∧ (i : Int) + 1 ≤ (w.length : Int) by omega), idxE_n hx, hL, bndE_s, h, decide_false, iteE_f, nextE_r]
def PutR (n : Nat) (w : List TConfig) (c : TConfig) (r : List TConfig) : Prop := (∀ x, x ∈ r ↔ x = c ∨ x ∈ w) ∧ r.length ≤ w.length + 1
theorem put_mid {n : Nat} {w : List TConfig} {c : TConfig} (k : Nat) (hk : k ≤ w.length) : PutR n w c (w.take k ++ [c] ++ w.drop k) := by
  constructor
  · intro x
    rw [List.append_assoc, List.mem_append, List.mem_append, List.mem_singleton]
    have h := List.take_append_drop k w
    constructor
    · rintro (h1 | h1 | h1)
      · exact .inr (List.mem_of_mem_take h1)
      · exact .inl h1
      · exact .inr (List.mem_of_mem_drop h1)
    · rintro (h1 | h1)
      · exact .inr (.inl h1)
      · rw [← h, List.mem_append] at h1
        rcases h1 with h1 | h1
        · exact .inl h1
        · exact .inr (.inr h1)
  · simp only [List.length_append, List.length_take, List.length_drop, List.length_cons, List.length_nil]; omega
theorem sub_take' {α : Type} (w : List α) (k : Nat) : sub w 0 (k : Int) = w.take k := by simp [sub]
theorem sub_drop' {α : Type} (w : List α) (k : Nat) : sub w (k : Int) (w.length : Int) = w.drop k := by simp [sub]
theorem ref18_Put_ex {n : Nat} {w : List TConfig} {c : TConfig} (hw : ∀ x ∈ w, CV n x) (hc : CV n c) (hl : w.length ≤ 1000) : (∃ r, ref18_Put w c = some r ∧ PutR n w c r) ∧ ∃ r, ref18_Put_v2 c w = some r ∧ PutR n w c r := by
  obtain ⟨k, hk, h1, h2⟩ := put_loop hw hc hl
  have hmid := put_mid (n := n) (w := w) (c := c) k hk
  have hsame : c ∈ w → PutR n w c w := fun h => ⟨fun x => ⟨.inr, fun hx => hx.elim (fun e => e ▸ h) id⟩, by omega⟩
  have e1 : (chkE ((0 : Int) ≤ 0 ∧ (0 : Int) ≤ (k : Int) ∧ (k : Int) ≤ (w.length : Int)) (
     chkE (fit ([] : List TConfig).length (sub w 0 (k : Int)).length 32) (
      chkE (fit (([] : List TConfig) ++ (sub w 0 (k : Int))).length [c].length 32) (
       chkE ((0 : Int) ≤ (k : Int) ∧ ((k : Int) : Int) ≤ (w.length : Int) ∧ (w.length : Int) ≤ (w.length : Int)) (
        chkE (fit ((([] : List TConfig) ++ (sub w 0 (k : Int))) ++ [c]).length (sub w (k : Int) (w.length : Int)).length 32) (
         some (((([] : List TConfig) ++ (sub w 0 (k : Int))) ++ [c]) ++ (sub w (k : Int) (w.length : Int)))))))) : Option (List TConfig)) = some (w.take k ++ [c] ++ w.drop k) := by
    rw [sub_take', sub_drop', chkE_p (by omega), chkF (by simp; omega) (by decide), chkF (by simp; omega) (by decide), chkE_p (by omega), chkF (by simp; omega) (by decide), List.nil_append]
  have e2 : (chkE ((0 : Int) ≤ 0 ∧ (0 : Int) ≤ (k : Int) ∧ (k : Int) ≤ (w.length : Int)) (
      chkE (fit ([] : List TConfig).length (sub w 0 (k : Int)).length 32) (
       chkE (fit (sub w 0 (k : Int)).length [c].length 32) (
        chkE ((0 : Int) ≤ (k : Int) ∧ (k : Int) ≤ (w.length : Int) ∧ (w.length : Int) ≤ (w.length : Int)) (
         chkE (fit ((sub w 0 (k : Int)) ++ [c]).length (sub w (k : Int) (w.length : Int)).length 32) (
          some (((sub w 0 (k : Int)) ++ [c]) ++ (sub w (k : Int) (w.length : Int)))))))) : Option (List TConfig)) = some (w.take k ++ [c] ++ w.drop k) := by
    rw [sub_take', sub_drop', chkE_p (by omega), chkF (by simp; omega) (by decide), chkF (by simp; omega) (by decide), chkE_p (by omega), chkF (by simp; omega) (by decide)]
  unfold ref18_Put ref18_Put_v2
  rw [h1, bndE_s, h2, bndE_s]
  by_cases h0 : 0 < k
  · obtain ⟨x, hx, _⟩ := get_lt (l := w) (i := k - 1) (by omega)
    have hs := subN1 h0 (by omega)
    have hO := ref18_One_eq (hw x (List.mem_of_getElem? hx)) hc
    have hpos : decide ((0 : Int) < (k : Int)) = true := decide_eq_true (by omega)
    simp only [hpos, iteE_t, hs, idxE_n hx, hO, bndE_s, e1, e2, chkE_p (show (0 : Int) ≤ ((k - 1 : Nat) : Int) ∧ ((k - 1 : Nat) : Int) + 1 ≤ (w.length : Int) by omega)]
    by_cases hxc : x = c
    · simp only [hxc, decide_true, iteE_t]
      have hm : c ∈ w := hxc ▸ List.mem_of_getElem? hx
      exact ⟨⟨w, rfl, hsame hm⟩, ⟨w, rfl, hsame hm⟩⟩
    · simp only [hxc, decide_false, iteE_f]
      exact ⟨⟨_, rfl, hmid⟩, ⟨_, rfl, hmid⟩⟩
  · have hpos : decide ((0 : Int) < (k : Int)) = false := decide_eq_false (by omega)
    simp only [hpos, iteE_f, e1, e2]
    exact ⟨⟨_, rfl, hmid⟩, ⟨_, rfl, hmid⟩⟩
theorem PutR.cv {n : Nat} {w r : List TConfig} {c : TConfig} (h : PutR n w c r) (hw : ∀ x ∈ w, CV n x) (hc : CV n c) : ∀ x ∈ r, CV n x := fun x hx => by
  rcases (h.1 x).1 hx with rfl | h
  · exact hc
  · exact hw x h
theorem trans_sets {q : TQea} {t : TTrans} {f r : Int} (hfr : q.frees = []) (h : ref13_trans q t f = some (r, true)) : t.sets = [] := by
  cases hs : t.sets with
  | nil => rfl
  | cons x l =>
    exfalso
    have hno : ∀ o3 o12, ref13_trans_l2 f q t o3 0 = some o12 → o12 = .inr () := by
      intro o3 o12 h2
      have hx : t.sets[0]? = some x := by rw [hs]; rfl
      rw [ref13_trans_l2_eq] at h2
      unfold ref13_trans_l2_s at h2
      rw [show (0 : Int) = ((0 : Nat) : Int) from rfl, ltD hx, iteE_t, idxE_n hx] at h2
      cases hk : ref13_Kind q o3 x.expr with
      | none => rw [hk] at h2; cases h2
      | some r6 =>
        rw [hk, bndE_s, hfr] at h2
        by_cases g1 : x.free < 0
        · rw [decide_eq_true (show x.free < ((0 : Nat) : Int) from g1)] at h2
          simp only [iteE_t, nextE_r, Option.some.injEq] at h2
          exact h2.symm
        · rw [decide_eq_false (show ¬ x.free < ((0 : Nat) : Int) from g1), decide_eq_true (show ((([] : List TFree).length : Int) ≤ x.free) by simp; omega)] at h2
          simp only [iteE_t, iteE_f, nextE_r, Option.some.injEq] at h2
          exact h2.symm
    unfold ref13_trans at h
    rcases iS h with ⟨_, h⟩ | ⟨_, h⟩
    · cases h
    rcases iS h with ⟨_, h⟩ | ⟨_, h⟩
    · cases h
    rcases iS h with ⟨_, h⟩ | ⟨_, h⟩
    · cases h
    rcases iS h with ⟨_, h⟩ | ⟨_, h⟩
    · cases h
    rcases iS h with ⟨_, h⟩ | ⟨_, h⟩
    · cases h
    rcases iS h with ⟨_, h⟩ | ⟨_, h⟩
    · cases h
    obtain ⟨o2, _, h⟩ := bS h
    rcases sumE_some h with ⟨o3, _, h⟩ | ⟨o4, _, h⟩
    · obtain ⟨o12, h12, h⟩ := bS h
      have e := hno _ _ h12
      subst e
      rw [sumE_r] at h
      cases h
    · cases h
theorem small_sets {q : TQea} (hR : RightQ q) (hS : SmallP q) : ∀ t ∈ q.trans, t.sets = [] := fun t ht => by
  obtain ⟨f, r, h⟩ := hR.fires t ht
  exact trans_sets hS.frees h
theorem fitS_frees : ∀ (al : List TArg) (xs : List TValue) (b : List TSlot) (p : List TSlot × List TSlot), (∀ a ∈ al, a.kind ≠ 3) → fitS al xs b [] = some p → p.2 = []
  | [], xs, b, p, _, h => by
    cases xs <;> (simp only [fitS, Option.some.injEq] at h; subst h; rfl)
  | a :: al, [], b, p, _, h => by simp only [fitS, Option.some.injEq] at h; subst h; rfl
  | a :: al, x :: xs, b, p, hk, h => by
    have ih := fun b' h' => fitS_frees al xs b' p (fun a ha => hk a (List.mem_cons_of_mem _ ha)) h'
    rw [fitS] at h
    split at h
    · split at h
      · exact ih _ h
      · cases h
    · split at h
      · split at h
        · cases h
        · exact ih _ h
      · split at h
        · exact absurd (by assumption) (hk a (by simp))
        · exact ih _ h
theorem hit_frees {q : TQea} (hR : RightQ q) (hS : SmallP q) {e : TEvent} {i : Nat} {h : THit} (hh : hitS q i e = some h) : h.frees = [] := by
  unfold hitS at hh
  split at hh
  · cases hh
  · rename_i s hs
    split at hh
    · cases hh
    · split at hh
      · rw [Option.map_eq_some_iff] at hh
        obtain ⟨p, hp, rfl⟩ := hh
        refine fitS_frees _ _ _ _ (fun a ha h3 => ?_) hp
        have := ((hR.symbols s (List.mem_of_getElem? hs)).args a ha).three h3
        rw [hS.frees] at this
        simp at this; omega
      · cases hh
theorem fired_eq {q : TQea} (hR : RightQ q) (hS : SmallP q) {i : Nat} {t : TTrans} (ht : q.trans[i]? = some t) {c : TConfig} (hc : c.vals = []) {h : THit} (hf : h.frees = []) : ref19_fired q (i : Int) c h = some (TConfig.mk t.to [], true, 0) := by
  have hm := List.mem_of_getElem? ht
  have hg := hS.guards t hm
  have hs := small_sets hR hS t hm
  have h1 : ref19_free c.vals h.frees = some [] := by
    unfold ref19_free ref19_free_l1
    rw [hc, hf, loopE_eq]
    simp [ref19_free_l1_s, iteE, nextE, bndE, chkE, fit]
  have h2 : ref16_Guard q (i : Int) h.bind [] = some (true, 0) := by
    unfold ref16_Guard
    rw [idxE_n ht, hg]; rfl
  have h3 : ref16_Sets q (i : Int) h.bind [] = some ([], 0) := by
    unfold ref16_Sets
    rw [idxE_n ht, hs]
    unfold ref16_Sets_l1
    rw [loopE_eq]
    simp [ref16_Sets_l1_s, iteE, nextE, bndE, chkE, fit, sumE]
  unfold ref19_fired
  rw [h1, bndE_s, h2, bndE_s]
  simp only [decide_true, Bool.not_true, iteE_f]
  rw [h3, bndE_s]
  simp only [decide_true, Bool.not_true, iteE_f, idxE_n ht]
structure HitsP (l : List THit) : Prop where
  frees : ∀ h ∈ l, h.frees = []
  rise : l.Pairwise fun a b => a.symbol < b.symbol
  len : l.length ≤ 1000
theorem HitsP.ne {l : List THit} (h : HitsP l) {i j : Nat} {a b : THit} (hi : l[i]? = some a) (hj : l[j]? = some b) (hlt : i < j) : a.symbol ≠ b.symbol := by
  have h1 := (List.getElem?_eq_some_iff.1 hi)
  have h2 := (List.getElem?_eq_some_iff.1 hj)
  obtain ⟨p1, e1⟩ := h1
  obtain ⟨p2, e2⟩ := h2
  have := List.pairwise_iff_getElem.1 h.rise i j p1 p2 hlt
  rw [e1, e2] at this
  omega
theorem worse0 : ref19_worse 0 0 = some 0 := rfl
theorem One_l3_ex {q : TQea} (hF : FewP q) (hR : RightQ q) (hS : SmallP q) {l : List THit} (hl : HitsP l) {ti : Nat} {t : TTrans} (ht : q.trans[ti]? = some t) {c : TConfig} (hc : c.vals = []) (w0 : List TConfig) (hw0 : ∀ x ∈ w0, CV q.states.length x) (hb : w0.length ≤ 500) :
    ∃ w, ref19_One_l3 l (ti : Int) q c 0 0 w0 = some (0, w) ∧ (∀ x ∈ w, CV q.states.length x) ∧ w.length ≤ w0.length + 1 ∧ ∀ x, x ∈ w ↔ x ∈ w0 ∨ (x = TConfig.mk t.to [] ∧ ∃ h ∈ l, h.symbol = t.symbol) := by
  have hte := hR.ends t (List.mem_of_getElem? ht)
  have hcv : CV q.states.length (TConfig.mk t.to []) := ⟨rfl, hte.2.2.1, hte.2.2.2⟩
  obtain ⟨o, ho, w, rfl, hQ⟩ := loopE_ex (step := fun s : Int × Int × List TConfig => ref19_One_l3_s l (ti : Int) q c s.1 s.2.1 s.2.2)
    (fun s => ∃ (j : Nat) (w : List TConfig), s = (0, (j : Int), w) ∧ j ≤ l.length ∧ (∀ x ∈ w, CV q.states.length x) ∧ w.length ≤ w0.length + 1 ∧ ((¬ ∃ i, i < j ∧ ∃ h, l[i]? = some h ∧ h.symbol = t.symbol) → w.length ≤ w0.length) ∧ ∀ x, x ∈ w ↔ x ∈ w0 ∨ (x = TConfig.mk t.to [] ∧ ∃ i, i < j ∧ ∃ h, l[i]? = some h ∧ h.symbol = t.symbol))
    (fun s => (l.length - s.2.1).toNat)
    (fun o => ∃ w, o = ((0 : Int), w) ∧ (∀ x ∈ w, CV q.states.length x) ∧ w.length ≤ w0.length + 1 ∧ ∀ x, x ∈ w ↔ x ∈ w0 ∨ (x = TConfig.mk t.to [] ∧ ∃ h ∈ l, h.symbol = t.symbol))
    (by
      rintro s ⟨j, w, rfl, hj, hcw, hlen, hno, hm⟩
      by_cases he : j = l.length
      · subst he
        refine .inl ⟨(0, w), by simp only [ref19_One_l3_s, ltI, iteE_f], w, rfl, hcw, hlen, fun x => ?_⟩
        rw [hm x]
        constructor
        · rintro (h | ⟨h, i, hi, a, ha, hs⟩)
          · exact .inl h
          · exact .inr ⟨h, a, List.mem_of_getElem? ha, hs⟩
        · rintro (h | ⟨h, a, ha, hs⟩)
          · exact .inl h
          · obtain ⟨i, hi⟩ := List.mem_iff_getElem?.1 ha
            exact .inr ⟨h, i, (List.getElem?_eq_some_iff.1 hi).1, a, hi, hs⟩
      · right
        obtain ⟨y, hy, _⟩ := get_lt (l := l) (i := j) (by omega)
        have hln := hl.len
        simp only [ref19_One_l3_s, ltD hy, iteE_t, ref19_One_b4, idxE_n hy, idxE_n ht, succW hy (show l.length ≤ 9223372036854775807 by omega)]
        by_cases hs : y.symbol = t.symbol
        · have hnone : ¬ ∃ i, i < j ∧ ∃ h, l[i]? = some h ∧ h.symbol = t.symbol := by
            rintro ⟨i, hi, a, ha, has⟩
            exact hl.ne ha hy hi (by rw [has, hs])
          have hwl := hno hnone
          obtain ⟨r, hr, hP⟩ := (ref18_Put_ex (w := w) (c := TConfig.mk t.to []) hcw hcv (by omega)).2
          have hP2 := hP.2
          refine ⟨((0 : Int), ((j + 1 : Nat) : Int), r), ?_, ⟨j + 1, r, rfl, by omega, hP.cv hcw hcv, by omega, fun h => absurd ⟨j, by omega, y, hy, hs⟩ h, fun x => ?_⟩, by simp only; omega⟩
          · rw [decide_eq_true hs]
            simp only [Bool.not_true, iteE_f, fired_eq hR hS ht hc (hl.frees y (List.mem_of_getElem? hy)), bndE_s, worse0, ref19_One_b5, iteE_t, hr]
          · rw [hP.1 x, hm x]
            constructor
            · rintro (h | h | ⟨h, i, hi, a⟩)
              · exact .inr ⟨h, j, by omega, y, hy, hs⟩
              · exact .inl h
              · exact .inr ⟨h, i, by omega, a⟩
            · rintro (h | ⟨h, i, hi, a⟩)
              · exact .inr (.inl h)
              · exact .inl h
        · refine ⟨((0 : Int), ((j + 1 : Nat) : Int), w), ?_, ⟨j + 1, w, rfl, by omega, hcw, hlen, fun h => hno fun ⟨i, hi, a⟩ => h ⟨i, by omega, a⟩, fun x => ?_⟩, by simp only; omega⟩
          · rw [decide_eq_false hs]; rfl
          · rw [hm x]
            constructor
            · rintro (h | ⟨h, i, hi, a⟩)
              · exact .inl h
              · exact .inr ⟨h, i, by omega, a⟩
            · rintro (h | ⟨h, i, hi, a, ha, has⟩)
              · exact .inl h
              · refine .inr ⟨h, i, ?_, a, ha, has⟩
                rcases Nat.lt_or_ge i j with g | g
                · exact g
                · have : i = j := by omega
                  subst this; rw [hy, Option.some.injEq] at ha; subst ha; exact absurd has hs)
    ((0 : Int), (0 : Int), w0) ⟨0, w0, rfl, by omega, hw0, by omega, fun _ => Nat.le_refl _, fun x => by simp⟩
  exact ⟨w, ho, hQ⟩
def StepP (q : TQea) (l : List THit) (c x : TConfig) : Prop := ∃ t ∈ q.trans, t.from_ = c.state ∧ (∃ h ∈ l, h.symbol = t.symbol) ∧ x = TConfig.mk t.to []
theorem One_l1_ex {q : TQea} (hF : FewP q) (hR : RightQ q) (hS : SmallP q) {l : List THit} (hl : HitsP l) {c : TConfig} (hc : c.vals = []) :
    ∃ w, ref19_One_l1 l q c 0 0 [] = some (0, w) ∧ (∀ x ∈ w, CV q.states.length x) ∧ w.length ≤ 12 ∧ ∀ x, x ∈ w ↔ StepP q l c x := by
  have ht12 := hF.trans
  obtain ⟨o, ho, w, rfl, hQ⟩ := loopE_ex (step := fun s : Int × Int × List TConfig => ref19_One_l1_s l q c s.1 s.2.1 s.2.2)
    (fun s => ∃ (j : Nat) (w : List TConfig), s = (0, (j : Int), w) ∧ j ≤ q.trans.length ∧ (∀ x ∈ w, CV q.states.length x) ∧ w.length ≤ j ∧ ∀ x, x ∈ w ↔ ∃ i, i < j ∧ ∃ t, q.trans[i]? = some t ∧ t.from_ = c.state ∧ (∃ h ∈ l, h.symbol = t.symbol) ∧ x = TConfig.mk t.to [])
    (fun s => (q.trans.length - s.2.1).toNat)
    (fun o => ∃ w, o = ((0 : Int), w) ∧ (∀ x ∈ w, CV q.states.length x) ∧ w.length ≤ 12 ∧ ∀ x, x ∈ w ↔ StepP q l c x)
    (by
      rintro s ⟨j, w, rfl, hj, hcw, hlen, hm⟩
      by_cases he : j = q.trans.length
      · subst he
        refine .inl ⟨(0, w), by simp only [ref19_One_l1_s, ltI, iteE_f], w, rfl, hcw, by omega, fun x => ?_⟩
        rw [hm x]
        constructor
        · rintro ⟨i, hi, t, ht, a⟩
          exact ⟨t, List.mem_of_getElem? ht, a⟩
        · rintro ⟨t, ht, a⟩
          obtain ⟨i, hi⟩ := List.mem_iff_getElem?.1 ht
          exact ⟨i, (List.getElem?_eq_some_iff.1 hi).1, t, hi, a⟩
      · right
        obtain ⟨t, ht, _⟩ := get_lt (l := q.trans) (i := j) (by omega)
        simp only [ref19_One_l1_s, ltD ht, iteE_t, ref19_One_b2, idxE_n ht, succW ht (show q.trans.length ≤ 9223372036854775807 by omega)]
        by_cases hf : t.from_ = c.state
        · obtain ⟨r, hr, hrc, hrl, hrm⟩ := One_l3_ex hF hR hS hl ht hc w hcw (by omega)
          refine ⟨((0 : Int), ((j + 1 : Nat) : Int), r), ?_, ⟨j + 1, r, rfl, by omega, hrc, by omega, fun x => ?_⟩, by simp only; omega⟩
          · rw [decide_eq_true hf]
            simp only [Bool.not_true, iteE_f, hr, bndE_s]
          · rw [hrm x, hm x]
            constructor
            · rintro (⟨i, hi, a⟩ | ⟨h, a⟩)
              · exact ⟨i, by omega, a⟩
              · exact ⟨j, by omega, t, ht, hf, a, h⟩
            · rintro ⟨i, hi, t2, ht2, hf2, hh, hx⟩
              rcases Nat.lt_or_ge i j with g | g
              · exact .inl ⟨i, g, t2, ht2, hf2, hh, hx⟩
              · have : i = j := by omega
                subst this; rw [ht, Option.some.injEq] at ht2; subst ht2; exact .inr ⟨hx, hh⟩
        · refine ⟨((0 : Int), ((j + 1 : Nat) : Int), w), ?_, ⟨j + 1, w, rfl, by omega, hcw, by omega, fun x => ?_⟩, by simp only; omega⟩
          · rw [decide_eq_false hf]; rfl
          · rw [hm x]
            constructor
            · rintro ⟨i, hi, a⟩
              exact ⟨i, by omega, a⟩
            · rintro ⟨i, hi, t2, ht2, hf2, a⟩
              rcases Nat.lt_or_ge i j with g | g
              · exact ⟨i, g, t2, ht2, hf2, a⟩
              · have : i = j := by omega
                subst this; rw [ht, Option.some.injEq] at ht2; subst ht2; exact absurd hf2 hf)
    ((0 : Int), (0 : Int), []) ⟨0, [], rfl, by omega, by simp, by simp, fun x => by simp⟩
  exact ⟨w, ho, hQ⟩
def OneP (q : TQea) (l : List THit) (c x : TConfig) : Prop := StepP q l c x ∨ ((∀ y, ¬ StepP q l c y) ∧ (∃ s, q.states[c.state.toNat]? = some s ∧ s.next = false) ∧ x = c)
theorem ref19_One_ex {q : TQea} (hF : FewP q) (hR : RightQ q) (hS : SmallP q) {l : List THit} (hl : HitsP l) {c : TConfig} (hc : CV q.states.length c) :
    ∃ w, ref19_One q c l = some (w, 0) ∧ (∀ x ∈ w, CV q.states.length x) ∧ w.length ≤ 12 ∧ ∀ x, x ∈ w ↔ OneP q l c x := by
  obtain ⟨w, hw, hcw, hlen, hm⟩ := One_l1_ex hF hR hS hl hc.1
  obtain ⟨s, hs, hc0⟩ := getI (l := q.states) (i := c.state) hc.2.1 hc.2.2
  unfold ref19_One
  rw [hw, bndE_s]
  simp only [decide_true, Bool.not_true, iteE_f]
  by_cases h0 : w = []
  · subst h0
    have hno : ∀ y, ¬ StepP q l c y := fun y h => by have := (hm y).2 h; simp at this
    rw [show decide ((([] : List TConfig).length : Int) = 0) = true from rfl, iteE_t, idxE_i hs hc.2.1]
    cases hn : s.next with
    | false =>
      refine ⟨[c], by simp [ref19_One_b6, iteE, bndE, chkE, fit], fun x hx => by rw [List.mem_singleton.1 hx]; exact hc, by simp, fun x => ?_⟩
      rw [List.mem_singleton]
      exact ⟨fun h => .inr ⟨hno, ⟨s, hs, hn⟩, h⟩, fun h => h.elim (fun h => absurd h (hno x)) fun h => h.2.2⟩
    | true =>
      refine ⟨[], rfl, by simp, by simp, fun x => ⟨fun h => by simp at h, fun h => ?_⟩⟩
      rcases h with h | ⟨_, ⟨s2, hs2, hn2⟩, _⟩
      · exact absurd h (hno x)
      · rw [hs, Option.some.injEq] at hs2; subst hs2; rw [hn] at hn2; cases hn2
  · have hd : decide ((w.length : Int) = 0) = false := decide_eq_false fun h => h0 (List.eq_nil_of_length_eq_zero (by omega))
    rw [hd, iteE_f]
    refine ⟨w, rfl, hcw, hlen, fun x => ?_⟩
    rw [hm x]
    refine ⟨.inl, fun h => h.elim id fun h => ?_⟩
    cases w with
    | nil => exact absurd rfl h0
    | cons y w => exact absurd ((hm y).1 (by simp)) (h.1 y)
def AllP (q : TQea) (l : List THit) (cs : List TConfig) (x : TConfig) : Prop := ∃ c ∈ cs, OneP q l c x
theorem All_l3_ex {n : Nat} (s1 : List TConfig) (s2 : List THit) (s9 s10 : Int) (q : TQea) {r : List TConfig} (hr : ∀ x ∈ r, CV n x) (hrl : r.length ≤ 12) {w0 : List TConfig} (hw : ∀ x ∈ w0, CV n x) (hl : w0.length ≤ 500) :
    ∃ w, ref19_All_l3 s1 s2 s9 s10 r q w0 0 = some w ∧ (∀ x ∈ w, CV n x) ∧ w.length ≤ w0.length + r.length ∧ ∀ x, x ∈ w ↔ x ∈ w0 ∨ x ∈ r := by
  obtain ⟨o, ho, hQ⟩ := loopE_ex (step := fun s : List TConfig × Int => ref19_All_l3_s s1 s2 s9 s10 r q s.1 s.2)
    (fun s => ∃ (j : Nat) (w : List TConfig), s = (w, (j : Int)) ∧ j ≤ r.length ∧ (∀ x ∈ w, CV n x) ∧ w.length ≤ w0.length + j ∧ ∀ x, x ∈ w ↔ x ∈ w0 ∨ x ∈ r.take j)
    (fun s => (r.length - s.2).toNat)
    (fun o => (∀ x ∈ o, CV n x) ∧ o.length ≤ w0.length + r.length ∧ ∀ x, x ∈ o ↔ x ∈ w0 ∨ x ∈ r)
    (by
      rintro s ⟨j, w, rfl, hj, hcw, hlen, hm⟩
      by_cases he : j = r.length
      · subst he
        exact .inl ⟨w, by simp only [ref19_All_l3_s, ltI, iteE_f], hcw, hlen, fun x => by rw [hm x, List.take_length]⟩
      · right
        obtain ⟨y, hy, _⟩ := get_lt (l := r) (i := j) (by omega)
        have hcy := hr y (List.mem_of_getElem? hy)
        obtain ⟨r2, hr2, hP⟩ := (ref18_Put_ex hcw hcy (by omega)).1
        have hP2 := hP.2
        have htake : r.take (j + 1) = r.take j ++ [y] := by rw [List.take_add_one, hy]; rfl
        refine ⟨(r2, ((j + 1 : Nat) : Int)), ?_, ⟨j + 1, r2, rfl, by omega, hP.cv hcw hcy, by omega, fun x => ?_⟩, by simp only; omega⟩
        · simp only [ref19_All_l3_s, ltD hy, iteE_t, idxE_n hy, hr2, bndE_s, succW hy (show r.length ≤ 9223372036854775807 by omega)]
        · rw [hP.1 x, hm x, htake, List.mem_append, List.mem_singleton]
          constructor
          · rintro (h | h | h)
            · exact .inr (.inr h)
            · exact .inl h
            · exact .inr (.inl h)
          · rintro (h | h | h)
            · exact .inr (.inl h)
            · exact .inr (.inr h)
            · exact .inl h)
    (w0, (0 : Int)) ⟨0, w0, rfl, by omega, hw, by omega, fun x => by simp⟩
  exact ⟨o, ho, hQ⟩
theorem ref19_All_ex {q : TQea} (hF : FewP q) (hR : RightQ q) (hS : SmallP q) {l : List THit} (hl : HitsP l) {cs : List TConfig} (hc : ∀ c ∈ cs, CV q.states.length c) (hcl : cs.length ≤ 12) :
    ∃ w, ref19_All q cs l = some (w, 0) ∧ (∀ x ∈ w, CV q.states.length x) ∧ w.length ≤ 200 ∧ ∀ x, x ∈ w ↔ AllP q l cs x := by
  obtain ⟨o, ho, w, rfl, hcw, hlen, hm⟩ := loopE_ex (step := fun s : List TConfig × Int × Int => ref19_All_l1_s cs l q s.1 s.2.1 s.2.2)
    (fun s => ∃ (j : Nat) (w : List TConfig), s = (w, 0, (j : Int)) ∧ j ≤ cs.length ∧ (∀ x ∈ w, CV q.states.length x) ∧ w.length ≤ 12 * j ∧ ∀ x, x ∈ w ↔ AllP q l (cs.take j) x)
    (fun s => (cs.length - s.2.2).toNat)
    (fun o => ∃ w, o = (w, (0 : Int)) ∧ (∀ x ∈ w, CV q.states.length x) ∧ w.length ≤ 200 ∧ ∀ x, x ∈ w ↔ AllP q l cs x)
    (by
      rintro s ⟨j, w, rfl, hj, hcw, hlen, hm⟩
      by_cases he : j = cs.length
      · subst he
        exact .inl ⟨(w, 0), by simp only [ref19_All_l1_s, ltI, iteE_f], w, rfl, hcw, by omega, fun x => by rw [hm x, List.take_length]⟩
      · right
        obtain ⟨c, hy, _⟩ := get_lt (l := cs) (i := j) (by omega)
        have hcy := hc c (List.mem_of_getElem? hy)
        obtain ⟨r, hr, hrc, hrl, hrm⟩ := ref19_One_ex hF hR hS hl hcy
        obtain ⟨w2, hw2, hw2c, hw2l, hw2m⟩ := All_l3_ex cs l 0 (j : Int) q hrc hrl hcw (by omega)
        have htake : cs.take (j + 1) = cs.take j ++ [c] := by rw [List.take_add_one, hy]; rfl
        refine ⟨(w2, (0 : Int), ((j + 1 : Nat) : Int)), ?_, ⟨j + 1, w2, rfl, by omega, hw2c, by omega, fun x => ?_⟩, by simp only; omega⟩
        · simp only [ref19_All_l1_s, ltD hy, iteE_t, idxE_n hy, hr, bndE_s, worse0, hw2, succW hy (show cs.length ≤ 9223372036854775807 by omega)]
        · rw [hw2m x, hm x, hrm x, htake]
          unfold AllP
          constructor
          · rintro (⟨a, ha, h⟩ | h)
            · exact ⟨a, List.mem_append_left _ ha, h⟩
            · exact ⟨c, by simp, h⟩
          · rintro ⟨a, ha, h⟩
            rcases List.mem_append.1 ha with g | g
            · exact .inl ⟨a, g, h⟩
            · rw [List.mem_singleton.1 g] at h; exact .inr h)
    ([], (0 : Int), (0 : Int)) ⟨0, [], rfl, by omega, by simp, by simp, fun x => by simp [AllP]⟩
  have ho' : ref19_All_l1 cs l q [] 0 0 = some (w, 0) := ho
  refine ⟨w, ?_, hcw, hlen, hm⟩
  unfold ref19_All
  rw [ho', bndE_s]
  have hd : decide ((256 : Int) < (w.length : Int)) = false := decide_eq_false (by omega)
  simp only [decide_true, iteE_t, hd, ref19_All_b4, iteE_f, bndE_s, Bool.not_true]
theorem ref18_Of_ex {n : Nat} {cs : List TConfig} (hc : ∀ c ∈ cs, CV n c) (hl : cs.length ≤ 12) : ∃ w, ref18_Of cs = some w ∧ (∀ x ∈ w, CV n x) ∧ w.length ≤ 12 ∧ ∀ x, x ∈ w ↔ x ∈ cs := by
  obtain ⟨o, ho, hQ⟩ := loopE_ex (step := fun s : List TConfig × Int => ref18_Of_l1_s cs s.1 s.2)
    (fun s => ∃ (j : Nat) (w : List TConfig), s = (w, (j : Int)) ∧ j ≤ cs.length ∧ (∀ x ∈ w, CV n x) ∧ w.length ≤ j ∧ ∀ x, x ∈ w ↔ x ∈ cs.take j)
    (fun s => (cs.length - s.2).toNat)
    (fun o => (∀ x ∈ o, CV n x) ∧ o.length ≤ 12 ∧ ∀ x, x ∈ o ↔ x ∈ cs)
    (by
      rintro s ⟨j, w, rfl, hj, hcw, hlen, hm⟩
      by_cases he : j = cs.length
      · subst he
        exact .inl ⟨w, by simp only [ref18_Of_l1_s, ltI, iteE_f], hcw, by omega, fun x => by rw [hm x, List.take_length]⟩
      · right
        obtain ⟨y, hy, _⟩ := get_lt (l := cs) (i := j) (by omega)
        have hcy := hc y (List.mem_of_getElem? hy)
        obtain ⟨r2, hr2, hP⟩ := (ref18_Put_ex hcw hcy (by omega)).1
        have hP2 := hP.2
        have htake : cs.take (j + 1) = cs.take j ++ [y] := by rw [List.take_add_one, hy]; rfl
        refine ⟨(r2, ((j + 1 : Nat) : Int)), ?_, ⟨j + 1, r2, rfl, by omega, hP.cv hcw hcy, by omega, fun x => ?_⟩, by simp only; omega⟩
        · simp only [ref18_Of_l1_s, ltD hy, iteE_t, idxE_n hy, hr2, bndE_s, succW hy (show cs.length ≤ 9223372036854775807 by omega)]
        · rw [hP.1 x, hm x, htake, List.mem_append, List.mem_singleton]
          exact Or.comm)
    ([], (0 : Int)) ⟨0, [], rfl, by omega, by simp, by simp, fun x => by simp⟩
  have ho' : ref18_Of_l1 cs [] 0 = some o := ho
  exact ⟨o, by unfold ref18_Of; rw [ho', bndE_s], hQ⟩
def confsN (n S : Nat) : List TConfig := ((List.range n).filter fun s => S.testBit s).map fun s => TConfig.mk ((s : Nat) : Int) []
theorem confs_eq {q : TQea} (hn : q.states.length ≤ 12) (b : List TSlot) (S : Nat) (hS : S < 4294967296) (e : TEvent) : law22_JointNext_l1 b (S : Int) q e 0 [] = some (confsN q.states.length S) := by
  have hl : (List.range q.states.length).length = q.states.length := List.length_range
  have h := loop_fold (step := fun s : Int × List TConfig => law22_JointNext_l1_s b (S : Int) q e s.1 s.2) (List.range q.states.length) (fun (w : List TConfig) (s : Nat) => w ++ (if S.testBit s = true then [TConfig.mk (s : Int) []] else [])) (fun w => w) (fun i w => w.length ≤ i)
    (fun i s w hx hw => by
      obtain ⟨rfl, hs⟩ := range_at hx
      obtain ⟨x, hxs, _⟩ := get_lt hs
      have hws : IntKind.wrap .u64 (s : Int) = (s : Int) := wrapU_nat (by omega)
      refine ⟨?_, by split <;> simp <;> omega⟩
      simp only [law22_JointNext_l1_s, ltD hxs, iteE_t, law22_JointNext_b4, hws, chkE_p (show (0 : Int) ≤ (s : Int) by omega), succW hxs (show q.states.length ≤ 9223372036854775807 by omega)]
      rw [shr_nat (k := .u32) (s := s) (show s < 32 by omega), rem2, bit_div]
      cases hb : S.testBit s with
      | true =>
        simp only [if_true, Int.natCast_one, decide_true, law22_JointNext_b5, iteE_t]
        rw [chkF (by simp; omega) (by decide)]; rfl
      | false =>
        simp only [Bool.false_eq_true, if_false, Int.natCast_zero, show decide ((0 : Int) = 1) = false from rfl, law22_JointNext_b5, iteE_f, bndE_s, List.append_nil])
    (fun w _ => by rw [hl]; simp only [law22_JointNext_l1_s, ltI, iteE_f]) [] (by simp)
  unfold law22_JointNext_l1
  rw [h]
  congr 1
  unfold confsN
  suffices ∀ (l : List Nat) (w : List TConfig), l.foldl (fun (w : List TConfig) (s : Nat) => w ++ (if S.testBit s = true then [TConfig.mk (s : Int) []] else [])) w = w ++ (l.filter fun s => S.testBit s).map fun s => TConfig.mk ((s : Nat) : Int) [] from by simpa using this (List.range q.states.length) []
  intro l
  induction l with
  | nil => intro w; simp
  | cons s l ih =>
    intro w
    rw [List.foldl_cons, ih]
    cases hb : S.testBit s <;> simp [List.filter_cons, hb]
theorem confs_mem {n S : Nat} {x : TConfig} : x ∈ confsN n S ↔ ∃ s, s < n ∧ S.testBit s = true ∧ x = TConfig.mk (s : Int) [] := by
  unfold confsN
  simp only [List.mem_map, List.mem_filter, List.mem_range]
  constructor
  · rintro ⟨s, ⟨h1, h2⟩, h3⟩; exact ⟨s, h1, h2, h3.symm⟩
  · rintro ⟨s, h1, h2, h3⟩; exact ⟨s, ⟨h1, h2⟩, h3.symm⟩
theorem confs_len (n S : Nat) : (confsN n S).length ≤ n := by
  unfold confsN
  rw [List.length_map]
  exact Nat.le_trans (List.length_filter_le _ _) (by simp)
structure HitsS (n : Nat) (l : List THit) : Prop extends HitsP l where
  sym : ∀ h ∈ l, 0 ≤ h.symbol ∧ h.symbol < n
theorem addU_lt {a b : Nat} (h : a + b < 18446744073709551616) : intVal .add .u64 (a : Int) (b : Int) = ((a + b : Nat) : Int) := by
  show IntKind.wrap .u64 ((a : Int) + (b : Int)) = _
  rw [← Int.natCast_add]; exact wrapU_nat h
theorem Mask_ex {n : Nat} (hn : n ≤ 12) {l : List THit} (hl : HitsS n l) : ∃ M : Nat, ref22_Mask l = some (M : Int) ∧ M < 18446744073709551616 ∧ ∀ k : Nat, M.testBit k = true ↔ ∃ h ∈ l, h.symbol = (k : Int) := by
  have hln := hl.len
  obtain ⟨o, ho, M, rfl, hQ⟩ := loopE_ex (step := fun s : Int × Int => ref22_Mask_l1_s l s.1 s.2)
    (fun s => ∃ (j w : Nat), s = ((w : Int), (j : Int)) ∧ j ≤ l.length ∧ w < 2 ^ 12 ∧ ∀ k : Nat, w.testBit k = true ↔ ∃ i, i < j ∧ ∃ h, l[i]? = some h ∧ h.symbol = (k : Int))
    (fun s => (l.length - s.2).toNat)
    (fun o => ∃ M : Nat, o = (M : Int) ∧ M < 18446744073709551616 ∧ ∀ k : Nat, M.testBit k = true ↔ ∃ h ∈ l, h.symbol = (k : Int))
    (by
      rintro s ⟨j, w, rfl, hj, hw, hm⟩
      by_cases he : j = l.length
      · subst he
        refine .inl ⟨(w : Int), by simp only [ref22_Mask_l1_s, ltI, iteE_f], w, rfl, Nat.lt_of_lt_of_le hw (by decide), fun k => ?_⟩
        rw [hm k]
        constructor
        · rintro ⟨i, _, h, hi, hs⟩; exact ⟨h, List.mem_of_getElem? hi, hs⟩
        · rintro ⟨h, hh, hs⟩
          obtain ⟨i, hi⟩ := List.mem_iff_getElem?.1 hh
          exact ⟨i, (List.getElem?_eq_some_iff.1 hi).1, h, hi, hs⟩
      · right
        obtain ⟨y, hy, _⟩ := get_lt (l := l) (i := j) (by omega)
        have hsy := hl.sym y (List.mem_of_getElem? hy)
        obtain ⟨z, hz⟩ : ∃ z : Nat, y.symbol = (z : Int) := ⟨y.symbol.toNat, by omega⟩
        have hz12 : z < 12 := by omega
        have hwz : w < 2 ^ z := Nat.lt_pow_two_of_testBit w fun i hi => by
          cases hb : w.testBit i with
          | false => rfl
          | true =>
            exfalso
            obtain ⟨a, ha, h, hh, hs⟩ := (hm i).1 hb
            obtain ⟨p1, e1⟩ := List.getElem?_eq_some_iff.1 hh
            obtain ⟨p2, e2⟩ := List.getElem?_eq_some_iff.1 hy
            have := List.pairwise_iff_getElem.1 hl.rise a j p1 p2 ha
            rw [e1, e2] at this
            omega
        have hor : w + 2 ^ z = 2 ^ z ||| w := by
          have := Nat.two_pow_add_eq_or_of_lt hwz 1
          rw [Nat.mul_one] at this
          rw [Nat.add_comm]; exact this
        have hp12 : 2 ^ z < 2 ^ 12 := Nat.pow_lt_pow_right (by decide) hz12
        have hlt12 : w + 2 ^ z < 2 ^ 12 := by rw [hor]; exact Nat.or_lt_two_pow hp12 hw
        have hwz2 : IntKind.wrap .u64 (z : Int) = (z : Int) := wrapU_nat (by omega)
        refine ⟨(((w + 2 ^ z : Nat) : Int), ((j + 1 : Nat) : Int)), ?_, ⟨j + 1, w + 2 ^ z, rfl, by omega, hlt12, fun k => ?_⟩, by simp only; omega⟩
        · simp only [ref22_Mask_l1_s, ltD hy, iteE_t, idxE_n hy, hz, hwz2, chkE_p (show (0 : Int) ≤ (z : Int) by omega), succW hy (show l.length ≤ 9223372036854775807 by omega)]
          rw [shl64 (by omega), addU_lt (Nat.lt_of_lt_of_le hlt12 (by decide))]
        · rw [hor, Nat.testBit_or, Nat.testBit_two_pow, Bool.or_eq_true, decide_eq_true_eq, hm k]
          constructor
          · rintro (h | ⟨i, hi, a⟩)
            · exact ⟨j, by omega, y, hy, by rw [hz, h]⟩
            · exact ⟨i, by omega, a⟩
          · rintro ⟨i, hi, h, hh, hs⟩
            rcases Nat.lt_or_ge i j with g | g
            · exact .inr ⟨i, g, h, hh, hs⟩
            · have : i = j := by omega
              subst this; rw [hy, Option.some.injEq] at hh; subst hh; exact .inl (by omega))
    ((0 : Int), (0 : Int)) ⟨0, 0, rfl, by omega, by decide, fun k => by simp⟩
  have ho' : ref22_Mask_l1 l 0 0 = some (M : Int) := ho
  exact ⟨M, by unfold ref22_Mask; rw [ho', bndE_s], hQ⟩
theorem l6_ex {n : Nat} (hn : n ≤ 12) (s2 : Int) (s13 : List THit) (q : TQea) {w : List TConfig} (hw : ∀ x ∈ w, CV n x) (hwl : w.length ≤ 1000) : ∃ V : Nat, law22_JointNext_l6 s2 s13 w q 0 0 = some (V : Int) ∧ ∀ k : Nat, V.testBit k = true ↔ ∃ x ∈ w, x.state = (k : Int) := by
  obtain ⟨o, ho, V, rfl, hQ⟩ := loopE_ex (step := fun s : Int × Int => law22_JointNext_l6_s s2 s13 w q s.1 s.2)
    (fun s => ∃ (j v : Nat), s = ((v : Int), (j : Int)) ∧ j ≤ w.length ∧ v < 4294967296 ∧ ∀ k : Nat, v.testBit k = true ↔ ∃ x ∈ w.take j, x.state = (k : Int))
    (fun s => (w.length - s.2).toNat)
    (fun o => ∃ V : Nat, o = (V : Int) ∧ ∀ k : Nat, V.testBit k = true ↔ ∃ x ∈ w, x.state = (k : Int))
    (by
      rintro s ⟨j, v, rfl, hj, hv, hm⟩
      by_cases he : j = w.length
      · subst he
        exact .inl ⟨(v : Int), by simp only [law22_JointNext_l6_s, ltI, iteE_f], v, rfl, fun k => by rw [hm k, List.take_length]⟩
      · right
        obtain ⟨y, hy, _⟩ := get_lt (l := w) (i := j) (by omega)
        have hsy := hw y (List.mem_of_getElem? hy)
        obtain ⟨z, hz⟩ : ∃ z : Nat, y.state = (z : Int) := ⟨y.state.toNat, by have := hsy.2.1; omega⟩
        have hz12 : z < 12 := by have := hsy.2.2; omega
        have hwz2 : IntKind.wrap .u64 (z : Int) = (z : Int) := wrapU_nat (by omega)
        have htake : w.take (j + 1) = w.take j ++ [y] := by rw [List.take_add_one, hy]; rfl
        refine ⟨(((v ||| 2 ^ z : Nat) : Int), ((j + 1 : Nat) : Int)), ?_, ⟨j + 1, v ||| 2 ^ z, rfl, by omega, or_lt hv (pow_lt (by omega)), fun k => ?_⟩, by simp only; omega⟩
        · simp only [law22_JointNext_l6_s, ltD hy, iteE_t, idxE_n hy, hz, hwz2, chkE_p (show (0 : Int) ≤ (z : Int) by omega), succW hy (show w.length ≤ 9223372036854775807 by omega)]
          rw [shl32 (by omega), orU32 hv (pow_lt (by omega))]
        · rw [Nat.testBit_or, Nat.testBit_two_pow, Bool.or_eq_true, decide_eq_true_eq, hm k, htake]
          constructor
          · rintro (⟨x, hx, a⟩ | h)
            · exact ⟨x, List.mem_append_left _ hx, a⟩
            · exact ⟨y, by simp, by rw [hz, h]⟩
          · rintro ⟨x, hx, a⟩
            rcases List.mem_append.1 hx with g | g
            · exact .inl ⟨x, g, a⟩
            · rw [List.mem_singleton.1 g] at a; exact .inr (by omega))
    ((0 : Int), (0 : Int)) ⟨0, 0, rfl, by omega, by decide, fun k => by simp⟩
  exact ⟨V, ho, hQ⟩
theorem fold_or_bit {α : Type} (f : Nat → α → Nat) (P : α → Nat → Prop) (hf : ∀ w x k, (f w x).testBit k = true ↔ w.testBit k = true ∨ P x k) : ∀ (l : List α) (w k : Nat), (l.foldl f w).testBit k = true ↔ w.testBit k = true ∨ ∃ x ∈ l, P x k
  | [], w, k => by simp
  | x :: l, w, k => by
    rw [List.foldl_cons, fold_or_bit f P hf l, hf]
    constructor
    · rintro ((h | h) | ⟨y, hy, h⟩)
      · exact .inl h
      · exact .inr ⟨x, by simp, h⟩
      · exact .inr ⟨y, List.mem_cons_of_mem _ hy, h⟩
    · rintro (h | ⟨y, hy, h⟩)
      · exact .inl (.inl h)
      · rcases List.mem_cons.1 hy with rfl | hy
        · exact .inl (.inr h)
        · exact .inr ⟨y, hy, h⟩
theorem toN_bit (q : TQea) (M s k : Nat) : (toN q M s).testBit k = true ↔ ∃ t ∈ q.trans, (t.from_ = (s : Int) ∧ M.testBit t.symbol.toNat = true) ∧ t.to.toNat = k := by
  unfold toN
  rw [fold_or_bit (toF M s) (fun t k => (t.from_ = (s : Int) ∧ M.testBit t.symbol.toNat = true) ∧ t.to.toNat = k) (fun w t k => by
    unfold toF
    by_cases h : t.from_ = (s : Int) ∧ M.testBit t.symbol.toNat = true
    · rw [if_pos h, Nat.testBit_or, Nat.testBit_two_pow, Bool.or_eq_true, decide_eq_true_eq]
      exact ⟨fun a => a.elim .inl fun b => .inr ⟨h, b⟩, fun a => a.elim .inl fun b => .inr b.2⟩
    · rw [if_neg h]
      exact ⟨.inl, fun a => a.elim id fun b => absurd b.1 h⟩)]
  simp
theorem toN_zero (q : TQea) (M s : Nat) : toN q M s = 0 ↔ ∀ t ∈ q.trans, ¬ (t.from_ = (s : Int) ∧ M.testBit t.symbol.toNat = true) := by
  constructor
  · intro h t ht hh
    have := (toN_bit q M s t.to.toNat).2 ⟨t, ht, hh, rfl⟩
    rw [h] at this; simp at this
  · intro h
    apply Nat.eq_of_testBit_eq
    intro i
    rw [Nat.zero_testBit]
    cases hb : (toN q M s).testBit i with
    | false => rfl
    | true =>
      obtain ⟨t, ht, hh, _⟩ := (toN_bit q M s i).1 hb
      exact absurd hh (h t ht)
theorem nextN_bit (q : TQea) (S M k : Nat) : (nextN q S M).testBit k = true ↔ ∃ s, s < q.states.length ∧ S.testBit s = true ∧ (finN q M s).testBit k = true := by
  unfold nextN
  rw [fold_or_bit (nextF q S M) (fun s k => S.testBit s = true ∧ (finN q M s).testBit k = true) (fun w s k => by
    unfold nextF
    by_cases h : S.testBit s = true
    · rw [if_pos h, Nat.testBit_or, Bool.or_eq_true]
      exact ⟨fun a => a.elim .inl fun b => .inr ⟨h, b⟩, fun a => a.elim .inl fun b => .inr b.2⟩
    · rw [if_neg h]
      exact ⟨.inl, fun a => a.elim id fun b => absurd b.1 h⟩)]
  simp only [List.mem_range, Nat.zero_testBit, Bool.false_eq_true, false_or]
set_option linter.unusedVariables false
noncomputable def joint_own_l1_k (s1 : Int) (s9 : List TSymbol) (s10 : Int) (s5 : Int) (s11 : Int) : Option (Int) := itE (fun s : Int × Int => joint_own_l1_s s1 s9 s10 s.1 s.2) 70 (s5, s11)
theorem joint_own_l1_le (s1 : Int) (s9 : List TSymbol) (s10 : Int) (s5 : Int) (s11 : Int) : Le (joint_own_l1_k s1 s9 s10 s5 s11) (joint_own_l1 s1 s9 s10 s5 s11) := by
  unfold joint_own_l1_k joint_own_l1
  repeat' (first | refine loop_le (fun _ => ?_) _ _ | exact Le.refl _)
noncomputable def joint_own_k (a0 : TQea) (a1 : Int) : Option (Int) :=
  bndE (joint_own_l1_k a1 a0.symbols (a0.symbols.length : Int) 0 0) fun o4 =>
  some o4
theorem joint_own_le (a0 : TQea) (a1 : Int) : Le (joint_own_k a0 a1) (joint_own a0 a1) := by
  unfold joint_own_k joint_own
  repeat' (first | exact joint_own_l1_le _ _ _ _ _ | refine bndE_le ?_ fun _ => ?_ | exact Le.refl _)
noncomputable def slices_BinarySearchFunc_Value_Value_Value_l1_k (s0 : List TValue) (s2 : List TValue) (s8 : Int) (w4 : TValue) (s9 : Int) (s10 : Int) : Option (Int) := itE (fun s : Int × Int => slices_BinarySearchFunc_Value_Value_Value_l1_s s0 s2 s8 w4 s.1 s.2) 70 (s9, s10)
theorem slices_BinarySearchFunc_Value_Value_Value_l1_le (s0 : List TValue) (s2 : List TValue) (s8 : Int) (w4 : TValue) (s9 : Int) (s10 : Int) : Le (slices_BinarySearchFunc_Value_Value_Value_l1_k s0 s2 s8 w4 s9 s10) (slices_BinarySearchFunc_Value_Value_Value_l1 s0 s2 s8 w4 s9 s10) := by
  unfold slices_BinarySearchFunc_Value_Value_Value_l1_k slices_BinarySearchFunc_Value_Value_Value_l1
  repeat' (first | refine loop_le (fun _ => ?_) _ _ | exact Le.refl _)
noncomputable def slices_BinarySearchFunc_Value_Value_Value_k (a0 : List TValue) (a1 : TValue) (a2 : List TValue) : Option (Int × Bool) :=
  bndE (slices_BinarySearchFunc_Value_Value_Value_l1_k a0 a2 (a0.length : Int) a1 0 (a0.length : Int)) fun o5 =>
  iteE (decide (o5 < (a0.length : Int))) (
   idxE a0 o5 fun x6 =>
   bndE (domain_Set_Value_Put_1 x6 a1 a2) fun r7 =>
   some (o5, decide (r7 = 0))) (
   some (o5, false))
theorem slices_BinarySearchFunc_Value_Value_Value_le (a0 : List TValue) (a1 : TValue) (a2 : List TValue) : Le (slices_BinarySearchFunc_Value_Value_Value_k a0 a1 a2) (slices_BinarySearchFunc_Value_Value_Value a0 a1 a2) := by
  unfold slices_BinarySearchFunc_Value_Value_Value_k slices_BinarySearchFunc_Value_Value_Value
  repeat' (first | exact slices_BinarySearchFunc_Value_Value_Value_l1_le _ _ _ _ _ _ | refine bndE_le ?_ fun _ => ?_ | refine iteE_le ?_ ?_ | refine idxE_le fun _ => ?_ | exact Le.refl _)
noncomputable def domain_Set_Value_Put_v2_k (a1 : TValue) : Option (Bool × List TValue) :=
  bndE (slices_BinarySearchFunc_Value_Value_Value_k ([] : List TValue) a1 ([] : List TValue)) fun r1 =>
  bndE (domain_Set_Value_Put_v2_b1 r1.1 r1.2 (!r1.2) a1) fun o3 =>
  some (!r1.2, o3)
theorem domain_Set_Value_Put_v2_le (a1 : TValue) : Le (domain_Set_Value_Put_v2_k a1) (domain_Set_Value_Put_v2 a1) := by
  unfold domain_Set_Value_Put_v2_k domain_Set_Value_Put_v2
  repeat' (first | exact slices_BinarySearchFunc_Value_Value_Value_le _ _ _ | refine bndE_le ?_ fun _ => ?_ | exact Le.refl _)
noncomputable def domain_Set_Value_Put_v3_k (a1 : TValue) (w1 : List TValue) : Option (Bool × List TValue) :=
  bndE (slices_BinarySearchFunc_Value_Value_Value_k w1 a1 w1) fun r1 =>
  bndE (domain_Set_Value_Put_v3_b1 r1.1 r1.2 (!r1.2) a1 w1) fun o3 =>
  some (!r1.2, o3)
theorem domain_Set_Value_Put_v3_le (a1 : TValue) (w1 : List TValue) : Le (domain_Set_Value_Put_v3_k a1 w1) (domain_Set_Value_Put_v3 a1 w1) := by
  unfold domain_Set_Value_Put_v3_k domain_Set_Value_Put_v3
  repeat' (first | exact slices_BinarySearchFunc_Value_Value_Value_le _ _ _ | refine bndE_le ?_ fun _ => ?_ | exact Le.refl _)
noncomputable def joint_Consts_b1_k (s1 : Int) (s12 : Bool) (w2 : TQea) : Option ((List TValue)) :=
  iteE (s12) (
   bndE (value_Bool false) fun r2 =>
   bndE (domain_Set_Value_Put_v2_k r2) fun r3 =>
   bndE (value_Bool true) fun r4 =>
   bndE (domain_Set_Value_Put_v3_k r4 r3.2) fun r5 =>
   some r5.2) (
   some ([] : List TValue))
theorem joint_Consts_b1_le (s1 : Int) (s12 : Bool) (w2 : TQea) : Le (joint_Consts_b1_k s1 s12 w2) (joint_Consts_b1 s1 s12 w2) := by
  unfold joint_Consts_b1_k joint_Consts_b1
  repeat' (first | exact domain_Set_Value_Put_v2_le _ | exact domain_Set_Value_Put_v3_le _ _ | refine bndE_le ?_ fun _ => ?_ | refine iteE_le ?_ ?_ | exact Le.refl _)
noncomputable def joint_Consts_b5_k (s1 : Int) (s20 : List TSymbol) (s21 : Int) (s22 : Int) (s27 : List TArg) (s28 : Int) (s29 : Int) (s42 : Bool) (w9 : TArg) (w518 : List TValue) : Option ((List TValue)) :=
  iteE (s42) (
   bndE (domain_Set_Value_Put_v3_k w9.value w518) fun r9 =>
   some r9.2) (
   some w518)
theorem joint_Consts_b5_le (s1 : Int) (s20 : List TSymbol) (s21 : Int) (s22 : Int) (s27 : List TArg) (s28 : Int) (s29 : Int) (s42 : Bool) (w9 : TArg) (w518 : List TValue) : Le (joint_Consts_b5_k s1 s20 s21 s22 s27 s28 s29 s42 w9 w518) (joint_Consts_b5 s1 s20 s21 s22 s27 s28 s29 s42 w9 w518) := by
  unfold joint_Consts_b5_k joint_Consts_b5
  repeat' (first | exact domain_Set_Value_Put_v3_le _ _ | refine bndE_le ?_ fun _ => ?_ | refine iteE_le ?_ ?_ | exact Le.refl _)
noncomputable def joint_Consts_b4_k (s1 : Int) (s20 : List TSymbol) (s21 : Int) (s22 : Int) (s27 : List TArg) (s28 : Int) (s29 : Int) (w518 : List TValue) : Option ((List TValue)) :=
  idxE s27 s29 fun x8 =>
  iteE (decide (x8.kind = 1)) (
   bndE (joint_Consts_b5_k s1 s20 s21 s22 s27 s28 s29 (decide (x8.value.kind = s1)) x8 w518) fun o10 =>
   some o10) (
   bndE (joint_Consts_b5_k s1 s20 s21 s22 s27 s28 s29 false x8 w518) fun o11 =>
   some o11)
theorem joint_Consts_b4_le (s1 : Int) (s20 : List TSymbol) (s21 : Int) (s22 : Int) (s27 : List TArg) (s28 : Int) (s29 : Int) (w518 : List TValue) : Le (joint_Consts_b4_k s1 s20 s21 s22 s27 s28 s29 w518) (joint_Consts_b4 s1 s20 s21 s22 s27 s28 s29 w518) := by
  unfold joint_Consts_b4_k joint_Consts_b4
  repeat' (first | exact joint_Consts_b5_le _ _ _ _ _ _ _ _ _ _ | refine bndE_le ?_ fun _ => ?_ | refine iteE_le ?_ ?_ | refine idxE_le fun _ => ?_ | exact Le.refl _)
noncomputable def joint_Consts_l3_s_k (s1 : Int) (s20 : List TSymbol) (s21 : Int) (s22 : Int) (s27 : List TArg) (s28 : Int) (s29 : Int) (w518 : List TValue) : Option ((Int × List TValue) ⊕ ((List TValue))) :=
  iteE (decide (s29 < s28)) (
   bndE (joint_Consts_b4_k s1 s20 s21 s22 s27 s28 s29 w518) fun o12 =>
   some (.inl ((intVal .add .i64 s29 1), o12))) (
   some (.inr w518))
theorem joint_Consts_l3_s_le (s1 : Int) (s20 : List TSymbol) (s21 : Int) (s22 : Int) (s27 : List TArg) (s28 : Int) (s29 : Int) (w518 : List TValue) : Le (joint_Consts_l3_s_k s1 s20 s21 s22 s27 s28 s29 w518) (joint_Consts_l3_s s1 s20 s21 s22 s27 s28 s29 w518) := by
  unfold joint_Consts_l3_s_k joint_Consts_l3_s
  repeat' (first | exact joint_Consts_b4_le _ _ _ _ _ _ _ _ | refine bndE_le ?_ fun _ => ?_ | refine iteE_le ?_ ?_ | exact Le.refl _)
noncomputable def joint_Consts_l3_k (s1 : Int) (s20 : List TSymbol) (s21 : Int) (s22 : Int) (s27 : List TArg) (s28 : Int) (s29 : Int) (w518 : List TValue) : Option ((List TValue)) := itE (fun s : Int × List TValue => joint_Consts_l3_s_k s1 s20 s21 s22 s27 s28 s.1 s.2) 70 (s29, w518)
theorem joint_Consts_l3_le (s1 : Int) (s20 : List TSymbol) (s21 : Int) (s22 : Int) (s27 : List TArg) (s28 : Int) (s29 : Int) (w518 : List TValue) : Le (joint_Consts_l3_k s1 s20 s21 s22 s27 s28 s29 w518) (joint_Consts_l3 s1 s20 s21 s22 s27 s28 s29 w518) := by
  unfold joint_Consts_l3_k joint_Consts_l3
  repeat' (first | exact joint_Consts_l3_s_le _ _ _ _ _ _ _ _ | refine loop_le (fun _ => ?_) _ _ | exact Le.refl _)
noncomputable def joint_Consts_l2_s_k (s1 : Int) (s20 : List TSymbol) (s21 : Int) (s22 : Int) (w518 : List TValue) : Option ((Int × List TValue) ⊕ ((List TValue))) :=
  iteE (decide (s22 < s21)) (
   idxE s20 s22 fun x7 =>
   bndE (joint_Consts_l3_k s1 s20 s21 s22 x7.args (x7.args.length : Int) 0 w518) fun o13 =>
   some (.inl ((intVal .add .i64 s22 1), o13))) (
   some (.inr w518))
theorem joint_Consts_l2_s_le (s1 : Int) (s20 : List TSymbol) (s21 : Int) (s22 : Int) (w518 : List TValue) : Le (joint_Consts_l2_s_k s1 s20 s21 s22 w518) (joint_Consts_l2_s s1 s20 s21 s22 w518) := by
  unfold joint_Consts_l2_s_k joint_Consts_l2_s
  repeat' (first | exact joint_Consts_l3_le _ _ _ _ _ _ _ _ | refine bndE_le ?_ fun _ => ?_ | refine iteE_le ?_ ?_ | refine idxE_le fun _ => ?_ | exact Le.refl _)
noncomputable def joint_Consts_l2_k (s1 : Int) (s20 : List TSymbol) (s21 : Int) (s22 : Int) (w518 : List TValue) : Option ((List TValue)) := itE (fun s : Int × List TValue => joint_Consts_l2_s_k s1 s20 s21 s.1 s.2) 70 (s22, w518)
theorem joint_Consts_l2_le (s1 : Int) (s20 : List TSymbol) (s21 : Int) (s22 : Int) (w518 : List TValue) : Le (joint_Consts_l2_k s1 s20 s21 s22 w518) (joint_Consts_l2 s1 s20 s21 s22 w518) := by
  unfold joint_Consts_l2_k joint_Consts_l2
  repeat' (first | exact joint_Consts_l2_s_le _ _ _ _ _ | refine loop_le (fun _ => ?_) _ _ | exact Le.refl _)
noncomputable def joint_Consts_k (a0 : TQea) (a1 : Int) : Option (List TValue) :=
  bndE (domain_NewSet_Value_v2) fun r1 =>
  bndE (joint_Consts_b1_k a1 (decide (a1 = 3)) a0) fun o6 =>
  bndE (joint_Consts_l2_k a1 a0.symbols (a0.symbols.length : Int) 0 o6) fun o14 =>
  bndE (domain_Set_Value_All o14) fun r15 =>
  some r15.1
theorem joint_Consts_le (a0 : TQea) (a1 : Int) : Le (joint_Consts_k a0 a1) (joint_Consts a0 a1) := by
  unfold joint_Consts_k joint_Consts
  repeat' (first | exact joint_Consts_b1_le _ _ _ | exact joint_Consts_l2_le _ _ _ _ _ | refine bndE_le ?_ fun _ => ?_ | exact Le.refl _)
noncomputable def slices_Index_Value_Value_l1_k (s0 : List TValue) (s7 : Int) (w3 : TValue) (s8 : Int) : Option (Unit ⊕ Int) := itE (fun s : Int => slices_Index_Value_Value_l1_s s0 s7 w3 s) 70 s8
theorem slices_Index_Value_Value_l1_le (s0 : List TValue) (s7 : Int) (w3 : TValue) (s8 : Int) : Le (slices_Index_Value_Value_l1_k s0 s7 w3 s8) (slices_Index_Value_Value_l1 s0 s7 w3 s8) := by
  unfold slices_Index_Value_Value_l1_k slices_Index_Value_Value_l1
  repeat' (first | refine loop_le (fun _ => ?_) _ _ | exact Le.refl _)
noncomputable def slices_Index_Value_Value_k (a0 : List TValue) (a1 : TValue) : Option (Int) :=
  bndE (slices_Index_Value_Value_l1_k a0 (a0.length : Int) a1 0) fun o2 =>
  sumE o2 (fun o3 =>
   some (-1)) (fun o4 =>
   some o4)
theorem slices_Index_Value_Value_le (a0 : List TValue) (a1 : TValue) : Le (slices_Index_Value_Value_k a0 a1) (slices_Index_Value_Value a0 a1) := by
  unfold slices_Index_Value_Value_k slices_Index_Value_Value
  repeat' (first | exact slices_Index_Value_Value_l1_le _ _ _ _ | refine bndE_le ?_ fun _ => ?_ | refine sumE_le (fun _ => ?_) fun _ => ?_ | exact Le.refl _)
noncomputable def slices_Contains_Value_Value_k (a0 : List TValue) (a1 : TValue) : Option (Bool) :=
  bndE (slices_Index_Value_Value_k a0 a1) fun r1 =>
  some (decide (0 ≤ r1))
theorem slices_Contains_Value_Value_le (a0 : List TValue) (a1 : TValue) : Le (slices_Contains_Value_Value_k a0 a1) (slices_Contains_Value_Value a0 a1) := by
  unfold slices_Contains_Value_Value_k slices_Contains_Value_Value
  repeat' (first | exact slices_Index_Value_Value_le _ _ | refine bndE_le ?_ fun _ => ?_ | exact Le.refl _)
noncomputable def slices_Concat_Value_Value_l1_k (s0 : List (List TValue)) (s9 : List (List TValue)) (s10 : Int) (s3 : Int) (s11 : Int) : Option (Int) := itE (fun s : Int × Int => slices_Concat_Value_Value_l1_s s0 s9 s10 s.1 s.2) 70 (s3, s11)
theorem slices_Concat_Value_Value_l1_le (s0 : List (List TValue)) (s9 : List (List TValue)) (s10 : Int) (s3 : Int) (s11 : Int) : Le (slices_Concat_Value_Value_l1_k s0 s9 s10 s3 s11) (slices_Concat_Value_Value_l1 s0 s9 s10 s3 s11) := by
  unfold slices_Concat_Value_Value_l1_k slices_Concat_Value_Value_l1
  repeat' (first | refine loop_le (fun _ => ?_) _ _ | exact Le.refl _)
noncomputable def slices_Concat_Value_Value_l4_k (s25 : List (List TValue)) (s26 : Int) (s27 : Int) (w6 : List TValue) : Option ((List TValue)) := itE (fun s : Int × List TValue => slices_Concat_Value_Value_l4_s s25 s26 s.1 s.2) 70 (s27, w6)
theorem slices_Concat_Value_Value_l4_le (s25 : List (List TValue)) (s26 : Int) (s27 : Int) (w6 : List TValue) : Le (slices_Concat_Value_Value_l4_k s25 s26 s27 w6) (slices_Concat_Value_Value_l4 s25 s26 s27 w6) := by
  unfold slices_Concat_Value_Value_l4_k slices_Concat_Value_Value_l4
  repeat' (first | refine loop_le (fun _ => ?_) _ _ | exact Le.refl _)
noncomputable def slices_Concat_Value_Value_k (a0 : List (List TValue)) : Option (List TValue) :=
  bndE (slices_Concat_Value_Value_l1_k a0 a0 (a0.length : Int) 0 0) fun o4 =>
  bndE (slices_Grow_Value_Value o4) fun r5 =>
  bndE (slices_Concat_Value_Value_l4_k a0 (a0.length : Int) 0 r5) fun o7 =>
  some o7
theorem slices_Concat_Value_Value_le (a0 : List (List TValue)) : Le (slices_Concat_Value_Value_k a0) (slices_Concat_Value_Value a0) := by
  unfold slices_Concat_Value_Value_k slices_Concat_Value_Value
  repeat' (first | exact slices_Concat_Value_Value_l1_le _ _ _ _ _ | exact slices_Concat_Value_Value_l4_le _ _ _ _ | refine bndE_le ?_ fun _ => ?_ | exact Le.refl _)
noncomputable def joint_New_l1_s_k (s0 : Int) (s1 : List TValue) (w4 : TValue) (w6 : TValue) : Option ((TValue) ⊕ (TValue)) :=
  bndE (slices_Contains_Value_Value_k s1 w6) fun r1 =>
  iteE (r1) (
   bndE (joint_New_b2 s0 s1 w4 w6) fun o3 =>
   some (.inl o3)) (
   some (.inr w6))
theorem joint_New_l1_s_le (s0 : Int) (s1 : List TValue) (w4 : TValue) (w6 : TValue) : Le (joint_New_l1_s_k s0 s1 w4 w6) (joint_New_l1_s s0 s1 w4 w6) := by
  unfold joint_New_l1_s_k joint_New_l1_s
  repeat' (first | exact slices_Contains_Value_Value_le _ _ | refine bndE_le ?_ fun _ => ?_ | refine iteE_le ?_ ?_ | exact Le.refl _)
noncomputable def joint_New_l1_k (s0 : Int) (s1 : List TValue) (w4 : TValue) (w6 : TValue) : Option (TValue) := itE (fun s : TValue => joint_New_l1_s_k s0 s1 w4 s) 70 w6
theorem joint_New_l1_le (s0 : Int) (s1 : List TValue) (w4 : TValue) (w6 : TValue) : Le (joint_New_l1_k s0 s1 w4 w6) (joint_New_l1 s0 s1 w4 w6) := by
  unfold joint_New_l1_k joint_New_l1
  repeat' (first | exact joint_New_l1_s_le _ _ _ _ | refine loop_le (fun _ => ?_) _ _ | exact Le.refl _)
noncomputable def joint_New_k (a0 : Int) (a1 : List TValue) : Option (TValue × Bool) :=
  iteE (!decide (a0 = 1)) (
   iteE (!decide (a0 = 2)) (
    some (TValue.mk 0 0 ([] : List UInt8) false, false)) (
    bndE (joint_New_l1_k a0 a1 (TValue.mk 0 0 ([] : List UInt8) false) (TValue.mk a0 0 ([] : List UInt8) false)) fun o4 =>
    some (o4, true))) (
   bndE (joint_New_l1_k a0 a1 (TValue.mk 0 0 ([] : List UInt8) false) (TValue.mk a0 0 ([] : List UInt8) false)) fun o5 =>
   some (o5, true))
theorem joint_New_le (a0 : Int) (a1 : List TValue) : Le (joint_New_k a0 a1) (joint_New a0 a1) := by
  unfold joint_New_k joint_New
  repeat' (first | exact joint_New_l1_le _ _ _ _ | refine bndE_le ?_ fun _ => ?_ | refine iteE_le ?_ ?_ | exact Le.refl _)
noncomputable def joint_place_values_b2_k (s1 : List TValue) (s5 : Int) (s28 : List TSlot) (s29 : Int) (s30 : Int) (w6 : List TValue) : Option ((List TValue)) :=
  idxE s28 s30 fun x4 =>
  iteE (decide (x4.value.kind = s5)) (
   bndE (slices_Contains_Value_Value_k w6 x4.value) fun r5 =>
   bndE (joint_place_values_b3 s1 s5 s28 s29 s30 (!r5) w6 x4) fun o6 =>
   some o6) (
   bndE (joint_place_values_b3 s1 s5 s28 s29 s30 false w6 x4) fun o7 =>
   some o7)
theorem joint_place_values_b2_le (s1 : List TValue) (s5 : Int) (s28 : List TSlot) (s29 : Int) (s30 : Int) (w6 : List TValue) : Le (joint_place_values_b2_k s1 s5 s28 s29 s30 w6) (joint_place_values_b2 s1 s5 s28 s29 s30 w6) := by
  unfold joint_place_values_b2_k joint_place_values_b2
  repeat' (first | exact slices_Contains_Value_Value_le _ _ | refine bndE_le ?_ fun _ => ?_ | refine iteE_le ?_ ?_ | refine idxE_le fun _ => ?_ | exact Le.refl _)
noncomputable def joint_place_values_l1_s_k (s1 : List TValue) (s5 : Int) (s28 : List TSlot) (s29 : Int) (s30 : Int) (w6 : List TValue) : Option ((Int × List TValue) ⊕ ((List TValue))) :=
  iteE (decide (s30 < s29)) (
   bndE (joint_place_values_b2_k s1 s5 s28 s29 s30 w6) fun o8 =>
   some (.inl ((intVal .add .i64 s30 1), o8))) (
   some (.inr w6))
theorem joint_place_values_l1_s_le (s1 : List TValue) (s5 : Int) (s28 : List TSlot) (s29 : Int) (s30 : Int) (w6 : List TValue) : Le (joint_place_values_l1_s_k s1 s5 s28 s29 s30 w6) (joint_place_values_l1_s s1 s5 s28 s29 s30 w6) := by
  unfold joint_place_values_l1_s_k joint_place_values_l1_s
  repeat' (first | exact joint_place_values_b2_le _ _ _ _ _ _ | refine bndE_le ?_ fun _ => ?_ | refine iteE_le ?_ ?_ | exact Le.refl _)
noncomputable def joint_place_values_l1_k (s1 : List TValue) (s5 : Int) (s28 : List TSlot) (s29 : Int) (s30 : Int) (w6 : List TValue) : Option ((List TValue)) := itE (fun s : Int × List TValue => joint_place_values_l1_s_k s1 s5 s28 s29 s.1 s.2) 70 (s30, w6)
theorem joint_place_values_l1_le (s1 : List TValue) (s5 : Int) (s28 : List TSlot) (s29 : Int) (s30 : Int) (w6 : List TValue) : Le (joint_place_values_l1_k s1 s5 s28 s29 s30 w6) (joint_place_values_l1 s1 s5 s28 s29 s30 w6) := by
  unfold joint_place_values_l1_k joint_place_values_l1
  repeat' (first | exact joint_place_values_l1_s_le _ _ _ _ _ _ | refine loop_le (fun _ => ?_) _ _ | exact Le.refl _)
noncomputable def joint_place_values_k (a0 : Tjoint_place) (a1 : List TValue) : Option (List TValue) :=
  idxE a0.q.decls a0.d_ fun x1 =>
  idxE x1.types a0.at_ fun x2 =>
  bndE (joint_Consts_k a0.q x2) fun r3 =>
  bndE (joint_place_values_l1_k a1 x2 a0.b (a0.b.length : Int) 0 r3) fun o9 =>
  bndE (slices_Concat_Value_Value_k [o9, a1]) fun r10 =>
  bndE (joint_New_k x2 r10) fun r11 =>
  bndE (joint_place_values_b4 r11.2 o9 r11.1) fun o12 =>
  some o12
theorem joint_place_values_le (a0 : Tjoint_place) (a1 : List TValue) : Le (joint_place_values_k a0 a1) (joint_place_values a0 a1) := by
  unfold joint_place_values_k joint_place_values
  repeat' (first | exact joint_Consts_le _ _ | exact joint_place_values_l1_le _ _ _ _ _ _ | exact slices_Concat_Value_Value_le _ | exact joint_New_le _ _ | refine bndE_le ?_ fun _ => ?_ | refine idxE_le fun _ => ?_ | exact Le.refl _)
noncomputable def binding_Get_l1_k (s1 : Int) (s8 : List TSlot) (s9 : Int) (w4 : TValue) (s10 : Int) : Option (Unit ⊕ TValue) := itE (fun s : Int => binding_Get_l1_s s1 s8 s9 w4 s) 70 s10
theorem binding_Get_l1_le (s1 : Int) (s8 : List TSlot) (s9 : Int) (w4 : TValue) (s10 : Int) : Le (binding_Get_l1_k s1 s8 s9 w4 s10) (binding_Get_l1 s1 s8 s9 w4 s10) := by
  unfold binding_Get_l1_k binding_Get_l1
  repeat' (first | refine loop_le (fun _ => ?_) _ _ | exact Le.refl _)
noncomputable def binding_Get_k (a0 : List TSlot) (a1 : Int) : Option (TValue × Bool) :=
  bndE (binding_Get_l1_k a1 a0 (a0.length : Int) (TValue.mk 0 0 ([] : List UInt8) false) 0) fun o2 =>
  sumE o2 (fun o3 =>
   some (TValue.mk 0 0 ([] : List UInt8) false, false)) (fun o4 =>
   some (o4, true))
theorem binding_Get_le (a0 : List TSlot) (a1 : Int) : Le (binding_Get_k a0 a1) (binding_Get a0 a1) := by
  unfold binding_Get_k binding_Get
  repeat' (first | exact binding_Get_l1_le _ _ _ _ _ | refine bndE_le ?_ fun _ => ?_ | refine sumE_le (fun _ => ?_) fun _ => ?_ | exact Le.refl _)
noncomputable def joint_place_fits_k (a0 : Tjoint_place) (a1 : TArg) (a2 : TValue) : Option (Bool) :=
  iteE (decide (a1.kind = 1)) (
   some (TValue.eqb a1.value a2)) (
   iteE (decide (a1.kind = 2)) (
    bndE (binding_Get_k a0.b a1.n) fun r1 =>
    iteE (r1.2) (
     some (TValue.eqb r1.1 a2)) (
     some false)) (
    some true))
theorem joint_place_fits_le (a0 : Tjoint_place) (a1 : TArg) (a2 : TValue) : Le (joint_place_fits_k a0 a1 a2) (joint_place_fits a0 a1 a2) := by
  unfold joint_place_fits_k joint_place_fits
  repeat' (first | exact binding_Get_le _ _ | refine bndE_le ?_ fun _ => ?_ | refine iteE_le ?_ ?_ | exact Le.refl _)
noncomputable def joint_place_with_b2_k (s6 : Int) (s11 : List TSymbol) (s12 : Int) (s13 : Int) (w2 : Tjoint_place) (w3 : TValue) : Option (Int) :=
  idxE s11 s13 fun x1 =>
  iteE (decide (x1.event = w2.d_)) (
   idxE x1.args w2.at_ fun x2 =>
   bndE (joint_place_fits_k w2 x2 w3) fun r3 =>
   bndE (joint_place_with_b3 s6 s13 s11 s12 s13 r3 w2 w3) fun o4 =>
   some o4) (
   bndE (joint_place_with_b3 s6 s13 s11 s12 s13 false w2 w3) fun o5 =>
   some o5)
theorem joint_place_with_b2_le (s6 : Int) (s11 : List TSymbol) (s12 : Int) (s13 : Int) (w2 : Tjoint_place) (w3 : TValue) : Le (joint_place_with_b2_k s6 s11 s12 s13 w2 w3) (joint_place_with_b2 s6 s11 s12 s13 w2 w3) := by
  unfold joint_place_with_b2_k joint_place_with_b2
  repeat' (first | exact joint_place_fits_le _ _ _ | refine bndE_le ?_ fun _ => ?_ | refine iteE_le ?_ ?_ | refine idxE_le fun _ => ?_ | exact Le.refl _)
noncomputable def joint_place_with_l1_s_k (s11 : List TSymbol) (s12 : Int) (w2 : Tjoint_place) (w3 : TValue) (s6 : Int) (s13 : Int) : Option ((Int × Int) ⊕ (Int)) :=
  iteE (decide (s13 < s12)) (
   bndE (joint_place_with_b2_k s6 s11 s12 s13 w2 w3) fun o6 =>
   some (.inl (o6, (intVal .add .i64 s13 1)))) (
   some (.inr s6))
theorem joint_place_with_l1_s_le (s11 : List TSymbol) (s12 : Int) (w2 : Tjoint_place) (w3 : TValue) (s6 : Int) (s13 : Int) : Le (joint_place_with_l1_s_k s11 s12 w2 w3 s6 s13) (joint_place_with_l1_s s11 s12 w2 w3 s6 s13) := by
  unfold joint_place_with_l1_s_k joint_place_with_l1_s
  repeat' (first | exact joint_place_with_b2_le _ _ _ _ _ _ | refine bndE_le ?_ fun _ => ?_ | refine iteE_le ?_ ?_ | exact Le.refl _)
noncomputable def joint_place_with_l1_k (s11 : List TSymbol) (s12 : Int) (w2 : Tjoint_place) (w3 : TValue) (s6 : Int) (s13 : Int) : Option (Int) := itE (fun s : Int × Int => joint_place_with_l1_s_k s11 s12 w2 w3 s.1 s.2) 70 (s6, s13)
theorem joint_place_with_l1_le (s11 : List TSymbol) (s12 : Int) (w2 : Tjoint_place) (w3 : TValue) (s6 : Int) (s13 : Int) : Le (joint_place_with_l1_k s11 s12 w2 w3 s6 s13) (joint_place_with_l1 s11 s12 w2 w3 s6 s13) := by
  unfold joint_place_with_l1_k joint_place_with_l1
  repeat' (first | exact joint_place_with_l1_s_le _ _ _ _ _ _ | refine loop_le (fun _ => ?_) _ _ | exact Le.refl _)
noncomputable def joint_place_with_k (a0 : Tjoint_place) (a1 : TValue) : Option (Int) :=
  bndE (joint_place_with_l1_k a0.q.symbols (a0.q.symbols.length : Int) a0 a1 0 0) fun o7 =>
  some o7
theorem joint_place_with_le (a0 : Tjoint_place) (a1 : TValue) : Le (joint_place_with_k a0 a1) (joint_place_with a0 a1) := by
  unfold joint_place_with_k joint_place_with
  repeat' (first | exact joint_place_with_l1_le _ _ _ _ _ _ | refine bndE_le ?_ fun _ => ?_ | exact Le.refl _)
noncomputable def joint_narrow_m3_k (s8 : Int) (s12 : List TValue) (s13 : Int) (s14 : Int) (w0 : List (Int × Bool)) (w3 : Tjoint_place) (w5 : List (Int × Bool)) : Option ((List (Int × Bool))) := exactC (joint_narrow_m3_c s8 s12 s13 s14 w0 w3) w0 (fun (x : Int × Bool) (s : (List (Int × Bool))) => joint_narrow_m3_s s8 s12 s13 s14 w0 w3 x.1 x.2 s) w5
theorem joint_narrow_m3_le (s8 : Int) (s12 : List TValue) (s13 : Int) (s14 : Int) (w0 : List (Int × Bool)) (w3 : Tjoint_place) (w5 : List (Int × Bool)) : Le (joint_narrow_m3_k s8 s12 s13 s14 w0 w3 w5) (joint_narrow_m3 s8 s12 s13 s14 w0 w3 w5) := by
  unfold joint_narrow_m3_k joint_narrow_m3
  repeat' (first | refine exact_le fun _ _ => ?_ | exact Le.refl _)
noncomputable def joint_narrow_b2_k (s8 : Int) (s12 : List TValue) (s13 : Int) (s14 : Int) (w0 : List (Int × Bool)) (w3 : Tjoint_place) (w5 : List (Int × Bool)) : Option ((List (Int × Bool))) :=
  bndE (joint_narrow_m3_k s8 s12 s13 s14 w0 w3 w5) fun o4 =>
  some o4
theorem joint_narrow_b2_le (s8 : Int) (s12 : List TValue) (s13 : Int) (s14 : Int) (w0 : List (Int × Bool)) (w3 : Tjoint_place) (w5 : List (Int × Bool)) : Le (joint_narrow_b2_k s8 s12 s13 s14 w0 w3 w5) (joint_narrow_b2 s8 s12 s13 s14 w0 w3 w5) := by
  unfold joint_narrow_b2_k joint_narrow_b2
  repeat' (first | exact joint_narrow_m3_le _ _ _ _ _ _ _ | refine bndE_le ?_ fun _ => ?_ | exact Le.refl _)
noncomputable def joint_narrow_l1_s_k (s12 : List TValue) (s13 : Int) (w0 : List (Int × Bool)) (w3 : Tjoint_place) (s14 : Int) (w5 : List (Int × Bool)) : Option ((Int × (List (Int × Bool))) ⊕ ((List (Int × Bool)))) :=
  iteE (decide (s14 < s13)) (
   idxE s12 s14 fun x2 =>
   bndE (joint_place_with_k w3 x2) fun r3 =>
   bndE (joint_narrow_b2_k r3 s12 s13 s14 w0 w3 w5) fun o5 =>
   some (.inl ((intVal .add .i64 s14 1), o5))) (
   some (.inr w5))
theorem joint_narrow_l1_s_le (s12 : List TValue) (s13 : Int) (w0 : List (Int × Bool)) (w3 : Tjoint_place) (s14 : Int) (w5 : List (Int × Bool)) : Le (joint_narrow_l1_s_k s12 s13 w0 w3 s14 w5) (joint_narrow_l1_s s12 s13 w0 w3 s14 w5) := by
  unfold joint_narrow_l1_s_k joint_narrow_l1_s
  repeat' (first | exact joint_place_with_le _ _ | exact joint_narrow_b2_le _ _ _ _ _ _ _ | refine bndE_le ?_ fun _ => ?_ | refine iteE_le ?_ ?_ | refine idxE_le fun _ => ?_ | exact Le.refl _)
noncomputable def joint_narrow_l1_k (s12 : List TValue) (s13 : Int) (w0 : List (Int × Bool)) (w3 : Tjoint_place) (s14 : Int) (w5 : List (Int × Bool)) : Option ((List (Int × Bool))) := itE (fun s : Int × (List (Int × Bool)) => joint_narrow_l1_s_k s12 s13 w0 w3 s.1 s.2) 70 (s14, w5)
theorem joint_narrow_l1_le (s12 : List TValue) (s13 : Int) (w0 : List (Int × Bool)) (w3 : Tjoint_place) (s14 : Int) (w5 : List (Int × Bool)) : Le (joint_narrow_l1_k s12 s13 w0 w3 s14 w5) (joint_narrow_l1 s12 s13 w0 w3 s14 w5) := by
  unfold joint_narrow_l1_k joint_narrow_l1
  repeat' (first | exact joint_narrow_l1_s_le _ _ _ _ _ _ | refine loop_le (fun _ => ?_) _ _ | exact Le.refl _)
noncomputable def joint_narrow_k (a1 : Tjoint_place) (w0 : List (Int × Bool)) : Option ((List (Int × Bool))) :=
  bndE (joint_place_values_k a1 ([] : List TValue)) fun r1 =>
  bndE (joint_narrow_l1_k r1 (r1.length : Int) w0 a1 0 ([] : List (Int × Bool))) fun o6 =>
  some o6
theorem joint_narrow_le (a1 : Tjoint_place) (w0 : List (Int × Bool)) : Le (joint_narrow_k a1 w0) (joint_narrow a1 w0) := by
  unfold joint_narrow_k joint_narrow
  repeat' (first | exact joint_place_values_le _ _ | exact joint_narrow_l1_le _ _ _ _ _ _ | refine bndE_le ?_ fun _ => ?_ | exact Le.refl _)
noncomputable def slices_insertionSortOrdered_uint64_l2_k (s1 : Int) (s2 : Int) (s6 : Int) (s7 : Int) (w0 : List Int) : Option ((List Int)) := itE (fun s : Int × List Int => slices_insertionSortOrdered_uint64_l2_s s1 s2 s6 s.1 s.2) 70 (s7, w0)
theorem slices_insertionSortOrdered_uint64_l2_le (s1 : Int) (s2 : Int) (s6 : Int) (s7 : Int) (w0 : List Int) : Le (slices_insertionSortOrdered_uint64_l2_k s1 s2 s6 s7 w0) (slices_insertionSortOrdered_uint64_l2 s1 s2 s6 s7 w0) := by
  unfold slices_insertionSortOrdered_uint64_l2_k slices_insertionSortOrdered_uint64_l2
  repeat' (first | refine loop_le (fun _ => ?_) _ _ | exact Le.refl _)
noncomputable def slices_insertionSortOrdered_uint64_l1_s_k (s1 : Int) (s2 : Int) (s6 : Int) (w0 : List Int) : Option ((Int × List Int) ⊕ ((List Int))) :=
  iteE (decide (s6 < s2)) (
   bndE (slices_insertionSortOrdered_uint64_l2_k s1 s2 s6 s6 w0) fun o6 =>
   some (.inl ((intVal .add .i64 s6 1), o6))) (
   some (.inr w0))
theorem slices_insertionSortOrdered_uint64_l1_s_le (s1 : Int) (s2 : Int) (s6 : Int) (w0 : List Int) : Le (slices_insertionSortOrdered_uint64_l1_s_k s1 s2 s6 w0) (slices_insertionSortOrdered_uint64_l1_s s1 s2 s6 w0) := by
  unfold slices_insertionSortOrdered_uint64_l1_s_k slices_insertionSortOrdered_uint64_l1_s
  repeat' (first | exact slices_insertionSortOrdered_uint64_l2_le _ _ _ _ _ | refine bndE_le ?_ fun _ => ?_ | refine iteE_le ?_ ?_ | exact Le.refl _)
noncomputable def slices_insertionSortOrdered_uint64_l1_k (s1 : Int) (s2 : Int) (s6 : Int) (w0 : List Int) : Option ((List Int)) := itE (fun s : Int × List Int => slices_insertionSortOrdered_uint64_l1_s_k s1 s2 s.1 s.2) 70 (s6, w0)
theorem slices_insertionSortOrdered_uint64_l1_le (s1 : Int) (s2 : Int) (s6 : Int) (w0 : List Int) : Le (slices_insertionSortOrdered_uint64_l1_k s1 s2 s6 w0) (slices_insertionSortOrdered_uint64_l1 s1 s2 s6 w0) := by
  unfold slices_insertionSortOrdered_uint64_l1_k slices_insertionSortOrdered_uint64_l1
  repeat' (first | exact slices_insertionSortOrdered_uint64_l1_s_le _ _ _ _ | refine loop_le (fun _ => ?_) _ _ | exact Le.refl _)
noncomputable def slices_insertionSortOrdered_uint64_k (a1 : Int) (a2 : Int) (w0 : List Int) : Option (List Int) :=
  bndE (slices_insertionSortOrdered_uint64_l1_k a1 a2 (intVal .add .i64 a1 1) w0) fun o7 =>
  some o7
theorem slices_insertionSortOrdered_uint64_le (a1 : Int) (a2 : Int) (w0 : List Int) : Le (slices_insertionSortOrdered_uint64_k a1 a2 w0) (slices_insertionSortOrdered_uint64 a1 a2 w0) := by
  unfold slices_insertionSortOrdered_uint64_k slices_insertionSortOrdered_uint64
  repeat' (first | exact slices_insertionSortOrdered_uint64_l1_le _ _ _ _ | refine bndE_le ?_ fun _ => ?_ | exact Le.refl _)
noncomputable def slices_pdqsortOrdered_uint64_b2_k (s1 : Int) (s2 : Int) (s3 : Int) (s8 : Bool) (s9 : Bool) (w0 : List Int) : Option ((List Int)) :=
  iteE (decide ((intVal .sub .i64 s2 s1) ≤ 12)) (
   bndE (slices_insertionSortOrdered_uint64_k s1 s2 w0) fun r1 =>
   some r1) (
   iteE (decide (s3 = 0)) (
    none) (
    bndE (slices_pdqsortOrdered_uint64_b3 s1 s2 s3 s8 s9 (intVal .sub .i64 s2 s1) (!s8) w0) fun o2 =>
    none))
theorem slices_pdqsortOrdered_uint64_b2_le (s1 : Int) (s2 : Int) (s3 : Int) (s8 : Bool) (s9 : Bool) (w0 : List Int) : Le (slices_pdqsortOrdered_uint64_b2_k s1 s2 s3 s8 s9 w0) (slices_pdqsortOrdered_uint64_b2 s1 s2 s3 s8 s9 w0) := by
  unfold slices_pdqsortOrdered_uint64_b2_k slices_pdqsortOrdered_uint64_b2
  repeat' (first | exact slices_insertionSortOrdered_uint64_le _ _ _ | refine bndE_le ?_ fun _ => ?_ | refine iteE_le ?_ ?_ | exact Le.refl _)
noncomputable def slices_pdqsortOrdered_uint64_l1_s_k (s1 : Int) (s2 : Int) (s3 : Int) (s8 : Bool) (s9 : Bool) (w0 : List Int) : Option ((Unit) ⊕ ((List Int))) :=
  bndE (slices_pdqsortOrdered_uint64_b2_k s1 s2 s3 s8 s9 w0) fun o3 =>
  some (.inr o3)
theorem slices_pdqsortOrdered_uint64_l1_s_le (s1 : Int) (s2 : Int) (s3 : Int) (s8 : Bool) (s9 : Bool) (w0 : List Int) : Le (slices_pdqsortOrdered_uint64_l1_s_k s1 s2 s3 s8 s9 w0) (slices_pdqsortOrdered_uint64_l1_s s1 s2 s3 s8 s9 w0) := by
  unfold slices_pdqsortOrdered_uint64_l1_s_k slices_pdqsortOrdered_uint64_l1_s
  repeat' (first | exact slices_pdqsortOrdered_uint64_b2_le _ _ _ _ _ _ | refine bndE_le ?_ fun _ => ?_ | exact Le.refl _)
noncomputable def slices_pdqsortOrdered_uint64_l1_k (s1 : Int) (s2 : Int) (s3 : Int) (s8 : Bool) (s9 : Bool) (w0 : List Int) : Option ((List Int)) := itE (fun s : Unit => slices_pdqsortOrdered_uint64_l1_s_k s1 s2 s3 s8 s9 w0) 70 ()
theorem slices_pdqsortOrdered_uint64_l1_le (s1 : Int) (s2 : Int) (s3 : Int) (s8 : Bool) (s9 : Bool) (w0 : List Int) : Le (slices_pdqsortOrdered_uint64_l1_k s1 s2 s3 s8 s9 w0) (slices_pdqsortOrdered_uint64_l1 s1 s2 s3 s8 s9 w0) := by
  unfold slices_pdqsortOrdered_uint64_l1_k slices_pdqsortOrdered_uint64_l1
  repeat' (first | exact slices_pdqsortOrdered_uint64_l1_s_le _ _ _ _ _ _ | refine loop_le (fun _ => ?_) _ _ | exact Le.refl _)
noncomputable def slices_pdqsortOrdered_uint64_k (a1 : Int) (a2 : Int) (a3 : Int) (w0 : List Int) : Option (List Int) :=
  bndE (slices_pdqsortOrdered_uint64_l1_k a1 a2 a3 true true w0) fun o4 =>
  some o4
theorem slices_pdqsortOrdered_uint64_le (a1 : Int) (a2 : Int) (a3 : Int) (w0 : List Int) : Le (slices_pdqsortOrdered_uint64_k a1 a2 a3 w0) (slices_pdqsortOrdered_uint64 a1 a2 a3 w0) := by
  unfold slices_pdqsortOrdered_uint64_k slices_pdqsortOrdered_uint64
  repeat' (first | exact slices_pdqsortOrdered_uint64_l1_le _ _ _ _ _ _ | refine bndE_le ?_ fun _ => ?_ | exact Le.refl _)
noncomputable def slices_Sort_uint64_uint64_k (w0 : List Int) : Option (List Int) :=
  bndE (math_bits_Len (IntKind.wrap .u64 (w0.length : Int))) fun r1 =>
  bndE (slices_pdqsortOrdered_uint64_k 0 (w0.length : Int) r1 w0) fun r2 =>
  some r2
theorem slices_Sort_uint64_uint64_le (w0 : List Int) : Le (slices_Sort_uint64_uint64_k w0) (slices_Sort_uint64_uint64 w0) := by
  unfold slices_Sort_uint64_uint64_k slices_Sort_uint64_uint64
  repeat' (first | exact slices_pdqsortOrdered_uint64_le _ _ _ _ | refine bndE_le ?_ fun _ => ?_ | exact Le.refl _)
noncomputable def slices_Sort_uint64_uint64_v2_k (xs : List Int) : Option (List Int) := bagC slices_Sort_uint64_uint64_k xs
theorem slices_Sort_uint64_uint64_v2_le (xs : List Int) : Le (slices_Sort_uint64_uint64_v2_k xs) (slices_Sort_uint64_uint64_v2 xs) := by
  unfold slices_Sort_uint64_uint64_v2_k slices_Sort_uint64_uint64_v2
  repeat' (first | exact slices_Sort_uint64_uint64_le _ | refine bag_le fun _ => ?_ | exact Le.refl _)
noncomputable def joint_Sets_l2_s_k (s1 : List TSlot) (s6 : Int) (s15 : Int) (s16 : Int) (s30 : Int) (w2 : TQea) (w5 : List (Int × Bool)) (s31 : Int) (w7 : List (Int × Bool)) : Option ((Int × (List (Int × Bool))) ⊕ ((List (Int × Bool)))) :=
  iteE (decide (s31 < s30)) (
   bndE (joint_narrow_k (Tjoint_place.mk w2 s1 s6 s31) w7) fun r3 =>
   some (.inl ((intVal .add .i64 s31 1), r3))) (
   some (.inr w7))
theorem joint_Sets_l2_s_le (s1 : List TSlot) (s6 : Int) (s15 : Int) (s16 : Int) (s30 : Int) (w2 : TQea) (w5 : List (Int × Bool)) (s31 : Int) (w7 : List (Int × Bool)) : Le (joint_Sets_l2_s_k s1 s6 s15 s16 s30 w2 w5 s31 w7) (joint_Sets_l2_s s1 s6 s15 s16 s30 w2 w5 s31 w7) := by
  unfold joint_Sets_l2_s_k joint_Sets_l2_s
  repeat' (first | exact joint_narrow_le _ _ | refine bndE_le ?_ fun _ => ?_ | refine iteE_le ?_ ?_ | exact Le.refl _)
noncomputable def joint_Sets_l2_k (s1 : List TSlot) (s6 : Int) (s15 : Int) (s16 : Int) (s30 : Int) (w2 : TQea) (w5 : List (Int × Bool)) (s31 : Int) (w7 : List (Int × Bool)) : Option ((List (Int × Bool))) := itE (fun s : Int × (List (Int × Bool)) => joint_Sets_l2_s_k s1 s6 s15 s16 s30 w2 w5 s.1 s.2) 70 (s31, w7)
theorem joint_Sets_l2_le (s1 : List TSlot) (s6 : Int) (s15 : Int) (s16 : Int) (s30 : Int) (w2 : TQea) (w5 : List (Int × Bool)) (s31 : Int) (w7 : List (Int × Bool)) : Le (joint_Sets_l2_k s1 s6 s15 s16 s30 w2 w5 s31 w7) (joint_Sets_l2 s1 s6 s15 s16 s30 w2 w5 s31 w7) := by
  unfold joint_Sets_l2_k joint_Sets_l2
  repeat' (first | exact joint_Sets_l2_s_le _ _ _ _ _ _ _ _ _ | refine loop_le (fun _ => ?_) _ _ | exact Le.refl _)
noncomputable def joint_Sets_m4_k (s1 : List TSlot) (s15 : Int) (s16 : Int) (w2 : TQea) (w7 : List (Int × Bool)) (w5 : List (Int × Bool)) : Option ((List (Int × Bool))) := exactC (joint_Sets_m4_c s1 s15 s16 w2 w7) w7 (fun (x : Int × Bool) (s : (List (Int × Bool))) => joint_Sets_m4_s s1 s15 s16 w2 w7 x.1 x.2 s) w5
theorem joint_Sets_m4_le (s1 : List TSlot) (s15 : Int) (s16 : Int) (w2 : TQea) (w7 : List (Int × Bool)) (w5 : List (Int × Bool)) : Le (joint_Sets_m4_k s1 s15 s16 w2 w7 w5) (joint_Sets_m4 s1 s15 s16 w2 w7 w5) := by
  unfold joint_Sets_m4_k joint_Sets_m4
  repeat' (first | refine exact_le fun _ _ => ?_ | exact Le.refl _)
noncomputable def joint_Sets_b3_k (s1 : List TSlot) (s15 : Int) (s16 : Int) (w2 : TQea) (w5 : List (Int × Bool)) (w7 : List (Int × Bool)) : Option ((List (Int × Bool))) :=
  bndE (joint_Sets_m4_k s1 s15 s16 w2 w7 w5) fun o5 =>
  some o5
theorem joint_Sets_b3_le (s1 : List TSlot) (s15 : Int) (s16 : Int) (w2 : TQea) (w5 : List (Int × Bool)) (w7 : List (Int × Bool)) : Le (joint_Sets_b3_k s1 s15 s16 w2 w5 w7) (joint_Sets_b3 s1 s15 s16 w2 w5 w7) := by
  unfold joint_Sets_b3_k joint_Sets_b3
  repeat' (first | exact joint_Sets_m4_le _ _ _ _ _ _ | refine bndE_le ?_ fun _ => ?_ | exact Le.refl _)
noncomputable def joint_Sets_l1_s_k (s1 : List TSlot) (s15 : Int) (w2 : TQea) (s16 : Int) (w5 : List (Int × Bool)) : Option ((Int × (List (Int × Bool))) ⊕ ((List (Int × Bool)))) :=
  iteE (decide (s16 < s15)) (
   bndE (joint_own_k w2 s16) fun r1 =>
   idxE w2.decls s16 fun x2 =>
   bndE (joint_Sets_l2_k s1 s16 s15 s16 (x2.types.length : Int) w2 w5 0 (putS r1 true ([] : List (Int × Bool)))) fun o4 =>
   bndE (joint_Sets_b3_k s1 s15 s16 w2 w5 o4) fun o6 =>
   some (.inl ((intVal .add .i64 s16 1), o6))) (
   some (.inr w5))
theorem joint_Sets_l1_s_le (s1 : List TSlot) (s15 : Int) (w2 : TQea) (s16 : Int) (w5 : List (Int × Bool)) : Le (joint_Sets_l1_s_k s1 s15 w2 s16 w5) (joint_Sets_l1_s s1 s15 w2 s16 w5) := by
  unfold joint_Sets_l1_s_k joint_Sets_l1_s
  repeat' (first | exact joint_own_le _ _ | exact joint_Sets_l2_le _ _ _ _ _ _ _ _ _ | exact joint_Sets_b3_le _ _ _ _ _ _ | refine bndE_le ?_ fun _ => ?_ | refine iteE_le ?_ ?_ | refine idxE_le fun _ => ?_ | exact Le.refl _)
noncomputable def joint_Sets_l1_k (s1 : List TSlot) (s15 : Int) (w2 : TQea) (s16 : Int) (w5 : List (Int × Bool)) : Option ((List (Int × Bool))) := itE (fun s : Int × (List (Int × Bool)) => joint_Sets_l1_s_k s1 s15 w2 s.1 s.2) 70 (s16, w5)
theorem joint_Sets_l1_le (s1 : List TSlot) (s15 : Int) (w2 : TQea) (s16 : Int) (w5 : List (Int × Bool)) : Le (joint_Sets_l1_k s1 s15 w2 s16 w5) (joint_Sets_l1 s1 s15 w2 s16 w5) := by
  unfold joint_Sets_l1_k joint_Sets_l1
  repeat' (first | exact joint_Sets_l1_s_le _ _ _ _ _ | refine loop_le (fun _ => ?_) _ _ | exact Le.refl _)
noncomputable def joint_Sets_m6_k (w5 : List (Int × Bool)) (w10 : List Int) : Option (List Int) := exactC (joint_Sets_m6_c w5) w5 (fun (x : Int × Bool) (s : List Int) => joint_Sets_m6_s w5 x.1 x.2 s) w10
theorem joint_Sets_m6_le (w5 : List (Int × Bool)) (w10 : List Int) : Le (joint_Sets_m6_k w5 w10) (joint_Sets_m6 w5 w10) := by
  unfold joint_Sets_m6_k joint_Sets_m6
  repeat' (first | refine exact_le fun _ _ => ?_ | exact Le.refl _)
noncomputable def joint_Sets_b5_k (w5 : List (Int × Bool)) : Option ((List Int)) :=
  bndE (joint_Sets_m6_k w5 ([] : List Int)) fun o8 =>
  some o8
theorem joint_Sets_b5_le (w5 : List (Int × Bool)) : Le (joint_Sets_b5_k w5) (joint_Sets_b5 w5) := by
  unfold joint_Sets_b5_k joint_Sets_b5
  repeat' (first | exact joint_Sets_m6_le _ _ | refine bndE_le ?_ fun _ => ?_ | exact Le.refl _)
noncomputable def joint_Sets_k (a0 : TQea) (a1 : List TSlot) : Option (List Int) :=
  bndE (joint_Sets_l1_k a1 (a0.decls.length : Int) a0 0 ([] : List (Int × Bool))) fun o7 =>
  bndE (joint_Sets_b5_k (delS 0 o7)) fun o9 =>
  bndE (slices_Sort_uint64_uint64_v2_k o9) fun r10 =>
  some r10
theorem joint_Sets_le (a0 : TQea) (a1 : List TSlot) : Le (joint_Sets_k a0 a1) (joint_Sets a0 a1) := by
  unfold joint_Sets_k joint_Sets
  repeat' (first | exact joint_Sets_l1_le _ _ _ _ _ | exact joint_Sets_b5_le _ | exact slices_Sort_uint64_uint64_v2_le _ | refine bndE_le ?_ fun _ => ?_ | exact Le.refl _)
noncomputable def slices_IndexFunc_Trans_Trans_l1_k (s0 : List TTrans) (s7 : Int) (s8 : Int) : Option (Unit ⊕ Int) := itE (fun s : Int => slices_IndexFunc_Trans_Trans_l1_s s0 s7 s) 70 s8
theorem slices_IndexFunc_Trans_Trans_l1_le (s0 : List TTrans) (s7 : Int) (s8 : Int) : Le (slices_IndexFunc_Trans_Trans_l1_k s0 s7 s8) (slices_IndexFunc_Trans_Trans_l1 s0 s7 s8) := by
  unfold slices_IndexFunc_Trans_Trans_l1_k slices_IndexFunc_Trans_Trans_l1
  repeat' (first | refine loop_le (fun _ => ?_) _ _ | exact Le.refl _)
noncomputable def slices_IndexFunc_Trans_Trans_k (a0 : List TTrans) : Option (Int) :=
  bndE (slices_IndexFunc_Trans_Trans_l1_k a0 (a0.length : Int) 0) fun o3 =>
  sumE o3 (fun o4 =>
   some (-1)) (fun o5 =>
   some o5)
theorem slices_IndexFunc_Trans_Trans_le (a0 : List TTrans) : Le (slices_IndexFunc_Trans_Trans_k a0) (slices_IndexFunc_Trans_Trans a0) := by
  unfold slices_IndexFunc_Trans_Trans_k slices_IndexFunc_Trans_Trans
  repeat' (first | exact slices_IndexFunc_Trans_Trans_l1_le _ _ _ | refine bndE_le ?_ fun _ => ?_ | refine sumE_le (fun _ => ?_) fun _ => ?_ | exact Le.refl _)
noncomputable def slices_ContainsFunc_Trans_Trans_k (a0 : List TTrans) : Option (Bool) :=
  bndE (slices_IndexFunc_Trans_Trans_k a0) fun r1 =>
  some (decide (0 ≤ r1))
theorem slices_ContainsFunc_Trans_Trans_le (a0 : List TTrans) : Le (slices_ContainsFunc_Trans_Trans_k a0) (slices_ContainsFunc_Trans_Trans a0) := by
  unfold slices_ContainsFunc_Trans_Trans_k slices_ContainsFunc_Trans_Trans
  repeat' (first | exact slices_IndexFunc_Trans_Trans_le _ | refine bndE_le ?_ fun _ => ?_ | exact Le.refl _)
noncomputable def core_Plain_k (a0 : TQea) : Option (Bool) :=
  iteE (decide ((a0.frees.length : Int) = 0)) (
   bndE (slices_ContainsFunc_Trans_Trans_k a0.trans) fun r1 =>
   some (!r1)) (
   some false)
theorem core_Plain_le (a0 : TQea) : Le (core_Plain_k a0) (core_Plain a0) := by
  unfold core_Plain_k core_Plain
  repeat' (first | exact slices_ContainsFunc_Trans_Trans_le _ | refine bndE_le ?_ fun _ => ?_ | refine iteE_le ?_ ?_ | exact Le.refl _)
noncomputable def joint_Small_k (a0 : TQea) : Option (Bool) :=
  bndE (core_Plain_k a0) fun r1 =>
  iteE (r1) (
   iteE (decide ((a0.quants.length : Int) ≤ 1)) (
    iteE (decide ((a0.states.length : Int) ≤ 8)) (
     some (decide ((a0.symbols.length : Int) ≤ 8))) (
     some false)) (
    some false)) (
   some false)
theorem joint_Small_le (a0 : TQea) : Le (joint_Small_k a0) (joint_Small a0) := by
  unfold joint_Small_k joint_Small
  repeat' (first | exact core_Plain_le _ | refine bndE_le ?_ fun _ => ?_ | refine iteE_le ?_ ?_ | exact Le.refl _)
noncomputable def law22_awake_k : Option (Bool) :=
  bndE (law22_number 3) fun r1 =>
  bndE (law22_number 3) fun r2 =>
  bndE (joint_Sets_k (TQea.mk ([113] : List UInt8) ([TDecl.mk ([97] : List UInt8) [1]]) ([TQuant.mk false ([120] : List UInt8) 1]) ([] : List TFree) ([TState.mk ([115] : List UInt8) false false]) 0 ([TSymbol.mk 0 ([TArg.mk 2 0 (TValue.mk 0 0 ([] : List UInt8) false)]), TSymbol.mk 0 [TArg.mk 1 0 r1]]) ([] : List TNode) ([] : List TTrans)) [TSlot.mk 0 r2]) fun r3 =>
  bndE (law22_number 4) fun r4 =>
  bndE (joint_Sets_k (TQea.mk ([113] : List UInt8) ([TDecl.mk ([97] : List UInt8) [1]]) ([TQuant.mk false ([120] : List UInt8) 1]) ([] : List TFree) ([TState.mk ([115] : List UInt8) false false]) 0 ([TSymbol.mk 0 ([TArg.mk 2 0 (TValue.mk 0 0 ([] : List UInt8) false)]), TSymbol.mk 0 [TArg.mk 1 0 r1]]) ([] : List TNode) ([] : List TTrans)) [TSlot.mk 0 r4]) fun r5 =>
  bndE (joint_Small_k (TQea.mk ([113] : List UInt8) ([TDecl.mk ([97] : List UInt8) [1]]) ([TQuant.mk false ([120] : List UInt8) 1]) ([] : List TFree) ([TState.mk ([115] : List UInt8) false false]) 0 ([TSymbol.mk 0 ([TArg.mk 2 0 (TValue.mk 0 0 ([] : List UInt8) false)]), TSymbol.mk 0 [TArg.mk 1 0 r1]]) ([] : List TNode) ([] : List TTrans))) fun r6 =>
  iteE (r6) (
   iteE (decide ((r3.length : Int) = 1)) (
    idxE r3 0 fun x7 =>
    iteE (decide (x7 = 3)) (
     iteE (decide ((r5.length : Int) = 2)) (
      idxE r5 0 fun x8 =>
      iteE (decide (x8 = 1)) (
       idxE r5 1 fun x9 =>
       some (decide (x9 = 2))) (
       some false)) (
      some false)) (
     some false)) (
    some false)) (
   some false)
theorem law22_awake_le  : Le (law22_awake_k ) (law22_awake ) := by
  unfold law22_awake_k law22_awake
  repeat' (first | exact joint_Sets_le _ _ | exact joint_Small_le _ | refine bndE_le ?_ fun _ => ?_ | refine iteE_le ?_ ?_ | refine idxE_le fun _ => ?_ | exact Le.refl _)
theorem law22_awake_eq : law22_awake = some true := law22_awake_le _ (by kernel_rfl)
theorem next_bits {q : TQea} (hF : FewP q) (hR : RightQ q) {S M : Nat} {l : List THit} (hl : HitsS q.symbols.length l) (hM : ∀ k : Nat, M.testBit k = true ↔ ∃ h ∈ l, h.symbol = (k : Int)) (k : Nat) :
    (nextN q S M).testBit k = true ↔ ∃ x, AllP q l (confsN q.states.length S) x ∧ x.state = (k : Int) := by
  have hsy := hF.symbols
  have hbit : ∀ t ∈ q.trans, (M.testBit t.symbol.toNat = true ↔ ∃ h ∈ l, h.symbol = t.symbol) := fun t ht => by
    have := (hR.ends t ht).1
    rw [hM, show ((t.symbol.toNat : Nat) : Int) = t.symbol by omega]
  have hstep : ∀ (s : Nat) (y : TConfig), StepP q l (TConfig.mk (s : Int) []) y ↔ ∃ t ∈ q.trans, (t.from_ = (s : Int) ∧ M.testBit t.symbol.toNat = true) ∧ y = TConfig.mk t.to [] := fun s y => by
    unfold StepP
    constructor
    · rintro ⟨t, ht, h1, h2, h3⟩; exact ⟨t, ht, ⟨h1, (hbit t ht).2 h2⟩, h3⟩
    · rintro ⟨t, ht, ⟨h1, h2⟩, h3⟩; exact ⟨t, ht, h1, (hbit t ht).1 h2, h3⟩
  rw [nextN_bit]
  constructor
  · rintro ⟨s, hs, hSs, hb⟩
    obtain ⟨st, hst, _⟩ := get_lt hs
    have hc : TConfig.mk (s : Int) [] ∈ confsN q.states.length S := confs_mem.2 ⟨s, hs, hSs, rfl⟩
    unfold finN at hb
    split at hb
    · rename_i h0
      rw [Nat.testBit_two_pow, decide_eq_true_eq] at hb
      subst hb
      refine ⟨TConfig.mk (s : Int) [], ⟨_, hc, .inr ⟨fun y hy => ?_, ?_, rfl⟩⟩, rfl⟩
      · obtain ⟨t, ht, hh, _⟩ := (hstep s y).1 hy
        exact (toN_zero q M s).1 h0.1 t ht hh
      · have h2 := h0.2
        rw [hst, Option.map_some, Option.some.injEq] at h2
        exact ⟨st, by simpa using hst, h2⟩
    · obtain ⟨t, ht, hh, hk⟩ := (toN_bit q M s k).1 hb
      have := (hR.ends t ht).2.2
      exact ⟨TConfig.mk t.to [], ⟨_, hc, .inl ((hstep s _).2 ⟨t, ht, hh, rfl⟩)⟩, by simp only; omega⟩
  · rintro ⟨x, ⟨c, hc, hO⟩, hk⟩
    obtain ⟨s, hs, hSs, rfl⟩ := confs_mem.1 hc
    obtain ⟨st, hst, _⟩ := get_lt hs
    refine ⟨s, hs, hSs, ?_⟩
    unfold finN
    rcases hO with h | ⟨hno, ⟨st2, hst2, hn⟩, rfl⟩
    · obtain ⟨t, ht, hh, rfl⟩ := (hstep s x).1 h
      rw [if_neg fun h0 => (toN_zero q M s).1 h0.1 t ht hh]
      refine (toN_bit q M s k).2 ⟨t, ht, hh, ?_⟩
      simp only at hk; omega
    · have h0 : toN q M s = 0 := (toN_zero q M s).2 fun t ht hh => hno _ ((hstep s _).2 ⟨t, ht, hh, rfl⟩)
      have hst' : q.states[s]? = some st2 := by simpa using hst2
      rw [if_pos ⟨h0, by rw [hst', Option.map_some, hn]⟩, Nat.testBit_two_pow, decide_eq_true_eq]
      simp only at hk; omega
theorem hits_small {q : TQea} (hF : FewP q) (hR : RightQ q) (hS : SmallP q) (e : TEvent) (b : List TSlot) : HitsS q.symbols.length (((List.range q.symbols.length).filterMap fun i => hitS q i e).filter fun h => underS h.bind b) := by
  have hsy := hF.symbols
  have hmem : ∀ h ∈ (List.range q.symbols.length).filterMap (fun i => hitS q i e), ∃ i, i < q.symbols.length ∧ hitS q i e = some h := fun h hh => by
    obtain ⟨i, hi, hh⟩ := List.mem_filterMap.1 hh
    exact ⟨i, List.mem_range.1 hi, hh⟩
  refine ⟨⟨fun h hh => ?_, ?_, ?_⟩, fun h hh => ?_⟩
  · obtain ⟨i, _, hi⟩ := hmem h (List.mem_filter.1 hh).1
    exact hit_frees hR hS hi
  · refine List.Pairwise.filter _ ?_
    rw [List.pairwise_filterMap]
    refine List.Pairwise.imp ?_ (List.pairwise_lt_range (n := q.symbols.length))
    intro i j hij a ha c hc
    have h1 := (hit_at ha).1
    have h2 := (hit_at hc).1
    omega
  · have h1 := List.length_filter_le (fun h : THit => underS h.bind b) ((List.range q.symbols.length).filterMap fun i => hitS q i e)
    have h2 := List.length_filterMap_le (fun i => hitS q i e) (List.range q.symbols.length)
    rw [List.length_range] at h2
    omega
  · obtain ⟨i, hi, hh⟩ := hmem h (List.mem_filter.1 hh).1
    have := (hit_at hh).1
    omega
theorem law22_JointNext_eq (q : TQea) (b : List TSlot) (S M : Nat) (e : TEvent) (hW : ∀ t ∈ q.trans, TransW t) (hb : b.length ≤ 9223372036854775807) (he : e.args.length ≤ 9223372036854775807) (hS : S < 4294967296) (hM : M < 18446744073709551616) :
    law22_JointNext q b (S : Int) (M : Int) e = some true := by
  obtain ⟨r, hr, hP⟩ := law22_small_ex q b hW hb
  unfold law22_JointNext
  rw [hr, bndE_s, law22_awake_eq]
  cases r with
  | false => rfl
  | true =>
    obtain ⟨hF, hR, hSm, _, hBR, hd3⟩ := hP rfl
    have hd := hF.decls
    have hst := hF.states
    have hsy := hF.symbols
    simp only [Bool.not_true, iteE_f]
    rw [ref08_Right_eq _ _ (by omega) he, bndE_s]
    cases hE : eR q.decls e with
    | false => rfl
    | true =>
      simp only [Bool.not_true, iteE_f]
      rw [joint_Next_eq hF hR hS hM, bndE_s, ref22_Next_eq hF hR hS hM, bndE_s]
      simp only [decide_true, Bool.not_true, iteE_f]
      rw [confs_eq hst b S hS, bndE_s, ref17_All_eq hF hR, bndE_s]
      have hH := hits_small hF hR hSm e b
      have hlen : ((List.range q.symbols.length).filterMap fun i => hitS q i e).length ≤ 1000 := by
        have h2 := List.length_filterMap_le (fun i => hitS q i e) (List.range q.symbols.length)
        rw [List.length_range] at h2
        omega
      have hbl := BR_len hBR
      have hbind : ∀ h ∈ (List.range q.symbols.length).filterMap (fun i => hitS q i e), h.bind.length ≤ 9223372036854775807 := fun h hh => by
        obtain ⟨i, hi, hh2⟩ := List.mem_filterMap.1 hh
        have hmem : h ∈ hitsS q e := by unfold hitsS; rw [hE, if_pos rfl]; exact hh
        have := (hits_ok hF hR hmem).2.2.1
        omega
      rw [ref17_Under_eq hlen hbind (by omega), bndE_s]
      generalize (((List.range q.symbols.length).filterMap fun i => hitS q i e).filter fun h => underS h.bind b) = l at hH ⊢
      rw [iteP]
      split
      · rfl
      have hcv : ∀ c ∈ confsN q.states.length S, CV q.states.length c := fun c hc => by
        obtain ⟨s, hs, _, rfl⟩ := confs_mem.1 hc
        exact ⟨rfl, by simp only; omega, by simp only; omega⟩
      obtain ⟨cs, hcs, hcsv, hcsl, hcsm⟩ := ref18_Of_ex hcv (Nat.le_trans (confs_len _ _) (by omega))
      obtain ⟨w, hw, hwv, hwl, hwm⟩ := ref19_All_ex hF hR hSm hH.toHitsP hcsv hcsl
      obtain ⟨V, hV, hVb⟩ := l6_ex hst (S : Int) l q hwv (by omega)
      obtain ⟨N, hN, hN64, hNb⟩ := Mask_ex hsy hH
      rw [hcs, bndE_s, hw, bndE_s]
      simp only
      rw [hV, bndE_s, hN, bndE_s, joint_Next_eq hF hR hS hN64, bndE_s]
      have hEq : nextN q S N = V := by
        apply Nat.eq_of_testBit_eq
        intro k
        rw [Bool.eq_iff_iff, next_bits hF hR hH hNb k, hVb k]
        have hAll : ∀ x, AllP q l (confsN q.states.length S) x ↔ AllP q l cs x := fun x =>
          ⟨fun ⟨c, hc, h⟩ => ⟨c, (hcsm c).2 hc, h⟩, fun ⟨c, hc, h⟩ => ⟨c, (hcsm c).1 hc, h⟩⟩
        constructor
        · rintro ⟨x, hx, hk⟩; exact ⟨x, (hwm x).2 ((hAll x).1 hx), hk⟩
        · rintro ⟨x, hx, hk⟩; exact ⟨x, (hAll x).2 ((hwm x).1 hx), hk⟩
      rw [hEq]
      simp only [decide_true, iteE_t, bndE_s]
end Go.Ac
