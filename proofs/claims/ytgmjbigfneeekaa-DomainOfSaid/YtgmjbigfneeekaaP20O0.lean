/- Own work: the plain law. -/
import Derived.Test.YtgmjbigfneeekaaSh20c
import Derived.Test.YtgmjbigfneeekaaPL
set_option linter.unusedVariables false
set_option linter.unusedSimpArgs false
namespace Go.Ac
theorem TSlot.eqb_dec (a b : TSlot) : TSlot.eqb a b = decide (a = b) := by rw [Bool.eq_iff_iff, TSlot.eqb_iff]; simp
theorem TValue.eqb_dec (a b : TValue) : TValue.eqb a b = decide (a = b) := by rw [Bool.eq_iff_iff, TValue.eqb_iff]; simp
def zV : TValue := ⟨0, 0, [], false⟩
def getS (l : List TSlot) (v : Int) : TValue × Bool := match l.findSome? (fun s => if s.var = v then some s.value else none) with
  | some x => (x, true)
  | none => (zV, false)
theorem getS_of (l : List TSlot) (v : Int) (o : Unit ⊕ TValue) (h : o = (l.findSome? (fun s => if s.var = v then some (Sum.inr s.value : Unit ⊕ TValue) else none)).getD (.inl ())) :
    sumE o (fun _ => some (TValue.mk 0 0 ([] : List UInt8) false, false)) (fun o4 => some (o4, true)) = some (getS l v) := by
  subst h
  have e : l.findSome? (fun s => if s.var = v then some (Sum.inr s.value : Unit ⊕ TValue) else none) = (l.findSome? (fun s => if s.var = v then some s.value else none)).map Sum.inr := by
    induction l with
    | nil => rfl
    | cons s l ih => rw [List.findSome?_cons, List.findSome?_cons]; by_cases h : s.var = v <;> simp [h, ih]
  rw [e]
  unfold getS
  cases l.findSome? (fun s => if s.var = v then some s.value else none) <;> rfl
theorem ref05_Get_eq (l : List TSlot) (v : Int) (hl : l.length ≤ 9223372036854775807) : ref05_Get l v = some (getS l v) := by
  unfold ref05_Get ref05_Get_l1
  rw [loop_find l (fun _ s => if s.var = v then some (Sum.inr s.value : Unit ⊕ TValue) else none) (.inl ())
    (fun i x hx => by simp only [ref05_Get_l1_s, ltD hx, iteE_t, idxE_n hx, succW hx hl, iteP]; by_cases h : x.var = v <;> simp [h])
    (by simp only [ref05_Get_l1_s, ltI, iteE_f]), runL_findSome, bndE_s]
  exact getS_of l v _ rfl
theorem binding_Get_eq (l : List TSlot) (v : Int) (hl : l.length ≤ 9223372036854775807) : binding_Get l v = some (getS l v) := by
  unfold binding_Get binding_Get_l1
  rw [loop_find l (fun _ s => if s.var = v then some (Sum.inr s.value : Unit ⊕ TValue) else none) (.inl ())
    (fun i x hx => by simp only [binding_Get_l1_s, ltD hx, iteE_t, idxE_n hx, succW hx hl, iteP]; by_cases h : x.var = v <;> simp [h])
    (by simp only [binding_Get_l1_s, ltI, iteE_f]), runL_findSome, bndE_s]
  exact getS_of l v _ rfl
theorem ref03_Right_tot (v : TValue) : ∃ b, ref03_Right v = some b := by
  unfold ref03_Right
  simp only [iteE_if]
  repeat' split
  all_goals exact ⟨_, rfl⟩
theorem getS_mem {l : List TSlot} {v : Int} {x : TValue} (h : getS l v = (x, true)) : TSlot.mk v x ∈ l := by
  unfold getS at h
  split at h
  · rename_i y hy
    cases h
    obtain ⟨s, hs, hv⟩ := List.exists_of_findSome?_eq_some hy
    split at hv
    · rename_i e; cases hv; rw [← e]; exact hs
    · cases hv
  · cases h
theorem chkF {β : Type} {a b n : Nat} (h : a + b ≤ 1073741824) (hn : n ≤ 131072) (k : Option β) : chkE (fit a b n) k = k := chkE_p (fit_small h hn) k
structure FewP (q : TQea) : Prop where
  decls : q.decls.length ≤ 12
  quants : q.quants.length ≤ 9
  frees : q.frees.length ≤ 12
  states : q.states.length ≤ 12
  symbols : q.symbols.length ≤ 12
  trans : q.trans.length ≤ 12
  nodes : q.nodes.length ≤ 40
  args : ∀ s ∈ q.symbols, s.args.length ≤ 12
  sets : ∀ t ∈ q.trans, t.sets.length ≤ 12
theorem all_get {α : Type} {l : List α} {R : α → Prop} (h : ∀ j, j < l.length → ∀ x, l[j]? = some x → R x) : ∀ x ∈ l, R x := by
  intro x hx
  obtain ⟨j, hj, rfl⟩ := List.mem_iff_getElem.1 hx
  exact h j hj _ (List.getElem?_eq_getElem hj)
theorem ref13_Few_ex (q : TQea) : ∃ n, ref13_Few q = some n ∧ (n ≠ 0 → FewP q) := by
  unfold ref13_Few
  simp only [iteP]
  iterate 8 (split; · exact ⟨0, rfl, by simp⟩)
  rename_i h1 h2 h3 h4 h5 h6 h7 h8
  have hd : q.decls.length ≤ 9223372036854775807 := by omega
  have hs : q.symbols.length ≤ 9223372036854775807 := by omega
  have hf : q.frees.length ≤ 9223372036854775807 := by omega
  have hn : q.nodes.length ≤ 9223372036854775807 := by omega
  have ht : q.trans.length ≤ 9223372036854775807 := by omega
  obtain ⟨t1, e1, _⟩ := loop_scan0 (step := fun s => ref13_Few_l1_s q s) q.decls.length (fun _ => True) (fun _ => True)
    (fun i hi => by
      obtain ⟨x, hx, _⟩ := get_lt hi
      simp only [ref13_Few_l1_s, ltD hx, iteE_t, idxE_n hx, succW hx hd]
      simp only [iteE_if]
      repeat' split
      all_goals first | exact .inl ⟨rfl, trivial⟩ | exact .inr ⟨_, rfl, trivial⟩)
    (fun _ => ⟨.inl (), by simp only [ref13_Few_l1_s, ltI, iteE_f], trivial⟩)
  obtain ⟨t2, e2, Q2⟩ := loop_scan0 (step := fun s => ref13_Few_l2_s q s) q.symbols.length (fun i => ∀ x, q.symbols[i]? = some x → x.args.length ≤ 12) (fun t => t = .inl () → ∀ s ∈ q.symbols, s.args.length ≤ 12)
    (fun i hi => by
      obtain ⟨x, hx, _⟩ := get_lt hi
      simp only [ref13_Few_l2_s, ltD hx, iteE_t, idxE_n hx, succW hx hs, iteP]
      split
      · exact .inr ⟨_, rfl, by simp⟩
      · rename_i h12
        obtain ⟨t3, e3, _⟩ := loop_scan0 (step := fun s => ref13_Few_l3_s (i : Int) q s) x.args.length (fun _ => True) (fun _ => True)
          (fun j hj => by
            obtain ⟨y, hy, _⟩ := get_lt hj
            simp only [ref13_Few_l3_s, idxE_n hx, ltD hy, iteE_t, idxE_n hy, succW hy (show x.args.length ≤ 9223372036854775807 by omega)]
            simp only [iteE_if]
            split
            · exact .inr ⟨_, rfl, trivial⟩
            · exact .inl ⟨rfl, trivial⟩)
          (fun _ => ⟨.inl (), by simp only [ref13_Few_l3_s, idxE_n hx, ltI, iteE_f], trivial⟩)
        unfold ref13_Few_l3
        rw [e3, bndE_s]
        rcases t3 with _ | _
        · exact .inl ⟨rfl, fun y hy => by rw [hx] at hy; cases hy; omega⟩
        · exact .inr ⟨_, rfl, by simp⟩)
    (fun hP => ⟨.inl (), by simp only [ref13_Few_l2_s, ltI, iteE_f], fun _ => all_get hP⟩)
  obtain ⟨t4, e4, _⟩ := loop_scan0 (step := fun s => ref13_Few_l4_s q s) q.frees.length (fun _ => True) (fun _ => True)
    (fun i hi => by
      obtain ⟨x, hx, _⟩ := get_lt hi
      simp only [ref13_Few_l4_s, ltD hx, iteE_t, idxE_n hx, succW hx hf]
      simp only [iteE_if]
      split
      · exact .inr ⟨_, rfl, trivial⟩
      · exact .inl ⟨rfl, trivial⟩)
    (fun _ => ⟨.inl (), by simp only [ref13_Few_l4_s, ltI, iteE_f], trivial⟩)
  obtain ⟨t5, e5, _⟩ := loop_scan0 (step := fun s => ref13_Few_l5_s q s) q.nodes.length (fun _ => True) (fun _ => True)
    (fun i hi => by
      obtain ⟨x, hx, _⟩ := get_lt hi
      simp only [ref13_Few_l5_s, ltD hx, iteE_t, idxE_n hx, succW hx hn]
      simp only [iteE_if]
      split
      · exact .inr ⟨_, rfl, trivial⟩
      · exact .inl ⟨rfl, trivial⟩)
    (fun _ => ⟨.inl (), by simp only [ref13_Few_l5_s, ltI, iteE_f], trivial⟩)
  obtain ⟨t6, e6, Q6⟩ := loop_scan0 (step := fun s => ref13_Few_l6_s q s) q.trans.length (fun i => ∀ x, q.trans[i]? = some x → x.sets.length ≤ 12) (fun t => t = .inl () → ∀ s ∈ q.trans, s.sets.length ≤ 12)
    (fun i hi => by
      obtain ⟨x, hx, _⟩ := get_lt hi
      simp only [ref13_Few_l6_s, ltD hx, iteE_t, idxE_n hx, succW hx ht, iteP]
      split
      · exact .inr ⟨_, rfl, by simp⟩
      · exact .inl ⟨rfl, fun y hy => by rw [hx] at hy; cases hy; omega⟩)
    (fun hP => ⟨.inl (), by simp only [ref13_Few_l6_s, ltI, iteE_f], fun _ => all_get hP⟩)
  unfold ref13_Few_l1 ref13_Few_l2 ref13_Few_l4 ref13_Few_l5 ref13_Few_l6
  rw [e1, bndE_s, e2, e4, e5, e6]
  simp only [bndE_s]
  rcases t1 with _ | _ <;> rcases t2 with _ | _ <;> rcases t4 with _ | _ <;> rcases t5 with _ | _ <;> rcases t6 with _ | _ <;> simp only [sumE_l, sumE_r] <;>
    first
    | exact ⟨0, rfl, by simp⟩
    | exact ⟨1, rfl, fun _ => ⟨by omega, by omega, by omega, by omega, by omega, by omega, by omega, Q2 rfl, Q6 rfl⟩⟩
theorem ref07_Spelt_tot (s : List UInt8) : ∃ b, ref07_Spelt s = some b := by
  unfold ref07_Spelt
  simp only [iteP]
  split
  · exact ⟨_, rfl⟩
  split
  · exact ⟨_, rfl⟩
  obtain ⟨t1, e1, _⟩ := loop_scan0 (step := fun i => ref07_Spelt_l1_s s i) s.length (fun _ => True) (fun _ => True)
    (fun i hi => by
      obtain ⟨x, hx, _⟩ := get_lt hi
      simp only [ref07_Spelt_l1_s, ltD hx, iteE_t, idxE_n hx, succW hx (show s.length ≤ 9223372036854775807 by omega)]
      simp only [iteE_if]
      repeat' split
      all_goals first | exact .inl ⟨rfl, trivial⟩ | exact .inr ⟨_, rfl, trivial⟩)
    (fun _ => ⟨.inl (), by simp only [ref07_Spelt_l1_s, ltI, iteE_f], trivial⟩)
  unfold ref07_Spelt_l1
  rw [e1, bndE_s]
  rcases t1 with _ | _ <;> exact ⟨_, rfl⟩
theorem ref07_Name_tot (s : List UInt8) : ∃ b, ref07_Name s = some b := by
  unfold ref07_Name ref07_Words
  rw [bndE_s]
  generalize hw : ([([97, 99, 99, 101, 112, 116] : List UInt8), ([97, 108, 115, 111] : List UInt8), ([97, 110, 100] : List UInt8), ([98, 111, 111, 108] : List UInt8), ([100, 111] : List UInt8), ([101, 118, 101, 110, 116] : List UInt8), ([101, 120, 105, 115, 116, 115] : List UInt8), ([102, 97, 108, 115, 101] : List UInt8), ([102, 111, 114, 97, 108, 108] : List UInt8), ([102, 114, 101, 101] : List UInt8), ([105, 102] : List UInt8), ([105, 110, 116] : List UInt8), ([110, 101, 120, 116] : List UInt8), ([110, 111, 116] : List UInt8), ([111, 110] : List UInt8), ([111, 114] : List UInt8), ([113, 101, 97] : List UInt8), ([115, 107, 105, 112] : List UInt8), ([115, 116, 97, 114, 116] : List UInt8), ([115, 116, 114, 105, 110, 103] : List UInt8), ([116, 111] : List UInt8), ([116, 114, 117, 101] : List UInt8)] : List (List UInt8)) = ws
  have hl : ws.length ≤ 9223372036854775807 := by rw [← hw]; simp
  obtain ⟨t1, e1, _⟩ := loop_scan0 (step := fun i => ref07_Name_l1_s s ws i) ws.length (fun _ => True) (fun _ => True)
    (fun i hi => by
      obtain ⟨x, hx, _⟩ := get_lt hi
      simp only [ref07_Name_l1_s, ltD hx, iteE_t, idxE_n hx, succW hx hl]
      simp only [iteE_if]
      split
      · exact .inr ⟨_, rfl, trivial⟩
      · exact .inl ⟨rfl, trivial⟩)
    (fun _ => ⟨.inl (), by simp only [ref07_Name_l1_s, ltI, iteE_f], trivial⟩)
  unfold ref07_Name_l1
  rw [e1, bndE_s]
  rcases t1 with _ | _
  · obtain ⟨b, hb⟩ := ref07_Spelt_tot s
    rw [sumE_l, hb, bndE_s]
    cases b <;> exact ⟨_, rfl⟩
  · exact ⟨_, rfl⟩
def findS (l : List TDecl) (n : List UInt8) : Option Nat := if l.any (fun d => decide (d.name = n)) = true then some (l.findIdx fun d => decide (d.name = n)) else none
theorem ref07_Find_eq (l : List TDecl) (n : List UInt8) (hl : l.length ≤ 9223372036854775807) : ref07_Find l n = some (match findS l n with | some i => (i : Int) | none => -1) := by
  unfold ref07_Find ref07_Find_l1
  rw [loop_index l (fun d => decide (d.name = n))
    (fun i x hx => by
      simp only [ref07_Find_l1_s, ltD hx, iteE_t, idxE_n hx, succW hx hl]
      simp only [iteE_if]
      cases decide (x.name = n) <;> rfl)
    (by simp only [ref07_Find_l1_s, ltI, iteE_f]), bndE_s]
  unfold findS
  cases l.any _ <;> rfl
theorem findS_some {l : List TDecl} {n : List UInt8} {i : Nat} (h : findS l n = some i) : ∃ d, l[i]? = some d ∧ d.name = n := by
  unfold findS at h
  split at h
  · rename_i ha
    cases h
    obtain ⟨d, hd, hn⟩ := List.any_eq_true.1 ha
    have hlt := List.findIdx_lt_length_of_exists (p := fun d => decide (d.name = n)) ⟨d, hd, hn⟩
    exact ⟨_, List.getElem?_eq_getElem hlt, by simpa using List.findIdx_getElem (w := hlt)⟩
  · cases h
theorem findS_le {l : List TDecl} {n : List UInt8} {j : Nat} {d : TDecl} (hj : l[j]? = some d) (hn : d.name = n) : ∃ i, findS l n = some i ∧ i ≤ j := by
  have ha : l.any (fun d => decide (d.name = n)) = true := List.any_eq_true.2 ⟨d, List.mem_of_getElem? hj, by simpa using hn⟩
  refine ⟨l.findIdx fun d => decide (d.name = n), by unfold findS; rw [if_pos ha], ?_⟩
  refine Nat.le_of_not_lt fun hlt => ?_
  have := List.not_of_lt_findIdx hlt
  obtain ⟨h1, rfl⟩ := List.getElem?_eq_some_iff.1 hj
  simp [hn] at this
def DeclsOk (l : List TDecl) : Prop := ∀ j d, l[j]? = some d → findS l d.name = some j
theorem ref07_Check_ex (l : List TDecl) (hl : l.length ≤ 9223372036854775807) : ∃ r, ref07_Check l = some r ∧ (r.1 = 0 → DeclsOk l) := by
  unfold ref07_Check
  rw [iteP]
  split
  · exact ⟨_, rfl, by simp⟩
  obtain ⟨t1, e1, Q1⟩ := loop_scan0 (step := fun i => ref07_Check_l1_s l i) l.length (fun i => ∀ d, l[i]? = some d → findS l d.name = some i) (fun t => match t with | .inl _ => DeclsOk l | .inr r => r.1 ≠ 0)
    (fun i hi => by
      obtain ⟨x, hx, _⟩ := get_lt hi
      obtain ⟨b, hb⟩ := ref07_Name_tot x.name
      simp only [ref07_Check_l1_s, ltD hx, iteE_t, idxE_n hx, succW hx hl, hb, bndE_s, ref07_Find_eq l _ hl]
      cases b with
      | false => exact .inr ⟨_, rfl, by simp⟩
      | true =>
        simp only [Bool.not_true, iteE_f]
        obtain ⟨k, hk, hki⟩ := findS_le hx rfl
        rw [hk]
        dsimp only
        rw [iteP]
        split
        · exact .inr ⟨_, rfl, by simp⟩
        · rename_i hge
          rw [iteP]
          split
          · exact .inr ⟨_, rfl, by simp⟩
          · obtain ⟨t2, e2, _⟩ := loop_scan0 (step := fun s => ref07_Check_l2_s l (i : Int) s) x.types.length (fun _ => True) (fun _ => True)
              (fun j hj => by
                obtain ⟨y, hy, _⟩ := get_lt hj
                simp only [ref07_Check_l2_s, idxE_n hx, ltD hy, iteE_t, idxE_n hy, succW hy (show x.types.length ≤ 9223372036854775807 by omega)]
                simp only [iteE_if]
                repeat' split
                all_goals first | exact .inl ⟨rfl, trivial⟩ | exact .inr ⟨_, rfl, trivial⟩)
              (fun _ => ⟨.inl (), by simp only [ref07_Check_l2_s, idxE_n hx, ltI, iteE_f], trivial⟩)
            unfold ref07_Check_l2
            rw [e2, bndE_s]
            rcases t2 with _ | _
            · refine .inl ⟨rfl, fun d hd => ?_⟩
              rw [hx] at hd; cases hd
              have : k = i := by omega
              rw [hk, this]
            · exact .inr ⟨_, rfl, by simp⟩)
    (fun hP => ⟨.inl (), by simp only [ref07_Check_l1_s, ltI, iteE_f], fun j d hd => hP j (getLt hd) d hd⟩)
  unfold ref07_Check_l1
  rw [e1, bndE_s]
  rcases t1 with _ | r
  · exact ⟨_, rfl, fun _ => Q1⟩
  · exact ⟨_, rfl, fun h => absurd h Q1⟩
theorem ref03_arith_tot (op : Int) : ∃ r, ref03_arith op 0 0 = some r := by
  unfold ref03_arith
  rw [show ref01_Add 0 0 = some (intVal .add .i64 0 0, true) by simp [ref01_Add, iteE], show ref01_Sub 0 0 = some (intVal .sub .i64 0 0, true) by simp [ref01_Sub, iteE], show ref01_Mul 0 0 = some (0, true) by simp [ref01_Mul, iteE], show ref01_Div 0 0 = some (0, 0, 7) by simp [ref01_Div, iteE]]
  simp only [bndE_s, ref03_number, Bool.not_true, iteE_f]
  refine tot_ex ?_
  repeat' first | exact ⟨_, rfl, trivial⟩ | refine ex_if (fun _ => ?_) (fun _ => ?_) | refine ex_ifb (fun _ => ?_) (fun _ => ?_)
theorem ref03_Less_e (a b : Int) : ∃ r, ref03_Less ⟨a, 0, [], false⟩ ⟨b, 0, [], false⟩ = some r := by
  unfold ref03_Less
  have hb : ref03_Below [] [] = some false := by
    unfold ref03_Below ref03_Below_l1
    rw [loopE_eq]
    simp [ref03_Below_l1_s, iteE, nextE, bndE, sumE]
  simp only [hb, bndE_s]
  refine tot_ex ?_
  repeat' first | exact ⟨_, rfl, trivial⟩ | refine ex_if (fun _ => ?_) (fun _ => ?_) | refine ex_ifn (fun _ => ?_) (fun _ => ?_) | refine ex_ifb (fun _ => ?_) (fun _ => ?_)
theorem ref03_Op_e (op a b : Int) : ∃ r, ref03_Op op ⟨a, 0, [], false⟩ ⟨b, 0, [], false⟩ = some r := by
  unfold ref03_Op
  obtain ⟨r1, h1⟩ := ref03_Less_e a b
  obtain ⟨r2, h2⟩ := ref03_Less_e b a
  obtain ⟨r3, h3⟩ := ref03_arith_tot 9
  obtain ⟨r4, h4⟩ := ref03_arith_tot op
  have h4' : ref03_arith op 0 0 = some r4 := h4
  have hc : ∀ {β : Type} (k : Option β), chkE (([] : List UInt8).length + ([] : List UInt8).length ≤ 9223372036854775807) k = k := fun k => chkE_p (by simp) k
  simp only [ref03_truth, bndE_s, h1, h2, h3, h4', hc, iteE_f]
  refine tot_ex ?_
  repeat' first | exact ⟨_, rfl, trivial⟩ | refine ex_if (fun _ => ?_) (fun _ => ?_) | refine ex_ifn (fun _ => ?_) (fun _ => ?_) | refine ex_ifb (fun _ => ?_) (fun _ => ?_)
theorem ref13_Type_ex (op a b : Int) : ∃ r, ref13_Type op a b = some r ∧ (r ≠ 0 → a ≠ 0) := by
  unfold ref13_Type
  obtain ⟨r, hr⟩ := ref03_Op_e op a b
  rw [hr]
  simp only [bndE_s]
  refine ex_if (fun _ => ⟨_, rfl, by simp⟩) (fun h => ?_)
  repeat' first | exact ⟨_, rfl, fun _ => by omega⟩ | refine ex_if (fun _ => ?_) (fun _ => ?_) | refine ex_ifn (fun _ => ?_) (fun _ => ?_)
theorem getI {α : Type} {l : List α} {i : Int} (h0 : 0 ≤ i) (h1 : i < l.length) : ∃ x, l[i.toNat]? = some x ∧ i = (i.toNat : Int) := by
  obtain ⟨x, hx, _⟩ := get_lt (l := l) (i := i.toNat) (by omega)
  exact ⟨x, hx, by omega⟩
theorem idxE_i {α β : Type} {l : List α} {i : Int} {x : α} (h : l[i.toNat]? = some x) (h0 : 0 ≤ i) (k : α → Option β) : idxE l i k = k x := by
  have e : idxE l ((i.toNat : Nat) : Int) k = k x := idxE_n h k
  rwa [show ((i.toNat : Nat) : Int) = i by omega] at e
theorem below_ex (q : TQea) (hq : q.nodes.length ≤ 2048) : ∀ (n : Nat) (i : Int), -9223372036854775000 ≤ i → 0 < n → i + 1 < n → ∃ r, ref13_below_n n q i = some r ∧ (r.1 ≠ 0 → 0 ≤ r.2.2 ∧ r.2.2 ≤ i ∧ i < q.nodes.length) := by
  intro n
  induction n with
  | zero => intro i h0 h; omega
  | succ n ih =>
    intro i h0 _ h
    show ∃ r, ref13_below_F (ref13_below_n n) q i = some r ∧ _
    unfold ref13_below_F
    refine ex_if (fun _ => ⟨_, rfl, by simp⟩) (fun hi0 => ?_)
    refine ex_if (fun _ => ⟨_, rfl, by simp⟩) (fun hi1 => ?_)
    obtain ⟨x, hx, _⟩ := getI (l := q.nodes) (i := i) (by omega) (by omega)
    rw [idxE_i hx (by omega)]
    obtain ⟨b, hb⟩ := ref03_Right_tot x.value
    have e1 : intVal .sub .i64 i 1 = i - 1 := subI (by omega) (by omega)
    rw [e1]
    refine ex_if (fun _ => ?_) (fun _ => ?_)
    · refine ex_ifn (fun _ => ⟨_, rfl, by simp⟩) (fun _ => ?_)
      refine ex_ifn (fun _ => ⟨_, rfl, by simp⟩) (fun _ => ?_)
      refine ex_bnd hb ?_
      exact ex_ifnb (fun _ => ⟨_, rfl, by simp⟩) (fun _ => ⟨_, rfl, fun _ => ⟨by simp only; omega, Int.le_refl _, by omega⟩⟩)
    refine ex_ifnb (fun _ => ⟨_, rfl, by simp⟩) (fun _ => ?_)
    refine ex_if (fun _ => ?_) (fun _ => ?_)
    · refine ex_if (fun _ => ⟨_, rfl, by simp⟩) (fun _ => ?_)
      refine ex_if (fun _ => ⟨_, rfl, by simp⟩) (fun _ => ?_)
      refine ex_ifn (fun _ => ⟨_, rfl, by simp⟩) (fun _ => ?_)
      obtain ⟨y, hy, _⟩ := getI (l := q.quants) (i := x.a) (by omega) (by omega)
      rw [idxE_i hy (by omega)]
      exact ⟨_, rfl, fun _ => ⟨by simp only; omega, Int.le_refl _, by omega⟩⟩
    refine ex_if (fun _ => ?_) (fun _ => ?_)
    · refine ex_if (fun _ => ⟨_, rfl, by simp⟩) (fun _ => ?_)
      refine ex_if (fun _ => ⟨_, rfl, by simp⟩) (fun _ => ?_)
      refine ex_ifn (fun _ => ⟨_, rfl, by simp⟩) (fun _ => ?_)
      obtain ⟨y, hy, _⟩ := getI (l := q.frees) (i := x.a) (by omega) (by omega)
      rw [idxE_i hy (by omega)]
      exact ⟨_, rfl, fun _ => ⟨by simp only; omega, Int.le_refl _, by omega⟩⟩
    refine ex_if (fun _ => ⟨_, rfl, by simp⟩) (fun _ => ?_)
    refine ex_if (fun _ => ⟨_, rfl, by simp⟩) (fun _ => ?_)
    obtain ⟨r5, h5, p5⟩ := ih (i - 1) (by omega) (by omega) (by omega)
    refine ex_bnd h5 ?_
    refine ex_if (fun _ => ?_) (fun _ => ?_)
    · refine ex_if (fun _ => ⟨_, rfl, by simp⟩) (fun hk => ?_)
      refine ex_ifn (fun _ => ⟨_, rfl, by simp⟩) (fun _ => ?_)
      refine ex_ifn (fun _ => ⟨_, rfl, by simp⟩) (fun _ => ?_)
      obtain ⟨r6, h6, _⟩ := ref13_Type_ex x.op r5.1 r5.1
      refine ex_bnd h6 ?_
      have := p5 hk
      exact ⟨_, rfl, fun _ => by simp only; omega⟩
    · refine ex_if (fun _ => ⟨_, rfl, by simp⟩) (fun hk => ?_)
      have hp := p5 hk
      have e2 : intVal .sub .i64 r5.2.2 1 = r5.2.2 - 1 := subI (by omega) (by omega)
      rw [e2]
      refine ex_ifn (fun _ => ⟨_, rfl, by simp⟩) (fun _ => ?_)
      refine ex_ifn (fun _ => ⟨_, rfl, by simp⟩) (fun _ => ?_)
      obtain ⟨r7, h7, p7⟩ := ih (r5.2.2 - 1) (by omega) (by omega) (by omega)
      refine ex_bnd h7 ?_
      obtain ⟨r8, h8, p8⟩ := ref13_Type_ex x.op r7.1 r5.1
      refine ex_bnd h8 ?_
      refine ⟨_, rfl, fun h => ?_⟩
      have := p7 (p8 h)
      simp only; omega
theorem Kind_ex (q : TQea) (hq : q.nodes.length ≤ 2048) (f i : Int) (hi : -9223372036854775808 ≤ i ∧ i ≤ 9223372036854775807) : ∃ r, ref13_Kind q f i = some r ∧ (r.1 ≠ 0 → 0 ≤ i ∧ i < q.nodes.length) := by
  unfold ref13_Kind ref13_below
  by_cases h : 0 ≤ i ∧ i < q.nodes.length
  · obtain ⟨r, hr, _⟩ := below_ex q hq 100000 i (by omega) (by omega) (by omega)
    refine ex_bnd hr ?_
    refine ex_if (fun _ => ⟨_, rfl, by simp⟩) (fun _ => ?_)
    exact ex_ifn (fun _ => ⟨_, rfl, by simp⟩) (fun _ => ⟨_, rfl, fun _ => h⟩)
  · have hz : ref13_below_n 100000 q i = some (0, 0, 0) := by
      show ref13_below_F (ref13_below_n 99999) q i = _
      unfold ref13_below_F
      rw [iteP, iteP]
      split
      · rfl
      · rw [if_pos (by omega)]
    refine ex_bnd hz ?_
    exact ⟨(0, 0), by simp [iteE], by simp⟩
theorem Names_tot (s : TSymbol) (v : Int) (hs : s.args.length ≤ 9223372036854775807) : ∃ r, ref13_Names s v = some r := by
  unfold ref13_Names ref13_Names_l1
  obtain ⟨t, ht, _⟩ := loop_scan0 (step := fun i => ref13_Names_l1_s v s i) s.args.length (fun _ => True) (fun _ => True)
    (fun i hi => by
      obtain ⟨x, hx, _⟩ := get_lt hi
      simp only [ref13_Names_l1_s, ltD hx, iteE_t, idxE_n hx, succW hx hs]
      simp only [iteE_if]
      repeat' split
      all_goals first | exact .inl ⟨rfl, trivial⟩ | exact .inr ⟨_, rfl, trivial⟩)
    (fun _ => ⟨.inl (), by simp only [ref13_Names_l1_s, ltI, iteE_f], trivial⟩)
  rw [ht, bndE_s]
  rcases t with _ | _ <;> exact ⟨_, rfl⟩
theorem bound_tot (q : TQea) (s : TSymbol) (hs : s.args.length ≤ 9223372036854775807) (hq : q.nodes.length ≤ 2048) (f t : Int) (hf : 0 ≤ f) (ht : t ≤ q.nodes.length) : ∃ r, ref13_bound q s f t = some r := by
  unfold ref13_bound ref13_bound_l1
  obtain ⟨u, hu, _⟩ := loopE_ex (step := fun i => ref13_bound_l1_s t q s i) (fun i => 0 ≤ i) (fun i => (t - i).toNat) (fun _ => True)
    (by
      intro i hi
      by_cases h : i < t
      · obtain ⟨x, hx, _⟩ := getI (l := q.nodes) (i := i) hi (by omega)
        obtain ⟨b, hb⟩ := Names_tot s x.a hs
        simp only [ref13_bound_l1_s, h, decide_true, iteE_t, idxE_i hx hi, hb, bndE_s, addI (a := i) (b := 1) (by omega) (by omega)]
        simp only [iteE_if]
        repeat' split
        all_goals first | exact .inl ⟨_, rfl, trivial⟩ | exact .inr ⟨_, rfl, by omega, by omega⟩
      · exact .inl ⟨.inl (), by simp [ref13_bound_l1_s, h, iteE], trivial⟩)
    f hf
  rw [hu, bndE_s]
  rcases u with _ | _ <;> exact ⟨_, rfl⟩
def IntOk (n : Int) : Prop := -9223372036854775808 ≤ n ∧ n ≤ 9223372036854775807
structure TransW (t : TTrans) : Prop where
  guard : IntOk t.guard
  sets : ∀ s ∈ t.sets, IntOk s.expr
theorem trans_ex (q : TQea) (hF : FewP q) (t : TTrans) (hT : TransW t) (hts : t.sets.length ≤ 12) (f : Int) (hf : 0 ≤ f) (hfl : f ≤ q.nodes.length) :
    ∃ r, ref13_trans q t f = some r ∧ (r.2 = true → 0 ≤ t.symbol ∧ t.symbol < q.symbols.length ∧ 0 ≤ r.1 ∧ r.1 ≤ q.nodes.length) := by
  have hn : q.nodes.length ≤ 2048 := Nat.le_trans hF.nodes (by decide)
  have hfr : q.frees.length ≤ 12 := hF.frees
  unfold ref13_trans
  refine ex_if (fun _ => ⟨_, rfl, by simp⟩) (fun _ => ?_)
  refine ex_if (fun _ => ⟨_, rfl, by simp⟩) (fun _ => ?_)
  refine ex_if (fun _ => ⟨_, rfl, by simp⟩) (fun _ => ?_)
  refine ex_if (fun _ => ⟨_, rfl, by simp⟩) (fun _ => ?_)
  refine ex_if (fun _ => ⟨_, rfl, by simp⟩) (fun hs0 => ?_)
  refine ex_if (fun _ => ⟨_, rfl, by simp⟩) (fun hs1 => ?_)
  obtain ⟨o2, h2, p2⟩ : ∃ o, ref13_trans_b1 f f (!decide (t.guard = (-1))) q t = some o ∧ ∀ x, o = .inl x → 0 ≤ x ∧ x ≤ q.nodes.length := by
    unfold ref13_trans_b1
    refine ex_ifn (fun _ => ?_) (fun _ => ⟨_, rfl, fun x hx => by cases hx; exact ⟨hf, hfl⟩⟩)
    obtain ⟨r1, h1, p1⟩ := Kind_ex q hn f t.guard hT.guard
    refine ex_bnd h1 ?_
    refine ex_ifn (fun _ => ⟨_, rfl, by simp⟩) (fun h3 => ?_)
    refine ex_if (fun _ => ⟨_, rfl, by simp⟩) (fun _ => ?_)
    have := p1 (by omega)
    refine ⟨_, rfl, fun x hx => ?_⟩
    cases hx
    rw [addI (by omega) (by omega)]; omega
  refine ex_bnd h2 ?_
  rcases o2 with o3 | _
  · have h3 := p2 o3 rfl
    rw [sumE_l]
    unfold ref13_trans_l2
    obtain ⟨u, hu, pu⟩ := loopE_ex (step := fun s : Int × Int => ref13_trans_l2_s f q t s.1 s.2) (fun s => ∃ i : Nat, s.2 = (i : Int) ∧ i ≤ t.sets.length ∧ 0 ≤ s.1 ∧ s.1 ≤ q.nodes.length) (fun s => (t.sets.length - s.2).toNat)
      (fun o => ∀ x, o = .inl x → 0 ≤ x ∧ x ≤ q.nodes.length)
      (by
        rintro ⟨w, s⟩ ⟨i, rfl, hi, hw0, hw1⟩
        simp only at hw0 hw1 ⊢
        by_cases he : i = t.sets.length
        · subst he
          exact .inl ⟨.inl w, by simp only [ref13_trans_l2_s, ltI, iteE_f], fun x hx => by cases hx; exact ⟨hw0, hw1⟩⟩
        · obtain ⟨x, hx, _⟩ := get_lt (l := t.sets) (i := i) (by omega)
          obtain ⟨r6, h6, p6⟩ := Kind_ex q hn w x.expr (hT.sets x (List.mem_of_getElem? hx))
          have h6' : ref13_Kind q w x.expr = some r6 := h6
          simp only [ref13_trans_l2_s, ltD hx, iteE_t, idxE_n hx, h6', bndE_s, succW hx (show t.sets.length ≤ 9223372036854775807 by omega)]
          by_cases g1 : x.free < 0
          · exact .inl ⟨.inr (), by simp [g1, iteE], by simp⟩
          by_cases g2 : (q.frees.length : Int) ≤ x.free
          · exact .inl ⟨.inr (), by simp [g1, g2, iteE], by simp⟩
          by_cases g3 : r6.1 = 0
          · exact .inl ⟨.inr (), by simp [g1, g2, g3, iteE], by simp⟩
          by_cases g4 : 64 < r6.2
          · exact .inl ⟨.inr (), by simp [g1, g2, g3, g4, iteE], by simp⟩
          obtain ⟨y, hy, _⟩ := getI (l := q.frees) (i := x.free) (by omega) (by omega)
          by_cases g5 : r6.1 = y.init_.kind
          · obtain ⟨t3, e3, _⟩ := loop_scan0 (step := fun s => ref13_trans_l3_s f (i : Int) q t x s) i (fun _ => True) (fun _ => True)
              (fun j hj => by
                obtain ⟨z, hz, _⟩ := get_lt (l := t.sets) (i := j) (by omega)
                have hlt : decide ((j : Int) < (i : Int)) = true := by simp; omega
                simp only [ref13_trans_l3_s, hlt, iteE_t, idxE_n hz, succW hz (show t.sets.length ≤ 9223372036854775807 by omega)]
                simp only [iteE_if]
                split
                · exact .inr ⟨_, rfl, trivial⟩
                · exact .inl ⟨rfl, trivial⟩)
              (fun _ => ⟨.inl (), by simp only [ref13_trans_l3_s, ltI, iteE_f], trivial⟩)
            have e3' : ref13_trans_l3 f (i : Int) q t x 0 = some t3 := e3
            have hp := p6 g3
            rcases t3 with _ | _
            · refine .inr ⟨(intVal .add .i64 x.expr 1, ((i + 1 : Nat) : Int)), ?_, ⟨i + 1, rfl, by omega, ?_, ?_⟩, by simp only; omega⟩
              · rw [iteP, if_neg g1, iteP, if_neg g2, iteP, if_neg g3, iteP, if_neg g4, idxE_i hy (show 0 ≤ x.free by omega)]
                simp only [g5, decide_true, Bool.not_true, iteE_f, e3', bndE_s, sumE_l]
              · simp only; rw [addI (by omega) (by omega)]; omega
              · simp only; rw [addI (by omega) (by omega)]; omega
            · refine .inl ⟨.inr (), ?_, by simp⟩
              rw [iteP, if_neg g1, iteP, if_neg g2, iteP, if_neg g3, iteP, if_neg g4, idxE_i hy (show 0 ≤ x.free by omega)]
              simp only [g5, decide_true, Bool.not_true, iteE_f, e3', bndE_s, sumE_r]
          · refine .inl ⟨.inr (), ?_, by simp⟩
            rw [iteP, if_neg g1, iteP, if_neg g2, iteP, if_neg g3, iteP, if_neg g4, idxE_i hy (show 0 ≤ x.free by omega)]
            simp only [g5, decide_false, Bool.not_false, iteE_t])
      (o3, (0 : Int)) ⟨0, rfl, by omega, h3.1, h3.2⟩
    refine ex_bnd hu ?_
    rcases u with o13 | _
    · rw [sumE_l]
      have h13 := pu o13 rfl
      obtain ⟨x, hx, _⟩ := getI (l := q.symbols) (i := t.symbol) (by omega) (by omega)
      rw [idxE_i hx (by omega)]
      obtain ⟨r16, h16⟩ := bound_tot q x (Nat.le_trans (hF.args x (List.mem_of_getElem? hx)) (by decide)) hn f o13 hf h13.2
      refine ex_bnd h16 ⟨_, rfl, fun _ => ⟨by omega, by omega, h13.1, h13.2⟩⟩
    · exact ⟨_, rfl, by simp⟩
  · exact ⟨_, rfl, by simp⟩
structure ArgOk (q : TQea) (a : TArg) : Prop where
  two : a.kind = 2 → 0 ≤ a.n ∧ a.n < q.quants.length
  three : a.kind = 3 → 0 ≤ a.n ∧ a.n < q.frees.length
theorem ref13_arg_ex (q : TQea) (a : TArg) (k : Int) : ∃ r, ref13_arg q a k = some r ∧ (r = true → ArgOk q a) := by
  unfold ref13_arg
  obtain ⟨b, hb⟩ := ref03_Right_tot a.value
  refine ex_if (fun h => ?_) (fun h1 => ?_)
  · have ho : ArgOk q a := ⟨fun h2 => by omega, fun h2 => by omega⟩
    refine ex_if (fun _ => ?_) (fun _ => ⟨_, rfl, by simp⟩)
    refine ex_bnd hb ?_
    exact ex_ifb (fun _ => ⟨_, rfl, fun _ => ho⟩) (fun _ => ⟨_, rfl, by simp⟩)
  refine ex_ifnb (fun _ => ⟨_, rfl, by simp⟩) (fun _ => ?_)
  refine ex_if (fun h2 => ?_) (fun h2 => ?_)
  · refine ex_if (fun h3 => ?_) (fun _ => ⟨_, rfl, by simp⟩)
    refine ex_if (fun h4 => ?_) (fun _ => ⟨_, rfl, by simp⟩)
    obtain ⟨y, hy, _⟩ := getI h3 h4
    rw [idxE_i hy h3]
    exact ⟨_, rfl, fun _ => ⟨fun _ => ⟨h3, h4⟩, fun h => by omega⟩⟩
  refine ex_if (fun h5 => ?_) (fun h5 => ?_)
  · refine ex_if (fun h3 => ?_) (fun _ => ⟨_, rfl, by simp⟩)
    refine ex_if (fun h4 => ?_) (fun _ => ⟨_, rfl, by simp⟩)
    obtain ⟨y, hy, _⟩ := getI h3 h4
    rw [idxE_i hy h3]
    exact ⟨_, rfl, fun _ => ⟨fun h => by omega, fun _ => ⟨h3, h4⟩⟩⟩
  exact ex_if (fun _ => ⟨_, rfl, fun _ => ⟨fun h => by omega, fun h => by omega⟩⟩) (fun _ => ⟨_, rfl, by simp⟩)
structure SymOk (q : TQea) (s : TSymbol) : Prop where
  event : 0 ≤ s.event
  decl : ∃ d, q.decls[s.event.toNat]? = some d ∧ s.args.length = d.types.length
  args : ∀ a ∈ s.args, ArgOk q a
theorem ref13_symbol_ex (q : TQea) (s : TSymbol) (hs : s.args.length ≤ 12) : ∃ r, ref13_symbol q s = some r ∧ (r = true → SymOk q s) := by
  unfold ref13_symbol
  refine ex_if (fun _ => ⟨_, rfl, by simp⟩) (fun h0 => ?_)
  refine ex_if (fun _ => ⟨_, rfl, by simp⟩) (fun h1 => ?_)
  obtain ⟨d, hd, _⟩ := getI (l := q.decls) (i := s.event) (by omega) (by omega)
  rw [idxE_i hd (by omega)]
  refine ex_ifn (fun _ => ⟨_, rfl, by simp⟩) (fun h2 => ?_)
  obtain ⟨t, ht, hQ⟩ := loop_scan0 (step := fun i => ref13_symbol_l1_s q s i) s.args.length (fun i => ∀ a, s.args[i]? = some a → ArgOk q a) (fun t => t = .inl () → ∀ a ∈ s.args, ArgOk q a)
    (fun i hi => by
      obtain ⟨x, hx, _⟩ := get_lt hi
      obtain ⟨y, hy, _⟩ := get_lt (l := d.types) (i := i) (by omega)
      obtain ⟨b, hb, hbo⟩ := ref13_arg_ex q x y
      simp only [ref13_symbol_l1_s, ltD hx, iteE_t, idxE_n hx, idxE_i hd (show 0 ≤ s.event by omega), idxE_n hy, hb, bndE_s, succW hx (show s.args.length ≤ 9223372036854775807 by omega)]
      cases b with
      | false => exact .inr ⟨_, rfl, by simp⟩
      | true => exact .inl ⟨rfl, fun a ha => by rw [hx] at ha; cases ha; exact hbo rfl⟩)
    (fun hP => ⟨.inl (), by simp only [ref13_symbol_l1_s, ltI, iteE_f], fun _ => all_get hP⟩)
  refine ex_bnd ht ?_
  rcases t with _ | _
  · exact ⟨_, rfl, fun _ => ⟨by omega, ⟨d, hd, by omega⟩, hQ rfl⟩⟩
  · exact ⟨_, rfl, by simp⟩
theorem SameSymbol_tot (a b : TSymbol) (ha : a.args.length ≤ 9223372036854775807) : ∃ r, ref13_SameSymbol a b = some r := by
  unfold ref13_SameSymbol
  refine tot_ex ?_
  refine ex_ifn (fun _ => ⟨_, rfl, trivial⟩) (fun _ => ?_)
  refine ex_ifn (fun _ => ⟨_, rfl, trivial⟩) (fun h => ?_)
  obtain ⟨t, ht, _⟩ := loop_scan0 (step := fun i => ref13_SameSymbol_l1_s a b i) a.args.length (fun _ => True) (fun _ => True)
    (fun i hi => by
      obtain ⟨x, hx, _⟩ := get_lt hi
      obtain ⟨y, hy, _⟩ := get_lt (l := b.args) (i := i) (by omega)
      simp only [ref13_SameSymbol_l1_s, ltD hx, iteE_t, idxE_n hx, idxE_n hy, succW hx ha]
      simp only [iteE_if]
      split
      · exact .inr ⟨_, rfl, trivial⟩
      · exact .inl ⟨rfl, trivial⟩)
    (fun _ => ⟨.inl (), by simp only [ref13_SameSymbol_l1_s, ltI, iteE_f], trivial⟩)
  refine ex_bnd ht ?_
  rcases t with _ | _ <;> exact ⟨_, rfl, trivial⟩
theorem ref13_symbols_ex (q : TQea) (hF : FewP q) (hT : ∀ t ∈ q.trans, 0 ≤ t.symbol ∧ t.symbol < q.symbols.length) : ∃ r, ref13_symbols q = some r ∧ (r = true → ∀ s ∈ q.symbols, SymOk q s) := by
  have hsy := hF.symbols; have htr := hF.trans; have hqu := hF.quants
  unfold ref13_symbols
  rw [chkE_p ⟨by omega, fit_small (by omega) (by decide)⟩]
  obtain ⟨o9, h9, hl9⟩ := loopE_ex (step := fun s : Int × List Bool × List Int => ref13_symbols_l1_s q s.1 s.2.1 s.2.2) (fun s => ∃ i : Nat, s.1 = (i : Int) ∧ i ≤ q.trans.length ∧ s.2.1.length = q.symbols.length ∧ s.2.2.length ≤ i) (fun s => (q.trans.length - s.1).toNat) (fun o => o.length ≤ 12)
    (by
      rintro ⟨s, u, w⟩ ⟨i, rfl, hi, hu, hw⟩
      simp only at hu hw ⊢
      by_cases he : i = q.trans.length
      · subst he
        exact .inl ⟨w, by simp only [ref13_symbols_l1_s, ltI, iteE_f], by omega⟩
      · obtain ⟨x, hx, _⟩ := get_lt (l := q.trans) (i := i) (by omega)
        have hxs := hT x (List.mem_of_getElem? hx)
        obtain ⟨y, hy, _⟩ := getI (l := u) (i := x.symbol) hxs.1 (by omega)
        have hb5 : ∃ w', ref13_symbols_b5 (i : Int) x.symbol (!y) q u w = some w' ∧ w'.length ≤ i + 1 := by
          unfold ref13_symbols_b5
          refine ex_ifnb (fun _ => ?_) (fun _ => ⟨_, rfl, by omega⟩)
          rw [chkF (by simp; omega) (by decide)]
          exact ⟨_, rfl, by simpa using hw⟩
        obtain ⟨w', hb, hw'⟩ := hb5
        refine .inr ⟨(((i + 1 : Nat) : Int), u.set x.symbol.toNat true, w'), ?_, ⟨i + 1, rfl, by omega, by simpa using hu, hw'⟩, by simp only; omega⟩
        simp only [ref13_symbols_l1_s, ltD hx, iteE_t, succW hx (show q.trans.length ≤ 9223372036854775807 by omega)]
        unfold ref13_symbols_b4
        rw [idxE_n hx, chkE_p (by omega), idxE_i hy hxs.1, hb, bndE_s, chkE_p (by omega), chkE_p (by omega)]
        rfl)
    ((0 : Int), List.replicate (q.symbols.length : Int).toNat false, ([] : List Int)) ⟨0, rfl, by omega, by simp, by simp⟩
  refine ex_bnd h9 ?_
  obtain ⟨t1, e1, _⟩ := loop_scan0 (step := fun s => ref13_symbols_l6_s q o9 s) o9.length (fun _ => True) (fun _ => True)
    (fun i hi => by
      obtain ⟨x, hx, _⟩ := get_lt hi
      simp only [ref13_symbols_l6_s, ltD hx, iteE_t, idxE_n hx, succW hx (show o9.length ≤ 9223372036854775807 by omega)]
      simp only [iteE_if]
      split
      · exact .inr ⟨_, rfl, trivial⟩
      · exact .inl ⟨rfl, trivial⟩)
    (fun _ => ⟨.inl (), by simp only [ref13_symbols_l6_s, ltI, iteE_f], trivial⟩)
  refine ex_bnd e1 ?_
  rcases t1 with _ | _
  case inr => exact ⟨_, rfl, by simp⟩
  rw [sumE_l]
  have hsl : q.symbols.length ≤ 9223372036854775807 := by omega
  obtain ⟨t2, e2, Q2⟩ := loop_scan0 (step := fun s => ref13_symbols_l7_s q s) q.symbols.length (fun i => ∀ s, q.symbols[i]? = some s → SymOk q s) (fun t => t = .inl () → ∀ s ∈ q.symbols, SymOk q s)
    (fun i hi => by
      obtain ⟨x, hx, _⟩ := get_lt hi
      have hxa := hF.args x (List.mem_of_getElem? hx)
      obtain ⟨b, hb, hbo⟩ := ref13_symbol_ex q x hxa
      simp only [ref13_symbols_l7_s, ltD hx, iteE_t, idxE_n hx, hb, bndE_s, succW hx hsl]
      cases b with
      | false => exact .inr ⟨_, rfl, by simp⟩
      | true =>
        simp only [Bool.not_true, iteE_f]
        obtain ⟨t3, e3, _⟩ := loop_scan0 (step := fun s => ref13_symbols_l8_s (i : Int) q s) i (fun _ => True) (fun _ => True)
          (fun j hj => by
            obtain ⟨y, hy, _⟩ := get_lt (l := q.symbols) (i := j) (by omega)
            obtain ⟨c, hc⟩ := SameSymbol_tot x y (by omega)
            have hlt : decide ((j : Int) < (i : Int)) = true := by simp; omega
            simp only [ref13_symbols_l8_s, hlt, iteE_t, idxE_n hx, idxE_n hy, hc, bndE_s, succW hy hsl]
            simp only [iteE_if]
            split
            · exact .inr ⟨_, rfl, trivial⟩
            · exact .inl ⟨rfl, trivial⟩)
          (fun _ => ⟨.inl (), by simp only [ref13_symbols_l8_s, ltI, iteE_f], trivial⟩)
        unfold ref13_symbols_l8
        rw [e3, bndE_s]
        rcases t3 with _ | _
        · exact .inl ⟨rfl, fun s hs => by rw [hx] at hs; cases hs; exact hbo rfl⟩
        · exact .inr ⟨_, rfl, by simp⟩)
    (fun hP => ⟨.inl (), by simp only [ref13_symbols_l7_s, ltI, iteE_f], fun _ => all_get hP⟩)
  refine ex_bnd e2 ?_
  rcases t2 with _ | _
  case inr => exact ⟨_, rfl, by simp⟩
  rw [sumE_l]
  obtain ⟨t4, e4, _⟩ := loop_scan0 (step := fun s => ref13_symbols_l9_s q s) q.quants.length (fun _ => True) (fun _ => True)
    (fun i hi => by
      have hlt : decide ((i : Int) < (q.quants.length : Int)) = true := by simp; omega
      obtain ⟨o, ho, _⟩ := loopE_ex (step := fun s : Bool × Int => ref13_symbols_l10_s (i : Int) q s.1 s.2) (fun s => ∃ j : Nat, s.2 = (j : Int) ∧ j ≤ q.symbols.length) (fun s => (q.symbols.length - s.2).toNat) (fun _ => True)
        (by
          rintro ⟨b, s⟩ ⟨j, rfl, hj⟩
          simp only
          by_cases he : j = q.symbols.length
          · subst he; exact .inl ⟨b, by simp only [ref13_symbols_l10_s, ltI, iteE_f], trivial⟩
          · obtain ⟨x, hx, _⟩ := get_lt (l := q.symbols) (i := j) (by omega)
            have hxa := hF.args x (List.mem_of_getElem? hx)
            obtain ⟨c, hc⟩ := Names_tot x (i : Int) (by omega)
            have hc' : ref13_Names x (i : Int) = some c := hc
            cases b with
            | true => exact .inr ⟨(true, ((j + 1 : Nat) : Int)), by simp only [ref13_symbols_l10_s, ltD hx, iteE_t, succW hx hsl], ⟨j + 1, rfl, by omega⟩, by simp only; omega⟩
            | false => exact .inr ⟨(c, ((j + 1 : Nat) : Int)), by simp only [ref13_symbols_l10_s, ltD hx, iteE_t, iteE_f, idxE_n hx, hc', bndE_s, succW hx hsl], ⟨j + 1, rfl, by omega⟩, by simp only; omega⟩)
        (false, (0 : Int)) ⟨0, rfl, by omega⟩
      have ho' : ref13_symbols_l10 (i : Int) q false 0 = some o := ho
      simp only [ref13_symbols_l9_s, hlt, iteE_t, ho', bndE_s, succI (show i < 9223372036854775807 by omega)]
      simp only [iteE_if]
      split
      · exact .inr ⟨_, rfl, trivial⟩
      · exact .inl ⟨rfl, trivial⟩)
    (fun _ => ⟨.inl (), by simp only [ref13_symbols_l9_s, ltI, iteE_f], trivial⟩)
  refine ex_bnd e4 ?_
  rcases t4 with _ | _
  · exact ⟨_, rfl, fun _ => Q2 rfl⟩
  · exact ⟨_, rfl, by simp⟩
theorem twice_tot (l : List (List UInt8)) (at' : Nat) (h : at' < l.length) (hl : l.length ≤ 9223372036854775807) : ∃ r, ref13_twice l (at' : Int) = some r := by
  unfold ref13_twice
  refine tot_ex ?_
  obtain ⟨y, hy, _⟩ := get_lt h
  obtain ⟨t, ht, _⟩ := loop_scan0 (step := fun i => ref13_twice_l1_s l (at' : Int) i) at' (fun _ => True) (fun _ => True)
    (fun i hi => by
      obtain ⟨x, hx, _⟩ := get_lt (l := l) (i := i) (by omega)
      have hlt : decide ((i : Int) < (at' : Int)) = true := by simp; omega
      simp only [ref13_twice_l1_s, hlt, iteE_t, idxE_n hx, idxE_n hy, succW hx hl]
      simp only [iteE_if]
      split
      · exact .inr ⟨_, rfl, trivial⟩
      · exact .inl ⟨rfl, trivial⟩)
    (fun _ => ⟨.inl (), by simp only [ref13_twice_l1_s, ltI, iteE_f], trivial⟩)
  refine ex_bnd ht ?_
  rcases t with _ | _ <;> exact ⟨_, rfl, trivial⟩
theorem ref13_names_tot (q : TQea) (hF : FewP q) : ∃ r, ref13_names q = some r := by
  have h1 := hF.quants; have h2 := hF.frees; have h3 := hF.states
  unfold ref13_names
  refine tot_ex ?_
  obtain ⟨o7, e7, p7⟩ := loopE_ex (step := fun s : Int × List (List UInt8) => ref13_names_l1_s q s.1 s.2) (fun s => ∃ i : Nat, s.1 = (i : Int) ∧ i ≤ q.quants.length ∧ s.2.length ≤ i) (fun s => (q.quants.length - s.1).toNat) (fun o => ∀ w, o = .inl w → w.length ≤ 9)
    (by
      rintro ⟨s, w⟩ ⟨i, rfl, hi, hw⟩
      simp only at hw ⊢
      by_cases he : i = q.quants.length
      · subst he; exact .inl ⟨.inl w, by simp only [ref13_names_l1_s, ltI, iteE_f], fun w' hw' => by cases hw'; omega⟩
      · obtain ⟨x, hx, _⟩ := get_lt (l := q.quants) (i := i) (by omega)
        simp only [ref13_names_l1_s, ltD hx, iteE_t, idxE_n hx, succW hx (show q.quants.length ≤ 9223372036854775807 by omega)]
        rw [chkF (by simp; omega) (by decide)]
        simp only [iteE_if]
        split
        · exact .inl ⟨_, rfl, by simp⟩
        · split
          · exact .inl ⟨_, rfl, by simp⟩
          · exact .inr ⟨_, rfl, ⟨i + 1, rfl, by omega, by simpa using hw⟩, by simp only; omega⟩)
    ((0 : Int), ([] : List (List UInt8))) ⟨0, rfl, by omega, by simp⟩
  refine ex_bnd e7 ?_
  rcases o7 with o8 | _
  case inr => exact ⟨_, rfl, trivial⟩
  rw [sumE_l]
  have hw8 := p7 o8 rfl
  obtain ⟨o13, e13, p13⟩ := loopE_ex (step := fun s : Int × List (List UInt8) => ref13_names_l2_s q s.1 s.2) (fun s => ∃ i : Nat, s.1 = (i : Int) ∧ i ≤ q.frees.length ∧ s.2.length ≤ 9 + i) (fun s => (q.frees.length - s.1).toNat) (fun o => ∀ w, o = .inl w → w.length ≤ 21)
    (by
      rintro ⟨s, w⟩ ⟨i, rfl, hi, hw⟩
      simp only at hw ⊢
      by_cases he : i = q.frees.length
      · subst he; exact .inl ⟨.inl w, by simp only [ref13_names_l2_s, ltI, iteE_f], fun w' hw' => by cases hw'; omega⟩
      · obtain ⟨x, hx, _⟩ := get_lt (l := q.frees) (i := i) (by omega)
        obtain ⟨b, hb⟩ := ref03_Right_tot x.init_
        simp only [ref13_names_l2_s, ltD hx, iteE_t, idxE_n hx, hb, bndE_s, succW hx (show q.frees.length ≤ 9223372036854775807 by omega)]
        rw [chkF (by simp; omega) (by decide)]
        simp only [iteE_if]
        split
        · exact .inl ⟨_, rfl, by simp⟩
        · exact .inr ⟨_, rfl, ⟨i + 1, rfl, by omega, by simp; omega⟩, by simp only; omega⟩)
    ((0 : Int), o8) ⟨0, rfl, by omega, by simpa using hw8⟩
  refine ex_bnd e13 ?_
  rcases o13 with o14 | _
  case inr => exact ⟨_, rfl, trivial⟩
  rw [sumE_l]
  have hw14 := p13 o14 rfl
  obtain ⟨t, ht, _⟩ := loop_scan0 (step := fun i => ref13_names_l3_s q o14 i) o14.length (fun _ => True) (fun _ => True)
    (fun i hi => by
      obtain ⟨x, hx, _⟩ := get_lt hi
      obtain ⟨b, hb⟩ := ref07_Name_tot x
      obtain ⟨c, hc⟩ := twice_tot o14 i hi (by omega)
      simp only [ref13_names_l3_s, ltD hx, iteE_t, idxE_n hx, hb, hc, bndE_s, succW hx (show o14.length ≤ 9223372036854775807 by omega)]
      simp only [iteE_if]
      repeat' split
      all_goals first | exact .inl ⟨rfl, trivial⟩ | exact .inr ⟨_, rfl, trivial⟩)
    (fun _ => ⟨.inl (), by simp only [ref13_names_l3_s, ltI, iteE_f], trivial⟩)
  refine ex_bnd ht ?_
  rcases t with _ | _
  case inr => exact ⟨_, rfl, trivial⟩
  rw [sumE_l]
  obtain ⟨o30, e30, _⟩ := loopE_ex (step := fun s : Int × List (List UInt8) => ref13_names_l4_s q s.1 s.2) (fun s => ∃ i : Nat, s.1 = (i : Int) ∧ i ≤ q.states.length ∧ s.2.length = i) (fun s => (q.states.length - s.1).toNat) (fun _ => True)
    (by
      rintro ⟨s, w⟩ ⟨i, rfl, hi, hw⟩
      simp only at hw ⊢
      by_cases he : i = q.states.length
      · subst he; exact .inl ⟨.inl (), by simp only [ref13_names_l4_s, ltI, iteE_f], trivial⟩
      · obtain ⟨x, hx, _⟩ := get_lt (l := q.states) (i := i) (by omega)
        have hg : (w ++ [x.name])[i]? = some x.name := by rw [← hw]; simp
        obtain ⟨b, hb⟩ := ref07_Name_tot x.name
        obtain ⟨c, hc⟩ := twice_tot (w ++ [x.name]) i (by simp; omega) (by simp; omega)
        simp only [ref13_names_l4_s, ltD hx, iteE_t, idxE_n hx, succW hx (show q.states.length ≤ 9223372036854775807 by omega)]
        rw [chkF (by simp; omega) (by decide), idxE_n hg, hb, bndE_s, hc]
        simp only [bndE_s, iteE_if]
        split
        · exact .inl ⟨_, rfl, trivial⟩
        · split
          · exact .inl ⟨_, rfl, trivial⟩
          · exact .inr ⟨_, rfl, ⟨i + 1, rfl, by omega, by simp; omega⟩, by simp only; omega⟩)
    ((0 : Int), ([] : List (List UInt8))) ⟨0, rfl, by omega, by simp⟩
  refine ex_bnd e30 ?_
  rcases o30 with _ | _
  · obtain ⟨b, hb⟩ := ref07_Name_tot q.name
    rw [sumE_l]
    exact ex_bnd hb ⟨_, rfl, trivial⟩
  · exact ⟨_, rfl, trivial⟩
structure RightQ (q : TQea) : Prop where
  decls : DeclsOk q.decls
  quants : q.quants.length ≤ 8
  symbols : ∀ s ∈ q.symbols, SymOk q s
theorem ref13_Right_ex (q : TQea) (hF : FewP q) (hW : ∀ t ∈ q.trans, TransW t) : ∃ r, ref13_Right q = some r ∧ (r = true → RightQ q) := by
  have h1 := hF.decls; have h2 := hF.trans
  unfold ref13_Right
  obtain ⟨r1, e1, p1⟩ := ref07_Check_ex q.decls (by omega)
  refine ex_bnd e1 ?_
  refine ex_ifn (fun _ => ⟨_, rfl, by simp⟩) (fun hz => ?_)
  refine ex_if (fun _ => ⟨_, rfl, by simp⟩) (fun hq => ?_)
  refine ex_if (fun _ => ⟨_, rfl, by simp⟩) (fun _ => ?_)
  refine ex_if (fun _ => ⟨_, rfl, by simp⟩) (fun _ => ?_)
  refine ex_if (fun _ => ⟨_, rfl, by simp⟩) (fun _ => ?_)
  refine ex_if (fun _ => ⟨_, rfl, by simp⟩) (fun _ => ?_)
  refine ex_if (fun _ => ⟨_, rfl, by simp⟩) (fun _ => ?_)
  refine ex_if (fun _ => ⟨_, rfl, by simp⟩) (fun _ => ?_)
  refine ex_if (fun _ => ⟨_, rfl, by simp⟩) (fun _ => ?_)
  obtain ⟨r2, e2⟩ := ref13_names_tot q hF
  refine ex_bnd e2 ?_
  refine ex_ifnb (fun _ => ⟨_, rfl, by simp⟩) (fun _ => ?_)
  obtain ⟨o5, e5, p5⟩ := loopE_ex (step := fun s : Int × Int => ref13_Right_l1_s q s.1 s.2) (fun s => ∃ i : Nat, s.2 = (i : Int) ∧ i ≤ q.trans.length ∧ 0 ≤ s.1 ∧ s.1 ≤ q.nodes.length ∧ ∀ j, j < i → ∀ t, q.trans[j]? = some t → 0 ≤ t.symbol ∧ t.symbol < q.symbols.length) (fun s => (q.trans.length - s.2).toNat)
    (fun o => ∀ w, o = .inl w → ∀ t ∈ q.trans, 0 ≤ t.symbol ∧ t.symbol < q.symbols.length)
    (by
      rintro ⟨w, s⟩ ⟨i, rfl, hi, hw0, hw1, hP⟩
      simp only at hw0 hw1 hP ⊢
      by_cases he : i = q.trans.length
      · subst he; exact .inl ⟨.inl w, by simp only [ref13_Right_l1_s, ltI, iteE_f], fun _ _ => all_get hP⟩
      · obtain ⟨x, hx, _⟩ := get_lt (l := q.trans) (i := i) (by omega)
        have hxm := List.mem_of_getElem? hx
        obtain ⟨r4, e4, p4⟩ := trans_ex q hF x (hW x hxm) (hF.sets x hxm) w hw0 hw1
        simp only [ref13_Right_l1_s, ltD hx, iteE_t, idxE_n hx, e4, bndE_s, succW hx (show q.trans.length ≤ 9223372036854775807 by omega)]
        cases hb : r4.2 with
        | false => exact .inl ⟨.inr (), rfl, by simp⟩
        | true =>
          have hp := p4 hb
          refine .inr ⟨(r4.1, ((i + 1 : Nat) : Int)), rfl, ⟨i + 1, rfl, by omega, hp.2.2.1, hp.2.2.2, fun j hj t ht => ?_⟩, by simp only; omega⟩
          rcases Nat.lt_or_ge j i with h | h
          · exact hP j h t ht
          · have : j = i := by omega
            subst this; rw [hx] at ht; cases ht; exact ⟨hp.1, hp.2.1⟩)
    ((0 : Int), (0 : Int)) ⟨0, rfl, by omega, by simp, by simp, fun j hj => by omega⟩
  refine ex_bnd e5 ?_
  rcases o5 with o6 | _
  · rw [sumE_l]
    refine ex_if (fun _ => ?_) (fun _ => ⟨_, rfl, by simp⟩)
    obtain ⟨r8, e8, p8⟩ := ref13_symbols_ex q hF (p5 o6 rfl)
    refine ex_bnd e8 ⟨_, rfl, fun hr => ⟨p1 hz, by omega, p8 hr⟩⟩
  · exact ⟨_, rfl, by simp⟩
def vR (v : TValue) : Bool :=
  if v.kind = 1 then decide (v.str = []) && !v.bool
  else if v.kind = 2 then decide (v.int = 0) && !v.bool && decide (v.str.length ≤ 4096)
  else if v.kind = 3 then decide (v.int = 0) && decide (v.str = []) else false
theorem ref03_Right_eq (v : TValue) : ref03_Right v = some (vR v) := by
  unfold ref03_Right vR
  have hc : decide ((v.str.length : Int) ≤ 4096) = decide (v.str.length ≤ 4096) := by
    by_cases h : v.str.length ≤ 4096
    · have : (v.str.length : Int) ≤ 4096 := by omega
      simp [h, this]
    · have : ¬ (v.str.length : Int) ≤ 4096 := by omega
      simp [h, this]
  rw [hc]
  by_cases h1 : v.kind = 1
  · by_cases hs : v.str = [] <;> simp [h1, hs, iteE]
  by_cases h2 : v.kind = 2
  · by_cases hn : v.int = 0 <;> cases hb : v.bool <;> simp [h2, hn, iteE]
  by_cases h3 : v.kind = 3
  · by_cases hn : v.int = 0 <;> simp [h3, hn, iteE]
  · simp [h1, h2, h3, iteE]
theorem value_Right_eq (v : TValue) : value_Right v = some (vR v) := by
  rw [← ref03_Right_eq]
  obtain ⟨k, n, s, b⟩ := v
  unfold value_Right ref03_Right value_Int value_Str value_Bool
  simp only [bndE_s, iteP, TValue.eqb_dec, TValue.mk.injEq, iteE_if]
  by_cases h1 : k = 1
  · subst h1; by_cases hs : s = [] <;> cases b <;> simp [hs]
  by_cases h2 : k = 2
  · subst h2; by_cases hn : n = 0 <;> cases b <;> simp [hn]
  by_cases h3 : k = 3
  · subst h3; by_cases hn : n = 0 <;> by_cases hs : s = [] <;> cases b <;> simp [hn, hs]
  · simp [h1, h2, h3]
def argsS (a : List TValue) (t : List Int) : Bool := decide (a.length = t.length) && (a.zip t).all fun p => decide (p.1.kind = p.2) && vR p.1
def eR (l : List TDecl) (e : TEvent) : Bool := match findS l e.name with
  | none => false
  | some i => match l[i]? with
    | none => false
    | some d => argsS e.args d.types
theorem EqualFunc_eq (a : List TValue) (t : List Int) (ha : a.length ≤ 9223372036854775807) : slices_EqualFunc_Value_int_Value_int a t = some (argsS a t) := by
  unfold slices_EqualFunc_Value_int_Value_int argsS
  rw [iteE_if, len_dec]
  by_cases hl : a.length = t.length
  · rw [if_neg (by simp [hl])]
    unfold slices_EqualFunc_Value_int_Value_int_l1
    have hz : (a.zip t).length = a.length := by simp [hl]
    rw [loop_all0 (a.zip t) (fun p => decide (p.1.kind = p.2) && vR p.1) (.inl () : Unit ⊕ Unit) (.inr ())
      (fun i z hz => by
        obtain ⟨hx, hy⟩ := zip_get hz
        simp only [slices_EqualFunc_Value_int_Value_int_l1_s, ltD hx, iteE_t, idxE_n hx, idxE_n hy, event_Right_1, value_Right_eq, bndE_s, succW hx ha, iteP]
        by_cases h : z.1.kind = z.2 <;> cases hv : vR z.1 <;> simp [h, bndE, iteE])
      (by rw [hz]; simp only [slices_EqualFunc_Value_int_Value_int_l1_s, ltI, iteE_f]), bndE_s]
    cases (a.zip t).all _ <;> simp [sumE, hl]
  · rw [if_pos (by simp [hl])]; simp [hl]
theorem event_Right_eq (l : List TDecl) (e : TEvent) (hl : l.length ≤ 9223372036854775807) (he : e.args.length ≤ 9223372036854775807) : event_Right l e = some (eR l e) := by
  unfold event_Right schema_Find slices_IndexFunc_Decl_Decl slices_IndexFunc_Decl_Decl_l1
  rw [loop_index l (fun d => decide (d.name = e.name))
    (fun i x hx => by
      simp only [slices_IndexFunc_Decl_Decl_l1_s, ltD hx, iteE_t, idxE_n hx, schema_Find_1, bndE_s, succW hx hl]
      simp only [iteE_if]
      cases decide (x.name = e.name) <;> rfl)
    (by simp only [slices_IndexFunc_Decl_Decl_l1_s, ltI, iteE_f])]
  unfold eR
  cases hf : findS l e.name with
  | none =>
    have : ¬ (l.any fun d => decide (d.name = e.name)) = true := by
      intro h; unfold findS at hf; rw [if_pos h] at hf; cases hf
    simp [this, bndE, sumE, iteE]
  | some i =>
    have ha : (l.any fun d => decide (d.name = e.name)) = true := by
      unfold findS at hf; split at hf
      · assumption
      · cases hf
    have hi : (l.findIdx fun d => decide (d.name = e.name)) = i := by
      unfold findS at hf; rw [if_pos ha] at hf; cases hf; rfl
    obtain ⟨d, hd, _⟩ := findS_some hf
    rw [if_pos ha, hi]
    have hm : maxE (i : Int) 0 = (i : Int) := by unfold maxE; exact if_neg (Int.not_lt.2 (Int.natCast_nonneg i))
    have h0 : decide ((0 : Int) ≤ (i : Int)) = true := by simp
    simp only [bndE_s, sumE_r, hm, h0, Bool.not_true, iteE_f, idxE_n hd, EqualFunc_eq _ _ he, hd]
theorem ref08_Right_eq (l : List TDecl) (e : TEvent) (hl : l.length ≤ 9223372036854775807) (he : e.args.length ≤ 9223372036854775807) : ref08_Right l e = some (eR l e) := by
  unfold ref08_Right
  rw [ref07_Find_eq l _ hl, bndE_s]
  unfold eR
  cases hf : findS l e.name with
  | none => simp [iteE]
  | some i =>
    obtain ⟨d, hd, _⟩ := findS_some hf
    dsimp only
    rw [iteP, if_neg (Int.not_lt.2 (Int.natCast_nonneg i)), idxE_n hd, hd, iteE_if, len_dec]
    dsimp only
    unfold argsS
    by_cases hl2 : d.types.length = e.args.length
    · rw [if_neg (by simp [hl2])]
      unfold ref08_Right_l1
      have hz : (e.args.zip d.types).length = e.args.length := by simp [hl2]
      rw [loop_all0 (e.args.zip d.types) (fun p => decide (p.1.kind = p.2) && vR p.1) (.inl () : Unit ⊕ Unit) (.inr ())
        (fun i z hz => by
          obtain ⟨hx, hy⟩ := zip_get hz
          simp only [ref08_Right_l1_s, ltD hx, iteE_t, idxE_n hx, idxE_n hd, idxE_n hy, ref03_Right_eq, bndE_s, succW hx he]
          by_cases h : z.1.kind = z.2 <;> cases hv : vR z.1 <;> simp [h, iteE])
        (by rw [hz]; simp only [ref08_Right_l1_s, ltI, iteE_f]), bndE_s]
      cases (e.args.zip d.types).all _ <;> simp [sumE, hl2]
    · rw [if_pos (by simp [hl2])]
      have : ¬ e.args.length = d.types.length := fun h => hl2 h.symm
      simp [this]

theorem midI {i j : Nat} (h : i + j < 4611686018427387904) : IntKind.wrap .i64 (intVal .shr .u64 (IntKind.wrap .u64 (intVal .add .i64 (i : Int) (j : Int))) 1) = (((i + j) / 2 : Nat) : Int) := by
  have e1 : intVal .add .i64 (i : Int) (j : Int) = ((i + j : Nat) : Int) := by rw [addI (by omega) (by omega)]; omega
  rw [e1, wrapU_nat (by omega)]
  have e2 : intVal .shr .u64 (((i + j : Nat)) : Int) 1 = (((i + j) / 2 ^ 1 : Nat) : Int) := shrU (n := i + j) (k := 1) (by decide)
  rw [e2, Nat.pow_one, wrapI (by omega) (by omega)]
theorem bs_loop {step : Int × Int → Option ((Int × Int) ⊕ Int)} (n : Nat) (lt : Nat → Bool)
    (h1 : ∀ i j : Nat, i < j → j ≤ n → step ((i : Int), (j : Int)) = some (.inl (if lt ((i + j) / 2) = true then ((((i + j) / 2 + 1 : Nat) : Int), (j : Int)) else ((i : Int), (((i + j) / 2 : Nat) : Int)))))
    (h2 : ∀ i : Nat, step ((i : Int), (i : Int)) = some (.inr (i : Int))) (hm : ∀ a b, a ≤ b → b < n → lt b = true → lt a = true) :
    ∃ k : Nat, k ≤ n ∧ loopE step (0, (n : Int)) = some (k : Int) ∧ (∀ a, a < k → lt a = true) ∧ ∀ a, k ≤ a → a < n → lt a = false := by
  obtain ⟨t, ht, k, hk, rfl, p1, p2⟩ := loopE_ex (step := step) (fun s => ∃ i j : Nat, s = ((i : Int), (j : Int)) ∧ i ≤ j ∧ j ≤ n ∧ (∀ a, a < i → lt a = true) ∧ ∀ a, j ≤ a → a < n → lt a = false) (fun s => (s.2 - s.1).toNat)
    (fun t => ∃ k : Nat, k ≤ n ∧ t = (k : Int) ∧ (∀ a, a < k → lt a = true) ∧ ∀ a, k ≤ a → a < n → lt a = false)
    (by
      rintro s ⟨i, j, rfl, hij, hj, q1, q2⟩
      rcases Nat.lt_or_ge i j with h | h
      · right
        cases hl : lt ((i + j) / 2) with
        | true =>
          refine ⟨((((i + j) / 2 + 1 : Nat) : Int), (j : Int)), by rw [h1 i j h hj, hl]; rfl, ⟨(i + j) / 2 + 1, j, rfl, by omega, hj, fun a ha => hm a ((i + j) / 2) (by omega) (by omega) hl, q2⟩, by simp only; omega⟩
        | false =>
          refine ⟨((i : Int), (((i + j) / 2 : Nat) : Int)), by rw [h1 i j h hj, hl]; rfl, ⟨i, (i + j) / 2, rfl, by omega, by omega, q1, fun a ha hn => ?_⟩, by simp only; omega⟩
          rcases Nat.lt_or_ge a j with g | g
          · cases hla : lt a with
            | false => rfl
            | true => rw [hm ((i + j) / 2) a ha hn hla] at hl; cases hl
          · exact q2 a g hn
      · have : i = j := by omega
        subst this
        exact .inl ⟨(i : Int), h2 i, i, hj, rfl, q1, q2⟩)
    (0, (n : Int)) ⟨0, n, rfl, by omega, Nat.le_refl _, fun a ha => by omega, fun a ha hn => by omega⟩
  exact ⟨k, hk, ht, p1, p2⟩

def SV (w : List TSlot) : Prop := w.Pairwise (fun a b => a.var < b.var) ∧ ∀ s ∈ w, 0 ≤ s.var ∧ s.var ≤ 63
theorem sorted_ext : ∀ {a b : List TSlot}, a.Pairwise (fun x y => x.var < y.var) → b.Pairwise (fun x y => x.var < y.var) → (∀ s, s ∈ a ↔ s ∈ b) → a = b
  | [], [], _, _, _ => rfl
  | [], y :: b, _, _, h => by have := (h y).2 (by simp); simp at this
  | x :: a, [], _, _, h => by have := (h x).1 (by simp); simp at this
  | x :: a, y :: b, ha, hb, h => by
    obtain ⟨ha1, ha2⟩ := List.pairwise_cons.1 ha
    obtain ⟨hb1, hb2⟩ := List.pairwise_cons.1 hb
    have hxy : x = y := by
      rcases List.mem_cons.1 ((h x).1 (by simp)) with e | e
      · exact e
      · rcases List.mem_cons.1 ((h y).2 (by simp)) with e2 | e2
        · exact e2.symm
        · have := hb1 x e; have := ha1 y e2; omega
    subst hxy
    congr 1
    refine sorted_ext ha2 hb2 fun s => ⟨fun hs => ?_, fun hs => ?_⟩
    · rcases List.mem_cons.1 ((h s).1 (List.mem_cons_of_mem _ hs)) with e | e
      · subst e; have := ha1 s hs; omega
      · exact e
    · rcases List.mem_cons.1 ((h s).2 (List.mem_cons_of_mem _ hs)) with e | e
      · subst e; have := hb1 s hs; omega
      · exact e
def insV : List TSlot → TSlot → List TSlot
  | [], x => [x]
  | y :: l, x => if x.var < y.var then x :: y :: l else y :: insV l x
theorem insV_mem : ∀ (l : List TSlot) (x s : TSlot), s ∈ insV l x ↔ s = x ∨ s ∈ l
  | [], x, s => by simp [insV]
  | y :: l, x, s => by
    unfold insV
    split
    · simp
    · rw [List.mem_cons, insV_mem l x s, List.mem_cons]
      constructor
      · rintro (h | h | h) <;> simp [h]
      · rintro (h | h | h) <;> simp [h]
theorem insV_sorted : ∀ (l : List TSlot) (x : TSlot), l.Pairwise (fun a b => a.var < b.var) → (∀ s ∈ l, s.var ≠ x.var) → (insV l x).Pairwise (fun a b => a.var < b.var)
  | [], x, _, _ => by simp [insV]
  | y :: l, x, h, hn => by
    obtain ⟨h1, h2⟩ := List.pairwise_cons.1 h
    unfold insV
    split
    · rename_i hxy
      refine List.pairwise_cons.2 ⟨fun s hs => ?_, h⟩
      rcases List.mem_cons.1 hs with rfl | hs
      · exact hxy
      · have := h1 s hs; omega
    · rename_i hxy
      refine List.pairwise_cons.2 ⟨fun s hs => ?_, insV_sorted l x h2 fun s hs => hn s (List.mem_cons_of_mem _ hs)⟩
      rcases (insV_mem l x s).1 hs with rfl | hs
      · have := hn y (by simp); omega
      · exact h1 s hs
theorem insV_len : ∀ (l : List TSlot) (x : TSlot), (insV l x).length = l.length + 1
  | [], x => rfl
  | y :: l, x => by unfold insV; split <;> simp [insV_len l x]
theorem getS_none {l : List TSlot} {v : Int} (h : (getS l v).2 = false) : ∀ s ∈ l, s.var ≠ v := by
  intro s hs e
  unfold getS at h
  cases hf : l.findSome? (fun s => if s.var = v then some s.value else none) with
  | some x => rw [hf] at h; cases h
  | none =>
    rw [List.findSome?_eq_none_iff] at hf
    have := hf s hs
    simp [e] at this
theorem getS_sorted {l : List TSlot} (hl : l.Pairwise (fun a b => a.var < b.var)) {s : TSlot} (h : s ∈ l) : getS l s.var = (s.value, true) := by
  have key : ∀ (l : List TSlot), l.Pairwise (fun a b => a.var < b.var) → s ∈ l → l.findSome? (fun t => if t.var = s.var then some t.value else none) = some s.value := by
    intro l
    induction l with
    | nil => intro _ h; simp at h
    | cons t l ih =>
      intro hp hs
      rw [List.findSome?_cons]
      obtain ⟨h1, h2⟩ := List.pairwise_cons.1 hp
      rcases List.mem_cons.1 hs with rfl | hs
      · simp
      · have := h1 s hs
        rw [if_neg (by omega)]
        exact ih h2 hs
  unfold getS
  rw [key l hl h]
def putV (w : List TSlot) (x : TSlot) : Option (List TSlot) := if (getS w x.var).2 = true then (if (getS w x.var).1 = x.value then some w else none) else some (insV w x)
theorem putV_ok {w w' : List TSlot} {x : TSlot} (hw : SV w) (hx : 0 ≤ x.var ∧ x.var ≤ 63) (h : putV w x = some w') : SV w' ∧ w'.length ≤ w.length + 1 := by
  unfold putV at h
  split at h
  · split at h
    · cases h; exact ⟨hw, by omega⟩
    · cases h
  · rename_i hn
    cases h
    have hn' : (getS w x.var).2 = false := by simpa using hn
    refine ⟨⟨insV_sorted w x hw.1 (getS_none hn'), fun s hs => ?_⟩, by rw [insV_len]; exact Nat.le_refl _⟩
    rcases (insV_mem w x s).1 hs with rfl | hs
    · exact hx
    · exact hw.2 s hs
theorem cut_ins {w : List TSlot} {x : TSlot} (hw : w.Pairwise (fun a b => a.var < b.var)) (hn : ∀ s ∈ w, s.var ≠ x.var) {k : Nat} (hk : k ≤ w.length) (h1 : ∀ j s, w[j]? = some s → j < k → s.var < x.var) (h2 : ∀ j s, w[j]? = some s → k ≤ j → x.var < s.var) :
    w.take k ++ [x] ++ w.drop k = insV w x := by
  refine sorted_ext ?_ (insV_sorted w x hw hn) fun s => ?_
  · rw [List.append_assoc, List.singleton_append]
    have hd : ∀ s ∈ w.drop k, x.var < s.var := fun s hs => by
      obtain ⟨j, hj, rfl⟩ := List.mem_iff_getElem.1 hs
      rw [List.getElem_drop]
      exact h2 (k + j) _ (List.getElem?_eq_getElem (by simp at hj; omega)) (by omega)
    have htk : ∀ s ∈ w.take k, s.var < x.var := fun s hs => by
      obtain ⟨j, hj, rfl⟩ := List.mem_iff_getElem.1 hs
      rw [List.getElem_take]
      simp at hj
      exact h1 j _ (List.getElem?_eq_getElem (by omega)) (by omega)
    refine List.pairwise_append.2 ⟨hw.sublist (List.take_sublist _ _), List.pairwise_cons.2 ⟨hd, hw.sublist (List.drop_sublist _ _)⟩, fun a ha b hb => ?_⟩
    rcases List.mem_cons.1 hb with rfl | hb
    · exact htk a ha
    · have := htk a ha; have := hd b hb; omega
  · rw [insV_mem]
    have hw2 : s ∈ w ↔ s ∈ w.take k ∨ s ∈ w.drop k := by
      conv => lhs; rw [← List.take_append_drop k w]
      rw [List.mem_append]
    rw [hw2]
    simp only [List.mem_append, List.mem_singleton]
    constructor
    · rintro ((h | h) | h) <;> simp [h]
    · rintro (h | h | h) <;> simp [h]
theorem bs_slots {w : List TSlot} {v : Int} (hw : SV w) (hv : 0 ≤ v ∧ v ≤ 63) (hl : w.length ≤ 1000) :
    ∃ k : Nat, k ≤ w.length ∧ slices_BinarySearchFunc_Slot_Slot_int w v = some ((k : Int), (getS w v).2) ∧ (∀ j s, w[j]? = some s → j < k → s.var < v) ∧ (∀ j s, w[j]? = some s → k ≤ j → v ≤ s.var) ∧
      ((getS w v).2 = true → ∃ s, w[k]? = some s ∧ s.var = v) := by
  have hsub : ∀ s ∈ w, match_slots_put_1 s v = some (s.var - v) := fun s hs => by
    have := hw.2 s hs
    unfold match_slots_put_1; rw [subI (by omega) (by omega)]
  unfold slices_BinarySearchFunc_Slot_Slot_int slices_BinarySearchFunc_Slot_Slot_int_l1
  obtain ⟨k, hk, hkr, p1, p2⟩ := bs_loop (step := fun s : Int × Int => slices_BinarySearchFunc_Slot_Slot_int_l1_s w v (w.length : Int) s.1 s.2) w.length (fun a => match w[a]? with | some s => decide (s.var < v) | none => false)
    (fun i j hij hj => by
      obtain ⟨x, hx, _⟩ := get_lt (l := w) (i := (i + j) / 2) (by omega)
      have hd : decide ((i : Int) < (j : Int)) = true := by simp; omega
      simp only [slices_BinarySearchFunc_Slot_Slot_int_l1_s, hd, iteE_t, slices_BinarySearchFunc_Slot_Slot_int_b2, midI (show i + j < 4611686018427387904 by omega), idxE_n hx, hsub x (List.mem_of_getElem? hx), bndE_s, slices_BinarySearchFunc_Slot_Slot_int_b3, hx]
      by_cases h : x.var < v
      · have h' : x.var - v < 0 := by omega
        simp only [h, h', decide_true, iteE_t, bndE_s, if_true, succI (show (i + j) / 2 < 9223372036854775807 by omega)]
      · have h' : ¬ x.var - v < 0 := by omega
        simp [h, h', iteE, bndE])
    (fun i => by simp [slices_BinarySearchFunc_Slot_Slot_int_l1_s, iteE])
    (fun a b hab hb h => by
      obtain ⟨x, hx, _⟩ := get_lt (l := w) (i := a) (by omega)
      obtain ⟨y, hy, _⟩ := get_lt (l := w) (i := b) hb
      simp only [hx, hy, decide_eq_true_eq] at h ⊢
      rcases Nat.lt_or_ge a b with g | g
      · obtain ⟨ha', rfl⟩ := List.getElem?_eq_some_iff.1 hx
        obtain ⟨hb', rfl⟩ := List.getElem?_eq_some_iff.1 hy
        have := List.pairwise_iff_getElem.1 hw.1 a b ha' hb' g; omega
      · have : a = b := by omega
        subst this; rw [hx] at hy; cases hy; exact h)
  have q1 : ∀ j s, w[j]? = some s → j < k → s.var < v := fun j s hs hj => by
    have := p1 j hj; simp only [hs] at this; simpa using this
  have q2 : ∀ j s, w[j]? = some s → k ≤ j → v ≤ s.var := fun j s hs hj => by
    have := p2 j hj (getLt hs); simp only [hs] at this; simp at this; exact this
  refine ⟨k, hk, ?_, q1, q2, ?_⟩
  · rw [hkr, bndE_s]
    by_cases h : k < w.length
    · obtain ⟨x, hx, _⟩ := get_lt h
      rw [iteP, if_pos (by omega), idxE_n hx, hsub x (List.mem_of_getElem? hx), bndE_s]
      have hge := q2 k x hx (Nat.le_refl _)
      by_cases hv2 : x.var = v
      · have := getS_sorted hw.1 (List.mem_of_getElem? hx)
        rw [hv2] at this
        simp [this, hv2]
      · cases hg : (getS w v).2 with
        | false => have : ¬ x.var - v = 0 := by omega
                   simp [this]
        | true =>
          have hm := getS_mem (l := w) (v := v) (x := (getS w v).1) (by rw [← hg])
          obtain ⟨j, hj, hjs⟩ := List.mem_iff_getElem.1 hm
          have hjg : w[j]? = some (TSlot.mk v (getS w v).1) := by rw [List.getElem?_eq_getElem hj, hjs]
          rcases Nat.lt_trichotomy j k with g | g | g
          · have := q1 j _ hjg g; simp at this
          · subst g; rw [hx] at hjg; cases hjg; exact absurd rfl hv2
          · obtain ⟨hk', hxe⟩ := List.getElem?_eq_some_iff.1 hx
            have := List.pairwise_iff_getElem.1 hw.1 k j hk' hj g
            rw [hxe, hjs] at this
            simp only at this; omega
    · rw [iteP, if_neg (by omega)]
      cases hg : (getS w v).2 with
      | false => rfl
      | true =>
        have hm := getS_mem (l := w) (v := v) (x := (getS w v).1) (by rw [← hg])
        obtain ⟨j, hj, hjs⟩ := List.mem_iff_getElem.1 hm
        have := q1 j _ (by rw [List.getElem?_eq_getElem hj, hjs]) (by omega)
        simp at this
  · intro hg
    have hm := getS_mem (l := w) (v := v) (x := (getS w v).1) (by rw [← hg])
    obtain ⟨j, hj, hjs⟩ := List.mem_iff_getElem.1 hm
    have hjg : w[j]? = some (TSlot.mk v (getS w v).1) := by rw [List.getElem?_eq_getElem hj, hjs]
    have hkj : k ≤ j := Nat.le_of_not_lt fun g => by have := q1 j _ hjg g; simp at this
    obtain ⟨x, hx, _⟩ := get_lt (l := w) (i := k) (by omega)
    refine ⟨x, hx, ?_⟩
    have hge := q2 k x hx (Nat.le_refl _)
    rcases Nat.eq_or_lt_of_le hkj with e | e
    · subst e; rw [hx] at hjg; cases hjg; rfl
    · obtain ⟨hk', hxe⟩ := List.getElem?_eq_some_iff.1 hx
      have := List.pairwise_iff_getElem.1 hw.1 k j hk' hj e
      rw [hxe, hjs] at this
      simp only at this; omega
theorem put_eq {w : List TSlot} {x : TSlot} (hw : SV w) (hx : 0 ≤ x.var ∧ x.var ≤ 63) (hl : w.length ≤ 900) :
    ∃ r, match_slots_put_v3 x w = some r ∧ match putV w x with | none => r.1 = false | some w' => r = (true, w') := by
  unfold match_slots_put_v3
  obtain ⟨k, hk, hb, q1, q2, q3⟩ := bs_slots hw hx (show w.length ≤ 1000 by omega)
  rw [hb, bndE_s]
  unfold putV
  cases hg : (getS w x.var).2 with
  | true =>
    obtain ⟨s, hs, hsv⟩ := q3 hg
    have hklt := getLt hs
    have hgs := getS_sorted hw.1 (List.mem_of_getElem? hs)
    rw [hsv] at hgs
    simp only [iteE_t]
    rw [chkE_p (by omega), idxE_n hs]
    refine ⟨_, rfl, ?_⟩
    rw [hgs]
    simp only [if_true, TSlot.eqb_dec]
    have he : (s = x) ↔ s.value = x.value := by
      obtain ⟨a, b⟩ := s; obtain ⟨c, d⟩ := x
      simp only at hsv; subst hsv; simp
    by_cases h : s.value = x.value
    · rw [if_pos h]; simp [he, h]
    · rw [if_neg h]; simp [he, h]
  | false =>
    have hn := getS_none hg
    simp only [iteE_f, Bool.false_eq_true, if_false]
    have hin : slices_Insert_Slot_Slot_v2 (k : Int) w [x] = some (insV w x) := by
      unfold slices_Insert_Slot_Slot_v2 insE
      rw [if_pos ⟨by omega, by omega, by simp, fit_small (by simp; omega) (by decide)⟩, Int.toNat_natCast]
      rw [cut_ins hw.1 hn hk q1 (fun j s hs hj => by
        have h1 := q2 j s hs hj
        have h2 := hn s (List.mem_of_getElem? hs)
        omega)]
    exact ⟨_, by rw [hin]; rfl, rfl⟩
def fitS : List TArg → List TValue → List TSlot → List TSlot → Option (List TSlot × List TSlot)
  | a :: al, x :: xs, b, f =>
    if a.kind = 1 then (if a.value = x then fitS al xs b f else none)
    else if a.kind = 2 then (match putV b ⟨a.n, x⟩ with | none => none | some b' => fitS al xs b' f)
    else if a.kind = 3 then (match putV f ⟨a.n, x⟩ with | none => none | some f' => fitS al xs b f')
    else fitS al xs b f
  | _, _, b, f => some (b, f)
def ArgV (a : TArg) : Prop := (a.kind = 2 → 0 ≤ a.n ∧ a.n ≤ 7) ∧ (a.kind = 3 → 0 ≤ a.n ∧ a.n ≤ 63)
def B7 (b : List TSlot) : Prop := ∀ s ∈ b, s.var ≤ 7
theorem putV_7 {w w' : List TSlot} {x : TSlot} (hw : B7 w) (hx : x.var ≤ 7) (h : putV w x = some w') : B7 w' := by
  unfold putV at h
  split at h
  · split at h
    · cases h; exact hw
    · cases h
  · cases h
    intro s hs
    rcases (insV_mem w x s).1 hs with rfl | hs
    · exact hx
    · exact hw s hs
theorem fitS_ok : ∀ (al : List TArg) (xs : List TValue) (b f : List TSlot) (p : List TSlot × List TSlot), (∀ a ∈ al, ArgV a) → SV b → SV f → B7 b → fitS al xs b f = some p → SV p.1 ∧ SV p.2 ∧ B7 p.1 ∧ p.1.length ≤ b.length + al.length ∧ p.2.length ≤ f.length + al.length
  | [], xs, b, f, p, _, hb, hf, h7, h => by simp only [fitS] at h; cases h; exact ⟨hb, hf, h7, by simp, by simp⟩
  | a :: al, [], b, f, p, _, hb, hf, h7, h => by simp only [fitS] at h; cases h; exact ⟨hb, hf, h7, by simp, by simp⟩
  | a :: al, x :: xs, b, f, p, hA, hb, hf, h7, h => by
    have hA' : ∀ a ∈ al, ArgV a := fun a h => hA a (List.mem_cons_of_mem _ h)
    have hAa := hA a (by simp)
    simp only [fitS] at h
    split at h
    · split at h
      · obtain ⟨a1, a2, a3, a4, a5⟩ := fitS_ok al xs b f p hA' hb hf h7 h
        exact ⟨a1, a2, a3, by simp; omega, by simp; omega⟩
      · cases h
    · split at h
      · rename_i h2
        split at h
        · cases h
        · rename_i b' hp
          have hv := hAa.1 h2
          obtain ⟨c1, c2⟩ := putV_ok hb (x := ⟨a.n, x⟩) ⟨hv.1, by simp only; omega⟩ hp
          obtain ⟨a1, a2, a3, a4, a5⟩ := fitS_ok al xs b' f p hA' c1 hf (putV_7 h7 (by simp only; omega) hp) h
          exact ⟨a1, a2, a3, by simp; omega, by simp; omega⟩
      · split at h
        · rename_i h3
          split at h
          · cases h
          · rename_i f' hp
            have hv := hAa.2 h3
            obtain ⟨c1, c2⟩ := putV_ok hf (x := ⟨a.n, x⟩) hv hp
            obtain ⟨a1, a2, a3, a4, a5⟩ := fitS_ok al xs b f' p hA' hb c1 h7 h
            exact ⟨a1, a2, a3, by simp; omega, by simp; omega⟩
        · obtain ⟨a1, a2, a3, a4, a5⟩ := fitS_ok al xs b f p hA' hb hf h7 h
          exact ⟨a1, a2, a3, by simp; omega, by simp; omega⟩
theorem fit_loop {al : List TArg} {e : TEvent} (hlen : al.length = e.args.length) (h12 : al.length ≤ 12) (hA : ∀ a ∈ al, ArgV a) : ∀ (n i : Nat) (b f : List TSlot), al.length - i = n → i ≤ al.length → SV b → SV f → b.length ≤ i → f.length ≤ i →
    ∃ o, match_fit_v2_l1 al (al.length : Int) e (i : Int) b f = some o ∧ match fitS (al.drop i) (e.args.drop i) b f with | none => ∃ z, o = .inr z | some p => o = .inl p := by
  intro n
  induction n with
  | zero =>
    intro i b f hn hi _ _ _ _
    have : i = al.length := by omega
    subst this
    rw [match_fit_v2_l1_eq]
    refine ⟨.inl (b, f), by simp only [match_fit_v2_l1_s, ltI, iteE_f, nextE_r], ?_⟩
    rw [List.drop_length]; simp [fitS]
  | succ n ih =>
    intro i b f hn hi hb hf hbl hfl
    obtain ⟨a, ha, hda⟩ := get_lt (l := al) (i := i) (by omega)
    obtain ⟨x, hx, hdx⟩ := get_lt (l := e.args) (i := i) (by omega)
    have hAa := hA a (List.mem_of_getElem? ha)
    rw [match_fit_v2_l1_eq, hda, hdx]
    simp only [match_fit_v2_l1_s, ltD ha, iteE_t, idxE_n ha, idxE_n hx, succW ha (show al.length ≤ 9223372036854775807 by omega), TValue.eqb_dec]
    simp only [fitS]
    by_cases h1 : a.kind = 1
    · have h2 : ¬ a.kind = 2 := by omega
      have h3 : ¬ a.kind = 3 := by omega
      by_cases hv : a.value = x
      · obtain ⟨o, ho, hm⟩ := ih (i + 1) b f (by omega) (by omega) hb hf (by omega) (by omega)
        refine ⟨o, by simp [h1, hv, iteE, nextE]; exact_mod_cast ho, by simpa [h1, hv] using hm⟩
      · exact ⟨.inr (b, f), by simp [h1, hv, iteE, nextE], by simp [h1, hv]⟩
    by_cases h2 : a.kind = 2
    · have h3 : ¬ a.kind = 3 := by omega
      have hvr := hAa.1 h2
      obtain ⟨r, hr, hrm⟩ := put_eq (w := b) (x := ⟨a.n, x⟩) hb ⟨hvr.1, by simp only; omega⟩ (by omega)
      rw [hr]
      cases hp : putV b ⟨a.n, x⟩ with
      | none =>
        rw [hp] at hrm
        simp only at hrm
        exact ⟨.inr (r.2, f), by simp [h1, h2, hrm, iteE, nextE, bndE], by simp [h1, h2]⟩
      | some b' =>
        rw [hp] at hrm
        simp only at hrm
        subst hrm
        obtain ⟨c1, c2⟩ := putV_ok hb (x := ⟨a.n, x⟩) ⟨hvr.1, by simp only; omega⟩ hp
        obtain ⟨o, ho, hm⟩ := ih (i + 1) b' f (by omega) (by omega) c1 hf (by omega) (by omega)
        refine ⟨o, by simp [h1, h2, h3, iteE, nextE, bndE]; exact_mod_cast ho, by simpa [h1, h2] using hm⟩
    by_cases h3 : a.kind = 3
    · have hvr := hAa.2 h3
      obtain ⟨r, hr, hrm⟩ := put_eq (w := f) (x := ⟨a.n, x⟩) hf hvr (by omega)
      rw [hr]
      cases hp : putV f ⟨a.n, x⟩ with
      | none =>
        rw [hp] at hrm
        simp only at hrm
        exact ⟨.inr (b, r.2), by simp [h1, h2, h3, hrm, iteE, nextE, bndE], by simp [h1, h2, h3]⟩
      | some f' =>
        rw [hp] at hrm
        simp only at hrm
        subst hrm
        obtain ⟨c1, c2⟩ := putV_ok hf (x := ⟨a.n, x⟩) hvr hp
        obtain ⟨o, ho, hm⟩ := ih (i + 1) b f' (by omega) (by omega) hb c1 (by omega) (by omega)
        refine ⟨o, by simp [h1, h2, h3, iteE, nextE, bndE]; exact_mod_cast ho, by simpa [h1, h2, h3] using hm⟩
    · obtain ⟨o, ho, hm⟩ := ih (i + 1) b f (by omega) (by omega) hb hf (by omega) (by omega)
      refine ⟨o, by simp [h1, h2, h3, iteE, nextE]; exact_mod_cast ho, by simpa [h1, h2, h3] using hm⟩
def fitsS (a b : List TSlot) : Bool := a.all fun s => !(getS b s.var).2 || decide ((getS b s.var).1 = s.value)
theorem ref05_Fits_eq (a b : List TSlot) (ha : a.length ≤ 9223372036854775807) (hb : b.length ≤ 9223372036854775807) : ref05_Fits a b = some (fitsS a b) := by
  unfold ref05_Fits ref05_Fits_l1
  rw [loop_all0 a (fun s => !(getS b s.var).2 || decide ((getS b s.var).1 = s.value)) (.inl () : Unit ⊕ Unit) (.inr ())
    (fun i x hx => by
      simp only [ref05_Fits_l1_s, ltD hx, iteE_t, idxE_n hx, succW hx ha, ref05_Get_eq b _ hb, bndE_s, TValue.eqb_dec]
      obtain ⟨y, o⟩ := getS b x.var
      cases o
      · simp [iteE]
      · by_cases h : y = x.value <;> simp [iteE, h])
    (by simp only [ref05_Fits_l1_s, ltI, iteE_f]), bndE_s]
  unfold fitsS
  cases a.all _ <;> rfl
theorem getS_one (x : TSlot) (v : Int) : getS [x] v = if x.var = v then (x.value, true) else (zV, false) := by
  unfold getS
  by_cases h : x.var = v <;> simp [h]
def unionF (a b : List TSlot) (v : Nat) : Option TSlot :=
  if (getS a v).2 = true then some ⟨v, (getS a v).1⟩ else if (getS b v).2 = true then some ⟨v, (getS b v).1⟩ else none
def unionS (a b : List TSlot) : List TSlot := (List.range 8).filterMap (unionF a b)
theorem ref05_Union_eq (a b : List TSlot) (ha : a.length ≤ 9223372036854775807) (hb : b.length ≤ 9223372036854775807) : ref05_Union a b = some (unionS a b) := by
  unfold ref05_Union ref05_Union_l1
  have hg : ∀ (l : List TSlot) (v : Int), l.length ≤ 9223372036854775807 → ref05_Get l v = some (getS l v) := fun l v hl => ref05_Get_eq l v hl
  have h := loop_fold (step := fun s : Int × List TSlot => ref05_Union_l1_s a b s.1 s.2) (List.range 8) (fun w v => w ++ (unionF a b v).toList) (fun w => w) (fun i w => w.length ≤ i)
    (fun i x w hx hI => by
      have hi : i < 8 := by simpa using getLt hx
      have hxi : x = i := by
        rw [List.getElem?_range hi] at hx; cases hx; rfl
      subst hxi
      have hd : decide ((x : Int) < 8) = true := by simp; omega
      refine ⟨?_, ?_⟩
      · simp only [ref05_Union_l1_s, hd, iteE_t, ref05_Union_b5, hg a _ ha, hg b _ hb, bndE_s, ref05_Union_b6, ref05_Union_b7, succI (show x < 9223372036854775807 by omega), unionF]
        rw [chkF (by simp; omega) (by decide), chkF (by simp; omega) (by decide)]
        cases (getS a (x : Int)).2 <;> cases (getS b (x : Int)).2 <;> simp [iteE, bndE]
      · unfold unionF
        split
        · simpa using hI
        · split
          · simpa using hI
          · simp; omega)
    (fun w _ => by simp [ref05_Union_l1_s, iteE]) [] (by simp)
  rw [h, bndE_s]
  congr 1
  unfold unionS
  have key : ∀ (l : List Nat) (w : List TSlot), l.foldl (fun w v => w ++ (unionF a b v).toList) w = w ++ l.filterMap (unionF a b) := by
    intro l
    induction l with
    | nil => intro w; simp
    | cons v l ih => intro w; rw [List.foldl_cons, ih, List.filterMap_cons]; cases unionF a b v <;> simp
  rw [key]; simp
theorem unionF_var {a b : List TSlot} {v : Nat} {s : TSlot} (h : unionF a b v = some s) : s.var = (v : Int) := by
  unfold unionF at h
  split at h
  · cases h; rfl
  · split at h
    · cases h; rfl
    · cases h
theorem unionS_sorted (a b : List TSlot) : (unionS a b).Pairwise (fun x y => x.var < y.var) := by
  unfold unionS
  have h8 : (List.range 8).Pairwise (· < ·) := List.pairwise_lt_range
  rw [List.pairwise_filterMap]
  refine h8.imp fun {v w} hvw s hs t ht => ?_
  have := unionF_var hs; have := unionF_var ht; omega
theorem unionS_mem {a b : List TSlot} {s : TSlot} : s ∈ unionS a b ↔ 0 ≤ s.var ∧ s.var ≤ 7 ∧ (getS a s.var = (s.value, true) ∨ (getS a s.var).2 = false ∧ getS b s.var = (s.value, true)) := by
  unfold unionS
  rw [List.mem_filterMap]
  constructor
  · rintro ⟨v, hv, h⟩
    have hv8 : v < 8 := by simpa using hv
    have hsv := unionF_var h
    refine ⟨by omega, by omega, ?_⟩
    rw [hsv]
    unfold unionF at h
    split at h
    · rename_i ha; cases h; left; simp only; rw [← ha]
    · rename_i ha
      split at h
      · rename_i hb; cases h; right; exact ⟨by simpa using ha, by simp only; rw [← hb]⟩
      · cases h
  · rintro ⟨h0, h7, h⟩
    refine ⟨s.var.toNat, by simp; omega, ?_⟩
    have e : ((s.var.toNat : Nat) : Int) = s.var := by omega
    unfold unionF
    rw [e]
    rcases h with h | ⟨h, h'⟩
    · rw [h]; simp
    · rw [h, h']; simp
theorem fits_one {b : List TSlot} {x : TSlot} (hb : SV b) : fitsS b [x] = (putV b x).isSome := by
  unfold fitsS putV
  cases hg : (getS b x.var).2 with
  | true =>
    have hm := getS_mem (l := b) (v := x.var) (x := (getS b x.var).1) (by rw [← hg])
    by_cases hv : (getS b x.var).1 = x.value
    · simp only [if_true, hv, Option.isSome_some]
      rw [List.all_eq_true]
      intro s hs
      rw [getS_one]
      by_cases h : x.var = s.var
      · have := getS_sorted hb.1 hs
        rw [← h] at this
        rw [this] at hv
        simp [h, ← hv]
      · simp [h]
    · simp only [if_true, hv, if_false, Option.isSome_none]
      rw [List.all_eq_false]
      refine ⟨_, hm, ?_⟩
      rw [getS_one]
      simp
      exact fun h => hv h.symm
  | false =>
    simp only [Bool.false_eq_true, if_false, Option.isSome_some]
    rw [List.all_eq_true]
    intro s hs
    rw [getS_one]
    have := getS_none hg s hs
    have h' : ¬ x.var = s.var := fun h => this h.symm
    simp [h']
theorem union_one {b w : List TSlot} {x : TSlot} (hb : SV b) (h7 : B7 b) (hx : 0 ≤ x.var ∧ x.var ≤ 7) (h : putV b x = some w) : unionS b [x] = w := by
  have hw := putV_ok hb (x := x) ⟨hx.1, by omega⟩ h
  refine sorted_ext (unionS_sorted _ _) hw.1.1 fun s => ?_
  rw [unionS_mem, getS_one]
  unfold putV at h
  split at h
  · rename_i hg
    split at h
    · rename_i hv
      cases h
      constructor
      · rintro ⟨_, _, h1 | ⟨h1, h2⟩⟩
        · exact getS_mem h1
        · split at h2
          · rename_i e; rw [e] at hg; rw [h1] at hg; cases hg
          · simp at h2
      · intro hs
        exact ⟨(hb.2 s hs).1, h7 s hs, .inl (getS_sorted hb.1 hs)⟩
    · cases h
  · rename_i hg
    have hg' : (getS b x.var).2 = false := by simpa using hg
    cases h
    rw [insV_mem]
    constructor
    · rintro ⟨_, _, h1 | ⟨h1, h2⟩⟩
      · exact .inr (getS_mem h1)
      · split at h2
        · rename_i e
          left
          obtain ⟨a, c⟩ := s
          obtain ⟨a', c'⟩ := x
          simp only at e h2
          subst e
          simp at h2
          rw [h2]
        · simp at h2
    · rintro (rfl | hs)
      · exact ⟨hx.1, hx.2, .inr ⟨hg', by simp⟩⟩
      · exact ⟨(hb.2 s hs).1, h7 s hs, .inl (getS_sorted hb.1 hs)⟩
theorem ref17_put_eq {w : List TSlot} {x : TSlot} (hw : SV w) (hn : ∀ s ∈ w, s.var ≠ x.var) (hl : w.length ≤ 1000) : ref17_put w x = some (insV w x) := by
  unfold ref17_put ref17_put_l1
  obtain ⟨t, ht, k, hk, rfl, p1, p2⟩ := loopE_ex (step := fun s => ref17_put_l1_s w x s) (fun s => ∃ i : Nat, s = (i : Int) ∧ i ≤ w.length ∧ ∀ j s, w[j]? = some s → i ≤ j → x.var < s.var) (fun s => s.toNat)
    (fun t => ∃ k : Nat, k ≤ w.length ∧ t = (k : Int) ∧ (∀ j s, w[j]? = some s → j < k → s.var < x.var) ∧ ∀ j s, w[j]? = some s → k ≤ j → x.var < s.var)
    (by
      rintro s ⟨i, rfl, hi, hj⟩
      cases i with
      | zero => exact .inl ⟨0, by simp [ref17_put_l1_s, iteE], 0, by omega, rfl, fun j s _ h => by omega, hj⟩
      | succ i =>
        obtain ⟨y, hy, _⟩ := get_lt (l := w) (i := i) (by omega)
        have e : intVal .sub .i64 ((i + 1 : Nat) : Int) 1 = (i : Int) := by rw [subI (by omega) (by omega)]; omega
        have hd : decide ((0 : Int) < ((i + 1 : Nat) : Int)) = true := by simp
        simp only [ref17_put_l1_s, hd, iteE_t, e, idxE_n hy]
        by_cases h : x.var < y.var
        · refine .inr ⟨_, by simp only [h, decide_true, iteE_t], ⟨i, rfl, by omega, fun j s hs hij => ?_⟩, by omega⟩
          rcases Nat.eq_or_lt_of_le hij with g | g
          · subst g; rw [hy] at hs; cases hs; exact h
          · exact hj j s hs g
        · refine .inl ⟨_, by simp only [h, decide_false, iteE_f], i + 1, hi, rfl, fun j s hs hij => ?_, hj⟩
          have hyx : y.var < x.var := by
            have := hn y (List.mem_of_getElem? hy); omega
          rcases Nat.lt_or_ge j i with g | g
          · obtain ⟨a1, rfl⟩ := List.getElem?_eq_some_iff.1 hs
            obtain ⟨a2, rfl⟩ := List.getElem?_eq_some_iff.1 hy
            have := List.pairwise_iff_getElem.1 hw.1 j i a1 a2 g; omega
          · have : j = i := by omega
            subst this; rw [hy] at hs; cases hs; exact hyx)
    (w.length : Int) ⟨w.length, rfl, Nat.le_refl _, fun j s hs hij => by have := getLt hs; omega⟩
  rw [ht, bndE_s]
  have es : sub w 0 (k : Int) = w.take k := by rw [show (0 : Int) = ((0 : Nat) : Int) from rfl, sub_nat]; rfl
  rw [es, sub_end, chkE_p (by omega), chkF (by simp; omega) (by decide), chkF (by simp; omega) (by decide), chkE_p (by omega), chkF (by simp; omega) (by decide)]
  rw [List.nil_append, cut_ins hw.1 hn hk p1 p2]
theorem hit_loop {al : List TArg} {e : TEvent} {sy : TSymbol} {s1 w6 : Int} {w9 : THit} (hsy : sy.args = al) (hlen : al.length = e.args.length) (h12 : al.length ≤ 12) (hA : ∀ a ∈ al, ArgV a) : ∀ (n i : Nat) (b f : List TSlot), al.length - i = n → i ≤ al.length → SV b → SV f → B7 b → b.length ≤ i → f.length ≤ i →
    ref17_Hit_l1 s1 e w6 sy w9 b f (i : Int) = some (match fitS (al.drop i) (e.args.drop i) b f with | none => .inr () | some p => .inl p) := by
  subst hsy
  intro n
  induction n with
  | zero =>
    intro i b f hn hi _ _ _ _ _
    have : i = sy.args.length := by omega
    subst this
    rw [ref17_Hit_l1_eq]
    simp only [ref17_Hit_l1_s, ltI, iteE_f, nextE_r]
    rw [List.drop_length]; simp [fitS]
  | succ n ih =>
    intro i b f hn hi hb hf h7 hbl hfl
    obtain ⟨a, ha, hda⟩ := get_lt (l := sy.args) (i := i) (by omega)
    obtain ⟨x, hx, hdx⟩ := get_lt (l := e.args) (i := i) (by omega)
    have hAa := hA a (List.mem_of_getElem? ha)
    rw [ref17_Hit_l1_eq, hda, hdx]
    simp only [ref17_Hit_l1_s, ltD ha, iteE_t, ref17_Hit_b6, idxE_n ha, idxE_n hx, succW ha (show sy.args.length ≤ 9223372036854775807 by omega), TValue.eqb_dec, ref17_Hit_b7, ref17_Hit_b8, ref17_Hit_b9]
    simp only [fitS]
    by_cases h1 : a.kind = 1
    · have h2 : ¬ a.kind = 2 := by omega
      have h3 : ¬ a.kind = 3 := by omega
      by_cases hv : a.value = x
      · have ho := ih (i + 1) b f (by omega) (by omega) hb hf h7 (by omega) (by omega)
        simp [h1, hv, iteE, nextE, bndE, sumE]; exact_mod_cast ho
      · simp [h1, hv, iteE, nextE, bndE, sumE]
    by_cases h2 : a.kind = 2
    · have h3 : ¬ a.kind = 3 := by omega
      have hvr := hAa.1 h2
      rw [ref05_Fits_eq _ _ (by omega) (by simp), fits_one (x := ⟨a.n, x⟩) hb, ref05_Union_eq _ _ (by omega) (by simp)]
      cases hp : putV b ⟨a.n, x⟩ with
      | none => simp [h1, h2, iteE, nextE, bndE, sumE]
      | some b' =>
        obtain ⟨c1, c2⟩ := putV_ok hb (x := ⟨a.n, x⟩) ⟨hvr.1, by simp only; omega⟩ hp
        rw [union_one hb h7 (x := ⟨a.n, x⟩) hvr hp]
        have ho := ih (i + 1) b' f (by omega) (by omega) c1 hf (putV_7 h7 (by simp only; omega) hp) (by omega) (by omega)
        simp [h1, h2, h3, iteE, nextE, bndE, sumE]; exact_mod_cast ho
    by_cases h3 : a.kind = 3
    · have hvr := hAa.2 h3
      rw [ref05_Get_eq f _ (by omega)]
      unfold putV
      simp only
      cases hg : (getS f a.n).2 with
      | true =>
        by_cases hv : (getS f a.n).1 = x
        · have ho := ih (i + 1) b f (by omega) (by omega) hb hf h7 (by omega) (by omega)
          simp [h1, h2, h3, hg, hv, iteE, nextE, bndE, sumE]; exact_mod_cast ho
        · simp [h1, h2, h3, hg, hv, iteE, nextE, bndE, sumE]
      | false =>
        have hp : putV f ⟨a.n, x⟩ = some (insV f ⟨a.n, x⟩) := by unfold putV; simp [hg]
        obtain ⟨c1, c2⟩ := putV_ok hf (x := ⟨a.n, x⟩) hvr hp
        have ho := ih (i + 1) b (insV f ⟨a.n, x⟩) (by omega) (by omega) hb c1 h7 (by omega) (by omega)
        have hput := ref17_put_eq (w := f) (x := ⟨a.n, x⟩) hf (getS_none hg) (by omega)
        simp [h1, h2, h3, hg, iteE, nextE, bndE, sumE, idxE_0, hput]; exact_mod_cast ho
    · have ho := ih (i + 1) b f (by omega) (by omega) hb hf h7 (by omega) (by omega)
      simp [h1, h2, h3, iteE, nextE, bndE, sumE]; exact_mod_cast ho
def hitS (q : TQea) (i : Nat) (e : TEvent) : Option THit := match q.symbols[i]? with
  | none => none
  | some s => match q.decls[s.event.toNat]? with
    | none => none
    | some d => if d.name = e.name ∧ s.args.length = e.args.length then (fitS s.args e.args [] []).map fun p => ⟨i, p.1, p.2⟩ else none
def hitsS (q : TQea) (e : TEvent) : List THit := if eR q.decls e = true then (List.range q.symbols.length).filterMap fun i => hitS q i e else []
theorem SV_nil : SV [] := ⟨List.Pairwise.nil, by simp⟩
theorem argV {q : TQea} (hF : FewP q) (hR : RightQ q) {s : TSymbol} (hs : s ∈ q.symbols) : ∀ a ∈ s.args, ArgV a := fun a ha => by
  have := (hR.symbols s hs).args a ha
  have h8 := hR.quants; have hf := hF.frees
  exact ⟨fun h => by have := this.two h; omega, fun h => by have := this.three h; omega⟩
def outH (o : Option THit) : THit × Bool := match o with
  | some h => (h, true)
  | none => (⟨0, [], []⟩, false)
theorem decl_len {q : TQea} (hR : RightQ q) {e : TEvent} (he : eR q.decls e = true) {s : TSymbol} (hs : s ∈ q.symbols) {d : TDecl} (hd : q.decls[s.event.toNat]? = some d) (hn : d.name = e.name) : s.args.length = e.args.length := by
  obtain ⟨d', hd', hl⟩ := (hR.symbols s hs).decl
  rw [hd] at hd'; cases hd'
  have hf := hR.decls _ d hd
  rw [hn] at hf
  unfold eR at he
  rw [hf] at he
  simp only [hd] at he
  unfold argsS at he
  simp at he
  omega
theorem match_one_eq {q : TQea} (hF : FewP q) (hR : RightQ q) {e : TEvent} (he : eR q.decls e = true) {i : Nat} (hi : i < q.symbols.length) : match_one q i e = some (outH (hitS q i e)) := by
  obtain ⟨s, hs, _⟩ := get_lt hi
  have hsm := List.mem_of_getElem? hs
  have hso := hR.symbols s hsm
  obtain ⟨d, hd, hdl⟩ := hso.decl
  unfold match_one hitS
  rw [idxE_n hs, idxE_i hd hso.event, hs]
  simp only [hd]
  by_cases hn : d.name = e.name
  · have hlen := decl_len hR he hsm hd hn
    have h12 := hF.args s hsm
    obtain ⟨o, ho, hm⟩ := fit_loop hlen h12 (argV hF hR hsm) _ 0 [] [] rfl (by omega) SV_nil SV_nil (by simp) (by simp)
    unfold match_fit_v2
    rw [show (0 : Int) = ((0 : Nat) : Int) from rfl, ho]
    simp only [List.drop_zero] at hm
    simp only [hn, hlen, and_self, if_true, decide_true, Bool.not_true, iteE_f, bndE_s]
    cases hfit : fitS s.args e.args [] [] with
    | none =>
      rw [hfit] at hm
      obtain ⟨z, rfl⟩ := hm
      simp [sumE, bndE, iteE, outH]
    | some p =>
      rw [hfit] at hm
      simp only at hm
      subst hm
      simp [sumE, bndE, iteE, outH]
  · simp [hn, iteE, outH]
theorem ref17_Hit_eq {q : TQea} (hF : FewP q) (hR : RightQ q) {e : TEvent} {i : Nat} (hi : i < q.symbols.length) : ref17_Hit q i e = some (outH (hitS q i e)) := by
  obtain ⟨s, hs, _⟩ := get_lt hi
  have hsm := List.mem_of_getElem? hs
  have hso := hR.symbols s hsm
  obtain ⟨d, hd, hdl⟩ := hso.decl
  unfold ref17_Hit hitS
  rw [idxE_n hs, idxE_i hd hso.event, hs, len_dec]
  simp only [hd]
  by_cases hn : d.name = e.name
  · by_cases hlen : s.args.length = e.args.length
    · have h12 := hF.args s hsm
      have ho := hit_loop (sy := s) (s1 := (i : Int)) (w6 := 0) (w9 := ⟨0, [], []⟩) rfl hlen h12 (argV hF hR hsm) _ 0 [] [] rfl (by omega) SV_nil SV_nil (fun s hs => by simp at hs) (by simp) (by simp)
      rw [show (0 : Int) = ((0 : Nat) : Int) from rfl] at ho ⊢
      simp only [List.drop_zero] at ho
      simp only [hn, hlen, and_self, if_true, decide_true, Bool.not_true, iteE_f]
      rw [show ref17_Hit_l1 (i : Int) e ((0 : Nat) : Int) s (THit.mk ((0 : Nat) : Int) [] []) [] [] ((0 : Nat) : Int) = _ from ho, bndE_s]
      cases fitS s.args e.args [] [] with
      | none => simp [sumE, outH]
      | some p => simp [sumE, outH]
    · simp [hn, hlen, iteE, outH]
  · simp [hn, iteE, outH]
theorem filterMap_push {α β : Type} (g : α → Option β) : ∀ (l : List α) (w : List β), l.foldl (fun w v => w ++ (g v).toList) w = w ++ l.filterMap g := by
  intro l
  induction l with
  | nil => intro w; simp
  | cons v l ih => intro w; rw [List.foldl_cons, ih, List.filterMap_cons]; cases g v <;> simp
theorem range_get {n i x : Nat} (h : (List.range n)[i]? = some x) : x = i ∧ i < n := by
  have hi : i < n := by simpa using getLt h
  rw [List.getElem?_range hi] at h; cases h; exact ⟨rfl, hi⟩
def iterH {φ : Type} (step : φ → THit → Option (φ × Bool)) : List THit → φ → Option φ
  | [], f => some f
  | h :: hs, f => match step f h with
    | some (f', true) => iterH step hs f'
    | some (f', false) => some f'
    | none => none
theorem match_hits_eq {q : TQea} (hF : FewP q) (hR : RightQ q) {e : TEvent} (h12 : e.args.length ≤ 12) {φ : Type} (step : φ → THit → Option (φ × Bool)) (f0 : φ) : match_hits_1 step q e f0 = iterH step (hitsS q e) f0 := by
  have hd := hF.decls; have hs := hF.symbols
  unfold match_hits_1 hitsS
  rw [event_Right_eq _ _ (by omega) (by omega), bndE_s]
  cases he : eR q.decls e with
  | false => simp [iteE, iterH]
  | true =>
    simp only [Bool.not_true, iteE_f, if_true]
    have key : ∀ (n i : Nat) (f : φ), q.symbols.length - i = n → i ≤ q.symbols.length → (bndE (match_hits_1_l1 step q e (q.symbols.length : Int) f (i : Int)) fun o5 => sumE o5 (fun o6 => some o6) (fun o7 => some o7)) = iterH step ((List.range' i n).filterMap fun i => hitS q i e) f := by
      intro n
      induction n with
      | zero =>
        intro i f hn hi
        have : i = q.symbols.length := by omega
        subst this
        rw [match_hits_1_l1_eq]
        simp [match_hits_1_l1_s, iteE, nextE, bndE, sumE, iterH]
      | succ n ih =>
        intro i f hn hi
        have hlt : decide ((i : Int) < (q.symbols.length : Int)) = true := by simp; omega
        rw [match_hits_1_l1_eq]
        simp only [match_hits_1_l1_s, hlt, iteE_t, match_one_eq hF hR he (show i < q.symbols.length by omega), bndE_s, succI (show i < 9223372036854775807 by omega)]
        rw [List.range'_succ, List.filterMap_cons]
        cases hh : hitS q i e with
        | none =>
          simp only [outH, iteE_f, nextE_l]
          exact ih (i + 1) f (by omega) (by omega)
        | some h =>
          simp only [outH, iteE_t, iterH]
          rcases hst : step f h with _ | ⟨f', _ | _⟩
          · simp [yldE, nextE, bndE]
          · simp [yldE, nextE, bndE, sumE]
          · simp only [yldE, nextE_l]
            exact ih (i + 1) f' (by omega) (by omega)
    rw [List.range_eq_range']
    exact key q.symbols.length 0 f0 (by omega) (by omega)
theorem hits_ok {q : TQea} (hF : FewP q) (hR : RightQ q) {e : TEvent} {h : THit} (hh : h ∈ hitsS q e) : SV h.bind ∧ B7 h.bind ∧ h.bind.length ≤ 12 ∧ h.frees.length ≤ 12 ∧ SV h.frees := by
  unfold hitsS at hh
  split at hh
  · obtain ⟨i, _, hi⟩ := List.mem_filterMap.1 hh
    unfold hitS at hi
    split at hi
    · cases hi
    · rename_i s hs
      have hsm := List.mem_of_getElem? hs
      split at hi
      · cases hi
      · split at hi
        · simp only [Option.map_eq_some_iff] at hi
          obtain ⟨p, hp, rfl⟩ := hi
          have h12 := hF.args s hsm
          obtain ⟨a1, a2, a3, a4, a5⟩ := fitS_ok _ _ _ _ _ (argV hF hR hsm) SV_nil SV_nil (fun s hs => by simp at hs) hp
          simp only [List.length_nil] at a4 a5
          exact ⟨a1, a3, by simp only; omega, by simp only; omega, a2⟩
        · cases hi
  · simp at hh
theorem bl_irr : ∀ x : List UInt8, Op.bytesLess x x = false
  | [] => rfl
  | a :: x => by simp [Op.bytesLess, bl_irr x]
theorem bl_trans : ∀ {x y z : List UInt8}, Op.bytesLess x y = true → Op.bytesLess y z = true → Op.bytesLess x z = true
  | [], [], _, h, _ => by simp [Op.bytesLess] at h
  | _ :: _, [], _, h, _ => by simp [Op.bytesLess] at h
  | [], _ :: _, [], _, h => by simp [Op.bytesLess] at h
  | [], _ :: _, _ :: _, _, _ => rfl
  | _ :: _, _ :: _, [], _, h => by simp [Op.bytesLess] at h
  | a :: x, b :: y, c :: z, h1, h2 => by
    simp only [Op.bytesLess, Bool.or_eq_true, Bool.and_eq_true, decide_eq_true_eq, beq_iff_eq] at h1 h2 ⊢
    rcases h1 with h1 | ⟨rfl, h1⟩
    · rcases h2 with h2 | ⟨rfl, h2⟩
      · exact .inl (UInt8.lt_trans h1 h2)
      · exact .inl h1
    · rcases h2 with h2 | ⟨rfl, h2⟩
      · exact .inl h2
      · exact .inr ⟨rfl, bl_trans h1 h2⟩
theorem bl_tot : ∀ {x y : List UInt8}, x ≠ y → Op.bytesLess x y = true ∨ Op.bytesLess y x = true
  | [], [], h => absurd rfl h
  | _ :: _, [], _ => .inr rfl
  | [], _ :: _, _ => .inl rfl
  | a :: x, b :: y, h => by
    simp only [Op.bytesLess, Bool.or_eq_true, Bool.and_eq_true, decide_eq_true_eq, beq_iff_eq]
    by_cases hab : a = b
    · subst hab
      rcases bl_tot (x := x) (y := y) (fun e => h (by rw [e])) with g | g
      · exact .inl (.inr ⟨rfl, g⟩)
      · exact .inr (.inr ⟨rfl, g⟩)
    · have : a < b ∨ b < a := by
        rw [UInt8.lt_iff_toNat_lt, UInt8.lt_iff_toNat_lt]
        have : a.toNat ≠ b.toNat := fun e => hab (UInt8.toNat_inj.1 e)
        omega
      rcases this with g | g
      · exact .inl (.inl g)
      · exact .inr (.inl g)
theorem bl_find : ∀ (x y : List UInt8), (match ((x.zip y).findSome? fun z => if z.1 = z.2 then none else some (Sum.inr (decide (z.1 < z.2)) : Unit ⊕ Bool)).getD (.inl ()) with | .inl _ => decide (x.length < y.length) | .inr b => b) = Op.bytesLess x y
  | [], [] => rfl
  | _ :: _, [] => rfl
  | [], _ :: _ => by simp [Op.bytesLess]
  | a :: x, b :: y => by
    rw [List.zip_cons_cons, List.findSome?_cons]
    by_cases h : a = b
    · subst h
      simp only [if_true, Op.bytesLess, beq_self_eq_true, Bool.true_and, ← bl_find x y]
      have : decide (a < a) = false := by simp
      rw [this, Bool.false_or]
      simp only [List.length_cons, Nat.add_lt_add_iff_right]
    · simp [h, Op.bytesLess]
theorem ref03_Below_eq (x y : List UInt8) (hx : x.length ≤ 9223372036854775807) (hy : y.length ≤ 9223372036854775807) : ref03_Below x y = some (Op.bytesLess x y) := by
  unfold ref03_Below ref03_Below_l1
  have hz : (x.zip y).length = min x.length y.length := by simp
  rw [loop_find (x.zip y) (fun _ z => if z.1 = z.2 then none else some (Sum.inr (decide (z.1 < z.2)) : Unit ⊕ Bool)) (.inl ())
    (fun i z h => by
      obtain ⟨h1, h2⟩ := zip_get h
      simp only [ref03_Below_l1_s, ltD h1, ltD h2, iteE_t, idxE_n h1, idxE_n h2, succW h1 hx]
      by_cases e : z.1 = z.2
      · simp [e, iteE]
      · have : ¬ (z.1.toNat : Int) = (z.2.toNat : Int) := fun g => e (UInt8.toNat_inj.1 (by omega))
        have : (decide ((z.1.toNat : Int) < (z.2.toNat : Int))) = decide (z.1 < z.2) := decide_eq_decide.2 (by rw [UInt8.lt_iff_toNat_lt]; omega)
        rw [this, if_neg e]
        simp [*, iteE])
    (by
      rw [hz]
      rcases Nat.le_total x.length y.length with h | h
      · rw [Nat.min_eq_left h]; simp only [ref03_Below_l1_s, ltI, iteE_f]
      · rw [Nat.min_eq_right h]; simp only [ref03_Below_l1_s, ltI, iteE_f]; cases decide ((y.length : Int) < (x.length : Int)) <;> rfl), bndE_s, runL_findSome, ← bl_find]
  cases ((x.zip y).findSome? fun z => if z.1 = z.2 then none else some (Sum.inr (decide (z.1 < z.2)) : Unit ⊕ Bool)).getD (.inl ()) <;> simp [sumE]
def ltV (a b : TValue) : Bool := if a.kind = b.kind then (if a.kind = 1 then decide (a.int < b.int) else if a.kind = 2 then Op.bytesLess a.str b.str else !a.bool && b.bool) else decide (a.kind < b.kind)
theorem value_Less_eq (a b : TValue) : value_Less a b = some (ltV a b) := by
  unfold value_Less ltV
  by_cases h : a.kind = b.kind <;> by_cases h1 : a.kind = 1 <;> by_cases h2 : a.kind = 2 <;> cases ha : a.bool <;> simp_all [iteE]
theorem ref03_Less_eq (a b : TValue) (ha : a.str.length ≤ 9223372036854775807) (hb : b.str.length ≤ 9223372036854775807) : ref03_Less a b = some (ltV a b) := by
  unfold ref03_Less ltV
  rw [ref03_Below_eq _ _ ha hb]
  by_cases h : a.kind = b.kind <;> by_cases h1 : a.kind = 1 <;> by_cases h2 : a.kind = 2 <;> cases ha : a.bool <;> simp_all [iteE, bndE]
theorem ltV_irr (a : TValue) : ltV a a = false := by
  unfold ltV; rw [if_pos rfl]; split
  · simp
  · split
    · exact bl_irr _
    · cases a.bool <;> rfl
theorem ltV_trans {a b c : TValue} (h1 : ltV a b = true) (h2 : ltV b c = true) : ltV a c = true := by
  unfold ltV at *
  by_cases e1 : a.kind = b.kind
  · by_cases e2 : b.kind = c.kind
    · rw [if_pos e1] at h1
      rw [if_pos e2] at h2
      rw [if_pos (e1.trans e2)]
      rw [e1] at h1 ⊢
      split
      · rename_i h; rw [if_pos h] at h1 h2; simp at h1 h2 ⊢; omega
      · rename_i h; rw [if_neg h] at h1 h2
        split
        · rename_i h; rw [if_pos h] at h1 h2; exact bl_trans h1 h2
        · rename_i h; rw [if_neg h] at h1 h2; simp at h1 h2 ⊢; exact ⟨h1.1, h2.2⟩
    · rw [if_neg e2] at h2; rw [e1, if_neg e2]; exact h2
  · rw [if_neg e1] at h1
    by_cases e2 : b.kind = c.kind
    · rw [← e2, if_neg e1]; exact h1
    · rw [if_neg e2] at h2
      simp only [decide_eq_true_eq] at h1 h2
      rw [if_neg (by omega)]; simp; omega
theorem vR_parts {v : TValue} (h : vR v = true) : (v.kind = 1 ∧ v.str = [] ∧ v.bool = false) ∨ (v.kind = 2 ∧ v.int = 0 ∧ v.bool = false ∧ v.str.length ≤ 4096) ∨ (v.kind = 3 ∧ v.int = 0 ∧ v.str = []) := by
  unfold vR at h
  split at h
  · left; simp at h; exact ⟨by assumption, h.1, h.2⟩
  · split at h
    · right; left; simp at h; exact ⟨by assumption, h.1.1, h.1.2, h.2⟩
    · split at h
      · right; right; simp at h; exact ⟨by assumption, h.1, h.2⟩
      · cases h
theorem ltV_tot {a b : TValue} (ha : vR a = true) (hb : vR b = true) (h : a ≠ b) : ltV a b = true ∨ ltV b a = true := by
  unfold ltV
  by_cases e : a.kind = b.kind
  · rw [if_pos e, if_pos e.symm, ← e]
    obtain ⟨k, n, s, t⟩ := a
    obtain ⟨k', n', s', t'⟩ := b
    simp only at e; subst e
    rcases vR_parts ha with ⟨rfl, h2, h3⟩ | ⟨rfl, h2, h3, h4⟩ | ⟨rfl, h2, h3⟩ <;> rcases vR_parts hb with ⟨g1, g2, g3⟩ | ⟨g1, g2, g3, g4⟩ | ⟨g1, g2, g3⟩ <;> simp only [Int.reduceEq] at g1 h2 h3 g2 g3 <;> subst_vars
    · simp at h ⊢; omega
    · simp at h ⊢; exact bl_tot h
    · simp at h ⊢; cases t <;> cases t' <;> simp_all
  · rw [if_neg e, if_neg (Ne.symm e)]; simp; omega
def RBi (b : List TSlot) : Prop := b.length ≤ 1000 ∧ ∀ s ∈ b, vR s.value = true
theorem putV_mem {w w' : List TSlot} {x s : TSlot} (h : putV w x = some w') (hs : s ∈ w') : s = x ∨ s ∈ w := by
  unfold putV at h
  split at h
  · split at h
    · cases h; exact .inr hs
    · cases h
  · cases h; exact (insV_mem w x s).1 hs
theorem fitS_mem : ∀ (al : List TArg) (xs : List TValue) (b f : List TSlot) (p : List TSlot × List TSlot), fitS al xs b f = some p → ∀ s ∈ p.1, s ∈ b ∨ s.value ∈ xs
  | [], xs, b, f, p, h => by simp only [fitS] at h; cases h; exact fun s hs => .inl hs
  | a :: al, [], b, f, p, h => by simp only [fitS] at h; cases h; exact fun s hs => .inl hs
  | a :: al, x :: xs, b, f, p, h => by
    simp only [fitS] at h
    have go : ∀ b f, fitS al xs b f = some p → ∀ s ∈ p.1, s ∈ b ∨ s.value ∈ x :: xs := fun b f h s hs => (fitS_mem al xs b f p h s hs).imp id (List.mem_cons_of_mem _)
    split at h
    · split at h
      · exact go b f h
      · cases h
    · split at h
      · split at h
        · cases h
        · rename_i b' hp
          intro s hs
          rcases go b' f h s hs with g | g
          · rcases putV_mem hp g with rfl | g
            · exact .inr (by simp)
            · exact .inl g
          · exact .inr g
      · split at h
        · split at h
          · cases h
          · rename_i f' hp
            exact go b f' h
        · exact go b f h
theorem hit_at {q : TQea} {e : TEvent} {i : Nat} {h : THit} (hi : hitS q i e = some h) : h.symbol = i ∧ ∀ s ∈ h.bind, s.value ∈ e.args := by
  unfold hitS at hi
  split at hi
  · cases hi
  · split at hi
    · cases hi
    · split at hi
      · simp only [Option.map_eq_some_iff] at hi
        obtain ⟨p, hp, rfl⟩ := hi
        exact ⟨rfl, fun s hs => (fitS_mem _ _ _ _ _ hp s hs).resolve_left (by simp)⟩
      · cases hi
theorem args_vR {l : List TDecl} {e : TEvent} (h : eR l e = true) : ∀ v ∈ e.args, vR v = true := by
  unfold eR at h
  split at h
  · cases h
  · split at h
    · cases h
    · rename_i d hd
      unfold argsS at h
      simp only [Bool.and_eq_true, decide_eq_true_eq, List.all_eq_true] at h
      intro v hv
      obtain ⟨i, hi⟩ := List.mem_iff_getElem?.1 hv
      obtain ⟨t, ht, _⟩ := get_lt (l := d.types) (i := i) (by have := getLt hi; omega)
      exact (h.2 (v, t) (List.mem_iff_getElem?.2 ⟨i, by rw [List.getElem?_zip_eq_some]; exact ⟨hi, ht⟩⟩)).2
theorem hits_mem {q : TQea} {e : TEvent} {h : THit} (hh : h ∈ hitsS q e) : eR q.decls e = true ∧ ∃ i, i < q.symbols.length ∧ hitS q i e = some h := by
  unfold hitsS at hh
  split at hh
  · rename_i he
    obtain ⟨i, hi, hs⟩ := List.mem_filterMap.1 hh
    exact ⟨he, i, List.mem_range.1 hi, hs⟩
  · simp at hh
theorem hits_RBi {q : TQea} (hF : FewP q) (hR : RightQ q) {e : TEvent} {h : THit} (hh : h ∈ hitsS q e) : RBi h.bind := by
  obtain ⟨he, i, _, hi⟩ := hits_mem hh
  exact ⟨by have := (hits_ok hF hR hh).2.2.1; omega, fun s hs => args_vR he _ ((hit_at hi).2 s hs)⟩
theorem hits_len (q : TQea) (e : TEvent) (hF : FewP q) : (hitsS q e).length ≤ 1000 := by
  unfold hitsS
  split
  · refine Nat.le_trans (List.length_filterMap_le _ _) ?_
    rw [List.length_range]
    exact Nat.le_trans hF.symbols (by decide)
  · simp
theorem match_All_eq {q : TQea} (hF : FewP q) (hR : RightQ q) {e : TEvent} (h12 : e.args.length ≤ 12) : match_All q e = some (hitsS q e) := by
  unfold match_All match_hits
  rw [bndE_s]
  unfold slices_Collect_Hit slices_AppendSeq_Hit_Hit
  simp only
  rw [match_hits_eq hF hR h12]
  have key : ∀ (hs w : List THit), w.length + hs.length ≤ 1000 → iterH (stepOf (slices_AppendSeq_Hit_Hit_r1_rd q e)) hs (.inl w) = some (.inl (w ++ hs)) := by
    intro hs
    induction hs with
    | nil => intro w _; simp [iterH]
    | cons h hs ih =>
      intro w hl
      rw [List.length_cons] at hl
      have e1 : stepOf (slices_AppendSeq_Hit_Hit_r1_rd q e) (.inl w) h = some (.inl (w ++ [h]), true) := by
        simp only [stepOf, slices_AppendSeq_Hit_Hit_r1_rd, slices_AppendSeq_Hit_Hit_b4, slices_AppendSeq_Hit_Hit_b6, bndE_s]
        rw [chkF (by simp; omega) (by decide), bndE_s]
      rw [iterH, e1]
      simp only
      rw [ih _ (by simp; omega)]
      simp
  rw [key _ _ (by have := hits_len q e hF; simp; omega)]
  rfl
theorem cut_filter {α : Type} {p : α → Bool} {w : List α} {k : Nat} (h1 : ∀ (j : Nat) y, w[j]? = some y → j < k → p y = true) (h2 : ∀ (j : Nat) y, w[j]? = some y → k ≤ j → p y = false) : w.take k = w.filter p ∧ w.drop k = w.filter fun y => !p y := by
  have a : ∀ y ∈ w.take k, p y = true := fun y hy => by
    obtain ⟨j, hj⟩ := List.mem_iff_getElem?.1 hy
    rw [List.getElem?_take] at hj
    split at hj
    · exact h1 j y hj (by assumption)
    · cases hj
  have b : ∀ y ∈ w.drop k, p y = false := fun y hy => by
    obtain ⟨j, hj⟩ := List.mem_iff_getElem?.1 hy
    rw [List.getElem?_drop] at hj
    exact h2 (k + j) y hj (by omega)
  have e : ∀ p : α → Bool, w.filter p = (w.take k).filter p ++ (w.drop k).filter p := fun p => by rw [← List.filter_append, List.take_append_drop]
  constructor
  · rw [e, List.filter_eq_self.2 a, List.filter_eq_nil_iff.2 (fun y hy => by simp [b y hy]), List.append_nil]
  · rw [e, List.filter_eq_nil_iff.2 (fun y hy => by simp [a y hy]), List.filter_eq_self.2 (fun y hy => by simp [b y hy]), List.nil_append]
end Go.Ac
