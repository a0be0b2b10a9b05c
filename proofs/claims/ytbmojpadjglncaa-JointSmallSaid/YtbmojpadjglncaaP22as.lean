/- Own work: the plain law. -/
import Derived.Test.YtbmojpadjglncaaSh22as
import Derived.Test.YtbmojpadjglncaaPL
import Derived.Test.YtbmojpadjglncaaAc35
set_option linter.unusedVariables false
set_option linter.unusedSimpArgs false
namespace Go.Ac
def vR (v : TValue) : Bool :=
  if v.kind = 1 then decide (v.str = []) && !v.bool
  else if v.kind = 2 then decide (v.int = 0) && !v.bool && decide (v.str.length ≤ 4096)
  else if v.kind = 3 then decide (v.int = 0) && decide (v.str = []) else false
theorem ref03_Right_eq (v : TValue) : ref03_Right v = some (vR v) := by
  unfold ref03_Right vR
  have hc : decide ((v.str.length : Int) ≤ 4096) = decide (v.str.length ≤ 4096) := by
    by_cases h : v.str.length ≤ 4096
    · have : (v.str.length : Int) ≤ 4096 := by omega
      simp [h, this]
    · have : ¬ (v.str.length : Int) ≤ 4096 := by omega
      simp [h, this]
  rw [hc]
  by_cases h1 : v.kind = 1
  · by_cases hs : v.str = [] <;> simp [h1, hs, iteE]
  by_cases h2 : v.kind = 2
  · by_cases hn : v.int = 0 <;> cases hb : v.bool <;> simp [h2, hn, iteE]
  by_cases h3 : v.kind = 3
  · by_cases hn : v.int = 0 <;> simp [h3, hn, iteE]
  · simp [h1, h2, h3, iteE]
theorem TValue.eqb_dec (a b : TValue) : TValue.eqb a b = decide (a = b) := by rw [Bool.eq_iff_iff, TValue.eqb_iff]; simp
theorem ref03_Right_tot (v : TValue) : ∃ b, ref03_Right v = some b := by
  unfold ref03_Right
  simp only [iteE_if]
  repeat' split
  all_goals exact ⟨_, rfl⟩
theorem chkF {β : Type} {a b n : Nat} (h : a + b ≤ 1073741824) (hn : n ≤ 131072) (k : Option β) : chkE (fit a b n) k = k := chkE_p (fit_small h hn) k
structure FewP (q : TQea) : Prop where
  decls : q.decls.length ≤ 12
  quants : q.quants.length ≤ 9
  frees : q.frees.length ≤ 12
  states : q.states.length ≤ 12
  symbols : q.symbols.length ≤ 12
  trans : q.trans.length ≤ 12
  nodes : q.nodes.length ≤ 40
  args : ∀ s ∈ q.symbols, s.args.length ≤ 12
  sets : ∀ t ∈ q.trans, t.sets.length ≤ 12
theorem all_get {α : Type} {l : List α} {R : α → Prop} (h : ∀ j, j < l.length → ∀ x, l[j]? = some x → R x) : ∀ x ∈ l, R x := by
  intro x hx
  obtain ⟨j, hj, rfl⟩ := List.mem_iff_getElem.1 hx
  exact h j hj _ (List.getElem?_eq_getElem hj)
theorem ref13_Few_ex (q : TQea) : ∃ n, ref13_Few q = some n ∧ (n ≠ 0 → FewP q) := by
  unfold ref13_Few
  simp only [iteP]
  iterate 8 (split; · exact ⟨0, rfl, by simp⟩)
  rename_i h1 h2 h3 h4 h5 h6 h7 h8
  have hd : q.decls.length ≤ 9223372036854775807 := by omega
  have hs : q.symbols.length ≤ 9223372036854775807 := by omega
  have hf : q.frees.length ≤ 9223372036854775807 := by omega
  have hn : q.nodes.length ≤ 9223372036854775807 := by omega
  have ht : q.trans.length ≤ 9223372036854775807 := by omega
  obtain ⟨t1, e1, _⟩ := loop_scan0 (step := fun s => ref13_Few_l1_s q s) q.decls.length (fun _ => True) (fun _ => True)
    (fun i hi => by
      obtain ⟨x, hx, _⟩ := get_lt hi
      simp only [ref13_Few_l1_s, ltD hx, iteE_t, idxE_n hx, succW hx hd]
      simp only [iteE_if]
      repeat' split
      all_goals first | exact .inl ⟨rfl, trivial⟩ | exact .inr ⟨_, rfl, trivial⟩)
    (fun _ => ⟨.inl (), by simp only [ref13_Few_l1_s, ltI, iteE_f], trivial⟩)
  obtain ⟨t2, e2, Q2⟩ := loop_scan0 (step := fun s => ref13_Few_l2_s q s) q.symbols.length (fun i => ∀ x, q.symbols[i]? = some x → x.args.length ≤ 12) (fun t => t = .inl () → ∀ s ∈ q.symbols, s.args.length ≤ 12)
    (fun i hi => by
      obtain ⟨x, hx, _⟩ := get_lt hi
      simp only [ref13_Few_l2_s, ltD hx, iteE_t, idxE_n hx, succW hx hs, iteP]
      split
      · exact .inr ⟨_, rfl, by simp⟩
      · rename_i h12
        obtain ⟨t3, e3, _⟩ := loop_scan0 (step := fun s => ref13_Few_l3_s (i : Int) q s) x.args.length (fun _ => True) (fun _ => True)
          (fun j hj => by
            obtain ⟨y, hy, _⟩ := get_lt hj
            simp only [ref13_Few_l3_s, idxE_n hx, ltD hy, iteE_t, idxE_n hy, succW hy (show x.args.length ≤ 9223372036854775807 by omega)]
            simp only [iteE_if]
            split
            · exact .inr ⟨_, rfl, trivial⟩
            · exact .inl ⟨rfl, trivial⟩)
          (fun _ => ⟨.inl (), by simp only [ref13_Few_l3_s, idxE_n hx, ltI, iteE_f], trivial⟩)
        unfold ref13_Few_l3
        rw [e3, bndE_s]
        rcases t3 with _ | _
        · exact .inl ⟨rfl, fun y hy => by rw [hx] at hy; cases hy; omega⟩
        · exact .inr ⟨_, rfl, by simp⟩)
    (fun hP => ⟨.inl (), by simp only [ref13_Few_l2_s, ltI, iteE_f], fun _ => all_get hP⟩)
  obtain ⟨t4, e4, _⟩ := loop_scan0 (step := fun s => ref13_Few_l4_s q s) q.frees.length (fun _ => True) (fun _ => True)
    (fun i hi => by
      obtain ⟨x, hx, _⟩ := get_lt hi
      simp only [ref13_Few_l4_s, ltD hx, iteE_t, idxE_n hx, succW hx hf]
      simp only [iteE_if]
      split
      · exact .inr ⟨_, rfl, trivial⟩
      · exact .inl ⟨rfl, trivial⟩)
    (fun _ => ⟨.inl (), by simp only [ref13_Few_l4_s, ltI, iteE_f], trivial⟩)
  obtain ⟨t5, e5, _⟩ := loop_scan0 (step := fun s => ref13_Few_l5_s q s) q.nodes.length (fun _ => True) (fun _ => True)
    (fun i hi => by
      obtain ⟨x, hx, _⟩ := get_lt hi
      simp only [ref13_Few_l5_s, ltD hx, iteE_t, idxE_n hx, succW hx hn]
      simp only [iteE_if]
      split
      · exact .inr ⟨_, rfl, trivial⟩
      · exact .inl ⟨rfl, trivial⟩)
    (fun _ => ⟨.inl (), by simp only [ref13_Few_l5_s, ltI, iteE_f], trivial⟩)
  obtain ⟨t6, e6, Q6⟩ := loop_scan0 (step := fun s => ref13_Few_l6_s q s) q.trans.length (fun i => ∀ x, q.trans[i]? = some x → x.sets.length ≤ 12) (fun t => t = .inl () → ∀ s ∈ q.trans, s.sets.length ≤ 12)
    (fun i hi => by
      obtain ⟨x, hx, _⟩ := get_lt hi
      simp only [ref13_Few_l6_s, ltD hx, iteE_t, idxE_n hx, succW hx ht, iteP]
      split
      · exact .inr ⟨_, rfl, by simp⟩
      · exact .inl ⟨rfl, fun y hy => by rw [hx] at hy; cases hy; omega⟩)
    (fun hP => ⟨.inl (), by simp only [ref13_Few_l6_s, ltI, iteE_f], fun _ => all_get hP⟩)
  unfold ref13_Few_l1 ref13_Few_l2 ref13_Few_l4 ref13_Few_l5 ref13_Few_l6
  rw [e1, bndE_s, e2, e4, e5, e6]
  simp only [bndE_s]
  rcases t1 with _ | _ <;> rcases t2 with _ | _ <;> rcases t4 with _ | _ <;> rcases t5 with _ | _ <;> rcases t6 with _ | _ <;> simp only [sumE_l, sumE_r] <;>
    first
    | exact ⟨0, rfl, by simp⟩
    | exact ⟨1, rfl, fun _ => ⟨by omega, by omega, by omega, by omega, by omega, by omega, by omega, Q2 rfl, Q6 rfl⟩⟩
theorem ref07_Spelt_tot (s : List UInt8) : ∃ b, ref07_Spelt s = some b := by
  unfold ref07_Spelt
  simp only [iteP]
  split
  · exact ⟨_, rfl⟩
  split
  · exact ⟨_, rfl⟩
  obtain ⟨t1, e1, _⟩ := loop_scan0 (step := fun i => ref07_Spelt_l1_s s i) s.length (fun _ => True) (fun _ => True)
    (fun i hi => by
      obtain ⟨x, hx, _⟩ := get_lt hi
      simp only [ref07_Spelt_l1_s, ltD hx, iteE_t, idxE_n hx, succW hx (show s.length ≤ 9223372036854775807 by omega)]
      simp only [iteE_if]
      repeat' split
      all_goals first | exact .inl ⟨rfl, trivial⟩ | exact .inr ⟨_, rfl, trivial⟩)
    (fun _ => ⟨.inl (), by simp only [ref07_Spelt_l1_s, ltI, iteE_f], trivial⟩)
  unfold ref07_Spelt_l1
  rw [e1, bndE_s]
  rcases t1 with _ | _ <;> exact ⟨_, rfl⟩
theorem ref07_Name_tot (s : List UInt8) : ∃ b, ref07_Name s = some b := by
  unfold ref07_Name ref07_Words
  rw [bndE_s]
  generalize hw : ([([97, 99, 99, 101, 112, 116] : List UInt8), ([97, 108, 115, 111] : List UInt8), ([97, 110, 100] : List UInt8), ([98, 111, 111, 108] : List UInt8), ([100, 111] : List UInt8), ([101, 118, 101, 110, 116] : List UInt8), ([101, 120, 105, 115, 116, 115] : List UInt8), ([102, 97, 108, 115, 101] : List UInt8), ([102, 111, 114, 97, 108, 108] : List UInt8), ([102, 114, 101, 101] : List UInt8), ([105, 102] : List UInt8), ([105, 110, 116] : List UInt8), ([110, 101, 120, 116] : List UInt8), ([110, 111, 116] : List UInt8), ([111, 110] : List UInt8), ([111, 114] : List UInt8), ([113, 101, 97] : List UInt8), ([115, 107, 105, 112] : List UInt8), ([115, 116, 97, 114, 116] : List UInt8), ([115, 116, 114, 105, 110, 103] : List UInt8), ([116, 111] : List UInt8), ([116, 114, 117, 101] : List UInt8)] : List (List UInt8)) = ws
  have hl : ws.length ≤ 9223372036854775807 := by rw [← hw]; simp
  obtain ⟨t1, e1, _⟩ := loop_scan0 (step := fun i => ref07_Name_l1_s s ws i) ws.length (fun _ => True) (fun _ => True)
    (fun i hi => by
      obtain ⟨x, hx, _⟩ := get_lt hi
      simp only [ref07_Name_l1_s, ltD hx, iteE_t, idxE_n hx, succW hx hl]
      simp only [iteE_if]
      split
      · exact .inr ⟨_, rfl, trivial⟩
      · exact .inl ⟨rfl, trivial⟩)
    (fun _ => ⟨.inl (), by simp only [ref07_Name_l1_s, ltI, iteE_f], trivial⟩)
  unfold ref07_Name_l1
  rw [e1, bndE_s]
  rcases t1 with _ | _
  · obtain ⟨b, hb⟩ := ref07_Spelt_tot s
    rw [sumE_l, hb, bndE_s]
    cases b <;> exact ⟨_, rfl⟩
  · exact ⟨_, rfl⟩
def findS (l : List TDecl) (n : List UInt8) : Option Nat := if l.any (fun d => decide (d.name = n)) = true then some (l.findIdx fun d => decide (d.name = n)) else none
theorem ref07_Find_eq (l : List TDecl) (n : List UInt8) (hl : l.length ≤ 9223372036854775807) : ref07_Find l n = some (match findS l n with | some i => (i : Int) | none => -1) := by
  unfold ref07_Find ref07_Find_l1
  rw [loop_index l (fun d => decide (d.name = n))
    (fun i x hx => by
      simp only [ref07_Find_l1_s, ltD hx, iteE_t, idxE_n hx, succW hx hl]
      simp only [iteE_if]
      cases decide (x.name = n) <;> rfl)
    (by simp only [ref07_Find_l1_s, ltI, iteE_f]), bndE_s]
  unfold findS
  cases l.any _ <;> rfl
theorem findS_le {l : List TDecl} {n : List UInt8} {j : Nat} {d : TDecl} (hj : l[j]? = some d) (hn : d.name = n) : ∃ i, findS l n = some i ∧ i ≤ j := by
  have ha : l.any (fun d => decide (d.name = n)) = true := List.any_eq_true.2 ⟨d, List.mem_of_getElem? hj, by simpa using hn⟩
  refine ⟨l.findIdx fun d => decide (d.name = n), by unfold findS; rw [if_pos ha], ?_⟩
  refine Nat.le_of_not_lt fun hlt => ?_
  have := List.not_of_lt_findIdx hlt
  obtain ⟨h1, rfl⟩ := List.getElem?_eq_some_iff.1 hj
  simp [hn] at this
def DeclsOk (l : List TDecl) : Prop := ∀ j d, l[j]? = some d → findS l d.name = some j
theorem ref07_Check_ex (l : List TDecl) (hl : l.length ≤ 9223372036854775807) : ∃ r, ref07_Check l = some r ∧ (r.1 = 0 → DeclsOk l) := by
  unfold ref07_Check
  rw [iteP]
  split
  · exact ⟨_, rfl, by simp⟩
  obtain ⟨t1, e1, Q1⟩ := loop_scan0 (step := fun i => ref07_Check_l1_s l i) l.length (fun i => ∀ d, l[i]? = some d → findS l d.name = some i) (fun t => match t with | .inl _ => DeclsOk l | .inr r => r.1 ≠ 0)
    (fun i hi => by
      obtain ⟨x, hx, _⟩ := get_lt hi
      obtain ⟨b, hb⟩ := ref07_Name_tot x.name
      simp only [ref07_Check_l1_s, ltD hx, iteE_t, idxE_n hx, succW hx hl, hb, bndE_s, ref07_Find_eq l _ hl]
      cases b with
      | false => exact .inr ⟨_, rfl, by simp⟩
      | true =>
        simp only [Bool.not_true, iteE_f]
        obtain ⟨k, hk, hki⟩ := findS_le hx rfl
        rw [hk]
        dsimp only
        rw [iteP]
        split
        · exact .inr ⟨_, rfl, by simp⟩
        · rename_i hge
          rw [iteP]
          split
          · exact .inr ⟨_, rfl, by simp⟩
          · obtain ⟨t2, e2, _⟩ := loop_scan0 (step := fun s => ref07_Check_l2_s l (i : Int) s) x.types.length (fun _ => True) (fun _ => True)
              (fun j hj => by
                obtain ⟨y, hy, _⟩ := get_lt hj
                simp only [ref07_Check_l2_s, idxE_n hx, ltD hy, iteE_t, idxE_n hy, succW hy (show x.types.length ≤ 9223372036854775807 by omega)]
                simp only [iteE_if]
                repeat' split
                all_goals first | exact .inl ⟨rfl, trivial⟩ | exact .inr ⟨_, rfl, trivial⟩)
              (fun _ => ⟨.inl (), by simp only [ref07_Check_l2_s, idxE_n hx, ltI, iteE_f], trivial⟩)
            unfold ref07_Check_l2
            rw [e2, bndE_s]
            rcases t2 with _ | _
            · refine .inl ⟨rfl, fun d hd => ?_⟩
              rw [hx] at hd; cases hd
              have : k = i := by omega
              rw [hk, this]
            · exact .inr ⟨_, rfl, by simp⟩)
    (fun hP => ⟨.inl (), by simp only [ref07_Check_l1_s, ltI, iteE_f], fun j d hd => hP j (getLt hd) d hd⟩)
  unfold ref07_Check_l1
  rw [e1, bndE_s]
  rcases t1 with _ | r
  · exact ⟨_, rfl, fun _ => Q1⟩
  · exact ⟨_, rfl, fun h => absurd h Q1⟩
theorem ref03_arith_tot (op : Int) : ∃ r, ref03_arith op 0 0 = some r := by
  unfold ref03_arith
  rw [show ref01_Add 0 0 = some (intVal .add .i64 0 0, true) by simp [ref01_Add, iteE], show ref01_Sub 0 0 = some (intVal .sub .i64 0 0, true) by simp [ref01_Sub, iteE], show ref01_Mul 0 0 = some (0, true) by simp [ref01_Mul, iteE], show ref01_Div 0 0 = some (0, 0, 7) by simp [ref01_Div, iteE]]
  simp only [bndE_s, ref03_number, Bool.not_true, iteE_f]
  refine tot_ex ?_
  repeat' first | exact ⟨_, rfl, trivial⟩ | refine ex_if (fun _ => ?_) (fun _ => ?_) | refine ex_ifb (fun _ => ?_) (fun _ => ?_)
theorem ref03_Less_e (a b : Int) : ∃ r, ref03_Less ⟨a, 0, [], false⟩ ⟨b, 0, [], false⟩ = some r := by
  unfold ref03_Less
  have hb : ref03_Below [] [] = some false := by
    unfold ref03_Below ref03_Below_l1
    rw [loopE_eq]
    simp [ref03_Below_l1_s, iteE, nextE, bndE, sumE]
  simp only [hb, bndE_s]
  refine tot_ex ?_
  repeat' first | exact ⟨_, rfl, trivial⟩ | refine ex_if (fun _ => ?_) (fun _ => ?_) | refine ex_ifn (fun _ => ?_) (fun _ => ?_) | refine ex_ifb (fun _ => ?_) (fun _ => ?_)
theorem ref03_Op_e (op a b : Int) : ∃ r, ref03_Op op ⟨a, 0, [], false⟩ ⟨b, 0, [], false⟩ = some r := by
  unfold ref03_Op
  obtain ⟨r1, h1⟩ := ref03_Less_e a b
  obtain ⟨r2, h2⟩ := ref03_Less_e b a
  obtain ⟨r3, h3⟩ := ref03_arith_tot 9
  obtain ⟨r4, h4⟩ := ref03_arith_tot op
  have h4' : ref03_arith op 0 0 = some r4 := h4
  have hc : ∀ {β : Type} (k : Option β), chkE (([] : List UInt8).length + ([] : List UInt8).length ≤ 9223372036854775807) k = k := fun k => chkE_p (by simp) k
  simp only [ref03_truth, bndE_s, h1, h2, h3, h4', hc, iteE_f]
  refine tot_ex ?_
  repeat' first | exact ⟨_, rfl, trivial⟩ | refine ex_if (fun _ => ?_) (fun _ => ?_) | refine ex_ifn (fun _ => ?_) (fun _ => ?_) | refine ex_ifb (fun _ => ?_) (fun _ => ?_)
theorem ref13_Type_ex (op a b : Int) : ∃ r, ref13_Type op a b = some r ∧ (r ≠ 0 → a ≠ 0) := by
  unfold ref13_Type
  obtain ⟨r, hr⟩ := ref03_Op_e op a b
  rw [hr]
  simp only [bndE_s]
  refine ex_if (fun _ => ⟨_, rfl, by simp⟩) (fun h => ?_)
  repeat' first | exact ⟨_, rfl, fun _ => by omega⟩ | refine ex_if (fun _ => ?_) (fun _ => ?_) | refine ex_ifn (fun _ => ?_) (fun _ => ?_)
theorem getI {α : Type} {l : List α} {i : Int} (h0 : 0 ≤ i) (h1 : i < l.length) : ∃ x, l[i.toNat]? = some x ∧ i = (i.toNat : Int) := by
  obtain ⟨x, hx, _⟩ := get_lt (l := l) (i := i.toNat) (by omega)
  exact ⟨x, hx, by omega⟩
theorem idxE_i {α β : Type} {l : List α} {i : Int} {x : α} (h : l[i.toNat]? = some x) (h0 : 0 ≤ i) (k : α → Option β) : idxE l i k = k x := by
  have e : idxE l ((i.toNat : Nat) : Int) k = k x := idxE_n h k
  rwa [show ((i.toNat : Nat) : Int) = i by omega] at e
theorem below_ex (q : TQea) (hq : q.nodes.length ≤ 2048) : ∀ (n : Nat) (i : Int), -9223372036854775000 ≤ i → 0 < n → i + 1 < n → ∃ r, ref13_below_n n q i = some r ∧ (r.1 ≠ 0 → 0 ≤ r.2.2 ∧ r.2.2 ≤ i ∧ i < q.nodes.length) := by
  intro n
  induction n with
  | zero => intro i h0 h; omega
  | succ n ih =>
    intro i h0 _ h
    show ∃ r, ref13_below_F (ref13_below_n n) q i = some r ∧ _
    unfold ref13_below_F
    refine ex_if (fun _ => ⟨_, rfl, by simp⟩) (fun hi0 => ?_)
    refine ex_if (fun _ => ⟨_, rfl, by simp⟩) (fun hi1 => ?_)
    obtain ⟨x, hx, _⟩ := getI (l := q.nodes) (i := i) (by omega) (by omega)
    rw [idxE_i hx (by omega)]
    obtain ⟨b, hb⟩ := ref03_Right_tot x.value
    have e1 : intVal .sub .i64 i 1 = i - 1 := subI (by omega) (by omega)
    rw [e1]
    refine ex_if (fun _ => ?_) (fun _ => ?_)
    · refine ex_ifn (fun _ => ⟨_, rfl, by simp⟩) (fun _ => ?_)
      refine ex_ifn (fun _ => ⟨_, rfl, by simp⟩) (fun _ => ?_)
      refine ex_bnd hb ?_
      exact ex_ifnb (fun _ => ⟨_, rfl, by simp⟩) (fun _ => ⟨_, rfl, fun _ => ⟨by simp only; omega, Int.le_refl _, by omega⟩⟩)
    refine ex_ifnb (fun _ => ⟨_, rfl, by simp⟩) (fun _ => ?_)
    refine ex_if (fun _ => ?_) (fun _ => ?_)
    · refine ex_if (fun _ => ⟨_, rfl, by simp⟩) (fun _ => ?_)
      refine ex_if (fun _ => ⟨_, rfl, by simp⟩) (fun _ => ?_)
      refine ex_ifn (fun _ => ⟨_, rfl, by simp⟩) (fun _ => ?_)
      obtain ⟨y, hy, _⟩ := getI (l := q.quants) (i := x.a) (by omega) (by omega)
      rw [idxE_i hy (by omega)]
      exact ⟨_, rfl, fun _ => ⟨by simp only; omega, Int.le_refl _, by omega⟩⟩
    refine ex_if (fun _ => ?_) (fun _ => ?_)
    · refine ex_if (fun _ => ⟨_, rfl, by simp⟩) (fun _ => ?_)
      refine ex_if (fun _ => ⟨_, rfl, by simp⟩) (fun _ => ?_)
      refine ex_ifn (fun _ => ⟨_, rfl, by simp⟩) (fun _ => ?_)
      obtain ⟨y, hy, _⟩ := getI (l := q.frees) (i := x.a) (by omega) (by omega)
      rw [idxE_i hy (by omega)]
      exact ⟨_, rfl, fun _ => ⟨by simp only; omega, Int.le_refl _, by omega⟩⟩
    refine ex_if (fun _ => ⟨_, rfl, by simp⟩) (fun _ => ?_)
    refine ex_if (fun _ => ⟨_, rfl, by simp⟩) (fun _ => ?_)
    obtain ⟨r5, h5, p5⟩ := ih (i - 1) (by omega) (by omega) (by omega)
    refine ex_bnd h5 ?_
    refine ex_if (fun _ => ?_) (fun _ => ?_)
    · refine ex_if (fun _ => ⟨_, rfl, by simp⟩) (fun hk => ?_)
      refine ex_ifn (fun _ => ⟨_, rfl, by simp⟩) (fun _ => ?_)
      refine ex_ifn (fun _ => ⟨_, rfl, by simp⟩) (fun _ => ?_)
      obtain ⟨r6, h6, _⟩ := ref13_Type_ex x.op r5.1 r5.1
      refine ex_bnd h6 ?_
      have := p5 hk
      exact ⟨_, rfl, fun _ => by simp only; omega⟩
    · refine ex_if (fun _ => ⟨_, rfl, by simp⟩) (fun hk => ?_)
      have hp := p5 hk
      have e2 : intVal .sub .i64 r5.2.2 1 = r5.2.2 - 1 := subI (by omega) (by omega)
      rw [e2]
      refine ex_ifn (fun _ => ⟨_, rfl, by simp⟩) (fun _ => ?_)
      refine ex_ifn (fun _ => ⟨_, rfl, by simp⟩) (fun _ => ?_)
      obtain ⟨r7, h7, p7⟩ := ih (r5.2.2 - 1) (by omega) (by omega) (by omega)
      refine ex_bnd h7 ?_
      obtain ⟨r8, h8, p8⟩ := ref13_Type_ex x.op r7.1 r5.1
      refine ex_bnd h8 ?_
      refine ⟨_, rfl, fun h => ?_⟩
      have := p7 (p8 h)
      simp only; omega
theorem Kind_ex (q : TQea) (hq : q.nodes.length ≤ 2048) (f i : Int) (hi : -9223372036854775808 ≤ i ∧ i ≤ 9223372036854775807) : ∃ r, ref13_Kind q f i = some r ∧ (r.1 ≠ 0 → 0 ≤ i ∧ i < q.nodes.length) := by
  unfold ref13_Kind ref13_below
  by_cases h : 0 ≤ i ∧ i < q.nodes.length
  · obtain ⟨r, hr, _⟩ := below_ex q hq 100000 i (by omega) (by omega) (by omega)
    refine ex_bnd hr ?_
    refine ex_if (fun _ => ⟨_, rfl, by simp⟩) (fun _ => ?_)
    exact ex_ifn (fun _ => ⟨_, rfl, by simp⟩) (fun _ => ⟨_, rfl, fun _ => h⟩)
  · have hz : ref13_below_n 100000 q i = some (0, 0, 0) := by
      show ref13_below_F (ref13_below_n 99999) q i = _
      unfold ref13_below_F
      rw [iteP, iteP]
      split
      · rfl
      · rw [if_pos (by omega)]
    refine ex_bnd hz ?_
    exact ⟨(0, 0), by simp [iteE], by simp⟩
theorem Names_tot (s : TSymbol) (v : Int) (hs : s.args.length ≤ 9223372036854775807) : ∃ r, ref13_Names s v = some r := by
  unfold ref13_Names ref13_Names_l1
  obtain ⟨t, ht, _⟩ := loop_scan0 (step := fun i => ref13_Names_l1_s v s i) s.args.length (fun _ => True) (fun _ => True)
    (fun i hi => by
      obtain ⟨x, hx, _⟩ := get_lt hi
      simp only [ref13_Names_l1_s, ltD hx, iteE_t, idxE_n hx, succW hx hs]
      simp only [iteE_if]
      repeat' split
      all_goals first | exact .inl ⟨rfl, trivial⟩ | exact .inr ⟨_, rfl, trivial⟩)
    (fun _ => ⟨.inl (), by simp only [ref13_Names_l1_s, ltI, iteE_f], trivial⟩)
  rw [ht, bndE_s]
  rcases t with _ | _ <;> exact ⟨_, rfl⟩
theorem bound_tot (q : TQea) (s : TSymbol) (hs : s.args.length ≤ 9223372036854775807) (hq : q.nodes.length ≤ 2048) (f t : Int) (hf : 0 ≤ f) (ht : t ≤ q.nodes.length) : ∃ r, ref13_bound q s f t = some r := by
  unfold ref13_bound ref13_bound_l1
  obtain ⟨u, hu, _⟩ := loopE_ex (step := fun i => ref13_bound_l1_s t q s i) (fun i => 0 ≤ i) (fun i => (t - i).toNat) (fun _ => True)
    (by
      intro i hi
      by_cases h : i < t
      · obtain ⟨x, hx, _⟩ := getI (l := q.nodes) (i := i) hi (by omega)
        obtain ⟨b, hb⟩ := Names_tot s x.a hs
        simp only [ref13_bound_l1_s, h, decide_true, iteE_t, idxE_i hx hi, hb, bndE_s, addI (a := i) (b := 1) (by omega) (by omega)]
        simp only [iteE_if]
        repeat' split
        all_goals first | exact .inl ⟨_, rfl, trivial⟩ | exact .inr ⟨_, rfl, by omega, by omega⟩
      · exact .inl ⟨.inl (), by simp [ref13_bound_l1_s, h, iteE], trivial⟩)
    f hf
  rw [hu, bndE_s]
  rcases u with _ | _ <;> exact ⟨_, rfl⟩
def IntOk (n : Int) : Prop := -9223372036854775808 ≤ n ∧ n ≤ 9223372036854775807
structure TransW (t : TTrans) : Prop where
  guard : IntOk t.guard
  sets : ∀ s ∈ t.sets, IntOk s.expr
theorem trans_ex (q : TQea) (hF : FewP q) (t : TTrans) (hT : TransW t) (hts : t.sets.length ≤ 12) (f : Int) (hf : 0 ≤ f) (hfl : f ≤ q.nodes.length) :
    ∃ r, ref13_trans q t f = some r ∧ (r.2 = true → 0 ≤ t.symbol ∧ t.symbol < q.symbols.length ∧ 0 ≤ r.1 ∧ r.1 ≤ q.nodes.length ∧ (t.guard = -1 ∨ 0 ≤ t.guard)) := by
  have hn : q.nodes.length ≤ 2048 := Nat.le_trans hF.nodes (by decide)
  have hfr : q.frees.length ≤ 12 := hF.frees
  unfold ref13_trans
  refine ex_if (fun _ => ⟨_, rfl, by simp⟩) (fun _ => ?_)
  refine ex_if (fun _ => ⟨_, rfl, by simp⟩) (fun _ => ?_)
  refine ex_if (fun _ => ⟨_, rfl, by simp⟩) (fun _ => ?_)
  refine ex_if (fun _ => ⟨_, rfl, by simp⟩) (fun _ => ?_)
  refine ex_if (fun _ => ⟨_, rfl, by simp⟩) (fun hs0 => ?_)
  refine ex_if (fun _ => ⟨_, rfl, by simp⟩) (fun hs1 => ?_)
  obtain ⟨o2, h2, p2⟩ : ∃ o, ref13_trans_b1 f f (!decide (t.guard = (-1))) q t = some o ∧ ∀ x, o = .inl x → 0 ≤ x ∧ x ≤ q.nodes.length ∧ (t.guard = -1 ∨ 0 ≤ t.guard) := by
    unfold ref13_trans_b1
    refine ex_ifn (fun _ => ?_) (fun hg => ⟨_, rfl, fun x hx => by cases hx; exact ⟨hf, hfl, .inl hg⟩⟩)
    obtain ⟨r1, h1, p1⟩ := Kind_ex q hn f t.guard hT.guard
    refine ex_bnd h1 ?_
    refine ex_ifn (fun _ => ⟨_, rfl, by simp⟩) (fun h3 => ?_)
    refine ex_if (fun _ => ⟨_, rfl, by simp⟩) (fun _ => ?_)
    have := p1 (by omega)
    refine ⟨_, rfl, fun x hx => ?_⟩
    cases hx
    refine ⟨?_, ?_, .inr this.1⟩ <;> (rw [addI (by omega) (by omega)]; omega)
  refine ex_bnd h2 ?_
  rcases o2 with o3 | _
  · have h3 := p2 o3 rfl
    rw [sumE_l]
    unfold ref13_trans_l2
    obtain ⟨u, hu, pu⟩ := loopE_ex (step := fun s : Int × Int => ref13_trans_l2_s f q t s.1 s.2) (fun s => ∃ i : Nat, s.2 = (i : Int) ∧ i ≤ t.sets.length ∧ 0 ≤ s.1 ∧ s.1 ≤ q.nodes.length) (fun s => (t.sets.length - s.2).toNat)
      (fun o => ∀ x, o = .inl x → 0 ≤ x ∧ x ≤ q.nodes.length)
      (by
        rintro ⟨w, s⟩ ⟨i, rfl, hi, hw0, hw1⟩
        simp only at hw0 hw1 ⊢
        by_cases he : i = t.sets.length
        · subst he
          exact .inl ⟨.inl w, by simp only [ref13_trans_l2_s, ltI, iteE_f], fun x hx => by cases hx; exact ⟨hw0, hw1⟩⟩
        · obtain ⟨x, hx, _⟩ := get_lt (l := t.sets) (i := i) (by omega)
          obtain ⟨r6, h6, p6⟩ := Kind_ex q hn w x.expr (hT.sets x (List.mem_of_getElem? hx))
          have h6' : ref13_Kind q w x.expr = some r6 := h6
          simp only [ref13_trans_l2_s, ltD hx, iteE_t, idxE_n hx, h6', bndE_s, succW hx (show t.sets.length ≤ 9223372036854775807 by omega)]
          by_cases g1 : x.free < 0
          · exact .inl ⟨.inr (), by simp [g1, iteE], by simp⟩
          by_cases g2 : (q.frees.length : Int) ≤ x.free
          · exact .inl ⟨.inr (), by simp [g1, g2, iteE], by simp⟩
          by_cases g3 : r6.1 = 0
          · exact .inl ⟨.inr (), by simp [g1, g2, g3, iteE], by simp⟩
          by_cases g4 : 64 < r6.2
          · exact .inl ⟨.inr (), by simp [g1, g2, g3, g4, iteE], by simp⟩
          obtain ⟨y, hy, _⟩ := getI (l := q.frees) (i := x.free) (by omega) (by omega)
          by_cases g5 : r6.1 = y.init_.kind
          · obtain ⟨t3, e3, _⟩ := loop_scan0 (step := fun s => ref13_trans_l3_s f (i : Int) q t x s) i (fun _ => True) (fun _ => True)
              (fun j hj => by
                obtain ⟨z, hz, _⟩ := get_lt (l := t.sets) (i := j) (by omega)
                have hlt : decide ((j : Int) < (i : Int)) = true := by simp; omega
                simp only [ref13_trans_l3_s, hlt, iteE_t, idxE_n hz, succW hz (show t.sets.length ≤ 9223372036854775807 by omega)]
                simp only [iteE_if]
                split
                · exact .inr ⟨_, rfl, trivial⟩
                · exact .inl ⟨rfl, trivial⟩)
              (fun _ => ⟨.inl (), by simp only [ref13_trans_l3_s, ltI, iteE_f], trivial⟩)
            have e3' : ref13_trans_l3 f (i : Int) q t x 0 = some t3 := e3
            have hp := p6 g3
            rcases t3 with _ | _
            · refine .inr ⟨(intVal .add .i64 x.expr 1, ((i + 1 : Nat) : Int)), ?_, ⟨i + 1, rfl, by omega, ?_, ?_⟩, by simp only; omega⟩
              · rw [iteP, if_neg g1, iteP, if_neg g2, iteP, if_neg g3, iteP, if_neg g4, idxE_i hy (show 0 ≤ x.free by omega)]
                simp only [g5, decide_true, Bool.not_true, iteE_f, e3', bndE_s, sumE_l]
              · simp only; rw [addI (by omega) (by omega)]; omega
              · simp only; rw [addI (by omega) (by omega)]; omega
            · refine .inl ⟨.inr (), ?_, by simp⟩
              rw [iteP, if_neg g1, iteP, if_neg g2, iteP, if_neg g3, iteP, if_neg g4, idxE_i hy (show 0 ≤ x.free by omega)]
              simp only [g5, decide_true, Bool.not_true, iteE_f, e3', bndE_s, sumE_r]
          · refine .inl ⟨.inr (), ?_, by simp⟩
            rw [iteP, if_neg g1, iteP, if_neg g2, iteP, if_neg g3, iteP, if_neg g4, idxE_i hy (show 0 ≤ x.free by omega)]
            simp only [g5, decide_false, Bool.not_false, iteE_t])
      (o3, (0 : Int)) ⟨0, rfl, by omega, h3.1, h3.2.1⟩
    refine ex_bnd hu ?_
    rcases u with o13 | _
    · rw [sumE_l]
      have h13 := pu o13 rfl
      obtain ⟨x, hx, _⟩ := getI (l := q.symbols) (i := t.symbol) (by omega) (by omega)
      rw [idxE_i hx (by omega)]
      obtain ⟨r16, h16⟩ := bound_tot q x (Nat.le_trans (hF.args x (List.mem_of_getElem? hx)) (by decide)) hn f o13 hf h13.2
      refine ex_bnd h16 ⟨_, rfl, fun _ => ⟨by omega, by omega, h13.1, h13.2, h3.2.2⟩⟩
    · exact ⟨_, rfl, by simp⟩
  · exact ⟨_, rfl, by simp⟩
structure ArgOk (q : TQea) (a : TArg) : Prop where
  two : a.kind = 2 → 0 ≤ a.n ∧ a.n < q.quants.length
  three : a.kind = 3 → 0 ≤ a.n ∧ a.n < q.frees.length
  one : a.kind = 1 → vR a.value = true
theorem ref13_arg_ex (q : TQea) (a : TArg) (k : Int) : ∃ r, ref13_arg q a k = some r ∧ (r = true → ArgOk q a) := by
  unfold ref13_arg
  have hb := ref03_Right_eq a.value
  refine ex_if (fun h => ?_) (fun h1 => ?_)
  · have ho : vR a.value = true → ArgOk q a := fun hv => ⟨fun h2 => by omega, fun h2 => by omega, fun _ => hv⟩
    refine ex_if (fun _ => ?_) (fun _ => ⟨_, rfl, by simp⟩)
    refine ex_bnd hb ?_
    exact ex_ifb (fun hv => ⟨_, rfl, fun _ => ho hv⟩) (fun _ => ⟨_, rfl, by simp⟩)
  refine ex_ifnb (fun _ => ⟨_, rfl, by simp⟩) (fun _ => ?_)
  refine ex_if (fun h2 => ?_) (fun h2 => ?_)
  · refine ex_if (fun h3 => ?_) (fun _ => ⟨_, rfl, by simp⟩)
    refine ex_if (fun h4 => ?_) (fun _ => ⟨_, rfl, by simp⟩)
    obtain ⟨y, hy, _⟩ := getI h3 h4
    rw [idxE_i hy h3]
    exact ⟨_, rfl, fun _ => ⟨fun _ => ⟨h3, h4⟩, fun h => by omega, fun h => by omega⟩⟩
  refine ex_if (fun h5 => ?_) (fun h5 => ?_)
  · refine ex_if (fun h3 => ?_) (fun _ => ⟨_, rfl, by simp⟩)
    refine ex_if (fun h4 => ?_) (fun _ => ⟨_, rfl, by simp⟩)
    obtain ⟨y, hy, _⟩ := getI h3 h4
    rw [idxE_i hy h3]
    exact ⟨_, rfl, fun _ => ⟨fun h => by omega, fun _ => ⟨h3, h4⟩, fun h => by omega⟩⟩
  exact ex_if (fun _ => ⟨_, rfl, fun _ => ⟨fun h => by omega, fun h => by omega, fun h => by omega⟩⟩) (fun _ => ⟨_, rfl, by simp⟩)
structure SymOk (q : TQea) (s : TSymbol) : Prop where
  event : 0 ≤ s.event
  decl : ∃ d, q.decls[s.event.toNat]? = some d ∧ s.args.length = d.types.length
  args : ∀ a ∈ s.args, ArgOk q a
theorem ref13_symbol_ex (q : TQea) (s : TSymbol) (hs : s.args.length ≤ 12) : ∃ r, ref13_symbol q s = some r ∧ (r = true → SymOk q s) := by
  unfold ref13_symbol
  refine ex_if (fun _ => ⟨_, rfl, by simp⟩) (fun h0 => ?_)
  refine ex_if (fun _ => ⟨_, rfl, by simp⟩) (fun h1 => ?_)
  obtain ⟨d, hd, _⟩ := getI (l := q.decls) (i := s.event) (by omega) (by omega)
  rw [idxE_i hd (by omega)]
  refine ex_ifn (fun _ => ⟨_, rfl, by simp⟩) (fun h2 => ?_)
  obtain ⟨t, ht, hQ⟩ := loop_scan0 (step := fun i => ref13_symbol_l1_s q s i) s.args.length (fun i => ∀ a, s.args[i]? = some a → ArgOk q a) (fun t => t = .inl () → ∀ a ∈ s.args, ArgOk q a)
    (fun i hi => by
      obtain ⟨x, hx, _⟩ := get_lt hi
      obtain ⟨y, hy, _⟩ := get_lt (l := d.types) (i := i) (by omega)
      obtain ⟨b, hb, hbo⟩ := ref13_arg_ex q x y
      simp only [ref13_symbol_l1_s, ltD hx, iteE_t, idxE_n hx, idxE_i hd (show 0 ≤ s.event by omega), idxE_n hy, hb, bndE_s, succW hx (show s.args.length ≤ 9223372036854775807 by omega)]
      cases b with
      | false => exact .inr ⟨_, rfl, by simp⟩
      | true => exact .inl ⟨rfl, fun a ha => by rw [hx] at ha; cases ha; exact hbo rfl⟩)
    (fun hP => ⟨.inl (), by simp only [ref13_symbol_l1_s, ltI, iteE_f], fun _ => all_get hP⟩)
  refine ex_bnd ht ?_
  rcases t with _ | _
  · exact ⟨_, rfl, fun _ => ⟨by omega, ⟨d, hd, by omega⟩, hQ rfl⟩⟩
  · exact ⟨_, rfl, by simp⟩
theorem SameSymbol_tot (a b : TSymbol) (ha : a.args.length ≤ 9223372036854775807) : ∃ r, ref13_SameSymbol a b = some r := by
  unfold ref13_SameSymbol
  refine tot_ex ?_
  refine ex_ifn (fun _ => ⟨_, rfl, trivial⟩) (fun _ => ?_)
  refine ex_ifn (fun _ => ⟨_, rfl, trivial⟩) (fun h => ?_)
  obtain ⟨t, ht, _⟩ := loop_scan0 (step := fun i => ref13_SameSymbol_l1_s a b i) a.args.length (fun _ => True) (fun _ => True)
    (fun i hi => by
      obtain ⟨x, hx, _⟩ := get_lt hi
      obtain ⟨y, hy, _⟩ := get_lt (l := b.args) (i := i) (by omega)
      simp only [ref13_SameSymbol_l1_s, ltD hx, iteE_t, idxE_n hx, idxE_n hy, succW hx ha]
      simp only [iteE_if]
      split
      · exact .inr ⟨_, rfl, trivial⟩
      · exact .inl ⟨rfl, trivial⟩)
    (fun _ => ⟨.inl (), by simp only [ref13_SameSymbol_l1_s, ltI, iteE_f], trivial⟩)
  refine ex_bnd ht ?_
  rcases t with _ | _ <;> exact ⟨_, rfl, trivial⟩
theorem ref13_symbols_ex (q : TQea) (hF : FewP q) (hT : ∀ t ∈ q.trans, 0 ≤ t.symbol ∧ t.symbol < q.symbols.length) : ∃ r, ref13_symbols q = some r ∧ (r = true → ∀ s ∈ q.symbols, SymOk q s) := by
  have hsy := hF.symbols; have htr := hF.trans; have hqu := hF.quants
  unfold ref13_symbols
  rw [chkE_p ⟨by omega, fit_small (by omega) (by decide)⟩]
  obtain ⟨o9, h9, hl9⟩ := loopE_ex (step := fun s : Int × List Bool × List Int => ref13_symbols_l1_s q s.1 s.2.1 s.2.2) (fun s => ∃ i : Nat, s.1 = (i : Int) ∧ i ≤ q.trans.length ∧ s.2.1.length = q.symbols.length ∧ s.2.2.length ≤ i) (fun s => (q.trans.length - s.1).toNat) (fun o => o.length ≤ 12)
    (by
      rintro ⟨s, u, w⟩ ⟨i, rfl, hi, hu, hw⟩
      simp only at hu hw ⊢
      by_cases he : i = q.trans.length
      · subst he
        exact .inl ⟨w, by simp only [ref13_symbols_l1_s, ltI, iteE_f], by omega⟩
      · obtain ⟨x, hx, _⟩ := get_lt (l := q.trans) (i := i) (by omega)
        have hxs := hT x (List.mem_of_getElem? hx)
        obtain ⟨y, hy, _⟩ := getI (l := u) (i := x.symbol) hxs.1 (by omega)
        have hb5 : ∃ w', ref13_symbols_b5 (i : Int) x.symbol (!y) q u w = some w' ∧ w'.length ≤ i + 1 := by
          unfold ref13_symbols_b5
          refine ex_ifnb (fun _ => ?_) (fun _ => ⟨_, rfl, by omega⟩)
          rw [chkF (by simp; omega) (by decide)]
          exact ⟨_, rfl, by simpa using hw⟩
        obtain ⟨w', hb, hw'⟩ := hb5
        refine .inr ⟨(((i + 1 : Nat) : Int), u.set x.symbol.toNat true, w'), ?_, ⟨i + 1, rfl, by omega, by simpa using hu, hw'⟩, by simp only; omega⟩
        simp only [ref13_symbols_l1_s, ltD hx, iteE_t, succW hx (show q.trans.length ≤ 9223372036854775807 by omega)]
        unfold ref13_symbols_b4
        rw [idxE_n hx, chkE_p (by omega), idxE_i hy hxs.1, hb, bndE_s, chkE_p (by omega), chkE_p (by omega)]
        rfl)
    ((0 : Int), List.replicate (q.symbols.length : Int).toNat false, ([] : List Int)) ⟨0, rfl, by omega, by simp, by simp⟩
  refine ex_bnd h9 ?_
  obtain ⟨t1, e1, _⟩ := loop_scan0 (step := fun s => ref13_symbols_l6_s q o9 s) o9.length (fun _ => True) (fun _ => True)
    (fun i hi => by
      obtain ⟨x, hx, _⟩ := get_lt hi
      simp only [ref13_symbols_l6_s, ltD hx, iteE_t, idxE_n hx, succW hx (show o9.length ≤ 9223372036854775807 by omega)]
      simp only [iteE_if]
      split
      · exact .inr ⟨_, rfl, trivial⟩
      · exact .inl ⟨rfl, trivial⟩)
    (fun _ => ⟨.inl (), by simp only [ref13_symbols_l6_s, ltI, iteE_f], trivial⟩)
  refine ex_bnd e1 ?_
  rcases t1 with _ | _
  case inr => exact ⟨_, rfl, by simp⟩
  rw [sumE_l]
  have hsl : q.symbols.length ≤ 9223372036854775807 := by omega
  obtain ⟨t2, e2, Q2⟩ := loop_scan0 (step := fun s => ref13_symbols_l7_s q s) q.symbols.length (fun i => ∀ s, q.symbols[i]? = some s → SymOk q s) (fun t => t = .inl () → ∀ s ∈ q.symbols, SymOk q s)
    (fun i hi => by
      obtain ⟨x, hx, _⟩ := get_lt hi
      have hxa := hF.args x (List.mem_of_getElem? hx)
      obtain ⟨b, hb, hbo⟩ := ref13_symbol_ex q x hxa
      simp only [ref13_symbols_l7_s, ltD hx, iteE_t, idxE_n hx, hb, bndE_s, succW hx hsl]
      cases b with
      | false => exact .inr ⟨_, rfl, by simp⟩
      | true =>
        simp only [Bool.not_true, iteE_f]
        obtain ⟨t3, e3, _⟩ := loop_scan0 (step := fun s => ref13_symbols_l8_s (i : Int) q s) i (fun _ => True) (fun _ => True)
          (fun j hj => by
            obtain ⟨y, hy, _⟩ := get_lt (l := q.symbols) (i := j) (by omega)
            obtain ⟨c, hc⟩ := SameSymbol_tot x y (by omega)
            have hlt : decide ((j : Int) < (i : Int)) = true := by simp; omega
            simp only [ref13_symbols_l8_s, hlt, iteE_t, idxE_n hx, idxE_n hy, hc, bndE_s, succW hy hsl]
            simp only [iteE_if]
            split
            · exact .inr ⟨_, rfl, trivial⟩
            · exact .inl ⟨rfl, trivial⟩)
          (fun _ => ⟨.inl (), by simp only [ref13_symbols_l8_s, ltI, iteE_f], trivial⟩)
        unfold ref13_symbols_l8
        rw [e3, bndE_s]
        rcases t3 with _ | _
        · exact .inl ⟨rfl, fun s hs => by rw [hx] at hs; cases hs; exact hbo rfl⟩
        · exact .inr ⟨_, rfl, by simp⟩)
    (fun hP => ⟨.inl (), by simp only [ref13_symbols_l7_s, ltI, iteE_f], fun _ => all_get hP⟩)
  refine ex_bnd e2 ?_
  rcases t2 with _ | _
  case inr => exact ⟨_, rfl, by simp⟩
  rw [sumE_l]
  obtain ⟨t4, e4, _⟩ := loop_scan0 (step := fun s => ref13_symbols_l9_s q s) q.quants.length (fun _ => True) (fun _ => True)
    (fun i hi => by
      have hlt : decide ((i : Int) < (q.quants.length : Int)) = true := by simp; omega
      obtain ⟨o, ho, _⟩ := loopE_ex (step := fun s : Bool × Int => ref13_symbols_l10_s (i : Int) q s.1 s.2) (fun s => ∃ j : Nat, s.2 = (j : Int) ∧ j ≤ q.symbols.length) (fun s => (q.symbols.length - s.2).toNat) (fun _ => True)
        (by
          rintro ⟨b, s⟩ ⟨j, rfl, hj⟩
          simp only
          by_cases he : j = q.symbols.length
          · subst he; exact .inl ⟨b, by simp only [ref13_symbols_l10_s, ltI, iteE_f], trivial⟩
          · obtain ⟨x, hx, _⟩ := get_lt (l := q.symbols) (i := j) (by omega)
            have hxa := hF.args x (List.mem_of_getElem? hx)
            obtain ⟨c, hc⟩ := Names_tot x (i : Int) (by omega)
            have hc' : ref13_Names x (i : Int) = some c := hc
            cases b with
            | true => exact .inr ⟨(true, ((j + 1 : Nat) : Int)), by simp only [ref13_symbols_l10_s, ltD hx, iteE_t, succW hx hsl], ⟨j + 1, rfl, by omega⟩, by simp only; omega⟩
            | false => exact .inr ⟨(c, ((j + 1 : Nat) : Int)), by simp only [ref13_symbols_l10_s, ltD hx, iteE_t, iteE_f, idxE_n hx, hc', bndE_s, succW hx hsl], ⟨j + 1, rfl, by omega⟩, by simp only; omega⟩)
        (false, (0 : Int)) ⟨0, rfl, by omega⟩
      have ho' : ref13_symbols_l10 (i : Int) q false 0 = some o := ho
      simp only [ref13_symbols_l9_s, hlt, iteE_t, ho', bndE_s, succI (show i < 9223372036854775807 by omega)]
      simp only [iteE_if]
      split
      · exact .inr ⟨_, rfl, trivial⟩
      · exact .inl ⟨rfl, trivial⟩)
    (fun _ => ⟨.inl (), by simp only [ref13_symbols_l9_s, ltI, iteE_f], trivial⟩)
  refine ex_bnd e4 ?_
  rcases t4 with _ | _
  · exact ⟨_, rfl, fun _ => Q2 rfl⟩
  · exact ⟨_, rfl, by simp⟩
theorem twice_tot (l : List (List UInt8)) (at' : Nat) (h : at' < l.length) (hl : l.length ≤ 9223372036854775807) : ∃ r, ref13_twice l (at' : Int) = some r := by
  unfold ref13_twice
  refine tot_ex ?_
  obtain ⟨y, hy, _⟩ := get_lt h
  obtain ⟨t, ht, _⟩ := loop_scan0 (step := fun i => ref13_twice_l1_s l (at' : Int) i) at' (fun _ => True) (fun _ => True)
    (fun i hi => by
      obtain ⟨x, hx, _⟩ := get_lt (l := l) (i := i) (by omega)
      have hlt : decide ((i : Int) < (at' : Int)) = true := by simp; omega
      simp only [ref13_twice_l1_s, hlt, iteE_t, idxE_n hx, idxE_n hy, succW hx hl]
      simp only [iteE_if]
      split
      · exact .inr ⟨_, rfl, trivial⟩
      · exact .inl ⟨rfl, trivial⟩)
    (fun _ => ⟨.inl (), by simp only [ref13_twice_l1_s, ltI, iteE_f], trivial⟩)
  refine ex_bnd ht ?_
  rcases t with _ | _ <;> exact ⟨_, rfl, trivial⟩
theorem ref13_names_tot (q : TQea) (hF : FewP q) : ∃ r, ref13_names q = some r := by
  have h1 := hF.quants; have h2 := hF.frees; have h3 := hF.states
  unfold ref13_names
  refine tot_ex ?_
  obtain ⟨o7, e7, p7⟩ := loopE_ex (step := fun s : Int × List (List UInt8) => ref13_names_l1_s q s.1 s.2) (fun s => ∃ i : Nat, s.1 = (i : Int) ∧ i ≤ q.quants.length ∧ s.2.length ≤ i) (fun s => (q.quants.length - s.1).toNat) (fun o => ∀ w, o = .inl w → w.length ≤ 9)
    (by
      rintro ⟨s, w⟩ ⟨i, rfl, hi, hw⟩
      simp only at hw ⊢
      by_cases he : i = q.quants.length
      · subst he; exact .inl ⟨.inl w, by simp only [ref13_names_l1_s, ltI, iteE_f], fun w' hw' => by cases hw'; omega⟩
      · obtain ⟨x, hx, _⟩ := get_lt (l := q.quants) (i := i) (by omega)
        simp only [ref13_names_l1_s, ltD hx, iteE_t, idxE_n hx, succW hx (show q.quants.length ≤ 9223372036854775807 by omega)]
        rw [chkF (by simp; omega) (by decide)]
        simp only [iteE_if]
        split
        · exact .inl ⟨_, rfl, by simp⟩
        · split
          · exact .inl ⟨_, rfl, by simp⟩
          · exact .inr ⟨_, rfl, ⟨i + 1, rfl, by omega, by simpa using hw⟩, by simp only; omega⟩)
    ((0 : Int), ([] : List (List UInt8))) ⟨0, rfl, by omega, by simp⟩
  refine ex_bnd e7 ?_
  rcases o7 with o8 | _
  case inr => exact ⟨_, rfl, trivial⟩
  rw [sumE_l]
  have hw8 := p7 o8 rfl
  obtain ⟨o13, e13, p13⟩ := loopE_ex (step := fun s : Int × List (List UInt8) => ref13_names_l2_s q s.1 s.2) (fun s => ∃ i : Nat, s.1 = (i : Int) ∧ i ≤ q.frees.length ∧ s.2.length ≤ 9 + i) (fun s => (q.frees.length - s.1).toNat) (fun o => ∀ w, o = .inl w → w.length ≤ 21)
    (by
      rintro ⟨s, w⟩ ⟨i, rfl, hi, hw⟩
      simp only at hw ⊢
      by_cases he : i = q.frees.length
      · subst he; exact .inl ⟨.inl w, by simp only [ref13_names_l2_s, ltI, iteE_f], fun w' hw' => by cases hw'; omega⟩
      · obtain ⟨x, hx, _⟩ := get_lt (l := q.frees) (i := i) (by omega)
        obtain ⟨b, hb⟩ := ref03_Right_tot x.init_
        simp only [ref13_names_l2_s, ltD hx, iteE_t, idxE_n hx, hb, bndE_s, succW hx (show q.frees.length ≤ 9223372036854775807 by omega)]
        rw [chkF (by simp; omega) (by decide)]
        simp only [iteE_if]
        split
        · exact .inl ⟨_, rfl, by simp⟩
        · exact .inr ⟨_, rfl, ⟨i + 1, rfl, by omega, by simp; omega⟩, by simp only; omega⟩)
    ((0 : Int), o8) ⟨0, rfl, by omega, by simpa using hw8⟩
  refine ex_bnd e13 ?_
  rcases o13 with o14 | _
  case inr => exact ⟨_, rfl, trivial⟩
  rw [sumE_l]
  have hw14 := p13 o14 rfl
  obtain ⟨t, ht, _⟩ := loop_scan0 (step := fun i => ref13_names_l3_s q o14 i) o14.length (fun _ => True) (fun _ => True)
    (fun i hi => by
      obtain ⟨x, hx, _⟩ := get_lt hi
      obtain ⟨b, hb⟩ := ref07_Name_tot x
      obtain ⟨c, hc⟩ := twice_tot o14 i hi (by omega)
      simp only [ref13_names_l3_s, ltD hx, iteE_t, idxE_n hx, hb, hc, bndE_s, succW hx (show o14.length ≤ 9223372036854775807 by omega)]
      simp only [iteE_if]
      repeat' split
      all_goals first | exact .inl ⟨rfl, trivial⟩ | exact .inr ⟨_, rfl, trivial⟩)
    (fun _ => ⟨.inl (), by simp only [ref13_names_l3_s, ltI, iteE_f], trivial⟩)
  refine ex_bnd ht ?_
  rcases t with _ | _
  case inr => exact ⟨_, rfl, trivial⟩
  rw [sumE_l]
  obtain ⟨o30, e30, _⟩ := loopE_ex (step := fun s : Int × List (List UInt8) => ref13_names_l4_s q s.1 s.2) (fun s => ∃ i : Nat, s.1 = (i : Int) ∧ i ≤ q.states.length ∧ s.2.length = i) (fun s => (q.states.length - s.1).toNat) (fun _ => True)
    (by
      rintro ⟨s, w⟩ ⟨i, rfl, hi, hw⟩
      simp only at hw ⊢
      by_cases he : i = q.states.length
      · subst he; exact .inl ⟨.inl (), by simp only [ref13_names_l4_s, ltI, iteE_f], trivial⟩
      · obtain ⟨x, hx, _⟩ := get_lt (l := q.states) (i := i) (by omega)
        have hg : (w ++ [x.name])[i]? = some x.name := by rw [← hw]; simp
        obtain ⟨b, hb⟩ := ref07_Name_tot x.name
        obtain ⟨c, hc⟩ := twice_tot (w ++ [x.name]) i (by simp; omega) (by simp; omega)
        simp only [ref13_names_l4_s, ltD hx, iteE_t, idxE_n hx, succW hx (show q.states.length ≤ 9223372036854775807 by omega)]
        rw [chkF (by simp; omega) (by decide), idxE_n hg, hb, bndE_s, hc]
        simp only [bndE_s, iteE_if]
        split
        · exact .inl ⟨_, rfl, trivial⟩
        · split
          · exact .inl ⟨_, rfl, trivial⟩
          · exact .inr ⟨_, rfl, ⟨i + 1, rfl, by omega, by simp; omega⟩, by simp only; omega⟩)
    ((0 : Int), ([] : List (List UInt8))) ⟨0, rfl, by omega, by simp⟩
  refine ex_bnd e30 ?_
  rcases o30 with _ | _
  · obtain ⟨b, hb⟩ := ref07_Name_tot q.name
    rw [sumE_l]
    exact ex_bnd hb ⟨_, rfl, trivial⟩
  · exact ⟨_, rfl, trivial⟩
structure RightQ (q : TQea) : Prop where
  decls : DeclsOk q.decls
  quants : q.quants.length ≤ 8
  symbols : ∀ s ∈ q.symbols, SymOk q s
  guards : ∀ t ∈ q.trans, t.guard = -1 ∨ 0 ≤ t.guard
theorem ref13_Right_ex (q : TQea) (hF : FewP q) (hW : ∀ t ∈ q.trans, TransW t) : ∃ r, ref13_Right q = some r ∧ (r = true → RightQ q) := by
  have h1 := hF.decls; have h2 := hF.trans
  unfold ref13_Right
  obtain ⟨r1, e1, p1⟩ := ref07_Check_ex q.decls (by omega)
  refine ex_bnd e1 ?_
  refine ex_ifn (fun _ => ⟨_, rfl, by simp⟩) (fun hz => ?_)
  refine ex_if (fun _ => ⟨_, rfl, by simp⟩) (fun hq => ?_)
  refine ex_if (fun _ => ⟨_, rfl, by simp⟩) (fun _ => ?_)
  refine ex_if (fun _ => ⟨_, rfl, by simp⟩) (fun _ => ?_)
  refine ex_if (fun _ => ⟨_, rfl, by simp⟩) (fun _ => ?_)
  refine ex_if (fun _ => ⟨_, rfl, by simp⟩) (fun _ => ?_)
  refine ex_if (fun _ => ⟨_, rfl, by simp⟩) (fun _ => ?_)
  refine ex_if (fun _ => ⟨_, rfl, by simp⟩) (fun _ => ?_)
  refine ex_if (fun _ => ⟨_, rfl, by simp⟩) (fun _ => ?_)
  obtain ⟨r2, e2⟩ := ref13_names_tot q hF
  refine ex_bnd e2 ?_
  refine ex_ifnb (fun _ => ⟨_, rfl, by simp⟩) (fun _ => ?_)
  obtain ⟨o5, e5, p5⟩ := loopE_ex (step := fun s : Int × Int => ref13_Right_l1_s q s.1 s.2) (fun s => ∃ i : Nat, s.2 = (i : Int) ∧ i ≤ q.trans.length ∧ 0 ≤ s.1 ∧ s.1 ≤ q.nodes.length ∧ ∀ j, j < i → ∀ t, q.trans[j]? = some t → 0 ≤ t.symbol ∧ t.symbol < q.symbols.length ∧ (t.guard = -1 ∨ 0 ≤ t.guard)) (fun s => (q.trans.length - s.2).toNat)
    (fun o => ∀ w, o = .inl w → ∀ t ∈ q.trans, 0 ≤ t.symbol ∧ t.symbol < q.symbols.length ∧ (t.guard = -1 ∨ 0 ≤ t.guard))
    (by
      rintro ⟨w, s⟩ ⟨i, rfl, hi, hw0, hw1, hP⟩
      simp only at hw0 hw1 hP ⊢
      by_cases he : i = q.trans.length
      · subst he; exact .inl ⟨.inl w, by simp only [ref13_Right_l1_s, ltI, iteE_f], fun _ _ => all_get hP⟩
      · obtain ⟨x, hx, _⟩ := get_lt (l := q.trans) (i := i) (by omega)
        have hxm := List.mem_of_getElem? hx
        obtain ⟨r4, e4, p4⟩ := trans_ex q hF x (hW x hxm) (hF.sets x hxm) w hw0 hw1
        simp only [ref13_Right_l1_s, ltD hx, iteE_t, idxE_n hx, e4, bndE_s, succW hx (show q.trans.length ≤ 9223372036854775807 by omega)]
        cases hb : r4.2 with
        | false => exact .inl ⟨.inr (), rfl, by simp⟩
        | true =>
          have hp := p4 hb
          refine .inr ⟨(r4.1, ((i + 1 : Nat) : Int)), rfl, ⟨i + 1, rfl, by omega, hp.2.2.1, hp.2.2.2.1, fun j hj t ht => ?_⟩, by simp only; omega⟩
          rcases Nat.lt_or_ge j i with h | h
          · exact hP j h t ht
          · have : j = i := by omega
            subst this; rw [hx] at ht; cases ht; exact ⟨hp.1, hp.2.1, hp.2.2.2.2⟩)
    ((0 : Int), (0 : Int)) ⟨0, rfl, by omega, by simp, by simp, fun j hj => by omega⟩
  refine ex_bnd e5 ?_
  rcases o5 with o6 | _
  · rw [sumE_l]
    refine ex_if (fun _ => ?_) (fun _ => ⟨_, rfl, by simp⟩)
    obtain ⟨r8, e8, p8⟩ := ref13_symbols_ex q hF (fun t ht => ⟨(p5 o6 rfl t ht).1, (p5 o6 rfl t ht).2.1⟩)
    refine ex_bnd e8 ⟨_, rfl, fun hr => ⟨p1 hz, by omega, p8 hr, fun t ht => (p5 o6 rfl t ht).2.2⟩⟩
  · exact ⟨_, rfl, by simp⟩
theorem midI {i j : Nat} (h : i + j < 4611686018427387904) : IntKind.wrap .i64 (intVal .shr .u64 (IntKind.wrap .u64 (intVal .add .i64 (i : Int) (j : Int))) 1) = (((i + j) / 2 : Nat) : Int) := by
  have e1 : intVal .add .i64 (i : Int) (j : Int) = ((i + j : Nat) : Int) := by rw [addI (by omega) (by omega)]; omega
  rw [e1, wrapU_nat (by omega)]
  have e2 : intVal .shr .u64 (((i + j : Nat)) : Int) 1 = (((i + j) / 2 ^ 1 : Nat) : Int) := shrU (n := i + j) (k := 1) (by decide)
  rw [e2, Nat.pow_one, wrapI (by omega) (by omega)]
theorem bs_loop {step : Int × Int → Option ((Int × Int) ⊕ Int)} (n : Nat) (lt : Nat → Bool)
    (h1 : ∀ i j : Nat, i < j → j ≤ n → step ((i : Int), (j : Int)) = some (.inl (if lt ((i + j) / 2) = true then ((((i + j) / 2 + 1 : Nat) : Int), (j : Int)) else ((i : Int), (((i + j) / 2 : Nat) : Int)))))
    (h2 : ∀ i : Nat, step ((i : Int), (i : Int)) = some (.inr (i : Int))) (hm : ∀ a b, a ≤ b → b < n → lt b = true → lt a = true) :
    ∃ k : Nat, k ≤ n ∧ loopE step (0, (n : Int)) = some (k : Int) ∧ (∀ a, a < k → lt a = true) ∧ ∀ a, k ≤ a → a < n → lt a = false := by
  obtain ⟨t, ht, k, hk, rfl, p1, p2⟩ := loopE_ex (step := step) (fun s => ∃ i j : Nat, s = ((i : Int), (j : Int)) ∧ i ≤ j ∧ j ≤ n ∧ (∀ a, a < i → lt a = true) ∧ ∀ a, j ≤ a → a < n → lt a = false) (fun s => (s.2 - s.1).toNat)
    (fun t => ∃ k : Nat, k ≤ n ∧ t = (k : Int) ∧ (∀ a, a < k → lt a = true) ∧ ∀ a, k ≤ a → a < n → lt a = false)
    (by
      rintro s ⟨i, j, rfl, hij, hj, q1, q2⟩
      rcases Nat.lt_or_ge i j with h | h
      · right
        cases hl : lt ((i + j) / 2) with
        | true =>
          refine ⟨((((i + j) / 2 + 1 : Nat) : Int), (j : Int)), by rw [h1 i j h hj, hl]; rfl, ⟨(i + j) / 2 + 1, j, rfl, by omega, hj, fun a ha => hm a ((i + j) / 2) (by omega) (by omega) hl, q2⟩, by simp only; omega⟩
        | false =>
          refine ⟨((i : Int), (((i + j) / 2 : Nat) : Int)), by rw [h1 i j h hj, hl]; rfl, ⟨i, (i + j) / 2, rfl, by omega, by omega, q1, fun a ha hn => ?_⟩, by simp only; omega⟩
          rcases Nat.lt_or_ge a j with g | g
          · cases hla : lt a with
            | false => rfl
            | true => rw [hm ((i + j) / 2) a ha hn hla] at hl; cases hl
          · exact q2 a g hn
      · have : i = j := by omega
        subst this
        exact .inl ⟨(i : Int), h2 i, i, hj, rfl, q1, q2⟩)
    (0, (n : Int)) ⟨0, n, rfl, by omega, Nat.le_refl _, fun a ha => by omega, fun a ha hn => by omega⟩
  exact ⟨k, hk, ht, p1, p2⟩

theorem bl_irr : ∀ x : List UInt8, Op.bytesLess x x = false
  | [] => rfl
  | a :: x => by simp [Op.bytesLess, bl_irr x]
theorem bl_trans : ∀ {x y z : List UInt8}, Op.bytesLess x y = true → Op.bytesLess y z = true → Op.bytesLess x z = true
  | [], [], _, h, _ => by simp [Op.bytesLess] at h
  | _ :: _, [], _, h, _ => by simp [Op.bytesLess] at h
  | [], _ :: _, [], _, h => by simp [Op.bytesLess] at h
  | [], _ :: _, _ :: _, _, _ => rfl
  | _ :: _, _ :: _, [], _, h => by simp [Op.bytesLess] at h
  | a :: x, b :: y, c :: z, h1, h2 => by
    simp only [Op.bytesLess, Bool.or_eq_true, Bool.and_eq_true, decide_eq_true_eq, beq_iff_eq] at h1 h2 ⊢
    rcases h1 with h1 | ⟨rfl, h1⟩
    · rcases h2 with h2 | ⟨rfl, h2⟩
      · exact .inl (UInt8.lt_trans h1 h2)
      · exact .inl h1
    · rcases h2 with h2 | ⟨rfl, h2⟩
      · exact .inl h2
      · exact .inr ⟨rfl, bl_trans h1 h2⟩
theorem bl_tot : ∀ {x y : List UInt8}, x ≠ y → Op.bytesLess x y = true ∨ Op.bytesLess y x = true
  | [], [], h => absurd rfl h
  | _ :: _, [], _ => .inr rfl
  | [], _ :: _, _ => .inl rfl
  | a :: x, b :: y, h => by
    simp only [Op.bytesLess, Bool.or_eq_true, Bool.and_eq_true, decide_eq_true_eq, beq_iff_eq]
    by_cases hab : a = b
    · subst hab
      rcases bl_tot (x := x) (y := y) (fun e => h (by rw [e])) with g | g
      · exact .inl (.inr ⟨rfl, g⟩)
      · exact .inr (.inr ⟨rfl, g⟩)
    · have : a < b ∨ b < a := by
        rw [UInt8.lt_iff_toNat_lt, UInt8.lt_iff_toNat_lt]
        have : a.toNat ≠ b.toNat := fun e => hab (UInt8.toNat_inj.1 e)
        omega
      rcases this with g | g
      · exact .inl (.inl g)
      · exact .inr (.inl g)
theorem bl_find : ∀ (x y : List UInt8), (match ((x.zip y).findSome? fun z => if z.1 = z.2 then none else some (Sum.inr (decide (z.1 < z.2)) : Unit ⊕ Bool)).getD (.inl ()) with | .inl _ => decide (x.length < y.length) | .inr b => b) = Op.bytesLess x y
  | [], [] => rfl
  | _ :: _, [] => rfl
  | [], _ :: _ => by simp [Op.bytesLess]
  | a :: x, b :: y => by
    rw [List.zip_cons_cons, List.findSome?_cons]
    by_cases h : a = b
    · subst h
      simp only [if_true, Op.bytesLess, beq_self_eq_true, Bool.true_and, ← bl_find x y]
      have : decide (a < a) = false := by simp
      rw [this, Bool.false_or]
      simp only [List.length_cons, Nat.add_lt_add_iff_right]
    · simp [h, Op.bytesLess]
theorem ref03_Below_eq (x y : List UInt8) (hx : x.length ≤ 9223372036854775807) (hy : y.length ≤ 9223372036854775807) : ref03_Below x y = some (Op.bytesLess x y) := by
  unfold ref03_Below ref03_Below_l1
  have hz : (x.zip y).length = min x.length y.length := by simp
  rw [loop_find (x.zip y) (fun _ z => if z.1 = z.2 then none else some (Sum.inr (decide (z.1 < z.2)) : Unit ⊕ Bool)) (.inl ())
    (fun i z h => by
      obtain ⟨h1, h2⟩ := zip_get h
      simp only [ref03_Below_l1_s, ltD h1, ltD h2, iteE_t, idxE_n h1, idxE_n h2, succW h1 hx]
      by_cases e : z.1 = z.2
      · simp [e, iteE]
      · have : ¬ (z.1.toNat : Int) = (z.2.toNat : Int) := fun g => e (UInt8.toNat_inj.1 (by omega))
        have : (decide ((z.1.toNat : Int) < (z.2.toNat : Int))) = decide (z.1 < z.2) := decide_eq_decide.2 (by rw [UInt8.lt_iff_toNat_lt]; omega)
        rw [this, if_neg e]
        simp [*, iteE])
    (by
      rw [hz]
      rcases Nat.le_total x.length y.length with h | h
      · rw [Nat.min_eq_left h]; simp only [ref03_Below_l1_s, ltI, iteE_f]
      · rw [Nat.min_eq_right h]; simp only [ref03_Below_l1_s, ltI, iteE_f]; cases decide ((y.length : Int) < (x.length : Int)) <;> rfl), bndE_s, runL_findSome, ← bl_find]
  cases ((x.zip y).findSome? fun z => if z.1 = z.2 then none else some (Sum.inr (decide (z.1 < z.2)) : Unit ⊕ Bool)).getD (.inl ()) <;> simp [sumE]
def ltV (a b : TValue) : Bool := if a.kind = b.kind then (if a.kind = 1 then decide (a.int < b.int) else if a.kind = 2 then Op.bytesLess a.str b.str else !a.bool && b.bool) else decide (a.kind < b.kind)
theorem value_Less_eq (a b : TValue) : value_Less a b = some (ltV a b) := by
  unfold value_Less ltV
  by_cases h : a.kind = b.kind <;> by_cases h1 : a.kind = 1 <;> by_cases h2 : a.kind = 2 <;> cases ha : a.bool <;> simp_all [iteE]
theorem ref03_Less_eq (a b : TValue) (ha : a.str.length ≤ 9223372036854775807) (hb : b.str.length ≤ 9223372036854775807) : ref03_Less a b = some (ltV a b) := by
  unfold ref03_Less ltV
  rw [ref03_Below_eq _ _ ha hb]
  by_cases h : a.kind = b.kind <;> by_cases h1 : a.kind = 1 <;> by_cases h2 : a.kind = 2 <;> cases ha : a.bool <;> simp_all [iteE, bndE]
theorem ltV_irr (a : TValue) : ltV a a = false := by
  unfold ltV; rw [if_pos rfl]; split
  · simp
  · split
    · exact bl_irr _
    · cases a.bool <;> rfl
theorem ltV_trans {a b c : TValue} (h1 : ltV a b = true) (h2 : ltV b c = true) : ltV a c = true := by
  unfold ltV at *
  by_cases e1 : a.kind = b.kind
  · by_cases e2 : b.kind = c.kind
    · rw [if_pos e1] at h1
      rw [if_pos e2] at h2
      rw [if_pos (e1.trans e2)]
      rw [e1] at h1 ⊢
      split
      · rename_i h; rw [if_pos h] at h1 h2; simp at h1 h2 ⊢; omega
      · rename_i h; rw [if_neg h] at h1 h2
        split
        · rename_i h; rw [if_pos h] at h1 h2; exact bl_trans h1 h2
        · rename_i h; rw [if_neg h] at h1 h2; simp at h1 h2 ⊢; exact ⟨h1.1, h2.2⟩
    · rw [if_neg e2] at h2; rw [e1, if_neg e2]; exact h2
  · rw [if_neg e1] at h1
    by_cases e2 : b.kind = c.kind
    · rw [← e2, if_neg e1]; exact h1
    · rw [if_neg e2] at h2
      simp only [decide_eq_true_eq] at h1 h2
      rw [if_neg (by omega)]; simp; omega
theorem vR_parts {v : TValue} (h : vR v = true) : (v.kind = 1 ∧ v.str = [] ∧ v.bool = false) ∨ (v.kind = 2 ∧ v.int = 0 ∧ v.bool = false ∧ v.str.length ≤ 4096) ∨ (v.kind = 3 ∧ v.int = 0 ∧ v.str = []) := by
  unfold vR at h
  split at h
  · left; simp at h; exact ⟨by assumption, h.1, h.2⟩
  · split at h
    · right; left; simp at h; exact ⟨by assumption, h.1.1, h.1.2, h.2⟩
    · split at h
      · right; right; simp at h; exact ⟨by assumption, h.1, h.2⟩
      · cases h
theorem ltV_tot {a b : TValue} (ha : vR a = true) (hb : vR b = true) (h : a ≠ b) : ltV a b = true ∨ ltV b a = true := by
  unfold ltV
  by_cases e : a.kind = b.kind
  · rw [if_pos e, if_pos e.symm, ← e]
    obtain ⟨k, n, s, t⟩ := a
    obtain ⟨k', n', s', t'⟩ := b
    simp only at e; subst e
    rcases vR_parts ha with ⟨rfl, h2, h3⟩ | ⟨rfl, h2, h3, h4⟩ | ⟨rfl, h2, h3⟩ <;> rcases vR_parts hb with ⟨g1, g2, g3⟩ | ⟨g1, g2, g3, g4⟩ | ⟨g1, g2, g3⟩ <;> simp only [Int.reduceEq] at g1 h2 h3 g2 g3 <;> subst_vars
    · simp at h ⊢; omega
    · simp at h ⊢; exact bl_tot h
    · simp at h ⊢; cases t <;> cases t' <;> simp_all
  · rw [if_neg e, if_neg (Ne.symm e)]; simp; omega
theorem cut_filter {α : Type} {p : α → Bool} {w : List α} {k : Nat} (h1 : ∀ (j : Nat) y, w[j]? = some y → j < k → p y = true) (h2 : ∀ (j : Nat) y, w[j]? = some y → k ≤ j → p y = false) : w.take k = w.filter p ∧ w.drop k = w.filter fun y => !p y := by
  have a : ∀ y ∈ w.take k, p y = true := fun y hy => by
    obtain ⟨j, hj⟩ := List.mem_iff_getElem?.1 hy
    rw [List.getElem?_take] at hj
    split at hj
    · exact h1 j y hj (by assumption)
    · cases hj
  have b : ∀ y ∈ w.drop k, p y = false := fun y hy => by
    obtain ⟨j, hj⟩ := List.mem_iff_getElem?.1 hy
    rw [List.getElem?_drop] at hj
    exact h2 (k + j) y hj (by omega)
  have e : ∀ p : α → Bool, w.filter p = (w.take k).filter p ++ (w.drop k).filter p := fun p => by rw [← List.filter_append, List.take_append_drop]
  constructor
  · rw [e, List.filter_eq_self.2 a, List.filter_eq_nil_iff.2 (fun y hy => by simp [b y hy]), List.append_nil]
  · rw [e, List.filter_eq_nil_iff.2 (fun y hy => by simp [a y hy]), List.filter_eq_self.2 (fun y hy => by simp [b y hy]), List.nil_append]
def SW (w : List TValue) : Prop := w.Pairwise (fun a b => ltV a b = true) ∧ ∀ v ∈ w, vR v = true
def putW (w : List TValue) (x : TValue) : List TValue := if x ∈ w then w else w.filter (fun y => ltV y x) ++ x :: w.filter fun y => !ltV y x
theorem vR_str {v : TValue} (h : vR v = true) : v.str.length ≤ 9223372036854775807 := by
  rcases vR_parts h with ⟨_, h2, _⟩ | ⟨_, _, _, h4⟩ | ⟨_, _, h3⟩
  · rw [h2]; decide
  · omega
  · rw [h3]; decide
theorem ltV_asym {a b : TValue} (h1 : ltV a b = true) : ltV b a = false := by
  cases h : ltV b a with
  | false => rfl
  | true => have := ltV_trans h1 h; rw [ltV_irr] at this; cases this
theorem SW_lt {w : List TValue} (hw : SW w) {i j : Nat} {y z : TValue} (hi : w[i]? = some y) (hj : w[j]? = some z) (h : i < j) : ltV y z = true := by
  obtain ⟨a1, rfl⟩ := List.getElem?_eq_some_iff.1 hi
  obtain ⟨a2, rfl⟩ := List.getElem?_eq_some_iff.1 hj
  exact List.pairwise_iff_getElem.1 hw.1 i j a1 a2 h
theorem SW_put {w : List TValue} {x : TValue} (hw : SW w) (hx : vR x = true) : SW (putW w x) ∧ (putW w x).length = w.length + (if x ∈ w then 0 else 1) := by
  unfold putW
  split
  · exact ⟨hw, by simp [*]⟩
  · rename_i hn
    refine ⟨⟨?_, fun b hb => ?_⟩, ?_⟩
    · rw [List.pairwise_append, List.pairwise_cons]
      have hgt : ∀ y ∈ w.filter (fun y => !ltV y x), ltV x y = true := fun y hy => by
        obtain ⟨h1, h2⟩ := List.mem_filter.1 hy
        rcases ltV_tot (hw.2 y h1) hx (fun e => hn (e ▸ h1)) with g | g
        · rw [g] at h2; cases h2
        · exact g
      refine ⟨hw.1.filter _, ⟨hgt, hw.1.filter _⟩, fun y hy z hz => ?_⟩
      have hyx := (List.mem_filter.1 hy).2
      rcases List.mem_cons.1 hz with rfl | hz
      · exact hyx
      · exact ltV_trans hyx (hgt z hz)
    · rcases List.mem_append.1 hb with h | h
      · exact hw.2 b (List.mem_filter.1 h).1
      · rcases List.mem_cons.1 h with rfl | h
        · exact hx
        · exact hw.2 b (List.mem_filter.1 h).1
    · have h1 : ∀ w : List TValue, (w.filter fun y => ltV y x).length + (w.filter fun y => !ltV y x).length = w.length := by
        intro w
        induction w with
        | nil => rfl
        | cons y w ih => rw [List.filter_cons, List.filter_cons]; cases ltV y x <;> simp <;> omega
      have h1 := h1 w
      rw [List.length_append, List.length_cons]
      omega
def AtW (w : List TValue) (x : TValue) (k : Nat) : Prop := k ≤ w.length ∧ (∀ (j : Nat) y, w[j]? = some y → j < k → ltV y x = true) ∧ (∀ (j : Nat) y, w[j]? = some y → k ≤ j → ltV y x = false)
theorem at_put {w : List TValue} {x : TValue} {k : Nat} (h : AtW w x k) (hn : x ∉ w) : w.take k ++ [x] ++ w.drop k = putW w x := by
  obtain ⟨c1, c2⟩ := cut_filter h.2.1 h.2.2
  unfold putW
  rw [c1, c2, if_neg hn]
  simp
def cmpW (y x : TValue) : Int := if ltV y x = true then -1 else if ltV x y = true then 1 else 0
theorem Put_1_eq {y x : TValue} {s : List TValue} (hy : vR y = true) (hx : vR x = true) : domain_Set_Value_Put_1 y x s = some (cmpW y x) := by
  unfold domain_Set_Value_Put_1 cmpW
  rw [value_Less_eq, value_Less_eq, bndE_s, bndE_s]
  cases ltV y x <;> cases ltV x y <;> rfl
theorem cmpW_lt {y x : TValue} : decide (cmpW y x < 0) = ltV y x := by
  unfold cmpW; cases ltV y x <;> cases ltV x y <;> rfl
theorem bs_vals {w s : List TValue} {x : TValue} (hw : SW w) (hx : vR x = true) (hl : w.length ≤ 1000) :
    ∃ k : Nat, AtW w x k ∧ slices_BinarySearchFunc_Value_Value_Value w x s = some ((k : Int), decide (x ∈ w)) := by
  have hsub : ∀ y ∈ w, domain_Set_Value_Put_1 y x s = some (cmpW y x) := fun y hy => Put_1_eq (hw.2 y hy) hx
  unfold slices_BinarySearchFunc_Value_Value_Value slices_BinarySearchFunc_Value_Value_Value_l1
  obtain ⟨k, hk, hkr, p1, p2⟩ := bs_loop (step := fun s' : Int × Int => slices_BinarySearchFunc_Value_Value_Value_l1_s w s (w.length : Int) x s'.1 s'.2) w.length (fun a => match w[a]? with | some y => ltV y x | none => false)
    (fun i j hij hj => by
      obtain ⟨y, hy, _⟩ := get_lt (l := w) (i := (i + j) / 2) (by omega)
      have hd : decide ((i : Int) < (j : Int)) = true := by simp; omega
      simp only [slices_BinarySearchFunc_Value_Value_Value_l1_s, hd, iteE_t, slices_BinarySearchFunc_Value_Value_Value_b2, midI (show i + j < 4611686018427387904 by omega), idxE_n hy, hsub y (List.mem_of_getElem? hy), bndE_s, slices_BinarySearchFunc_Value_Value_Value_b3, hy, cmpW_lt]
      cases ltV y x with
      | true => simp only [iteE_t, bndE_s, if_true, succI (show (i + j) / 2 < 9223372036854775807 by omega)]
      | false => simp [iteE, bndE])
    (fun i => by simp [slices_BinarySearchFunc_Value_Value_Value_l1_s, iteE])
    (fun a b hab hb h => by
      obtain ⟨y, hy, _⟩ := get_lt (l := w) (i := a) (by omega)
      obtain ⟨z, hz, _⟩ := get_lt (l := w) (i := b) hb
      simp only [hy, hz] at h ⊢
      rcases Nat.lt_or_ge a b with g | g
      · exact ltV_trans (SW_lt hw hy hz g) h
      · have : a = b := by omega
        subst this; rw [hy] at hz; cases hz; exact h)
  have q1 : ∀ (j : Nat) y, w[j]? = some y → j < k → ltV y x = true := fun j s hs hj => by
    have := p1 j hj; simp only [hs] at this; exact this
  have q2 : ∀ (j : Nat) y, w[j]? = some y → k ≤ j → ltV y x = false := fun j s hs hj => by
    have := p2 j hj (getLt hs); simp only [hs] at this; exact this
  refine ⟨k, ⟨hk, q1, q2⟩, ?_⟩
  rw [hkr, bndE_s]
  have hmem : ∀ j : Nat, w[j]? = some x → j = k := fun j hj => by
    rcases Nat.lt_trichotomy j k with g | g | g
    · have := q1 j x hj g; rw [ltV_irr] at this; cases this
    · exact g
    · obtain ⟨y, hy, _⟩ := get_lt (l := w) (i := k) (by have := getLt hj; omega)
      have h1 := q2 k y hy (Nat.le_refl _)
      rw [SW_lt hw hy hj g] at h1; cases h1
  by_cases h : k < w.length
  · obtain ⟨y, hy, _⟩ := get_lt h
    rw [iteP, if_pos (by omega), idxE_n hy, hsub y (List.mem_of_getElem? hy), bndE_s]
    have hge := q2 k y hy (Nat.le_refl _)
    congr 2
    rw [decide_eq_decide]
    unfold cmpW
    rw [hge, if_neg (by simp)]
    constructor
    · intro hc
      rcases (Classical.em (y = x)) with e | e
      · exact e ▸ List.mem_of_getElem? hy
      · rcases ltV_tot (hw.2 y (List.mem_of_getElem? hy)) hx e with g | g
        · rw [hge] at g; cases g
        · rw [if_pos g] at hc; cases hc
    · intro hm
      obtain ⟨j, hj⟩ := List.mem_iff_getElem?.1 hm
      have := hmem j hj
      subst this
      rw [hy] at hj; cases hj
      rw [ltV_irr]; rfl
  · rw [iteP, if_neg (by omega)]
    congr 2
    symm
    rw [decide_eq_false_iff_not]
    intro hm
    obtain ⟨j, hj⟩ := List.mem_iff_getElem?.1 hm
    have := hmem j hj
    have := getLt hj
    omega
theorem Put_v3_eq {w : List TValue} {x : TValue} (hw : SW w) (hx : vR x = true) (hl : w.length ≤ 900) : domain_Set_Value_Put_v3 x w = some (!decide (x ∈ w), putW w x) := by
  unfold domain_Set_Value_Put_v3 domain_Set_Value_Put_v3_b1
  obtain ⟨k, hk, hb⟩ := bs_vals (s := w) hw hx (by omega)
  rw [hb, bndE_s]
  by_cases hm : x ∈ w
  · simp [hm, iteE, bndE, putW]
  · have hin : slices_Insert_Value_Value_v2 (k : Int) w [x] = some (putW w x) := by
      unfold slices_Insert_Value_Value_v2 insE
      have := hk.1
      rw [if_pos ⟨by omega, by omega, by simp, fit_small (by simp; omega) (by decide)⟩, Int.toNat_natCast, at_put hk hm]
    simp only [hm, decide_false, Bool.not_false, iteE_t]
    rw [hin]; rfl
theorem sub_take {α : Type} (w : List α) (k : Nat) : sub w 0 (k : Int) = w.take k := by simp [sub]
theorem sub_drop {α : Type} (w : List α) (k : Nat) : sub w (k : Int) (w.length : Int) = w.drop k := by simp [sub]
theorem ref20_Put_eq {w : List TValue} {x : TValue} (hw : SW w) (hx : vR x = true) (hl : w.length ≤ 900) : ref20_Put w x = some (putW w x) := by
  unfold ref20_Put ref20_Put_l1
  obtain ⟨t, ht, k, hk, rfl, p1, p2⟩ := loopE_ex (step := fun s => ref20_Put_l1_s w x s) (fun s => ∃ i : Nat, s = (i : Int) ∧ i ≤ w.length ∧ ∀ (j : Nat) s, w[j]? = some s → i ≤ j → ltV x s = true) (fun s => s.toNat)
    (fun t => ∃ k : Nat, k ≤ w.length ∧ t = (k : Int) ∧ (∀ (j : Nat) s, w[j]? = some s → k = j + 1 → ltV x s = false) ∧ ∀ (j : Nat) s, w[j]? = some s → k ≤ j → ltV x s = true)
    (by
      rintro s ⟨i, rfl, hi, hj⟩
      cases i with
      | zero => exact .inl ⟨0, by simp [ref20_Put_l1_s, iteE], 0, by omega, rfl, fun j s _ h => by omega, hj⟩
      | succ i =>
        obtain ⟨y, hy, _⟩ := get_lt (l := w) (i := i) (by omega)
        have hyR := hw.2 y (List.mem_of_getElem? hy)
        have e : intVal .sub .i64 ((i + 1 : Nat) : Int) 1 = (i : Int) := by rw [subI (by omega) (by omega)]; omega
        have hd : decide ((0 : Int) < ((i + 1 : Nat) : Int)) = true := by simp
        simp only [ref20_Put_l1_s, hd, iteE_t, e, idxE_n hy, ref03_Less_eq _ _ (vR_str hx) (vR_str hyR), bndE_s]
        cases h : ltV x y with
        | true =>
          refine .inr ⟨_, by simp only [iteE_t], ⟨i, rfl, by omega, fun j s hs hij => ?_⟩, by omega⟩
          rcases Nat.eq_or_lt_of_le hij with g | g
          · subst g; rw [hy] at hs; cases hs; exact h
          · exact hj j s hs g
        | false =>
          refine .inl ⟨_, by simp only [iteE_f], i + 1, hi, rfl, fun j s hs hij => ?_, hj⟩
          have : j = i := by omega
          subst this; rw [hy] at hs; cases hs; exact h)
    (w.length : Int) ⟨w.length, rfl, Nat.le_refl _, fun j s hs hij => by have := getLt hs; omega⟩
  rw [ht, bndE_s]
  have hrest : (∀ y, w[k - 1]? = some y → 0 < k → y ≠ x) → (chkE ((0 : Int) ≤ 0 ∧ (0 : Int) ≤ (k : Int) ∧ (k : Int) ≤ (w.length : Int)) (
     chkE (fit ([] : List TValue).length (sub w 0 (k : Int)).length 40) (
      chkE (fit (([] : List TValue) ++ (sub w 0 (k : Int))).length [x].length 40) (
       chkE ((0 : Int) ≤ (k : Int) ∧ ((k : Int) : Int) ≤ (w.length : Int) ∧ (w.length : Int) ≤ (w.length : Int)) (
        chkE (fit ((([] : List TValue) ++ (sub w 0 (k : Int))) ++ [x]).length (sub w (k : Int) (w.length : Int)).length 40) (
         some (((([] : List TValue) ++ (sub w 0 (k : Int))) ++ [x]) ++ (sub w (k : Int) (w.length : Int)))))))) : Option (List TValue)) = some (putW w x) := by
    intro hne
    have hlt : ∀ (j : Nat) y, w[j]? = some y → j < k → ltV y x = true := fun j y hy hj => by
      obtain ⟨z, hz, _⟩ := get_lt (l := w) (i := k - 1) (by omega)
      have h1 := p1 (k - 1) z hz (by omega)
      have h2 := hne z hz (by omega)
      have h3 : ltV z x = true := by
        rcases ltV_tot (hw.2 z (List.mem_of_getElem? hz)) hx h2 with g | g
        · exact g
        · rw [h1] at g; cases g
      rcases Nat.lt_or_ge j (k - 1) with g | g
      · exact ltV_trans (SW_lt hw hy hz g) h3
      · have : j = k - 1 := by omega
        subst this; rw [hz] at hy; cases hy; exact h3
    have hAt : AtW w x k := ⟨hk, hlt, fun j y hy hj => ltV_asym (p2 j y hy hj)⟩
    have hn : x ∉ w := fun hm => by
      obtain ⟨j, hj⟩ := List.mem_iff_getElem?.1 hm
      rcases Nat.lt_or_ge j k with g | g
      · have := hlt j x hj g; rw [ltV_irr] at this; cases this
      · have := p2 j x hj g; rw [ltV_irr] at this; cases this
    rw [sub_take, sub_drop, chkE_p (by omega), chkF (by simp; omega) (by decide), chkF (by simp; omega) (by decide), chkE_p (by omega), chkF (by simp; omega) (by decide), List.nil_append, at_put hAt hn]
  rw [iteP]
  split
  · rename_i h0
    obtain ⟨y, hy, _⟩ := get_lt (l := w) (i := k - 1) (by omega)
    have e : intVal .sub .i64 (k : Int) 1 = ((k - 1 : Nat) : Int) := by rw [subI (by omega) (by omega)]; omega
    rw [e, idxE_n hy, TValue.eqb_dec]
    by_cases hyx : y = x
    · subst hyx
      have hm := List.mem_of_getElem? hy
      simp [iteE, putW, hm]
    · simp only [hyx, decide_false, iteE_f]
      exact hrest fun z hz _ => by rw [hy] at hz; cases hz; exact hyx
  · exact hrest fun z hz h => by omega
theorem ref20_Same_refl {w : List TValue} (hl : w.length ≤ 1000) : ref20_Same [w] [w] = some true := by
  unfold ref20_Same ref20_Same_l1
  rw [loop_all0 [w] (fun _ => true) (.inl () : Unit ⊕ Unit) (.inr ())
    (fun i y hy => by
      have hi := getLt hy
      have : i = 0 := by simp at hi; omega
      subst this
      simp only [List.getElem?_cons_zero, Option.some.injEq] at hy
      subst hy
      have h0 : ([w] : List (List TValue))[0]? = some w := rfl
      simp only [ref20_Same_l1_s, ltD h0, iteE_t, idxE_n h0, decide_true, Bool.not_true, iteE_f]
      unfold ref20_Same_l2
      rw [loop_all0 w (fun _ => true) (.inl () : Unit ⊕ Unit) (.inr ())
        (fun i y hy => by
          simp only [ref20_Same_l2_s, idxE_n h0, ltD hy, iteE_t, idxE_n hy, TValue.eqb_dec, decide_true, Bool.not_true, iteE_f, succW hy (show w.length ≤ 9223372036854775807 by omega), if_true])
        (by simp only [ref20_Same_l2_s, idxE_n h0, ltI, iteE_f]), bndE_s]
      simp only [List.all_eq_true, implies_true, if_true, sumE_l]
      rfl)
    (by simp only [ref20_Same_l1_s, ltI, iteE_f]), bndE_s]
  simp [iteE, sumE]
theorem findSome_any {α τ : Type} (p : α → Bool) (c d : τ) : ∀ l : List α, (l.findSome? fun t => if p t = true then some c else none).getD d = if l.any p = true then c else d
  | [] => rfl
  | x :: l => by
    rw [List.findSome?_cons, List.any_cons]
    cases h : p x with
    | true => simp
    | false => simp only [Bool.false_eq_true, if_false, Bool.false_or]; exact findSome_any p c d l
theorem contF_eq (l : List TTrans) (hl : l.length ≤ 1000) : slices_ContainsFunc_Trans_Trans l = some (l.any fun t => decide (0 ≤ t.guard)) := by
  have hloop : slices_IndexFunc_Trans_Trans_l1 l (l.length : Int) 0 = some (if (l.any fun t => decide (0 ≤ t.guard)) = true then .inr ((l.findIdx fun t => decide (0 ≤ t.guard) : Nat) : Int) else .inl ()) := by
    unfold slices_IndexFunc_Trans_Trans_l1
    refine loop_index (step := fun s => slices_IndexFunc_Trans_Trans_l1_s l (l.length : Int) s) l (fun t => decide (0 ≤ t.guard)) (fun i x hx => ?_) ?_
    · simp only [slices_IndexFunc_Trans_Trans_l1_s, ltD hx, iteE_t, idxE_n hx, core_Plain_1, bndE_s, succW hx (show l.length ≤ 9223372036854775807 by omega)]
      by_cases h : 0 ≤ x.guard <;> simp [h, iteE]
    · simp only [slices_IndexFunc_Trans_Trans_l1_s, ltI, iteE_f]
  unfold slices_ContainsFunc_Trans_Trans slices_IndexFunc_Trans_Trans
  rw [hloop, bndE_s]
  cases h : l.any fun t => decide (0 ≤ t.guard) with
  | true => rw [if_pos rfl, sumE_r, bndE_s]; simp
  | false => rw [if_neg (by simp), sumE_l, bndE_s]; rfl
theorem Small_eq {q : TQea} (hF : FewP q) (hR : RightQ q) : ∃ b, joint_Small q = some b ∧ ref22_Small q = some b := by
  have ht := hF.trans
  have hloop : ref22_Small_l1 q 0 = some (if (q.trans.any fun t => decide (0 ≤ t.guard)) = true then .inr () else .inl ()) := by
    unfold ref22_Small_l1
    rw [loop_find (step := fun s => ref22_Small_l1_s q s) q.trans (fun _ t => if decide (0 ≤ t.guard) = true then some (Sum.inr () : Unit ⊕ Unit) else none) (.inl ())
      (fun i x hx => by
        simp only [ref22_Small_l1_s, ltD hx, iteE_t, idxE_n hx, succW hx (show q.trans.length ≤ 9223372036854775807 by omega)]
        rcases hR.guards x (List.mem_of_getElem? hx) with h | h
        · simp [h, iteE]
        · have : ¬ x.guard = -1 := by omega
          simp [h, this, iteE]) (by simp only [ref22_Small_l1_s, ltI, iteE_f])]
    rw [runL_findSome (fun t : TTrans => if decide (0 ≤ t.guard) = true then some (Sum.inr () : Unit ⊕ Unit) else none), findSome_any]
  unfold joint_Small core_Plain ref22_Small
  rw [contF_eq _ (by omega), hloop]
  generalize (q.trans.any fun t => decide (0 ≤ t.guard)) = g
  by_cases h1 : q.frees.length = 0 <;> by_cases h2 : q.quants.length ≤ 1 <;> by_cases h3 : q.states.length ≤ 8 <;> by_cases h4 : q.symbols.length ≤ 8 <;> cases g <;>
    simp [iteP, h1, h2, h3, h4, bndE, iteE, sumE, show ((q.quants.length : Int) ≤ 1) ↔ q.quants.length ≤ 1 by omega, show ((q.states.length : Int) ≤ 8) ↔ q.states.length ≤ 8 by omega, show ((q.symbols.length : Int) ≤ 8) ↔ q.symbols.length ≤ 8 by omega, show ((1 : Int) < q.quants.length) ↔ ¬ q.quants.length ≤ 1 by omega, show ((8 : Int) < q.states.length) ↔ ¬ q.states.length ≤ 8 by omega, show ((8 : Int) < q.symbols.length) ↔ ¬ q.symbols.length ≤ 8 by omega, show ((0 : Int) < q.frees.length) ↔ ¬ q.frees.length = 0 by omega, show ((q.frees.length : Int) = 0) ↔ q.frees.length = 0 by omega, show (0 < q.frees.length) ↔ ¬ q.frees.length = 0 by omega]
theorem Contains_eq (l : List TValue) (v : TValue) (hl : l.length ≤ 1000000) : slices_Contains_Value_Value l v = some (decide (v ∈ l)) := by
  have hloop : slices_Index_Value_Value_l1 l (l.length : Int) v 0 = some (if (l.any fun t => decide (v = t)) = true then .inr ((l.findIdx fun t => decide (v = t) : Nat) : Int) else .inl ()) := by
    unfold slices_Index_Value_Value_l1
    refine loop_index (step := fun s => slices_Index_Value_Value_l1_s l (l.length : Int) v s) l (fun t => decide (v = t)) (fun i x hx => ?_) ?_
    · simp only [slices_Index_Value_Value_l1_s, ltD hx, iteE_t, idxE_n hx, TValue.eqb_dec, succW hx (show l.length ≤ 9223372036854775807 by omega)]
      by_cases h : v = x <;> simp [h, iteE]
    · simp only [slices_Index_Value_Value_l1_s, ltI, iteE_f]
  have hany : (l.any fun t => decide (v = t)) = decide (v ∈ l) := by
    rw [Bool.eq_iff_iff, List.any_eq_true]
    simp
  unfold slices_Contains_Value_Value slices_Index_Value_Value
  rw [hloop, bndE_s, hany]
  by_cases h : v ∈ l
  · simp only [h, decide_true, if_true, sumE_r, bndE_s]; simp
  · simp only [h, decide_false, Bool.false_eq_true, if_false, sumE_l, bndE_s]; rfl
theorem mem_putW {w : List TValue} {x v : TValue} : v ∈ putW w x ↔ v = x ∨ v ∈ w := by
  unfold putW
  by_cases h : x ∈ w
  · rw [if_pos h]
    exact ⟨.inr, fun hh => hh.elim (fun e => e ▸ h) id⟩
  · rw [if_neg h]
    simp only [List.mem_append, List.mem_cons, List.mem_filter]
    cases ltV v x <;> simp <;> constructor <;> (intro hh; rcases hh with a | b <;> simp_all)
theorem Put_v2_eq {x : TValue} : domain_Set_Value_Put_v2 x = some (true, [x]) := by
  have hb : slices_BinarySearchFunc_Value_Value_Value ([] : List TValue) x ([] : List TValue) = some (0, false) := by
    unfold slices_BinarySearchFunc_Value_Value_Value slices_BinarySearchFunc_Value_Value_Value_l1
    rw [loopE_eq]
    simp [slices_BinarySearchFunc_Value_Value_Value_l1_s, slices_BinarySearchFunc_Value_Value_Value_b3, iteE, bndE, nextE]
  unfold domain_Set_Value_Put_v2 domain_Set_Value_Put_v2_b1 slices_Insert_Value_Value insN
  rw [hb]
  simp [bndE, iteE, fit]
theorem All_eq {w : List TValue} (h : w.length ≤ 1000) : domain_Set_Value_All w = some (w, w) := by
  unfold domain_Set_Value_All slices_Clone_Value_Value cloneE
  rw [if_pos (fit_small (by omega) (by decide))]; rfl
theorem loop_fold' {α β τ : Type} {step : β × Int → Option (β × Int ⊕ τ)} (l : List α) (f : β → α → β) (fin : β → τ) (I : Nat → β → Prop)
    (h1 : ∀ (i : Nat) x w, l[i]? = some x → I i w → step (w, (i : Int)) = some (.inl (f w x, ((i + 1 : Nat) : Int))) ∧ I (i + 1) (f w x))
    (h2 : ∀ w, I l.length w → step (w, (l.length : Int)) = some (.inr (fin w))) (w : β) (h0 : I 0 w) : loopE step (w, 0) = some (fin (l.foldl f w)) := by
  have h := loop_list (step := step) l (fun i w => (w, (i : Int))) (fun _ w x => (.inl (f w x) : β ⊕ τ)) fin I (fun i x w hx hI => ⟨(h1 i x w hx hI).1, fun w' hw => by cases hw; exact (h1 i x w hx hI).2⟩) h2 (l.length + 1) 0 w (by omega) (by omega) h0
  rw [show (w, (0 : Int)) = (w, ((0 : Nat) : Int)) from rfl, h, List.drop_zero]
  congr 1
  clear h h1 h2 h0
  generalize 0 = i
  revert i w
  induction l with
  | nil => intro w i; rfl
  | cons x xs ih => intro w i; rw [runL]; exact ih _ _
def argF (k : Int) (w : List TValue) (a : TArg) : List TValue := if a.kind = 1 ∧ a.value.kind = k then putW w a.value else w
def consW (q : TQea) (k : Int) : List TValue := q.symbols.foldl (fun w s => s.args.foldl (argF k) w) (if k = 3 then [TValue.mk 3 0 [] false, TValue.mk 3 0 [] true] else [])
theorem foldl_inv {α β : Type} (I : Nat → β → Prop) (f : β → α → β) : ∀ (l : List α) (i : Nat) (w : β), (∀ (j : Nat) x w, x ∈ l → I j w → I (j + 1) (f w x)) → I i w → I (i + l.length) (l.foldl f w)
  | [], i, w, _, h0 => h0
  | x :: l, i, w, h, h0 => by
    rw [List.foldl_cons, List.length_cons, show i + (l.length + 1) = (i + 1) + l.length by omega]
    exact foldl_inv I f l (i + 1) _ (fun j y w hy => h j y w (List.mem_cons_of_mem _ hy)) (h i x w (by simp) h0)
theorem SW_base (k : Int) : SW (if k = 3 then [TValue.mk 3 0 [] false, TValue.mk 3 0 [] true] else []) := by
  split
  · refine ⟨?_, ?_⟩
    · simp [ltV]
    · intro v hv
      simp only [List.mem_cons, List.not_mem_nil, or_false] at hv
      rcases hv with rfl | rfl <;> decide
  · exact ⟨List.Pairwise.nil, by simp⟩
theorem argF_inv {k : Int} {w : List TValue} {a : TArg} {n : Nat} (ha : a.kind = 1 → vR a.value = true) (hw : SW w) (hl : w.length ≤ n) : SW (argF k w a) ∧ (argF k w a).length ≤ n + 1 := by
  unfold argF
  split
  · rename_i h
    have := SW_put hw (ha h.1)
    refine ⟨this.1, ?_⟩
    rw [this.2]; split <;> omega
  · exact ⟨hw, by omega⟩
theorem args_inv {q : TQea} (hF : FewP q) (hR : RightQ q) {s : TSymbol} (hs : s ∈ q.symbols) {k : Int} {w : List TValue} {n : Nat} (hw : SW w) (hl : w.length ≤ n) : SW (s.args.foldl (argF k) w) ∧ (s.args.foldl (argF k) w).length ≤ n + 12 := by
  have h := foldl_inv (fun i w => SW w ∧ w.length ≤ n + i) (argF k) s.args 0 w (fun j a w ha hI => argF_inv ((hR.symbols s hs).args a ha).one hI.1 hI.2) ⟨hw, by omega⟩
  have := hF.args s hs
  exact ⟨h.1, by omega⟩
theorem cons_inv {q : TQea} (hF : FewP q) (hR : RightQ q) (k : Int) : SW (consW q k) ∧ (consW q k).length ≤ 200 := by
  have h := foldl_inv (fun i w => SW w ∧ w.length ≤ 2 + 12 * i) (fun w s => s.args.foldl (argF k) w) q.symbols 0 (if k = 3 then [TValue.mk 3 0 [] false, TValue.mk 3 0 [] true] else [])
    (fun j s w hs hI => by have := args_inv hF hR hs (k := k) hI.1 hI.2; exact ⟨this.1, by omega⟩) ⟨SW_base k, by split <;> simp⟩
  have := hF.symbols
  exact ⟨h.1, by unfold consW; omega⟩
theorem joint_Consts_v2_eq {q : TQea} (hF : FewP q) (hR : RightQ q) (k : Int) : joint_Consts_v2 q k = some (consW q k) := by
  have hsy := hF.symbols
  have hb : joint_Consts_v2_b1 k (decide (k = 3)) q = some (if k = 3 then [TValue.mk 3 0 [] false, TValue.mk 3 0 [] true] else []) := by
    unfold joint_Consts_v2_b1 value_Bool
    rw [iteP]
    split
    · simp only [bndE_s, Put_v2_eq]
      rw [Put_v3_eq (w := [TValue.mk 3 0 [] false]) ⟨by simp, by simp; decide⟩ (by decide) (by simp)]
      rfl
    · rfl
  have hin : ∀ (s : TSymbol) (i : Int) (w : List TValue), s ∈ q.symbols → SW w → w.length ≤ 200 → joint_Consts_v2_l3 k q.symbols (q.symbols.length : Int) i s.args (s.args.length : Int) 0 w = some (s.args.foldl (argF k) w) := by
    intro s i w hs hw hl
    have ha := hF.args s hs
    unfold joint_Consts_v2_l3
    refine loop_fold (step := fun z : Int × List TValue => joint_Consts_v2_l3_s k q.symbols (q.symbols.length : Int) i s.args (s.args.length : Int) z.1 z.2) s.args (argF k) id (fun j w => SW w ∧ w.length ≤ 200 + j) (fun j a w hx hI => ?_) (fun w _ => ?_) w ⟨hw, by omega⟩
    · have hv := ((hR.symbols s hs).args a (List.mem_of_getElem? hx)).one
      have hlt := (List.getElem?_eq_some_iff.1 hx).1
      refine ⟨?_, argF_inv hv hI.1 hI.2⟩
      simp only [joint_Consts_v2_l3_s, ltD hx, iteE_t, joint_Consts_v2_b4, idxE_n hx, succW hx (show s.args.length ≤ 9223372036854775807 by omega), joint_Consts_v2_b5]
      unfold argF
      by_cases h1 : a.kind = 1 <;> by_cases h2 : a.value.kind = k
      · rw [iteP, if_pos h1, iteP, if_pos h2, if_pos ⟨h1, h2⟩, Put_v3_eq hI.1 (hv h1) (by have := hI.2; omega)]; rfl
      · rw [iteP, if_pos h1, iteP, if_neg h2, if_neg (fun h => h2 h.2)]; rfl
      · rw [iteP, if_neg h1, if_neg (fun h => h1 h.1)]; rfl
      · rw [iteP, if_neg h1, if_neg (fun h => h1 h.1)]; rfl
    · simp only [joint_Consts_v2_l3_s, ltI, iteE_f, id]
  unfold joint_Consts_v2 domain_NewSet_Value_v2 joint_Consts_v2_l2
  rw [bndE_s, hb, bndE_s, loop_fold (step := fun z : Int × List TValue => joint_Consts_v2_l2_s k q.symbols (q.symbols.length : Int) z.1 z.2) q.symbols (fun w s => s.args.foldl (argF k) w) id (fun j w => SW w ∧ w.length ≤ 2 + 12 * j)
    (fun j s w hx hI => by
      have hs := List.mem_of_getElem? hx
      have hlt := (List.getElem?_eq_some_iff.1 hx).1
      have := args_inv hF hR hs (k := k) hI.1 hI.2
      refine ⟨?_, this.1, by omega⟩
      simp only [joint_Consts_v2_l2_s, ltD hx, iteE_t, idxE_n hx, succW hx (show q.symbols.length ≤ 9223372036854775807 by omega)]
      rw [hin s _ w hs hI.1 (by have := hI.2; omega)]; rfl)
    (fun w _ => by simp only [joint_Consts_v2_l2_s, ltI, iteE_f, id]) _ ⟨SW_base k, by split <;> simp⟩, bndE_s]
  have hc := cons_inv hF hR k
  show bndE (domain_Set_Value_All (consW q k)) _ = _
  rw [All_eq (by omega)]; rfl
theorem ref22_Consts_eq {q : TQea} (hF : FewP q) (hR : RightQ q) (k : Int) : ref22_Consts q k = some (consW q k) := by
  have hsy := hF.symbols
  have hb : ref22_Consts_b1 k (decide (k = 3)) q = some (if k = 3 then [TValue.mk 3 0 [] false, TValue.mk 3 0 [] true] else []) := by
    unfold ref22_Consts_b1
    rw [iteP]
    split <;> rfl
  have hin : ∀ (s : TSymbol) (i : Nat) (w : List TValue), q.symbols[i]? = some s → SW w → w.length ≤ 200 → ref22_Consts_l8 k (i : Int) q w 0 = some (s.args.foldl (argF k) w) := by
    intro s i w hxs hw hl
    have hs := List.mem_of_getElem? hxs
    have ha := hF.args s hs
    unfold ref22_Consts_l8
    refine loop_fold' (step := fun z : List TValue × Int => ref22_Consts_l8_s k (i : Int) q z.1 z.2) s.args (argF k) id (fun j w => SW w ∧ w.length ≤ 200 + j) (fun j a w hx hI => ?_) (fun w _ => ?_) w ⟨hw, by omega⟩
    · have hv := ((hR.symbols s hs).args a (List.mem_of_getElem? hx)).one
      have hlt := (List.getElem?_eq_some_iff.1 hx).1
      refine ⟨?_, argF_inv hv hI.1 hI.2⟩
      simp only [ref22_Consts_l8_s, idxE_n hxs, ltD hx, iteE_t, ref22_Consts_b6, idxE_n hx, succW hx (show s.args.length ≤ 9223372036854775807 by omega), ref22_Consts_b7]
      unfold argF
      by_cases h1 : a.kind = 1 <;> by_cases h2 : a.value.kind = k
      · rw [iteP, if_pos h1, iteP, if_pos h2, if_pos ⟨h1, h2⟩, ref20_Put_eq hI.1 (hv h1) (by have := hI.2; omega)]; rfl
      · rw [iteP, if_pos h1, iteP, if_neg h2, if_neg (fun h => h2 h.2)]; rfl
      · rw [iteP, if_neg h1, if_neg (fun h => h1 h.1)]; rfl
      · rw [iteP, if_neg h1, if_neg (fun h => h1 h.1)]; rfl
    · simp only [ref22_Consts_l8_s, idxE_n hxs, ltI, iteE_f, id]
  unfold ref22_Consts ref22_Consts_l2
  rw [hb, bndE_s, loop_fold' (step := fun z : List TValue × Int => ref22_Consts_l2_s k q z.1 z.2) q.symbols (fun w s => s.args.foldl (argF k) w) id (fun j w => SW w ∧ w.length ≤ 2 + 12 * j)
    (fun j s w hx hI => by
      have hs := List.mem_of_getElem? hx
      have hlt := (List.getElem?_eq_some_iff.1 hx).1
      have := args_inv hF hR hs (k := k) hI.1 hI.2
      refine ⟨?_, this.1, by omega⟩
      simp only [ref22_Consts_l2_s, ltD hx, iteE_t, succW hx (show q.symbols.length ≤ 9223372036854775807 by omega)]
      rw [hin s j w hx hI.1 (by have := hI.2; omega)]; rfl)
    (fun w _ => by simp only [ref22_Consts_l2_s, ltI, iteE_f, id]) _ ⟨SW_base k, by split <;> simp⟩, bndE_s]
  rfl
def newS (k : Int) (j : Nat) : TValue := if k = 1 then ⟨k, (j : Int), [], false⟩ else ⟨k, 0, List.replicate j 97, false⟩
theorem newS_inj {k : Int} {i j : Nat} (h : newS k i = newS k j) : i = j := by
  unfold newS at h
  split at h
  · injection h with _ h2; omega
  · injection h with _ _ h3
    have := congrArg List.length h3
    simpa using this
theorem newS_kind (k : Int) (j : Nat) : (newS k j).kind = k := by unfold newS; split <;> rfl
theorem newS_vR {k : Int} {j : Nat} (hk : k = 1 ∨ k = 2) (hj : j ≤ 1000) : vR (newS k j) = true := by
  unfold newS vR
  rcases hk with rfl | rfl
  · simp
  · simp; omega
theorem pigeon {α : Type} [DecidableEq α] (f : Nat → α) (hf : ∀ i j, f i = f j → i = j) : ∀ (n : Nat) (l : List α), (∀ i, i < n → f i ∈ l) → n ≤ l.length
  | 0, _, _ => Nat.zero_le _
  | n + 1, l, h => by
    have hm := h n (by omega)
    have := pigeon f hf n (l.erase (f n)) (fun i hi => (List.mem_erase_of_ne (fun e => by have := hf _ _ e; omega)).2 (h i (by omega)))
    rw [List.length_erase_of_mem hm] at this
    have : 0 < l.length := List.length_pos_of_mem hm
    omega
theorem Has_eq {w : List TValue} {v : TValue} (hw : SW w) (hv : vR v = true) (hl : w.length ≤ 900) : ref22_Has w v = some (decide (v ∈ w)) := by
  unfold ref22_Has
  rw [ref20_Put_eq hw hv hl, bndE_s, (SW_put hw hv).2]
  by_cases h : v ∈ w
  · simp [h]
  · simp only [h, if_false, decide_false, Option.some.injEq, decide_eq_false_iff_not]; omega
theorem newS_step (k : Int) (j : Nat) (hk : k = 1 ∨ k = 2) (hj : j ≤ 1000) (l : List TValue) (z : TValue) : joint_New_b2 k l z (newS k j) = some (newS k (j + 1)) ∧ ref22_New_b2 k l z (newS k j) = some (newS k (j + 1)) := by
  unfold joint_New_b2 ref22_New_b2 joint_New_b3 ref22_New_b3 newS
  rcases hk with rfl | rfl
  · simp only [if_true, decide_true, iteE_t, bndE_s]
    rw [addI (by omega) (by omega)]
    simp
  · simp only [show ¬ (2 : Int) = 1 by decide, if_false, decide_false, iteE_f, List.length_replicate]
    rw [chkE_p (by simp; omega)]
    simp [bndE, List.replicate_succ']
theorem new_from {k : Int} (hk : k = 1 ∨ k = 2) {l w : List TValue} (hl : l.length ≤ 1000) (hw : SW w) (hwl : w.length ≤ 900) (hm : ∀ v, v.kind = k → (v ∈ w ↔ v ∈ l)) (z : TValue) : ∀ (m j : Nat), j + m ≤ 900 → (∃ i, j ≤ i ∧ i < j + m ∧ newS k i ∉ l) → ∃ i, j ≤ i ∧ i < j + m ∧ newS k i ∉ l ∧ joint_New_l1 k l z (newS k j) = some (newS k i) ∧ ref22_New_l1 k w z (newS k j) = some (newS k i)
  | 0, j, _, ⟨i, h1, h2, _⟩ => by omega
  | m + 1, j, hj, ⟨i, h1, h2, h3⟩ => by
    have e1 : slices_Contains_Value_Value l (newS k j) = some (decide (newS k j ∈ l)) := Contains_eq _ _ (by omega)
    have e2 : ref22_Has w (newS k j) = some (decide (newS k j ∈ l)) := by
      rw [Has_eq hw (newS_vR hk (by omega)) hwl]
      simp only [hm _ (newS_kind k j)]
    by_cases h : newS k j ∈ l
    · have hne : i ≠ j := fun e => h3 (e ▸ h)
      obtain ⟨i', a1, a2, a3, a4, a5⟩ := new_from hk hl hw hwl hm z m (j + 1) (by omega) ⟨i, by omega, by omega, h3⟩
      refine ⟨i', by omega, by omega, a3, ?_, ?_⟩
      · rw [joint_New_l1_eq]
        unfold joint_New_l1_s
        rw [e1, bndE_s]
        simp only [h, decide_true, iteE_t, (newS_step k j hk (by omega) l z).1, bndE_s, nextE_l]
        exact a4
      · rw [ref22_New_l1_eq]
        unfold ref22_New_l1_s
        rw [e2, bndE_s]
        simp only [h, decide_true, iteE_t, (newS_step k j hk (by omega) w z).2, bndE_s, nextE_l]
        exact a5
    · refine ⟨j, by omega, by omega, h, ?_, ?_⟩
      · rw [joint_New_l1_eq]
        unfold joint_New_l1_s
        rw [e1, bndE_s]
        simp only [h, decide_false, iteE_f, nextE_r]
      · rw [ref22_New_l1_eq]
        unfold ref22_New_l1_s
        rw [e2, bndE_s]
        simp only [h, decide_false, iteE_f, nextE_r]
theorem New_both {k : Int} (hk : k = 1 ∨ k = 2) {l w : List TValue} (hl : l.length ≤ 100) (hw : SW w) (hwl : w.length ≤ 900) (hm : ∀ v, v.kind = k → (v ∈ w ↔ v ∈ l)) : ∃ v, joint_New k l = some (v, true) ∧ ref22_New k w = some v := by
  have hex : ∃ i, 0 ≤ i ∧ i < 0 + (l.length + 1) ∧ newS k i ∉ l := by
    apply Classical.byContradiction
    intro hn
    have := pigeon (newS k) (fun i j h => newS_inj h) (l.length + 1) l (fun i hi => Classical.byContradiction fun h => hn ⟨i, by omega, by omega, h⟩)
    omega
  obtain ⟨i, _, _, _, a4, a5⟩ := new_from hk (by omega) hw hwl hm (TValue.mk 0 0 [] false) (l.length + 1) 0 (by omega) hex
  have h0 : newS k 0 = TValue.mk k 0 [] false := by unfold newS; split <;> rfl
  rw [h0] at a4 a5
  refine ⟨newS k i, ?_, ?_⟩
  · unfold joint_New
    rcases hk with rfl | rfl
    · simp only [decide_true, Bool.not_true, iteE_f, a4, bndE_s]
    · simp only [show ¬ (2 : Int) = 1 by decide, decide_false, decide_true, Bool.not_false, Bool.not_true, iteE_t, iteE_f, a4, bndE_s]
  · unfold ref22_New
    rw [a5, bndE_s]
set_option linter.unusedVariables false
noncomputable def joint_own_l1_k (s1 : Int) (s9 : List TSymbol) (s10 : Int) (s5 : Int) (s11 : Int) : Option (Int) := itE (fun s : Int × Int => joint_own_l1_s s1 s9 s10 s.1 s.2) 70 (s5, s11)
theorem joint_own_l1_le (s1 : Int) (s9 : List TSymbol) (s10 : Int) (s5 : Int) (s11 : Int) : Le (joint_own_l1_k s1 s9 s10 s5 s11) (joint_own_l1 s1 s9 s10 s5 s11) := by
  unfold joint_own_l1_k joint_own_l1
  repeat' (first | refine loop_le (fun _ => ?_) _ _ | exact Le.refl _)
noncomputable def joint_own_k (a0 : TQea) (a1 : Int) : Option (Int) :=
  bndE (joint_own_l1_k a1 a0.symbols (a0.symbols.length : Int) 0 0) fun o4 =>
  some o4
theorem joint_own_le (a0 : TQea) (a1 : Int) : Le (joint_own_k a0 a1) (joint_own a0 a1) := by
  unfold joint_own_k joint_own
  repeat' (first | exact joint_own_l1_le _ _ _ _ _ | refine bndE_le ?_ fun _ => ?_ | exact Le.refl _)
noncomputable def slices_BinarySearchFunc_Value_Value_Value_l1_k (s0 : List TValue) (s2 : List TValue) (s8 : Int) (w4 : TValue) (s9 : Int) (s10 : Int) : Option (Int) := itE (fun s : Int × Int => slices_BinarySearchFunc_Value_Value_Value_l1_s s0 s2 s8 w4 s.1 s.2) 70 (s9, s10)
theorem slices_BinarySearchFunc_Value_Value_Value_l1_le (s0 : List TValue) (s2 : List TValue) (s8 : Int) (w4 : TValue) (s9 : Int) (s10 : Int) : Le (slices_BinarySearchFunc_Value_Value_Value_l1_k s0 s2 s8 w4 s9 s10) (slices_BinarySearchFunc_Value_Value_Value_l1 s0 s2 s8 w4 s9 s10) := by
  unfold slices_BinarySearchFunc_Value_Value_Value_l1_k slices_BinarySearchFunc_Value_Value_Value_l1
  repeat' (first | refine loop_le (fun _ => ?_) _ _ | exact Le.refl _)
noncomputable def slices_BinarySearchFunc_Value_Value_Value_k (a0 : List TValue) (a1 : TValue) (a2 : List TValue) : Option (Int × Bool) :=
  bndE (slices_BinarySearchFunc_Value_Value_Value_l1_k a0 a2 (a0.length : Int) a1 0 (a0.length : Int)) fun o5 =>
  iteE (decide (o5 < (a0.length : Int))) (
   idxE a0 o5 fun x6 =>
   bndE (domain_Set_Value_Put_1 x6 a1 a2) fun r7 =>
   some (o5, decide (r7 = 0))) (
   some (o5, false))
theorem slices_BinarySearchFunc_Value_Value_Value_le (a0 : List TValue) (a1 : TValue) (a2 : List TValue) : Le (slices_BinarySearchFunc_Value_Value_Value_k a0 a1 a2) (slices_BinarySearchFunc_Value_Value_Value a0 a1 a2) := by
  unfold slices_BinarySearchFunc_Value_Value_Value_k slices_BinarySearchFunc_Value_Value_Value
  repeat' (first | exact slices_BinarySearchFunc_Value_Value_Value_l1_le _ _ _ _ _ _ | refine bndE_le ?_ fun _ => ?_ | refine iteE_le ?_ ?_ | refine idxE_le fun _ => ?_ | exact Le.refl _)
noncomputable def domain_Set_Value_Put_v2_k (a1 : TValue) : Option (Bool × List TValue) :=
  bndE (slices_BinarySearchFunc_Value_Value_Value_k ([] : List TValue) a1 ([] : List TValue)) fun r1 =>
  bndE (domain_Set_Value_Put_v2_b1 r1.1 r1.2 (!r1.2) a1) fun o3 =>
  some (!r1.2, o3)
theorem domain_Set_Value_Put_v2_le (a1 : TValue) : Le (domain_Set_Value_Put_v2_k a1) (domain_Set_Value_Put_v2 a1) := by
  unfold domain_Set_Value_Put_v2_k domain_Set_Value_Put_v2
  repeat' (first | exact slices_BinarySearchFunc_Value_Value_Value_le _ _ _ | refine bndE_le ?_ fun _ => ?_ | exact Le.refl _)
noncomputable def domain_Set_Value_Put_v3_k (a1 : TValue) (w1 : List TValue) : Option (Bool × List TValue) :=
  bndE (slices_BinarySearchFunc_Value_Value_Value_k w1 a1 w1) fun r1 =>
  bndE (domain_Set_Value_Put_v3_b1 r1.1 r1.2 (!r1.2) a1 w1) fun o3 =>
  some (!r1.2, o3)
theorem domain_Set_Value_Put_v3_le (a1 : TValue) (w1 : List TValue) : Le (domain_Set_Value_Put_v3_k a1 w1) (domain_Set_Value_Put_v3 a1 w1) := by
  unfold domain_Set_Value_Put_v3_k domain_Set_Value_Put_v3
  repeat' (first | exact slices_BinarySearchFunc_Value_Value_Value_le _ _ _ | refine bndE_le ?_ fun _ => ?_ | exact Le.refl _)
noncomputable def joint_Consts_b1_k (s1 : Int) (s12 : Bool) (w2 : TQea) : Option ((List TValue)) :=
  iteE (s12) (
   bndE (value_Bool false) fun r2 =>
   bndE (domain_Set_Value_Put_v2_k r2) fun r3 =>
   bndE (value_Bool true) fun r4 =>
   bndE (domain_Set_Value_Put_v3_k r4 r3.2) fun r5 =>
   some r5.2) (
   some ([] : List TValue))
theorem joint_Consts_b1_le (s1 : Int) (s12 : Bool) (w2 : TQea) : Le (joint_Consts_b1_k s1 s12 w2) (joint_Consts_b1 s1 s12 w2) := by
  unfold joint_Consts_b1_k joint_Consts_b1
  repeat' (first | exact domain_Set_Value_Put_v2_le _ | exact domain_Set_Value_Put_v3_le _ _ | refine bndE_le ?_ fun _ => ?_ | refine iteE_le ?_ ?_ | exact Le.refl _)
noncomputable def joint_Consts_b5_k (s1 : Int) (s20 : List TSymbol) (s21 : Int) (s22 : Int) (s27 : List TArg) (s28 : Int) (s29 : Int) (s42 : Bool) (w9 : TArg) (w518 : List TValue) : Option ((List TValue)) :=
  iteE (s42) (
   bndE (domain_Set_Value_Put_v3_k w9.value w518) fun r9 =>
   some r9.2) (
   some w518)
theorem joint_Consts_b5_le (s1 : Int) (s20 : List TSymbol) (s21 : Int) (s22 : Int) (s27 : List TArg) (s28 : Int) (s29 : Int) (s42 : Bool) (w9 : TArg) (w518 : List TValue) : Le (joint_Consts_b5_k s1 s20 s21 s22 s27 s28 s29 s42 w9 w518) (joint_Consts_b5 s1 s20 s21 s22 s27 s28 s29 s42 w9 w518) := by
  unfold joint_Consts_b5_k joint_Consts_b5
  repeat' (first | exact domain_Set_Value_Put_v3_le _ _ | refine bndE_le ?_ fun _ => ?_ | refine iteE_le ?_ ?_ | exact Le.refl _)
noncomputable def joint_Consts_b4_k (s1 : Int) (s20 : List TSymbol) (s21 : Int) (s22 : Int) (s27 : List TArg) (s28 : Int) (s29 : Int) (w518 : List TValue) : Option ((List TValue)) :=
  idxE s27 s29 fun x8 =>
  iteE (decide (x8.kind = 1)) (
   bndE (joint_Consts_b5_k s1 s20 s21 s22 s27 s28 s29 (decide (x8.value.kind = s1)) x8 w518) fun o10 =>
   some o10) (
   bndE (joint_Consts_b5_k s1 s20 s21 s22 s27 s28 s29 false x8 w518) fun o11 =>
   some o11)
theorem joint_Consts_b4_le (s1 : Int) (s20 : List TSymbol) (s21 : Int) (s22 : Int) (s27 : List TArg) (s28 : Int) (s29 : Int) (w518 : List TValue) : Le (joint_Consts_b4_k s1 s20 s21 s22 s27 s28 s29 w518) (joint_Consts_b4 s1 s20 s21 s22 s27 s28 s29 w518) := by
  unfold joint_Consts_b4_k joint_Consts_b4
  repeat' (first | exact joint_Consts_b5_le _ _ _ _ _ _ _ _ _ _ | refine bndE_le ?_ fun _ => ?_ | refine iteE_le ?_ ?_ | refine idxE_le fun _ => ?_ | exact Le.refl _)
noncomputable def joint_Consts_l3_s_k (s1 : Int) (s20 : List TSymbol) (s21 : Int) (s22 : Int) (s27 : List TArg) (s28 : Int) (s29 : Int) (w518 : List TValue) : Option ((Int × List TValue) ⊕ ((List TValue))) :=
  iteE (decide (s29 < s28)) (
   bndE (joint_Consts_b4_k s1 s20 s21 s22 s27 s28 s29 w518) fun o12 =>
   some (.inl ((intVal .add .i64 s29 1), o12))) (
   some (.inr w518))
theorem joint_Consts_l3_s_le (s1 : Int) (s20 : List TSymbol) (s21 : Int) (s22 : Int) (s27 : List TArg) (s28 : Int) (s29 : Int) (w518 : List TValue) : Le (joint_Consts_l3_s_k s1 s20 s21 s22 s27 s28 s29 w518) (joint_Consts_l3_s s1 s20 s21 s22 s27 s28 s29 w518) := by
  unfold joint_Consts_l3_s_k joint_Consts_l3_s
  repeat' (first | exact joint_Consts_b4_le _ _ _ _ _ _ _ _ | refine bndE_le ?_ fun _ => ?_ | refine iteE_le ?_ ?_ | exact Le.refl _)
noncomputable def joint_Consts_l3_k (s1 : Int) (s20 : List TSymbol) (s21 : Int) (s22 : Int) (s27 : List TArg) (s28 : Int) (s29 : Int) (w518 : List TValue) : Option ((List TValue)) := itE (fun s : Int × List TValue => joint_Consts_l3_s_k s1 s20 s21 s22 s27 s28 s.1 s.2) 70 (s29, w518)
theorem joint_Consts_l3_le (s1 : Int) (s20 : List TSymbol) (s21 : Int) (s22 : Int) (s27 : List TArg) (s28 : Int) (s29 : Int) (w518 : List TValue) : Le (joint_Consts_l3_k s1 s20 s21 s22 s27 s28 s29 w518) (joint_Consts_l3 s1 s20 s21 s22 s27 s28 s29 w518) := by
  unfold joint_Consts_l3_k joint_Consts_l3
  repeat' (first | exact joint_Consts_l3_s_le _ _ _ _ _ _ _ _ | refine loop_le (fun _ => ?_) _ _ | exact Le.refl _)
noncomputable def joint_Consts_l2_s_k (s1 : Int) (s20 : List TSymbol) (s21 : Int) (s22 : Int) (w518 : List TValue) : Option ((Int × List TValue) ⊕ ((List TValue))) :=
  iteE (decide (s22 < s21)) (
   idxE s20 s22 fun x7 =>
   bndE (joint_Consts_l3_k s1 s20 s21 s22 x7.args (x7.args.length : Int) 0 w518) fun o13 =>
   some (.inl ((intVal .add .i64 s22 1), o13))) (
   some (.inr w518))
theorem joint_Consts_l2_s_le (s1 : Int) (s20 : List TSymbol) (s21 : Int) (s22 : Int) (w518 : List TValue) : Le (joint_Consts_l2_s_k s1 s20 s21 s22 w518) (joint_Consts_l2_s s1 s20 s21 s22 w518) := by
  unfold joint_Consts_l2_s_k joint_Consts_l2_s
  repeat' (first | exact joint_Consts_l3_le _ _ _ _ _ _ _ _ | refine bndE_le ?_ fun _ => ?_ | refine iteE_le ?_ ?_ | refine idxE_le fun _ => ?_ | exact Le.refl _)
noncomputable def joint_Consts_l2_k (s1 : Int) (s20 : List TSymbol) (s21 : Int) (s22 : Int) (w518 : List TValue) : Option ((List TValue)) := itE (fun s : Int × List TValue => joint_Consts_l2_s_k s1 s20 s21 s.1 s.2) 70 (s22, w518)
theorem joint_Consts_l2_le (s1 : Int) (s20 : List TSymbol) (s21 : Int) (s22 : Int) (w518 : List TValue) : Le (joint_Consts_l2_k s1 s20 s21 s22 w518) (joint_Consts_l2 s1 s20 s21 s22 w518) := by
  unfold joint_Consts_l2_k joint_Consts_l2
  repeat' (first | exact joint_Consts_l2_s_le _ _ _ _ _ | refine loop_le (fun _ => ?_) _ _ | exact Le.refl _)
noncomputable def joint_Consts_k (a0 : TQea) (a1 : Int) : Option (List TValue) :=
  bndE (domain_NewSet_Value_v2) fun r1 =>
  bndE (joint_Consts_b1_k a1 (decide (a1 = 3)) a0) fun o6 =>
  bndE (joint_Consts_l2_k a1 a0.symbols (a0.symbols.length : Int) 0 o6) fun o14 =>
  bndE (domain_Set_Value_All o14) fun r15 =>
  some r15.1
theorem joint_Consts_le (a0 : TQea) (a1 : Int) : Le (joint_Consts_k a0 a1) (joint_Consts a0 a1) := by
  unfold joint_Consts_k joint_Consts
  repeat' (first | exact joint_Consts_b1_le _ _ _ | exact joint_Consts_l2_le _ _ _ _ _ | refine bndE_le ?_ fun _ => ?_ | exact Le.refl _)
noncomputable def slices_Index_Value_Value_l1_k (s0 : List TValue) (s7 : Int) (w3 : TValue) (s8 : Int) : Option (Unit ⊕ Int) := itE (fun s : Int => slices_Index_Value_Value_l1_s s0 s7 w3 s) 70 s8
theorem slices_Index_Value_Value_l1_le (s0 : List TValue) (s7 : Int) (w3 : TValue) (s8 : Int) : Le (slices_Index_Value_Value_l1_k s0 s7 w3 s8) (slices_Index_Value_Value_l1 s0 s7 w3 s8) := by
  unfold slices_Index_Value_Value_l1_k slices_Index_Value_Value_l1
  repeat' (first | refine loop_le (fun _ => ?_) _ _ | exact Le.refl _)
noncomputable def slices_Index_Value_Value_k (a0 : List TValue) (a1 : TValue) : Option (Int) :=
  bndE (slices_Index_Value_Value_l1_k a0 (a0.length : Int) a1 0) fun o2 =>
  sumE o2 (fun o3 =>
   some (-1)) (fun o4 =>
   some o4)
theorem slices_Index_Value_Value_le (a0 : List TValue) (a1 : TValue) : Le (slices_Index_Value_Value_k a0 a1) (slices_Index_Value_Value a0 a1) := by
  unfold slices_Index_Value_Value_k slices_Index_Value_Value
  repeat' (first | exact slices_Index_Value_Value_l1_le _ _ _ _ | refine bndE_le ?_ fun _ => ?_ | refine sumE_le (fun _ => ?_) fun _ => ?_ | exact Le.refl _)
noncomputable def slices_Contains_Value_Value_k (a0 : List TValue) (a1 : TValue) : Option (Bool) :=
  bndE (slices_Index_Value_Value_k a0 a1) fun r1 =>
  some (decide (0 ≤ r1))
theorem slices_Contains_Value_Value_le (a0 : List TValue) (a1 : TValue) : Le (slices_Contains_Value_Value_k a0 a1) (slices_Contains_Value_Value a0 a1) := by
  unfold slices_Contains_Value_Value_k slices_Contains_Value_Value
  repeat' (first | exact slices_Index_Value_Value_le _ _ | refine bndE_le ?_ fun _ => ?_ | exact Le.refl _)
noncomputable def slices_Concat_Value_Value_l1_k (s0 : List (List TValue)) (s9 : List (List TValue)) (s10 : Int) (s3 : Int) (s11 : Int) : Option (Int) := itE (fun s : Int × Int => slices_Concat_Value_Value_l1_s s0 s9 s10 s.1 s.2) 70 (s3, s11)
theorem slices_Concat_Value_Value_l1_le (s0 : List (List TValue)) (s9 : List (List TValue)) (s10 : Int) (s3 : Int) (s11 : Int) : Le (slices_Concat_Value_Value_l1_k s0 s9 s10 s3 s11) (slices_Concat_Value_Value_l1 s0 s9 s10 s3 s11) := by
  unfold slices_Concat_Value_Value_l1_k slices_Concat_Value_Value_l1
  repeat' (first | refine loop_le (fun _ => ?_) _ _ | exact Le.refl _)
noncomputable def slices_Concat_Value_Value_l4_k (s25 : List (List TValue)) (s26 : Int) (s27 : Int) (w6 : List TValue) : Option ((List TValue)) := itE (fun s : Int × List TValue => slices_Concat_Value_Value_l4_s s25 s26 s.1 s.2) 70 (s27, w6)
theorem slices_Concat_Value_Value_l4_le (s25 : List (List TValue)) (s26 : Int) (s27 : Int) (w6 : List TValue) : Le (slices_Concat_Value_Value_l4_k s25 s26 s27 w6) (slices_Concat_Value_Value_l4 s25 s26 s27 w6) := by
  unfold slices_Concat_Value_Value_l4_k slices_Concat_Value_Value_l4
  repeat' (first | refine loop_le (fun _ => ?_) _ _ | exact Le.refl _)
noncomputable def slices_Concat_Value_Value_k (a0 : List (List TValue)) : Option (List TValue) :=
  bndE (slices_Concat_Value_Value_l1_k a0 a0 (a0.length : Int) 0 0) fun o4 =>
  bndE (slices_Grow_Value_Value o4) fun r5 =>
  bndE (slices_Concat_Value_Value_l4_k a0 (a0.length : Int) 0 r5) fun o7 =>
  some o7
theorem slices_Concat_Value_Value_le (a0 : List (List TValue)) : Le (slices_Concat_Value_Value_k a0) (slices_Concat_Value_Value a0) := by
  unfold slices_Concat_Value_Value_k slices_Concat_Value_Value
  repeat' (first | exact slices_Concat_Value_Value_l1_le _ _ _ _ _ | exact slices_Concat_Value_Value_l4_le _ _ _ _ | refine bndE_le ?_ fun _ => ?_ | exact Le.refl _)
noncomputable def joint_New_l1_s_k (s0 : Int) (s1 : List TValue) (w4 : TValue) (w6 : TValue) : Option ((TValue) ⊕ (TValue)) :=
  bndE (slices_Contains_Value_Value_k s1 w6) fun r1 =>
  iteE (r1) (
   bndE (joint_New_b2 s0 s1 w4 w6) fun o3 =>
   some (.inl o3)) (
   some (.inr w6))
theorem joint_New_l1_s_le (s0 : Int) (s1 : List TValue) (w4 : TValue) (w6 : TValue) : Le (joint_New_l1_s_k s0 s1 w4 w6) (joint_New_l1_s s0 s1 w4 w6) := by
  unfold joint_New_l1_s_k joint_New_l1_s
  repeat' (first | exact slices_Contains_Value_Value_le _ _ | refine bndE_le ?_ fun _ => ?_ | refine iteE_le ?_ ?_ | exact Le.refl _)
noncomputable def joint_New_l1_k (s0 : Int) (s1 : List TValue) (w4 : TValue) (w6 : TValue) : Option (TValue) := itE (fun s : TValue => joint_New_l1_s_k s0 s1 w4 s) 70 w6
theorem joint_New_l1_le (s0 : Int) (s1 : List TValue) (w4 : TValue) (w6 : TValue) : Le (joint_New_l1_k s0 s1 w4 w6) (joint_New_l1 s0 s1 w4 w6) := by
  unfold joint_New_l1_k joint_New_l1
  repeat' (first | exact joint_New_l1_s_le _ _ _ _ | refine loop_le (fun _ => ?_) _ _ | exact Le.refl _)
noncomputable def joint_New_k (a0 : Int) (a1 : List TValue) : Option (TValue × Bool) :=
  iteE (!decide (a0 = 1)) (
   iteE (!decide (a0 = 2)) (
    some (TValue.mk 0 0 ([] : List UInt8) false, false)) (
    bndE (joint_New_l1_k a0 a1 (TValue.mk 0 0 ([] : List UInt8) false) (TValue.mk a0 0 ([] : List UInt8) false)) fun o4 =>
    some (o4, true))) (
   bndE (joint_New_l1_k a0 a1 (TValue.mk 0 0 ([] : List UInt8) false) (TValue.mk a0 0 ([] : List UInt8) false)) fun o5 =>
   some (o5, true))
theorem joint_New_le (a0 : Int) (a1 : List TValue) : Le (joint_New_k a0 a1) (joint_New a0 a1) := by
  unfold joint_New_k joint_New
  repeat' (first | exact joint_New_l1_le _ _ _ _ | refine bndE_le ?_ fun _ => ?_ | refine iteE_le ?_ ?_ | exact Le.refl _)
noncomputable def joint_place_values_b2_k (s1 : List TValue) (s5 : Int) (s28 : List TSlot) (s29 : Int) (s30 : Int) (w6 : List TValue) : Option ((List TValue)) :=
  idxE s28 s30 fun x4 =>
  iteE (decide (x4.value.kind = s5)) (
   bndE (slices_Contains_Value_Value_k w6 x4.value) fun r5 =>
   bndE (joint_place_values_b3 s1 s5 s28 s29 s30 (!r5) w6 x4) fun o6 =>
   some o6) (
   bndE (joint_place_values_b3 s1 s5 s28 s29 s30 false w6 x4) fun o7 =>
   some o7)
theorem joint_place_values_b2_le (s1 : List TValue) (s5 : Int) (s28 : List TSlot) (s29 : Int) (s30 : Int) (w6 : List TValue) : Le (joint_place_values_b2_k s1 s5 s28 s29 s30 w6) (joint_place_values_b2 s1 s5 s28 s29 s30 w6) := by
  unfold joint_place_values_b2_k joint_place_values_b2
  repeat' (first | exact slices_Contains_Value_Value_le _ _ | refine bndE_le ?_ fun _ => ?_ | refine iteE_le ?_ ?_ | refine idxE_le fun _ => ?_ | exact Le.refl _)
noncomputable def joint_place_values_l1_s_k (s1 : List TValue) (s5 : Int) (s28 : List TSlot) (s29 : Int) (s30 : Int) (w6 : List TValue) : Option ((Int × List TValue) ⊕ ((List TValue))) :=
  iteE (decide (s30 < s29)) (
   bndE (joint_place_values_b2_k s1 s5 s28 s29 s30 w6) fun o8 =>
   some (.inl ((intVal .add .i64 s30 1), o8))) (
   some (.inr w6))
theorem joint_place_values_l1_s_le (s1 : List TValue) (s5 : Int) (s28 : List TSlot) (s29 : Int) (s30 : Int) (w6 : List TValue) : Le (joint_place_values_l1_s_k s1 s5 s28 s29 s30 w6) (joint_place_values_l1_s s1 s5 s28 s29 s30 w6) := by
  unfold joint_place_values_l1_s_k joint_place_values_l1_s
  repeat' (first | exact joint_place_values_b2_le _ _ _ _ _ _ | refine bndE_le ?_ fun _ => ?_ | refine iteE_le ?_ ?_ | exact Le.refl _)
noncomputable def joint_place_values_l1_k (s1 : List TValue) (s5 : Int) (s28 : List TSlot) (s29 : Int) (s30 : Int) (w6 : List TValue) : Option ((List TValue)) := itE (fun s : Int × List TValue => joint_place_values_l1_s_k s1 s5 s28 s29 s.1 s.2) 70 (s30, w6)
theorem joint_place_values_l1_le (s1 : List TValue) (s5 : Int) (s28 : List TSlot) (s29 : Int) (s30 : Int) (w6 : List TValue) : Le (joint_place_values_l1_k s1 s5 s28 s29 s30 w6) (joint_place_values_l1 s1 s5 s28 s29 s30 w6) := by
  unfold joint_place_values_l1_k joint_place_values_l1
  repeat' (first | exact joint_place_values_l1_s_le _ _ _ _ _ _ | refine loop_le (fun _ => ?_) _ _ | exact Le.refl _)
noncomputable def joint_place_values_k (a0 : Tjoint_place) (a1 : List TValue) : Option (List TValue) :=
  idxE a0.q.decls a0.d_ fun x1 =>
  idxE x1.types a0.at_ fun x2 =>
  bndE (joint_Consts_k a0.q x2) fun r3 =>
  bndE (joint_place_values_l1_k a1 x2 a0.b (a0.b.length : Int) 0 r3) fun o9 =>
  bndE (slices_Concat_Value_Value_k [o9, a1]) fun r10 =>
  bndE (joint_New_k x2 r10) fun r11 =>
  bndE (joint_place_values_b4 r11.2 o9 r11.1) fun o12 =>
  some o12
theorem joint_place_values_le (a0 : Tjoint_place) (a1 : List TValue) : Le (joint_place_values_k a0 a1) (joint_place_values a0 a1) := by
  unfold joint_place_values_k joint_place_values
  repeat' (first | exact joint_Consts_le _ _ | exact joint_place_values_l1_le _ _ _ _ _ _ | exact slices_Concat_Value_Value_le _ | exact joint_New_le _ _ | refine bndE_le ?_ fun _ => ?_ | refine idxE_le fun _ => ?_ | exact Le.refl _)
noncomputable def binding_Get_l1_k (s1 : Int) (s8 : List TSlot) (s9 : Int) (w4 : TValue) (s10 : Int) : Option (Unit ⊕ TValue) := itE (fun s : Int => binding_Get_l1_s s1 s8 s9 w4 s) 70 s10
theorem binding_Get_l1_le (s1 : Int) (s8 : List TSlot) (s9 : Int) (w4 : TValue) (s10 : Int) : Le (binding_Get_l1_k s1 s8 s9 w4 s10) (binding_Get_l1 s1 s8 s9 w4 s10) := by
  unfold binding_Get_l1_k binding_Get_l1
  repeat' (first | refine loop_le (fun _ => ?_) _ _ | exact Le.refl _)
noncomputable def binding_Get_k (a0 : List TSlot) (a1 : Int) : Option (TValue × Bool) :=
  bndE (binding_Get_l1_k a1 a0 (a0.length : Int) (TValue.mk 0 0 ([] : List UInt8) false) 0) fun o2 =>
  sumE o2 (fun o3 =>
   some (TValue.mk 0 0 ([] : List UInt8) false, false)) (fun o4 =>
   some (o4, true))
theorem binding_Get_le (a0 : List TSlot) (a1 : Int) : Le (binding_Get_k a0 a1) (binding_Get a0 a1) := by
  unfold binding_Get_k binding_Get
  repeat' (first | exact binding_Get_l1_le _ _ _ _ _ | refine bndE_le ?_ fun _ => ?_ | refine sumE_le (fun _ => ?_) fun _ => ?_ | exact Le.refl _)
noncomputable def joint_place_fits_k (a0 : Tjoint_place) (a1 : TArg) (a2 : TValue) : Option (Bool) :=
  iteE (decide (a1.kind = 1)) (
   some (TValue.eqb a1.value a2)) (
   iteE (decide (a1.kind = 2)) (
    bndE (binding_Get_k a0.b a1.n) fun r1 =>
    iteE (r1.2) (
     some (TValue.eqb r1.1 a2)) (
     some false)) (
    some true))
theorem joint_place_fits_le (a0 : Tjoint_place) (a1 : TArg) (a2 : TValue) : Le (joint_place_fits_k a0 a1 a2) (joint_place_fits a0 a1 a2) := by
  unfold joint_place_fits_k joint_place_fits
  repeat' (first | exact binding_Get_le _ _ | refine bndE_le ?_ fun _ => ?_ | refine iteE_le ?_ ?_ | exact Le.refl _)
noncomputable def joint_place_with_b2_k (s6 : Int) (s11 : List TSymbol) (s12 : Int) (s13 : Int) (w2 : Tjoint_place) (w3 : TValue) : Option (Int) :=
  idxE s11 s13 fun x1 =>
  iteE (decide (x1.event = w2.d_)) (
   idxE x1.args w2.at_ fun x2 =>
   bndE (joint_place_fits_k w2 x2 w3) fun r3 =>
   bndE (joint_place_with_b3 s6 s13 s11 s12 s13 r3 w2 w3) fun o4 =>
   some o4) (
   bndE (joint_place_with_b3 s6 s13 s11 s12 s13 false w2 w3) fun o5 =>
   some o5)
theorem joint_place_with_b2_le (s6 : Int) (s11 : List TSymbol) (s12 : Int) (s13 : Int) (w2 : Tjoint_place) (w3 : TValue) : Le (joint_place_with_b2_k s6 s11 s12 s13 w2 w3) (joint_place_with_b2 s6 s11 s12 s13 w2 w3) := by
  unfold joint_place_with_b2_k joint_place_with_b2
  repeat' (first | exact joint_place_fits_le _ _ _ | refine bndE_le ?_ fun _ => ?_ | refine iteE_le ?_ ?_ | refine idxE_le fun _ => ?_ | exact Le.refl _)
noncomputable def joint_place_with_l1_s_k (s11 : List TSymbol) (s12 : Int) (w2 : Tjoint_place) (w3 : TValue) (s6 : Int) (s13 : Int) : Option ((Int × Int) ⊕ (Int)) :=
  iteE (decide (s13 < s12)) (
   bndE (joint_place_with_b2_k s6 s11 s12 s13 w2 w3) fun o6 =>
   some (.inl (o6, (intVal .add .i64 s13 1)))) (
   some (.inr s6))
theorem joint_place_with_l1_s_le (s11 : List TSymbol) (s12 : Int) (w2 : Tjoint_place) (w3 : TValue) (s6 : Int) (s13 : Int) : Le (joint_place_with_l1_s_k s11 s12 w2 w3 s6 s13) (joint_place_with_l1_s s11 s12 w2 w3 s6 s13) := by
  unfold joint_place_with_l1_s_k joint_place_with_l1_s
  repeat' (first | exact joint_place_with_b2_le _ _ _ _ _ _ | refine bndE_le ?_ fun _ => ?_ | refine iteE_le ?_ ?_ | exact Le.refl _)
noncomputable def joint_place_with_l1_k (s11 : List TSymbol) (s12 : Int) (w2 : Tjoint_place) (w3 : TValue) (s6 : Int) (s13 : Int) : Option (Int) := itE (fun s : Int × Int => joint_place_with_l1_s_k s11 s12 w2 w3 s.1 s.2) 70 (s6, s13)
theorem joint_place_with_l1_le (s11 : List TSymbol) (s12 : Int) (w2 : Tjoint_place) (w3 : TValue) (s6 : Int) (s13 : Int) : Le (joint_place_with_l1_k s11 s12 w2 w3 s6 s13) (joint_place_with_l1 s11 s12 w2 w3 s6 s13) := by
  unfold joint_place_with_l1_k joint_place_with_l1
  repeat' (first | exact joint_place_with_l1_s_le _ _ _ _ _ _ | refine loop_le (fun _ => ?_) _ _ | exact Le.refl _)
noncomputable def joint_place_with_k (a0 : Tjoint_place) (a1 : TValue) : Option (Int) :=
  bndE (joint_place_with_l1_k a0.q.symbols (a0.q.symbols.length : Int) a0 a1 0 0) fun o7 =>
  some o7
theorem joint_place_with_le (a0 : Tjoint_place) (a1 : TValue) : Le (joint_place_with_k a0 a1) (joint_place_with a0 a1) := by
  unfold joint_place_with_k joint_place_with
  repeat' (first | exact joint_place_with_l1_le _ _ _ _ _ _ | refine bndE_le ?_ fun _ => ?_ | exact Le.refl _)
noncomputable def joint_narrow_m3_k (s8 : Int) (s12 : List TValue) (s13 : Int) (s14 : Int) (w0 : List (Int × Bool)) (w3 : Tjoint_place) (w5 : List (Int × Bool)) : Option ((List (Int × Bool))) := exactC (joint_narrow_m3_c s8 s12 s13 s14 w0 w3) w0 (fun (x : Int × Bool) (s : (List (Int × Bool))) => joint_narrow_m3_s s8 s12 s13 s14 w0 w3 x.1 x.2 s) w5
theorem joint_narrow_m3_le (s8 : Int) (s12 : List TValue) (s13 : Int) (s14 : Int) (w0 : List (Int × Bool)) (w3 : Tjoint_place) (w5 : List (Int × Bool)) : Le (joint_narrow_m3_k s8 s12 s13 s14 w0 w3 w5) (joint_narrow_m3 s8 s12 s13 s14 w0 w3 w5) := by
  unfold joint_narrow_m3_k joint_narrow_m3
  repeat' (first | refine exact_le fun _ _ => ?_ | exact Le.refl _)
noncomputable def joint_narrow_b2_k (s8 : Int) (s12 : List TValue) (s13 : Int) (s14 : Int) (w0 : List (Int × Bool)) (w3 : Tjoint_place) (w5 : List (Int × Bool)) : Option ((List (Int × Bool))) :=
  bndE (joint_narrow_m3_k s8 s12 s13 s14 w0 w3 w5) fun o4 =>
  some o4
theorem joint_narrow_b2_le (s8 : Int) (s12 : List TValue) (s13 : Int) (s14 : Int) (w0 : List (Int × Bool)) (w3 : Tjoint_place) (w5 : List (Int × Bool)) : Le (joint_narrow_b2_k s8 s12 s13 s14 w0 w3 w5) (joint_narrow_b2 s8 s12 s13 s14 w0 w3 w5) := by
  unfold joint_narrow_b2_k joint_narrow_b2
  repeat' (first | exact joint_narrow_m3_le _ _ _ _ _ _ _ | refine bndE_le ?_ fun _ => ?_ | exact Le.refl _)
noncomputable def joint_narrow_l1_s_k (s12 : List TValue) (s13 : Int) (w0 : List (Int × Bool)) (w3 : Tjoint_place) (s14 : Int) (w5 : List (Int × Bool)) : Option ((Int × (List (Int × Bool))) ⊕ ((List (Int × Bool)))) :=
  iteE (decide (s14 < s13)) (
   idxE s12 s14 fun x2 =>
   bndE (joint_place_with_k w3 x2) fun r3 =>
   bndE (joint_narrow_b2_k r3 s12 s13 s14 w0 w3 w5) fun o5 =>
   some (.inl ((intVal .add .i64 s14 1), o5))) (
   some (.inr w5))
theorem joint_narrow_l1_s_le (s12 : List TValue) (s13 : Int) (w0 : List (Int × Bool)) (w3 : Tjoint_place) (s14 : Int) (w5 : List (Int × Bool)) : Le (joint_narrow_l1_s_k s12 s13 w0 w3 s14 w5) (joint_narrow_l1_s s12 s13 w0 w3 s14 w5) := by
  unfold joint_narrow_l1_s_k joint_narrow_l1_s
  repeat' (first | exact joint_place_with_le _ _ | exact joint_narrow_b2_le _ _ _ _ _ _ _ | refine bndE_le ?_ fun _ => ?_ | refine iteE_le ?_ ?_ | refine idxE_le fun _ => ?_ | exact Le.refl _)
noncomputable def joint_narrow_l1_k (s12 : List TValue) (s13 : Int) (w0 : List (Int × Bool)) (w3 : Tjoint_place) (s14 : Int) (w5 : List (Int × Bool)) : Option ((List (Int × Bool))) := itE (fun s : Int × (List (Int × Bool)) => joint_narrow_l1_s_k s12 s13 w0 w3 s.1 s.2) 70 (s14, w5)
theorem joint_narrow_l1_le (s12 : List TValue) (s13 : Int) (w0 : List (Int × Bool)) (w3 : Tjoint_place) (s14 : Int) (w5 : List (Int × Bool)) : Le (joint_narrow_l1_k s12 s13 w0 w3 s14 w5) (joint_narrow_l1 s12 s13 w0 w3 s14 w5) := by
  unfold joint_narrow_l1_k joint_narrow_l1
  repeat' (first | exact joint_narrow_l1_s_le _ _ _ _ _ _ | refine loop_le (fun _ => ?_) _ _ | exact Le.refl _)
noncomputable def joint_narrow_k (a1 : Tjoint_place) (w0 : List (Int × Bool)) : Option ((List (Int × Bool))) :=
  bndE (joint_place_values_k a1 ([] : List TValue)) fun r1 =>
  bndE (joint_narrow_l1_k r1 (r1.length : Int) w0 a1 0 ([] : List (Int × Bool))) fun o6 =>
  some o6
theorem joint_narrow_le (a1 : Tjoint_place) (w0 : List (Int × Bool)) : Le (joint_narrow_k a1 w0) (joint_narrow a1 w0) := by
  unfold joint_narrow_k joint_narrow
  repeat' (first | exact joint_place_values_le _ _ | exact joint_narrow_l1_le _ _ _ _ _ _ | refine bndE_le ?_ fun _ => ?_ | exact Le.refl _)
noncomputable def slices_insertionSortOrdered_uint64_l2_k (s1 : Int) (s2 : Int) (s6 : Int) (s7 : Int) (w0 : List Int) : Option ((List Int)) := itE (fun s : Int × List Int => slices_insertionSortOrdered_uint64_l2_s s1 s2 s6 s.1 s.2) 70 (s7, w0)
theorem slices_insertionSortOrdered_uint64_l2_le (s1 : Int) (s2 : Int) (s6 : Int) (s7 : Int) (w0 : List Int) : Le (slices_insertionSortOrdered_uint64_l2_k s1 s2 s6 s7 w0) (slices_insertionSortOrdered_uint64_l2 s1 s2 s6 s7 w0) := by
  unfold slices_insertionSortOrdered_uint64_l2_k slices_insertionSortOrdered_uint64_l2
  repeat' (first | refine loop_le (fun _ => ?_) _ _ | exact Le.refl _)
noncomputable def slices_insertionSortOrdered_uint64_l1_s_k (s1 : Int) (s2 : Int) (s6 : Int) (w0 : List Int) : Option ((Int × List Int) ⊕ ((List Int))) :=
  iteE (decide (s6 < s2)) (
   bndE (slices_insertionSortOrdered_uint64_l2_k s1 s2 s6 s6 w0) fun o6 =>
   some (.inl ((intVal .add .i64 s6 1), o6))) (
   some (.inr w0))
theorem slices_insertionSortOrdered_uint64_l1_s_le (s1 : Int) (s2 : Int) (s6 : Int) (w0 : List Int) : Le (slices_insertionSortOrdered_uint64_l1_s_k s1 s2 s6 w0) (slices_insertionSortOrdered_uint64_l1_s s1 s2 s6 w0) := by
  unfold slices_insertionSortOrdered_uint64_l1_s_k slices_insertionSortOrdered_uint64_l1_s
  repeat' (first | exact slices_insertionSortOrdered_uint64_l2_le _ _ _ _ _ | refine bndE_le ?_ fun _ => ?_ | refine iteE_le ?_ ?_ | exact Le.refl _)
noncomputable def slices_insertionSortOrdered_uint64_l1_k (s1 : Int) (s2 : Int) (s6 : Int) (w0 : List Int) : Option ((List Int)) := itE (fun s : Int × List Int => slices_insertionSortOrdered_uint64_l1_s_k s1 s2 s.1 s.2) 70 (s6, w0)
theorem slices_insertionSortOrdered_uint64_l1_le (s1 : Int) (s2 : Int) (s6 : Int) (w0 : List Int) : Le (slices_insertionSortOrdered_uint64_l1_k s1 s2 s6 w0) (slices_insertionSortOrdered_uint64_l1 s1 s2 s6 w0) := by
  unfold slices_insertionSortOrdered_uint64_l1_k slices_insertionSortOrdered_uint64_l1
  repeat' (first | exact slices_insertionSortOrdered_uint64_l1_s_le _ _ _ _ | refine loop_le (fun _ => ?_) _ _ | exact Le.refl _)
noncomputable def slices_insertionSortOrdered_uint64_k (a1 : Int) (a2 : Int) (w0 : List Int) : Option (List Int) :=
  bndE (slices_insertionSortOrdered_uint64_l1_k a1 a2 (intVal .add .i64 a1 1) w0) fun o7 =>
  some o7
theorem slices_insertionSortOrdered_uint64_le (a1 : Int) (a2 : Int) (w0 : List Int) : Le (slices_insertionSortOrdered_uint64_k a1 a2 w0) (slices_insertionSortOrdered_uint64 a1 a2 w0) := by
  unfold slices_insertionSortOrdered_uint64_k slices_insertionSortOrdered_uint64
  repeat' (first | exact slices_insertionSortOrdered_uint64_l1_le _ _ _ _ | refine bndE_le ?_ fun _ => ?_ | exact Le.refl _)
noncomputable def slices_pdqsortOrdered_uint64_b2_k (s1 : Int) (s2 : Int) (s3 : Int) (s8 : Bool) (s9 : Bool) (w0 : List Int) : Option ((List Int)) :=
  iteE (decide ((intVal .sub .i64 s2 s1) ≤ 12)) (
   bndE (slices_insertionSortOrdered_uint64_k s1 s2 w0) fun r1 =>
   some r1) (
   iteE (decide (s3 = 0)) (
    none) (
    bndE (slices_pdqsortOrdered_uint64_b3 s1 s2 s3 s8 s9 (intVal .sub .i64 s2 s1) (!s8) w0) fun o2 =>
    none))
theorem slices_pdqsortOrdered_uint64_b2_le (s1 : Int) (s2 : Int) (s3 : Int) (s8 : Bool) (s9 : Bool) (w0 : List Int) : Le (slices_pdqsortOrdered_uint64_b2_k s1 s2 s3 s8 s9 w0) (slices_pdqsortOrdered_uint64_b2 s1 s2 s3 s8 s9 w0) := by
  unfold slices_pdqsortOrdered_uint64_b2_k slices_pdqsortOrdered_uint64_b2
  repeat' (first | exact slices_insertionSortOrdered_uint64_le _ _ _ | refine bndE_le ?_ fun _ => ?_ | refine iteE_le ?_ ?_ | exact Le.refl _)
noncomputable def slices_pdqsortOrdered_uint64_l1_s_k (s1 : Int) (s2 : Int) (s3 : Int) (s8 : Bool) (s9 : Bool) (w0 : List Int) : Option ((Unit) ⊕ ((List Int))) :=
  bndE (slices_pdqsortOrdered_uint64_b2_k s1 s2 s3 s8 s9 w0) fun o3 =>
  some (.inr o3)
theorem slices_pdqsortOrdered_uint64_l1_s_le (s1 : Int) (s2 : Int) (s3 : Int) (s8 : Bool) (s9 : Bool) (w0 : List Int) : Le (slices_pdqsortOrdered_uint64_l1_s_k s1 s2 s3 s8 s9 w0) (slices_pdqsortOrdered_uint64_l1_s s1 s2 s3 s8 s9 w0) := by
  unfold slices_pdqsortOrdered_uint64_l1_s_k slices_pdqsortOrdered_uint64_l1_s
  repeat' (first | exact slices_pdqsortOrdered_uint64_b2_le _ _ _ _ _ _ | refine bndE_le ?_ fun _ => ?_ | exact Le.refl _)
noncomputable def slices_pdqsortOrdered_uint64_l1_k (s1 : Int) (s2 : Int) (s3 : Int) (s8 : Bool) (s9 : Bool) (w0 : List Int) : Option ((List Int)) := itE (fun s : Unit => slices_pdqsortOrdered_uint64_l1_s_k s1 s2 s3 s8 s9 w0) 70 ()
theorem slices_pdqsortOrdered_uint64_l1_le (s1 : Int) (s2 : Int) (s3 : Int) (s8 : Bool) (s9 : Bool) (w0 : List Int) : Le (slices_pdqsortOrdered_uint64_l1_k s1 s2 s3 s8 s9 w0) (slices_pdqsortOrdered_uint64_l1 s1 s2 s3 s8 s9 w0) := by
  unfold slices_pdqsortOrdered_uint64_l1_k slices_pdqsortOrdered_uint64_l1
  repeat' (first | exact slices_pdqsortOrdered_uint64_l1_s_le _ _ _ _ _ _ | refine loop_le (fun _ => ?_) _ _ | exact Le.refl _)
noncomputable def slices_pdqsortOrdered_uint64_k (a1 : Int) (a2 : Int) (a3 : Int) (w0 : List Int) : Option (List Int) :=
  bndE (slices_pdqsortOrdered_uint64_l1_k a1 a2 a3 true true w0) fun o4 =>
  some o4
theorem slices_pdqsortOrdered_uint64_le (a1 : Int) (a2 : Int) (a3 : Int) (w0 : List Int) : Le (slices_pdqsortOrdered_uint64_k a1 a2 a3 w0) (slices_pdqsortOrdered_uint64 a1 a2 a3 w0) := by
  unfold slices_pdqsortOrdered_uint64_k slices_pdqsortOrdered_uint64
  repeat' (first | exact slices_pdqsortOrdered_uint64_l1_le _ _ _ _ _ _ | refine bndE_le ?_ fun _ => ?_ | exact Le.refl _)
noncomputable def slices_Sort_uint64_uint64_k (w0 : List Int) : Option (List Int) :=
  bndE (math_bits_Len (IntKind.wrap .u64 (w0.length : Int))) fun r1 =>
  bndE (slices_pdqsortOrdered_uint64_k 0 (w0.length : Int) r1 w0) fun r2 =>
  some r2
theorem slices_Sort_uint64_uint64_le (w0 : List Int) : Le (slices_Sort_uint64_uint64_k w0) (slices_Sort_uint64_uint64 w0) := by
  unfold slices_Sort_uint64_uint64_k slices_Sort_uint64_uint64
  repeat' (first | exact slices_pdqsortOrdered_uint64_le _ _ _ _ | refine bndE_le ?_ fun _ => ?_ | exact Le.refl _)
noncomputable def slices_Sort_uint64_uint64_v2_k (xs : List Int) : Option (List Int) := bagC slices_Sort_uint64_uint64_k xs
theorem slices_Sort_uint64_uint64_v2_le (xs : List Int) : Le (slices_Sort_uint64_uint64_v2_k xs) (slices_Sort_uint64_uint64_v2 xs) := by
  unfold slices_Sort_uint64_uint64_v2_k slices_Sort_uint64_uint64_v2
  repeat' (first | exact slices_Sort_uint64_uint64_le _ | refine bag_le fun _ => ?_ | exact Le.refl _)
noncomputable def joint_Sets_l2_s_k (s1 : List TSlot) (s6 : Int) (s15 : Int) (s16 : Int) (s30 : Int) (w2 : TQea) (w5 : List (Int × Bool)) (s31 : Int) (w7 : List (Int × Bool)) : Option ((Int × (List (Int × Bool))) ⊕ ((List (Int × Bool)))) :=
  iteE (decide (s31 < s30)) (
   bndE (joint_narrow_k (Tjoint_place.mk w2 s1 s6 s31) w7) fun r3 =>
   some (.inl ((intVal .add .i64 s31 1), r3))) (
   some (.inr w7))
theorem joint_Sets_l2_s_le (s1 : List TSlot) (s6 : Int) (s15 : Int) (s16 : Int) (s30 : Int) (w2 : TQea) (w5 : List (Int × Bool)) (s31 : Int) (w7 : List (Int × Bool)) : Le (joint_Sets_l2_s_k s1 s6 s15 s16 s30 w2 w5 s31 w7) (joint_Sets_l2_s s1 s6 s15 s16 s30 w2 w5 s31 w7) := by
  unfold joint_Sets_l2_s_k joint_Sets_l2_s
  repeat' (first | exact joint_narrow_le _ _ | refine bndE_le ?_ fun _ => ?_ | refine iteE_le ?_ ?_ | exact Le.refl _)
noncomputable def joint_Sets_l2_k (s1 : List TSlot) (s6 : Int) (s15 : Int) (s16 : Int) (s30 : Int) (w2 : TQea) (w5 : List (Int × Bool)) (s31 : Int) (w7 : List (Int × Bool)) : Option ((List (Int × Bool))) := itE (fun s : Int × (List (Int × Bool)) => joint_Sets_l2_s_k s1 s6 s15 s16 s30 w2 w5 s.1 s.2) 70 (s31, w7)
theorem joint_Sets_l2_le (s1 : List TSlot) (s6 : Int) (s15 : Int) (s16 : Int) (s30 : Int) (w2 : TQea) (w5 : List (Int × Bool)) (s31 : Int) (w7 : List (Int × Bool)) : Le (joint_Sets_l2_k s1 s6 s15 s16 s30 w2 w5 s31 w7) (joint_Sets_l2 s1 s6 s15 s16 s30 w2 w5 s31 w7) := by
  unfold joint_Sets_l2_k joint_Sets_l2
  repeat' (first | exact joint_Sets_l2_s_le _ _ _ _ _ _ _ _ _ | refine loop_le (fun _ => ?_) _ _ | exact Le.refl _)
noncomputable def joint_Sets_m4_k (s1 : List TSlot) (s15 : Int) (s16 : Int) (w2 : TQea) (w7 : List (Int × Bool)) (w5 : List (Int × Bool)) : Option ((List (Int × Bool))) := exactC (joint_Sets_m4_c s1 s15 s16 w2 w7) w7 (fun (x : Int × Bool) (s : (List (Int × Bool))) => joint_Sets_m4_s s1 s15 s16 w2 w7 x.1 x.2 s) w5
theorem joint_Sets_m4_le (s1 : List TSlot) (s15 : Int) (s16 : Int) (w2 : TQea) (w7 : List (Int × Bool)) (w5 : List (Int × Bool)) : Le (joint_Sets_m4_k s1 s15 s16 w2 w7 w5) (joint_Sets_m4 s1 s15 s16 w2 w7 w5) := by
  unfold joint_Sets_m4_k joint_Sets_m4
  repeat' (first | refine exact_le fun _ _ => ?_ | exact Le.refl _)
noncomputable def joint_Sets_b3_k (s1 : List TSlot) (s15 : Int) (s16 : Int) (w2 : TQea) (w5 : List (Int × Bool)) (w7 : List (Int × Bool)) : Option ((List (Int × Bool))) :=
  bndE (joint_Sets_m4_k s1 s15 s16 w2 w7 w5) fun o5 =>
  some o5
theorem joint_Sets_b3_le (s1 : List TSlot) (s15 : Int) (s16 : Int) (w2 : TQea) (w5 : List (Int × Bool)) (w7 : List (Int × Bool)) : Le (joint_Sets_b3_k s1 s15 s16 w2 w5 w7) (joint_Sets_b3 s1 s15 s16 w2 w5 w7) := by
  unfold joint_Sets_b3_k joint_Sets_b3
  repeat' (first | exact joint_Sets_m4_le _ _ _ _ _ _ | refine bndE_le ?_ fun _ => ?_ | exact Le.refl _)
noncomputable def joint_Sets_l1_s_k (s1 : List TSlot) (s15 : Int) (w2 : TQea) (s16 : Int) (w5 : List (Int × Bool)) : Option ((Int × (List (Int × Bool))) ⊕ ((List (Int × Bool)))) :=
  iteE (decide (s16 < s15)) (
   bndE (joint_own_k w2 s16) fun r1 =>
   idxE w2.decls s16 fun x2 =>
   bndE (joint_Sets_l2_k s1 s16 s15 s16 (x2.types.length : Int) w2 w5 0 (putS r1 true ([] : List (Int × Bool)))) fun o4 =>
   bndE (joint_Sets_b3_k s1 s15 s16 w2 w5 o4) fun o6 =>
   some (.inl ((intVal .add .i64 s16 1), o6))) (
   some (.inr w5))
theorem joint_Sets_l1_s_le (s1 : List TSlot) (s15 : Int) (w2 : TQea) (s16 : Int) (w5 : List (Int × Bool)) : Le (joint_Sets_l1_s_k s1 s15 w2 s16 w5) (joint_Sets_l1_s s1 s15 w2 s16 w5) := by
  unfold joint_Sets_l1_s_k joint_Sets_l1_s
  repeat' (first | exact joint_own_le _ _ | exact joint_Sets_l2_le _ _ _ _ _ _ _ _ _ | exact joint_Sets_b3_le _ _ _ _ _ _ | refine bndE_le ?_ fun _ => ?_ | refine iteE_le ?_ ?_ | refine idxE_le fun _ => ?_ | exact Le.refl _)
noncomputable def joint_Sets_l1_k (s1 : List TSlot) (s15 : Int) (w2 : TQea) (s16 : Int) (w5 : List (Int × Bool)) : Option ((List (Int × Bool))) := itE (fun s : Int × (List (Int × Bool)) => joint_Sets_l1_s_k s1 s15 w2 s.1 s.2) 70 (s16, w5)
theorem joint_Sets_l1_le (s1 : List TSlot) (s15 : Int) (w2 : TQea) (s16 : Int) (w5 : List (Int × Bool)) : Le (joint_Sets_l1_k s1 s15 w2 s16 w5) (joint_Sets_l1 s1 s15 w2 s16 w5) := by
  unfold joint_Sets_l1_k joint_Sets_l1
  repeat' (first | exact joint_Sets_l1_s_le _ _ _ _ _ | refine loop_le (fun _ => ?_) _ _ | exact Le.refl _)
noncomputable def joint_Sets_m6_k (w5 : List (Int × Bool)) (w10 : List Int) : Option (List Int) := exactC (joint_Sets_m6_c w5) w5 (fun (x : Int × Bool) (s : List Int) => joint_Sets_m6_s w5 x.1 x.2 s) w10
theorem joint_Sets_m6_le (w5 : List (Int × Bool)) (w10 : List Int) : Le (joint_Sets_m6_k w5 w10) (joint_Sets_m6 w5 w10) := by
  unfold joint_Sets_m6_k joint_Sets_m6
  repeat' (first | refine exact_le fun _ _ => ?_ | exact Le.refl _)
noncomputable def joint_Sets_b5_k (w5 : List (Int × Bool)) : Option ((List Int)) :=
  bndE (joint_Sets_m6_k w5 ([] : List Int)) fun o8 =>
  some o8
theorem joint_Sets_b5_le (w5 : List (Int × Bool)) : Le (joint_Sets_b5_k w5) (joint_Sets_b5 w5) := by
  unfold joint_Sets_b5_k joint_Sets_b5
  repeat' (first | exact joint_Sets_m6_le _ _ | refine bndE_le ?_ fun _ => ?_ | exact Le.refl _)
noncomputable def joint_Sets_k (a0 : TQea) (a1 : List TSlot) : Option (List Int) :=
  bndE (joint_Sets_l1_k a1 (a0.decls.length : Int) a0 0 ([] : List (Int × Bool))) fun o7 =>
  bndE (joint_Sets_b5_k (delS 0 o7)) fun o9 =>
  bndE (slices_Sort_uint64_uint64_v2_k o9) fun r10 =>
  some r10
theorem joint_Sets_le (a0 : TQea) (a1 : List TSlot) : Le (joint_Sets_k a0 a1) (joint_Sets a0 a1) := by
  unfold joint_Sets_k joint_Sets
  repeat' (first | exact joint_Sets_l1_le _ _ _ _ _ | exact joint_Sets_b5_le _ | exact slices_Sort_uint64_uint64_v2_le _ | refine bndE_le ?_ fun _ => ?_ | exact Le.refl _)
noncomputable def slices_IndexFunc_Trans_Trans_l1_k (s0 : List TTrans) (s7 : Int) (s8 : Int) : Option (Unit ⊕ Int) := itE (fun s : Int => slices_IndexFunc_Trans_Trans_l1_s s0 s7 s) 70 s8
theorem slices_IndexFunc_Trans_Trans_l1_le (s0 : List TTrans) (s7 : Int) (s8 : Int) : Le (slices_IndexFunc_Trans_Trans_l1_k s0 s7 s8) (slices_IndexFunc_Trans_Trans_l1 s0 s7 s8) := by
  unfold slices_IndexFunc_Trans_Trans_l1_k slices_IndexFunc_Trans_Trans_l1
  repeat' (first | refine loop_le (fun _ => ?_) _ _ | exact Le.refl _)
noncomputable def slices_IndexFunc_Trans_Trans_k (a0 : List TTrans) : Option (Int) :=
  bndE (slices_IndexFunc_Trans_Trans_l1_k a0 (a0.length : Int) 0) fun o3 =>
  sumE o3 (fun o4 =>
   some (-1)) (fun o5 =>
   some o5)
theorem slices_IndexFunc_Trans_Trans_le (a0 : List TTrans) : Le (slices_IndexFunc_Trans_Trans_k a0) (slices_IndexFunc_Trans_Trans a0) := by
  unfold slices_IndexFunc_Trans_Trans_k slices_IndexFunc_Trans_Trans
  repeat' (first | exact slices_IndexFunc_Trans_Trans_l1_le _ _ _ | refine bndE_le ?_ fun _ => ?_ | refine sumE_le (fun _ => ?_) fun _ => ?_ | exact Le.refl _)
noncomputable def slices_ContainsFunc_Trans_Trans_k (a0 : List TTrans) : Option (Bool) :=
  bndE (slices_IndexFunc_Trans_Trans_k a0) fun r1 =>
  some (decide (0 ≤ r1))
theorem slices_ContainsFunc_Trans_Trans_le (a0 : List TTrans) : Le (slices_ContainsFunc_Trans_Trans_k a0) (slices_ContainsFunc_Trans_Trans a0) := by
  unfold slices_ContainsFunc_Trans_Trans_k slices_ContainsFunc_Trans_Trans
  repeat' (first | exact slices_IndexFunc_Trans_Trans_le _ | refine bndE_le ?_ fun _ => ?_ | exact Le.refl _)
noncomputable def core_Plain_k (a0 : TQea) : Option (Bool) :=
  iteE (decide ((a0.frees.length : Int) = 0)) (
   bndE (slices_ContainsFunc_Trans_Trans_k a0.trans) fun r1 =>
   some (!r1)) (
   some false)
theorem core_Plain_le (a0 : TQea) : Le (core_Plain_k a0) (core_Plain a0) := by
  unfold core_Plain_k core_Plain
  repeat' (first | exact slices_ContainsFunc_Trans_Trans_le _ | refine bndE_le ?_ fun _ => ?_ | refine iteE_le ?_ ?_ | exact Le.refl _)
noncomputable def joint_Small_k (a0 : TQea) : Option (Bool) :=
  bndE (core_Plain_k a0) fun r1 =>
  iteE (r1) (
   iteE (decide ((a0.quants.length : Int) ≤ 1)) (
    iteE (decide ((a0.states.length : Int) ≤ 8)) (
     some (decide ((a0.symbols.length : Int) ≤ 8))) (
     some false)) (
    some false)) (
   some false)
theorem joint_Small_le (a0 : TQea) : Le (joint_Small_k a0) (joint_Small a0) := by
  unfold joint_Small_k joint_Small
  repeat' (first | exact core_Plain_le _ | refine bndE_le ?_ fun _ => ?_ | refine iteE_le ?_ ?_ | exact Le.refl _)
noncomputable def law22_awake_k : Option (Bool) :=
  bndE (law22_number 3) fun r1 =>
  bndE (law22_number 3) fun r2 =>
  bndE (joint_Sets_k (TQea.mk ([113] : List UInt8) ([TDecl.mk ([97] : List UInt8) [1]]) ([TQuant.mk false ([120] : List UInt8) 1]) ([] : List TFree) ([TState.mk ([115] : List UInt8) false false]) 0 ([TSymbol.mk 0 ([TArg.mk 2 0 (TValue.mk 0 0 ([] : List UInt8) false)]), TSymbol.mk 0 [TArg.mk 1 0 r1]]) ([] : List TNode) ([] : List TTrans)) [TSlot.mk 0 r2]) fun r3 =>
  bndE (law22_number 4) fun r4 =>
  bndE (joint_Sets_k (TQea.mk ([113] : List UInt8) ([TDecl.mk ([97] : List UInt8) [1]]) ([TQuant.mk false ([120] : List UInt8) 1]) ([] : List TFree) ([TState.mk ([115] : List UInt8) false false]) 0 ([TSymbol.mk 0 ([TArg.mk 2 0 (TValue.mk 0 0 ([] : List UInt8) false)]), TSymbol.mk 0 [TArg.mk 1 0 r1]]) ([] : List TNode) ([] : List TTrans)) [TSlot.mk 0 r4]) fun r5 =>
  bndE (joint_Small_k (TQea.mk ([113] : List UInt8) ([TDecl.mk ([97] : List UInt8) [1]]) ([TQuant.mk false ([120] : List UInt8) 1]) ([] : List TFree) ([TState.mk ([115] : List UInt8) false false]) 0 ([TSymbol.mk 0 ([TArg.mk 2 0 (TValue.mk 0 0 ([] : List UInt8) false)]), TSymbol.mk 0 [TArg.mk 1 0 r1]]) ([] : List TNode) ([] : List TTrans))) fun r6 =>
  iteE (r6) (
   iteE (decide ((r3.length : Int) = 1)) (
    idxE r3 0 fun x7 =>
    iteE (decide (x7 = 3)) (
     iteE (decide ((r5.length : Int) = 2)) (
      idxE r5 0 fun x8 =>
      iteE (decide (x8 = 1)) (
       idxE r5 1 fun x9 =>
       some (decide (x9 = 2))) (
       some false)) (
      some false)) (
     some false)) (
    some false)) (
   some false)
theorem law22_awake_le  : Le (law22_awake_k ) (law22_awake ) := by
  unfold law22_awake_k law22_awake
  repeat' (first | exact joint_Sets_le _ _ | exact joint_Small_le _ | refine bndE_le ?_ fun _ => ?_ | refine iteE_le ?_ ?_ | refine idxE_le fun _ => ?_ | exact Le.refl _)
theorem law22_awake_eq : law22_awake = some true := law22_awake_le _ (by kernel_rfl)
theorem own_loop (k : Int) (l : List TValue) (q : TQea) (hl : l.length ≤ 20) : ∃ o, law22_JointSmall_l1 k l q [] 0 = some o ∧ (o = .inr true ∨ ∃ w, o = .inl w ∧ SW w ∧ w.length ≤ 20 ∧ ∀ v, v.kind = k → (v ∈ w ↔ v ∈ l)) := by
  obtain ⟨o, ho, hQ⟩ := loopE_ex (step := fun s : List TValue × Int => law22_JointSmall_l1_s k l q s.1 s.2) (fun s => ∃ i : Nat, s.2 = (i : Int) ∧ i ≤ l.length ∧ SW s.1 ∧ s.1.length ≤ i ∧ ∀ v, v.kind = k → (v ∈ s.1 ↔ v ∈ l.take i)) (fun s => (l.length - s.2).toNat)
    (fun o => o = .inr true ∨ ∃ w, o = .inl w ∧ SW w ∧ w.length ≤ 20 ∧ ∀ v, v.kind = k → (v ∈ w ↔ v ∈ l))
    (by
      rintro ⟨w, s⟩ ⟨i, rfl, hi, hw, hwl, hm⟩
      simp only at hw hwl hm ⊢
      by_cases he : i = l.length
      · subst he
        exact .inl ⟨.inl w, by simp only [law22_JointSmall_l1_s, ltI, iteE_f], .inr ⟨w, rfl, hw, by omega, fun v hv => by rw [hm v hv, List.take_length]⟩⟩
      · obtain ⟨x, hx, _⟩ := get_lt (l := l) (i := i) (by omega)
        have htake : l.take (i + 1) = l.take i ++ [x] := by rw [List.take_add_one, hx]; rfl
        simp only [law22_JointSmall_l1_s, ltD hx, iteE_t, law22_JointSmall_b4, idxE_n hx, law22_awake_eq, bndE_s, iteP]
        by_cases h1 : (100 : Int) < (x.str.length : Int)
        · rw [if_pos h1]
          exact .inl ⟨.inr true, by simp only [bndE_s, sumE_r], .inl rfl⟩
        · rw [if_neg h1, ref03_Right_eq, bndE_s]
          cases hv : vR x with
          | false => exact .inl ⟨.inr true, by simp only [Bool.not_false, iteE_t, bndE_s, sumE_r], .inl rfl⟩
          | true =>
            right
            simp only [Bool.not_true, iteE_f, law22_JointSmall_b5, idxE_n hx, succW hx (show l.length ≤ 9223372036854775807 by omega)]
            by_cases hk : x.kind = k
            · have hp := SW_put hw hv
              refine ⟨(putW w x, ((i + 1 : Nat) : Int)), by rw [iteP, if_pos hk, ref20_Put_eq hw hv (by omega)]; rfl, ⟨i + 1, rfl, by omega, hp.1, ?_, fun v hvk => ?_⟩, by simp only; omega⟩
              · simp only; rw [hp.2]; split <;> omega
              · simp only [mem_putW, htake, List.mem_append, List.mem_singleton, hm v hvk]
                constructor
                · rintro (h | h)
                  · exact .inr h
                  · exact .inl h
                · rintro (h | h)
                  · exact .inr h
                  · exact .inl h
            · refine ⟨(w, ((i + 1 : Nat) : Int)), by rw [iteP, if_neg hk]; rfl, ⟨i + 1, rfl, by omega, hw, by simp only; omega, fun v hvk => ?_⟩, by simp only; omega⟩
              simp only [htake, List.mem_append, List.mem_singleton, hm v hvk]
              exact ⟨.inl, fun h => h.elim id fun e => absurd (e ▸ hvk) hk⟩)
    ([], (0 : Int)) ⟨0, rfl, by omega, ⟨List.Pairwise.nil, by simp⟩, by simp, by simp⟩
  exact ⟨o, ho, hQ⟩
theorem law22_JointSmall_eq (q : TQea) (k : Int) (l : List TValue) (hW : ∀ t ∈ q.trans, TransW t) (hl : l.length ≤ 9223372036854775807) : law22_JointSmall q k l = some true := by
  obtain ⟨n, hn, hF⟩ := ref13_Few_ex q
  unfold law22_JointSmall
  rw [hn, bndE_s, law22_awake_eq, iteP]
  split
  · rfl
  rename_i h0
  have hF := hF h0
  rw [iteP]
  split
  · rfl
  rename_i h20
  obtain ⟨r, hr, hR⟩ := ref13_Right_ex q hF hW
  rw [hr, bndE_s]
  cases r with
  | false => rfl
  | true =>
    have hR := hR rfl
    simp only [Bool.not_true, iteE_f]
    obtain ⟨o, ho, hQ⟩ := own_loop k l q (by omega)
    rw [ho, bndE_s]
    rcases hQ with rfl | ⟨w, rfl, hw, hwl, hm⟩
    · rfl
    · obtain ⟨b, hb1, hb2⟩ := Small_eq hF hR
      have hc := cons_inv hF hR k
      rw [sumE_l, hb1, bndE_s, hb2, bndE_s, joint_Consts_v2_eq hF hR, bndE_s, ref22_Consts_eq hF hR, bndE_s, ref20_Same_refl (by omega), bndE_s]
      simp only [beq_self_eq_true, Bool.not_true, iteE_f]
      by_cases hk : k = 1 ∨ k = 2
      · obtain ⟨v, hv1, hv2⟩ := New_both hk (l := l) (w := w) (by omega) hw (by omega) hm
        rw [hv1, bndE_s]
        rcases hk with rfl | rfl
        · simp only [decide_true, Bool.not_true, iteE_f, iteE_t, hv2, bndE_s, TValue.eqb_dec]
        · simp only [show ¬ (2 : Int) = 1 by decide, decide_false, decide_true, Bool.not_false, Bool.not_true, iteE_f, iteE_t, hv2, bndE_s, TValue.eqb_dec]
      · have h1 : ¬ k = 1 := fun h => hk (.inl h)
        have h2 : ¬ k = 2 := fun h => hk (.inr h)
        have hN : joint_New k l = some (TValue.mk 0 0 [] false, false) := by
          unfold joint_New
          rw [decide_eq_false h1, decide_eq_false h2]; rfl
        rw [hN, bndE_s, decide_eq_false h1, decide_eq_false h2]
        simp only [Bool.not_false, iteE_t, TValue.eqb_dec, decide_true, bndE_s]
end Go.Ac
