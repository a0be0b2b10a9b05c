/-
  Part of a proof: the plain law, lists and numbers alone.
-/
import Derived.Test.YtlimmomloedalaaSh27
import Derived.Test.YtlimmomloedalaaPL
set_option linter.unusedVariables false
set_option linter.unusedSimpArgs false
namespace Go.Ac
theorem TSlot.eqb_dec (a b : TSlot) : TSlot.eqb a b = decide (a = b) := by rw [Bool.eq_iff_iff, TSlot.eqb_iff]; simp
theorem TValue.eqb_dec (a b : TValue) : TValue.eqb a b = decide (a = b) := by rw [Bool.eq_iff_iff, TValue.eqb_iff]; simp
theorem ref05_Same_eq (a b : List TSlot) (ha : a.length ≤ 9223372036854775807) : ref05_Same a b = some (decide (a = b)) := by
  unfold ref05_Same
  rw [iteE_if, len_dec]
  by_cases hl : a.length = b.length
  · rw [if_neg (by simp [hl])]
    unfold ref05_Same_l1
    rw [loop_same a b (.inl ()) (.inr ()) hl
      (fun i x y hx hy => by simp only [ref05_Same_l1_s, ltD hx, iteE_t, idxE_n hx, idxE_n hy, succW hx ha, TSlot.eqb_dec]; by_cases h : x = y <;> simp [h, iteE])
      (by simp only [ref05_Same_l1_s, ltI, iteE_f])]
    by_cases h : a = b <;> simp [h, bndE, sumE]
  · rw [if_pos (by simp [hl])]
    have : a ≠ b := fun h => hl (by rw [h])
    simp [this]
theorem slices_Equal_Slot_Slot_eq (a b : List TSlot) (ha : a.length ≤ 9223372036854775807) : slices_Equal_Slot_Slot a b = some (decide (a = b)) := by
  unfold slices_Equal_Slot_Slot
  rw [iteE_if, len_dec]
  by_cases hl : a.length = b.length
  · rw [if_neg (by simp [hl])]
    unfold slices_Equal_Slot_Slot_l1
    rw [loop_same a b (.inl ()) (.inr ()) hl
      (fun i x y hx hy => by simp only [slices_Equal_Slot_Slot_l1_s, ltD hx, iteE_t, idxE_n hx, idxE_n hy, succW hx ha, TSlot.eqb_dec]; by_cases h : x = y <;> simp [h, iteE])
      (by simp only [slices_Equal_Slot_Slot_l1_s, ltI, iteE_f])]
    by_cases h : a = b <;> simp [h, bndE, sumE]
  · rw [if_pos (by simp [hl])]
    have : a ≠ b := fun h => hl (by rw [h])
    simp [this]
theorem binding_Same_eq (a b : List TSlot) (ha : a.length ≤ 9223372036854775807) : binding_Same a b = some (decide (a = b)) := by
  unfold binding_Same; rw [slices_Equal_Slot_Slot_eq a b ha]; rfl
theorem slices_Equal_Value_Value_eq (a b : List TValue) (ha : a.length ≤ 9223372036854775807) : slices_Equal_Value_Value a b = some (decide (a = b)) := by
  unfold slices_Equal_Value_Value
  rw [iteE_if, len_dec]
  by_cases hl : a.length = b.length
  · rw [if_neg (by simp [hl])]
    unfold slices_Equal_Value_Value_l1
    rw [loop_same a b (.inl ()) (.inr ()) hl
      (fun i x y hx hy => by simp only [slices_Equal_Value_Value_l1_s, ltD hx, iteE_t, idxE_n hx, idxE_n hy, succW hx ha, TValue.eqb_dec]; by_cases h : x = y <;> simp [h, iteE])
      (by simp only [slices_Equal_Value_Value_l1_s, ltI, iteE_f])]
    by_cases h : a = b <;> simp [h, bndE, sumE]
  · rw [if_pos (by simp [hl])]
    have : a ≠ b := fun h => hl (by rw [h])
    simp [this]
theorem config_one_eq (a b : TConfig) (ha : a.vals.length ≤ 9223372036854775807) : config_one a b = some (decide (a = b)) := by
  unfold config_one
  rw [slices_Equal_Value_Value_eq _ _ ha, iteP]
  obtain ⟨s, v⟩ := a; obtain ⟨s', v'⟩ := b
  by_cases h : s = s' <;> by_cases h' : v = v' <;> simp [h, h', bndE]
/-- of a set: its parts are small -/
def SetOk (l : List TConfig) : Prop := l.length ≤ 1000 ∧ ∀ c ∈ l, c.vals = []
theorem SetOk.len {l : List TConfig} (h : SetOk l) : l.length ≤ 9223372036854775807 := Nat.le_trans h.1 (by decide)
theorem config_Same_eq {a b : List TConfig} (ha : SetOk a) : config_Same a b = some (decide (a = b)) := by
  unfold config_Same slices_EqualFunc_Config_Config_Config_Config
  rw [iteE_if, len_dec]
  by_cases hl : a.length = b.length
  · rw [if_neg (by simp [hl])]
    unfold slices_EqualFunc_Config_Config_Config_Config_l1
    rw [loop_same a b (.inl ()) (.inr ()) hl
      (fun i x y hx hy => by
        have hv : x.vals.length ≤ 9223372036854775807 := by rw [ha.2 x (List.mem_of_getElem? hx)]; simp
        simp only [slices_EqualFunc_Config_Config_Config_Config_l1_s, ltD hx, iteE_t, idxE_n hx, idxE_n hy, succW hx ha.len, config_one_eq x y hv, bndE_s]
        by_cases h : x = y <;> simp [h, iteE])
      (by simp only [slices_EqualFunc_Config_Config_Config_Config_l1_s, ltI, iteE_f])]
    by_cases h : a = b <;> simp [h, bndE, sumE]
  · rw [if_pos (by simp [hl])]
    have : a ≠ b := fun h => hl (by rw [h])
    simp [this, bndE]
theorem ref18_One_eq {a b : TConfig} (ha : a.vals = []) (hb : b.vals = []) : ref18_One a b = some (decide (a = b)) := by
  have key : ∀ a b : TConfig, a.vals = [] → b.vals = [] → ref18_Less a b = some (decide (a.state < b.state)) := by
    intro a b ha hb
    unfold ref18_Less
    rw [iteE_if]
    by_cases h : a.state = b.state
    · rw [if_neg (by simp [h])]
      unfold ref18_Less_l1
      rw [loopE_eq]
      simp [ref18_Less_l1_s, ha, hb, iteE, nextE, bndE, sumE, h]
    · rw [if_pos (by simp [h])]
  unfold ref18_One
  rw [key a b ha hb, key b a hb ha]
  obtain ⟨s, v⟩ := a; obtain ⟨s', v'⟩ := b
  simp only at ha hb
  subst ha; subst hb
  simp only [bndE_s, iteE_if]
  rcases Int.lt_trichotomy s s' with h | h | h
  · simp [h]; omega
  · simp [h]
  · have : ¬ s < s' := by omega
    simp [h, this]; omega
theorem ref18_Same_eq {a b : List TConfig} (ha : SetOk a) (hb : SetOk b) : ref18_Same a b = some (decide (a = b)) := by
  unfold ref18_Same
  rw [iteE_if, len_dec]
  by_cases hl : a.length = b.length
  · rw [if_neg (by simp [hl])]
    unfold ref18_Same_l1
    rw [loop_same a b (.inl ()) (.inr ()) hl
      (fun i x y hx hy => by
        simp only [ref18_Same_l1_s, ltD hx, iteE_t, idxE_n hx, idxE_n hy, succW hx ha.len, ref18_One_eq (ha.2 x (List.mem_of_getElem? hx)) (hb.2 y (List.mem_of_getElem? hy)), bndE_s]
        by_cases h : x = y <;> simp [h, iteE])
      (by simp only [ref18_Same_l1_s, ltI, iteE_f])]
    by_cases h : a = b <;> simp [h, bndE, sumE]
  · rw [if_pos (by simp [hl])]
    have : a ≠ b := fun h => hl (by rw [h])
    simp [this]

/-! what a binding has -/
def zV : TValue := ⟨0, 0, [], false⟩
def getS (l : List TSlot) (v : Int) : TValue × Bool := match l.findSome? (fun s => if s.var = v then some s.value else none) with
  | some x => (x, true)
  | none => (zV, false)
theorem getS_of (l : List TSlot) (v : Int) (o : Unit ⊕ TValue) (h : o = (l.findSome? (fun s => if s.var = v then some (Sum.inr s.value : Unit ⊕ TValue) else none)).getD (.inl ())) :
    sumE o (fun _ => some (TValue.mk 0 0 ([] : List UInt8) false, false)) (fun o4 => some (o4, true)) = some (getS l v) := by
  subst h
  have e : l.findSome? (fun s => if s.var = v then some (Sum.inr s.value : Unit ⊕ TValue) else none) = (l.findSome? (fun s => if s.var = v then some s.value else none)).map Sum.inr := by
    induction l with
    | nil => rfl
    | cons s l ih => rw [List.findSome?_cons, List.findSome?_cons]; by_cases h : s.var = v <;> simp [h, ih]
  rw [e]
  unfold getS
  cases l.findSome? (fun s => if s.var = v then some s.value else none) <;> rfl
theorem ref05_Get_eq (l : List TSlot) (v : Int) (hl : l.length ≤ 9223372036854775807) : ref05_Get l v = some (getS l v) := by
  unfold ref05_Get ref05_Get_l1
  rw [loop_find l (fun _ s => if s.var = v then some (Sum.inr s.value : Unit ⊕ TValue) else none) (.inl ())
    (fun i x hx => by simp only [ref05_Get_l1_s, ltD hx, iteE_t, idxE_n hx, succW hx hl, iteP]; by_cases h : x.var = v <;> simp [h])
    (by simp only [ref05_Get_l1_s, ltI, iteE_f]), runL_findSome, bndE_s]
  exact getS_of l v _ rfl
theorem binding_Get_eq (l : List TSlot) (v : Int) (hl : l.length ≤ 9223372036854775807) : binding_Get l v = some (getS l v) := by
  unfold binding_Get binding_Get_l1
  rw [loop_find l (fun _ s => if s.var = v then some (Sum.inr s.value : Unit ⊕ TValue) else none) (.inl ())
    (fun i x hx => by simp only [binding_Get_l1_s, ltD hx, iteE_t, idxE_n hx, succW hx hl, iteP]; by_cases h : x.var = v <;> simp [h])
    (by simp only [binding_Get_l1_s, ltI, iteE_f]), runL_findSome, bndE_s]
  exact getS_of l v _ rfl
def underS (a b : List TSlot) : Bool := a.all fun s => decide (getS b s.var = (s.value, true))
theorem ref05_Under_eq (a b : List TSlot) (ha : a.length ≤ 9223372036854775807) (hb : b.length ≤ 9223372036854775807) : ref05_Under a b = some (underS a b) := by
  unfold ref05_Under ref05_Under_l1
  rw [loop_all0 a (fun s => decide (getS b s.var = (s.value, true))) (.inl ()) (.inr ())
    (fun i x hx => by
      simp only [ref05_Under_l1_s, ltD hx, iteE_t, idxE_n hx, succW hx ha, ref05_Get_eq b _ hb, bndE_s, TValue.eqb_dec]
      obtain ⟨y, o⟩ := getS b x.var
      cases o
      · simp [iteE]
      · by_cases h : y = x.value <;> simp [iteE, h])
    (by simp only [ref05_Under_l1_s, ltI, iteE_f]), bndE_s]
  unfold underS
  cases a.all _ <;> rfl
theorem binding_Under_eq (a b : List TSlot) (ha : a.length ≤ 9223372036854775807) (hb : b.length ≤ 9223372036854775807) : binding_Under a b = some (underS a b) := by
  unfold binding_Under binding_both
  simp only [bndE_s]
  unfold binding_both_1 binding_both_1_l1
  have h := loop_list (step := fun s : (Bool ⊕ Bool) × Int => binding_both_1_l1_s (stepOf (binding_Under_r1_rd a b)) b a (a.length : Int) s.1 s.2) a (fun i w => (w, (i : Int)))
    (fun _ (w : Bool ⊕ Bool) x => if getS b x.var = (x.value, true) then .inl w else .inr (.inr (.inr false))) (fun w => .inl w) (fun _ w => w = .inl false) (fun i x w hx hI => by
      subst hI
      refine ⟨?_, fun w' hw => ?_⟩
      · simp only [binding_both_1_l1_s, ltD hx, iteE_t, binding_both_1_b2, idxE_n hx, binding_Get_eq b _ hb, bndE_s, succW hx ha]
        obtain ⟨y, o⟩ := getS b x.var
        cases o
        · simp [iteE, yldE, stepOf, binding_Under_r1_rd, sumE, bndE, binding_Under_b4, binding_Under_b7]
        · by_cases h : y = x.value <;> simp [iteE, yldE, stepOf, binding_Under_r1_rd, sumE, bndE, binding_Under_b2, binding_Under_b6, TValue.eqb_dec, h]
      · split at hw
        · cases hw; rfl
        · cases hw)
    (fun w _ => by simp only [binding_both_1_l1_s, ltI, iteE_f]) (a.length + 1) 0 (.inl false) (by omega) (by omega) rfl
  rw [show ((.inl false : Bool ⊕ Bool), (0 : Int)) = (.inl false, ((0 : Nat) : Int)) from rfl, h, List.drop_zero, bndE_s]
  unfold underS
  generalize 0 = i
  clear h ha
  revert i
  induction a with
  | nil => intro i; rfl
  | cons x xs ih =>
    intro i
    rw [runL, List.all_cons]
    by_cases h : getS b x.var = (x.value, true)
    · simp only [h, if_true, decide_true, Bool.true_and]; exact ih (i + 1)
    · simp [h, sumE, bndE]
end Go.Ac
