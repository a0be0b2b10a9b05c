/-
  Part of a proof: each function of the seat computes what its Lean function says (printed by a program).
-/
import Derived.Test.YtgmjbigfneeekaaSh20b
import Derived.Test.YtgmjbigfneeekaaProg
set_option linter.unusedVariables false
set_option linter.unusedSimpArgs false
set_option linter.unusedVariables false
set_option linter.unusedSimpArgs false
namespace Go.Ac
open Go.Proofs
theorem mixed : Try.prog.follows .mixedOrders = true := by kernel_rfl
theorem law20_one_ok (a0 : Int) (r : TValue) (h : law20_one a0 = some r) : ACall Try.prog 25 [.d ((D.i .i64) a0)] [] (.d (TValue.D r)) [] := by
  unfold law20_one at h
  obtain rfl := Option.some.inj h
  exact runF_call mixed [] [] [] (ti) (by kernel_rfl)
def domain_Many_b3_I (s1 : Bool) (s5 : Int) (s8 : Int) (s9 : List (List TValue)) (s10 : Int) (s11 : Int) (s17 : Bool) : St := ⟨sp 27 0 [(1, .d (D.b s1)), (5, .d ((D.i .i64) s5)), (8, .d ((D.i .i64) s8)), (9, .d ((D.l (D.l TValue.D)) s9)), (10, .d ((D.i .i64) s10)), (11, .d ((D.i .i64) s11)), (17, .d (D.b s17))], [], []⟩
def domain_Many_b3_O (s1 : Bool) (s5 : Int) (s8 : Int) (s9 : List (List TValue)) (s10 : Int) (s11 : Int) (s17 : Bool) (o : Int) : Ex × St := (.normal, ⟨sp 27 0 [(1, .d (D.b s1)), (5, .d ((D.i .i64) s5)), (8, .d ((D.i .i64) o)), (9, .d ((D.l (D.l TValue.D)) s9)), (10, .d ((D.i .i64) s10)), (11, .d ((D.i .i64) s11))], [], []⟩)
theorem domain_Many_b3_ok (rd : Option Nat) (s1 : Bool) (s5 : Int) (s8 : Int) (s9 : List (List TValue)) (s10 : Int) (s11 : Int) (s17 : Bool) (o : Int) (h : domain_Many_b3 s1 s5 s8 s9 s10 s11 s17 = some o) : LpOf Try.prog rd (fbody Try.prog 7) [1, 0, 1, 1, 0, 0, 1, 1, 0, 0, 1, 0, 1, 1] (domain_Many_b3_I s1 s5 s8 s9 s10 s11 s17) (domain_Many_b3_O s1 s5 s8 s9 s10 s11 s17 o).1 (domain_Many_b3_O s1 s5 s8 s9 s10 s11 s17 o).2 := by
  unfold domain_Many_b3 at h
  cases s17 with
  | true =>
   replace h := iteT h
   obtain rfl := Option.some.inj h
   exact (runB_arr mixed [] [] [.live [1, 5, 8, 9, 10, 11], .keep []] (ti) (by kernel_rfl)).lp
  | false =>
   replace h := iteF h
   obtain rfl := Option.some.inj h
   exact (runB_arr mixed [] [] [.live [1, 5, 8, 9, 10, 11], .keep []] (ti) (by kernel_rfl)).lp
def domain_Many_b2_I (s1 : Bool) (s5 : Int) (s9 : List (List TValue)) (s10 : Int) (s11 : Int) : St := ⟨sp 27 0 [(1, .d (D.b s1)), (5, .d ((D.i .i64) s5)), (9, .d ((D.l (D.l TValue.D)) s9)), (10, .d ((D.i .i64) s10)), (11, .d ((D.i .i64) s11))], [], []⟩
def domain_Many_b2_O (s1 : Bool) (s5 : Int) (s9 : List (List TValue)) (s10 : Int) (s11 : Int) (o : Int) : Ex × St := (.normal, ⟨sp 27 0 [(1, .d (D.b s1)), (5, .d ((D.i .i64) o)), (9, .d ((D.l (D.l TValue.D)) s9)), (10, .d ((D.i .i64) s10)), (11, .d ((D.i .i64) s11))], [], []⟩)
theorem domain_Many_b2_ok (rd : Option Nat) (s1 : Bool) (s5 : Int) (s9 : List (List TValue)) (s10 : Int) (s11 : Int) (o : Int) (h : domain_Many_b2 s1 s5 s9 s10 s11 = some o) : LpOf Try.prog rd (fbody Try.prog 7) [0, 1, 1, 0, 0, 1, 0, 1, 1] (domain_Many_b2_I s1 s5 s9 s10 s11) (domain_Many_b2_O s1 s5 s9 s10 s11 o).1 (domain_Many_b2_O s1 s5 s9 s10 s11 o).2 := by
  unfold domain_Many_b2 at h
  obtain ⟨x1, h2, h⟩ := idxE_some h
  obtain ⟨o2, h4, h⟩ := bndE_some h
  obtain rfl := Option.some.inj h
  exact (runB_arr mixed [(13, .el ((D.l TValue.D) x1)), (16, .int (x1.length : Int)), (22, .int (minE o2 1000000)), (24, .int (minE (intVal .mul .i64 s5 (minE o2 1000000)) 1000000))] [⟨[1, 0, 1, 1, 0, 0, 1, 1, 0, 0, 1, 0, 1, 1], [.live [1, 5, 8, 9, 10, 11, 17], .keep []], .normal, (domain_Many_b3_O s1 s5 (x1.length : Int) s9 s10 s11 s1 o2).2⟩] [.live [1, 5, 9, 10, 11], .keep []] (ai (elem_map (D.l TValue.D) h2) (ai (len_map TValue.D x1) (ai (domain_Many_b3_ok rd s1 s5 (x1.length : Int) s9 s10 s11 s1 o2 h4) (ai (rfl : minE o2 1000000 = minE o2 1000000) (ai (rfl : minE (intVal .mul .i64 s5 (minE o2 1000000)) 1000000 = minE (intVal .mul .i64 s5 (minE o2 1000000)) 1000000) (ti)))))) (by kernel_rfl)).lp
def domain_Many_l1_I (s1 : Bool) (s9 : List (List TValue)) (s10 : Int) (s5 : Int) (s11 : Int) : St := ⟨sp 27 0 [(1, .d (D.b s1)), (5, .d ((D.i .i64) s5)), (9, .d ((D.l (D.l TValue.D)) s9)), (10, .d ((D.i .i64) s10)), (11, .d ((D.i .i64) s11))], [], []⟩
def domain_Many_l1_O (s1 : Bool) (s9 : List (List TValue)) (s10 : Int) (o : Int) : Ex × St := (.exit 0, ⟨sp 27 0 [(5, .d ((D.i .i64) o))], [], []⟩)
theorem domain_Many_l1_rnd (rd : Option Nat) (s1 : Bool) (s9 : List (List TValue)) (s10 : Int) (s5 : Int) (s11 : Int) (o : (Int × Int) ⊕ (Int)) (h : domain_Many_l1_s s1 s9 s10 s5 s11 = some o) : Arr Try.prog rd (fbody Try.prog 7) (0 :: [0, 1, 0, 1, 1]) (domain_Many_l1_I s1 s9 s10 s5 s11) (rR (fun s : Int × Int => domain_Many_l1_I s1 s9 s10 s.1 s.2) (domain_Many_l1_O s1 s9 s10) o).1 (rR (fun s : Int × Int => domain_Many_l1_I s1 s9 s10 s.1 s.2) (domain_Many_l1_O s1 s9 s10) o).2 := by
  unfold domain_Many_l1_s at h
  rcases iteE_some h with ⟨h1, h⟩ | ⟨h1, h⟩
  ·
   obtain ⟨o3, h5, h⟩ := bndE_some h
   obtain rfl := Option.some.inj h
   exact runB_arr mixed [(12, .bit true)] [⟨[0, 1, 1, 0, 0, 1, 0, 1, 1], [.live [1, 5, 9, 10, 11], .keep []], .normal, (domain_Many_b2_O s1 s5 s9 s10 s11 o3).2⟩] [.live [1, 5, 9, 10, 11], .keep []] (ai h1 (ai (domain_Many_b2_ok rd s1 s5 s9 s10 s11 o3 h5) (ti))) (by kernel_rfl)
  ·
   obtain rfl := Option.some.inj h
   exact runB_arr mixed [(12, .bit false)] [] [.live [5], .keep []] (ai h1 (ti)) (by kernel_rfl)
theorem domain_Many_l1_ok (rd : Option Nat) (s1 : Bool) (s9 : List (List TValue)) (s10 : Int) (s5 : Int) (s11 : Int) (t : Int) (h : domain_Many_l1 s1 s9 s10 s5 s11 = some t) : LpOf Try.prog rd (fbody Try.prog 7) [0, 1, 0, 1, 1] (domain_Many_l1_I s1 s9 s10 s5 s11) ((domain_Many_l1_O s1 s9 s10) t).1 ((domain_Many_l1_O s1 s9 s10) t).2 :=
  loopE_lpR (fun s : Int × Int => domain_Many_l1_I s1 s9 s10 s.1 s.2) (domain_Many_l1_O s1 s9 s10) (by kernel_rfl) (fun t => isN_ne (by rfl)) (fun s o h => domain_Many_l1_rnd rd s1 s9 s10 s.1 s.2 o h) (s := (s5, s11)) (t := t) h
theorem domain_Many_ok (a0 : List (List TValue)) (a1 : Bool) (r : Int) (h : domain_Many a0 a1 = some r) : ACall Try.prog 7 [.d ((D.l (D.l TValue.D)) a0), .d (D.b a1)] [] (.d ((D.i .i64) r)) [] := by
  unfold domain_Many at h
  obtain ⟨o4, h6, h⟩ := bndE_some h
  obtain rfl := Option.some.inj h
  exact runF_call mixed [(10, .int (a0.length : Int))] [⟨[0, 1, 0, 1, 1], [.live [1, 5, 9, 10, 11], .keep []], .exit 0, (domain_Many_l1_O a1 a0 (a0.length : Int) o4).2⟩] [] (ai (len_map (D.l TValue.D) a0) (ai (domain_Many_l1_ok none a1 a0 (a0.length : Int) 1 0 o4 h6) (ti))) (by kernel_rfl)
theorem domain_bindings_ok (a0 : List (List TValue)) (a1 : Int) (a2 : List TSlot) (a3 : Bool) (r : Int × List (List TValue) × List TSlot × Bool) (h : domain_bindings a0 a1 a2 a3 = some r) : ACall Try.prog 46 [.d ((D.l (D.l TValue.D)) a0), .d ((D.i .i64) a1), .d ((D.l TSlot.D) a2), .d (D.b a3)] [] (.clo (.func 60) [] [.eptr (D.cells ((D.i .i64) r.1)), .eptr (D.cells ((D.l (D.l TValue.D)) r.2.1)), .eptr (D.cells ((D.l TSlot.D) r.2.2.1)), .eptr (D.cells (D.b r.2.2.2))]) [] := by
  unfold domain_bindings at h
  obtain rfl := Option.some.inj h
  exact runF_call mixed [(4, .frz), (5, .frz), (6, .frz), (7, .frz)] [] [] (ti) (by kernel_rfl)
theorem slices_Clone_Slot_Slot_ok (l r : List TSlot) (h : slices_Clone_Slot_Slot l = some r) : ACall Try.prog 61 [.d (D.l TSlot.D l)] [] (.d (D.l TSlot.D r)) [] :=
  cloneE_d (ρ := ⟨fun _ => 61, fun n => if n = 4 then 4 else if n = 22 then 82 else 119, id⟩) (by_ := 48) TSlot.D rfl (cloneL mixed ⟨ "slices.Clone[[]proctor/api.Slot,proctor/api.Slot]", by decide, (Try.func61).trans (by kernel_rfl)⟩ Try.underlying4 Try.underlying82 (by kernel_rfl) (by kernel_rfl) (by kernel_rfl) (by kernel_rfl)) (by kernel_rfl) (by decide) l r h
theorem domain_bindings_v2_ok (a0 : List (List TValue)) (a1 : Int) (a2 : List TSlot) (a3 : Bool) (r : Int × List (List TValue) × List TSlot × Bool) (h : domain_bindings_v2 a0 a1 a2 a3 = some r) : ACall Try.prog 46 [.d ((D.l (D.l TValue.D)) a0), .d ((D.i .i64) a1), .d ((D.l TSlot.D) a2), .d (D.b a3)] [] (.clo (.func 60) [] [.eptr (D.cells ((D.i .i64) r.1)), .eptr (D.cells ((D.l (D.l TValue.D)) r.2.1)), .eptr (D.cells ((D.l TSlot.D) r.2.2.1)), .eptr (D.cells (D.b r.2.2.2))]) [] := by
  unfold domain_bindings_v2 at h
  obtain rfl := Option.some.inj h
  exact runF_call mixed [(4, .frz), (5, .frz), (6, .frz), (7, .frz)] [] [] (ti) (by kernel_rfl)
theorem slices_Clone_Slot_Slot_v2_ok (l r : List TSlot) (h : slices_Clone_Slot_Slot_v2 l = some r) : ACall Try.prog 61 [.d (D.l TSlot.D l)] [] (.row 0) [(0, .rw 119 5 (r.map TSlot.D))] :=
  cloneE_own (ρ := ⟨fun _ => 61, fun n => if n = 4 then 4 else if n = 22 then 82 else 119, id⟩) (by_ := 48) TSlot.D rfl rfl (cloneL mixed ⟨ "slices.Clone[[]proctor/api.Slot,proctor/api.Slot]", by decide, (Try.func61).trans (by kernel_rfl)⟩ Try.underlying4 Try.underlying82 (by kernel_rfl) (by kernel_rfl) (by kernel_rfl) (by kernel_rfl)) (by kernel_rfl) (by decide) l r h
def domain_bindings_1_v2_enc (x : (List TSlot)) : List A := [.d ((D.l TSlot.D) x)]
def domain_bindings_1_v2_b3_I {φ : Type} (l : Nat) (F : φ → Bx) (uz : List Value) (f0 : φ) (s1 : Int) (s2 : List (List TValue)) (s3 : List TSlot) (s4 : Bool) (s25_1 : Int) (s25_2 : List (List TValue)) (s25_3 : List TSlot) (s25_4 : Bool) (s26 : List TSlot) (w998_1 : Int) (w998_2 : List (List TValue)) (w998_3 : List TSlot) (w998_4 : Bool) (w998_5 : Int) (w998_6 : List (List TValue)) (w998_7 : List TSlot) (w998_8 : Bool) : St := ⟨sp 59 0 [(1, .eptr (D.cells ((D.i .i64) s1))), (2, .eptr (D.cells ((D.l (D.l TValue.D)) s2))), (3, .eptr (D.cells ((D.l TSlot.D) s3))), (4, .eptr (D.cells (D.b s4))), (5, .box 5 0), (25, .clo (.func 60) [] [.eptr (D.cells ((D.i .i64) s25_1)), .eptr (D.cells ((D.l (D.l TValue.D)) s25_2)), .eptr (D.cells ((D.l TSlot.D) s25_3)), .eptr (D.cells (D.b s25_4))]), (26, .d ((D.l TSlot.D) s26))], [(5, .cells ([.d (.v (.func (.yield l) #[] #[]))])), (998, .vals (sp 59 0 [(1, .eptr (D.cells ((D.i .i64) w998_1))), (2, .eptr (D.cells ((D.l (D.l TValue.D)) w998_2))), (3, .eptr (D.cells ((D.l TSlot.D) w998_3))), (4, .eptr (D.cells (D.b w998_4))), (5, .box 5 0), (25, .clo (.func 60) [] [.eptr (D.cells ((D.i .i64) w998_5)), .eptr (D.cells ((D.l (D.l TValue.D)) w998_6)), .eptr (D.cells ((D.l TSlot.D) w998_7)), .eptr (D.cells (D.b w998_8))])]) uz)], (F f0)⟩
def domain_bindings_1_v2_b3_O {φ : Type} (l : Nat) (F : φ → Bx) (uz : List Value) (f0 : φ) (s1 : Int) (s2 : List (List TValue)) (s3 : List TSlot) (s4 : Bool) (s25_1 : Int) (s25_2 : List (List TValue)) (s25_3 : List TSlot) (s25_4 : Bool) (s26 : List TSlot) (w998_1 : Int) (w998_2 : List (List TValue)) (w998_3 : List TSlot) (w998_4 : Bool) (w998_5 : Int) (w998_6 : List (List TValue)) (w998_7 : List TSlot) (w998_8 : Bool) (o : Unit) : Ex × St := (.normal, ⟨sp 59 0 [(1, .eptr (D.cells ((D.i .i64) s1))), (2, .eptr (D.cells ((D.l (D.l TValue.D)) s2))), (3, .eptr (D.cells ((D.l TSlot.D) s3))), (4, .eptr (D.cells (D.b s4))), (5, .box 5 0), (6, .d ((D.l TSlot.D) s26)), (25, .clo (.func 60) [] [.eptr (D.cells ((D.i .i64) s25_1)), .eptr (D.cells ((D.l (D.l TValue.D)) s25_2)), .eptr (D.cells ((D.l TSlot.D) s25_3)), .eptr (D.cells (D.b s25_4))])], [(5, .cells ([.d (.v (.func (.yield l) #[] #[]))])), (998, .vals (sp 59 0 [(1, .eptr (D.cells ((D.i .i64) w998_1))), (2, .eptr (D.cells ((D.l (D.l TValue.D)) w998_2))), (3, .eptr (D.cells ((D.l TSlot.D) w998_3))), (4, .eptr (D.cells (D.b w998_4))), (5, .box 5 0), (25, .clo (.func 60) [] [.eptr (D.cells ((D.i .i64) w998_5)), .eptr (D.cells ((D.l (D.l TValue.D)) w998_6)), .eptr (D.cells ((D.l TSlot.D) w998_7)), .eptr (D.cells (D.b w998_8))])]) uz)], (F f0)⟩)
theorem domain_bindings_1_v2_b3_ok (rd : Option Nat) (self : ∀ ψ : Type, (ψ → (List TSlot) → Option (ψ × Bool)) → Int → (List (List TValue)) → (List TSlot) → Bool → ψ → Option ψ) {φ : Type} (step : φ → (List TSlot) → Option (φ × Bool)) (hs : ∀ (ψ : Type) (step : ψ → (List TSlot) → Option (ψ × Bool)) (a1 : Int) (a2 : List (List TValue)) (a3 : List TSlot) (a4 : Bool) (f0 f1 : ψ), self ψ step a1 a2 a3 a4 f0 = some f1 → AIt Try.prog 60 [.eptr (D.cells ((D.i .i64) a1)), .eptr (D.cells ((D.l (D.l TValue.D)) a2)), .eptr (D.cells ((D.l TSlot.D) a3)), .eptr (D.cells (D.b a4))] domain_bindings_1_v2_enc step f0 f1) (l : Nat) (F : φ → Bx) (N : List Nat) (hF : ∀ f, FOk (F f) N) (hY : ∀ f x r, step f x = some r → AYield Try.prog l (domain_bindings_1_v2_enc x) (F f) (.d (D.b r.2)) (F r.1)) (uz : List Value) (f0 : φ) (s1 : Int) (s2 : List (List TValue)) (s3 : List TSlot) (s4 : Bool) (s25_1 : Int) (s25_2 : List (List TValue)) (s25_3 : List TSlot) (s25_4 : Bool) (s26 : List TSlot) (w998_1 : Int) (w998_2 : List (List TValue)) (w998_3 : List TSlot) (w998_4 : Bool) (w998_5 : Int) (w998_6 : List (List TValue)) (w998_7 : List TSlot) (w998_8 : Bool) (o : Unit) (h : domain_bindings_1_v2_b3 self step f0 s1 s2 s3 s4 s25_1 s25_2 s25_3 s25_4 s26 w998_1 w998_2 w998_3 w998_4 w998_5 w998_6 w998_7 w998_8 = some o) : LpOf Try.prog rd (fbody Try.prog 60) [0, 0, 1, 0, 1, 0, 1, 1] (domain_bindings_1_v2_b3_I l F uz f0 s1 s2 s3 s4 s25_1 s25_2 s25_3 s25_4 s26 w998_1 w998_2 w998_3 w998_4 w998_5 w998_6 w998_7 w998_8) (domain_bindings_1_v2_b3_O l F uz f0 s1 s2 s3 s4 s25_1 s25_2 s25_3 s25_4 s26 w998_1 w998_2 w998_3 w998_4 w998_5 w998_6 w998_7 w998_8 o).1 (domain_bindings_1_v2_b3_O l F uz f0 s1 s2 s3 s4 s25_1 s25_2 s25_3 s25_4 s26 w998_1 w998_2 w998_3 w998_4 w998_5 w998_6 w998_7 w998_8 o).2 := by
  unfold domain_bindings_1_v2_b3 at h
  obtain rfl := Option.some.inj h
  exact (runB_arr mixed [] [] [.live [1, 2, 3, 4, 5, 6, 25], .keep [5, 998]] (ti) (by kernel_rfl)).lp
def domain_bindings_1_v2_b5_I {φ : Type} (l : Nat) (F : φ → Bx) (uz : List Value) (f0 : φ) (s1 : Int) (s2 : List (List TValue)) (s3 : List TSlot) (s4 : Bool) (s6 : List TSlot) (s25_1 : Int) (s25_2 : List (List TValue)) (s25_3 : List TSlot) (s25_4 : Bool) (w998_1 : Int) (w998_2 : List (List TValue)) (w998_3 : List TSlot) (w998_4 : Bool) (w998_5 : Int) (w998_6 : List (List TValue)) (w998_7 : List TSlot) (w998_8 : Bool) : St := ⟨sp 59 0 [(1, .eptr (D.cells ((D.i .i64) s1))), (2, .eptr (D.cells ((D.l (D.l TValue.D)) s2))), (3, .eptr (D.cells ((D.l TSlot.D) s3))), (4, .eptr (D.cells (D.b s4))), (5, .box 5 0), (6, .d ((D.l TSlot.D) s6)), (25, .clo (.func 60) [] [.eptr (D.cells ((D.i .i64) s25_1)), .eptr (D.cells ((D.l (D.l TValue.D)) s25_2)), .eptr (D.cells ((D.l TSlot.D) s25_3)), .eptr (D.cells (D.b s25_4))])], [(5, .cells ([.d (.v (.func (.yield l) #[] #[]))])), (998, .vals (sp 59 0 [(1, .eptr (D.cells ((D.i .i64) w998_1))), (2, .eptr (D.cells ((D.l (D.l TValue.D)) w998_2))), (3, .eptr (D.cells ((D.l TSlot.D) w998_3))), (4, .eptr (D.cells (D.b w998_4))), (5, .box 5 0), (25, .clo (.func 60) [] [.eptr (D.cells ((D.i .i64) w998_5)), .eptr (D.cells ((D.l (D.l TValue.D)) w998_6)), .eptr (D.cells ((D.l TSlot.D) w998_7)), .eptr (D.cells (D.b w998_8))])]) uz)], (F f0)⟩
def domain_bindings_1_v2_b5_O {φ : Type} (l : Nat) (F : φ → Bx) (uz : List Value) (f0 : φ) (s1 : Int) (s2 : List (List TValue)) (s3 : List TSlot) (s4 : Bool) (s6 : List TSlot) (s25_1 : Int) (s25_2 : List (List TValue)) (s25_3 : List TSlot) (s25_4 : Bool) (w998_1 : Int) (w998_2 : List (List TValue)) (w998_3 : List TSlot) (w998_4 : Bool) (w998_5 : Int) (w998_6 : List (List TValue)) (w998_7 : List TSlot) (w998_8 : Bool) (o : φ ⊕ φ) : Ex × St := match o with
  | .inl o => (.normal, ⟨sp 59 0 [], [(5, .cells ([.d (.v (.func (.yield l) #[] #[]))])), (998, .vals (sp 59 0 [(1, .eptr (D.cells ((D.i .i64) w998_1))), (2, .eptr (D.cells ((D.l (D.l TValue.D)) w998_2))), (3, .eptr (D.cells ((D.l TSlot.D) w998_3))), (4, .eptr (D.cells (D.b w998_4))), (5, .box 5 0), (25, .clo (.func 60) [] [.eptr (D.cells ((D.i .i64) w998_5)), .eptr (D.cells ((D.l (D.l TValue.D)) w998_6)), .eptr (D.cells ((D.l TSlot.D) w998_7)), .eptr (D.cells (D.b w998_8))])]) uz)], (F o)⟩)
  | .inr o => (.ret, ⟨sp 59 0 [], [(5, .cells ([.d (.v (.func (.yield l) #[] #[]))])), (998, .vals (sp 59 0 [(1, .eptr (D.cells ((D.i .i64) w998_1))), (2, .eptr (D.cells ((D.l (D.l TValue.D)) w998_2))), (3, .eptr (D.cells ((D.l TSlot.D) w998_3))), (4, .eptr (D.cells (D.b w998_4))), (5, .box 5 0), (25, .clo (.func 60) [] [.eptr (D.cells ((D.i .i64) w998_5)), .eptr (D.cells ((D.l (D.l TValue.D)) w998_6)), .eptr (D.cells ((D.l TSlot.D) w998_7)), .eptr (D.cells (D.b w998_8))])]) uz)], (F o)⟩)
theorem domain_bindings_1_v2_b5_ok (rd : Option Nat) (self : ∀ ψ : Type, (ψ → (List TSlot) → Option (ψ × Bool)) → Int → (List (List TValue)) → (List TSlot) → Bool → ψ → Option ψ) {φ : Type} (step : φ → (List TSlot) → Option (φ × Bool)) (hs : ∀ (ψ : Type) (step : ψ → (List TSlot) → Option (ψ × Bool)) (a1 : Int) (a2 : List (List TValue)) (a3 : List TSlot) (a4 : Bool) (f0 f1 : ψ), self ψ step a1 a2 a3 a4 f0 = some f1 → AIt Try.prog 60 [.eptr (D.cells ((D.i .i64) a1)), .eptr (D.cells ((D.l (D.l TValue.D)) a2)), .eptr (D.cells ((D.l TSlot.D) a3)), .eptr (D.cells (D.b a4))] domain_bindings_1_v2_enc step f0 f1) (l : Nat) (F : φ → Bx) (N : List Nat) (hF : ∀ f, FOk (F f) N) (hY : ∀ f x r, step f x = some r → AYield Try.prog l (domain_bindings_1_v2_enc x) (F f) (.d (D.b r.2)) (F r.1)) (uz : List Value) (f0 : φ) (s1 : Int) (s2 : List (List TValue)) (s3 : List TSlot) (s4 : Bool) (s6 : List TSlot) (s25_1 : Int) (s25_2 : List (List TValue)) (s25_3 : List TSlot) (s25_4 : Bool) (w998_1 : Int) (w998_2 : List (List TValue)) (w998_3 : List TSlot) (w998_4 : Bool) (w998_5 : Int) (w998_6 : List (List TValue)) (w998_7 : List TSlot) (w998_8 : Bool) (o : φ ⊕ φ) (h : domain_bindings_1_v2_b5 self step f0 s1 s2 s3 s4 s6 s25_1 s25_2 s25_3 s25_4 w998_1 w998_2 w998_3 w998_4 w998_5 w998_6 w998_7 w998_8 = some o) : LpOf Try.prog rd (fbody Try.prog 60) [1, 0, 1, 0, 1, 0, 1, 1] (domain_bindings_1_v2_b5_I l F uz f0 s1 s2 s3 s4 s6 s25_1 s25_2 s25_3 s25_4 w998_1 w998_2 w998_3 w998_4 w998_5 w998_6 w998_7 w998_8) (domain_bindings_1_v2_b5_O l F uz f0 s1 s2 s3 s4 s6 s25_1 s25_2 s25_3 s25_4 w998_1 w998_2 w998_3 w998_4 w998_5 w998_6 w998_7 w998_8 o).1 (domain_bindings_1_v2_b5_O l F uz f0 s1 s2 s3 s4 s6 s25_1 s25_2 s25_3 s25_4 w998_1 w998_2 w998_3 w998_4 w998_5 w998_6 w998_7 w998_8 o).2 := by
  unfold domain_bindings_1_v2_b5 at h
  rcases yldE_some h with ⟨f10, h9, h⟩ | ⟨f11, h10, h⟩
  ·
   obtain rfl := Option.some.inj h
   exact (runB_arr mixed [(29, .own false (.d (D.b true)) [] (F f10))] [] [.live [], .keep [5, 998]] (ai (hY f0 s6 (f10, true) h9) (ai (Or.inr ⟨(hF _).nms.trans (hF _).nms.symm, (hF _).far⟩ : F f10 = F f0 ∨ (names (F f10) = names (F f0) ∧ Far (F f10))) (ti))) (by kernel_rfl)).lp
  ·
   obtain rfl := Option.some.inj h
   exact (runB_arr mixed [(29, .own false (.d (D.b false)) [] (F f11))] [] [.live [], .keep [5, 998]] (ai (hY f0 s6 (f11, false) h10) (ai (Or.inr ⟨(hF _).nms.trans (hF _).nms.symm, (hF _).far⟩ : F f11 = F f0 ∨ (names (F f11) = names (F f0) ∧ Far (F f11))) (ti))) (by kernel_rfl)).lp
def domain_bindings_1_v2_r2_E {φ : Type} (l : Nat) (F : φ → Bx) (s1 : Int) (s2 : List (List TValue)) (s3 : List TSlot) (s4 : Bool) (s25_1 : Int) (s25_2 : List (List TValue)) (s25_3 : List TSlot) (s25_4 : Bool) : List A := sp 59 0 [(1, .eptr (D.cells ((D.i .i64) s1))), (2, .eptr (D.cells ((D.l (D.l TValue.D)) s2))), (3, .eptr (D.cells ((D.l TSlot.D) s3))), (4, .eptr (D.cells (D.b s4))), (5, .box 5 0), (25, .clo (.func 60) [] [.eptr (D.cells ((D.i .i64) s25_1)), .eptr (D.cells ((D.l (D.l TValue.D)) s25_2)), .eptr (D.cells ((D.l TSlot.D) s25_3)), .eptr (D.cells (D.b s25_4))])]
def domain_bindings_1_v2_r2_BL {φ : Type} (l : Nat) (F : φ → Bx) (s1 : Int) (s2 : List (List TValue)) (s3 : List TSlot) (s4 : Bool) (s25_1 : Int) (s25_2 : List (List TValue)) (s25_3 : List TSlot) (s25_4 : Bool) (s : φ) : Bx := [(5, .cells ([.d (.v (.func (.yield l) #[] #[]))]))]
def domain_bindings_1_v2_r2_BT {φ : Type} (l : Nat) (F : φ → Bx) (s1 : Int) (s2 : List (List TValue)) (s3 : List TSlot) (s4 : Bool) (s25_1 : Int) (s25_2 : List (List TValue)) (s25_3 : List TSlot) (s25_4 : Bool) (t : φ) : Bx := [(5, .cells ([.d (.v (.func (.yield l) #[] #[]))]))]
def domain_bindings_1_v2_r2_X {φ : Type} (t : φ) : Ex := .ret
def domain_bindings_1_v2_r2_FL {φ : Type} (l : Nat) (F : φ → Bx) (s1 : Int) (s2 : List (List TValue)) (s3 : List TSlot) (s4 : Bool) (s25_1 : Int) (s25_2 : List (List TValue)) (s25_3 : List TSlot) (s25_4 : Bool) (s : φ) : Bx := F s
def domain_bindings_1_v2_r2_FT {φ : Type} (l : Nat) (F : φ → Bx) (s1 : Int) (s2 : List (List TValue)) (s3 : List TSlot) (s4 : Bool) (s25_1 : Int) (s25_2 : List (List TValue)) (s25_3 : List TSlot) (s25_4 : Bool) (t : φ) : Bx := F t
def domain_bindings_1_v2_r2_O {φ : Type} (l : Nat) (F : φ → Bx) (s1 : Int) (s2 : List (List TValue)) (s3 : List TSlot) (s4 : Bool) (s25_1 : Int) (s25_2 : List (List TValue)) (s25_3 : List TSlot) (s25_4 : Bool) (o : (φ) ⊕ (φ)) : Ex × St := (rex domain_bindings_1_v2_r2_X o, ⟨domain_bindings_1_v2_r2_E l F s1 s2 s3 s4 s25_1 s25_2 s25_3 s25_4, rbx (domain_bindings_1_v2_r2_BL l F s1 s2 s3 s4 s25_1 s25_2 s25_3 s25_4) (domain_bindings_1_v2_r2_BT l F s1 s2 s3 s4 s25_1 s25_2 s25_3 s25_4) o, rbx (domain_bindings_1_v2_r2_FL l F s1 s2 s3 s4 s25_1 s25_2 s25_3 s25_4) (domain_bindings_1_v2_r2_FT l F s1 s2 s3 s4 s25_1 s25_2 s25_3 s25_4) o⟩)
theorem domain_bindings_1_v2_r2_rnd (self : ∀ ψ : Type, (ψ → (List TSlot) → Option (ψ × Bool)) → Int → (List (List TValue)) → (List TSlot) → Bool → ψ → Option ψ) {φ : Type} (step : φ → (List TSlot) → Option (φ × Bool)) (hs : ∀ (ψ : Type) (step : ψ → (List TSlot) → Option (ψ × Bool)) (a1 : Int) (a2 : List (List TValue)) (a3 : List TSlot) (a4 : Bool) (f0 f1 : ψ), self ψ step a1 a2 a3 a4 f0 = some f1 → AIt Try.prog 60 [.eptr (D.cells ((D.i .i64) a1)), .eptr (D.cells ((D.l (D.l TValue.D)) a2)), .eptr (D.cells ((D.l TSlot.D) a3)), .eptr (D.cells (D.b a4))] domain_bindings_1_v2_enc step f0 f1) (l : Nat) (F : φ → Bx) (N : List Nat) (hF : ∀ f, FOk (F f) N) (hY : ∀ f x r, step f x = some r → AYield Try.prog l (domain_bindings_1_v2_enc x) (F f) (.d (D.b r.2)) (F r.1)) (s1 : Int) (s2 : List (List TValue)) (s3 : List TSlot) (s4 : Bool) (s25_1 : Int) (s25_2 : List (List TValue)) (s25_3 : List TSlot) (s25_4 : Bool) (s : φ) (x : (List TSlot)) (o : (φ) ⊕ (φ)) (h : domain_bindings_1_v2_r2_rd self step s1 s2 s3 s4 s25_1 s25_2 s25_3 s25_4 s x = some o) (m : Nat) (uz : List Value) : ∃ M E1, LpOf Try.prog (some m) (fbody Try.prog 60) (0 :: [0, 1, 0, 1, 0, 1, 1]) ⟨setPs (domain_bindings_1_v2_r2_E l F s1 s2 s3 s4 s25_1 s25_2 s25_3 s25_4) ((Array.toList #[26]).zip (domain_bindings_1_v2_enc x)), domain_bindings_1_v2_r2_BL l F s1 s2 s3 s4 s25_1 s25_2 s25_3 s25_4 s ++ [(vn, .vals (domain_bindings_1_v2_r2_E l F s1 s2 s3 s4 s25_1 s25_2 s25_3 s25_4) uz)], (domain_bindings_1_v2_r2_FL l F s1 s2 s3 s4 s25_1 s25_2 s25_3 s25_4) s⟩ .normal M ∧
    LpOf Try.prog (some m) (fbody Try.prog 60) (1 :: [0, 1, 0, 1, 0, 1, 1]) M (rex domain_bindings_1_v2_r2_X o) ⟨E1, rbx (domain_bindings_1_v2_r2_BL l F s1 s2 s3 s4 s25_1 s25_2 s25_3 s25_4) (domain_bindings_1_v2_r2_BT l F s1 s2 s3 s4 s25_1 s25_2 s25_3 s25_4) o ++ [(vn, .vals (domain_bindings_1_v2_r2_E l F s1 s2 s3 s4 s25_1 s25_2 s25_3 s25_4) uz)], rbx (domain_bindings_1_v2_r2_FL l F s1 s2 s3 s4 s25_1 s25_2 s25_3 s25_4) (domain_bindings_1_v2_r2_FT l F s1 s2 s3 s4 s25_1 s25_2 s25_3 s25_4) o⟩ := by
  unfold domain_bindings_1_v2_r2_rd at h
  obtain ⟨o9, h25, h⟩ := bndE_some h
  obtain ⟨o12, h26, h⟩ := bndE_some h
  replace h := sumE_some h
  rcases h with ⟨o37, rfl, h⟩ | ⟨o38, rfl, h⟩
  ·
   obtain rfl := Option.some.inj h
   exact ⟨(domain_bindings_1_v2_b3_O l F uz s s1 s2 s3 s4 s25_1 s25_2 s25_3 s25_4 x s1 s2 s3 s4 s25_1 s25_2 s25_3 s25_4 o9).2, sp 59 0 [], lp_wks (w := [.live [1, 2, 3, 4, 5, 25, 26], .keep [5, 998]]) (s1 := domain_bindings_1_v2_b3_I l F uz s s1 s2 s3 s4 s25_1 s25_2 s25_3 s25_4 x s1 s2 s3 s4 s25_1 s25_2 s25_3 s25_4) (by kernel_rfl) (lp_cast (domain_bindings_1_v2_b3_ok (some m) self step hs l F N hF hY uz s s1 s2 s3 s4 s25_1 s25_2 s25_3 s25_4 x s1 s2 s3 s4 s25_1 s25_2 s25_3 s25_4 o9 h25) rfl (by kernel_rfl) rfl), lp_wks (w := [.live [1, 2, 3, 4, 5, 6, 25], .keep [5, 998]]) (s1 := domain_bindings_1_v2_b5_I l F uz s s1 s2 s3 s4 x s25_1 s25_2 s25_3 s25_4 s1 s2 s3 s4 s25_1 s25_2 s25_3 s25_4) (by kernel_rfl) (lp_cast (domain_bindings_1_v2_b5_ok (some m) self step hs l F N hF hY uz s s1 s2 s3 s4 x s25_1 s25_2 s25_3 s25_4 s1 s2 s3 s4 s25_1 s25_2 s25_3 s25_4 (Sum.inl o37) h26) rfl (by kernel_rfl) (by kernel_rfl))⟩
  ·
   obtain rfl := Option.some.inj h
   exact ⟨(domain_bindings_1_v2_b3_O l F uz s s1 s2 s3 s4 s25_1 s25_2 s25_3 s25_4 x s1 s2 s3 s4 s25_1 s25_2 s25_3 s25_4 o9).2, sp 59 0 [], lp_wks (w := [.live [1, 2, 3, 4, 5, 25, 26], .keep [5, 998]]) (s1 := domain_bindings_1_v2_b3_I l F uz s s1 s2 s3 s4 s25_1 s25_2 s25_3 s25_4 x s1 s2 s3 s4 s25_1 s25_2 s25_3 s25_4) (by kernel_rfl) (lp_cast (domain_bindings_1_v2_b3_ok (some m) self step hs l F N hF hY uz s s1 s2 s3 s4 s25_1 s25_2 s25_3 s25_4 x s1 s2 s3 s4 s25_1 s25_2 s25_3 s25_4 o9 h25) rfl (by kernel_rfl) rfl), lp_wks (w := [.live [1, 2, 3, 4, 5, 6, 25], .keep [5, 998]]) (s1 := domain_bindings_1_v2_b5_I l F uz s s1 s2 s3 s4 x s25_1 s25_2 s25_3 s25_4 s1 s2 s3 s4 s25_1 s25_2 s25_3 s25_4) (by kernel_rfl) (lp_cast (domain_bindings_1_v2_b5_ok (some m) self step hs l F N hF hY uz s s1 s2 s3 s4 x s25_1 s25_2 s25_3 s25_4 s1 s2 s3 s4 s25_1 s25_2 s25_3 s25_4 (Sum.inr o38) h26) rfl (by kernel_rfl) (by kernel_rfl))⟩
theorem domain_bindings_1_v2_r2_ok (self : ∀ ψ : Type, (ψ → (List TSlot) → Option (ψ × Bool)) → Int → (List (List TValue)) → (List TSlot) → Bool → ψ → Option ψ) {φ : Type} (step : φ → (List TSlot) → Option (φ × Bool)) (hs : ∀ (ψ : Type) (step : ψ → (List TSlot) → Option (ψ × Bool)) (a1 : Int) (a2 : List (List TValue)) (a3 : List TSlot) (a4 : Bool) (f0 f1 : ψ), self ψ step a1 a2 a3 a4 f0 = some f1 → AIt Try.prog 60 [.eptr (D.cells ((D.i .i64) a1)), .eptr (D.cells ((D.l (D.l TValue.D)) a2)), .eptr (D.cells ((D.l TSlot.D) a3)), .eptr (D.cells (D.b a4))] domain_bindings_1_v2_enc step f0 f1) (l : Nat) (F : φ → Bx) (N : List Nat) (hF : ∀ f, FOk (F f) N) (hY : ∀ f x r, step f x = some r → AYield Try.prog l (domain_bindings_1_v2_enc x) (F f) (.d (D.b r.2)) (F r.1)) (s1 : Int) (s2 : List (List TValue)) (s3 : List TSlot) (s4 : Bool) (s25_1 : Int) (s25_2 : List (List TValue)) (s25_3 : List TSlot) (s25_4 : Bool) (s : φ) (o : (φ) ⊕ (φ)) (h : self _ (stepOf (domain_bindings_1_v2_r2_rd self step s1 s2 s3 s4 s25_1 s25_2 s25_3 s25_4)) s25_1 s25_2 s25_3 s25_4 (.inl s) = some o) : LpOf Try.prog none (fbody Try.prog 60) [0, 1, 0, 1, 0, 1, 1] ⟨domain_bindings_1_v2_r2_E l F s1 s2 s3 s4 s25_1 s25_2 s25_3 s25_4, domain_bindings_1_v2_r2_BL l F s1 s2 s3 s4 s25_1 s25_2 s25_3 s25_4 s, (domain_bindings_1_v2_r2_FL l F s1 s2 s3 s4 s25_1 s25_2 s25_3 s25_4) s⟩ (domain_bindings_1_v2_r2_O l F s1 s2 s3 s4 s25_1 s25_2 s25_3 s25_4 o).1 (domain_bindings_1_v2_r2_O l F s1 s2 s3 s4 s25_1 s25_2 s25_3 s25_4 o).2 :=
  range_ok (p := [0, 1, 0, 1, 0, 1, 1]) (g := .tmp 25) (ps := #[26]) (assign := codeAt (fbody Try.prog 60) (0 :: [0, 1, 0, 1, 0, 1, 1])) (body := codeAt (fbody Try.prog 60) (1 :: [0, 1, 0, 1, 0, 1, 1])) (by kernel_rfl) (domain_bindings_1_v2_r2_BL l F s1 s2 s3 s4 s25_1 s25_2 s25_3 s25_4) (domain_bindings_1_v2_r2_BT l F s1 s2 s3 s4 s25_1 s25_2 s25_3 s25_4) (domain_bindings_1_v2_r2_FL l F s1 s2 s3 s4 s25_1 s25_2 s25_3 s25_4) (domain_bindings_1_v2_r2_FT l F s1 s2 s3 s4 s25_1 s25_2 s25_3 s25_4) domain_bindings_1_v2_r2_X domain_bindings_1_v2_enc (domain_bindings_1_v2_r2_rd self step s1 s2 s3 s4 s25_1 s25_2 s25_3 s25_4) (gf := 60) (cs := [.eptr (D.cells ((D.i .i64) s25_1)), .eptr (D.cells ((D.l (D.l TValue.D)) s25_2)), .eptr (D.cells ((D.l TSlot.D) s25_3)), .eptr (D.cells (D.b s25_4))]) (by kernel_rfl) (by kernel_rfl) (by kernel_rfl) (fun x => ⟨by kernel_rfl, by kernel_rfl⟩) (fun s us => by kernel_rfl) (fun t us => by kernel_rfl) (fun s => rfl) (fun t => rfl) (by kernel_rfl) (fun t => rfl) (fun s => (hF _).to (hF _)) (fun t => (hF _).to (hF _)) (fun s x o h m us => domain_bindings_1_v2_r2_rnd self step hs l F N hF hY s1 s2 s3 s4 s25_1 s25_2 s25_3 s25_4 s x o h m us) (hs _ (stepOf (domain_bindings_1_v2_r2_rd self step s1 s2 s3 s4 s25_1 s25_2 s25_3 s25_4)) s25_1 s25_2 s25_3 s25_4 (.inl s) o h)
def domain_bindings_1_v2_b1_I {φ : Type} (l : Nat) (F : φ → Bx) (f0 : φ) (s1 : Int) (s2 : List (List TValue)) (s3 : List TSlot) (s4 : Bool) (s19 : Bool) : St := ⟨sp 59 0 [(1, .eptr (D.cells ((D.i .i64) s1))), (2, .eptr (D.cells ((D.l (D.l TValue.D)) s2))), (3, .eptr (D.cells ((D.l TSlot.D) s3))), (4, .eptr (D.cells (D.b s4))), (5, .box 5 0), (19, .d (D.b s19))], [(5, .cells ([.d (.v (.func (.yield l) #[] #[]))]))], (F f0)⟩
def domain_bindings_1_v2_b1_O {φ : Type} (l : Nat) (F : φ → Bx) (f0 : φ) (s1 : Int) (s2 : List (List TValue)) (s3 : List TSlot) (s4 : Bool) (s19 : Bool) (o : φ ⊕ φ) : Ex × St := match o with
  | .inl o => (.normal, ⟨sp 59 0 [(1, .eptr (D.cells ((D.i .i64) s1))), (2, .eptr (D.cells ((D.l (D.l TValue.D)) s2))), (3, .eptr (D.cells ((D.l TSlot.D) s3))), (4, .eptr (D.cells (D.b s4))), (5, .box 5 0)], [(5, .cells ([.d (.v (.func (.yield l) #[] #[]))]))], (F o)⟩)
  | .inr o => (.ret, ⟨sp 59 0 [], [], (F o)⟩)
theorem domain_bindings_1_v2_b1_ok (_ : Option Nat) (self : ∀ ψ : Type, (ψ → (List TSlot) → Option (ψ × Bool)) → Int → (List (List TValue)) → (List TSlot) → Bool → ψ → Option ψ) {φ : Type} (step : φ → (List TSlot) → Option (φ × Bool)) (hs : ∀ (ψ : Type) (step : ψ → (List TSlot) → Option (ψ × Bool)) (a1 : Int) (a2 : List (List TValue)) (a3 : List TSlot) (a4 : Bool) (f0 f1 : ψ), self ψ step a1 a2 a3 a4 f0 = some f1 → AIt Try.prog 60 [.eptr (D.cells ((D.i .i64) a1)), .eptr (D.cells ((D.l (D.l TValue.D)) a2)), .eptr (D.cells ((D.l TSlot.D) a3)), .eptr (D.cells (D.b a4))] domain_bindings_1_v2_enc step f0 f1) (l : Nat) (F : φ → Bx) (N : List Nat) (hF : ∀ f, FOk (F f) N) (hY : ∀ f x r, step f x = some r → AYield Try.prog l (domain_bindings_1_v2_enc x) (F f) (.d (D.b r.2)) (F r.1)) (f0 : φ) (s1 : Int) (s2 : List (List TValue)) (s3 : List TSlot) (s4 : Bool) (s19 : Bool) (o : φ ⊕ φ) (h : domain_bindings_1_v2_b1 self step f0 s1 s2 s3 s4 s19 = some o) : LpOf Try.prog none (fbody Try.prog 60) [1, 0, 1, 1] (domain_bindings_1_v2_b1_I l F f0 s1 s2 s3 s4 s19) (domain_bindings_1_v2_b1_O l F f0 s1 s2 s3 s4 s19 o).1 (domain_bindings_1_v2_b1_O l F f0 s1 s2 s3 s4 s19 o).2 := by
  unfold domain_bindings_1_v2_b1 at h
  cases s19 with
  | true =>
   replace h := iteT h
   obtain ⟨r4, h6, h⟩ := bndE_some h
   obtain ⟨o13, h11, h⟩ := bndE_some h
   replace h := sumE_some h
   rcases h with ⟨o14, rfl, h⟩ | ⟨o15, rfl, h⟩
   ·
    obtain rfl := Option.some.inj h
    exact (runB_arr mixed [(25, .ret (.clo (.func 60) [] [.eptr (D.cells ((D.i .i64) r4.1)), .eptr (D.cells ((D.l (D.l TValue.D)) r4.2.1)), .eptr (D.cells ((D.l TSlot.D) r4.2.2.1)), .eptr (D.cells (D.b r4.2.2.2))]))] [⟨[0, 1, 0, 1, 0, 1, 1], [.live [1, 2, 3, 4, 5, 25], .keep [5]], .normal, (domain_bindings_1_v2_r2_O l F s1 s2 s3 s4 r4.1 r4.2.1 r4.2.2.1 r4.2.2.2 (Sum.inl o14)).2⟩] [.live [1, 2, 3, 4, 5], .keep [5]] (ai (domain_bindings_v2_ok s2 (intVal .add .i64 s1 1) s3 s4 r4 h6) (ai (domain_bindings_1_v2_r2_ok self step hs l F N hF hY s1 s2 s3 s4 r4.1 r4.2.1 r4.2.2.1 r4.2.2.2 f0 (Sum.inl o14) h11) (ti))) (by kernel_rfl)).lp
   ·
    obtain rfl := Option.some.inj h
    exact (runB_arr mixed [(25, .ret (.clo (.func 60) [] [.eptr (D.cells ((D.i .i64) r4.1)), .eptr (D.cells ((D.l (D.l TValue.D)) r4.2.1)), .eptr (D.cells ((D.l TSlot.D) r4.2.2.1)), .eptr (D.cells (D.b r4.2.2.2))]))] [⟨[0, 1, 0, 1, 0, 1, 1], [.live [1, 2, 3, 4, 5, 25], .keep [5]], .ret, (domain_bindings_1_v2_r2_O l F s1 s2 s3 s4 r4.1 r4.2.1 r4.2.2.1 r4.2.2.2 (Sum.inr o15)).2⟩] [.live [], .keep []] (ai (domain_bindings_v2_ok s2 (intVal .add .i64 s1 1) s3 s4 r4 h6) (ai (domain_bindings_1_v2_r2_ok self step hs l F N hF hY s1 s2 s3 s4 r4.1 r4.2.1 r4.2.2.1 r4.2.2.2 f0 (Sum.inr o15) h11) (ti))) (by kernel_rfl)).lp
  | false =>
   replace h := iteF h
   obtain rfl := Option.some.inj h
   exact (runB_arr mixed [] [] [.live [1, 2, 3, 4, 5], .keep [5]] (ti) (by kernel_rfl)).lp
def domain_bindings_1_v2_b8_I {φ : Type} (l : Nat) (F : φ → Bx) (uz : List Value) (f0 : φ) (s1 : Int) (s2 : List (List TValue)) (s3 : List TSlot) (s4 : Bool) (s34 : List TValue) (s35 : Int) (s36 : Int) (s52_1 : Int) (s52_2 : List (List TValue)) (s52_3 : List TSlot) (s52_4 : Bool) (s53 : List TSlot) (w998_1 : Int) (w998_2 : List (List TValue)) (w998_3 : List TSlot) (w998_4 : Bool) (w998_5 : List TValue) (w998_6 : Int) (w998_7 : Int) (w998_8 : Int) (w998_9 : List (List TValue)) (w998_10 : List TSlot) (w998_11 : Bool) : St := ⟨sp 59 0 [(1, .eptr (D.cells ((D.i .i64) s1))), (2, .eptr (D.cells ((D.l (D.l TValue.D)) s2))), (3, .eptr (D.cells ((D.l TSlot.D) s3))), (4, .eptr (D.cells (D.b s4))), (5, .box 5 0), (34, .d ((D.l TValue.D) s34)), (35, .d ((D.i .i64) s35)), (36, .d ((D.i .i64) s36)), (52, .clo (.func 60) [] [.eptr (D.cells ((D.i .i64) s52_1)), .eptr (D.cells ((D.l (D.l TValue.D)) s52_2)), .eptr (D.cells ((D.l TSlot.D) s52_3)), .eptr (D.cells (D.b s52_4))]), (53, .d ((D.l TSlot.D) s53))], [(5, .cells ([.d (.v (.func (.yield l) #[] #[]))])), (998, .vals (sp 59 0 [(1, .eptr (D.cells ((D.i .i64) w998_1))), (2, .eptr (D.cells ((D.l (D.l TValue.D)) w998_2))), (3, .eptr (D.cells ((D.l TSlot.D) w998_3))), (4, .eptr (D.cells (D.b w998_4))), (5, .box 5 0), (34, .d ((D.l TValue.D) w998_5)), (35, .d ((D.i .i64) w998_6)), (36, .d ((D.i .i64) w998_7)), (52, .clo (.func 60) [] [.eptr (D.cells ((D.i .i64) w998_8)), .eptr (D.cells ((D.l (D.l TValue.D)) w998_9)), .eptr (D.cells ((D.l TSlot.D) w998_10)), .eptr (D.cells (D.b w998_11))])]) uz)], (F f0)⟩
def domain_bindings_1_v2_b8_O {φ : Type} (l : Nat) (F : φ → Bx) (uz : List Value) (f0 : φ) (s1 : Int) (s2 : List (List TValue)) (s3 : List TSlot) (s4 : Bool) (s34 : List TValue) (s35 : Int) (s36 : Int) (s52_1 : Int) (s52_2 : List (List TValue)) (s52_3 : List TSlot) (s52_4 : Bool) (s53 : List TSlot) (w998_1 : Int) (w998_2 : List (List TValue)) (w998_3 : List TSlot) (w998_4 : Bool) (w998_5 : List TValue) (w998_6 : Int) (w998_7 : Int) (w998_8 : Int) (w998_9 : List (List TValue)) (w998_10 : List TSlot) (w998_11 : Bool) (o : Unit) : Ex × St := (.normal, ⟨sp 59 0 [(1, .eptr (D.cells ((D.i .i64) s1))), (2, .eptr (D.cells ((D.l (D.l TValue.D)) s2))), (3, .eptr (D.cells ((D.l TSlot.D) s3))), (4, .eptr (D.cells (D.b s4))), (5, .box 5 0), (10, .d ((D.l TSlot.D) s53)), (34, .d ((D.l TValue.D) s34)), (35, .d ((D.i .i64) s35)), (36, .d ((D.i .i64) s36)), (52, .clo (.func 60) [] [.eptr (D.cells ((D.i .i64) s52_1)), .eptr (D.cells ((D.l (D.l TValue.D)) s52_2)), .eptr (D.cells ((D.l TSlot.D) s52_3)), .eptr (D.cells (D.b s52_4))])], [(5, .cells ([.d (.v (.func (.yield l) #[] #[]))])), (998, .vals (sp 59 0 [(1, .eptr (D.cells ((D.i .i64) w998_1))), (2, .eptr (D.cells ((D.l (D.l TValue.D)) w998_2))), (3, .eptr (D.cells ((D.l TSlot.D) w998_3))), (4, .eptr (D.cells (D.b w998_4))), (5, .box 5 0), (34, .d ((D.l TValue.D) w998_5)), (35, .d ((D.i .i64) w998_6)), (36, .d ((D.i .i64) w998_7)), (52, .clo (.func 60) [] [.eptr (D.cells ((D.i .i64) w998_8)), .eptr (D.cells ((D.l (D.l TValue.D)) w998_9)), .eptr (D.cells ((D.l TSlot.D) w998_10)), .eptr (D.cells (D.b w998_11))])]) uz)], (F f0)⟩)
theorem domain_bindings_1_v2_b8_ok (rd : Option Nat) (self : ∀ ψ : Type, (ψ → (List TSlot) → Option (ψ × Bool)) → Int → (List (List TValue)) → (List TSlot) → Bool → ψ → Option ψ) {φ : Type} (step : φ → (List TSlot) → Option (φ × Bool)) (hs : ∀ (ψ : Type) (step : ψ → (List TSlot) → Option (ψ × Bool)) (a1 : Int) (a2 : List (List TValue)) (a3 : List TSlot) (a4 : Bool) (f0 f1 : ψ), self ψ step a1 a2 a3 a4 f0 = some f1 → AIt Try.prog 60 [.eptr (D.cells ((D.i .i64) a1)), .eptr (D.cells ((D.l (D.l TValue.D)) a2)), .eptr (D.cells ((D.l TSlot.D) a3)), .eptr (D.cells (D.b a4))] domain_bindings_1_v2_enc step f0 f1) (l : Nat) (F : φ → Bx) (N : List Nat) (hF : ∀ f, FOk (F f) N) (hY : ∀ f x r, step f x = some r → AYield Try.prog l (domain_bindings_1_v2_enc x) (F f) (.d (D.b r.2)) (F r.1)) (uz : List Value) (f0 : φ) (s1 : Int) (s2 : List (List TValue)) (s3 : List TSlot) (s4 : Bool) (s34 : List TValue) (s35 : Int) (s36 : Int) (s52_1 : Int) (s52_2 : List (List TValue)) (s52_3 : List TSlot) (s52_4 : Bool) (s53 : List TSlot) (w998_1 : Int) (w998_2 : List (List TValue)) (w998_3 : List TSlot) (w998_4 : Bool) (w998_5 : List TValue) (w998_6 : Int) (w998_7 : Int) (w998_8 : Int) (w998_9 : List (List TValue)) (w998_10 : List TSlot) (w998_11 : Bool) (o : Unit) (h : domain_bindings_1_v2_b8 self step f0 s1 s2 s3 s4 s34 s35 s36 s52_1 s52_2 s52_3 s52_4 s53 w998_1 w998_2 w998_3 w998_4 w998_5 w998_6 w998_7 w998_8 w998_9 w998_10 w998_11 = some o) : LpOf Try.prog rd (fbody Try.prog 60) [0, 0, 1, 1, 1, 0, 0, 1, 1, 0, 0, 1, 1, 1, 1] (domain_bindings_1_v2_b8_I l F uz f0 s1 s2 s3 s4 s34 s35 s36 s52_1 s52_2 s52_3 s52_4 s53 w998_1 w998_2 w998_3 w998_4 w998_5 w998_6 w998_7 w998_8 w998_9 w998_10 w998_11) (domain_bindings_1_v2_b8_O l F uz f0 s1 s2 s3 s4 s34 s35 s36 s52_1 s52_2 s52_3 s52_4 s53 w998_1 w998_2 w998_3 w998_4 w998_5 w998_6 w998_7 w998_8 w998_9 w998_10 w998_11 o).1 (domain_bindings_1_v2_b8_O l F uz f0 s1 s2 s3 s4 s34 s35 s36 s52_1 s52_2 s52_3 s52_4 s53 w998_1 w998_2 w998_3 w998_4 w998_5 w998_6 w998_7 w998_8 w998_9 w998_10 w998_11 o).2 := by
  unfold domain_bindings_1_v2_b8 at h
  obtain rfl := Option.some.inj h
  exact (runB_arr mixed [] [] [.live [1, 2, 3, 4, 5, 10, 34, 35, 36, 52], .keep [5, 998]] (ti) (by kernel_rfl)).lp
def domain_bindings_1_v2_b10_I {φ : Type} (l : Nat) (F : φ → Bx) (uz : List Value) (f0 : φ) (s1 : Int) (s2 : List (List TValue)) (s3 : List TSlot) (s4 : Bool) (s10 : List TSlot) (s34 : List TValue) (s35 : Int) (s36 : Int) (s52_1 : Int) (s52_2 : List (List TValue)) (s52_3 : List TSlot) (s52_4 : Bool) (w998_1 : Int) (w998_2 : List (List TValue)) (w998_3 : List TSlot) (w998_4 : Bool) (w998_5 : List TValue) (w998_6 : Int) (w998_7 : Int) (w998_8 : Int) (w998_9 : List (List TValue)) (w998_10 : List TSlot) (w998_11 : Bool) : St := ⟨sp 59 0 [(1, .eptr (D.cells ((D.i .i64) s1))), (2, .eptr (D.cells ((D.l (D.l TValue.D)) s2))), (3, .eptr (D.cells ((D.l TSlot.D) s3))), (4, .eptr (D.cells (D.b s4))), (5, .box 5 0), (10, .d ((D.l TSlot.D) s10)), (34, .d ((D.l TValue.D) s34)), (35, .d ((D.i .i64) s35)), (36, .d ((D.i .i64) s36)), (52, .clo (.func 60) [] [.eptr (D.cells ((D.i .i64) s52_1)), .eptr (D.cells ((D.l (D.l TValue.D)) s52_2)), .eptr (D.cells ((D.l TSlot.D) s52_3)), .eptr (D.cells (D.b s52_4))])], [(5, .cells ([.d (.v (.func (.yield l) #[] #[]))])), (998, .vals (sp 59 0 [(1, .eptr (D.cells ((D.i .i64) w998_1))), (2, .eptr (D.cells ((D.l (D.l TValue.D)) w998_2))), (3, .eptr (D.cells ((D.l TSlot.D) w998_3))), (4, .eptr (D.cells (D.b w998_4))), (5, .box 5 0), (34, .d ((D.l TValue.D) w998_5)), (35, .d ((D.i .i64) w998_6)), (36, .d ((D.i .i64) w998_7)), (52, .clo (.func 60) [] [.eptr (D.cells ((D.i .i64) w998_8)), .eptr (D.cells ((D.l (D.l TValue.D)) w998_9)), .eptr (D.cells ((D.l TSlot.D) w998_10)), .eptr (D.cells (D.b w998_11))])]) uz)], (F f0)⟩
def domain_bindings_1_v2_b10_O {φ : Type} (l : Nat) (F : φ → Bx) (uz : List Value) (f0 : φ) (s1 : Int) (s2 : List (List TValue)) (s3 : List TSlot) (s4 : Bool) (s10 : List TSlot) (s34 : List TValue) (s35 : Int) (s36 : Int) (s52_1 : Int) (s52_2 : List (List TValue)) (s52_3 : List TSlot) (s52_4 : Bool) (w998_1 : Int) (w998_2 : List (List TValue)) (w998_3 : List TSlot) (w998_4 : Bool) (w998_5 : List TValue) (w998_6 : Int) (w998_7 : Int) (w998_8 : Int) (w998_9 : List (List TValue)) (w998_10 : List TSlot) (w998_11 : Bool) (o : φ ⊕ φ) : Ex × St := match o with
  | .inl o => (.normal, ⟨sp 59 0 [], [(5, .cells ([.d (.v (.func (.yield l) #[] #[]))])), (998, .vals (sp 59 0 [(1, .eptr (D.cells ((D.i .i64) w998_1))), (2, .eptr (D.cells ((D.l (D.l TValue.D)) w998_2))), (3, .eptr (D.cells ((D.l TSlot.D) w998_3))), (4, .eptr (D.cells (D.b w998_4))), (5, .box 5 0), (34, .d ((D.l TValue.D) w998_5)), (35, .d ((D.i .i64) w998_6)), (36, .d ((D.i .i64) w998_7)), (52, .clo (.func 60) [] [.eptr (D.cells ((D.i .i64) w998_8)), .eptr (D.cells ((D.l (D.l TValue.D)) w998_9)), .eptr (D.cells ((D.l TSlot.D) w998_10)), .eptr (D.cells (D.b w998_11))])]) uz)], (F o)⟩)
  | .inr o => (.ret, ⟨sp 59 0 [], [(5, .cells ([.d (.v (.func (.yield l) #[] #[]))])), (998, .vals (sp 59 0 [(1, .eptr (D.cells ((D.i .i64) w998_1))), (2, .eptr (D.cells ((D.l (D.l TValue.D)) w998_2))), (3, .eptr (D.cells ((D.l TSlot.D) w998_3))), (4, .eptr (D.cells (D.b w998_4))), (5, .box 5 0), (34, .d ((D.l TValue.D) w998_5)), (35, .d ((D.i .i64) w998_6)), (36, .d ((D.i .i64) w998_7)), (52, .clo (.func 60) [] [.eptr (D.cells ((D.i .i64) w998_8)), .eptr (D.cells ((D.l (D.l TValue.D)) w998_9)), .eptr (D.cells ((D.l TSlot.D) w998_10)), .eptr (D.cells (D.b w998_11))])]) uz)], (F o)⟩)
theorem domain_bindings_1_v2_b10_ok (rd : Option Nat) (self : ∀ ψ : Type, (ψ → (List TSlot) → Option (ψ × Bool)) → Int → (List (List TValue)) → (List TSlot) → Bool → ψ → Option ψ) {φ : Type} (step : φ → (List TSlot) → Option (φ × Bool)) (hs : ∀ (ψ : Type) (step : ψ → (List TSlot) → Option (ψ × Bool)) (a1 : Int) (a2 : List (List TValue)) (a3 : List TSlot) (a4 : Bool) (f0 f1 : ψ), self ψ step a1 a2 a3 a4 f0 = some f1 → AIt Try.prog 60 [.eptr (D.cells ((D.i .i64) a1)), .eptr (D.cells ((D.l (D.l TValue.D)) a2)), .eptr (D.cells ((D.l TSlot.D) a3)), .eptr (D.cells (D.b a4))] domain_bindings_1_v2_enc step f0 f1) (l : Nat) (F : φ → Bx) (N : List Nat) (hF : ∀ f, FOk (F f) N) (hY : ∀ f x r, step f x = some r → AYield Try.prog l (domain_bindings_1_v2_enc x) (F f) (.d (D.b r.2)) (F r.1)) (uz : List Value) (f0 : φ) (s1 : Int) (s2 : List (List TValue)) (s3 : List TSlot) (s4 : Bool) (s10 : List TSlot) (s34 : List TValue) (s35 : Int) (s36 : Int) (s52_1 : Int) (s52_2 : List (List TValue)) (s52_3 : List TSlot) (s52_4 : Bool) (w998_1 : Int) (w998_2 : List (List TValue)) (w998_3 : List TSlot) (w998_4 : Bool) (w998_5 : List TValue) (w998_6 : Int) (w998_7 : Int) (w998_8 : Int) (w998_9 : List (List TValue)) (w998_10 : List TSlot) (w998_11 : Bool) (o : φ ⊕ φ) (h : domain_bindings_1_v2_b10 self step f0 s1 s2 s3 s4 s10 s34 s35 s36 s52_1 s52_2 s52_3 s52_4 w998_1 w998_2 w998_3 w998_4 w998_5 w998_6 w998_7 w998_8 w998_9 w998_10 w998_11 = some o) : LpOf Try.prog rd (fbody Try.prog 60) [1, 0, 1, 1, 1, 0, 0, 1, 1, 0, 0, 1, 1, 1, 1] (domain_bindings_1_v2_b10_I l F uz f0 s1 s2 s3 s4 s10 s34 s35 s36 s52_1 s52_2 s52_3 s52_4 w998_1 w998_2 w998_3 w998_4 w998_5 w998_6 w998_7 w998_8 w998_9 w998_10 w998_11) (domain_bindings_1_v2_b10_O l F uz f0 s1 s2 s3 s4 s10 s34 s35 s36 s52_1 s52_2 s52_3 s52_4 w998_1 w998_2 w998_3 w998_4 w998_5 w998_6 w998_7 w998_8 w998_9 w998_10 w998_11 o).1 (domain_bindings_1_v2_b10_O l F uz f0 s1 s2 s3 s4 s10 s34 s35 s36 s52_1 s52_2 s52_3 s52_4 w998_1 w998_2 w998_3 w998_4 w998_5 w998_6 w998_7 w998_8 w998_9 w998_10 w998_11 o).2 := by
  unfold domain_bindings_1_v2_b10 at h
  rcases yldE_some h with ⟨f28, h21, h⟩ | ⟨f29, h22, h⟩
  ·
   obtain rfl := Option.some.inj h
   exact (runB_arr mixed [(56, .own false (.d (D.b true)) [] (F f28))] [] [.live [], .keep [5, 998]] (ai (hY f0 s10 (f28, true) h21) (ai (Or.inr ⟨(hF _).nms.trans (hF _).nms.symm, (hF _).far⟩ : F f28 = F f0 ∨ (names (F f28) = names (F f0) ∧ Far (F f28))) (ti))) (by kernel_rfl)).lp
  ·
   obtain rfl := Option.some.inj h
   exact (runB_arr mixed [(56, .own false (.d (D.b false)) [] (F f29))] [] [.live [], .keep [5, 998]] (ai (hY f0 s10 (f29, false) h22) (ai (Or.inr ⟨(hF _).nms.trans (hF _).nms.symm, (hF _).far⟩ : F f29 = F f0 ∨ (names (F f29) = names (F f0) ∧ Far (F f29))) (ti))) (by kernel_rfl)).lp
def domain_bindings_1_v2_r7_E {φ : Type} (l : Nat) (F : φ → Bx) (s1 : Int) (s2 : List (List TValue)) (s3 : List TSlot) (s4 : Bool) (s34 : List TValue) (s35 : Int) (s36 : Int) (s52_1 : Int) (s52_2 : List (List TValue)) (s52_3 : List TSlot) (s52_4 : Bool) : List A := sp 59 0 [(1, .eptr (D.cells ((D.i .i64) s1))), (2, .eptr (D.cells ((D.l (D.l TValue.D)) s2))), (3, .eptr (D.cells ((D.l TSlot.D) s3))), (4, .eptr (D.cells (D.b s4))), (5, .box 5 0), (34, .d ((D.l TValue.D) s34)), (35, .d ((D.i .i64) s35)), (36, .d ((D.i .i64) s36)), (52, .clo (.func 60) [] [.eptr (D.cells ((D.i .i64) s52_1)), .eptr (D.cells ((D.l (D.l TValue.D)) s52_2)), .eptr (D.cells ((D.l TSlot.D) s52_3)), .eptr (D.cells (D.b s52_4))])]
def domain_bindings_1_v2_r7_BL {φ : Type} (l : Nat) (F : φ → Bx) (s1 : Int) (s2 : List (List TValue)) (s3 : List TSlot) (s4 : Bool) (s34 : List TValue) (s35 : Int) (s36 : Int) (s52_1 : Int) (s52_2 : List (List TValue)) (s52_3 : List TSlot) (s52_4 : Bool) (s : φ) : Bx := [(5, .cells ([.d (.v (.func (.yield l) #[] #[]))]))]
def domain_bindings_1_v2_r7_BT {φ : Type} (l : Nat) (F : φ → Bx) (s1 : Int) (s2 : List (List TValue)) (s3 : List TSlot) (s4 : Bool) (s34 : List TValue) (s35 : Int) (s36 : Int) (s52_1 : Int) (s52_2 : List (List TValue)) (s52_3 : List TSlot) (s52_4 : Bool) (t : φ) : Bx := [(5, .cells ([.d (.v (.func (.yield l) #[] #[]))]))]
def domain_bindings_1_v2_r7_X {φ : Type} (t : φ) : Ex := .ret
def domain_bindings_1_v2_r7_FL {φ : Type} (l : Nat) (F : φ → Bx) (s1 : Int) (s2 : List (List TValue)) (s3 : List TSlot) (s4 : Bool) (s34 : List TValue) (s35 : Int) (s36 : Int) (s52_1 : Int) (s52_2 : List (List TValue)) (s52_3 : List TSlot) (s52_4 : Bool) (s : φ) : Bx := F s
def domain_bindings_1_v2_r7_FT {φ : Type} (l : Nat) (F : φ → Bx) (s1 : Int) (s2 : List (List TValue)) (s3 : List TSlot) (s4 : Bool) (s34 : List TValue) (s35 : Int) (s36 : Int) (s52_1 : Int) (s52_2 : List (List TValue)) (s52_3 : List TSlot) (s52_4 : Bool) (t : φ) : Bx := F t
def domain_bindings_1_v2_r7_O {φ : Type} (l : Nat) (F : φ → Bx) (s1 : Int) (s2 : List (List TValue)) (s3 : List TSlot) (s4 : Bool) (s34 : List TValue) (s35 : Int) (s36 : Int) (s52_1 : Int) (s52_2 : List (List TValue)) (s52_3 : List TSlot) (s52_4 : Bool) (o : (φ) ⊕ (φ)) : Ex × St := (rex domain_bindings_1_v2_r7_X o, ⟨domain_bindings_1_v2_r7_E l F s1 s2 s3 s4 s34 s35 s36 s52_1 s52_2 s52_3 s52_4, rbx (domain_bindings_1_v2_r7_BL l F s1 s2 s3 s4 s34 s35 s36 s52_1 s52_2 s52_3 s52_4) (domain_bindings_1_v2_r7_BT l F s1 s2 s3 s4 s34 s35 s36 s52_1 s52_2 s52_3 s52_4) o, rbx (domain_bindings_1_v2_r7_FL l F s1 s2 s3 s4 s34 s35 s36 s52_1 s52_2 s52_3 s52_4) (domain_bindings_1_v2_r7_FT l F s1 s2 s3 s4 s34 s35 s36 s52_1 s52_2 s52_3 s52_4) o⟩)
theorem domain_bindings_1_v2_r7_rnd (self : ∀ ψ : Type, (ψ → (List TSlot) → Option (ψ × Bool)) → Int → (List (List TValue)) → (List TSlot) → Bool → ψ → Option ψ) {φ : Type} (step : φ → (List TSlot) → Option (φ × Bool)) (hs : ∀ (ψ : Type) (step : ψ → (List TSlot) → Option (ψ × Bool)) (a1 : Int) (a2 : List (List TValue)) (a3 : List TSlot) (a4 : Bool) (f0 f1 : ψ), self ψ step a1 a2 a3 a4 f0 = some f1 → AIt Try.prog 60 [.eptr (D.cells ((D.i .i64) a1)), .eptr (D.cells ((D.l (D.l TValue.D)) a2)), .eptr (D.cells ((D.l TSlot.D) a3)), .eptr (D.cells (D.b a4))] domain_bindings_1_v2_enc step f0 f1) (l : Nat) (F : φ → Bx) (N : List Nat) (hF : ∀ f, FOk (F f) N) (hY : ∀ f x r, step f x = some r → AYield Try.prog l (domain_bindings_1_v2_enc x) (F f) (.d (D.b r.2)) (F r.1)) (s1 : Int) (s2 : List (List TValue)) (s3 : List TSlot) (s4 : Bool) (s34 : List TValue) (s35 : Int) (s36 : Int) (s52_1 : Int) (s52_2 : List (List TValue)) (s52_3 : List TSlot) (s52_4 : Bool) (s : φ) (x : (List TSlot)) (o : (φ) ⊕ (φ)) (h : domain_bindings_1_v2_r7_rd self step s1 s2 s3 s4 s34 s35 s36 s52_1 s52_2 s52_3 s52_4 s x = some o) (m : Nat) (uz : List Value) : ∃ M E1, LpOf Try.prog (some m) (fbody Try.prog 60) (0 :: [0, 1, 1, 1, 0, 0, 1, 1, 0, 0, 1, 1, 1, 1]) ⟨setPs (domain_bindings_1_v2_r7_E l F s1 s2 s3 s4 s34 s35 s36 s52_1 s52_2 s52_3 s52_4) ((Array.toList #[53]).zip (domain_bindings_1_v2_enc x)), domain_bindings_1_v2_r7_BL l F s1 s2 s3 s4 s34 s35 s36 s52_1 s52_2 s52_3 s52_4 s ++ [(vn, .vals (domain_bindings_1_v2_r7_E l F s1 s2 s3 s4 s34 s35 s36 s52_1 s52_2 s52_3 s52_4) uz)], (domain_bindings_1_v2_r7_FL l F s1 s2 s3 s4 s34 s35 s36 s52_1 s52_2 s52_3 s52_4) s⟩ .normal M ∧
    LpOf Try.prog (some m) (fbody Try.prog 60) (1 :: [0, 1, 1, 1, 0, 0, 1, 1, 0, 0, 1, 1, 1, 1]) M (rex domain_bindings_1_v2_r7_X o) ⟨E1, rbx (domain_bindings_1_v2_r7_BL l F s1 s2 s3 s4 s34 s35 s36 s52_1 s52_2 s52_3 s52_4) (domain_bindings_1_v2_r7_BT l F s1 s2 s3 s4 s34 s35 s36 s52_1 s52_2 s52_3 s52_4) o ++ [(vn, .vals (domain_bindings_1_v2_r7_E l F s1 s2 s3 s4 s34 s35 s36 s52_1 s52_2 s52_3 s52_4) uz)], rbx (domain_bindings_1_v2_r7_FL l F s1 s2 s3 s4 s34 s35 s36 s52_1 s52_2 s52_3 s52_4) (domain_bindings_1_v2_r7_FT l F s1 s2 s3 s4 s34 s35 s36 s52_1 s52_2 s52_3 s52_4) o⟩ := by
  unfold domain_bindings_1_v2_r7_rd at h
  obtain ⟨o27, h27, h⟩ := bndE_some h
  obtain ⟨o30, h28, h⟩ := bndE_some h
  replace h := sumE_some h
  rcases h with ⟨o39, rfl, h⟩ | ⟨o40, rfl, h⟩
  ·
   obtain rfl := Option.some.inj h
   exact ⟨(domain_bindings_1_v2_b8_O l F uz s s1 s2 s3 s4 s34 s35 s36 s52_1 s52_2 s52_3 s52_4 x s1 s2 s3 s4 s34 s35 s36 s52_1 s52_2 s52_3 s52_4 o27).2, sp 59 0 [], lp_wks (w := [.live [1, 2, 3, 4, 5, 34, 35, 36, 52, 53], .keep [5, 998]]) (s1 := domain_bindings_1_v2_b8_I l F uz s s1 s2 s3 s4 s34 s35 s36 s52_1 s52_2 s52_3 s52_4 x s1 s2 s3 s4 s34 s35 s36 s52_1 s52_2 s52_3 s52_4) (by kernel_rfl) (lp_cast (domain_bindings_1_v2_b8_ok (some m) self step hs l F N hF hY uz s s1 s2 s3 s4 s34 s35 s36 s52_1 s52_2 s52_3 s52_4 x s1 s2 s3 s4 s34 s35 s36 s52_1 s52_2 s52_3 s52_4 o27 h27) rfl (by kernel_rfl) rfl), lp_wks (w := [.live [1, 2, 3, 4, 5, 10, 34, 35, 36, 52], .keep [5, 998]]) (s1 := domain_bindings_1_v2_b10_I l F uz s s1 s2 s3 s4 x s34 s35 s36 s52_1 s52_2 s52_3 s52_4 s1 s2 s3 s4 s34 s35 s36 s52_1 s52_2 s52_3 s52_4) (by kernel_rfl) (lp_cast (domain_bindings_1_v2_b10_ok (some m) self step hs l F N hF hY uz s s1 s2 s3 s4 x s34 s35 s36 s52_1 s52_2 s52_3 s52_4 s1 s2 s3 s4 s34 s35 s36 s52_1 s52_2 s52_3 s52_4 (Sum.inl o39) h28) rfl (by kernel_rfl) (by kernel_rfl))⟩
  ·
   obtain rfl := Option.some.inj h
   exact ⟨(domain_bindings_1_v2_b8_O l F uz s s1 s2 s3 s4 s34 s35 s36 s52_1 s52_2 s52_3 s52_4 x s1 s2 s3 s4 s34 s35 s36 s52_1 s52_2 s52_3 s52_4 o27).2, sp 59 0 [], lp_wks (w := [.live [1, 2, 3, 4, 5, 34, 35, 36, 52, 53], .keep [5, 998]]) (s1 := domain_bindings_1_v2_b8_I l F uz s s1 s2 s3 s4 s34 s35 s36 s52_1 s52_2 s52_3 s52_4 x s1 s2 s3 s4 s34 s35 s36 s52_1 s52_2 s52_3 s52_4) (by kernel_rfl) (lp_cast (domain_bindings_1_v2_b8_ok (some m) self step hs l F N hF hY uz s s1 s2 s3 s4 s34 s35 s36 s52_1 s52_2 s52_3 s52_4 x s1 s2 s3 s4 s34 s35 s36 s52_1 s52_2 s52_3 s52_4 o27 h27) rfl (by kernel_rfl) rfl), lp_wks (w := [.live [1, 2, 3, 4, 5, 10, 34, 35, 36, 52], .keep [5, 998]]) (s1 := domain_bindings_1_v2_b10_I l F uz s s1 s2 s3 s4 x s34 s35 s36 s52_1 s52_2 s52_3 s52_4 s1 s2 s3 s4 s34 s35 s36 s52_1 s52_2 s52_3 s52_4) (by kernel_rfl) (lp_cast (domain_bindings_1_v2_b10_ok (some m) self step hs l F N hF hY uz s s1 s2 s3 s4 x s34 s35 s36 s52_1 s52_2 s52_3 s52_4 s1 s2 s3 s4 s34 s35 s36 s52_1 s52_2 s52_3 s52_4 (Sum.inr o40) h28) rfl (by kernel_rfl) (by kernel_rfl))⟩
theorem domain_bindings_1_v2_r7_ok (self : ∀ ψ : Type, (ψ → (List TSlot) → Option (ψ × Bool)) → Int → (List (List TValue)) → (List TSlot) → Bool → ψ → Option ψ) {φ : Type} (step : φ → (List TSlot) → Option (φ × Bool)) (hs : ∀ (ψ : Type) (step : ψ → (List TSlot) → Option (ψ × Bool)) (a1 : Int) (a2 : List (List TValue)) (a3 : List TSlot) (a4 : Bool) (f0 f1 : ψ), self ψ step a1 a2 a3 a4 f0 = some f1 → AIt Try.prog 60 [.eptr (D.cells ((D.i .i64) a1)), .eptr (D.cells ((D.l (D.l TValue.D)) a2)), .eptr (D.cells ((D.l TSlot.D) a3)), .eptr (D.cells (D.b a4))] domain_bindings_1_v2_enc step f0 f1) (l : Nat) (F : φ → Bx) (N : List Nat) (hF : ∀ f, FOk (F f) N) (hY : ∀ f x r, step f x = some r → AYield Try.prog l (domain_bindings_1_v2_enc x) (F f) (.d (D.b r.2)) (F r.1)) (s1 : Int) (s2 : List (List TValue)) (s3 : List TSlot) (s4 : Bool) (s34 : List TValue) (s35 : Int) (s36 : Int) (s52_1 : Int) (s52_2 : List (List TValue)) (s52_3 : List TSlot) (s52_4 : Bool) (s : φ) (o : (φ) ⊕ (φ)) (h : self _ (stepOf (domain_bindings_1_v2_r7_rd self step s1 s2 s3 s4 s34 s35 s36 s52_1 s52_2 s52_3 s52_4)) s52_1 s52_2 s52_3 s52_4 (.inl s) = some o) : LpOf Try.prog none (fbody Try.prog 60) [0, 1, 1, 1, 0, 0, 1, 1, 0, 0, 1, 1, 1, 1] ⟨domain_bindings_1_v2_r7_E l F s1 s2 s3 s4 s34 s35 s36 s52_1 s52_2 s52_3 s52_4, domain_bindings_1_v2_r7_BL l F s1 s2 s3 s4 s34 s35 s36 s52_1 s52_2 s52_3 s52_4 s, (domain_bindings_1_v2_r7_FL l F s1 s2 s3 s4 s34 s35 s36 s52_1 s52_2 s52_3 s52_4) s⟩ (domain_bindings_1_v2_r7_O l F s1 s2 s3 s4 s34 s35 s36 s52_1 s52_2 s52_3 s52_4 o).1 (domain_bindings_1_v2_r7_O l F s1 s2 s3 s4 s34 s35 s36 s52_1 s52_2 s52_3 s52_4 o).2 :=
  range_ok (p := [0, 1, 1, 1, 0, 0, 1, 1, 0, 0, 1, 1, 1, 1]) (g := .tmp 52) (ps := #[53]) (assign := codeAt (fbody Try.prog 60) (0 :: [0, 1, 1, 1, 0, 0, 1, 1, 0, 0, 1, 1, 1, 1])) (body := codeAt (fbody Try.prog 60) (1 :: [0, 1, 1, 1, 0, 0, 1, 1, 0, 0, 1, 1, 1, 1])) (by kernel_rfl) (domain_bindings_1_v2_r7_BL l F s1 s2 s3 s4 s34 s35 s36 s52_1 s52_2 s52_3 s52_4) (domain_bindings_1_v2_r7_BT l F s1 s2 s3 s4 s34 s35 s36 s52_1 s52_2 s52_3 s52_4) (domain_bindings_1_v2_r7_FL l F s1 s2 s3 s4 s34 s35 s36 s52_1 s52_2 s52_3 s52_4) (domain_bindings_1_v2_r7_FT l F s1 s2 s3 s4 s34 s35 s36 s52_1 s52_2 s52_3 s52_4) domain_bindings_1_v2_r7_X domain_bindings_1_v2_enc (domain_bindings_1_v2_r7_rd self step s1 s2 s3 s4 s34 s35 s36 s52_1 s52_2 s52_3 s52_4) (gf := 60) (cs := [.eptr (D.cells ((D.i .i64) s52_1)), .eptr (D.cells ((D.l (D.l TValue.D)) s52_2)), .eptr (D.cells ((D.l TSlot.D) s52_3)), .eptr (D.cells (D.b s52_4))]) (by kernel_rfl) (by kernel_rfl) (by kernel_rfl) (fun x => ⟨by kernel_rfl, by kernel_rfl⟩) (fun s us => by kernel_rfl) (fun t us => by kernel_rfl) (fun s => rfl) (fun t => rfl) (by kernel_rfl) (fun t => rfl) (fun s => (hF _).to (hF _)) (fun t => (hF _).to (hF _)) (fun s x o h m us => domain_bindings_1_v2_r7_rnd self step hs l F N hF hY s1 s2 s3 s4 s34 s35 s36 s52_1 s52_2 s52_3 s52_4 s x o h m us) (hs _ (stepOf (domain_bindings_1_v2_r7_rd self step s1 s2 s3 s4 s34 s35 s36 s52_1 s52_2 s52_3 s52_4)) s52_1 s52_2 s52_3 s52_4 (.inl s) o h)
def domain_bindings_1_v2_l6_I {φ : Type} (l : Nat) (F : φ → Bx) (s1 : Int) (s2 : List (List TValue)) (s3 : List TSlot) (s4 : Bool) (s34 : List TValue) (s35 : Int) (f0 : φ) (s36 : Int) : St := ⟨sp 59 0 [(1, .eptr (D.cells ((D.i .i64) s1))), (2, .eptr (D.cells ((D.l (D.l TValue.D)) s2))), (3, .eptr (D.cells ((D.l TSlot.D) s3))), (4, .eptr (D.cells (D.b s4))), (5, .box 5 0), (34, .d ((D.l TValue.D) s34)), (35, .d ((D.i .i64) s35)), (36, .d ((D.i .i64) s36))], [(5, .cells ([.d (.v (.func (.yield l) #[] #[]))]))], (F f0)⟩
def domain_bindings_1_v2_l6_O {φ : Type} (l : Nat) (F : φ → Bx) (s1 : Int) (s2 : List (List TValue)) (s3 : List TSlot) (s4 : Bool) (s34 : List TValue) (s35 : Int) (o : φ ⊕ φ) : Ex × St := match o with
  | .inl o => (.exit 2, ⟨sp 59 0 [], [], (F o)⟩)
  | .inr o => (.ret, ⟨sp 59 0 [], [], (F o)⟩)
theorem domain_bindings_1_v2_l6_rnd (_ : Option Nat) (self : ∀ ψ : Type, (ψ → (List TSlot) → Option (ψ × Bool)) → Int → (List (List TValue)) → (List TSlot) → Bool → ψ → Option ψ) {φ : Type} (step : φ → (List TSlot) → Option (φ × Bool)) (hs : ∀ (ψ : Type) (step : ψ → (List TSlot) → Option (ψ × Bool)) (a1 : Int) (a2 : List (List TValue)) (a3 : List TSlot) (a4 : Bool) (f0 f1 : ψ), self ψ step a1 a2 a3 a4 f0 = some f1 → AIt Try.prog 60 [.eptr (D.cells ((D.i .i64) a1)), .eptr (D.cells ((D.l (D.l TValue.D)) a2)), .eptr (D.cells ((D.l TSlot.D) a3)), .eptr (D.cells (D.b a4))] domain_bindings_1_v2_enc step f0 f1) (l : Nat) (F : φ → Bx) (N : List Nat) (hF : ∀ f, FOk (F f) N) (hY : ∀ f x r, step f x = some r → AYield Try.prog l (domain_bindings_1_v2_enc x) (F f) (.d (D.b r.2)) (F r.1)) (s1 : Int) (s2 : List (List TValue)) (s3 : List TSlot) (s4 : Bool) (s34 : List TValue) (s35 : Int) (f0 : φ) (s36 : Int) (o : (φ × Int) ⊕ (φ ⊕ φ)) (h : domain_bindings_1_v2_l6_s self step s1 s2 s3 s4 s34 s35 f0 s36 = some o) : Arr Try.prog none (fbody Try.prog 60) (0 :: [0, 1, 1, 1, 1]) (domain_bindings_1_v2_l6_I l F s1 s2 s3 s4 s34 s35 f0 s36) (rR (fun s : φ × Int => domain_bindings_1_v2_l6_I l F s1 s2 s3 s4 s34 s35 s.1 s.2) (domain_bindings_1_v2_l6_O l F s1 s2 s3 s4 s34 s35) o).1 (rR (fun s : φ × Int => domain_bindings_1_v2_l6_I l F s1 s2 s3 s4 s34 s35 s.1 s.2) (domain_bindings_1_v2_l6_O l F s1 s2 s3 s4 s34 s35) o).2 := by
  unfold domain_bindings_1_v2_l6_s at h
  rcases iteE_some h with ⟨h14, h⟩ | ⟨h14, h⟩
  ·
   obtain ⟨x20, h15, h⟩ := idxE_some h
   obtain ⟨r21, h16, h⟩ := bndE_some h
   obtain ⟨h17, h⟩ := chkE_some h
   obtain ⟨r22, h18, h⟩ := bndE_some h
   obtain ⟨o31, h23, h⟩ := bndE_some h
   replace h := sumE_some h
   rcases h with ⟨o32, rfl, h⟩ | ⟨o33, rfl, h⟩
   ·
    obtain rfl := Option.some.inj h
    exact runB_arr mixed [(37, .bit true), (38, .el (TValue.D x20)), (41, .cx true [] [(0, 41)] (.row 0) [(0, .rw 119 5 (r21.map TSlot.D))]), (46, .rwl ((r21 ++ [TSlot.mk s1 x20]).map TSlot.D)), (50, .fzn 46), (52, .ret (.clo (.func 60) [] [.eptr (D.cells ((D.i .i64) r22.1)), .eptr (D.cells ((D.l (D.l TValue.D)) r22.2.1)), .eptr (D.cells ((D.l TSlot.D) r22.2.2.1)), .eptr (D.cells (D.b r22.2.2.2))]))] [⟨[0, 1, 1, 1, 0, 0, 1, 1, 0, 0, 1, 1, 1, 1], [.live [1, 2, 3, 4, 5, 34, 35, 36, 52], .keep [5]], .normal, (domain_bindings_1_v2_r7_O l F s1 s2 s3 s4 s34 s35 s36 r22.1 r22.2.1 r22.2.2.1 r22.2.2.2 (Sum.inl o32)).2⟩] [.live [1, 2, 3, 4, 5, 34, 35, 36], .keep [5]] (ai h14 (ai (elem_map TValue.D h15) (ai (slices_Clone_Slot_Slot_v2_ok s3 r21 h16) (ai (nc_ok TSlot.D [TSlot.mk s1 x20]) (ai (nc_ok TSlot.D [TSlot.mk s1 x20]) (ai (fit_map TSlot.D h17) (ai (app_map TSlot.D r21 [TSlot.mk s1 x20]) (ai (domain_bindings_v2_ok s2 (intVal .add .i64 s1 1) (r21 ++ [TSlot.mk s1 x20]) s4 r22 h18) (ai (domain_bindings_1_v2_r7_ok self step hs l F N hF hY s1 s2 s3 s4 s34 s35 s36 r22.1 r22.2.1 r22.2.2.1 r22.2.2.2 f0 (Sum.inl o32) h23) (ti)))))))))) (by kernel_rfl)
   ·
    obtain rfl := Option.some.inj h
    exact runB_arr mixed [(37, .bit true), (38, .el (TValue.D x20)), (41, .cx true [] [(0, 41)] (.row 0) [(0, .rw 119 5 (r21.map TSlot.D))]), (46, .rwl ((r21 ++ [TSlot.mk s1 x20]).map TSlot.D)), (50, .fzn 46), (52, .ret (.clo (.func 60) [] [.eptr (D.cells ((D.i .i64) r22.1)), .eptr (D.cells ((D.l (D.l TValue.D)) r22.2.1)), .eptr (D.cells ((D.l TSlot.D) r22.2.2.1)), .eptr (D.cells (D.b r22.2.2.2))]))] [⟨[0, 1, 1, 1, 0, 0, 1, 1, 0, 0, 1, 1, 1, 1], [.live [1, 2, 3, 4, 5, 34, 35, 36, 52], .keep [5]], .ret, (domain_bindings_1_v2_r7_O l F s1 s2 s3 s4 s34 s35 s36 r22.1 r22.2.1 r22.2.2.1 r22.2.2.2 (Sum.inr o33)).2⟩] [.live [], .keep []] (ai h14 (ai (elem_map TValue.D h15) (ai (slices_Clone_Slot_Slot_v2_ok s3 r21 h16) (ai (nc_ok TSlot.D [TSlot.mk s1 x20]) (ai (nc_ok TSlot.D [TSlot.mk s1 x20]) (ai (fit_map TSlot.D h17) (ai (app_map TSlot.D r21 [TSlot.mk s1 x20]) (ai (domain_bindings_v2_ok s2 (intVal .add .i64 s1 1) (r21 ++ [TSlot.mk s1 x20]) s4 r22 h18) (ai (domain_bindings_1_v2_r7_ok self step hs l F N hF hY s1 s2 s3 s4 s34 s35 s36 r22.1 r22.2.1 r22.2.2.1 r22.2.2.2 f0 (Sum.inr o33) h23) (ti)))))))))) (by kernel_rfl)
  ·
   obtain rfl := Option.some.inj h
   exact runB_arr mixed [(37, .bit false)] [] [.live [], .keep []] (ai h14 (ti)) (by kernel_rfl)
theorem domain_bindings_1_v2_l6_ok (_ : Option Nat) (self : ∀ ψ : Type, (ψ → (List TSlot) → Option (ψ × Bool)) → Int → (List (List TValue)) → (List TSlot) → Bool → ψ → Option ψ) {φ : Type} (step : φ → (List TSlot) → Option (φ × Bool)) (hs : ∀ (ψ : Type) (step : ψ → (List TSlot) → Option (ψ × Bool)) (a1 : Int) (a2 : List (List TValue)) (a3 : List TSlot) (a4 : Bool) (f0 f1 : ψ), self ψ step a1 a2 a3 a4 f0 = some f1 → AIt Try.prog 60 [.eptr (D.cells ((D.i .i64) a1)), .eptr (D.cells ((D.l (D.l TValue.D)) a2)), .eptr (D.cells ((D.l TSlot.D) a3)), .eptr (D.cells (D.b a4))] domain_bindings_1_v2_enc step f0 f1) (l : Nat) (F : φ → Bx) (N : List Nat) (hF : ∀ f, FOk (F f) N) (hY : ∀ f x r, step f x = some r → AYield Try.prog l (domain_bindings_1_v2_enc x) (F f) (.d (D.b r.2)) (F r.1)) (s1 : Int) (s2 : List (List TValue)) (s3 : List TSlot) (s4 : Bool) (s34 : List TValue) (s35 : Int) (f0 : φ) (s36 : Int) (t : φ ⊕ φ) (h : domain_bindings_1_v2_l6 self step s1 s2 s3 s4 s34 s35 f0 s36 = some t) : LpOf Try.prog none (fbody Try.prog 60) [0, 1, 1, 1, 1] (domain_bindings_1_v2_l6_I l F s1 s2 s3 s4 s34 s35 f0 s36) ((domain_bindings_1_v2_l6_O l F s1 s2 s3 s4 s34 s35) t).1 ((domain_bindings_1_v2_l6_O l F s1 s2 s3 s4 s34 s35) t).2 :=
  loopE_lpR (fun s : φ × Int => domain_bindings_1_v2_l6_I l F s1 s2 s3 s4 s34 s35 s.1 s.2) (domain_bindings_1_v2_l6_O l F s1 s2 s3 s4 s34 s35) (by kernel_rfl) (fun t => isN_ne (by rcases t with (_ | _) <;> rfl)) (fun s o h => domain_bindings_1_v2_l6_rnd none self step hs l F N hF hY s1 s2 s3 s4 s34 s35 s.1 s.2 o h) (s := (f0, s36)) (t := t) h
theorem domain_bindings_1_v2_F_ok (self : ∀ ψ : Type, (ψ → (List TSlot) → Option (ψ × Bool)) → Int → (List (List TValue)) → (List TSlot) → Bool → ψ → Option ψ) {φ : Type} (step : φ → (List TSlot) → Option (φ × Bool)) (hs : ∀ (ψ : Type) (step : ψ → (List TSlot) → Option (ψ × Bool)) (a1 : Int) (a2 : List (List TValue)) (a3 : List TSlot) (a4 : Bool) (f0 f1 : ψ), self ψ step a1 a2 a3 a4 f0 = some f1 → AIt Try.prog 60 [.eptr (D.cells ((D.i .i64) a1)), .eptr (D.cells ((D.l (D.l TValue.D)) a2)), .eptr (D.cells ((D.l TSlot.D) a3)), .eptr (D.cells (D.b a4))] domain_bindings_1_v2_enc step f0 f1) (a1 : Int) (a2 : List (List TValue)) (a3 : List TSlot) (a4 : Bool) (f0 : φ) (f1 : φ) (h : domain_bindings_1_v2_F self step a1 a2 a3 a4 f0 = some f1) : AIt Try.prog 60 [.eptr (D.cells ((D.i .i64) a1)), .eptr (D.cells ((D.l (D.l TValue.D)) a2)), .eptr (D.cells ((D.l TSlot.D) a3)), .eptr (D.cells (D.b a4))] domain_bindings_1_v2_enc step f0 f1 := by
  intro l F N hF hY
  refine ⟨.tup [], ?_⟩
  unfold domain_bindings_1_v2_F at h
  rcases iteE_some h with ⟨h1, h⟩ | ⟨h1, h⟩
  ·
   obtain ⟨r1, h2, h⟩ := bndE_some h
   rcases yldE_some h with ⟨f2, h3, h⟩ | ⟨f3, h4, h⟩
   ·
    obtain rfl := Option.some.inj h
    exact runI_call mixed [(13, .int (a2.length : Int)), (14, .bit true), (17, .ret (.d ((D.l TSlot.D) r1))), (18, .own false (.d (D.b true)) [] (F f2))] [] [] (hF _).far (hF _).cls (ai (len_map (D.l TValue.D) a2) (ai h1 (ai (slices_Clone_Slot_Slot_ok a3 r1 h2) (ai (hY f0 r1 (f2, true) h3) (ai (Or.inr ⟨(hF _).nms.trans (hF _).nms.symm, (hF _).far⟩ : F f2 = F f0 ∨ (names (F f2) = names (F f0) ∧ Far (F f2))) (ti)))))) (by kernel_rfl)
   ·
    obtain rfl := Option.some.inj h
    exact runI_call mixed [(13, .int (a2.length : Int)), (14, .bit true), (17, .ret (.d ((D.l TSlot.D) r1))), (18, .own false (.d (D.b false)) [] (F f3))] [] [] (hF _).far (hF _).cls (ai (len_map (D.l TValue.D) a2) (ai h1 (ai (slices_Clone_Slot_Slot_ok a3 r1 h2) (ai (hY f0 r1 (f3, false) h4) (ai (Or.inr ⟨(hF _).nms.trans (hF _).nms.symm, (hF _).far⟩ : F f3 = F f0 ∨ (names (F f3) = names (F f0) ∧ Far (F f3))) (ti)))))) (by kernel_rfl)
  ·
   obtain ⟨o16, h12, h⟩ := bndE_some h
   replace h := sumE_some h
   rcases h with ⟨o17, rfl, h⟩ | ⟨o18, rfl, h⟩
   ·
    obtain ⟨x19, h13, h⟩ := idxE_some h
    obtain ⟨o34, h24, h⟩ := bndE_some h
    replace h := sumE_some h
    rcases h with ⟨o35, rfl, h⟩ | ⟨o36, rfl, h⟩
    ·
     obtain rfl := Option.some.inj h
     exact runI_call mixed [(13, .int (a2.length : Int)), (14, .bit false), (33, .el ((D.l TValue.D) x19)), (35, .int (x19.length : Int))] [⟨[1, 0, 1, 1], [.live [1, 2, 3, 4, 5, 19], .keep [5]], .normal, (domain_bindings_1_v2_b1_O l F f0 a1 a2 a3 a4 a4 (Sum.inl o17)).2⟩, ⟨[0, 1, 1, 1, 1], [.live [1, 2, 3, 4, 5, 34, 35, 36], .keep [5]], .exit 2, (domain_bindings_1_v2_l6_O l F a1 a2 a3 a4 x19 (x19.length : Int) (Sum.inl o35)).2⟩] [] (hF _).far (hF _).cls (ai (len_map (D.l TValue.D) a2) (ai h1 (ai (domain_bindings_1_v2_b1_ok none self step hs l F N hF hY f0 a1 a2 a3 a4 a4 (Sum.inl o17) h12) (ai (elem_map (D.l TValue.D) h13) (ai (len_map TValue.D x19) (ai (domain_bindings_1_v2_l6_ok none self step hs l F N hF hY a1 a2 a3 a4 x19 (x19.length : Int) o17 0 (Sum.inl o35) h24) (ti))))))) (by kernel_rfl)
    ·
     obtain rfl := Option.some.inj h
     exact runI_call mixed [(13, .int (a2.length : Int)), (14, .bit false), (33, .el ((D.l TValue.D) x19)), (35, .int (x19.length : Int))] [⟨[1, 0, 1, 1], [.live [1, 2, 3, 4, 5, 19], .keep [5]], .normal, (domain_bindings_1_v2_b1_O l F f0 a1 a2 a3 a4 a4 (Sum.inl o17)).2⟩, ⟨[0, 1, 1, 1, 1], [.live [1, 2, 3, 4, 5, 34, 35, 36], .keep [5]], .ret, (domain_bindings_1_v2_l6_O l F a1 a2 a3 a4 x19 (x19.length : Int) (Sum.inr o36)).2⟩] [] (hF _).far (hF _).cls (ai (len_map (D.l TValue.D) a2) (ai h1 (ai (domain_bindings_1_v2_b1_ok none self step hs l F N hF hY f0 a1 a2 a3 a4 a4 (Sum.inl o17) h12) (ai (elem_map (D.l TValue.D) h13) (ai (len_map TValue.D x19) (ai (domain_bindings_1_v2_l6_ok none self step hs l F N hF hY a1 a2 a3 a4 x19 (x19.length : Int) o17 0 (Sum.inr o36) h24) (ti))))))) (by kernel_rfl)
   ·
    obtain rfl := Option.some.inj h
    exact runI_call mixed [(13, .int (a2.length : Int)), (14, .bit false)] [⟨[1, 0, 1, 1], [.live [1, 2, 3, 4, 5, 19], .keep [5]], .ret, (domain_bindings_1_v2_b1_O l F f0 a1 a2 a3 a4 a4 (Sum.inr o18)).2⟩] [] (hF _).far (hF _).cls (ai (len_map (D.l TValue.D) a2) (ai h1 (ai (domain_bindings_1_v2_b1_ok none self step hs l F N hF hY f0 a1 a2 a3 a4 a4 (Sum.inr o18) h12) (ti)))) (by kernel_rfl)
theorem domain_bindings_1_v2_n_ok : ∀ (n : Nat) (ψ : Type) (step : ψ → (List TSlot) → Option (ψ × Bool)) (a1 : Int) (a2 : List (List TValue)) (a3 : List TSlot) (a4 : Bool) (f0 f1 : ψ), domain_bindings_1_v2_n n ψ step a1 a2 a3 a4 f0 = some f1 → AIt Try.prog 60 [.eptr (D.cells ((D.i .i64) a1)), .eptr (D.cells ((D.l (D.l TValue.D)) a2)), .eptr (D.cells ((D.l TSlot.D) a3)), .eptr (D.cells (D.b a4))] domain_bindings_1_v2_enc step f0 f1
  | 0, _, step, a1, a2, a3, a4, f0, f1, h => by simp [domain_bindings_1_v2_n] at h
  | n + 1, _, step, a1, a2, a3, a4, f0, f1, h => domain_bindings_1_v2_F_ok _ step (domain_bindings_1_v2_n_ok n) a1 a2 a3 a4 f0 f1 h
theorem domain_bindings_1_v2_ok {φ : Type} (step : φ → (List TSlot) → Option (φ × Bool)) (a1 : Int) (a2 : List (List TValue)) (a3 : List TSlot) (a4 : Bool) (f0 : φ) (f1 : φ) (h : domain_bindings_1_v2 step a1 a2 a3 a4 f0 = some f1) : AIt Try.prog 60 [.eptr (D.cells ((D.i .i64) a1)), .eptr (D.cells ((D.l (D.l TValue.D)) a2)), .eptr (D.cells ((D.l TSlot.D) a3)), .eptr (D.cells (D.b a4))] domain_bindings_1_v2_enc step f0 f1 := domain_bindings_1_v2_n_ok 100000 _ step a1 a2 a3 a4 f0 f1 h
def domain_bindings_1_enc (x : (List TSlot)) : List A := [.d ((D.l TSlot.D) x)]
def domain_bindings_1_b3_I {φ : Type} (l : Nat) (F : φ → Bx) (uz : List Value) (f0 : φ) (s1 : Int) (s2 : List (List TValue)) (s3 : List TSlot) (s4 : Bool) (s25_1 : Int) (s25_2 : List (List TValue)) (s25_3 : List TSlot) (s25_4 : Bool) (s26 : List TSlot) (w998_1 : Int) (w998_2 : List (List TValue)) (w998_3 : List TSlot) (w998_4 : Bool) (w998_5 : Int) (w998_6 : List (List TValue)) (w998_7 : List TSlot) (w998_8 : Bool) : St := ⟨sp 59 0 [(1, .eptr (D.cells ((D.i .i64) s1))), (2, .eptr (D.cells ((D.l (D.l TValue.D)) s2))), (3, .eptr (D.cells ((D.l TSlot.D) s3))), (4, .eptr (D.cells (D.b s4))), (5, .box 5 0), (25, .clo (.func 60) [] [.eptr (D.cells ((D.i .i64) s25_1)), .eptr (D.cells ((D.l (D.l TValue.D)) s25_2)), .eptr (D.cells ((D.l TSlot.D) s25_3)), .eptr (D.cells (D.b s25_4))]), (26, .d ((D.l TSlot.D) s26))], [(5, .cells ([.d (.v (.func (.yield l) #[] #[]))])), (998, .vals (sp 59 0 [(1, .eptr (D.cells ((D.i .i64) w998_1))), (2, .eptr (D.cells ((D.l (D.l TValue.D)) w998_2))), (3, .eptr (D.cells ((D.l TSlot.D) w998_3))), (4, .eptr (D.cells (D.b w998_4))), (5, .box 5 0), (25, .clo (.func 60) [] [.eptr (D.cells ((D.i .i64) w998_5)), .eptr (D.cells ((D.l (D.l TValue.D)) w998_6)), .eptr (D.cells ((D.l TSlot.D) w998_7)), .eptr (D.cells (D.b w998_8))])]) uz)], (F f0)⟩
def domain_bindings_1_b3_O {φ : Type} (l : Nat) (F : φ → Bx) (uz : List Value) (f0 : φ) (s1 : Int) (s2 : List (List TValue)) (s3 : List TSlot) (s4 : Bool) (s25_1 : Int) (s25_2 : List (List TValue)) (s25_3 : List TSlot) (s25_4 : Bool) (s26 : List TSlot) (w998_1 : Int) (w998_2 : List (List TValue)) (w998_3 : List TSlot) (w998_4 : Bool) (w998_5 : Int) (w998_6 : List (List TValue)) (w998_7 : List TSlot) (w998_8 : Bool) (o : Unit) : Ex × St := (.normal, ⟨sp 59 0 [(1, .eptr (D.cells ((D.i .i64) s1))), (2, .eptr (D.cells ((D.l (D.l TValue.D)) s2))), (3, .eptr (D.cells ((D.l TSlot.D) s3))), (4, .eptr (D.cells (D.b s4))), (5, .box 5 0), (6, .d ((D.l TSlot.D) s26)), (25, .clo (.func 60) [] [.eptr (D.cells ((D.i .i64) s25_1)), .eptr (D.cells ((D.l (D.l TValue.D)) s25_2)), .eptr (D.cells ((D.l TSlot.D) s25_3)), .eptr (D.cells (D.b s25_4))])], [(5, .cells ([.d (.v (.func (.yield l) #[] #[]))])), (998, .vals (sp 59 0 [(1, .eptr (D.cells ((D.i .i64) w998_1))), (2, .eptr (D.cells ((D.l (D.l TValue.D)) w998_2))), (3, .eptr (D.cells ((D.l TSlot.D) w998_3))), (4, .eptr (D.cells (D.b w998_4))), (5, .box 5 0), (25, .clo (.func 60) [] [.eptr (D.cells ((D.i .i64) w998_5)), .eptr (D.cells ((D.l (D.l TValue.D)) w998_6)), .eptr (D.cells ((D.l TSlot.D) w998_7)), .eptr (D.cells (D.b w998_8))])]) uz)], (F f0)⟩)
theorem domain_bindings_1_b3_ok (rd : Option Nat) {φ : Type} (step : φ → (List TSlot) → Option (φ × Bool)) (l : Nat) (F : φ → Bx) (N : List Nat) (hF : ∀ f, FOk (F f) N) (hY : ∀ f x r, step f x = some r → AYield Try.prog l (domain_bindings_1_enc x) (F f) (.d (D.b r.2)) (F r.1)) (uz : List Value) (f0 : φ) (s1 : Int) (s2 : List (List TValue)) (s3 : List TSlot) (s4 : Bool) (s25_1 : Int) (s25_2 : List (List TValue)) (s25_3 : List TSlot) (s25_4 : Bool) (s26 : List TSlot) (w998_1 : Int) (w998_2 : List (List TValue)) (w998_3 : List TSlot) (w998_4 : Bool) (w998_5 : Int) (w998_6 : List (List TValue)) (w998_7 : List TSlot) (w998_8 : Bool) (o : Unit) (h : domain_bindings_1_b3 step f0 s1 s2 s3 s4 s25_1 s25_2 s25_3 s25_4 s26 w998_1 w998_2 w998_3 w998_4 w998_5 w998_6 w998_7 w998_8 = some o) : LpOf Try.prog rd (fbody Try.prog 60) [0, 0, 1, 0, 1, 0, 1, 1] (domain_bindings_1_b3_I l F uz f0 s1 s2 s3 s4 s25_1 s25_2 s25_3 s25_4 s26 w998_1 w998_2 w998_3 w998_4 w998_5 w998_6 w998_7 w998_8) (domain_bindings_1_b3_O l F uz f0 s1 s2 s3 s4 s25_1 s25_2 s25_3 s25_4 s26 w998_1 w998_2 w998_3 w998_4 w998_5 w998_6 w998_7 w998_8 o).1 (domain_bindings_1_b3_O l F uz f0 s1 s2 s3 s4 s25_1 s25_2 s25_3 s25_4 s26 w998_1 w998_2 w998_3 w998_4 w998_5 w998_6 w998_7 w998_8 o).2 := by
  unfold domain_bindings_1_b3 at h
  obtain rfl := Option.some.inj h
  exact (runB_arr mixed [] [] [.live [1, 2, 3, 4, 5, 6, 25], .keep [5, 998]] (ti) (by kernel_rfl)).lp
def domain_bindings_1_b5_I {φ : Type} (l : Nat) (F : φ → Bx) (uz : List Value) (f0 : φ) (s1 : Int) (s2 : List (List TValue)) (s3 : List TSlot) (s4 : Bool) (s6 : List TSlot) (s25_1 : Int) (s25_2 : List (List TValue)) (s25_3 : List TSlot) (s25_4 : Bool) (w998_1 : Int) (w998_2 : List (List TValue)) (w998_3 : List TSlot) (w998_4 : Bool) (w998_5 : Int) (w998_6 : List (List TValue)) (w998_7 : List TSlot) (w998_8 : Bool) : St := ⟨sp 59 0 [(1, .eptr (D.cells ((D.i .i64) s1))), (2, .eptr (D.cells ((D.l (D.l TValue.D)) s2))), (3, .eptr (D.cells ((D.l TSlot.D) s3))), (4, .eptr (D.cells (D.b s4))), (5, .box 5 0), (6, .d ((D.l TSlot.D) s6)), (25, .clo (.func 60) [] [.eptr (D.cells ((D.i .i64) s25_1)), .eptr (D.cells ((D.l (D.l TValue.D)) s25_2)), .eptr (D.cells ((D.l TSlot.D) s25_3)), .eptr (D.cells (D.b s25_4))])], [(5, .cells ([.d (.v (.func (.yield l) #[] #[]))])), (998, .vals (sp 59 0 [(1, .eptr (D.cells ((D.i .i64) w998_1))), (2, .eptr (D.cells ((D.l (D.l TValue.D)) w998_2))), (3, .eptr (D.cells ((D.l TSlot.D) w998_3))), (4, .eptr (D.cells (D.b w998_4))), (5, .box 5 0), (25, .clo (.func 60) [] [.eptr (D.cells ((D.i .i64) w998_5)), .eptr (D.cells ((D.l (D.l TValue.D)) w998_6)), .eptr (D.cells ((D.l TSlot.D) w998_7)), .eptr (D.cells (D.b w998_8))])]) uz)], (F f0)⟩
def domain_bindings_1_b5_O {φ : Type} (l : Nat) (F : φ → Bx) (uz : List Value) (f0 : φ) (s1 : Int) (s2 : List (List TValue)) (s3 : List TSlot) (s4 : Bool) (s6 : List TSlot) (s25_1 : Int) (s25_2 : List (List TValue)) (s25_3 : List TSlot) (s25_4 : Bool) (w998_1 : Int) (w998_2 : List (List TValue)) (w998_3 : List TSlot) (w998_4 : Bool) (w998_5 : Int) (w998_6 : List (List TValue)) (w998_7 : List TSlot) (w998_8 : Bool) (o : φ ⊕ φ) : Ex × St := match o with
  | .inl o => (.normal, ⟨sp 59 0 [], [(5, .cells ([.d (.v (.func (.yield l) #[] #[]))])), (998, .vals (sp 59 0 [(1, .eptr (D.cells ((D.i .i64) w998_1))), (2, .eptr (D.cells ((D.l (D.l TValue.D)) w998_2))), (3, .eptr (D.cells ((D.l TSlot.D) w998_3))), (4, .eptr (D.cells (D.b w998_4))), (5, .box 5 0), (25, .clo (.func 60) [] [.eptr (D.cells ((D.i .i64) w998_5)), .eptr (D.cells ((D.l (D.l TValue.D)) w998_6)), .eptr (D.cells ((D.l TSlot.D) w998_7)), .eptr (D.cells (D.b w998_8))])]) uz)], (F o)⟩)
  | .inr o => (.ret, ⟨sp 59 0 [], [(5, .cells ([.d (.v (.func (.yield l) #[] #[]))])), (998, .vals (sp 59 0 [(1, .eptr (D.cells ((D.i .i64) w998_1))), (2, .eptr (D.cells ((D.l (D.l TValue.D)) w998_2))), (3, .eptr (D.cells ((D.l TSlot.D) w998_3))), (4, .eptr (D.cells (D.b w998_4))), (5, .box 5 0), (25, .clo (.func 60) [] [.eptr (D.cells ((D.i .i64) w998_5)), .eptr (D.cells ((D.l (D.l TValue.D)) w998_6)), .eptr (D.cells ((D.l TSlot.D) w998_7)), .eptr (D.cells (D.b w998_8))])]) uz)], (F o)⟩)
theorem domain_bindings_1_b5_ok (rd : Option Nat) {φ : Type} (step : φ → (List TSlot) → Option (φ × Bool)) (l : Nat) (F : φ → Bx) (N : List Nat) (hF : ∀ f, FOk (F f) N) (hY : ∀ f x r, step f x = some r → AYield Try.prog l (domain_bindings_1_enc x) (F f) (.d (D.b r.2)) (F r.1)) (uz : List Value) (f0 : φ) (s1 : Int) (s2 : List (List TValue)) (s3 : List TSlot) (s4 : Bool) (s6 : List TSlot) (s25_1 : Int) (s25_2 : List (List TValue)) (s25_3 : List TSlot) (s25_4 : Bool) (w998_1 : Int) (w998_2 : List (List TValue)) (w998_3 : List TSlot) (w998_4 : Bool) (w998_5 : Int) (w998_6 : List (List TValue)) (w998_7 : List TSlot) (w998_8 : Bool) (o : φ ⊕ φ) (h : domain_bindings_1_b5 step f0 s1 s2 s3 s4 s6 s25_1 s25_2 s25_3 s25_4 w998_1 w998_2 w998_3 w998_4 w998_5 w998_6 w998_7 w998_8 = some o) : LpOf Try.prog rd (fbody Try.prog 60) [1, 0, 1, 0, 1, 0, 1, 1] (domain_bindings_1_b5_I l F uz f0 s1 s2 s3 s4 s6 s25_1 s25_2 s25_3 s25_4 w998_1 w998_2 w998_3 w998_4 w998_5 w998_6 w998_7 w998_8) (domain_bindings_1_b5_O l F uz f0 s1 s2 s3 s4 s6 s25_1 s25_2 s25_3 s25_4 w998_1 w998_2 w998_3 w998_4 w998_5 w998_6 w998_7 w998_8 o).1 (domain_bindings_1_b5_O l F uz f0 s1 s2 s3 s4 s6 s25_1 s25_2 s25_3 s25_4 w998_1 w998_2 w998_3 w998_4 w998_5 w998_6 w998_7 w998_8 o).2 := by
  unfold domain_bindings_1_b5 at h
  rcases yldE_some h with ⟨f10, h9, h⟩ | ⟨f11, h10, h⟩
  ·
   obtain rfl := Option.some.inj h
   exact (runB_arr mixed [(29, .own false (.d (D.b true)) [] (F f10))] [] [.live [], .keep [5, 998]] (ai (hY f0 s6 (f10, true) h9) (ai (Or.inr ⟨(hF _).nms.trans (hF _).nms.symm, (hF _).far⟩ : F f10 = F f0 ∨ (names (F f10) = names (F f0) ∧ Far (F f10))) (ti))) (by kernel_rfl)).lp
  ·
   obtain rfl := Option.some.inj h
   exact (runB_arr mixed [(29, .own false (.d (D.b false)) [] (F f11))] [] [.live [], .keep [5, 998]] (ai (hY f0 s6 (f11, false) h10) (ai (Or.inr ⟨(hF _).nms.trans (hF _).nms.symm, (hF _).far⟩ : F f11 = F f0 ∨ (names (F f11) = names (F f0) ∧ Far (F f11))) (ti))) (by kernel_rfl)).lp
def domain_bindings_1_r2_E {φ : Type} (l : Nat) (F : φ → Bx) (s1 : Int) (s2 : List (List TValue)) (s3 : List TSlot) (s4 : Bool) (s25_1 : Int) (s25_2 : List (List TValue)) (s25_3 : List TSlot) (s25_4 : Bool) : List A := sp 59 0 [(1, .eptr (D.cells ((D.i .i64) s1))), (2, .eptr (D.cells ((D.l (D.l TValue.D)) s2))), (3, .eptr (D.cells ((D.l TSlot.D) s3))), (4, .eptr (D.cells (D.b s4))), (5, .box 5 0), (25, .clo (.func 60) [] [.eptr (D.cells ((D.i .i64) s25_1)), .eptr (D.cells ((D.l (D.l TValue.D)) s25_2)), .eptr (D.cells ((D.l TSlot.D) s25_3)), .eptr (D.cells (D.b s25_4))])]
def domain_bindings_1_r2_BL {φ : Type} (l : Nat) (F : φ → Bx) (s1 : Int) (s2 : List (List TValue)) (s3 : List TSlot) (s4 : Bool) (s25_1 : Int) (s25_2 : List (List TValue)) (s25_3 : List TSlot) (s25_4 : Bool) (s : φ) : Bx := [(5, .cells ([.d (.v (.func (.yield l) #[] #[]))]))]
def domain_bindings_1_r2_BT {φ : Type} (l : Nat) (F : φ → Bx) (s1 : Int) (s2 : List (List TValue)) (s3 : List TSlot) (s4 : Bool) (s25_1 : Int) (s25_2 : List (List TValue)) (s25_3 : List TSlot) (s25_4 : Bool) (t : φ) : Bx := [(5, .cells ([.d (.v (.func (.yield l) #[] #[]))]))]
def domain_bindings_1_r2_X {φ : Type} (t : φ) : Ex := .ret
def domain_bindings_1_r2_FL {φ : Type} (l : Nat) (F : φ → Bx) (s1 : Int) (s2 : List (List TValue)) (s3 : List TSlot) (s4 : Bool) (s25_1 : Int) (s25_2 : List (List TValue)) (s25_3 : List TSlot) (s25_4 : Bool) (s : φ) : Bx := F s
def domain_bindings_1_r2_FT {φ : Type} (l : Nat) (F : φ → Bx) (s1 : Int) (s2 : List (List TValue)) (s3 : List TSlot) (s4 : Bool) (s25_1 : Int) (s25_2 : List (List TValue)) (s25_3 : List TSlot) (s25_4 : Bool) (t : φ) : Bx := F t
def domain_bindings_1_r2_O {φ : Type} (l : Nat) (F : φ → Bx) (s1 : Int) (s2 : List (List TValue)) (s3 : List TSlot) (s4 : Bool) (s25_1 : Int) (s25_2 : List (List TValue)) (s25_3 : List TSlot) (s25_4 : Bool) (o : (φ) ⊕ (φ)) : Ex × St := (rex domain_bindings_1_r2_X o, ⟨domain_bindings_1_r2_E l F s1 s2 s3 s4 s25_1 s25_2 s25_3 s25_4, rbx (domain_bindings_1_r2_BL l F s1 s2 s3 s4 s25_1 s25_2 s25_3 s25_4) (domain_bindings_1_r2_BT l F s1 s2 s3 s4 s25_1 s25_2 s25_3 s25_4) o, rbx (domain_bindings_1_r2_FL l F s1 s2 s3 s4 s25_1 s25_2 s25_3 s25_4) (domain_bindings_1_r2_FT l F s1 s2 s3 s4 s25_1 s25_2 s25_3 s25_4) o⟩)
theorem domain_bindings_1_r2_rnd {φ : Type} (step : φ → (List TSlot) → Option (φ × Bool)) (l : Nat) (F : φ → Bx) (N : List Nat) (hF : ∀ f, FOk (F f) N) (hY : ∀ f x r, step f x = some r → AYield Try.prog l (domain_bindings_1_enc x) (F f) (.d (D.b r.2)) (F r.1)) (s1 : Int) (s2 : List (List TValue)) (s3 : List TSlot) (s4 : Bool) (s25_1 : Int) (s25_2 : List (List TValue)) (s25_3 : List TSlot) (s25_4 : Bool) (s : φ) (x : (List TSlot)) (o : (φ) ⊕ (φ)) (h : domain_bindings_1_r2_rd step s1 s2 s3 s4 s25_1 s25_2 s25_3 s25_4 s x = some o) (m : Nat) (uz : List Value) : ∃ M E1, LpOf Try.prog (some m) (fbody Try.prog 60) (0 :: [0, 1, 0, 1, 0, 1, 1]) ⟨setPs (domain_bindings_1_r2_E l F s1 s2 s3 s4 s25_1 s25_2 s25_3 s25_4) ((Array.toList #[26]).zip (domain_bindings_1_v2_enc x)), domain_bindings_1_r2_BL l F s1 s2 s3 s4 s25_1 s25_2 s25_3 s25_4 s ++ [(vn, .vals (domain_bindings_1_r2_E l F s1 s2 s3 s4 s25_1 s25_2 s25_3 s25_4) uz)], (domain_bindings_1_r2_FL l F s1 s2 s3 s4 s25_1 s25_2 s25_3 s25_4) s⟩ .normal M ∧
    LpOf Try.prog (some m) (fbody Try.prog 60) (1 :: [0, 1, 0, 1, 0, 1, 1]) M (rex domain_bindings_1_r2_X o) ⟨E1, rbx (domain_bindings_1_r2_BL l F s1 s2 s3 s4 s25_1 s25_2 s25_3 s25_4) (domain_bindings_1_r2_BT l F s1 s2 s3 s4 s25_1 s25_2 s25_3 s25_4) o ++ [(vn, .vals (domain_bindings_1_r2_E l F s1 s2 s3 s4 s25_1 s25_2 s25_3 s25_4) uz)], rbx (domain_bindings_1_r2_FL l F s1 s2 s3 s4 s25_1 s25_2 s25_3 s25_4) (domain_bindings_1_r2_FT l F s1 s2 s3 s4 s25_1 s25_2 s25_3 s25_4) o⟩ := by
  unfold domain_bindings_1_r2_rd at h
  obtain ⟨o9, h25, h⟩ := bndE_some h
  obtain ⟨o12, h26, h⟩ := bndE_some h
  replace h := sumE_some h
  rcases h with ⟨o37, rfl, h⟩ | ⟨o38, rfl, h⟩
  ·
   obtain rfl := Option.some.inj h
   exact ⟨(domain_bindings_1_b3_O l F uz s s1 s2 s3 s4 s25_1 s25_2 s25_3 s25_4 x s1 s2 s3 s4 s25_1 s25_2 s25_3 s25_4 o9).2, sp 59 0 [], lp_wks (w := [.live [1, 2, 3, 4, 5, 25, 26], .keep [5, 998]]) (s1 := domain_bindings_1_b3_I l F uz s s1 s2 s3 s4 s25_1 s25_2 s25_3 s25_4 x s1 s2 s3 s4 s25_1 s25_2 s25_3 s25_4) (by kernel_rfl) (lp_cast (domain_bindings_1_b3_ok (some m) step l F N hF hY uz s s1 s2 s3 s4 s25_1 s25_2 s25_3 s25_4 x s1 s2 s3 s4 s25_1 s25_2 s25_3 s25_4 o9 h25) rfl (by kernel_rfl) rfl), lp_wks (w := [.live [1, 2, 3, 4, 5, 6, 25], .keep [5, 998]]) (s1 := domain_bindings_1_b5_I l F uz s s1 s2 s3 s4 x s25_1 s25_2 s25_3 s25_4 s1 s2 s3 s4 s25_1 s25_2 s25_3 s25_4) (by kernel_rfl) (lp_cast (domain_bindings_1_b5_ok (some m) step l F N hF hY uz s s1 s2 s3 s4 x s25_1 s25_2 s25_3 s25_4 s1 s2 s3 s4 s25_1 s25_2 s25_3 s25_4 (Sum.inl o37) h26) rfl (by kernel_rfl) (by kernel_rfl))⟩
  ·
   obtain rfl := Option.some.inj h
   exact ⟨(domain_bindings_1_b3_O l F uz s s1 s2 s3 s4 s25_1 s25_2 s25_3 s25_4 x s1 s2 s3 s4 s25_1 s25_2 s25_3 s25_4 o9).2, sp 59 0 [], lp_wks (w := [.live [1, 2, 3, 4, 5, 25, 26], .keep [5, 998]]) (s1 := domain_bindings_1_b3_I l F uz s s1 s2 s3 s4 s25_1 s25_2 s25_3 s25_4 x s1 s2 s3 s4 s25_1 s25_2 s25_3 s25_4) (by kernel_rfl) (lp_cast (domain_bindings_1_b3_ok (some m) step l F N hF hY uz s s1 s2 s3 s4 s25_1 s25_2 s25_3 s25_4 x s1 s2 s3 s4 s25_1 s25_2 s25_3 s25_4 o9 h25) rfl (by kernel_rfl) rfl), lp_wks (w := [.live [1, 2, 3, 4, 5, 6, 25], .keep [5, 998]]) (s1 := domain_bindings_1_b5_I l F uz s s1 s2 s3 s4 x s25_1 s25_2 s25_3 s25_4 s1 s2 s3 s4 s25_1 s25_2 s25_3 s25_4) (by kernel_rfl) (lp_cast (domain_bindings_1_b5_ok (some m) step l F N hF hY uz s s1 s2 s3 s4 x s25_1 s25_2 s25_3 s25_4 s1 s2 s3 s4 s25_1 s25_2 s25_3 s25_4 (Sum.inr o38) h26) rfl (by kernel_rfl) (by kernel_rfl))⟩
theorem domain_bindings_1_r2_ok {φ : Type} (step : φ → (List TSlot) → Option (φ × Bool)) (l : Nat) (F : φ → Bx) (N : List Nat) (hF : ∀ f, FOk (F f) N) (hY : ∀ f x r, step f x = some r → AYield Try.prog l (domain_bindings_1_enc x) (F f) (.d (D.b r.2)) (F r.1)) (s1 : Int) (s2 : List (List TValue)) (s3 : List TSlot) (s4 : Bool) (s25_1 : Int) (s25_2 : List (List TValue)) (s25_3 : List TSlot) (s25_4 : Bool) (s : φ) (o : (φ) ⊕ (φ)) (h : domain_bindings_1_v2 (stepOf (domain_bindings_1_r2_rd step s1 s2 s3 s4 s25_1 s25_2 s25_3 s25_4)) s25_1 s25_2 s25_3 s25_4 (.inl s) = some o) : LpOf Try.prog none (fbody Try.prog 60) [0, 1, 0, 1, 0, 1, 1] ⟨domain_bindings_1_r2_E l F s1 s2 s3 s4 s25_1 s25_2 s25_3 s25_4, domain_bindings_1_r2_BL l F s1 s2 s3 s4 s25_1 s25_2 s25_3 s25_4 s, (domain_bindings_1_r2_FL l F s1 s2 s3 s4 s25_1 s25_2 s25_3 s25_4) s⟩ (domain_bindings_1_r2_O l F s1 s2 s3 s4 s25_1 s25_2 s25_3 s25_4 o).1 (domain_bindings_1_r2_O l F s1 s2 s3 s4 s25_1 s25_2 s25_3 s25_4 o).2 :=
  range_ok (p := [0, 1, 0, 1, 0, 1, 1]) (g := .tmp 25) (ps := #[26]) (assign := codeAt (fbody Try.prog 60) (0 :: [0, 1, 0, 1, 0, 1, 1])) (body := codeAt (fbody Try.prog 60) (1 :: [0, 1, 0, 1, 0, 1, 1])) (by kernel_rfl) (domain_bindings_1_r2_BL l F s1 s2 s3 s4 s25_1 s25_2 s25_3 s25_4) (domain_bindings_1_r2_BT l F s1 s2 s3 s4 s25_1 s25_2 s25_3 s25_4) (domain_bindings_1_r2_FL l F s1 s2 s3 s4 s25_1 s25_2 s25_3 s25_4) (domain_bindings_1_r2_FT l F s1 s2 s3 s4 s25_1 s25_2 s25_3 s25_4) domain_bindings_1_r2_X domain_bindings_1_v2_enc (domain_bindings_1_r2_rd step s1 s2 s3 s4 s25_1 s25_2 s25_3 s25_4) (gf := 60) (cs := [.eptr (D.cells ((D.i .i64) s25_1)), .eptr (D.cells ((D.l (D.l TValue.D)) s25_2)), .eptr (D.cells ((D.l TSlot.D) s25_3)), .eptr (D.cells (D.b s25_4))]) (by kernel_rfl) (by kernel_rfl) (by kernel_rfl) (fun x => ⟨by kernel_rfl, by kernel_rfl⟩) (fun s us => by kernel_rfl) (fun t us => by kernel_rfl) (fun s => rfl) (fun t => rfl) (by kernel_rfl) (fun t => rfl) (fun s => (hF _).to (hF _)) (fun t => (hF _).to (hF _)) (fun s x o h m us => domain_bindings_1_r2_rnd step l F N hF hY s1 s2 s3 s4 s25_1 s25_2 s25_3 s25_4 s x o h m us) (domain_bindings_1_v2_ok (stepOf (domain_bindings_1_r2_rd step s1 s2 s3 s4 s25_1 s25_2 s25_3 s25_4)) s25_1 s25_2 s25_3 s25_4 (.inl s) o h)
def domain_bindings_1_b1_I {φ : Type} (l : Nat) (F : φ → Bx) (f0 : φ) (s1 : Int) (s2 : List (List TValue)) (s3 : List TSlot) (s4 : Bool) (s19 : Bool) : St := ⟨sp 59 0 [(1, .eptr (D.cells ((D.i .i64) s1))), (2, .eptr (D.cells ((D.l (D.l TValue.D)) s2))), (3, .eptr (D.cells ((D.l TSlot.D) s3))), (4, .eptr (D.cells (D.b s4))), (5, .box 5 0), (19, .d (D.b s19))], [(5, .cells ([.d (.v (.func (.yield l) #[] #[]))]))], (F f0)⟩
def domain_bindings_1_b1_O {φ : Type} (l : Nat) (F : φ → Bx) (f0 : φ) (s1 : Int) (s2 : List (List TValue)) (s3 : List TSlot) (s4 : Bool) (s19 : Bool) (o : φ ⊕ φ) : Ex × St := match o with
  | .inl o => (.normal, ⟨sp 59 0 [(1, .eptr (D.cells ((D.i .i64) s1))), (2, .eptr (D.cells ((D.l (D.l TValue.D)) s2))), (3, .eptr (D.cells ((D.l TSlot.D) s3))), (4, .eptr (D.cells (D.b s4))), (5, .box 5 0)], [(5, .cells ([.d (.v (.func (.yield l) #[] #[]))]))], (F o)⟩)
  | .inr o => (.ret, ⟨sp 59 0 [], [], (F o)⟩)
theorem domain_bindings_1_b1_ok (_ : Option Nat) {φ : Type} (step : φ → (List TSlot) → Option (φ × Bool)) (l : Nat) (F : φ → Bx) (N : List Nat) (hF : ∀ f, FOk (F f) N) (hY : ∀ f x r, step f x = some r → AYield Try.prog l (domain_bindings_1_enc x) (F f) (.d (D.b r.2)) (F r.1)) (f0 : φ) (s1 : Int) (s2 : List (List TValue)) (s3 : List TSlot) (s4 : Bool) (s19 : Bool) (o : φ ⊕ φ) (h : domain_bindings_1_b1 step f0 s1 s2 s3 s4 s19 = some o) : LpOf Try.prog none (fbody Try.prog 60) [1, 0, 1, 1] (domain_bindings_1_b1_I l F f0 s1 s2 s3 s4 s19) (domain_bindings_1_b1_O l F f0 s1 s2 s3 s4 s19 o).1 (domain_bindings_1_b1_O l F f0 s1 s2 s3 s4 s19 o).2 := by
  unfold domain_bindings_1_b1 at h
  cases s19 with
  | true =>
   replace h := iteT h
   obtain ⟨r4, h6, h⟩ := bndE_some h
   obtain ⟨o13, h11, h⟩ := bndE_some h
   replace h := sumE_some h
   rcases h with ⟨o14, rfl, h⟩ | ⟨o15, rfl, h⟩
   ·
    obtain rfl := Option.some.inj h
    exact (runB_arr mixed [(25, .ret (.clo (.func 60) [] [.eptr (D.cells ((D.i .i64) r4.1)), .eptr (D.cells ((D.l (D.l TValue.D)) r4.2.1)), .eptr (D.cells ((D.l TSlot.D) r4.2.2.1)), .eptr (D.cells (D.b r4.2.2.2))]))] [⟨[0, 1, 0, 1, 0, 1, 1], [.live [1, 2, 3, 4, 5, 25], .keep [5]], .normal, (domain_bindings_1_r2_O l F s1 s2 s3 s4 r4.1 r4.2.1 r4.2.2.1 r4.2.2.2 (Sum.inl o14)).2⟩] [.live [1, 2, 3, 4, 5], .keep [5]] (ai (domain_bindings_v2_ok s2 (intVal .add .i64 s1 1) s3 s4 r4 h6) (ai (domain_bindings_1_r2_ok step l F N hF hY s1 s2 s3 s4 r4.1 r4.2.1 r4.2.2.1 r4.2.2.2 f0 (Sum.inl o14) h11) (ti))) (by kernel_rfl)).lp
   ·
    obtain rfl := Option.some.inj h
    exact (runB_arr mixed [(25, .ret (.clo (.func 60) [] [.eptr (D.cells ((D.i .i64) r4.1)), .eptr (D.cells ((D.l (D.l TValue.D)) r4.2.1)), .eptr (D.cells ((D.l TSlot.D) r4.2.2.1)), .eptr (D.cells (D.b r4.2.2.2))]))] [⟨[0, 1, 0, 1, 0, 1, 1], [.live [1, 2, 3, 4, 5, 25], .keep [5]], .ret, (domain_bindings_1_r2_O l F s1 s2 s3 s4 r4.1 r4.2.1 r4.2.2.1 r4.2.2.2 (Sum.inr o15)).2⟩] [.live [], .keep []] (ai (domain_bindings_v2_ok s2 (intVal .add .i64 s1 1) s3 s4 r4 h6) (ai (domain_bindings_1_r2_ok step l F N hF hY s1 s2 s3 s4 r4.1 r4.2.1 r4.2.2.1 r4.2.2.2 f0 (Sum.inr o15) h11) (ti))) (by kernel_rfl)).lp
  | false =>
   replace h := iteF h
   obtain rfl := Option.some.inj h
   exact (runB_arr mixed [] [] [.live [1, 2, 3, 4, 5], .keep [5]] (ti) (by kernel_rfl)).lp
def domain_bindings_1_b8_I {φ : Type} (l : Nat) (F : φ → Bx) (uz : List Value) (f0 : φ) (s1 : Int) (s2 : List (List TValue)) (s3 : List TSlot) (s4 : Bool) (s34 : List TValue) (s35 : Int) (s36 : Int) (s52_1 : Int) (s52_2 : List (List TValue)) (s52_3 : List TSlot) (s52_4 : Bool) (s53 : List TSlot) (w998_1 : Int) (w998_2 : List (List TValue)) (w998_3 : List TSlot) (w998_4 : Bool) (w998_5 : List TValue) (w998_6 : Int) (w998_7 : Int) (w998_8 : Int) (w998_9 : List (List TValue)) (w998_10 : List TSlot) (w998_11 : Bool) : St := ⟨sp 59 0 [(1, .eptr (D.cells ((D.i .i64) s1))), (2, .eptr (D.cells ((D.l (D.l TValue.D)) s2))), (3, .eptr (D.cells ((D.l TSlot.D) s3))), (4, .eptr (D.cells (D.b s4))), (5, .box 5 0), (34, .d ((D.l TValue.D) s34)), (35, .d ((D.i .i64) s35)), (36, .d ((D.i .i64) s36)), (52, .clo (.func 60) [] [.eptr (D.cells ((D.i .i64) s52_1)), .eptr (D.cells ((D.l (D.l TValue.D)) s52_2)), .eptr (D.cells ((D.l TSlot.D) s52_3)), .eptr (D.cells (D.b s52_4))]), (53, .d ((D.l TSlot.D) s53))], [(5, .cells ([.d (.v (.func (.yield l) #[] #[]))])), (998, .vals (sp 59 0 [(1, .eptr (D.cells ((D.i .i64) w998_1))), (2, .eptr (D.cells ((D.l (D.l TValue.D)) w998_2))), (3, .eptr (D.cells ((D.l TSlot.D) w998_3))), (4, .eptr (D.cells (D.b w998_4))), (5, .box 5 0), (34, .d ((D.l TValue.D) w998_5)), (35, .d ((D.i .i64) w998_6)), (36, .d ((D.i .i64) w998_7)), (52, .clo (.func 60) [] [.eptr (D.cells ((D.i .i64) w998_8)), .eptr (D.cells ((D.l (D.l TValue.D)) w998_9)), .eptr (D.cells ((D.l TSlot.D) w998_10)), .eptr (D.cells (D.b w998_11))])]) uz)], (F f0)⟩
def domain_bindings_1_b8_O {φ : Type} (l : Nat) (F : φ → Bx) (uz : List Value) (f0 : φ) (s1 : Int) (s2 : List (List TValue)) (s3 : List TSlot) (s4 : Bool) (s34 : List TValue) (s35 : Int) (s36 : Int) (s52_1 : Int) (s52_2 : List (List TValue)) (s52_3 : List TSlot) (s52_4 : Bool) (s53 : List TSlot) (w998_1 : Int) (w998_2 : List (List TValue)) (w998_3 : List TSlot) (w998_4 : Bool) (w998_5 : List TValue) (w998_6 : Int) (w998_7 : Int) (w998_8 : Int) (w998_9 : List (List TValue)) (w998_10 : List TSlot) (w998_11 : Bool) (o : Unit) : Ex × St := (.normal, ⟨sp 59 0 [(1, .eptr (D.cells ((D.i .i64) s1))), (2, .eptr (D.cells ((D.l (D.l TValue.D)) s2))), (3, .eptr (D.cells ((D.l TSlot.D) s3))), (4, .eptr (D.cells (D.b s4))), (5, .box 5 0), (10, .d ((D.l TSlot.D) s53)), (34, .d ((D.l TValue.D) s34)), (35, .d ((D.i .i64) s35)), (36, .d ((D.i .i64) s36)), (52, .clo (.func 60) [] [.eptr (D.cells ((D.i .i64) s52_1)), .eptr (D.cells ((D.l (D.l TValue.D)) s52_2)), .eptr (D.cells ((D.l TSlot.D) s52_3)), .eptr (D.cells (D.b s52_4))])], [(5, .cells ([.d (.v (.func (.yield l) #[] #[]))])), (998, .vals (sp 59 0 [(1, .eptr (D.cells ((D.i .i64) w998_1))), (2, .eptr (D.cells ((D.l (D.l TValue.D)) w998_2))), (3, .eptr (D.cells ((D.l TSlot.D) w998_3))), (4, .eptr (D.cells (D.b w998_4))), (5, .box 5 0), (34, .d ((D.l TValue.D) w998_5)), (35, .d ((D.i .i64) w998_6)), (36, .d ((D.i .i64) w998_7)), (52, .clo (.func 60) [] [.eptr (D.cells ((D.i .i64) w998_8)), .eptr (D.cells ((D.l (D.l TValue.D)) w998_9)), .eptr (D.cells ((D.l TSlot.D) w998_10)), .eptr (D.cells (D.b w998_11))])]) uz)], (F f0)⟩)
theorem domain_bindings_1_b8_ok (rd : Option Nat) {φ : Type} (step : φ → (List TSlot) → Option (φ × Bool)) (l : Nat) (F : φ → Bx) (N : List Nat) (hF : ∀ f, FOk (F f) N) (hY : ∀ f x r, step f x = some r → AYield Try.prog l (domain_bindings_1_enc x) (F f) (.d (D.b r.2)) (F r.1)) (uz : List Value) (f0 : φ) (s1 : Int) (s2 : List (List TValue)) (s3 : List TSlot) (s4 : Bool) (s34 : List TValue) (s35 : Int) (s36 : Int) (s52_1 : Int) (s52_2 : List (List TValue)) (s52_3 : List TSlot) (s52_4 : Bool) (s53 : List TSlot) (w998_1 : Int) (w998_2 : List (List TValue)) (w998_3 : List TSlot) (w998_4 : Bool) (w998_5 : List TValue) (w998_6 : Int) (w998_7 : Int) (w998_8 : Int) (w998_9 : List (List TValue)) (w998_10 : List TSlot) (w998_11 : Bool) (o : Unit) (h : domain_bindings_1_b8 step f0 s1 s2 s3 s4 s34 s35 s36 s52_1 s52_2 s52_3 s52_4 s53 w998_1 w998_2 w998_3 w998_4 w998_5 w998_6 w998_7 w998_8 w998_9 w998_10 w998_11 = some o) : LpOf Try.prog rd (fbody Try.prog 60) [0, 0, 1, 1, 1, 0, 0, 1, 1, 0, 0, 1, 1, 1, 1] (domain_bindings_1_b8_I l F uz f0 s1 s2 s3 s4 s34 s35 s36 s52_1 s52_2 s52_3 s52_4 s53 w998_1 w998_2 w998_3 w998_4 w998_5 w998_6 w998_7 w998_8 w998_9 w998_10 w998_11) (domain_bindings_1_b8_O l F uz f0 s1 s2 s3 s4 s34 s35 s36 s52_1 s52_2 s52_3 s52_4 s53 w998_1 w998_2 w998_3 w998_4 w998_5 w998_6 w998_7 w998_8 w998_9 w998_10 w998_11 o).1 (domain_bindings_1_b8_O l F uz f0 s1 s2 s3 s4 s34 s35 s36 s52_1 s52_2 s52_3 s52_4 s53 w998_1 w998_2 w998_3 w998_4 w998_5 w998_6 w998_7 w998_8 w998_9 w998_10 w998_11 o).2 := by
  unfold domain_bindings_1_b8 at h
  obtain rfl := Option.some.inj h
  exact (runB_arr mixed [] [] [.live [1, 2, 3, 4, 5, 10, 34, 35, 36, 52], .keep [5, 998]] (ti) (by kernel_rfl)).lp
def domain_bindings_1_b10_I {φ : Type} (l : Nat) (F : φ → Bx) (uz : List Value) (f0 : φ) (s1 : Int) (s2 : List (List TValue)) (s3 : List TSlot) (s4 : Bool) (s10 : List TSlot) (s34 : List TValue) (s35 : Int) (s36 : Int) (s52_1 : Int) (s52_2 : List (List TValue)) (s52_3 : List TSlot) (s52_4 : Bool) (w998_1 : Int) (w998_2 : List (List TValue)) (w998_3 : List TSlot) (w998_4 : Bool) (w998_5 : List TValue) (w998_6 : Int) (w998_7 : Int) (w998_8 : Int) (w998_9 : List (List TValue)) (w998_10 : List TSlot) (w998_11 : Bool) : St := ⟨sp 59 0 [(1, .eptr (D.cells ((D.i .i64) s1))), (2, .eptr (D.cells ((D.l (D.l TValue.D)) s2))), (3, .eptr (D.cells ((D.l TSlot.D) s3))), (4, .eptr (D.cells (D.b s4))), (5, .box 5 0), (10, .d ((D.l TSlot.D) s10)), (34, .d ((D.l TValue.D) s34)), (35, .d ((D.i .i64) s35)), (36, .d ((D.i .i64) s36)), (52, .clo (.func 60) [] [.eptr (D.cells ((D.i .i64) s52_1)), .eptr (D.cells ((D.l (D.l TValue.D)) s52_2)), .eptr (D.cells ((D.l TSlot.D) s52_3)), .eptr (D.cells (D.b s52_4))])], [(5, .cells ([.d (.v (.func (.yield l) #[] #[]))])), (998, .vals (sp 59 0 [(1, .eptr (D.cells ((D.i .i64) w998_1))), (2, .eptr (D.cells ((D.l (D.l TValue.D)) w998_2))), (3, .eptr (D.cells ((D.l TSlot.D) w998_3))), (4, .eptr (D.cells (D.b w998_4))), (5, .box 5 0), (34, .d ((D.l TValue.D) w998_5)), (35, .d ((D.i .i64) w998_6)), (36, .d ((D.i .i64) w998_7)), (52, .clo (.func 60) [] [.eptr (D.cells ((D.i .i64) w998_8)), .eptr (D.cells ((D.l (D.l TValue.D)) w998_9)), .eptr (D.cells ((D.l TSlot.D) w998_10)), .eptr (D.cells (D.b w998_11))])]) uz)], (F f0)⟩
def domain_bindings_1_b10_O {φ : Type} (l : Nat) (F : φ → Bx) (uz : List Value) (f0 : φ) (s1 : Int) (s2 : List (List TValue)) (s3 : List TSlot) (s4 : Bool) (s10 : List TSlot) (s34 : List TValue) (s35 : Int) (s36 : Int) (s52_1 : Int) (s52_2 : List (List TValue)) (s52_3 : List TSlot) (s52_4 : Bool) (w998_1 : Int) (w998_2 : List (List TValue)) (w998_3 : List TSlot) (w998_4 : Bool) (w998_5 : List TValue) (w998_6 : Int) (w998_7 : Int) (w998_8 : Int) (w998_9 : List (List TValue)) (w998_10 : List TSlot) (w998_11 : Bool) (o : φ ⊕ φ) : Ex × St := match o with
  | .inl o => (.normal, ⟨sp 59 0 [], [(5, .cells ([.d (.v (.func (.yield l) #[] #[]))])), (998, .vals (sp 59 0 [(1, .eptr (D.cells ((D.i .i64) w998_1))), (2, .eptr (D.cells ((D.l (D.l TValue.D)) w998_2))), (3, .eptr (D.cells ((D.l TSlot.D) w998_3))), (4, .eptr (D.cells (D.b w998_4))), (5, .box 5 0), (34, .d ((D.l TValue.D) w998_5)), (35, .d ((D.i .i64) w998_6)), (36, .d ((D.i .i64) w998_7)), (52, .clo (.func 60) [] [.eptr (D.cells ((D.i .i64) w998_8)), .eptr (D.cells ((D.l (D.l TValue.D)) w998_9)), .eptr (D.cells ((D.l TSlot.D) w998_10)), .eptr (D.cells (D.b w998_11))])]) uz)], (F o)⟩)
  | .inr o => (.ret, ⟨sp 59 0 [], [(5, .cells ([.d (.v (.func (.yield l) #[] #[]))])), (998, .vals (sp 59 0 [(1, .eptr (D.cells ((D.i .i64) w998_1))), (2, .eptr (D.cells ((D.l (D.l TValue.D)) w998_2))), (3, .eptr (D.cells ((D.l TSlot.D) w998_3))), (4, .eptr (D.cells (D.b w998_4))), (5, .box 5 0), (34, .d ((D.l TValue.D) w998_5)), (35, .d ((D.i .i64) w998_6)), (36, .d ((D.i .i64) w998_7)), (52, .clo (.func 60) [] [.eptr (D.cells ((D.i .i64) w998_8)), .eptr (D.cells ((D.l (D.l TValue.D)) w998_9)), .eptr (D.cells ((D.l TSlot.D) w998_10)), .eptr (D.cells (D.b w998_11))])]) uz)], (F o)⟩)
theorem domain_bindings_1_b10_ok (rd : Option Nat) {φ : Type} (step : φ → (List TSlot) → Option (φ × Bool)) (l : Nat) (F : φ → Bx) (N : List Nat) (hF : ∀ f, FOk (F f) N) (hY : ∀ f x r, step f x = some r → AYield Try.prog l (domain_bindings_1_enc x) (F f) (.d (D.b r.2)) (F r.1)) (uz : List Value) (f0 : φ) (s1 : Int) (s2 : List (List TValue)) (s3 : List TSlot) (s4 : Bool) (s10 : List TSlot) (s34 : List TValue) (s35 : Int) (s36 : Int) (s52_1 : Int) (s52_2 : List (List TValue)) (s52_3 : List TSlot) (s52_4 : Bool) (w998_1 : Int) (w998_2 : List (List TValue)) (w998_3 : List TSlot) (w998_4 : Bool) (w998_5 : List TValue) (w998_6 : Int) (w998_7 : Int) (w998_8 : Int) (w998_9 : List (List TValue)) (w998_10 : List TSlot) (w998_11 : Bool) (o : φ ⊕ φ) (h : domain_bindings_1_b10 step f0 s1 s2 s3 s4 s10 s34 s35 s36 s52_1 s52_2 s52_3 s52_4 w998_1 w998_2 w998_3 w998_4 w998_5 w998_6 w998_7 w998_8 w998_9 w998_10 w998_11 = some o) : LpOf Try.prog rd (fbody Try.prog 60) [1, 0, 1, 1, 1, 0, 0, 1, 1, 0, 0, 1, 1, 1, 1] (domain_bindings_1_b10_I l F uz f0 s1 s2 s3 s4 s10 s34 s35 s36 s52_1 s52_2 s52_3 s52_4 w998_1 w998_2 w998_3 w998_4 w998_5 w998_6 w998_7 w998_8 w998_9 w998_10 w998_11) (domain_bindings_1_b10_O l F uz f0 s1 s2 s3 s4 s10 s34 s35 s36 s52_1 s52_2 s52_3 s52_4 w998_1 w998_2 w998_3 w998_4 w998_5 w998_6 w998_7 w998_8 w998_9 w998_10 w998_11 o).1 (domain_bindings_1_b10_O l F uz f0 s1 s2 s3 s4 s10 s34 s35 s36 s52_1 s52_2 s52_3 s52_4 w998_1 w998_2 w998_3 w998_4 w998_5 w998_6 w998_7 w998_8 w998_9 w998_10 w998_11 o).2 := by
  unfold domain_bindings_1_b10 at h
  rcases yldE_some h with ⟨f28, h21, h⟩ | ⟨f29, h22, h⟩
  ·
   obtain rfl := Option.some.inj h
   exact (runB_arr mixed [(56, .own false (.d (D.b true)) [] (F f28))] [] [.live [], .keep [5, 998]] (ai (hY f0 s10 (f28, true) h21) (ai (Or.inr ⟨(hF _).nms.trans (hF _).nms.symm, (hF _).far⟩ : F f28 = F f0 ∨ (names (F f28) = names (F f0) ∧ Far (F f28))) (ti))) (by kernel_rfl)).lp
  ·
   obtain rfl := Option.some.inj h
   exact (runB_arr mixed [(56, .own false (.d (D.b false)) [] (F f29))] [] [.live [], .keep [5, 998]] (ai (hY f0 s10 (f29, false) h22) (ai (Or.inr ⟨(hF _).nms.trans (hF _).nms.symm, (hF _).far⟩ : F f29 = F f0 ∨ (names (F f29) = names (F f0) ∧ Far (F f29))) (ti))) (by kernel_rfl)).lp
def domain_bindings_1_r7_E {φ : Type} (l : Nat) (F : φ → Bx) (s1 : Int) (s2 : List (List TValue)) (s3 : List TSlot) (s4 : Bool) (s34 : List TValue) (s35 : Int) (s36 : Int) (s52_1 : Int) (s52_2 : List (List TValue)) (s52_3 : List TSlot) (s52_4 : Bool) : List A := sp 59 0 [(1, .eptr (D.cells ((D.i .i64) s1))), (2, .eptr (D.cells ((D.l (D.l TValue.D)) s2))), (3, .eptr (D.cells ((D.l TSlot.D) s3))), (4, .eptr (D.cells (D.b s4))), (5, .box 5 0), (34, .d ((D.l TValue.D) s34)), (35, .d ((D.i .i64) s35)), (36, .d ((D.i .i64) s36)), (52, .clo (.func 60) [] [.eptr (D.cells ((D.i .i64) s52_1)), .eptr (D.cells ((D.l (D.l TValue.D)) s52_2)), .eptr (D.cells ((D.l TSlot.D) s52_3)), .eptr (D.cells (D.b s52_4))])]
def domain_bindings_1_r7_BL {φ : Type} (l : Nat) (F : φ → Bx) (s1 : Int) (s2 : List (List TValue)) (s3 : List TSlot) (s4 : Bool) (s34 : List TValue) (s35 : Int) (s36 : Int) (s52_1 : Int) (s52_2 : List (List TValue)) (s52_3 : List TSlot) (s52_4 : Bool) (s : φ) : Bx := [(5, .cells ([.d (.v (.func (.yield l) #[] #[]))]))]
def domain_bindings_1_r7_BT {φ : Type} (l : Nat) (F : φ → Bx) (s1 : Int) (s2 : List (List TValue)) (s3 : List TSlot) (s4 : Bool) (s34 : List TValue) (s35 : Int) (s36 : Int) (s52_1 : Int) (s52_2 : List (List TValue)) (s52_3 : List TSlot) (s52_4 : Bool) (t : φ) : Bx := [(5, .cells ([.d (.v (.func (.yield l) #[] #[]))]))]
def domain_bindings_1_r7_X {φ : Type} (t : φ) : Ex := .ret
def domain_bindings_1_r7_FL {φ : Type} (l : Nat) (F : φ → Bx) (s1 : Int) (s2 : List (List TValue)) (s3 : List TSlot) (s4 : Bool) (s34 : List TValue) (s35 : Int) (s36 : Int) (s52_1 : Int) (s52_2 : List (List TValue)) (s52_3 : List TSlot) (s52_4 : Bool) (s : φ) : Bx := F s
def domain_bindings_1_r7_FT {φ : Type} (l : Nat) (F : φ → Bx) (s1 : Int) (s2 : List (List TValue)) (s3 : List TSlot) (s4 : Bool) (s34 : List TValue) (s35 : Int) (s36 : Int) (s52_1 : Int) (s52_2 : List (List TValue)) (s52_3 : List TSlot) (s52_4 : Bool) (t : φ) : Bx := F t
def domain_bindings_1_r7_O {φ : Type} (l : Nat) (F : φ → Bx) (s1 : Int) (s2 : List (List TValue)) (s3 : List TSlot) (s4 : Bool) (s34 : List TValue) (s35 : Int) (s36 : Int) (s52_1 : Int) (s52_2 : List (List TValue)) (s52_3 : List TSlot) (s52_4 : Bool) (o : (φ) ⊕ (φ)) : Ex × St := (rex domain_bindings_1_r7_X o, ⟨domain_bindings_1_r7_E l F s1 s2 s3 s4 s34 s35 s36 s52_1 s52_2 s52_3 s52_4, rbx (domain_bindings_1_r7_BL l F s1 s2 s3 s4 s34 s35 s36 s52_1 s52_2 s52_3 s52_4) (domain_bindings_1_r7_BT l F s1 s2 s3 s4 s34 s35 s36 s52_1 s52_2 s52_3 s52_4) o, rbx (domain_bindings_1_r7_FL l F s1 s2 s3 s4 s34 s35 s36 s52_1 s52_2 s52_3 s52_4) (domain_bindings_1_r7_FT l F s1 s2 s3 s4 s34 s35 s36 s52_1 s52_2 s52_3 s52_4) o⟩)
theorem domain_bindings_1_r7_rnd {φ : Type} (step : φ → (List TSlot) → Option (φ × Bool)) (l : Nat) (F : φ → Bx) (N : List Nat) (hF : ∀ f, FOk (F f) N) (hY : ∀ f x r, step f x = some r → AYield Try.prog l (domain_bindings_1_enc x) (F f) (.d (D.b r.2)) (F r.1)) (s1 : Int) (s2 : List (List TValue)) (s3 : List TSlot) (s4 : Bool) (s34 : List TValue) (s35 : Int) (s36 : Int) (s52_1 : Int) (s52_2 : List (List TValue)) (s52_3 : List TSlot) (s52_4 : Bool) (s : φ) (x : (List TSlot)) (o : (φ) ⊕ (φ)) (h : domain_bindings_1_r7_rd step s1 s2 s3 s4 s34 s35 s36 s52_1 s52_2 s52_3 s52_4 s x = some o) (m : Nat) (uz : List Value) : ∃ M E1, LpOf Try.prog (some m) (fbody Try.prog 60) (0 :: [0, 1, 1, 1, 0, 0, 1, 1, 0, 0, 1, 1, 1, 1]) ⟨setPs (domain_bindings_1_r7_E l F s1 s2 s3 s4 s34 s35 s36 s52_1 s52_2 s52_3 s52_4) ((Array.toList #[53]).zip (domain_bindings_1_v2_enc x)), domain_bindings_1_r7_BL l F s1 s2 s3 s4 s34 s35 s36 s52_1 s52_2 s52_3 s52_4 s ++ [(vn, .vals (domain_bindings_1_r7_E l F s1 s2 s3 s4 s34 s35 s36 s52_1 s52_2 s52_3 s52_4) uz)], (domain_bindings_1_r7_FL l F s1 s2 s3 s4 s34 s35 s36 s52_1 s52_2 s52_3 s52_4) s⟩ .normal M ∧
    LpOf Try.prog (some m) (fbody Try.prog 60) (1 :: [0, 1, 1, 1, 0, 0, 1, 1, 0, 0, 1, 1, 1, 1]) M (rex domain_bindings_1_r7_X o) ⟨E1, rbx (domain_bindings_1_r7_BL l F s1 s2 s3 s4 s34 s35 s36 s52_1 s52_2 s52_3 s52_4) (domain_bindings_1_r7_BT l F s1 s2 s3 s4 s34 s35 s36 s52_1 s52_2 s52_3 s52_4) o ++ [(vn, .vals (domain_bindings_1_r7_E l F s1 s2 s3 s4 s34 s35 s36 s52_1 s52_2 s52_3 s52_4) uz)], rbx (domain_bindings_1_r7_FL l F s1 s2 s3 s4 s34 s35 s36 s52_1 s52_2 s52_3 s52_4) (domain_bindings_1_r7_FT l F s1 s2 s3 s4 s34 s35 s36 s52_1 s52_2 s52_3 s52_4) o⟩ := by
  unfold domain_bindings_1_r7_rd at h
  obtain ⟨o27, h27, h⟩ := bndE_some h
  obtain ⟨o30, h28, h⟩ := bndE_some h
  replace h := sumE_some h
  rcases h with ⟨o39, rfl, h⟩ | ⟨o40, rfl, h⟩
  ·
   obtain rfl := Option.some.inj h
   exact ⟨(domain_bindings_1_b8_O l F uz s s1 s2 s3 s4 s34 s35 s36 s52_1 s52_2 s52_3 s52_4 x s1 s2 s3 s4 s34 s35 s36 s52_1 s52_2 s52_3 s52_4 o27).2, sp 59 0 [], lp_wks (w := [.live [1, 2, 3, 4, 5, 34, 35, 36, 52, 53], .keep [5, 998]]) (s1 := domain_bindings_1_b8_I l F uz s s1 s2 s3 s4 s34 s35 s36 s52_1 s52_2 s52_3 s52_4 x s1 s2 s3 s4 s34 s35 s36 s52_1 s52_2 s52_3 s52_4) (by kernel_rfl) (lp_cast (domain_bindings_1_b8_ok (some m) step l F N hF hY uz s s1 s2 s3 s4 s34 s35 s36 s52_1 s52_2 s52_3 s52_4 x s1 s2 s3 s4 s34 s35 s36 s52_1 s52_2 s52_3 s52_4 o27 h27) rfl (by kernel_rfl) rfl), lp_wks (w := [.live [1, 2, 3, 4, 5, 10, 34, 35, 36, 52], .keep [5, 998]]) (s1 := domain_bindings_1_b10_I l F uz s s1 s2 s3 s4 x s34 s35 s36 s52_1 s52_2 s52_3 s52_4 s1 s2 s3 s4 s34 s35 s36 s52_1 s52_2 s52_3 s52_4) (by kernel_rfl) (lp_cast (domain_bindings_1_b10_ok (some m) step l F N hF hY uz s s1 s2 s3 s4 x s34 s35 s36 s52_1 s52_2 s52_3 s52_4 s1 s2 s3 s4 s34 s35 s36 s52_1 s52_2 s52_3 s52_4 (Sum.inl o39) h28) rfl (by kernel_rfl) (by kernel_rfl))⟩
  ·
   obtain rfl := Option.some.inj h
   exact ⟨(domain_bindings_1_b8_O l F uz s s1 s2 s3 s4 s34 s35 s36 s52_1 s52_2 s52_3 s52_4 x s1 s2 s3 s4 s34 s35 s36 s52_1 s52_2 s52_3 s52_4 o27).2, sp 59 0 [], lp_wks (w := [.live [1, 2, 3, 4, 5, 34, 35, 36, 52, 53], .keep [5, 998]]) (s1 := domain_bindings_1_b8_I l F uz s s1 s2 s3 s4 s34 s35 s36 s52_1 s52_2 s52_3 s52_4 x s1 s2 s3 s4 s34 s35 s36 s52_1 s52_2 s52_3 s52_4) (by kernel_rfl) (lp_cast (domain_bindings_1_b8_ok (some m) step l F N hF hY uz s s1 s2 s3 s4 s34 s35 s36 s52_1 s52_2 s52_3 s52_4 x s1 s2 s3 s4 s34 s35 s36 s52_1 s52_2 s52_3 s52_4 o27 h27) rfl (by kernel_rfl) rfl), lp_wks (w := [.live [1, 2, 3, 4, 5, 10, 34, 35, 36, 52], .keep [5, 998]]) (s1 := domain_bindings_1_b10_I l F uz s s1 s2 s3 s4 x s34 s35 s36 s52_1 s52_2 s52_3 s52_4 s1 s2 s3 s4 s34 s35 s36 s52_1 s52_2 s52_3 s52_4) (by kernel_rfl) (lp_cast (domain_bindings_1_b10_ok (some m) step l F N hF hY uz s s1 s2 s3 s4 x s34 s35 s36 s52_1 s52_2 s52_3 s52_4 s1 s2 s3 s4 s34 s35 s36 s52_1 s52_2 s52_3 s52_4 (Sum.inr o40) h28) rfl (by kernel_rfl) (by kernel_rfl))⟩
theorem domain_bindings_1_r7_ok {φ : Type} (step : φ → (List TSlot) → Option (φ × Bool)) (l : Nat) (F : φ → Bx) (N : List Nat) (hF : ∀ f, FOk (F f) N) (hY : ∀ f x r, step f x = some r → AYield Try.prog l (domain_bindings_1_enc x) (F f) (.d (D.b r.2)) (F r.1)) (s1 : Int) (s2 : List (List TValue)) (s3 : List TSlot) (s4 : Bool) (s34 : List TValue) (s35 : Int) (s36 : Int) (s52_1 : Int) (s52_2 : List (List TValue)) (s52_3 : List TSlot) (s52_4 : Bool) (s : φ) (o : (φ) ⊕ (φ)) (h : domain_bindings_1_v2 (stepOf (domain_bindings_1_r7_rd step s1 s2 s3 s4 s34 s35 s36 s52_1 s52_2 s52_3 s52_4)) s52_1 s52_2 s52_3 s52_4 (.inl s) = some o) : LpOf Try.prog none (fbody Try.prog 60) [0, 1, 1, 1, 0, 0, 1, 1, 0, 0, 1, 1, 1, 1] ⟨domain_bindings_1_r7_E l F s1 s2 s3 s4 s34 s35 s36 s52_1 s52_2 s52_3 s52_4, domain_bindings_1_r7_BL l F s1 s2 s3 s4 s34 s35 s36 s52_1 s52_2 s52_3 s52_4 s, (domain_bindings_1_r7_FL l F s1 s2 s3 s4 s34 s35 s36 s52_1 s52_2 s52_3 s52_4) s⟩ (domain_bindings_1_r7_O l F s1 s2 s3 s4 s34 s35 s36 s52_1 s52_2 s52_3 s52_4 o).1 (domain_bindings_1_r7_O l F s1 s2 s3 s4 s34 s35 s36 s52_1 s52_2 s52_3 s52_4 o).2 :=
  range_ok (p := [0, 1, 1, 1, 0, 0, 1, 1, 0, 0, 1, 1, 1, 1]) (g := .tmp 52) (ps := #[53]) (assign := codeAt (fbody Try.prog 60) (0 :: [0, 1, 1, 1, 0, 0, 1, 1, 0, 0, 1, 1, 1, 1])) (body := codeAt (fbody Try.prog 60) (1 :: [0, 1, 1, 1, 0, 0, 1, 1, 0, 0, 1, 1, 1, 1])) (by kernel_rfl) (domain_bindings_1_r7_BL l F s1 s2 s3 s4 s34 s35 s36 s52_1 s52_2 s52_3 s52_4) (domain_bindings_1_r7_BT l F s1 s2 s3 s4 s34 s35 s36 s52_1 s52_2 s52_3 s52_4) (domain_bindings_1_r7_FL l F s1 s2 s3 s4 s34 s35 s36 s52_1 s52_2 s52_3 s52_4) (domain_bindings_1_r7_FT l F s1 s2 s3 s4 s34 s35 s36 s52_1 s52_2 s52_3 s52_4) domain_bindings_1_r7_X domain_bindings_1_v2_enc (domain_bindings_1_r7_rd step s1 s2 s3 s4 s34 s35 s36 s52_1 s52_2 s52_3 s52_4) (gf := 60) (cs := [.eptr (D.cells ((D.i .i64) s52_1)), .eptr (D.cells ((D.l (D.l TValue.D)) s52_2)), .eptr (D.cells ((D.l TSlot.D) s52_3)), .eptr (D.cells (D.b s52_4))]) (by kernel_rfl) (by kernel_rfl) (by kernel_rfl) (fun x => ⟨by kernel_rfl, by kernel_rfl⟩) (fun s us => by kernel_rfl) (fun t us => by kernel_rfl) (fun s => rfl) (fun t => rfl) (by kernel_rfl) (fun t => rfl) (fun s => (hF _).to (hF _)) (fun t => (hF _).to (hF _)) (fun s x o h m us => domain_bindings_1_r7_rnd step l F N hF hY s1 s2 s3 s4 s34 s35 s36 s52_1 s52_2 s52_3 s52_4 s x o h m us) (domain_bindings_1_v2_ok (stepOf (domain_bindings_1_r7_rd step s1 s2 s3 s4 s34 s35 s36 s52_1 s52_2 s52_3 s52_4)) s52_1 s52_2 s52_3 s52_4 (.inl s) o h)
def domain_bindings_1_l6_I {φ : Type} (l : Nat) (F : φ → Bx) (s1 : Int) (s2 : List (List TValue)) (s3 : List TSlot) (s4 : Bool) (s34 : List TValue) (s35 : Int) (f0 : φ) (s36 : Int) : St := ⟨sp 59 0 [(1, .eptr (D.cells ((D.i .i64) s1))), (2, .eptr (D.cells ((D.l (D.l TValue.D)) s2))), (3, .eptr (D.cells ((D.l TSlot.D) s3))), (4, .eptr (D.cells (D.b s4))), (5, .box 5 0), (34, .d ((D.l TValue.D) s34)), (35, .d ((D.i .i64) s35)), (36, .d ((D.i .i64) s36))], [(5, .cells ([.d (.v (.func (.yield l) #[] #[]))]))], (F f0)⟩
def domain_bindings_1_l6_O {φ : Type} (l : Nat) (F : φ → Bx) (s1 : Int) (s2 : List (List TValue)) (s3 : List TSlot) (s4 : Bool) (s34 : List TValue) (s35 : Int) (o : φ ⊕ φ) : Ex × St := match o with
  | .inl o => (.exit 2, ⟨sp 59 0 [], [], (F o)⟩)
  | .inr o => (.ret, ⟨sp 59 0 [], [], (F o)⟩)
theorem domain_bindings_1_l6_rnd (_ : Option Nat) {φ : Type} (step : φ → (List TSlot) → Option (φ × Bool)) (l : Nat) (F : φ → Bx) (N : List Nat) (hF : ∀ f, FOk (F f) N) (hY : ∀ f x r, step f x = some r → AYield Try.prog l (domain_bindings_1_enc x) (F f) (.d (D.b r.2)) (F r.1)) (s1 : Int) (s2 : List (List TValue)) (s3 : List TSlot) (s4 : Bool) (s34 : List TValue) (s35 : Int) (f0 : φ) (s36 : Int) (o : (φ × Int) ⊕ (φ ⊕ φ)) (h : domain_bindings_1_l6_s step s1 s2 s3 s4 s34 s35 f0 s36 = some o) : Arr Try.prog none (fbody Try.prog 60) (0 :: [0, 1, 1, 1, 1]) (domain_bindings_1_l6_I l F s1 s2 s3 s4 s34 s35 f0 s36) (rR (fun s : φ × Int => domain_bindings_1_l6_I l F s1 s2 s3 s4 s34 s35 s.1 s.2) (domain_bindings_1_l6_O l F s1 s2 s3 s4 s34 s35) o).1 (rR (fun s : φ × Int => domain_bindings_1_l6_I l F s1 s2 s3 s4 s34 s35 s.1 s.2) (domain_bindings_1_l6_O l F s1 s2 s3 s4 s34 s35) o).2 := by
  unfold domain_bindings_1_l6_s at h
  rcases iteE_some h with ⟨h14, h⟩ | ⟨h14, h⟩
  ·
   obtain ⟨x20, h15, h⟩ := idxE_some h
   obtain ⟨r21, h16, h⟩ := bndE_some h
   obtain ⟨h17, h⟩ := chkE_some h
   obtain ⟨r22, h18, h⟩ := bndE_some h
   obtain ⟨o31, h23, h⟩ := bndE_some h
   replace h := sumE_some h
   rcases h with ⟨o32, rfl, h⟩ | ⟨o33, rfl, h⟩
   ·
    obtain rfl := Option.some.inj h
    exact runB_arr mixed [(37, .bit true), (38, .el (TValue.D x20)), (41, .cx true [] [(0, 41)] (.row 0) [(0, .rw 119 5 (r21.map TSlot.D))]), (46, .rwl ((r21 ++ [TSlot.mk s1 x20]).map TSlot.D)), (50, .fzn 46), (52, .ret (.clo (.func 60) [] [.eptr (D.cells ((D.i .i64) r22.1)), .eptr (D.cells ((D.l (D.l TValue.D)) r22.2.1)), .eptr (D.cells ((D.l TSlot.D) r22.2.2.1)), .eptr (D.cells (D.b r22.2.2.2))]))] [⟨[0, 1, 1, 1, 0, 0, 1, 1, 0, 0, 1, 1, 1, 1], [.live [1, 2, 3, 4, 5, 34, 35, 36, 52], .keep [5]], .normal, (domain_bindings_1_r7_O l F s1 s2 s3 s4 s34 s35 s36 r22.1 r22.2.1 r22.2.2.1 r22.2.2.2 (Sum.inl o32)).2⟩] [.live [1, 2, 3, 4, 5, 34, 35, 36], .keep [5]] (ai h14 (ai (elem_map TValue.D h15) (ai (slices_Clone_Slot_Slot_v2_ok s3 r21 h16) (ai (nc_ok TSlot.D [TSlot.mk s1 x20]) (ai (nc_ok TSlot.D [TSlot.mk s1 x20]) (ai (fit_map TSlot.D h17) (ai (app_map TSlot.D r21 [TSlot.mk s1 x20]) (ai (domain_bindings_v2_ok s2 (intVal .add .i64 s1 1) (r21 ++ [TSlot.mk s1 x20]) s4 r22 h18) (ai (domain_bindings_1_r7_ok step l F N hF hY s1 s2 s3 s4 s34 s35 s36 r22.1 r22.2.1 r22.2.2.1 r22.2.2.2 f0 (Sum.inl o32) h23) (ti)))))))))) (by kernel_rfl)
   ·
    obtain rfl := Option.some.inj h
    exact runB_arr mixed [(37, .bit true), (38, .el (TValue.D x20)), (41, .cx true [] [(0, 41)] (.row 0) [(0, .rw 119 5 (r21.map TSlot.D))]), (46, .rwl ((r21 ++ [TSlot.mk s1 x20]).map TSlot.D)), (50, .fzn 46), (52, .ret (.clo (.func 60) [] [.eptr (D.cells ((D.i .i64) r22.1)), .eptr (D.cells ((D.l (D.l TValue.D)) r22.2.1)), .eptr (D.cells ((D.l TSlot.D) r22.2.2.1)), .eptr (D.cells (D.b r22.2.2.2))]))] [⟨[0, 1, 1, 1, 0, 0, 1, 1, 0, 0, 1, 1, 1, 1], [.live [1, 2, 3, 4, 5, 34, 35, 36, 52], .keep [5]], .ret, (domain_bindings_1_r7_O l F s1 s2 s3 s4 s34 s35 s36 r22.1 r22.2.1 r22.2.2.1 r22.2.2.2 (Sum.inr o33)).2⟩] [.live [], .keep []] (ai h14 (ai (elem_map TValue.D h15) (ai (slices_Clone_Slot_Slot_v2_ok s3 r21 h16) (ai (nc_ok TSlot.D [TSlot.mk s1 x20]) (ai (nc_ok TSlot.D [TSlot.mk s1 x20]) (ai (fit_map TSlot.D h17) (ai (app_map TSlot.D r21 [TSlot.mk s1 x20]) (ai (domain_bindings_v2_ok s2 (intVal .add .i64 s1 1) (r21 ++ [TSlot.mk s1 x20]) s4 r22 h18) (ai (domain_bindings_1_r7_ok step l F N hF hY s1 s2 s3 s4 s34 s35 s36 r22.1 r22.2.1 r22.2.2.1 r22.2.2.2 f0 (Sum.inr o33) h23) (ti)))))))))) (by kernel_rfl)
  ·
   obtain rfl := Option.some.inj h
   exact runB_arr mixed [(37, .bit false)] [] [.live [], .keep []] (ai h14 (ti)) (by kernel_rfl)
theorem domain_bindings_1_l6_ok (_ : Option Nat) {φ : Type} (step : φ → (List TSlot) → Option (φ × Bool)) (l : Nat) (F : φ → Bx) (N : List Nat) (hF : ∀ f, FOk (F f) N) (hY : ∀ f x r, step f x = some r → AYield Try.prog l (domain_bindings_1_enc x) (F f) (.d (D.b r.2)) (F r.1)) (s1 : Int) (s2 : List (List TValue)) (s3 : List TSlot) (s4 : Bool) (s34 : List TValue) (s35 : Int) (f0 : φ) (s36 : Int) (t : φ ⊕ φ) (h : domain_bindings_1_l6 step s1 s2 s3 s4 s34 s35 f0 s36 = some t) : LpOf Try.prog none (fbody Try.prog 60) [0, 1, 1, 1, 1] (domain_bindings_1_l6_I l F s1 s2 s3 s4 s34 s35 f0 s36) ((domain_bindings_1_l6_O l F s1 s2 s3 s4 s34 s35) t).1 ((domain_bindings_1_l6_O l F s1 s2 s3 s4 s34 s35) t).2 :=
  loopE_lpR (fun s : φ × Int => domain_bindings_1_l6_I l F s1 s2 s3 s4 s34 s35 s.1 s.2) (domain_bindings_1_l6_O l F s1 s2 s3 s4 s34 s35) (by kernel_rfl) (fun t => isN_ne (by rcases t with (_ | _) <;> rfl)) (fun s o h => domain_bindings_1_l6_rnd none step l F N hF hY s1 s2 s3 s4 s34 s35 s.1 s.2 o h) (s := (f0, s36)) (t := t) h
theorem domain_bindings_1_ok {φ : Type} (step : φ → (List TSlot) → Option (φ × Bool)) (a1 : Int) (a2 : List (List TValue)) (a3 : List TSlot) (a4 : Bool) (f0 : φ) (f1 : φ) (h : domain_bindings_1 step a1 a2 a3 a4 f0 = some f1) : AIt Try.prog 60 [.eptr (D.cells ((D.i .i64) a1)), .eptr (D.cells ((D.l (D.l TValue.D)) a2)), .eptr (D.cells ((D.l TSlot.D) a3)), .eptr (D.cells (D.b a4))] domain_bindings_1_enc step f0 f1 := by
  intro l F N hF hY
  refine ⟨.tup [], ?_⟩
  unfold domain_bindings_1 at h
  rcases iteE_some h with ⟨h1, h⟩ | ⟨h1, h⟩
  ·
   obtain ⟨r1, h2, h⟩ := bndE_some h
   rcases yldE_some h with ⟨f2, h3, h⟩ | ⟨f3, h4, h⟩
   ·
    obtain rfl := Option.some.inj h
    exact runI_call mixed [(13, .int (a2.length : Int)), (14, .bit true), (17, .ret (.d ((D.l TSlot.D) r1))), (18, .own false (.d (D.b true)) [] (F f2))] [] [] (hF _).far (hF _).cls (ai (len_map (D.l TValue.D) a2) (ai h1 (ai (slices_Clone_Slot_Slot_ok a3 r1 h2) (ai (hY f0 r1 (f2, true) h3) (ai (Or.inr ⟨(hF _).nms.trans (hF _).nms.symm, (hF _).far⟩ : F f2 = F f0 ∨ (names (F f2) = names (F f0) ∧ Far (F f2))) (ti)))))) (by kernel_rfl)
   ·
    obtain rfl := Option.some.inj h
    exact runI_call mixed [(13, .int (a2.length : Int)), (14, .bit true), (17, .ret (.d ((D.l TSlot.D) r1))), (18, .own false (.d (D.b false)) [] (F f3))] [] [] (hF _).far (hF _).cls (ai (len_map (D.l TValue.D) a2) (ai h1 (ai (slices_Clone_Slot_Slot_ok a3 r1 h2) (ai (hY f0 r1 (f3, false) h4) (ai (Or.inr ⟨(hF _).nms.trans (hF _).nms.symm, (hF _).far⟩ : F f3 = F f0 ∨ (names (F f3) = names (F f0) ∧ Far (F f3))) (ti)))))) (by kernel_rfl)
  ·
   obtain ⟨o16, h12, h⟩ := bndE_some h
   replace h := sumE_some h
   rcases h with ⟨o17, rfl, h⟩ | ⟨o18, rfl, h⟩
   ·
    obtain ⟨x19, h13, h⟩ := idxE_some h
    obtain ⟨o34, h24, h⟩ := bndE_some h
    replace h := sumE_some h
    rcases h with ⟨o35, rfl, h⟩ | ⟨o36, rfl, h⟩
    ·
     obtain rfl := Option.some.inj h
     exact runI_call mixed [(13, .int (a2.length : Int)), (14, .bit false), (33, .el ((D.l TValue.D) x19)), (35, .int (x19.length : Int))] [⟨[1, 0, 1, 1], [.live [1, 2, 3, 4, 5, 19], .keep [5]], .normal, (domain_bindings_1_b1_O l F f0 a1 a2 a3 a4 a4 (Sum.inl o17)).2⟩, ⟨[0, 1, 1, 1, 1], [.live [1, 2, 3, 4, 5, 34, 35, 36], .keep [5]], .exit 2, (domain_bindings_1_l6_O l F a1 a2 a3 a4 x19 (x19.length : Int) (Sum.inl o35)).2⟩] [] (hF _).far (hF _).cls (ai (len_map (D.l TValue.D) a2) (ai h1 (ai (domain_bindings_1_b1_ok none step l F N hF hY f0 a1 a2 a3 a4 a4 (Sum.inl o17) h12) (ai (elem_map (D.l TValue.D) h13) (ai (len_map TValue.D x19) (ai (domain_bindings_1_l6_ok none step l F N hF hY a1 a2 a3 a4 x19 (x19.length : Int) o17 0 (Sum.inl o35) h24) (ti))))))) (by kernel_rfl)
    ·
     obtain rfl := Option.some.inj h
     exact runI_call mixed [(13, .int (a2.length : Int)), (14, .bit false), (33, .el ((D.l TValue.D) x19)), (35, .int (x19.length : Int))] [⟨[1, 0, 1, 1], [.live [1, 2, 3, 4, 5, 19], .keep [5]], .normal, (domain_bindings_1_b1_O l F f0 a1 a2 a3 a4 a4 (Sum.inl o17)).2⟩, ⟨[0, 1, 1, 1, 1], [.live [1, 2, 3, 4, 5, 34, 35, 36], .keep [5]], .ret, (domain_bindings_1_l6_O l F a1 a2 a3 a4 x19 (x19.length : Int) (Sum.inr o36)).2⟩] [] (hF _).far (hF _).cls (ai (len_map (D.l TValue.D) a2) (ai h1 (ai (domain_bindings_1_b1_ok none step l F N hF hY f0 a1 a2 a3 a4 a4 (Sum.inl o17) h12) (ai (elem_map (D.l TValue.D) h13) (ai (len_map TValue.D x19) (ai (domain_bindings_1_l6_ok none step l F N hF hY a1 a2 a3 a4 x19 (x19.length : Int) o17 0 (Sum.inr o36) h24) (ti))))))) (by kernel_rfl)
   ·
    obtain rfl := Option.some.inj h
    exact runI_call mixed [(13, .int (a2.length : Int)), (14, .bit false)] [⟨[1, 0, 1, 1], [.live [1, 2, 3, 4, 5, 19], .keep [5]], .ret, (domain_bindings_1_b1_O l F f0 a1 a2 a3 a4 a4 (Sum.inr o18)).2⟩] [] (hF _).far (hF _).cls (ai (len_map (D.l TValue.D) a2) (ai h1 (ai (domain_bindings_1_b1_ok none step l F N hF hY f0 a1 a2 a3 a4 a4 (Sum.inr o18) h12) (ti)))) (by kernel_rfl)
def slices_AppendSeq_Slot_Slot_b4_I (uz : List Value) (s6_1 : Int) (s6_2 : List (List TValue)) (s6_3 : List TSlot) (s6_4 : Bool) (s7 : List TSlot) (w600 : List (List TSlot)) (w998_1 : Int) (w998_2 : List (List TValue)) (w998_3 : List TSlot) (w998_4 : Bool) : St := ⟨sp 13 0 [(2, .box 2 0), (6, .clo (.func 60) [] [.eptr (D.cells ((D.i .i64) s6_1)), .eptr (D.cells ((D.l (D.l TValue.D)) s6_2)), .eptr (D.cells ((D.l TSlot.D) s6_3)), .eptr (D.cells (D.b s6_4))]), (7, .d ((D.l TSlot.D) s7))], [(2, .cells ([.row 600])), (600, .row 82 1 (w600.map (D.l TSlot.D))), (998, .vals (sp 13 0 [(2, .box 2 0), (6, .clo (.func 60) [] [.eptr (D.cells ((D.i .i64) w998_1)), .eptr (D.cells ((D.l (D.l TValue.D)) w998_2)), .eptr (D.cells ((D.l TSlot.D) w998_3)), .eptr (D.cells (D.b w998_4))])]) uz)], []⟩
def slices_AppendSeq_Slot_Slot_b4_O (uz : List Value) (s6_1 : Int) (s6_2 : List (List TValue)) (s6_3 : List TSlot) (s6_4 : Bool) (s7 : List TSlot) (w600 : List (List TSlot)) (w998_1 : Int) (w998_2 : List (List TValue)) (w998_3 : List TSlot) (w998_4 : Bool) (o : Unit) : Ex × St := (.normal, ⟨sp 13 0 [(2, .box 2 0), (5, .d ((D.l TSlot.D) s7)), (6, .clo (.func 60) [] [.eptr (D.cells ((D.i .i64) s6_1)), .eptr (D.cells ((D.l (D.l TValue.D)) s6_2)), .eptr (D.cells ((D.l TSlot.D) s6_3)), .eptr (D.cells (D.b s6_4))])], [(2, .cells ([.row 600])), (600, .row 82 1 (w600.map (D.l TSlot.D))), (998, .vals (sp 13 0 [(2, .box 2 0), (6, .clo (.func 60) [] [.eptr (D.cells ((D.i .i64) w998_1)), .eptr (D.cells ((D.l (D.l TValue.D)) w998_2)), .eptr (D.cells ((D.l TSlot.D) w998_3)), .eptr (D.cells (D.b w998_4))])]) uz)], []⟩)
theorem slices_AppendSeq_Slot_Slot_b4_ok (rd : Option Nat) (uz : List Value) (s6_1 : Int) (s6_2 : List (List TValue)) (s6_3 : List TSlot) (s6_4 : Bool) (s7 : List TSlot) (w600 : List (List TSlot)) (w998_1 : Int) (w998_2 : List (List TValue)) (w998_3 : List TSlot) (w998_4 : Bool) (o : Unit) (h : slices_AppendSeq_Slot_Slot_b4 s6_1 s6_2 s6_3 s6_4 s7 w600 w998_1 w998_2 w998_3 w998_4 = some o) : LpOf Try.prog rd (fbody Try.prog 59) [0, 0, 1, 0, 1] (slices_AppendSeq_Slot_Slot_b4_I uz s6_1 s6_2 s6_3 s6_4 s7 w600 w998_1 w998_2 w998_3 w998_4) (slices_AppendSeq_Slot_Slot_b4_O uz s6_1 s6_2 s6_3 s6_4 s7 w600 w998_1 w998_2 w998_3 w998_4 o).1 (slices_AppendSeq_Slot_Slot_b4_O uz s6_1 s6_2 s6_3 s6_4 s7 w600 w998_1 w998_2 w998_3 w998_4 o).2 := by
  unfold slices_AppendSeq_Slot_Slot_b4 at h
  obtain rfl := Option.some.inj h
  exact (runB_arr mixed [] [] [.live [2, 5, 6], .keep [2, 600, 998]] (ti) (by kernel_rfl)).lp
def slices_AppendSeq_Slot_Slot_b6_I (uz : List Value) (s5 : List TSlot) (s6_1 : Int) (s6_2 : List (List TValue)) (s6_3 : List TSlot) (s6_4 : Bool) (w600 : List (List TSlot)) (w998_1 : Int) (w998_2 : List (List TValue)) (w998_3 : List TSlot) (w998_4 : Bool) : St := ⟨sp 13 0 [(2, .box 2 0), (5, .d ((D.l TSlot.D) s5)), (6, .clo (.func 60) [] [.eptr (D.cells ((D.i .i64) s6_1)), .eptr (D.cells ((D.l (D.l TValue.D)) s6_2)), .eptr (D.cells ((D.l TSlot.D) s6_3)), .eptr (D.cells (D.b s6_4))])], [(2, .cells ([.row 600])), (600, .row 82 1 (w600.map (D.l TSlot.D))), (998, .vals (sp 13 0 [(2, .box 2 0), (6, .clo (.func 60) [] [.eptr (D.cells ((D.i .i64) w998_1)), .eptr (D.cells ((D.l (D.l TValue.D)) w998_2)), .eptr (D.cells ((D.l TSlot.D) w998_3)), .eptr (D.cells (D.b w998_4))])]) uz)], []⟩
def slices_AppendSeq_Slot_Slot_b6_O (uz : List Value) (s5 : List TSlot) (s6_1 : Int) (s6_2 : List (List TValue)) (s6_3 : List TSlot) (s6_4 : Bool) (w600 : List (List TSlot)) (w998_1 : Int) (w998_2 : List (List TValue)) (w998_3 : List TSlot) (w998_4 : Bool) (o : Unit) : Ex × St := (.normal, ⟨sp 13 0 [], [(2, .cells ([.row 600])), (600, .row 82 1 ((w600 ++ [s5]).map (D.l TSlot.D))), (998, .vals (sp 13 0 [(2, .box 2 0), (6, .clo (.func 60) [] [.eptr (D.cells ((D.i .i64) w998_1)), .eptr (D.cells ((D.l (D.l TValue.D)) w998_2)), .eptr (D.cells ((D.l TSlot.D) w998_3)), .eptr (D.cells (D.b w998_4))])]) uz)], []⟩)
theorem slices_AppendSeq_Slot_Slot_b6_ok (rd : Option Nat) (uz : List Value) (s5 : List TSlot) (s6_1 : Int) (s6_2 : List (List TValue)) (s6_3 : List TSlot) (s6_4 : Bool) (w600 : List (List TSlot)) (w998_1 : Int) (w998_2 : List (List TValue)) (w998_3 : List TSlot) (w998_4 : Bool) (o : Unit) (h : slices_AppendSeq_Slot_Slot_b6 s5 s6_1 s6_2 s6_3 s6_4 w600 w998_1 w998_2 w998_3 w998_4 = some o) : LpOf Try.prog rd (fbody Try.prog 59) [1, 0, 1, 0, 1] (slices_AppendSeq_Slot_Slot_b6_I uz s5 s6_1 s6_2 s6_3 s6_4 w600 w998_1 w998_2 w998_3 w998_4) (slices_AppendSeq_Slot_Slot_b6_O uz s5 s6_1 s6_2 s6_3 s6_4 w600 w998_1 w998_2 w998_3 w998_4 o).1 (slices_AppendSeq_Slot_Slot_b6_O uz s5 s6_1 s6_2 s6_3 s6_4 w600 w998_1 w998_2 w998_3 w998_4 o).2 := by
  unfold slices_AppendSeq_Slot_Slot_b6 at h
  obtain ⟨h3, h⟩ := chkE_some h
  obtain rfl := Option.some.inj h
  exact (runB_arr mixed [(11, .sl ((w600 ++ [s5]).map (D.l TSlot.D)))] [] [.live [], .keep [2, 11, 998], .ren 11 600, .sort] (ai (nc_ok (D.l TSlot.D) [s5]) (ai (nc_ok (D.l TSlot.D) [s5]) (ai (fit_map (D.l TSlot.D) h3) (ai (app_map (D.l TSlot.D) w600 [s5]) (ti))))) (by kernel_rfl)).lp
def slices_AppendSeq_Slot_Slot_r1_E (s6_1 : Int) (s6_2 : List (List TValue)) (s6_3 : List TSlot) (s6_4 : Bool) : List A := sp 13 0 [(2, .box 2 0), (6, .clo (.func 60) [] [.eptr (D.cells ((D.i .i64) s6_1)), .eptr (D.cells ((D.l (D.l TValue.D)) s6_2)), .eptr (D.cells ((D.l TSlot.D) s6_3)), .eptr (D.cells (D.b s6_4))])]
def slices_AppendSeq_Slot_Slot_r1_BL (s6_1 : Int) (s6_2 : List (List TValue)) (s6_3 : List TSlot) (s6_4 : Bool) (s : List (List TSlot)) : Bx := [(2, .cells ([.row 600])), (600, .row 82 1 (s.map (D.l TSlot.D)))]
def slices_AppendSeq_Slot_Slot_r1_BT (s6_1 : Int) (s6_2 : List (List TValue)) (s6_3 : List TSlot) (s6_4 : Bool) (t : Empty) : Bx := t.elim
def slices_AppendSeq_Slot_Slot_r1_X (t : Empty) : Ex := t.elim
def slices_AppendSeq_Slot_Slot_r1_O (s6_1 : Int) (s6_2 : List (List TValue)) (s6_3 : List TSlot) (s6_4 : Bool) (o : (List (List TSlot)) ⊕ (Empty)) : Ex × St := (rex slices_AppendSeq_Slot_Slot_r1_X o, ⟨slices_AppendSeq_Slot_Slot_r1_E s6_1 s6_2 s6_3 s6_4, rbx (slices_AppendSeq_Slot_Slot_r1_BL s6_1 s6_2 s6_3 s6_4) (slices_AppendSeq_Slot_Slot_r1_BT s6_1 s6_2 s6_3 s6_4) o, rbx (fun _ => []) (fun _ => []) o⟩)
theorem slices_AppendSeq_Slot_Slot_r1_rnd (s6_1 : Int) (s6_2 : List (List TValue)) (s6_3 : List TSlot) (s6_4 : Bool) (s : List (List TSlot)) (x : (List TSlot)) (o : (List (List TSlot)) ⊕ (Empty)) (h : slices_AppendSeq_Slot_Slot_r1_rd s6_1 s6_2 s6_3 s6_4 s x = some o) (m : Nat) (uz : List Value) : ∃ M E1, LpOf Try.prog (some m) (fbody Try.prog 59) (0 :: [0, 1, 0, 1]) ⟨setPs (slices_AppendSeq_Slot_Slot_r1_E s6_1 s6_2 s6_3 s6_4) ((Array.toList #[7]).zip (domain_bindings_1_enc x)), slices_AppendSeq_Slot_Slot_r1_BL s6_1 s6_2 s6_3 s6_4 s ++ [(vn, .vals (slices_AppendSeq_Slot_Slot_r1_E s6_1 s6_2 s6_3 s6_4) uz)], (fun _ => []) s⟩ .normal M ∧
    LpOf Try.prog (some m) (fbody Try.prog 59) (1 :: [0, 1, 0, 1]) M (rex slices_AppendSeq_Slot_Slot_r1_X o) ⟨E1, rbx (slices_AppendSeq_Slot_Slot_r1_BL s6_1 s6_2 s6_3 s6_4) (slices_AppendSeq_Slot_Slot_r1_BT s6_1 s6_2 s6_3 s6_4) o ++ [(vn, .vals (slices_AppendSeq_Slot_Slot_r1_E s6_1 s6_2 s6_3 s6_4) uz)], rbx (fun _ => []) (fun _ => []) o⟩ := by
  unfold slices_AppendSeq_Slot_Slot_r1_rd at h
  obtain ⟨o5, h5, h⟩ := bndE_some h
  obtain ⟨o6, h6, h⟩ := bndE_some h
  obtain rfl := Option.some.inj h
  exact ⟨(slices_AppendSeq_Slot_Slot_b4_O uz s6_1 s6_2 s6_3 s6_4 x s s6_1 s6_2 s6_3 s6_4 o5).2, sp 13 0 [], lp_wks (w := [.live [2, 6, 7], .keep [2, 600, 998]]) (s1 := slices_AppendSeq_Slot_Slot_b4_I uz s6_1 s6_2 s6_3 s6_4 x s s6_1 s6_2 s6_3 s6_4) (by kernel_rfl) (lp_cast (slices_AppendSeq_Slot_Slot_b4_ok (some m) uz s6_1 s6_2 s6_3 s6_4 x s s6_1 s6_2 s6_3 s6_4 o5 h5) rfl (by kernel_rfl) rfl), lp_wks (w := [.live [2, 5, 6], .keep [2, 600, 998]]) (s1 := slices_AppendSeq_Slot_Slot_b6_I uz x s6_1 s6_2 s6_3 s6_4 s s6_1 s6_2 s6_3 s6_4) (by kernel_rfl) (lp_cast (slices_AppendSeq_Slot_Slot_b6_ok (some m) uz x s6_1 s6_2 s6_3 s6_4 s s6_1 s6_2 s6_3 s6_4 o6 h6) rfl (by kernel_rfl) (by kernel_rfl))⟩
theorem slices_AppendSeq_Slot_Slot_r1_ok (s6_1 : Int) (s6_2 : List (List TValue)) (s6_3 : List TSlot) (s6_4 : Bool) (s : List (List TSlot)) (o : (List (List TSlot)) ⊕ (Empty)) (h : domain_bindings_1 (stepOf (slices_AppendSeq_Slot_Slot_r1_rd s6_1 s6_2 s6_3 s6_4)) s6_1 s6_2 s6_3 s6_4 (.inl s) = some o) : LpOf Try.prog none (fbody Try.prog 59) [0, 1, 0, 1] ⟨slices_AppendSeq_Slot_Slot_r1_E s6_1 s6_2 s6_3 s6_4, slices_AppendSeq_Slot_Slot_r1_BL s6_1 s6_2 s6_3 s6_4 s, (fun _ => []) s⟩ (slices_AppendSeq_Slot_Slot_r1_O s6_1 s6_2 s6_3 s6_4 o).1 (slices_AppendSeq_Slot_Slot_r1_O s6_1 s6_2 s6_3 s6_4 o).2 :=
  range_ok (p := [0, 1, 0, 1]) (g := .tmp 6) (ps := #[7]) (assign := codeAt (fbody Try.prog 59) (0 :: [0, 1, 0, 1])) (body := codeAt (fbody Try.prog 59) (1 :: [0, 1, 0, 1])) (by kernel_rfl) (slices_AppendSeq_Slot_Slot_r1_BL s6_1 s6_2 s6_3 s6_4) (slices_AppendSeq_Slot_Slot_r1_BT s6_1 s6_2 s6_3 s6_4) (fun _ => []) (fun _ => []) slices_AppendSeq_Slot_Slot_r1_X domain_bindings_1_enc (slices_AppendSeq_Slot_Slot_r1_rd s6_1 s6_2 s6_3 s6_4) (gf := 60) (cs := [.eptr (D.cells ((D.i .i64) s6_1)), .eptr (D.cells ((D.l (D.l TValue.D)) s6_2)), .eptr (D.cells ((D.l TSlot.D) s6_3)), .eptr (D.cells (D.b s6_4))]) (by kernel_rfl) (by kernel_rfl) (by kernel_rfl) (fun x => ⟨by kernel_rfl, by kernel_rfl⟩) (fun s us => by kernel_rfl) (fun t us => t.elim) (fun s => rfl) (fun t => t.elim) (by kernel_rfl) (fun t => t.elim) (fun s => FOk.nil) (fun t => FOk.nil) (fun s x o h m us => slices_AppendSeq_Slot_Slot_r1_rnd s6_1 s6_2 s6_3 s6_4 s x o h m us) (domain_bindings_1_ok (stepOf (slices_AppendSeq_Slot_Slot_r1_rd s6_1 s6_2 s6_3 s6_4)) s6_1 s6_2 s6_3 s6_4 (.inl s) o h)
theorem slices_AppendSeq_Slot_Slot_ok (a1_1 : Int) (a1_2 : List (List TValue)) (a1_3 : List TSlot) (a1_4 : Bool) (r : List (List TSlot)) (h : slices_AppendSeq_Slot_Slot a1_1 a1_2 a1_3 a1_4 = some r) : ACall Try.prog 59 [.nil, .clo (.func 60) [] [.eptr (D.cells ((D.i .i64) a1_1)), .eptr (D.cells ((D.l (D.l TValue.D)) a1_2)), .eptr (D.cells ((D.l TSlot.D) a1_3)), .eptr (D.cells (D.b a1_4))]] [] (.d ((D.l (D.l TSlot.D)) r)) [] := by
  unfold slices_AppendSeq_Slot_Slot at h
  obtain ⟨o7, h4, h⟩ := bndE_some h
  replace h := sumE_some h
  rcases h with ⟨o8, rfl, h⟩ | ⟨o9, rfl, h⟩
  ·
   obtain rfl := Option.some.inj h
   exact runF_call mixed [] [⟨[0, 1, 0, 1], [.live [2, 6], .keep [2], .nilc 2 0 600 82 1, .frz 600, .sort], .normal, (slices_AppendSeq_Slot_Slot_r1_O a1_1 a1_2 a1_3 a1_4 (Sum.inl o8)).2⟩] [] (ai (slices_AppendSeq_Slot_Slot_r1_ok a1_1 a1_2 a1_3 a1_4 ([] : List (List TSlot)) (Sum.inl o8) h4) (ti)) (by kernel_rfl)
  ·
   cases h
theorem slices_Collect_Slot_ok (a0_1 : Int) (a0_2 : List (List TValue)) (a0_3 : List TSlot) (a0_4 : Bool) (r : List (List TSlot)) (h : slices_Collect_Slot a0_1 a0_2 a0_3 a0_4 = some r) : ACall Try.prog 45 [.clo (.func 60) [] [.eptr (D.cells ((D.i .i64) a0_1)), .eptr (D.cells ((D.l (D.l TValue.D)) a0_2)), .eptr (D.cells ((D.l TSlot.D) a0_3)), .eptr (D.cells (D.b a0_4))]] [] (.d ((D.l (D.l TSlot.D)) r)) [] := by
  unfold slices_Collect_Slot at h
  obtain ⟨r1, h1, h⟩ := bndE_some h
  obtain rfl := Option.some.inj h
  exact runF_call mixed [(4, .cx true [] [] (.d ((D.l (D.l TSlot.D)) r1)) [])] [] [] (ai (slices_AppendSeq_Slot_Slot_ok a0_1 a0_2 a0_3 a0_4 r1 h1) (ti)) (by kernel_rfl)
theorem domain_list_ok (a0 : List (List TValue)) (a1 : Bool) (r : List (List TSlot)) (h : domain_list a0 a1 = some r) : ACall Try.prog 27 [.d ((D.l (D.l TValue.D)) a0), .d (D.b a1)] [] (.d ((D.l (D.l TSlot.D)) r)) [] := by
  unfold domain_list at h
  obtain ⟨r1, h1, h⟩ := bndE_some h
  rcases iteE_some h with ⟨h2, h⟩ | ⟨h2, h⟩
  ·
   obtain rfl := Option.some.inj h
   exact runF_call mixed [(7, .ret (.d ((D.i .i64) r1))), (9, .bit true)] [] [] (ai (domain_Many_ok a0 a1 r1 h1) (ai h2 (ti))) (by kernel_rfl)
  ·
   rcases iteE_some h with ⟨h3, h⟩ | ⟨h3, h⟩
   ·
    obtain rfl := Option.some.inj h
    exact runF_call mixed [(7, .ret (.d ((D.i .i64) r1))), (9, .bit false), (11, .int (a0.length : Int)), (13, .bit true)] [] [] (ai (domain_Many_ok a0 a1 r1 h1) (ai h2 (ai (len_map (D.l TValue.D) a0) (ai h3 (ti))))) (by kernel_rfl)
   ·
    obtain ⟨r2, h4, h⟩ := bndE_some h
    obtain ⟨r3, h5, h⟩ := bndE_some h
    obtain rfl := Option.some.inj h
    exact runF_call mixed [(7, .ret (.d ((D.i .i64) r1))), (9, .bit false), (11, .int (a0.length : Int)), (13, .bit false), (16, .ret (.clo (.func 60) [] [.eptr (D.cells ((D.i .i64) r2.1)), .eptr (D.cells ((D.l (D.l TValue.D)) r2.2.1)), .eptr (D.cells ((D.l TSlot.D) r2.2.2.1)), .eptr (D.cells (D.b r2.2.2.2))])), (17, .ret (.d ((D.l (D.l TSlot.D)) r3)))] [] [] (ai (domain_Many_ok a0 a1 r1 h1) (ai h2 (ai (len_map (D.l TValue.D) a0) (ai h3 (ai (domain_bindings_ok a0 0 ([] : List TSlot) a1 r2 h4) (ai (slices_Collect_Slot_ok r2.1 r2.2.1 r2.2.2.1 r2.2.2.2 r3 h5) (ti))))))) (by kernel_rfl)
theorem domain_Full_ok (a0 : List (List TValue)) (r : List (List TSlot)) (h : domain_Full a0 = some r) : ACall Try.prog 8 [.d ((D.l (D.l TValue.D)) a0)] [] (.d ((D.l (D.l TSlot.D)) r)) [] := by
  unfold domain_Full at h
  obtain ⟨r1, h1, h⟩ := bndE_some h
  obtain rfl := Option.some.inj h
  exact runF_call mixed [(4, .ret (.d ((D.l (D.l TSlot.D)) r1)))] [] [] (ai (domain_list_ok a0 false r1 h1) (ti)) (by kernel_rfl)
theorem domain_Parts_ok (a0 : List (List TValue)) (r : List (List TSlot)) (h : domain_Parts a0 = some r) : ACall Try.prog 26 [.d ((D.l (D.l TValue.D)) a0)] [] (.d ((D.l (D.l TSlot.D)) r)) [] := by
  unfold domain_Parts at h
  obtain ⟨r1, h1, h⟩ := bndE_some h
  obtain rfl := Option.some.inj h
  exact runF_call mixed [(4, .ret (.d ((D.l (D.l TSlot.D)) r1)))] [] [] (ai (domain_list_ok a0 true r1 h1) (ti)) (by kernel_rfl)
theorem law20_awake_ok (r : Bool) (h : law20_awake = some r) : ACall Try.prog 6 [] [] (.d (D.b r)) [] := by
  unfold law20_awake at h
  obtain ⟨r1, h1, h⟩ := bndE_some h
  obtain ⟨r2, h2, h⟩ := bndE_some h
  obtain ⟨r3, h3, h⟩ := bndE_some h
  obtain ⟨r4, h4, h⟩ := bndE_some h
  rcases iteE_some h with ⟨h5, h⟩ | ⟨h5, h⟩
  ·
   obtain ⟨r5, h6, h⟩ := bndE_some h
   rcases iteE_some h with ⟨h7, h⟩ | ⟨h7, h⟩
   ·
    obtain ⟨r6, h8, h⟩ := bndE_some h
    obtain rfl := Option.some.inj h
    exact runF_call mixed [(2, .ret (.d (TValue.D r1))), (3, .ret (.d (TValue.D r2))), (5, .ret (.d (TValue.D r3))), (9, .ret (.d ((D.l (D.l TSlot.D)) r4))), (10, .int (r4.length : Int)), (12, .bit true), (14, .ret (.d ((D.l (D.l TSlot.D)) r5))), (15, .int (r5.length : Int)), (18, .bit true), (20, .ret (.d ((D.i .i64) r6)))] [] [] (ai (law20_one_ok 5 r1 h1) (ai (law20_one_ok 6 r2 h2) (ai (nc_ok TValue.D [r1, r2]) (ai (law20_one_ok 7 r3 h3) (ai (nc_ok TValue.D [r3]) (ai (nc_ok (D.l TValue.D) ([[r1, r2], [r3]])) (ai (domain_Full_ok ([[r1, r2], [r3]]) r4 h4) (ai (len_map (D.l TSlot.D) r4) (ai h5 (ai (domain_Parts_ok ([[r1, r2], [r3]]) r5 h6) (ai (len_map (D.l TSlot.D) r5) (ai h7 (ai (domain_Many_ok ([[r1, r2], [r3]]) true r6 h8) (ti)))))))))))))) (by kernel_rfl)
   ·
    obtain rfl := Option.some.inj h
    exact runF_call mixed [(2, .ret (.d (TValue.D r1))), (3, .ret (.d (TValue.D r2))), (5, .ret (.d (TValue.D r3))), (9, .ret (.d ((D.l (D.l TSlot.D)) r4))), (10, .int (r4.length : Int)), (12, .bit true), (14, .ret (.d ((D.l (D.l TSlot.D)) r5))), (15, .int (r5.length : Int)), (18, .bit false)] [] [] (ai (law20_one_ok 5 r1 h1) (ai (law20_one_ok 6 r2 h2) (ai (nc_ok TValue.D [r1, r2]) (ai (law20_one_ok 7 r3 h3) (ai (nc_ok TValue.D [r3]) (ai (nc_ok (D.l TValue.D) ([[r1, r2], [r3]])) (ai (domain_Full_ok ([[r1, r2], [r3]]) r4 h4) (ai (len_map (D.l TSlot.D) r4) (ai h5 (ai (domain_Parts_ok ([[r1, r2], [r3]]) r5 h6) (ai (len_map (D.l TSlot.D) r5) (ai h7 (ti))))))))))))) (by kernel_rfl)
  ·
   obtain rfl := Option.some.inj h
   exact runF_call mixed [(2, .ret (.d (TValue.D r1))), (3, .ret (.d (TValue.D r2))), (5, .ret (.d (TValue.D r3))), (9, .ret (.d ((D.l (D.l TSlot.D)) r4))), (10, .int (r4.length : Int)), (12, .bit false)] [] [] (ai (law20_one_ok 5 r1 h1) (ai (law20_one_ok 6 r2 h2) (ai (nc_ok TValue.D [r1, r2]) (ai (law20_one_ok 7 r3 h3) (ai (nc_ok TValue.D [r3]) (ai (nc_ok (D.l TValue.D) ([[r1, r2], [r3]])) (ai (domain_Full_ok ([[r1, r2], [r3]]) r4 h4) (ai (len_map (D.l TSlot.D) r4) (ai h5 (ti)))))))))) (by kernel_rfl)
theorem domain_NewSet_Value_v2_ok (r : Unit) (h : domain_NewSet_Value_v2 = some r) : ACall Try.prog 9 [.clo (.func 10) [] []] [] (.box 0 0) [(0, .cells ([.nil, .clo (.func 10) [] []]))] := by
  unfold domain_NewSet_Value_v2 at h
  obtain rfl := Option.some.inj h
  exact runX_call mixed (fun us => []) (fun us => []) [.live [2], .keep [5, 997], .ren 5 0, .sort] [] (fun us => ti) (by kernel_rfl)
theorem ref03_Right_ok (a0 : TValue) (r : Bool) (h : ref03_Right a0 = some r) : ACall Try.prog 11 [.d (TValue.D a0)] [] (.d (D.b r)) [] := by
  unfold ref03_Right at h
  rcases iteE_some h with ⟨h1, h⟩ | ⟨h1, h⟩
  ·
   rcases iteE_some h with ⟨h2, h⟩ | ⟨h2, h⟩
   ·
    obtain rfl := Option.some.inj h
    exact runF_call mixed [(5, .bit true), (9, .bit true)] [] [] (ai h1 (ai h2 (ti))) (by kernel_rfl)
   ·
    obtain rfl := Option.some.inj h
    exact runF_call mixed [(5, .bit true), (9, .bit false)] [] [] (ai h1 (ai h2 (ti))) (by kernel_rfl)
  ·
   rcases iteE_some h with ⟨h3, h⟩ | ⟨h3, h⟩
   ·
    rcases iteE_some h with ⟨h4, h⟩ | ⟨h4, h⟩
    ·
     rcases iteE_some h with ⟨h5, h⟩ | ⟨h5, h⟩
     ·
      obtain rfl := Option.some.inj h
      exact runF_call mixed [(5, .bit false), (16, .bit true), (20, .bit true), (25, .bit true), (28, .int (a0.str.length : Int))] [] [] (ai h1 (ai h3 (ai h4 (ai h5 (ai (len_str a0.str) (ti)))))) (by kernel_rfl)
     ·
      obtain rfl := Option.some.inj h
      exact runF_call mixed [(5, .bit false), (16, .bit true), (20, .bit true), (25, .bit false)] [] [] (ai h1 (ai h3 (ai h4 (ai h5 (ti))))) (by kernel_rfl)
    ·
     obtain rfl := Option.some.inj h
     exact runF_call mixed [(5, .bit false), (16, .bit true), (20, .bit false)] [] [] (ai h1 (ai h3 (ai h4 (ti)))) (by kernel_rfl)
   ·
    rcases iteE_some h with ⟨h6, h⟩ | ⟨h6, h⟩
    ·
     rcases iteE_some h with ⟨h7, h⟩ | ⟨h7, h⟩
     ·
      obtain rfl := Option.some.inj h
      exact runF_call mixed [(5, .bit false), (16, .bit false), (34, .bit true), (39, .bit true)] [] [] (ai h1 (ai h3 (ai h6 (ai h7 (ti))))) (by kernel_rfl)
     ·
      obtain rfl := Option.some.inj h
      exact runF_call mixed [(5, .bit false), (16, .bit false), (34, .bit true), (39, .bit false)] [] [] (ai h1 (ai h3 (ai h6 (ai h7 (ti))))) (by kernel_rfl)
    ·
     obtain rfl := Option.some.inj h
     exact runF_call mixed [(5, .bit false), (16, .bit false), (34, .bit false)] [] [] (ai h1 (ai h3 (ai h6 (ti)))) (by kernel_rfl)
def ref03_Below_l1_I (s0 : List UInt8) (s1 : List UInt8) (s5 : Int) : St := ⟨sp 37 0 [(0, .d (D.s s0)), (1, .d (D.s s1)), (5, .d ((D.i .i64) s5))], [], []⟩
def ref03_Below_l1_O (s0 : List UInt8) (s1 : List UInt8) (o : Unit ⊕ Bool) : Ex × St := match o with
  | .inl o => (.exit 0, ⟨sp 37 0 [(0, .d (D.s s0)), (1, .d (D.s s1))], [], []⟩)
  | .inr o => (.ret, ⟨sp 37 0 [(4, .d (D.b o))], [], []⟩)
theorem ref03_Below_l1_rnd (rd : Option Nat) (s0 : List UInt8) (s1 : List UInt8) (s5 : Int) (o : (Int) ⊕ (Unit ⊕ Bool)) (h : ref03_Below_l1_s s0 s1 s5 = some o) : Arr Try.prog rd (fbody Try.prog 28) (0 :: [0, 1, 0, 1]) (ref03_Below_l1_I s0 s1 s5) (rR (fun s : Int => ref03_Below_l1_I s0 s1 s) (ref03_Below_l1_O s0 s1) o).1 (rR (fun s : Int => ref03_Below_l1_I s0 s1 s) (ref03_Below_l1_O s0 s1) o).2 := by
  unfold ref03_Below_l1_s at h
  rcases iteE_some h with ⟨h1, h⟩ | ⟨h1, h⟩
  ·
   rcases iteE_some h with ⟨h2, h⟩ | ⟨h2, h⟩
   ·
    obtain ⟨x1, h3, h⟩ := idxE_some h
    obtain ⟨x2, h4, h⟩ := idxE_some h
    rcases iteE_some h with ⟨h5, h⟩ | ⟨h5, h⟩
    ·
     obtain ⟨x3, h6, h⟩ := idxE_some h
     obtain ⟨x4, h7, h⟩ := idxE_some h
     obtain rfl := Option.some.inj h
     exact runB_arr mixed [(8, .int (s0.length : Int)), (10, .bit true), (13, .int (s1.length : Int)), (15, .bit true), (20, .int x1.toNat), (23, .int x2.toNat), (24, .bit true), (27, .int x3.toNat), (30, .int x4.toNat)] [] [.live [4], .keep []] (ai (len_str s0) (ai h1 (ai (len_str s1) (ai h2 (ai (byte_ok h3) (ai (byte_ok h4) (ai h5 (ai (byte_ok h6) (ai (byte_ok h7) (ti)))))))))) (by kernel_rfl)
    ·
     obtain rfl := Option.some.inj h
     exact runB_arr mixed [(8, .int (s0.length : Int)), (10, .bit true), (13, .int (s1.length : Int)), (15, .bit true), (20, .int x1.toNat), (23, .int x2.toNat), (24, .bit false)] [] [.live [0, 1, 5], .keep []] (ai (len_str s0) (ai h1 (ai (len_str s1) (ai h2 (ai (byte_ok h3) (ai (byte_ok h4) (ai h5 (ti)))))))) (by kernel_rfl)
   ·
    obtain rfl := Option.some.inj h
    exact runB_arr mixed [(8, .int (s0.length : Int)), (10, .bit true), (13, .int (s1.length : Int)), (15, .bit false)] [] [.live [0, 1], .keep []] (ai (len_str s0) (ai h1 (ai (len_str s1) (ai h2 (ti))))) (by kernel_rfl)
  ·
   obtain rfl := Option.some.inj h
   exact runB_arr mixed [(8, .int (s0.length : Int)), (10, .bit false)] [] [.live [0, 1], .keep []] (ai (len_str s0) (ai h1 (ti))) (by kernel_rfl)
theorem ref03_Below_l1_ok (rd : Option Nat) (s0 : List UInt8) (s1 : List UInt8) (s5 : Int) (t : Unit ⊕ Bool) (h : ref03_Below_l1 s0 s1 s5 = some t) : LpOf Try.prog rd (fbody Try.prog 28) [0, 1, 0, 1] (ref03_Below_l1_I s0 s1 s5) ((ref03_Below_l1_O s0 s1) t).1 ((ref03_Below_l1_O s0 s1) t).2 :=
  loopE_lpR (fun s : Int => ref03_Below_l1_I s0 s1 s) (ref03_Below_l1_O s0 s1) (by kernel_rfl) (fun t => isN_ne (by rcases t with (_ | _) <;> rfl)) (fun s o h => ref03_Below_l1_rnd rd s0 s1 s o h) (s := s5) (t := t) h
theorem ref03_Below_ok (a0 : List UInt8) (a1 : List UInt8) (r : Bool) (h : ref03_Below a0 a1 = some r) : ACall Try.prog 28 [.d (D.s a0), .d (D.s a1)] [] (.d (D.b r)) [] := by
  unfold ref03_Below at h
  obtain ⟨o5, h8, h⟩ := bndE_some h
  replace h := sumE_some h
  rcases h with ⟨o6, rfl, h⟩ | ⟨o7, rfl, h⟩
  ·
   obtain rfl := Option.some.inj h
   exact runF_call mixed [(33, .int (a0.length : Int)), (35, .int (a1.length : Int))] [⟨[0, 1, 0, 1], [.live [0, 1, 5], .keep []], .exit 0, (ref03_Below_l1_O a0 a1 (Sum.inl o6)).2⟩] [] (ai (ref03_Below_l1_ok none a0 a1 0 (Sum.inl o6) h8) (ai (len_str a0) (ai (len_str a1) (ti)))) (by kernel_rfl)
  ·
   obtain rfl := Option.some.inj h
   exact runF_call mixed [] [⟨[0, 1, 0, 1], [.live [0, 1, 5], .keep []], .ret, (ref03_Below_l1_O a0 a1 (Sum.inr o7)).2⟩] [] (ai (ref03_Below_l1_ok none a0 a1 0 (Sum.inr o7) h8) (ti)) (by kernel_rfl)
theorem ref03_Less_ok (a0 : TValue) (a1 : TValue) (r : Bool) (h : ref03_Less a0 a1 = some r) : ACall Try.prog 10 [.d (TValue.D a0), .d (TValue.D a1)] [] (.d (D.b r)) [] := by
  unfold ref03_Less at h
  rcases iteE_some h with ⟨h1, h⟩ | ⟨h1, h⟩
  ·
   obtain rfl := Option.some.inj h
   exact runF_call mixed [(9, .bit true)] [] [] (ai h1 (ti)) (by kernel_rfl)
  ·
   rcases iteE_some h with ⟨h2, h⟩ | ⟨h2, h⟩
   ·
    obtain rfl := Option.some.inj h
    exact runF_call mixed [(9, .bit false), (17, .bit true)] [] [] (ai h1 (ai h2 (ti))) (by kernel_rfl)
   ·
    rcases iteE_some h with ⟨h3, h⟩ | ⟨h3, h⟩
    ·
     obtain ⟨r1, h4, h⟩ := bndE_some h
     obtain rfl := Option.some.inj h
     exact runF_call mixed [(9, .bit false), (17, .bit false), (25, .bit true), (30, .ret (.d (D.b r1)))] [] [] (ai h1 (ai h2 (ai h3 (ai (ref03_Below_ok a0.str a1.str r1 h4) (ti))))) (by kernel_rfl)
    ·
     rcases iteE_some h with ⟨h5, h⟩ | ⟨h5, h⟩
     ·
      obtain rfl := Option.some.inj h
      exact runF_call mixed [(9, .bit false), (17, .bit false), (25, .bit false), (34, .bit true)] [] [] (ai h1 (ai h2 (ai h3 (ai h5 (ti))))) (by kernel_rfl)
     ·
      obtain rfl := Option.some.inj h
      exact runF_call mixed [(9, .bit false), (17, .bit false), (25, .bit false), (34, .bit false)] [] [] (ai h1 (ai h2 (ai h3 (ai h5 (ti))))) (by kernel_rfl)
def ref20_Put_l1_I (s0 : List TValue) (w3 : TValue) (s5 : Int) : St := ⟨sp 48 0 [(0, .d ((D.l TValue.D) s0)), (3, .box 3 0), (5, .d ((D.i .i64) s5))], [(3, .cells ((cellsA (TValue.D w3))))], []⟩
def ref20_Put_l1_O (s0 : List TValue) (w3 : TValue) (o : Int) : Ex × St := (.exit 0, ⟨sp 48 0 [(0, .d ((D.l TValue.D) s0)), (3, .box 3 0), (5, .d ((D.i .i64) o))], [(3, .cells ((cellsA (TValue.D w3))))], []⟩)
theorem ref20_Put_l1_rnd (rd : Option Nat) (s0 : List TValue) (w3 : TValue) (s5 : Int) (o : (Int) ⊕ (Int)) (h : ref20_Put_l1_s s0 w3 s5 = some o) : Arr Try.prog rd (fbody Try.prog 12) (0 :: [0, 0, 1, 1]) (ref20_Put_l1_I s0 w3 s5) (rR (fun s : Int => ref20_Put_l1_I s0 w3 s) (ref20_Put_l1_O s0 w3) o).1 (rR (fun s : Int => ref20_Put_l1_I s0 w3 s) (ref20_Put_l1_O s0 w3) o).2 := by
  unfold ref20_Put_l1_s at h
  rcases iteE_some h with ⟨h1, h⟩ | ⟨h1, h⟩
  ·
   obtain ⟨x1, h2, h⟩ := idxE_some h
   obtain ⟨r2, h3, h⟩ := bndE_some h
   cases r2 with
   | true =>
    replace h := iteT h
    obtain rfl := Option.some.inj h
    exact runB_arr mixed [(11, .bit true), (16, .el (TValue.D x1)), (18, .ret (.d (D.b true)))] [] [.live [0, 3, 5], .keep [3]] (ai h1 (ai (elem_map TValue.D h2) (ai (ref03_Less_ok w3 x1 true h3) (ti)))) (by kernel_rfl)
   | false =>
    replace h := iteF h
    obtain rfl := Option.some.inj h
    exact runB_arr mixed [(11, .bit true), (16, .el (TValue.D x1)), (18, .ret (.d (D.b false)))] [] [.live [0, 3, 5], .keep [3]] (ai h1 (ai (elem_map TValue.D h2) (ai (ref03_Less_ok w3 x1 false h3) (ti)))) (by kernel_rfl)
  ·
   obtain rfl := Option.some.inj h
   exact runB_arr mixed [(11, .bit false)] [] [.live [0, 3, 5], .keep [3]] (ai h1 (ti)) (by kernel_rfl)
theorem ref20_Put_l1_ok (rd : Option Nat) (s0 : List TValue) (w3 : TValue) (s5 : Int) (t : Int) (h : ref20_Put_l1 s0 w3 s5 = some t) : LpOf Try.prog rd (fbody Try.prog 12) [0, 0, 1, 1] (ref20_Put_l1_I s0 w3 s5) ((ref20_Put_l1_O s0 w3) t).1 ((ref20_Put_l1_O s0 w3) t).2 :=
  loopE_lpR (fun s : Int => ref20_Put_l1_I s0 w3 s) (ref20_Put_l1_O s0 w3) (by kernel_rfl) (fun t => isN_ne (by rfl)) (fun s o h => ref20_Put_l1_rnd rd s0 w3 s o h) (s := s5) (t := t) h
theorem ref20_Put_ok (a0 : List TValue) (a1 : TValue) (r : List TValue) (h : ref20_Put a0 a1 = some r) : ACall Try.prog 12 [.d ((D.l TValue.D) a0), .d (TValue.D a1)] [] (.d ((D.l TValue.D) r)) [] := by
  unfold ref20_Put at h
  obtain ⟨o3, h5, h⟩ := bndE_some h
  rcases iteE_some h with ⟨h6, h⟩ | ⟨h6, h⟩
  ·
   obtain ⟨x4, h7, h⟩ := idxE_some h
   rcases iteE_some h with ⟨h8, h⟩ | ⟨h8, h⟩
   ·
    obtain rfl := Option.some.inj h
    exact runF_call mixed [(8, .int (a0.length : Int)), (24, .bit true), (28, .el (TValue.D x4)), (32, .bit true)] [⟨[0, 0, 1, 1], [.live [0, 3, 5], .keep [3]], .exit 0, (ref20_Put_l1_O a0 a1 o3).2⟩] [] (ai (len_map TValue.D a0) (ai (ref20_Put_l1_ok none a0 a1 (a0.length : Int) o3 h5) (ai h6 (ai (elem_map TValue.D h7) (ai h8 (ti)))))) (by kernel_rfl)
   ·
    obtain ⟨h9, h⟩ := chkE_some h
    obtain ⟨h10, h⟩ := chkE_some h
    obtain ⟨h11, h⟩ := chkE_some h
    obtain ⟨h12, h⟩ := chkE_some h
    obtain ⟨h13, h⟩ := chkE_some h
    obtain rfl := Option.some.inj h
    exact runF_call mixed [(8, .int (a0.length : Int)), (24, .bit true), (28, .el (TValue.D x4)), (32, .bit false), (37, .sl ((sub a0 0 o3).map TValue.D)), (38, .sl ((([] : List TValue) ++ (sub a0 0 o3)).map TValue.D)), (42, .sl (((([] : List TValue) ++ (sub a0 0 o3)) ++ [a1]).map TValue.D)), (46, .sl ((sub a0 o3 (a0.length : Int)).map TValue.D)), (47, .sl ((((([] : List TValue) ++ (sub a0 0 o3)) ++ [a1]) ++ (sub a0 o3 (a0.length : Int))).map TValue.D))] [⟨[0, 0, 1, 1], [.live [0, 3, 5], .keep [3]], .exit 0, (ref20_Put_l1_O a0 a1 o3).2⟩] [] (ai (len_map TValue.D a0) (ai (ref20_Put_l1_ok none a0 a1 (a0.length : Int) o3 h5) (ai h6 (ai (elem_map TValue.D h7) (ai h8 (ai (nc_ok TValue.D ([] : List TValue)) (ai (cut_some TValue.D h9) (ai (nc_ok TValue.D (sub a0 0 o3)) (ai (fit_map TValue.D h10) (ai (app_map TValue.D ([] : List TValue) (sub a0 0 o3)) (ai (nc_ok TValue.D [a1]) (ai (nc_ok TValue.D [a1]) (ai (fit_map TValue.D h11) (ai (app_map TValue.D (([] : List TValue) ++ (sub a0 0 o3)) [a1]) (ai (cut_none TValue.D h12) (ai (nc_ok TValue.D (sub a0 o3 (a0.length : Int))) (ai (fit_map TValue.D h13) (ai (app_map TValue.D ((([] : List TValue) ++ (sub a0 0 o3)) ++ [a1]) (sub a0 o3 (a0.length : Int))) (ti))))))))))))))))))) (by kernel_rfl)
  ·
   obtain ⟨h14, h⟩ := chkE_some h
   obtain ⟨h15, h⟩ := chkE_some h
   obtain ⟨h16, h⟩ := chkE_some h
   obtain ⟨h17, h⟩ := chkE_some h
   obtain ⟨h18, h⟩ := chkE_some h
   obtain rfl := Option.some.inj h
   exact runF_call mixed [(8, .int (a0.length : Int)), (24, .bit false), (37, .sl ((sub a0 0 o3).map TValue.D)), (38, .sl ((([] : List TValue) ++ (sub a0 0 o3)).map TValue.D)), (42, .sl (((([] : List TValue) ++ (sub a0 0 o3)) ++ [a1]).map TValue.D)), (46, .sl ((sub a0 o3 (a0.length : Int)).map TValue.D)), (47, .sl ((((([] : List TValue) ++ (sub a0 0 o3)) ++ [a1]) ++ (sub a0 o3 (a0.length : Int))).map TValue.D))] [⟨[0, 0, 1, 1], [.live [0, 3, 5], .keep [3]], .exit 0, (ref20_Put_l1_O a0 a1 o3).2⟩] [] (ai (len_map TValue.D a0) (ai (ref20_Put_l1_ok none a0 a1 (a0.length : Int) o3 h5) (ai h6 (ai (nc_ok TValue.D ([] : List TValue)) (ai (cut_some TValue.D h14) (ai (nc_ok TValue.D (sub a0 0 o3)) (ai (fit_map TValue.D h15) (ai (app_map TValue.D ([] : List TValue) (sub a0 0 o3)) (ai (nc_ok TValue.D [a1]) (ai (nc_ok TValue.D [a1]) (ai (fit_map TValue.D h16) (ai (app_map TValue.D (([] : List TValue) ++ (sub a0 0 o3)) [a1]) (ai (cut_none TValue.D h17) (ai (nc_ok TValue.D (sub a0 o3 (a0.length : Int))) (ai (fit_map TValue.D h18) (ai (app_map TValue.D ((([] : List TValue) ++ (sub a0 0 o3)) ++ [a1]) (sub a0 o3 (a0.length : Int))) (ti))))))))))))))))) (by kernel_rfl)
theorem domain_Set_Value_Put_1_ok (a0 : TValue) (a1 : TValue) (a2 : List TValue) (r : Int) (h : domain_Set_Value_Put_1 a0 a1 a2 = some r) : ACall Try.prog 30 [.d (TValue.D a0), .d (TValue.D a1), .eptr [.ptr ((D.cells ((D.l TValue.D) a2)) ++ [.v (.func (.func 10) #[] #[])])]] [] (.d ((D.i .i64) r)) [] := by
  unfold domain_Set_Value_Put_1 at h
  obtain ⟨r1, h1, h⟩ := bndE_some h
  cases r1 with
  | true =>
   replace h := iteT h
   obtain rfl := Option.some.inj h
   exact runF_call mixed [(13, .ret (.d (D.b true)))] [] [] (ai (ref03_Less_ok a0 a1 true h1) (ti)) (by kernel_rfl)
  | false =>
   replace h := iteF h
   obtain ⟨r2, h3, h⟩ := bndE_some h
   cases r2 with
   | true =>
    replace h := iteT h
    obtain rfl := Option.some.inj h
    exact runF_call mixed [(13, .ret (.d (D.b false))), (21, .ret (.d (D.b true)))] [] [] (ai (ref03_Less_ok a0 a1 false h1) (ai (ref03_Less_ok a1 a0 true h3) (ti))) (by kernel_rfl)
   | false =>
    replace h := iteF h
    obtain rfl := Option.some.inj h
    exact runF_call mixed [(13, .ret (.d (D.b false))), (21, .ret (.d (D.b false)))] [] [] (ai (ref03_Less_ok a0 a1 false h1) (ai (ref03_Less_ok a1 a0 false h3) (ti))) (by kernel_rfl)
def slices_BinarySearchFunc_Value_Value_Value_b3_I (s0 : List TValue) (s2 : List TValue) (s8 : Int) (s9 : Int) (s10 : Int) (s11 : Int) (s31 : Bool) (w4 : TValue) : St := ⟨sp 49 0 [(0, .d ((D.l TValue.D) s0)), (2, .clo (.func 30) [] [.eptr [.ptr ((D.cells ((D.l TValue.D) s2)) ++ [.v (.func (.func 10) #[] #[])])]]), (4, .box 4 0), (8, .d ((D.i .i64) s8)), (9, .d ((D.i .i64) s9)), (10, .d ((D.i .i64) s10)), (11, .d ((D.i .i64) s11)), (31, .d (D.b s31))], [(4, .cells ((cellsA (TValue.D w4))))], []⟩
def slices_BinarySearchFunc_Value_Value_Value_b3_O (s0 : List TValue) (s2 : List TValue) (s8 : Int) (s9 : Int) (s10 : Int) (s11 : Int) (s31 : Bool) (w4 : TValue) (o : (Int × Int)) : Ex × St := (.normal, ⟨sp 49 0 [(0, .d ((D.l TValue.D) s0)), (2, .clo (.func 30) [] [.eptr [.ptr ((D.cells ((D.l TValue.D) s2)) ++ [.v (.func (.func 10) #[] #[])])]]), (4, .box 4 0), (8, .d ((D.i .i64) s8)), (9, .d ((D.i .i64) o.1)), (10, .d ((D.i .i64) o.2))], [(4, .cells ((cellsA (TValue.D w4))))], []⟩)
theorem slices_BinarySearchFunc_Value_Value_Value_b3_ok (rd : Option Nat) (s0 : List TValue) (s2 : List TValue) (s8 : Int) (s9 : Int) (s10 : Int) (s11 : Int) (s31 : Bool) (w4 : TValue) (o : (Int × Int)) (h : slices_BinarySearchFunc_Value_Value_Value_b3 s0 s2 s8 s9 s10 s11 s31 w4 = some o) : LpOf Try.prog rd (fbody Try.prog 29) [1, 1, 0, 1, 0, 0, 0, 1, 1, 1] (slices_BinarySearchFunc_Value_Value_Value_b3_I s0 s2 s8 s9 s10 s11 s31 w4) (slices_BinarySearchFunc_Value_Value_Value_b3_O s0 s2 s8 s9 s10 s11 s31 w4 o).1 (slices_BinarySearchFunc_Value_Value_Value_b3_O s0 s2 s8 s9 s10 s11 s31 w4 o).2 := by
  unfold slices_BinarySearchFunc_Value_Value_Value_b3 at h
  cases s31 with
  | true =>
   replace h := iteT h
   obtain rfl := Option.some.inj h
   exact (runB_arr mixed [] [] [.live [0, 2, 4, 8, 9, 10], .keep [4]] (ti) (by kernel_rfl)).lp
  | false =>
   replace h := iteF h
   obtain rfl := Option.some.inj h
   exact (runB_arr mixed [] [] [.live [0, 2, 4, 8, 9, 10], .keep [4]] (ti) (by kernel_rfl)).lp
def slices_BinarySearchFunc_Value_Value_Value_b2_I (s0 : List TValue) (s2 : List TValue) (s8 : Int) (s9 : Int) (s10 : Int) (w4 : TValue) : St := ⟨sp 49 0 [(0, .d ((D.l TValue.D) s0)), (2, .clo (.func 30) [] [.eptr [.ptr ((D.cells ((D.l TValue.D) s2)) ++ [.v (.func (.func 10) #[] #[])])]]), (4, .box 4 0), (8, .d ((D.i .i64) s8)), (9, .d ((D.i .i64) s9)), (10, .d ((D.i .i64) s10))], [(4, .cells ((cellsA (TValue.D w4))))], []⟩
def slices_BinarySearchFunc_Value_Value_Value_b2_O (s0 : List TValue) (s2 : List TValue) (s8 : Int) (s9 : Int) (s10 : Int) (w4 : TValue) (o : (Int × Int)) : Ex × St := (.normal, ⟨sp 49 0 [(0, .d ((D.l TValue.D) s0)), (2, .clo (.func 30) [] [.eptr [.ptr ((D.cells ((D.l TValue.D) s2)) ++ [.v (.func (.func 10) #[] #[])])]]), (4, .box 4 0), (8, .d ((D.i .i64) s8)), (9, .d ((D.i .i64) o.1)), (10, .d ((D.i .i64) o.2))], [(4, .cells ((cellsA (TValue.D w4))))], []⟩)
theorem slices_BinarySearchFunc_Value_Value_Value_b2_ok (rd : Option Nat) (s0 : List TValue) (s2 : List TValue) (s8 : Int) (s9 : Int) (s10 : Int) (w4 : TValue) (o : (Int × Int)) (h : slices_BinarySearchFunc_Value_Value_Value_b2 s0 s2 s8 s9 s10 w4 = some o) : LpOf Try.prog rd (fbody Try.prog 29) [1, 0, 0, 0, 1, 1, 1] (slices_BinarySearchFunc_Value_Value_Value_b2_I s0 s2 s8 s9 s10 w4) (slices_BinarySearchFunc_Value_Value_Value_b2_O s0 s2 s8 s9 s10 w4 o).1 (slices_BinarySearchFunc_Value_Value_Value_b2_O s0 s2 s8 s9 s10 w4 o).2 := by
  unfold slices_BinarySearchFunc_Value_Value_Value_b2 at h
  obtain ⟨x1, h2, h⟩ := idxE_some h
  obtain ⟨r2, h3, h⟩ := bndE_some h
  obtain ⟨o3, h5, h⟩ := bndE_some h
  obtain rfl := Option.some.inj h
  exact (runB_arr mixed [(27, .el (TValue.D x1)), (30, .ret (.d ((D.i .i64) r2)))] [⟨[1, 1, 0, 1, 0, 0, 0, 1, 1, 1], [.live [0, 2, 4, 8, 9, 10, 11, 31], .keep [4]], .normal, (slices_BinarySearchFunc_Value_Value_Value_b3_O s0 s2 s8 s9 s10 (IntKind.wrap .i64 (intVal .shr .u64 (IntKind.wrap .u64 (intVal .add .i64 s9 s10)) 1)) (decide (r2 < 0)) w4 o3).2⟩] [.live [0, 2, 4, 8, 9, 10], .keep [4]] (ai (of_decide_eq_true rfl : (0 : Int) ≤ 1) (ai (elem_map TValue.D h2) (ai (domain_Set_Value_Put_1_ok x1 w4 s2 r2 h3) (ai (slices_BinarySearchFunc_Value_Value_Value_b3_ok rd s0 s2 s8 s9 s10 (IntKind.wrap .i64 (intVal .shr .u64 (IntKind.wrap .u64 (intVal .add .i64 s9 s10)) 1)) (decide (r2 < 0)) w4 o3 h5) (ti))))) (by kernel_rfl)).lp
def slices_BinarySearchFunc_Value_Value_Value_l1_I (s0 : List TValue) (s2 : List TValue) (s8 : Int) (w4 : TValue) (s9 : Int) (s10 : Int) : St := ⟨sp 49 0 [(0, .d ((D.l TValue.D) s0)), (2, .clo (.func 30) [] [.eptr [.ptr ((D.cells ((D.l TValue.D) s2)) ++ [.v (.func (.func 10) #[] #[])])]]), (4, .box 4 0), (8, .d ((D.i .i64) s8)), (9, .d ((D.i .i64) s9)), (10, .d ((D.i .i64) s10))], [(4, .cells ((cellsA (TValue.D w4))))], []⟩
def slices_BinarySearchFunc_Value_Value_Value_l1_O (s0 : List TValue) (s2 : List TValue) (s8 : Int) (w4 : TValue) (o : Int) : Ex × St := (.exit 0, ⟨sp 49 0 [(0, .d ((D.l TValue.D) s0)), (2, .clo (.func 30) [] [.eptr [.ptr ((D.cells ((D.l TValue.D) s2)) ++ [.v (.func (.func 10) #[] #[])])]]), (4, .box 4 0), (8, .d ((D.i .i64) s8)), (9, .d ((D.i .i64) o))], [(4, .cells ((cellsA (TValue.D w4))))], []⟩)
theorem slices_BinarySearchFunc_Value_Value_Value_l1_rnd (rd : Option Nat) (s0 : List TValue) (s2 : List TValue) (s8 : Int) (w4 : TValue) (s9 : Int) (s10 : Int) (o : (Int × Int) ⊕ (Int)) (h : slices_BinarySearchFunc_Value_Value_Value_l1_s s0 s2 s8 w4 s9 s10 = some o) : Arr Try.prog rd (fbody Try.prog 29) (0 :: [0, 0, 1, 1, 1]) (slices_BinarySearchFunc_Value_Value_Value_l1_I s0 s2 s8 w4 s9 s10) (rR (fun s : Int × Int => slices_BinarySearchFunc_Value_Value_Value_l1_I s0 s2 s8 w4 s.1 s.2) (slices_BinarySearchFunc_Value_Value_Value_l1_O s0 s2 s8 w4) o).1 (rR (fun s : Int × Int => slices_BinarySearchFunc_Value_Value_Value_l1_I s0 s2 s8 w4 s.1 s.2) (slices_BinarySearchFunc_Value_Value_Value_l1_O s0 s2 s8 w4) o).2 := by
  unfold slices_BinarySearchFunc_Value_Value_Value_l1_s at h
  rcases iteE_some h with ⟨h1, h⟩ | ⟨h1, h⟩
  ·
   obtain ⟨o4, h6, h⟩ := bndE_some h
   obtain rfl := Option.some.inj h
   exact runB_arr mixed [(17, .bit true)] [⟨[1, 0, 0, 0, 1, 1, 1], [.live [0, 2, 4, 8, 9, 10], .keep [4]], .normal, (slices_BinarySearchFunc_Value_Value_Value_b2_O s0 s2 s8 s9 s10 w4 o4).2⟩] [.live [0, 2, 4, 8, 9, 10], .keep [4]] (ai h1 (ai (slices_BinarySearchFunc_Value_Value_Value_b2_ok rd s0 s2 s8 s9 s10 w4 o4 h6) (ti))) (by kernel_rfl)
  ·
   obtain rfl := Option.some.inj h
   exact runB_arr mixed [(17, .bit false)] [] [.live [0, 2, 4, 8, 9], .keep [4]] (ai h1 (ti)) (by kernel_rfl)
theorem slices_BinarySearchFunc_Value_Value_Value_l1_ok (rd : Option Nat) (s0 : List TValue) (s2 : List TValue) (s8 : Int) (w4 : TValue) (s9 : Int) (s10 : Int) (t : Int) (h : slices_BinarySearchFunc_Value_Value_Value_l1 s0 s2 s8 w4 s9 s10 = some t) : LpOf Try.prog rd (fbody Try.prog 29) [0, 0, 1, 1, 1] (slices_BinarySearchFunc_Value_Value_Value_l1_I s0 s2 s8 w4 s9 s10) ((slices_BinarySearchFunc_Value_Value_Value_l1_O s0 s2 s8 w4) t).1 ((slices_BinarySearchFunc_Value_Value_Value_l1_O s0 s2 s8 w4) t).2 :=
  loopE_lpR (fun s : Int × Int => slices_BinarySearchFunc_Value_Value_Value_l1_I s0 s2 s8 w4 s.1 s.2) (slices_BinarySearchFunc_Value_Value_Value_l1_O s0 s2 s8 w4) (by kernel_rfl) (fun t => isN_ne (by rfl)) (fun s o h => slices_BinarySearchFunc_Value_Value_Value_l1_rnd rd s0 s2 s8 w4 s.1 s.2 o h) (s := (s9, s10)) (t := t) h
theorem slices_BinarySearchFunc_Value_Value_Value_ok (a0 : List TValue) (a1 : TValue) (a2 : List TValue) (r : Int × Bool) (h : slices_BinarySearchFunc_Value_Value_Value a0 a1 a2 = some r) : ACall Try.prog 29 [.d ((D.l TValue.D) a0), .d (TValue.D a1), .clo (.func 30) [] [.eptr [.ptr ((D.cells ((D.l TValue.D) a2)) ++ [.v (.func (.func 10) #[] #[])])]]] [] (.tup [.d ((D.i .i64) r.1), .d (D.b r.2)]) [] := by
  unfold slices_BinarySearchFunc_Value_Value_Value at h
  obtain ⟨o5, h7, h⟩ := bndE_some h
  rcases iteE_some h with ⟨h8, h⟩ | ⟨h8, h⟩
  ·
   obtain ⟨x6, h9, h⟩ := idxE_some h
   obtain ⟨r7, h10, h⟩ := bndE_some h
   obtain rfl := Option.some.inj h
   exact runF_call mixed [(13, .int (a0.length : Int)), (39, .bit true), (43, .el (TValue.D x6)), (46, .ret (.d ((D.i .i64) r7)))] [⟨[0, 0, 1, 1, 1], [.live [0, 2, 4, 8, 9, 10], .keep [4]], .exit 0, (slices_BinarySearchFunc_Value_Value_Value_l1_O a0 a2 (a0.length : Int) a1 o5).2⟩] [] (ai (len_map TValue.D a0) (ai (slices_BinarySearchFunc_Value_Value_Value_l1_ok none a0 a2 (a0.length : Int) a1 0 (a0.length : Int) o5 h7) (ai h8 (ai (elem_map TValue.D h9) (ai (domain_Set_Value_Put_1_ok x6 a1 a2 r7 h10) (ti)))))) (by kernel_rfl)
  ·
   obtain rfl := Option.some.inj h
   exact runF_call mixed [(13, .int (a0.length : Int)), (39, .bit false)] [⟨[0, 0, 1, 1, 1], [.live [0, 2, 4, 8, 9, 10], .keep [4]], .exit 0, (slices_BinarySearchFunc_Value_Value_Value_l1_O a0 a2 (a0.length : Int) a1 o5).2⟩] [] (ai (len_map TValue.D a0) (ai (slices_BinarySearchFunc_Value_Value_Value_l1_ok none a0 a2 (a0.length : Int) a1 0 (a0.length : Int) o5 h7) (ai h8 (ti)))) (by kernel_rfl)
theorem slices_Insert_Value_Value_ok (i : Int) (ys r : List TValue) (h : slices_Insert_Value_Value i ys = some r) : ACall Try.prog 31 [.nil, .d (D.i .i64 i), .row 0] [(0, .row 26 4 (ys.map TValue.D))] (.row 1) [(1, .rw 26 4 (r.map TValue.D))] :=
  insN_ok (ρ := ⟨fun n => if n = 22 then 31 else if n = 29 then 47 else 48, fun n => if n = 0 then 0 else if n = 3 then 3 else if n = 4 then 4 else if n = 24 then 24 else 26, id⟩) (by_ := 40) TValue.D mixed rfl ⟨ "slices.Insert[[]proctor/api.Value,proctor/api.Value]", by decide, (Try.func31).trans (by kernel_rfl)⟩ Try.underlying3 Try.underlying4 Try.underlying24 (by kernel_rfl) (by decide) i ys r h
def domain_Set_Value_Put_v2_b1_I (us : List Value) (s5 : Int) (s6 : Bool) (s20 : Bool) (w3 : TValue) : St := ⟨sp 34 0 [(2, .box 2 0), (3, .box 3 0), (5, .d ((D.i .i64) s5)), (6, .d (D.b s6)), (20, .d (D.b s20))], [(0, .cells ([.nil, .clo (.func 10) [] []])), (2, .cells ([.box 0 0])), (3, .cells ((cellsA (TValue.D w3)))), (997, .vals [.box 0 0] us)], []⟩
def domain_Set_Value_Put_v2_b1_O (us : List Value) (s5 : Int) (s6 : Bool) (s20 : Bool) (w3 : TValue) (o : (List TValue)) : Ex × St := (.normal, ⟨sp 34 0 [(6, .d (D.b s6))], [(0, .cells ([.row 529, .clo (.func 10) [] []])), (529, .rw 26 4 (o.map TValue.D)), (997, .vals [.box 0 0] us)], []⟩)
theorem domain_Set_Value_Put_v2_b1_ok (rd : Option Nat) (us : List Value) (s5 : Int) (s6 : Bool) (s20 : Bool) (w3 : TValue) (o : (List TValue)) (h : domain_Set_Value_Put_v2_b1 s5 s6 s20 w3 = some o) : LpOf Try.prog rd (fbody Try.prog 13) [1, 0, 1, 1, 1] (domain_Set_Value_Put_v2_b1_I us s5 s6 s20 w3) (domain_Set_Value_Put_v2_b1_O us s5 s6 s20 w3 o).1 (domain_Set_Value_Put_v2_b1_O us s5 s6 s20 w3 o).2 := by
  unfold domain_Set_Value_Put_v2_b1 at h
  cases s20 with
  | true =>
   replace h := iteT h
   obtain ⟨r2, h3, h⟩ := bndE_some h
   obtain rfl := Option.some.inj h
   exact (runB_arr mixed [(29, .cx true [(0, 28)] [(1, 29)] (.row 1) [(1, .rw 26 4 (r2.map TValue.D))])] [] [.live [6], .keep [0, 29, 997], .ren 29 529, .sort] (ai (nc_ok TValue.D [w3]) (ai (slices_Insert_Value_Value_ok s5 [w3] r2 h3) (ti))) (by kernel_rfl)).lp
  | false =>
   replace h := iteF h
   obtain rfl := Option.some.inj h
   exact (runB_arr mixed [] [] [.live [6], .keep [0, 997], .nilc 0 0 529 26 4, .sort] (ti) (by kernel_rfl)).lp
theorem domain_Set_Value_Put_v2_ok (a1 : TValue) (r : Bool × List TValue) (h : domain_Set_Value_Put_v2 a1 = some r) : ACall Try.prog 13 [.box 0 0, .d (TValue.D a1)] [(0, .cells ([.nil, .clo (.func 10) [] []]))] (.d (D.b r.1)) [(0, .cells ([.row 1, .clo (.func 10) [] []])), (1, .rw 26 4 (r.2.map TValue.D))] := by
  unfold domain_Set_Value_Put_v2 at h
  obtain ⟨r1, h1, h⟩ := bndE_some h
  obtain ⟨o3, h4, h⟩ := bndE_some h
  obtain rfl := Option.some.inj h
  exact runX_call mixed (fun us => [(16, .lend [0, 2] (.tup [.d ((D.i .i64) r1.1), .d (D.b r1.2)]))]) (fun us => [⟨[1, 0, 1, 1, 1], [.live [2, 3, 5, 6, 20], .keep [0, 2, 3, 997]], .normal, (domain_Set_Value_Put_v2_b1_O us r1.1 r1.2 (!r1.2) a1 o3).2⟩]) [.live [4], .keep [0, 529, 997], .ren 529 1, .sort] [0] (fun us => ai (slices_BinarySearchFunc_Value_Value_Value_ok ([] : List TValue) a1 ([] : List TValue) r1 h1) (ai (domain_Set_Value_Put_v2_b1_ok none us r1.1 r1.2 (!r1.2) a1 o3 h4) (ti))) (by kernel_rfl)
theorem slices_Clone_Value_Value_ok (l r : List TValue) (h : slices_Clone_Value_Value l = some r) : ACall Try.prog 32 [.row 0] [(0, .rw 26 4 (l.map TValue.D))] (.d (D.l TValue.D r)) [(0, .rw 26 4 (l.map TValue.D))] :=
  cloneE_k (ρ := ⟨fun _ => 32, fun n => if n = 4 then 4 else if n = 22 then 24 else 26, id⟩) (by_ := 40) TValue.D rfl rfl (cloneL mixed ⟨ "slices.Clone[[]proctor/api.Value,proctor/api.Value]", by decide, (Try.func32).trans (by kernel_rfl)⟩ Try.underlying4 Try.underlying24 (by kernel_rfl) (by kernel_rfl) (by kernel_rfl) (by kernel_rfl)) (by kernel_rfl) (by decide) l r h
theorem domain_Set_Value_All_ok (w1 : List TValue) (r : List TValue × List TValue) (h : domain_Set_Value_All w1 = some r) : ACall Try.prog 15 [.box 0 0] [(0, .cells ([.row 1, .clo (.func 10) [] []])), (1, .rw 26 4 (w1.map TValue.D))] (.d ((D.l TValue.D) r.1)) [(0, .cells ([.row 2, .clo (.func 10) [] []])), (2, .rw 26 4 (r.2.map TValue.D))] := by
  unfold domain_Set_Value_All at h
  obtain ⟨r1, h1, h⟩ := bndE_some h
  obtain rfl := Option.some.inj h
  exact runX_call mixed (fun us => [(9, .cx true [(0, 1)] [] (.d ((D.l TValue.D) r1)) [(0, .rw 26 4 (w1.map TValue.D))])]) (fun us => []) [.live [2], .keep [0, 1, 997], .ren 1 2, .sort] [0] (fun us => ai (slices_Clone_Value_Value_ok w1 r1 h1) (ti)) (by kernel_rfl)
def ref20_Same_l2_I (s0 : List (List TValue)) (s1 : List (List TValue)) (s5 : Int) (s6 : Int) : St := ⟨sp 53 0 [(0, .d ((D.l (D.l TValue.D)) s0)), (1, .d ((D.l (D.l TValue.D)) s1)), (5, .d ((D.i .i64) s5)), (6, .d ((D.i .i64) s6))], [], []⟩
def ref20_Same_l2_O (s0 : List (List TValue)) (s1 : List (List TValue)) (s5 : Int) (o : Unit ⊕ Unit) : Ex × St := match o with
  | .inl o => (.exit 2, ⟨sp 53 0 [(0, .d ((D.l (D.l TValue.D)) s0)), (1, .d ((D.l (D.l TValue.D)) s1)), (5, .d ((D.i .i64) s5))], [], []⟩)
  | .inr o => (.ret, ⟨sp 53 0 [(4, .d (D.b false))], [], []⟩)
theorem ref20_Same_l2_rnd (rd : Option Nat) (s0 : List (List TValue)) (s1 : List (List TValue)) (s5 : Int) (s6 : Int) (o : (Int) ⊕ (Unit ⊕ Unit)) (h : ref20_Same_l2_s s0 s1 s5 s6 = some o) : Arr Try.prog rd (fbody Try.prog 14) (0 :: [0, 1, 1, 0, 0, 1, 0, 0, 1, 0, 1, 1]) (ref20_Same_l2_I s0 s1 s5 s6) (rR (fun s : Int => ref20_Same_l2_I s0 s1 s5 s) (ref20_Same_l2_O s0 s1 s5) o).1 (rR (fun s : Int => ref20_Same_l2_I s0 s1 s5 s) (ref20_Same_l2_O s0 s1 s5) o).2 := by
  unfold ref20_Same_l2_s at h
  obtain ⟨x3, h6, h⟩ := idxE_some h
  rcases iteE_some h with ⟨h7, h⟩ | ⟨h7, h⟩
  ·
   obtain ⟨x4, h8, h⟩ := idxE_some h
   obtain ⟨x5, h9, h⟩ := idxE_some h
   obtain ⟨x6, h10, h⟩ := idxE_some h
   obtain ⟨x7, h11, h⟩ := idxE_some h
   rcases iteE_some h with ⟨h12, h⟩ | ⟨h12, h⟩
   ·
    obtain rfl := Option.some.inj h
    exact runB_arr mixed [(32, .el ((D.l TValue.D) x3)), (34, .int (x3.length : Int)), (35, .bit true), (40, .el ((D.l TValue.D) x4)), (43, .el (TValue.D x5)), (47, .el ((D.l TValue.D) x6)), (50, .el (TValue.D x7)), (52, .bit true)] [] [.live [4], .keep []] (ai (elem_map (D.l TValue.D) h6) (ai (len_map TValue.D x3) (ai h7 (ai (elem_map (D.l TValue.D) h8) (ai (elem_map TValue.D h9) (ai (elem_map (D.l TValue.D) h10) (ai (elem_map TValue.D h11) (ai h12 (ti))))))))) (by kernel_rfl)
   ·
    obtain rfl := Option.some.inj h
    exact runB_arr mixed [(32, .el ((D.l TValue.D) x3)), (34, .int (x3.length : Int)), (35, .bit true), (40, .el ((D.l TValue.D) x4)), (43, .el (TValue.D x5)), (47, .el ((D.l TValue.D) x6)), (50, .el (TValue.D x7)), (52, .bit false)] [] [.live [0, 1, 5, 6], .keep []] (ai (elem_map (D.l TValue.D) h6) (ai (len_map TValue.D x3) (ai h7 (ai (elem_map (D.l TValue.D) h8) (ai (elem_map TValue.D h9) (ai (elem_map (D.l TValue.D) h10) (ai (elem_map TValue.D h11) (ai h12 (ti))))))))) (by kernel_rfl)
  ·
   obtain rfl := Option.some.inj h
   exact runB_arr mixed [(32, .el ((D.l TValue.D) x3)), (34, .int (x3.length : Int)), (35, .bit false)] [] [.live [0, 1, 5], .keep []] (ai (elem_map (D.l TValue.D) h6) (ai (len_map TValue.D x3) (ai h7 (ti)))) (by kernel_rfl)
theorem ref20_Same_l2_ok (rd : Option Nat) (s0 : List (List TValue)) (s1 : List (List TValue)) (s5 : Int) (s6 : Int) (t : Unit ⊕ Unit) (h : ref20_Same_l2 s0 s1 s5 s6 = some t) : LpOf Try.prog rd (fbody Try.prog 14) [0, 1, 1, 0, 0, 1, 0, 0, 1, 0, 1, 1] (ref20_Same_l2_I s0 s1 s5 s6) ((ref20_Same_l2_O s0 s1 s5) t).1 ((ref20_Same_l2_O s0 s1 s5) t).2 :=
  loopE_lpR (fun s : Int => ref20_Same_l2_I s0 s1 s5 s) (ref20_Same_l2_O s0 s1 s5) (by kernel_rfl) (fun t => isN_ne (by rcases t with (_ | _) <;> rfl)) (fun s o h => ref20_Same_l2_rnd rd s0 s1 s5 s o h) (s := s6) (t := t) h
def ref20_Same_l1_I (s0 : List (List TValue)) (s1 : List (List TValue)) (s5 : Int) : St := ⟨sp 53 0 [(0, .d ((D.l (D.l TValue.D)) s0)), (1, .d ((D.l (D.l TValue.D)) s1)), (5, .d ((D.i .i64) s5))], [], []⟩
def ref20_Same_l1_O (s0 : List (List TValue)) (s1 : List (List TValue)) (o : Unit ⊕ Unit) : Ex × St := match o with
  | .inl o => (.exit 0, ⟨sp 53 0 [], [], []⟩)
  | .inr o => (.ret, ⟨sp 53 0 [(4, .d (D.b false))], [], []⟩)
theorem ref20_Same_l1_rnd (rd : Option Nat) (s0 : List (List TValue)) (s1 : List (List TValue)) (s5 : Int) (o : (Int) ⊕ (Unit ⊕ Unit)) (h : ref20_Same_l1_s s0 s1 s5 = some o) : Arr Try.prog rd (fbody Try.prog 14) (0 :: [0, 1, 0, 1, 1]) (ref20_Same_l1_I s0 s1 s5) (rR (fun s : Int => ref20_Same_l1_I s0 s1 s) (ref20_Same_l1_O s0 s1) o).1 (rR (fun s : Int => ref20_Same_l1_I s0 s1 s) (ref20_Same_l1_O s0 s1) o).2 := by
  unfold ref20_Same_l1_s at h
  rcases iteE_some h with ⟨h2, h⟩ | ⟨h2, h⟩
  ·
   obtain ⟨x1, h3, h⟩ := idxE_some h
   obtain ⟨x2, h4, h⟩ := idxE_some h
   rcases iteE_some h with ⟨h5, h⟩ | ⟨h5, h⟩
   ·
    obtain rfl := Option.some.inj h
    exact runB_arr mixed [(14, .int (s0.length : Int)), (15, .bit true), (20, .el ((D.l TValue.D) x1)), (22, .int (x1.length : Int)), (25, .el ((D.l TValue.D) x2)), (27, .int (x2.length : Int)), (28, .bit true)] [] [.live [4], .keep []] (ai (len_map (D.l TValue.D) s0) (ai h2 (ai (elem_map (D.l TValue.D) h3) (ai (len_map TValue.D x1) (ai (elem_map (D.l TValue.D) h4) (ai (len_map TValue.D x2) (ai h5 (ti)))))))) (by kernel_rfl)
   ·
    obtain ⟨o8, h13, h⟩ := bndE_some h
    replace h := sumE_some h
    rcases h with ⟨o9, rfl, h⟩ | ⟨o10, rfl, h⟩
    ·
     obtain rfl := Option.some.inj h
     exact runB_arr mixed [(14, .int (s0.length : Int)), (15, .bit true), (20, .el ((D.l TValue.D) x1)), (22, .int (x1.length : Int)), (25, .el ((D.l TValue.D) x2)), (27, .int (x2.length : Int)), (28, .bit false)] [⟨[0, 1, 1, 0, 0, 1, 0, 0, 1, 0, 1, 1], [.live [0, 1, 5, 6], .keep []], .exit 2, (ref20_Same_l2_O s0 s1 s5 (Sum.inl o9)).2⟩] [.live [0, 1, 5], .keep []] (ai (len_map (D.l TValue.D) s0) (ai h2 (ai (elem_map (D.l TValue.D) h3) (ai (len_map TValue.D x1) (ai (elem_map (D.l TValue.D) h4) (ai (len_map TValue.D x2) (ai h5 (ai (ref20_Same_l2_ok rd s0 s1 s5 0 (Sum.inl o9) h13) (ti))))))))) (by kernel_rfl)
    ·
     obtain rfl := Option.some.inj h
     exact runB_arr mixed [(14, .int (s0.length : Int)), (15, .bit true), (20, .el ((D.l TValue.D) x1)), (22, .int (x1.length : Int)), (25, .el ((D.l TValue.D) x2)), (27, .int (x2.length : Int)), (28, .bit false)] [⟨[0, 1, 1, 0, 0, 1, 0, 0, 1, 0, 1, 1], [.live [0, 1, 5, 6], .keep []], .ret, (ref20_Same_l2_O s0 s1 s5 (Sum.inr o10)).2⟩] [.live [4], .keep []] (ai (len_map (D.l TValue.D) s0) (ai h2 (ai (elem_map (D.l TValue.D) h3) (ai (len_map TValue.D x1) (ai (elem_map (D.l TValue.D) h4) (ai (len_map TValue.D x2) (ai h5 (ai (ref20_Same_l2_ok rd s0 s1 s5 0 (Sum.inr o10) h13) (ti))))))))) (by kernel_rfl)
  ·
   obtain rfl := Option.some.inj h
   exact runB_arr mixed [(14, .int (s0.length : Int)), (15, .bit false)] [] [.live [], .keep []] (ai (len_map (D.l TValue.D) s0) (ai h2 (ti))) (by kernel_rfl)
theorem ref20_Same_l1_ok (rd : Option Nat) (s0 : List (List TValue)) (s1 : List (List TValue)) (s5 : Int) (t : Unit ⊕ Unit) (h : ref20_Same_l1 s0 s1 s5 = some t) : LpOf Try.prog rd (fbody Try.prog 14) [0, 1, 0, 1, 1] (ref20_Same_l1_I s0 s1 s5) ((ref20_Same_l1_O s0 s1) t).1 ((ref20_Same_l1_O s0 s1) t).2 :=
  loopE_lpR (fun s : Int => ref20_Same_l1_I s0 s1 s) (ref20_Same_l1_O s0 s1) (by kernel_rfl) (fun t => isN_ne (by rcases t with (_ | _) <;> rfl)) (fun s o h => ref20_Same_l1_rnd rd s0 s1 s o h) (s := s5) (t := t) h
theorem ref20_Same_ok (a0 : List (List TValue)) (a1 : List (List TValue)) (r : Bool) (h : ref20_Same a0 a1 = some r) : ACall Try.prog 14 [.d ((D.l (D.l TValue.D)) a0), .d ((D.l (D.l TValue.D)) a1)] [] (.d (D.b r)) [] := by
  unfold ref20_Same at h
  rcases iteE_some h with ⟨h1, h⟩ | ⟨h1, h⟩
  ·
   obtain rfl := Option.some.inj h
   exact runF_call mixed [(8, .int (a0.length : Int)), (10, .int (a1.length : Int)), (11, .bit true)] [] [] (ai (len_map (D.l TValue.D) a0) (ai (len_map (D.l TValue.D) a1) (ai h1 (ti)))) (by kernel_rfl)
  ·
   obtain ⟨o11, h14, h⟩ := bndE_some h
   replace h := sumE_some h
   rcases h with ⟨o12, rfl, h⟩ | ⟨o13, rfl, h⟩
   ·
    obtain rfl := Option.some.inj h
    exact runF_call mixed [(8, .int (a0.length : Int)), (10, .int (a1.length : Int)), (11, .bit false)] [⟨[0, 1, 0, 1, 1], [.live [0, 1, 5], .keep []], .exit 0, (ref20_Same_l1_O a0 a1 (Sum.inl o12)).2⟩] [] (ai (len_map (D.l TValue.D) a0) (ai (len_map (D.l TValue.D) a1) (ai h1 (ai (ref20_Same_l1_ok none a0 a1 0 (Sum.inl o12) h14) (ti))))) (by kernel_rfl)
   ·
    obtain rfl := Option.some.inj h
    exact runF_call mixed [(8, .int (a0.length : Int)), (10, .int (a1.length : Int)), (11, .bit false)] [⟨[0, 1, 0, 1, 1], [.live [0, 1, 5], .keep []], .ret, (ref20_Same_l1_O a0 a1 (Sum.inr o13)).2⟩] [] (ai (len_map (D.l TValue.D) a0) (ai (len_map (D.l TValue.D) a1) (ai h1 (ai (ref20_Same_l1_ok none a0 a1 0 (Sum.inr o13) h14) (ti))))) (by kernel_rfl)
theorem slices_Insert_Value_Value_v2_ok (i : Int) (xs ys r : List TValue) (h : slices_Insert_Value_Value_v2 i xs ys = some r) : ACall Try.prog 31 [.row 0, .d (D.i .i64 i), .row 1] [(0, .rw 26 4 (xs.map TValue.D)), (1, .row 26 4 (ys.map TValue.D))] (.row 2) [(2, .rw 26 4 (r.map TValue.D))] :=
  insE_ok (ρ := ⟨fun n => if n = 22 then 31 else if n = 29 then 47 else 48, fun n => if n = 0 then 0 else if n = 3 then 3 else if n = 4 then 4 else if n = 24 then 24 else 26, id⟩) (by_ := 40) TValue.D mixed rfl ⟨ "slices.Insert[[]proctor/api.Value,proctor/api.Value]", by decide, (Try.func31).trans (by kernel_rfl)⟩ Try.underlying3 Try.underlying4 Try.underlying24 (by kernel_rfl) (by decide) (by decide)
    (fun args w => run_callFunc_extern Try.func47 (by kernel_rfl) (by kernel_rfl) (by kernel_rfl) (e := Go.Extern.SlicesOverlaps.overlaps #[24, 24] #[4]) (by kernel_rfl) args w) i xs ys r h
def domain_Set_Value_Put_v3_b1_I (us : List Value) (s5 : Int) (s6 : Bool) (s20 : Bool) (w3 : TValue) (w501 : List TValue) : St := ⟨sp 34 0 [(2, .box 2 0), (3, .box 3 0), (5, .d ((D.i .i64) s5)), (6, .d (D.b s6)), (20, .d (D.b s20))], [(0, .cells ([.row 501, .clo (.func 10) [] []])), (2, .cells ([.box 0 0])), (3, .cells ((cellsA (TValue.D w3)))), (501, .rw 26 4 (w501.map TValue.D)), (997, .vals [.box 0 0] us)], []⟩
def domain_Set_Value_Put_v3_b1_O (us : List Value) (s5 : Int) (s6 : Bool) (s20 : Bool) (w3 : TValue) (w501 : List TValue) (o : (List TValue)) : Ex × St := (.normal, ⟨sp 34 0 [(6, .d (D.b s6))], [(0, .cells ([.row 529, .clo (.func 10) [] []])), (529, .rw 26 4 (o.map TValue.D)), (997, .vals [.box 0 0] us)], []⟩)
theorem domain_Set_Value_Put_v3_b1_ok (rd : Option Nat) (us : List Value) (s5 : Int) (s6 : Bool) (s20 : Bool) (w3 : TValue) (w501 : List TValue) (o : (List TValue)) (h : domain_Set_Value_Put_v3_b1 s5 s6 s20 w3 w501 = some o) : LpOf Try.prog rd (fbody Try.prog 13) [1, 0, 1, 1, 1] (domain_Set_Value_Put_v3_b1_I us s5 s6 s20 w3 w501) (domain_Set_Value_Put_v3_b1_O us s5 s6 s20 w3 w501 o).1 (domain_Set_Value_Put_v3_b1_O us s5 s6 s20 w3 w501 o).2 := by
  unfold domain_Set_Value_Put_v3_b1 at h
  cases s20 with
  | true =>
   replace h := iteT h
   obtain ⟨r2, h3, h⟩ := bndE_some h
   obtain rfl := Option.some.inj h
   exact (runB_arr mixed [(29, .cx true [(0, 501), (1, 28)] [(2, 29)] (.row 2) [(2, .rw 26 4 (r2.map TValue.D))])] [] [.live [6], .keep [0, 29, 997], .ren 29 529, .sort] (ai (nc_ok TValue.D [w3]) (ai (slices_Insert_Value_Value_v2_ok s5 w501 [w3] r2 h3) (ti))) (by kernel_rfl)).lp
  | false =>
   replace h := iteF h
   obtain rfl := Option.some.inj h
   exact (runB_arr mixed [] [] [.live [6], .keep [0, 501, 997], .ren 501 529, .sort] (ti) (by kernel_rfl)).lp
theorem domain_Set_Value_Put_v3_ok (a1 : TValue) (w1 : List TValue) (r : Bool × List TValue) (h : domain_Set_Value_Put_v3 a1 w1 = some r) : ACall Try.prog 13 [.box 0 0, .d (TValue.D a1)] [(0, .cells ([.row 1, .clo (.func 10) [] []])), (1, .rw 26 4 (w1.map TValue.D))] (.d (D.b r.1)) [(0, .cells ([.row 2, .clo (.func 10) [] []])), (2, .rw 26 4 (r.2.map TValue.D))] := by
  unfold domain_Set_Value_Put_v3 at h
  obtain ⟨r1, h1, h⟩ := bndE_some h
  obtain ⟨o3, h4, h⟩ := bndE_some h
  obtain rfl := Option.some.inj h
  exact runX_call mixed (fun us => [(16, .lend [0, 1, 2] (.tup [.d ((D.i .i64) r1.1), .d (D.b r1.2)]))]) (fun us => [⟨[1, 0, 1, 1, 1], [.live [2, 3, 5, 6, 20], .keep [0, 1, 2, 3, 997], .ren 1 501, .sort], .normal, (domain_Set_Value_Put_v3_b1_O us r1.1 r1.2 (!r1.2) a1 w1 o3).2⟩]) [.live [4], .keep [0, 529, 997], .ren 529 2, .sort] [0] (fun us => ai (slices_BinarySearchFunc_Value_Value_Value_ok w1 a1 w1 r1 h1) (ai (domain_Set_Value_Put_v3_b1_ok none us r1.1 r1.2 (!r1.2) a1 w1 o3 h4) (ti))) (by kernel_rfl)
theorem domain_Set_int_Put_ok (a1 : Int) (r : Bool) (h : domain_Set_int_Put a1 = some r) : ACall Try.prog 16 [.d (.v (.pointer none)), .d ((D.i .i64) a1)] [] (.d (D.b r)) [] := by
  unfold domain_Set_int_Put at h
  obtain rfl := Option.some.inj h
  exact runF_call mixed [] [] [] (ti) (by kernel_rfl)
theorem domain_Set_int_All_ok (r : List Int) (h : domain_Set_int_All = some r) : ACall Try.prog 17 [.d (.v (.pointer none))] [] (.d ((D.l (D.i .i64)) r)) [] := by
  unfold domain_Set_int_All at h
  obtain rfl := Option.some.inj h
  exact runF_call mixed [] [] [] (ti) (by kernel_rfl)
def law20_DomainSets_l1_I (s0 : List TValue) (s4 : List TValue) (s5 : Int) (w600 : List TValue) : St := ⟨sp 75 0 [(0, .d ((D.l TValue.D) s0)), (3, .box 3 0), (4, .d ((D.l TValue.D) s4)), (5, .d ((D.i .i64) s5))], [(3, .cells ([.row 600, .clo (.func 10) [] []])), (600, .rw 26 4 (w600.map TValue.D))], []⟩
def law20_DomainSets_l1_O (s0 : List TValue) (o : Unit ⊕ Bool) : Ex × St := match o with
  | .inl o => (.exit 0, ⟨sp 75 0 [], [], []⟩)
  | .inr o => (.ret, ⟨sp 75 0 [(2, .d (D.b o))], [], []⟩)
theorem law20_DomainSets_l1_rnd (rd : Option Nat) (s0 : List TValue) (s4 : List TValue) (s5 : Int) (w600 : List TValue) (o : (List TValue × Int × List TValue) ⊕ (Unit ⊕ Bool)) (h : law20_DomainSets_l1_s s0 s4 s5 w600 = some o) : Arr Try.prog rd (fbody Try.prog 4) (0 :: [0, 1, 0, 1, 1, 1, 1, 1]) (law20_DomainSets_l1_I s0 s4 s5 w600) (rR (fun s : List TValue × Int × List TValue => law20_DomainSets_l1_I s0 s.1 s.2.1 s.2.2) (law20_DomainSets_l1_O s0) o).1 (rR (fun s : List TValue × Int × List TValue => law20_DomainSets_l1_I s0 s.1 s.2.1 s.2.2) (law20_DomainSets_l1_O s0) o).2 := by
  unfold law20_DomainSets_l1_s at h
  rcases iteE_some h with ⟨h20, h⟩ | ⟨h20, h⟩
  ·
   obtain ⟨x14, h21, h⟩ := idxE_some h
   rcases iteE_some h with ⟨h22, h⟩ | ⟨h22, h⟩
   ·
    obtain ⟨r15, h23, h⟩ := bndE_some h
    obtain rfl := Option.some.inj h
    exact runB_arr mixed [(17, .int (s0.length : Int)), (18, .bit true), (23, .el (TValue.D x14)), (26, .int (x14.str.length : Int)), (28, .bit true), (36, .ret (.d (D.b r15)))] [] [.live [2], .keep []] (ai (len_map TValue.D s0) (ai h20 (ai (elem_map TValue.D h21) (ai (len_str x14.str) (ai h22 (ai (law20_awake_ok r15 h23) (ti))))))) (by kernel_rfl)
   ·
    obtain ⟨x16, h24, h⟩ := idxE_some h
    obtain ⟨r17, h25, h⟩ := bndE_some h
    rcases iteE_some h with ⟨h26, h⟩ | ⟨h26, h⟩
    ·
     obtain ⟨r18, h27, h⟩ := bndE_some h
     obtain rfl := Option.some.inj h
     exact runB_arr mixed [(17, .int (s0.length : Int)), (18, .bit true), (23, .el (TValue.D x14)), (26, .int (x14.str.length : Int)), (28, .bit false), (31, .el (TValue.D x16)), (33, .ret (.d (D.b r17))), (35, .bit true), (36, .ret (.d (D.b r18)))] [] [.live [2], .keep []] (ai (len_map TValue.D s0) (ai h20 (ai (elem_map TValue.D h21) (ai (len_str x14.str) (ai h22 (ai (elem_map TValue.D h24) (ai (ref03_Right_ok x16 r17 h25) (ai h26 (ai (law20_awake_ok r18 h27) (ti)))))))))) (by kernel_rfl)
    ·
     obtain ⟨x19, h28, h⟩ := idxE_some h
     obtain ⟨r20, h29, h⟩ := bndE_some h
     obtain ⟨x21, h30, h⟩ := idxE_some h
     obtain ⟨r22, h31, h⟩ := bndE_some h
     rcases iteE_some h with ⟨h32, h⟩ | ⟨h32, h⟩
     ·
      obtain rfl := Option.some.inj h
      exact runB_arr mixed [(17, .int (s0.length : Int)), (18, .bit true), (23, .el (TValue.D x14)), (26, .int (x14.str.length : Int)), (28, .bit false), (31, .el (TValue.D x16)), (33, .ret (.d (D.b r17))), (35, .bit false), (40, .el (TValue.D x19)), (42, .ret (.d ((D.l TValue.D) r20))), (46, .el (TValue.D x21)), (48, .cx false [(0, 3), (1, 600)] [(2, 48)] (.d (D.b r22.1)) [(0, .cells ([.row 2, .clo (.func 10) [] []])), (2, .rw 26 4 (r22.2.map TValue.D))]), (50, .int (r20.length : Int)), (52, .int (s4.length : Int)), (54, .bit true)] [] [.live [2], .keep []] (ai (len_map TValue.D s0) (ai h20 (ai (elem_map TValue.D h21) (ai (len_str x14.str) (ai h22 (ai (elem_map TValue.D h24) (ai (ref03_Right_ok x16 r17 h25) (ai h26 (ai (elem_map TValue.D h28) (ai (ref20_Put_ok s4 x19 r20 h29) (ai (elem_map TValue.D h30) (ai (domain_Set_Value_Put_v3_ok x21 w600 r22 h31) (ai (len_map TValue.D r20) (ai (len_map TValue.D s4) (ai h32 (ti)))))))))))))))) (by kernel_rfl)
     ·
      obtain ⟨r23, h33, h⟩ := bndE_some h
      obtain ⟨r24, h34, h⟩ := bndE_some h
      rcases iteE_some h with ⟨h35, h⟩ | ⟨h35, h⟩
      ·
       obtain rfl := Option.some.inj h
       exact runB_arr mixed [(17, .int (s0.length : Int)), (18, .bit true), (23, .el (TValue.D x14)), (26, .int (x14.str.length : Int)), (28, .bit false), (31, .el (TValue.D x16)), (33, .ret (.d (D.b r17))), (35, .bit false), (40, .el (TValue.D x19)), (42, .ret (.d ((D.l TValue.D) r20))), (46, .el (TValue.D x21)), (48, .cx false [(0, 3), (1, 600)] [(2, 48)] (.d (D.b r22.1)) [(0, .cells ([.row 2, .clo (.func 10) [] []])), (2, .rw 26 4 (r22.2.map TValue.D))]), (50, .int (r20.length : Int)), (52, .int (s4.length : Int)), (54, .bit false), (57, .cx false [(0, 3), (1, 48)] [(2, 57)] (.d ((D.l TValue.D) r23.1)) [(0, .cells ([.row 2, .clo (.func 10) [] []])), (2, .rw 26 4 (r23.2.map TValue.D))]), (61, .ret (.d (D.b r24))), (62, .bit true)] [] [.live [2], .keep []] (ai (len_map TValue.D s0) (ai h20 (ai (elem_map TValue.D h21) (ai (len_str x14.str) (ai h22 (ai (elem_map TValue.D h24) (ai (ref03_Right_ok x16 r17 h25) (ai h26 (ai (elem_map TValue.D h28) (ai (ref20_Put_ok s4 x19 r20 h29) (ai (elem_map TValue.D h30) (ai (domain_Set_Value_Put_v3_ok x21 w600 r22 h31) (ai (len_map TValue.D r20) (ai (len_map TValue.D s4) (ai h32 (ai (domain_Set_Value_All_ok r22.2 r23 h33) (ai (nc_ok (D.l TValue.D) [r23.1]) (ai (nc_ok (D.l TValue.D) [r20]) (ai (ref20_Same_ok [r23.1] [r20] r24 h34) (ai h35 (ti))))))))))))))))))))) (by kernel_rfl)
      ·
       obtain rfl := Option.some.inj h
       exact runB_arr mixed [(17, .int (s0.length : Int)), (18, .bit true), (23, .el (TValue.D x14)), (26, .int (x14.str.length : Int)), (28, .bit false), (31, .el (TValue.D x16)), (33, .ret (.d (D.b r17))), (35, .bit false), (40, .el (TValue.D x19)), (42, .ret (.d ((D.l TValue.D) r20))), (46, .el (TValue.D x21)), (48, .cx false [(0, 3), (1, 600)] [(2, 48)] (.d (D.b r22.1)) [(0, .cells ([.row 2, .clo (.func 10) [] []])), (2, .rw 26 4 (r22.2.map TValue.D))]), (50, .int (r20.length : Int)), (52, .int (s4.length : Int)), (54, .bit false), (57, .cx false [(0, 3), (1, 48)] [(2, 57)] (.d ((D.l TValue.D) r23.1)) [(0, .cells ([.row 2, .clo (.func 10) [] []])), (2, .rw 26 4 (r23.2.map TValue.D))]), (61, .ret (.d (D.b r24))), (62, .bit false)] [] [.live [0, 3, 4, 5], .keep [3, 57], .ren 57 600, .sort] (ai (len_map TValue.D s0) (ai h20 (ai (elem_map TValue.D h21) (ai (len_str x14.str) (ai h22 (ai (elem_map TValue.D h24) (ai (ref03_Right_ok x16 r17 h25) (ai h26 (ai (elem_map TValue.D h28) (ai (ref20_Put_ok s4 x19 r20 h29) (ai (elem_map TValue.D h30) (ai (domain_Set_Value_Put_v3_ok x21 w600 r22 h31) (ai (len_map TValue.D r20) (ai (len_map TValue.D s4) (ai h32 (ai (domain_Set_Value_All_ok r22.2 r23 h33) (ai (nc_ok (D.l TValue.D) [r23.1]) (ai (nc_ok (D.l TValue.D) [r20]) (ai (ref20_Same_ok [r23.1] [r20] r24 h34) (ai h35 (ti))))))))))))))))))))) (by kernel_rfl)
  ·
   obtain rfl := Option.some.inj h
   exact runB_arr mixed [(17, .int (s0.length : Int)), (18, .bit false)] [] [.live [], .keep []] (ai (len_map TValue.D s0) (ai h20 (ti))) (by kernel_rfl)
theorem law20_DomainSets_l1_ok (rd : Option Nat) (s0 : List TValue) (s4 : List TValue) (s5 : Int) (w600 : List TValue) (t : Unit ⊕ Bool) (h : law20_DomainSets_l1 s0 s4 s5 w600 = some t) : LpOf Try.prog rd (fbody Try.prog 4) [0, 1, 0, 1, 1, 1, 1, 1] (law20_DomainSets_l1_I s0 s4 s5 w600) ((law20_DomainSets_l1_O s0) t).1 ((law20_DomainSets_l1_O s0) t).2 :=
  loopE_lpR (fun s : List TValue × Int × List TValue => law20_DomainSets_l1_I s0 s.1 s.2.1 s.2.2) (law20_DomainSets_l1_O s0) (by kernel_rfl) (fun t => isN_ne (by rcases t with (_ | _) <;> rfl)) (fun s o h => law20_DomainSets_l1_rnd rd s0 s.1 s.2.1 s.2.2 o h) (s := (s4, s5, w600)) (t := t) h
theorem law20_DomainSets_ok (a0 : List TValue) (r : Bool) (h : law20_DomainSets a0 = some r) : ACall Try.prog 4 [.d ((D.l TValue.D) a0)] [] (.d (D.b r)) [] := by
  unfold law20_DomainSets at h
  rcases iteE_some h with ⟨h1, h⟩ | ⟨h1, h⟩
  ·
   obtain ⟨r1, h2, h⟩ := bndE_some h
   obtain rfl := Option.some.inj h
   exact runF_call mixed [(9, .int (a0.length : Int)), (10, .bit true), (11, .ret (.d (D.b r1)))] [] [] (ai (len_map TValue.D a0) (ai h1 (ai (law20_awake_ok r1 h2) (ti)))) (by kernel_rfl)
  ·
   obtain ⟨r2, h3, h⟩ := bndE_some h
   obtain ⟨o25, h36, h⟩ := bndE_some h
   replace h := sumE_some h
   rcases h with ⟨o26, rfl, h⟩ | ⟨o27, rfl, h⟩
   ·
    obtain ⟨r28, h37, h⟩ := bndE_some h
    rcases iteE_some h with ⟨h38, h⟩ | ⟨h38, h⟩
    ·
     obtain ⟨r29, h39, h⟩ := bndE_some h
     rcases iteE_some h with ⟨h40, h⟩ | ⟨h40, h⟩
     ·
      obtain ⟨r30, h41, h⟩ := bndE_some h
      obtain rfl := Option.some.inj h
      exact runF_call mixed [(9, .int (a0.length : Int)), (10, .bit false), (12, .cx false [] [(0, 419)] (.box 0 0) [(0, .cells ([.nil, .clo (.func 10) [] []]))]), (64, .ret (.d (D.b r28))), (66, .bit true), (68, .ret (.d ((D.l (D.i .i64)) r29))), (69, .int (r29.length : Int)), (72, .bit true), (73, .ret (.d (D.b r30)))] [⟨[0, 1, 0, 1, 1, 1, 1, 1], [.look 4, .live [0, 3, 4, 5], .keep [419], .ren 419 3, .nilc 3 0 600 26 4, .sort], .exit 0, (law20_DomainSets_l1_O a0 (Sum.inl o26)).2⟩] [] (ai (len_map TValue.D a0) (ai h1 (ai (domain_NewSet_Value_v2_ok r2 h3) (ai (law20_DomainSets_l1_ok none a0 ([] : List TValue) 0 ([] : List TValue) (Sum.inl o26) h36) (ai (domain_Set_int_Put_ok 1 r28 h37) (ai h38 (ai (domain_Set_int_All_ok r29 h39) (ai (len_map (D.i .i64) r29) (ai h40 (ai (law20_awake_ok r30 h41) (ti))))))))))) (by kernel_rfl)
     ·
      obtain rfl := Option.some.inj h
      exact runF_call mixed [(9, .int (a0.length : Int)), (10, .bit false), (12, .cx false [] [(0, 419)] (.box 0 0) [(0, .cells ([.nil, .clo (.func 10) [] []]))]), (64, .ret (.d (D.b r28))), (66, .bit true), (68, .ret (.d ((D.l (D.i .i64)) r29))), (69, .int (r29.length : Int)), (72, .bit false)] [⟨[0, 1, 0, 1, 1, 1, 1, 1], [.look 4, .live [0, 3, 4, 5], .keep [419], .ren 419 3, .nilc 3 0 600 26 4, .sort], .exit 0, (law20_DomainSets_l1_O a0 (Sum.inl o26)).2⟩] [] (ai (len_map TValue.D a0) (ai h1 (ai (domain_NewSet_Value_v2_ok r2 h3) (ai (law20_DomainSets_l1_ok none a0 ([] : List TValue) 0 ([] : List TValue) (Sum.inl o26) h36) (ai (domain_Set_int_Put_ok 1 r28 h37) (ai h38 (ai (domain_Set_int_All_ok r29 h39) (ai (len_map (D.i .i64) r29) (ai h40 (ti)))))))))) (by kernel_rfl)
    ·
     obtain rfl := Option.some.inj h
     exact runF_call mixed [(9, .int (a0.length : Int)), (10, .bit false), (12, .cx false [] [(0, 419)] (.box 0 0) [(0, .cells ([.nil, .clo (.func 10) [] []]))]), (64, .ret (.d (D.b r28))), (66, .bit false)] [⟨[0, 1, 0, 1, 1, 1, 1, 1], [.look 4, .live [0, 3, 4, 5], .keep [419], .ren 419 3, .nilc 3 0 600 26 4, .sort], .exit 0, (law20_DomainSets_l1_O a0 (Sum.inl o26)).2⟩] [] (ai (len_map TValue.D a0) (ai h1 (ai (domain_NewSet_Value_v2_ok r2 h3) (ai (law20_DomainSets_l1_ok none a0 ([] : List TValue) 0 ([] : List TValue) (Sum.inl o26) h36) (ai (domain_Set_int_Put_ok 1 r28 h37) (ai h38 (ti))))))) (by kernel_rfl)
   ·
    obtain rfl := Option.some.inj h
    exact runF_call mixed [(9, .int (a0.length : Int)), (10, .bit false), (12, .cx false [] [(0, 419)] (.box 0 0) [(0, .cells ([.nil, .clo (.func 10) [] []]))])] [⟨[0, 1, 0, 1, 1, 1, 1, 1], [.look 4, .live [0, 3, 4, 5], .keep [419], .ren 419 3, .nilc 3 0 600 26 4, .sort], .ret, (law20_DomainSets_l1_O a0 (Sum.inr o27)).2⟩] [] (ai (len_map TValue.D a0) (ai h1 (ai (domain_NewSet_Value_v2_ok r2 h3) (ai (law20_DomainSets_l1_ok none a0 ([] : List TValue) 0 ([] : List TValue) (Sum.inr o27) h36) (ti))))) (by kernel_rfl)
end Go.Ac
