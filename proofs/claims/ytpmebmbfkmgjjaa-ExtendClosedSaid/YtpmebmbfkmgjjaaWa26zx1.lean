/- Own work, printed: the functions compute these. -/
import Derived.Test.YtpmebmbfkmgjjaaSh26z
import Derived.Test.YtpmebmbfkmgjjaaProg
set_option linter.unusedVariables false
set_option linter.unusedSimpArgs false
set_option linter.unusedVariables false
set_option linter.unusedSimpArgs false
namespace Go.Ac
open Go.Proofs
theorem mixed : Try.prog.follows .mixedOrders = true := by kernel_rfl
theorem law26_slot_ok (a0 : Int) (a1 : Int) (r : TSlot) (h : law26_slot a0 a1 = some r) : ACall Try.prog 29 [.d ((D.i .i64) a0), .d ((D.i .i64) a1)] [] (.d (TSlot.D r)) [] := by
  unfold law26_slot at h
  obtain rfl := si h
  exact runF_call mixed [] [] [] (ti) (by kernel_rfl)
theorem domain_NewSet_Slot_v2_ok (r : Unit) (h : domain_NewSet_Slot_v2 = some r) : ACall Try.prog 34 [.clo (.func 35) [] []] [] (.box 0 0) [(0, .cells ([.nil, .clo (.func 35) [] []]))] := by
  unfold domain_NewSet_Slot_v2 at h
  obtain rfl := si h
  exact runX_call mixed (fun us => []) (fun us => []) [.live [2], .keep [5, 997], .ren 5 0, .sort] [] (fun us => ti) (by kernel_rfl)
theorem value_Less_ok (a0 : TValue) (a1 : TValue) (r : Bool) (h : value_Less a0 a1 = some r) : ACall Try.prog 55 [.d (TValue.D a0), .d (TValue.D a1)] [] (.d (D.b r)) [] := by
  unfold value_Less at h
  rcases iS h with ⟨h1, h⟩ | ⟨h1, h⟩
  ·
   obtain rfl := si h
   exact runF_call mixed [(5, .bit true)] [] [] (ai h1 (ti)) (by kernel_rfl)
  ·
   rcases iS h with ⟨h2, h⟩ | ⟨h2, h⟩
   ·
    obtain rfl := si h
    exact runF_call mixed [(5, .bit false), (16, .bit true)] [] [] (ai h1 (ai h2 (ti))) (by kernel_rfl)
   ·
    rcases iS h with ⟨h3, h⟩ | ⟨h3, h⟩
    ·
     obtain rfl := si h
     exact runF_call mixed [(5, .bit false), (16, .bit false), (25, .bit true)] [] [] (ai h1 (ai h2 (ai h3 (ti)))) (by kernel_rfl)
    ·
     rcases iS h with ⟨h4, h⟩ | ⟨h4, h⟩
     ·
      obtain rfl := si h
      exact runF_call mixed [(5, .bit false), (16, .bit false), (25, .bit false), (37, .bit true)] [] [] (ai h1 (ai h2 (ai h3 (ai h4 (ti))))) (by kernel_rfl)
     ·
      obtain rfl := si h
      exact runF_call mixed [(5, .bit false), (16, .bit false), (25, .bit false), (37, .bit false)] [] [] (ai h1 (ai h2 (ai h3 (ai h4 (ti))))) (by kernel_rfl)
def binding_Less_l1_I (s1 : List TSlot) (s17 : List TSlot) (s18 : Int) (s19 : Int) : St := ⟨sp 59 0 [(1, .d ((D.l TSlot.D) s1)), (17, .d ((D.l TSlot.D) s17)), (18, .d ((D.i .i64) s18)), (19, .d ((D.i .i64) s19))], [], []⟩
def binding_Less_l1_O (s1 : List TSlot) (s17 : List TSlot) (s18 : Int) (o : Unit ⊕ Bool) : Ex × St := match o with
  | .inl o => (.exit 0, ⟨sp 59 0 [], [], []⟩)
  | .inr o => (.ret, ⟨sp 59 0 [(4, .d (D.b o))], [], []⟩)
theorem binding_Less_l1_rnd (rd : Option Nat) (s1 : List TSlot) (s17 : List TSlot) (s18 : Int) (s19 : Int) (o : (Int) ⊕ (Unit ⊕ Bool)) (h : binding_Less_l1_s s1 s17 s18 s19 = some o) : Arr Try.prog rd (fbody Try.prog 35) (0 :: [0, 1, 0, 1, 1]) (binding_Less_l1_I s1 s17 s18 s19) (rR (fun s : Int => binding_Less_l1_I s1 s17 s18 s) (binding_Less_l1_O s1 s17 s18) o).1 (rR (fun s : Int => binding_Less_l1_I s1 s17 s18 s) (binding_Less_l1_O s1 s17 s18) o).2 := by
  unfold binding_Less_l1_s at h
  rcases iS h with ⟨h2, h⟩ | ⟨h2, h⟩
  ·
   obtain ⟨x1, h3, h⟩ := xS h
   obtain ⟨x2, h4, h⟩ := xS h
   rcases iS h with ⟨h5, h⟩ | ⟨h5, h⟩
   ·
    obtain ⟨x3, h6, h⟩ := xS h
    obtain rfl := si h
    exact runB_arr mixed [(20, .bit true), (22, .el (TSlot.D x1)), (29, .el (TSlot.D x2)), (24, .bit true), (37, .el (TSlot.D x3))] [] [.live [4], .keep []] (ai h2 (ai (elem_map TSlot.D h3) (ai (elem_map TSlot.D h4) (ai h5 (ai (elem_map TSlot.D h6) (ti)))))) (by kernel_rfl)
   ·
    obtain ⟨x4, h7, h⟩ := xS h
    rcases iS h with ⟨h8, h⟩ | ⟨h8, h⟩
    ·
     obtain ⟨x5, h9, h⟩ := xS h
     obtain ⟨r6, h10, h⟩ := bS h
     obtain rfl := si h
     exact runB_arr mixed [(20, .bit true), (22, .el (TSlot.D x1)), (29, .el (TSlot.D x2)), (24, .bit false), (46, .el (TSlot.D x4)), (41, .bit true), (54, .el (TSlot.D x5)), (57, .ret (.d (D.b r6)))] [] [.live [4], .keep []] (ai h2 (ai (elem_map TSlot.D h3) (ai (elem_map TSlot.D h4) (ai h5 (ai (elem_map TSlot.D h7) (ai h8 (ai (elem_map TSlot.D h9) (ai (value_Less_ok x1.value x5.value r6 h10) (ti))))))))) (by kernel_rfl)
    ·
     obtain rfl := si h
     exact runB_arr mixed [(20, .bit true), (22, .el (TSlot.D x1)), (29, .el (TSlot.D x2)), (24, .bit false), (46, .el (TSlot.D x4)), (41, .bit false)] [] [.live [1, 17, 18, 19], .keep []] (ai h2 (ai (elem_map TSlot.D h3) (ai (elem_map TSlot.D h4) (ai h5 (ai (elem_map TSlot.D h7) (ai h8 (ti))))))) (by kernel_rfl)
  ·
   obtain rfl := si h
   exact runB_arr mixed [(20, .bit false)] [] [.live [], .keep []] (ai h2 (ti)) (by kernel_rfl)
theorem binding_Less_l1_ok (rd : Option Nat) (s1 : List TSlot) (s17 : List TSlot) (s18 : Int) (s19 : Int) (t : Unit ⊕ Bool) (h : binding_Less_l1 s1 s17 s18 s19 = some t) : LpOf Try.prog rd (fbody Try.prog 35) [0, 1, 0, 1, 1] (binding_Less_l1_I s1 s17 s18 s19) ((binding_Less_l1_O s1 s17 s18) t).1 ((binding_Less_l1_O s1 s17 s18) t).2 :=
  loopE_lpR (fun s : Int => binding_Less_l1_I s1 s17 s18 s) (binding_Less_l1_O s1 s17 s18) (by kernel_rfl) (fun t => isN_ne (by rcases t with (_ | _) <;> rfl)) (fun s o h => binding_Less_l1_rnd rd s1 s17 s18 s o h) (s := s19) (t := t) h
theorem binding_Less_ok (a0 : List TSlot) (a1 : List TSlot) (r : Bool) (h : binding_Less a0 a1 = some r) : ACall Try.prog 35 [.d ((D.l TSlot.D) a0), .d ((D.l TSlot.D) a1)] [] (.d (D.b r)) [] := by
  unfold binding_Less at h
  rcases iS h with ⟨h1, h⟩ | ⟨h1, h⟩
  ·
   obtain rfl := si h
   exact runF_call mixed [(8, .int (a0.length : Int)), (10, .int (a1.length : Int)), (11, .bit true), (13, .int (a0.length : Int)), (15, .int (a1.length : Int))] [] [] (ai (len_map TSlot.D a0) (ai (len_map TSlot.D a1) (ai h1 (ai (len_map TSlot.D a0) (ai (len_map TSlot.D a1) (ti)))))) (by kernel_rfl)
  ·
   obtain ⟨o7, h11, h⟩ := bS h
   replace h := sumE_some h
   rcases h with ⟨o8, rfl, h⟩ | ⟨o9, rfl, h⟩
   ·
    obtain rfl := si h
    exact runF_call mixed [(8, .int (a0.length : Int)), (10, .int (a1.length : Int)), (11, .bit false), (18, .int (a0.length : Int))] [⟨[0, 1, 0, 1, 1], [.live [1, 17, 18, 19], .keep []], .exit 0, (binding_Less_l1_O a1 a0 (a0.length : Int) (Sum.inl o8)).2⟩] [] (ai (len_map TSlot.D a0) (ai (len_map TSlot.D a1) (ai h1 (ai (len_map TSlot.D a0) (ai (binding_Less_l1_ok none a1 a0 (a0.length : Int) 0 (Sum.inl o8) h11) (ti)))))) (by kernel_rfl)
   ·
    obtain rfl := si h
    exact runF_call mixed [(8, .int (a0.length : Int)), (10, .int (a1.length : Int)), (11, .bit false), (18, .int (a0.length : Int))] [⟨[0, 1, 0, 1, 1], [.live [1, 17, 18, 19], .keep []], .ret, (binding_Less_l1_O a1 a0 (a0.length : Int) (Sum.inr o9)).2⟩] [] (ai (len_map TSlot.D a0) (ai (len_map TSlot.D a1) (ai h1 (ai (len_map TSlot.D a0) (ai (binding_Less_l1_ok none a1 a0 (a0.length : Int) 0 (Sum.inr o9) h11) (ti)))))) (by kernel_rfl)
theorem domain_Set_Slot_Put_1_ok (a0 : List TSlot) (a1 : List TSlot) (a2 : List (List TSlot)) (r : Int) (h : domain_Set_Slot_Put_1 a0 a1 a2 = some r) : ACall Try.prog 57 [.d ((D.l TSlot.D) a0), .d ((D.l TSlot.D) a1), .eptr [.ptr ((D.cells ((D.l (D.l TSlot.D)) a2)) ++ [.v (.func (.func 35) #[] #[])])]] [] (.d ((D.i .i64) r)) [] := by
  unfold domain_Set_Slot_Put_1 at h
  obtain ⟨r1, h1, h⟩ := bS h
  cases r1 with
  | true =>
   replace h := iteT h
   obtain rfl := si h
   exact runF_call mixed [(13, .ret (.d (D.b true)))] [] [] (ai (binding_Less_ok a0 a1 true h1) (ti)) (by kernel_rfl)
  | false =>
   replace h := iteF h
   obtain ⟨r2, h3, h⟩ := bS h
   cases r2 with
   | true =>
    replace h := iteT h
    obtain rfl := si h
    exact runF_call mixed [(13, .ret (.d (D.b false))), (21, .ret (.d (D.b true)))] [] [] (ai (binding_Less_ok a0 a1 false h1) (ai (binding_Less_ok a1 a0 true h3) (ti))) (by kernel_rfl)
   | false =>
    replace h := iteF h
    obtain rfl := si h
    exact runF_call mixed [(13, .ret (.d (D.b false))), (21, .ret (.d (D.b false)))] [] [] (ai (binding_Less_ok a0 a1 false h1) (ai (binding_Less_ok a1 a0 false h3) (ti))) (by kernel_rfl)
def slices_BinarySearchFunc_Slot_Slot_Slot_b3_I (s0 : List (List TSlot)) (s1 : List TSlot) (s2 : List (List TSlot)) (s8 : Int) (s9 : Int) (s10 : Int) (s11 : Int) (s31 : Bool) : St := ⟨sp 49 0 [(0, .d ((D.l (D.l TSlot.D)) s0)), (1, .d ((D.l TSlot.D) s1)), (2, .clo (.func 57) [] [.eptr [.ptr ((D.cells ((D.l (D.l TSlot.D)) s2)) ++ [.v (.func (.func 35) #[] #[])])]]), (8, .d ((D.i .i64) s8)), (9, .d ((D.i .i64) s9)), (10, .d ((D.i .i64) s10)), (11, .d ((D.i .i64) s11)), (31, .d (D.b s31))], [], []⟩
def slices_BinarySearchFunc_Slot_Slot_Slot_b3_O (s0 : List (List TSlot)) (s1 : List TSlot) (s2 : List (List TSlot)) (s8 : Int) (s9 : Int) (s10 : Int) (s11 : Int) (s31 : Bool) (o : (Int × Int)) : Ex × St := (.normal, ⟨sp 49 0 [(0, .d ((D.l (D.l TSlot.D)) s0)), (1, .d ((D.l TSlot.D) s1)), (2, .clo (.func 57) [] [.eptr [.ptr ((D.cells ((D.l (D.l TSlot.D)) s2)) ++ [.v (.func (.func 35) #[] #[])])]]), (8, .d ((D.i .i64) s8)), (9, .d ((D.i .i64) o.1)), (10, .d ((D.i .i64) o.2))], [], []⟩)
theorem slices_BinarySearchFunc_Slot_Slot_Slot_b3_ok (rd : Option Nat) (s0 : List (List TSlot)) (s1 : List TSlot) (s2 : List (List TSlot)) (s8 : Int) (s9 : Int) (s10 : Int) (s11 : Int) (s31 : Bool) (o : (Int × Int)) (h : slices_BinarySearchFunc_Slot_Slot_Slot_b3 s0 s1 s2 s8 s9 s10 s11 s31 = some o) : LpOf Try.prog rd (fbody Try.prog 56) [1, 1, 0, 1, 0, 0, 0, 1, 1, 1] (slices_BinarySearchFunc_Slot_Slot_Slot_b3_I s0 s1 s2 s8 s9 s10 s11 s31) (slices_BinarySearchFunc_Slot_Slot_Slot_b3_O s0 s1 s2 s8 s9 s10 s11 s31 o).1 (slices_BinarySearchFunc_Slot_Slot_Slot_b3_O s0 s1 s2 s8 s9 s10 s11 s31 o).2 := by
  unfold slices_BinarySearchFunc_Slot_Slot_Slot_b3 at h
  cases s31 with
  | true =>
   replace h := iteT h
   obtain rfl := si h
   exact (runB_arr mixed [] [] [.live [0, 1, 2, 8, 9, 10], .keep []] (ti) (by kernel_rfl)).lp
  | false =>
   replace h := iteF h
   obtain rfl := si h
   exact (runB_arr mixed [] [] [.live [0, 1, 2, 8, 9, 10], .keep []] (ti) (by kernel_rfl)).lp
def slices_BinarySearchFunc_Slot_Slot_Slot_b2_I (s0 : List (List TSlot)) (s1 : List TSlot) (s2 : List (List TSlot)) (s8 : Int) (s9 : Int) (s10 : Int) : St := ⟨sp 49 0 [(0, .d ((D.l (D.l TSlot.D)) s0)), (1, .d ((D.l TSlot.D) s1)), (2, .clo (.func 57) [] [.eptr [.ptr ((D.cells ((D.l (D.l TSlot.D)) s2)) ++ [.v (.func (.func 35) #[] #[])])]]), (8, .d ((D.i .i64) s8)), (9, .d ((D.i .i64) s9)), (10, .d ((D.i .i64) s10))], [], []⟩
def slices_BinarySearchFunc_Slot_Slot_Slot_b2_O (s0 : List (List TSlot)) (s1 : List TSlot) (s2 : List (List TSlot)) (s8 : Int) (s9 : Int) (s10 : Int) (o : (Int × Int)) : Ex × St := (.normal, ⟨sp 49 0 [(0, .d ((D.l (D.l TSlot.D)) s0)), (1, .d ((D.l TSlot.D) s1)), (2, .clo (.func 57) [] [.eptr [.ptr ((D.cells ((D.l (D.l TSlot.D)) s2)) ++ [.v (.func (.func 35) #[] #[])])]]), (8, .d ((D.i .i64) s8)), (9, .d ((D.i .i64) o.1)), (10, .d ((D.i .i64) o.2))], [], []⟩)
theorem slices_BinarySearchFunc_Slot_Slot_Slot_b2_ok (rd : Option Nat) (s0 : List (List TSlot)) (s1 : List TSlot) (s2 : List (List TSlot)) (s8 : Int) (s9 : Int) (s10 : Int) (o : (Int × Int)) (h : slices_BinarySearchFunc_Slot_Slot_Slot_b2 s0 s1 s2 s8 s9 s10 = some o) : LpOf Try.prog rd (fbody Try.prog 56) [1, 0, 0, 0, 1, 1, 1] (slices_BinarySearchFunc_Slot_Slot_Slot_b2_I s0 s1 s2 s8 s9 s10) (slices_BinarySearchFunc_Slot_Slot_Slot_b2_O s0 s1 s2 s8 s9 s10 o).1 (slices_BinarySearchFunc_Slot_Slot_Slot_b2_O s0 s1 s2 s8 s9 s10 o).2 := by
  unfold slices_BinarySearchFunc_Slot_Slot_Slot_b2 at h
  obtain ⟨x1, h2, h⟩ := xS h
  obtain ⟨r2, h3, h⟩ := bS h
  obtain ⟨o3, h5, h⟩ := bS h
  obtain rfl := si h
  exact (runB_arr mixed [(27, .el ((D.l TSlot.D) x1)), (30, .ret (.d ((D.i .i64) r2)))] [⟨[1, 1, 0, 1, 0, 0, 0, 1, 1, 1], [.live [0, 1, 2, 8, 9, 10, 11, 31], .keep []], .normal, (slices_BinarySearchFunc_Slot_Slot_Slot_b3_O s0 s1 s2 s8 s9 s10 (IntKind.wrap .i64 (intVal .shr .u64 (IntKind.wrap .u64 (intVal .add .i64 s9 s10)) 1)) (decide (r2 < 0)) o3).2⟩] [.live [0, 1, 2, 8, 9, 10], .keep []] (ai (of_decide_eq_true rfl : (0 : Int) ≤ 1) (ai (elem_map (D.l TSlot.D) h2) (ai (domain_Set_Slot_Put_1_ok x1 s1 s2 r2 h3) (ai (slices_BinarySearchFunc_Slot_Slot_Slot_b3_ok rd s0 s1 s2 s8 s9 s10 (IntKind.wrap .i64 (intVal .shr .u64 (IntKind.wrap .u64 (intVal .add .i64 s9 s10)) 1)) (decide (r2 < 0)) o3 h5) (ti))))) (by kernel_rfl)).lp
def slices_BinarySearchFunc_Slot_Slot_Slot_l1_I (s0 : List (List TSlot)) (s1 : List TSlot) (s2 : List (List TSlot)) (s8 : Int) (s9 : Int) (s10 : Int) : St := ⟨sp 49 0 [(0, .d ((D.l (D.l TSlot.D)) s0)), (1, .d ((D.l TSlot.D) s1)), (2, .clo (.func 57) [] [.eptr [.ptr ((D.cells ((D.l (D.l TSlot.D)) s2)) ++ [.v (.func (.func 35) #[] #[])])]]), (8, .d ((D.i .i64) s8)), (9, .d ((D.i .i64) s9)), (10, .d ((D.i .i64) s10))], [], []⟩
def slices_BinarySearchFunc_Slot_Slot_Slot_l1_O (s0 : List (List TSlot)) (s1 : List TSlot) (s2 : List (List TSlot)) (s8 : Int) (o : Int) : Ex × St := (.exit 0, ⟨sp 49 0 [(0, .d ((D.l (D.l TSlot.D)) s0)), (1, .d ((D.l TSlot.D) s1)), (2, .clo (.func 57) [] [.eptr [.ptr ((D.cells ((D.l (D.l TSlot.D)) s2)) ++ [.v (.func (.func 35) #[] #[])])]]), (8, .d ((D.i .i64) s8)), (9, .d ((D.i .i64) o))], [], []⟩)
theorem slices_BinarySearchFunc_Slot_Slot_Slot_l1_rnd (rd : Option Nat) (s0 : List (List TSlot)) (s1 : List TSlot) (s2 : List (List TSlot)) (s8 : Int) (s9 : Int) (s10 : Int) (o : (Int × Int) ⊕ (Int)) (h : slices_BinarySearchFunc_Slot_Slot_Slot_l1_s s0 s1 s2 s8 s9 s10 = some o) : Arr Try.prog rd (fbody Try.prog 56) (0 :: [0, 0, 1, 1, 1]) (slices_BinarySearchFunc_Slot_Slot_Slot_l1_I s0 s1 s2 s8 s9 s10) (rR (fun s : Int × Int => slices_BinarySearchFunc_Slot_Slot_Slot_l1_I s0 s1 s2 s8 s.1 s.2) (slices_BinarySearchFunc_Slot_Slot_Slot_l1_O s0 s1 s2 s8) o).1 (rR (fun s : Int × Int => slices_BinarySearchFunc_Slot_Slot_Slot_l1_I s0 s1 s2 s8 s.1 s.2) (slices_BinarySearchFunc_Slot_Slot_Slot_l1_O s0 s1 s2 s8) o).2 := by
  unfold slices_BinarySearchFunc_Slot_Slot_Slot_l1_s at h
  rcases iS h with ⟨h1, h⟩ | ⟨h1, h⟩
  ·
   obtain ⟨o4, h6, h⟩ := bS h
   obtain rfl := si h
   exact runB_arr mixed [(17, .bit true)] [⟨[1, 0, 0, 0, 1, 1, 1], [.live [0, 1, 2, 8, 9, 10], .keep []], .normal, (slices_BinarySearchFunc_Slot_Slot_Slot_b2_O s0 s1 s2 s8 s9 s10 o4).2⟩] [.live [0, 1, 2, 8, 9, 10], .keep []] (ai h1 (ai (slices_BinarySearchFunc_Slot_Slot_Slot_b2_ok rd s0 s1 s2 s8 s9 s10 o4 h6) (ti))) (by kernel_rfl)
  ·
   obtain rfl := si h
   exact runB_arr mixed [(17, .bit false)] [] [.live [0, 1, 2, 8, 9], .keep []] (ai h1 (ti)) (by kernel_rfl)
theorem slices_BinarySearchFunc_Slot_Slot_Slot_l1_ok (rd : Option Nat) (s0 : List (List TSlot)) (s1 : List TSlot) (s2 : List (List TSlot)) (s8 : Int) (s9 : Int) (s10 : Int) (t : Int) (h : slices_BinarySearchFunc_Slot_Slot_Slot_l1 s0 s1 s2 s8 s9 s10 = some t) : LpOf Try.prog rd (fbody Try.prog 56) [0, 0, 1, 1, 1] (slices_BinarySearchFunc_Slot_Slot_Slot_l1_I s0 s1 s2 s8 s9 s10) ((slices_BinarySearchFunc_Slot_Slot_Slot_l1_O s0 s1 s2 s8) t).1 ((slices_BinarySearchFunc_Slot_Slot_Slot_l1_O s0 s1 s2 s8) t).2 :=
  loopE_lpR (fun s : Int × Int => slices_BinarySearchFunc_Slot_Slot_Slot_l1_I s0 s1 s2 s8 s.1 s.2) (slices_BinarySearchFunc_Slot_Slot_Slot_l1_O s0 s1 s2 s8) (by kernel_rfl) (fun t => isN_ne (by rfl)) (fun s o h => slices_BinarySearchFunc_Slot_Slot_Slot_l1_rnd rd s0 s1 s2 s8 s.1 s.2 o h) (s := (s9, s10)) (t := t) h
theorem slices_BinarySearchFunc_Slot_Slot_Slot_ok (a0 : List (List TSlot)) (a1 : List TSlot) (a2 : List (List TSlot)) (r : Int × Bool) (h : slices_BinarySearchFunc_Slot_Slot_Slot a0 a1 a2 = some r) : ACall Try.prog 56 [.d ((D.l (D.l TSlot.D)) a0), .d ((D.l TSlot.D) a1), .clo (.func 57) [] [.eptr [.ptr ((D.cells ((D.l (D.l TSlot.D)) a2)) ++ [.v (.func (.func 35) #[] #[])])]]] [] (.tup [.d ((D.i .i64) r.1), .d (D.b r.2)]) [] := by
  unfold slices_BinarySearchFunc_Slot_Slot_Slot at h
  obtain ⟨o5, h7, h⟩ := bS h
  rcases iS h with ⟨h8, h⟩ | ⟨h8, h⟩
  ·
   obtain ⟨x6, h9, h⟩ := xS h
   obtain ⟨r7, h10, h⟩ := bS h
   obtain rfl := si h
   exact runF_call mixed [(13, .int (a0.length : Int)), (39, .bit true), (43, .el ((D.l TSlot.D) x6)), (46, .ret (.d ((D.i .i64) r7)))] [⟨[0, 0, 1, 1, 1], [.live [0, 1, 2, 8, 9, 10], .keep []], .exit 0, (slices_BinarySearchFunc_Slot_Slot_Slot_l1_O a0 a1 a2 (a0.length : Int) o5).2⟩] [] (ai (len_map (D.l TSlot.D) a0) (ai (slices_BinarySearchFunc_Slot_Slot_Slot_l1_ok none a0 a1 a2 (a0.length : Int) 0 (a0.length : Int) o5 h7) (ai h8 (ai (elem_map (D.l TSlot.D) h9) (ai (domain_Set_Slot_Put_1_ok x6 a1 a2 r7 h10) (ti)))))) (by kernel_rfl)
  ·
   obtain rfl := si h
   exact runF_call mixed [(13, .int (a0.length : Int)), (39, .bit false)] [⟨[0, 0, 1, 1, 1], [.live [0, 1, 2, 8, 9, 10], .keep []], .exit 0, (slices_BinarySearchFunc_Slot_Slot_Slot_l1_O a0 a1 a2 (a0.length : Int) o5).2⟩] [] (ai (len_map (D.l TSlot.D) a0) (ai (slices_BinarySearchFunc_Slot_Slot_Slot_l1_ok none a0 a1 a2 (a0.length : Int) 0 (a0.length : Int) o5 h7) (ai h8 (ti)))) (by kernel_rfl)
theorem slices_Insert_Slot_Slot_ok (i : Int) (ys r : List (List TSlot)) (h : slices_Insert_Slot_Slot i ys = some r) : ACall Try.prog 58 [.nil, .d (D.i .i64 i), .row 0] [(0, .row 23 1 (ys.map (D.l TSlot.D)))] (.row 1) [(1, .rw 23 1 (r.map (D.l TSlot.D)))] :=
  insN_ok (ρ := ⟨fun n => if n = 22 then 58 else if n = 29 then 70 else 71, fun n => if n = 0 then 0 else if n = 3 then 3 else if n = 4 then 4 else if n = 24 then 22 else 23, id⟩) (by_ := 24) (D.l TSlot.D) mixed rfl ⟨ "slices.Insert[[][]proctor/api.Slot,[]proctor/api.Slot]", by decide, (Try.func58).trans (by kernel_rfl)⟩ Try.underlying3 Try.underlying4 Try.underlying22 (by kernel_rfl) (by decide) i ys r h
def domain_Set_Slot_Put_v2_b1_I (us : List Value) (s1 : List TSlot) (s5 : Int) (s6 : Bool) (s20 : Bool) : St := ⟨sp 34 0 [(1, .d ((D.l TSlot.D) s1)), (2, .box 2 0), (5, .d ((D.i .i64) s5)), (6, .d (D.b s6)), (20, .d (D.b s20))], [(0, .cells ([.nil, .clo (.func 35) [] []])), (2, .cells ([.box 0 0])), (997, .vals [.box 0 0] us)], []⟩
def domain_Set_Slot_Put_v2_b1_O (us : List Value) (s1 : List TSlot) (s5 : Int) (s6 : Bool) (s20 : Bool) (o : (List (List TSlot))) : Ex × St := (.normal, ⟨sp 34 0 [(6, .d (D.b s6))], [(0, .cells ([.row 529, .clo (.func 35) [] []])), (529, .rw 23 1 (o.map (D.l TSlot.D))), (997, .vals [.box 0 0] us)], []⟩)
theorem domain_Set_Slot_Put_v2_b1_ok (rd : Option Nat) (us : List Value) (s1 : List TSlot) (s5 : Int) (s6 : Bool) (s20 : Bool) (o : (List (List TSlot))) (h : domain_Set_Slot_Put_v2_b1 s1 s5 s6 s20 = some o) : LpOf Try.prog rd (fbody Try.prog 36) [1, 0, 1, 1, 1] (domain_Set_Slot_Put_v2_b1_I us s1 s5 s6 s20) (domain_Set_Slot_Put_v2_b1_O us s1 s5 s6 s20 o).1 (domain_Set_Slot_Put_v2_b1_O us s1 s5 s6 s20 o).2 := by
  unfold domain_Set_Slot_Put_v2_b1 at h
  cases s20 with
  | true =>
   replace h := iteT h
   obtain ⟨r2, h3, h⟩ := bS h
   obtain rfl := si h
   exact (runB_arr mixed [(29, .cx true [(0, 28)] [(1, 29)] (.row 1) [(1, .rw 23 1 (r2.map (D.l TSlot.D)))])] [] [.live [6], .keep [0, 29, 997], .ren 29 529, .sort] (ai (nc_ok (D.l TSlot.D) [s1]) (ai (slices_Insert_Slot_Slot_ok s5 [s1] r2 h3) (ti))) (by kernel_rfl)).lp
  | false =>
   replace h := iteF h
   obtain rfl := si h
   exact (runB_arr mixed [] [] [.live [6], .keep [0, 997], .nilc 0 0 529 23 1, .sort] (ti) (by kernel_rfl)).lp
theorem domain_Set_Slot_Put_v2_ok (a1 : List TSlot) (r : Bool × List (List TSlot)) (h : domain_Set_Slot_Put_v2 a1 = some r) : ACall Try.prog 36 [.box 0 0, .d ((D.l TSlot.D) a1)] [(0, .cells ([.nil, .clo (.func 35) [] []]))] (.d (D.b r.1)) [(0, .cells ([.row 1, .clo (.func 35) [] []])), (1, .rw 23 1 (r.2.map (D.l TSlot.D)))] := by
  unfold domain_Set_Slot_Put_v2 at h
  obtain ⟨r1, h1, h⟩ := bS h
  obtain ⟨o3, h4, h⟩ := bS h
  obtain rfl := si h
  exact runX_call mixed (fun us => [(16, .lend [0, 2] (.tup [.d ((D.i .i64) r1.1), .d (D.b r1.2)]))]) (fun us => [⟨[1, 0, 1, 1, 1], [.live [1, 2, 5, 6, 20], .keep [0, 2, 997]], .normal, (domain_Set_Slot_Put_v2_b1_O us a1 r1.1 r1.2 (!r1.2) o3).2⟩]) [.live [4], .keep [0, 529, 997], .ren 529 1, .sort] [0] (fun us => ai (slices_BinarySearchFunc_Slot_Slot_Slot_ok ([] : List (List TSlot)) a1 ([] : List (List TSlot)) r1 h1) (ai (domain_Set_Slot_Put_v2_b1_ok none us a1 r1.1 r1.2 (!r1.2) o3 h4) (ti))) (by kernel_rfl)
theorem slices_Insert_Slot_Slot_v2_ok (i : Int) (xs ys r : List (List TSlot)) (h : slices_Insert_Slot_Slot_v2 i xs ys = some r) : ACall Try.prog 58 [.row 0, .d (D.i .i64 i), .row 1] [(0, .rw 23 1 (xs.map (D.l TSlot.D))), (1, .row 23 1 (ys.map (D.l TSlot.D)))] (.row 2) [(2, .rw 23 1 (r.map (D.l TSlot.D)))] :=
  insE_ok (ρ := ⟨fun n => if n = 22 then 58 else if n = 29 then 70 else 71, fun n => if n = 0 then 0 else if n = 3 then 3 else if n = 4 then 4 else if n = 24 then 22 else 23, id⟩) (by_ := 24) (D.l TSlot.D) mixed rfl ⟨ "slices.Insert[[][]proctor/api.Slot,[]proctor/api.Slot]", by decide, (Try.func58).trans (by kernel_rfl)⟩ Try.underlying3 Try.underlying4 Try.underlying22 (by kernel_rfl) (by decide) (by decide)
    (fun args w => run_callFunc_extern Try.func70 (by kernel_rfl) (by kernel_rfl) (by kernel_rfl) (e := Go.Extern.SlicesOverlaps.overlaps #[22, 22] #[4]) (by kernel_rfl) args w) i xs ys r h
def domain_Set_Slot_Put_v3_b1_I (us : List Value) (s1 : List TSlot) (s5 : Int) (s6 : Bool) (s20 : Bool) (w501 : List (List TSlot)) : St := ⟨sp 34 0 [(1, .d ((D.l TSlot.D) s1)), (2, .box 2 0), (5, .d ((D.i .i64) s5)), (6, .d (D.b s6)), (20, .d (D.b s20))], [(0, .cells ([.row 501, .clo (.func 35) [] []])), (2, .cells ([.box 0 0])), (501, .rw 23 1 (w501.map (D.l TSlot.D))), (997, .vals [.box 0 0] us)], []⟩
def domain_Set_Slot_Put_v3_b1_O (us : List Value) (s1 : List TSlot) (s5 : Int) (s6 : Bool) (s20 : Bool) (w501 : List (List TSlot)) (o : (List (List TSlot))) : Ex × St := (.normal, ⟨sp 34 0 [(6, .d (D.b s6))], [(0, .cells ([.row 529, .clo (.func 35) [] []])), (529, .rw 23 1 (o.map (D.l TSlot.D))), (997, .vals [.box 0 0] us)], []⟩)
theorem domain_Set_Slot_Put_v3_b1_ok (rd : Option Nat) (us : List Value) (s1 : List TSlot) (s5 : Int) (s6 : Bool) (s20 : Bool) (w501 : List (List TSlot)) (o : (List (List TSlot))) (h : domain_Set_Slot_Put_v3_b1 s1 s5 s6 s20 w501 = some o) : LpOf Try.prog rd (fbody Try.prog 36) [1, 0, 1, 1, 1] (domain_Set_Slot_Put_v3_b1_I us s1 s5 s6 s20 w501) (domain_Set_Slot_Put_v3_b1_O us s1 s5 s6 s20 w501 o).1 (domain_Set_Slot_Put_v3_b1_O us s1 s5 s6 s20 w501 o).2 := by
  unfold domain_Set_Slot_Put_v3_b1 at h
  cases s20 with
  | true =>
   replace h := iteT h
   obtain ⟨r2, h3, h⟩ := bS h
   obtain rfl := si h
   exact (runB_arr mixed [(29, .cx true [(0, 501), (1, 28)] [(2, 29)] (.row 2) [(2, .rw 23 1 (r2.map (D.l TSlot.D)))])] [] [.live [6], .keep [0, 29, 997], .ren 29 529, .sort] (ai (nc_ok (D.l TSlot.D) [s1]) (ai (slices_Insert_Slot_Slot_v2_ok s5 w501 [s1] r2 h3) (ti))) (by kernel_rfl)).lp
  | false =>
   replace h := iteF h
   obtain rfl := si h
   exact (runB_arr mixed [] [] [.live [6], .keep [0, 501, 997], .ren 501 529, .sort] (ti) (by kernel_rfl)).lp
theorem domain_Set_Slot_Put_v3_ok (a1 : List TSlot) (w1 : List (List TSlot)) (r : Bool × List (List TSlot)) (h : domain_Set_Slot_Put_v3 a1 w1 = some r) : ACall Try.prog 36 [.box 0 0, .d ((D.l TSlot.D) a1)] [(0, .cells ([.row 1, .clo (.func 35) [] []])), (1, .rw 23 1 (w1.map (D.l TSlot.D)))] (.d (D.b r.1)) [(0, .cells ([.row 2, .clo (.func 35) [] []])), (2, .rw 23 1 (r.2.map (D.l TSlot.D)))] := by
  unfold domain_Set_Slot_Put_v3 at h
  obtain ⟨r1, h1, h⟩ := bS h
  obtain ⟨o3, h4, h⟩ := bS h
  obtain rfl := si h
  exact runX_call mixed (fun us => [(16, .lend [0, 1, 2] (.tup [.d ((D.i .i64) r1.1), .d (D.b r1.2)]))]) (fun us => [⟨[1, 0, 1, 1, 1], [.live [1, 2, 5, 6, 20], .keep [0, 1, 2, 997], .ren 1 501, .sort], .normal, (domain_Set_Slot_Put_v3_b1_O us a1 r1.1 r1.2 (!r1.2) w1 o3).2⟩]) [.live [4], .keep [0, 529, 997], .ren 529 2, .sort] [0] (fun us => ai (slices_BinarySearchFunc_Slot_Slot_Slot_ok w1 a1 w1 r1 h1) (ai (domain_Set_Slot_Put_v3_b1_ok none us a1 r1.1 r1.2 (!r1.2) w1 o3 h4) (ti))) (by kernel_rfl)
theorem match_Binds_1_ok (a0 : List TSlot) (a1 : List TSlot) (r : Int) (h : match_Binds_1 a0 a1 = some r) : ACall Try.prog 59 [.d ((D.l TSlot.D) a0), .d ((D.l TSlot.D) a1)] [] (.d ((D.i .i64) r)) [] := by
  unfold match_Binds_1 at h
  obtain ⟨r1, h1, h⟩ := bS h
  cases r1 with
  | true =>
   replace h := iteT h
   obtain rfl := si h
   exact runF_call mixed [(8, .ret (.d (D.b true)))] [] [] (ai (binding_Less_ok a0 a1 true h1) (ti)) (by kernel_rfl)
  | false =>
   replace h := iteF h
   obtain ⟨r2, h3, h⟩ := bS h
   cases r2 with
   | true =>
    replace h := iteT h
    obtain rfl := si h
    exact runF_call mixed [(8, .ret (.d (D.b false))), (12, .ret (.d (D.b true)))] [] [] (ai (binding_Less_ok a0 a1 false h1) (ai (binding_Less_ok a1 a0 true h3) (ti))) (by kernel_rfl)
   | false =>
    replace h := iteF h
    obtain rfl := si h
    exact runF_call mixed [(8, .ret (.d (D.b false))), (12, .ret (.d (D.b false)))] [] [] (ai (binding_Less_ok a0 a1 false h1) (ai (binding_Less_ok a1 a0 false h3) (ti))) (by kernel_rfl)
def slices_BinarySearchFunc_Slot_Slot_Slot_v2_b3_I (s0 : List (List TSlot)) (s1 : List TSlot) (s8 : Int) (s9 : Int) (s10 : Int) (s11 : Int) (s31 : Bool) : St := ⟨sp 49 0 [(0, .d ((D.l (D.l TSlot.D)) s0)), (1, .d ((D.l TSlot.D) s1)), (2, .clo (.func 59) [] []), (8, .d ((D.i .i64) s8)), (9, .d ((D.i .i64) s9)), (10, .d ((D.i .i64) s10)), (11, .d ((D.i .i64) s11)), (31, .d (D.b s31))], [], []⟩
def slices_BinarySearchFunc_Slot_Slot_Slot_v2_b3_O (s0 : List (List TSlot)) (s1 : List TSlot) (s8 : Int) (s9 : Int) (s10 : Int) (s11 : Int) (s31 : Bool) (o : (Int × Int)) : Ex × St := (.normal, ⟨sp 49 0 [(0, .d ((D.l (D.l TSlot.D)) s0)), (1, .d ((D.l TSlot.D) s1)), (2, .clo (.func 59) [] []), (8, .d ((D.i .i64) s8)), (9, .d ((D.i .i64) o.1)), (10, .d ((D.i .i64) o.2))], [], []⟩)
theorem slices_BinarySearchFunc_Slot_Slot_Slot_v2_b3_ok (rd : Option Nat) (s0 : List (List TSlot)) (s1 : List TSlot) (s8 : Int) (s9 : Int) (s10 : Int) (s11 : Int) (s31 : Bool) (o : (Int × Int)) (h : slices_BinarySearchFunc_Slot_Slot_Slot_v2_b3 s0 s1 s8 s9 s10 s11 s31 = some o) : LpOf Try.prog rd (fbody Try.prog 56) [1, 1, 0, 1, 0, 0, 0, 1, 1, 1] (slices_BinarySearchFunc_Slot_Slot_Slot_v2_b3_I s0 s1 s8 s9 s10 s11 s31) (slices_BinarySearchFunc_Slot_Slot_Slot_v2_b3_O s0 s1 s8 s9 s10 s11 s31 o).1 (slices_BinarySearchFunc_Slot_Slot_Slot_v2_b3_O s0 s1 s8 s9 s10 s11 s31 o).2 := by
  unfold slices_BinarySearchFunc_Slot_Slot_Slot_v2_b3 at h
  cases s31 with
  | true =>
   replace h := iteT h
   obtain rfl := si h
   exact (runB_arr mixed [] [] [.live [0, 1, 2, 8, 9, 10], .keep []] (ti) (by kernel_rfl)).lp
  | false =>
   replace h := iteF h
   obtain rfl := si h
   exact (runB_arr mixed [] [] [.live [0, 1, 2, 8, 9, 10], .keep []] (ti) (by kernel_rfl)).lp
def slices_BinarySearchFunc_Slot_Slot_Slot_v2_b2_I (s0 : List (List TSlot)) (s1 : List TSlot) (s8 : Int) (s9 : Int) (s10 : Int) : St := ⟨sp 49 0 [(0, .d ((D.l (D.l TSlot.D)) s0)), (1, .d ((D.l TSlot.D) s1)), (2, .clo (.func 59) [] []), (8, .d ((D.i .i64) s8)), (9, .d ((D.i .i64) s9)), (10, .d ((D.i .i64) s10))], [], []⟩
def slices_BinarySearchFunc_Slot_Slot_Slot_v2_b2_O (s0 : List (List TSlot)) (s1 : List TSlot) (s8 : Int) (s9 : Int) (s10 : Int) (o : (Int × Int)) : Ex × St := (.normal, ⟨sp 49 0 [(0, .d ((D.l (D.l TSlot.D)) s0)), (1, .d ((D.l TSlot.D) s1)), (2, .clo (.func 59) [] []), (8, .d ((D.i .i64) s8)), (9, .d ((D.i .i64) o.1)), (10, .d ((D.i .i64) o.2))], [], []⟩)
theorem slices_BinarySearchFunc_Slot_Slot_Slot_v2_b2_ok (rd : Option Nat) (s0 : List (List TSlot)) (s1 : List TSlot) (s8 : Int) (s9 : Int) (s10 : Int) (o : (Int × Int)) (h : slices_BinarySearchFunc_Slot_Slot_Slot_v2_b2 s0 s1 s8 s9 s10 = some o) : LpOf Try.prog rd (fbody Try.prog 56) [1, 0, 0, 0, 1, 1, 1] (slices_BinarySearchFunc_Slot_Slot_Slot_v2_b2_I s0 s1 s8 s9 s10) (slices_BinarySearchFunc_Slot_Slot_Slot_v2_b2_O s0 s1 s8 s9 s10 o).1 (slices_BinarySearchFunc_Slot_Slot_Slot_v2_b2_O s0 s1 s8 s9 s10 o).2 := by
  unfold slices_BinarySearchFunc_Slot_Slot_Slot_v2_b2 at h
  obtain ⟨x1, h2, h⟩ := xS h
  obtain ⟨r2, h3, h⟩ := bS h
  obtain ⟨o3, h5, h⟩ := bS h
  obtain rfl := si h
  exact (runB_arr mixed [(27, .el ((D.l TSlot.D) x1)), (30, .ret (.d ((D.i .i64) r2)))] [⟨[1, 1, 0, 1, 0, 0, 0, 1, 1, 1], [.live [0, 1, 2, 8, 9, 10, 11, 31], .keep []], .normal, (slices_BinarySearchFunc_Slot_Slot_Slot_v2_b3_O s0 s1 s8 s9 s10 (IntKind.wrap .i64 (intVal .shr .u64 (IntKind.wrap .u64 (intVal .add .i64 s9 s10)) 1)) (decide (r2 < 0)) o3).2⟩] [.live [0, 1, 2, 8, 9, 10], .keep []] (ai (of_decide_eq_true rfl : (0 : Int) ≤ 1) (ai (elem_map (D.l TSlot.D) h2) (ai (match_Binds_1_ok x1 s1 r2 h3) (ai (slices_BinarySearchFunc_Slot_Slot_Slot_v2_b3_ok rd s0 s1 s8 s9 s10 (IntKind.wrap .i64 (intVal .shr .u64 (IntKind.wrap .u64 (intVal .add .i64 s9 s10)) 1)) (decide (r2 < 0)) o3 h5) (ti))))) (by kernel_rfl)).lp
def slices_BinarySearchFunc_Slot_Slot_Slot_v2_l1_I (s0 : List (List TSlot)) (s1 : List TSlot) (s8 : Int) (s9 : Int) (s10 : Int) : St := ⟨sp 49 0 [(0, .d ((D.l (D.l TSlot.D)) s0)), (1, .d ((D.l TSlot.D) s1)), (2, .clo (.func 59) [] []), (8, .d ((D.i .i64) s8)), (9, .d ((D.i .i64) s9)), (10, .d ((D.i .i64) s10))], [], []⟩
def slices_BinarySearchFunc_Slot_Slot_Slot_v2_l1_O (s0 : List (List TSlot)) (s1 : List TSlot) (s8 : Int) (o : Int) : Ex × St := (.exit 0, ⟨sp 49 0 [(0, .d ((D.l (D.l TSlot.D)) s0)), (1, .d ((D.l TSlot.D) s1)), (2, .clo (.func 59) [] []), (8, .d ((D.i .i64) s8)), (9, .d ((D.i .i64) o))], [], []⟩)
theorem slices_BinarySearchFunc_Slot_Slot_Slot_v2_l1_rnd (rd : Option Nat) (s0 : List (List TSlot)) (s1 : List TSlot) (s8 : Int) (s9 : Int) (s10 : Int) (o : (Int × Int) ⊕ (Int)) (h : slices_BinarySearchFunc_Slot_Slot_Slot_v2_l1_s s0 s1 s8 s9 s10 = some o) : Arr Try.prog rd (fbody Try.prog 56) (0 :: [0, 0, 1, 1, 1]) (slices_BinarySearchFunc_Slot_Slot_Slot_v2_l1_I s0 s1 s8 s9 s10) (rR (fun s : Int × Int => slices_BinarySearchFunc_Slot_Slot_Slot_v2_l1_I s0 s1 s8 s.1 s.2) (slices_BinarySearchFunc_Slot_Slot_Slot_v2_l1_O s0 s1 s8) o).1 (rR (fun s : Int × Int => slices_BinarySearchFunc_Slot_Slot_Slot_v2_l1_I s0 s1 s8 s.1 s.2) (slices_BinarySearchFunc_Slot_Slot_Slot_v2_l1_O s0 s1 s8) o).2 := by
  unfold slices_BinarySearchFunc_Slot_Slot_Slot_v2_l1_s at h
  rcases iS h with ⟨h1, h⟩ | ⟨h1, h⟩
  ·
   obtain ⟨o4, h6, h⟩ := bS h
   obtain rfl := si h
   exact runB_arr mixed [(17, .bit true)] [⟨[1, 0, 0, 0, 1, 1, 1], [.live [0, 1, 2, 8, 9, 10], .keep []], .normal, (slices_BinarySearchFunc_Slot_Slot_Slot_v2_b2_O s0 s1 s8 s9 s10 o4).2⟩] [.live [0, 1, 2, 8, 9, 10], .keep []] (ai h1 (ai (slices_BinarySearchFunc_Slot_Slot_Slot_v2_b2_ok rd s0 s1 s8 s9 s10 o4 h6) (ti))) (by kernel_rfl)
  ·
   obtain rfl := si h
   exact runB_arr mixed [(17, .bit false)] [] [.live [0, 1, 2, 8, 9], .keep []] (ai h1 (ti)) (by kernel_rfl)
theorem slices_BinarySearchFunc_Slot_Slot_Slot_v2_l1_ok (rd : Option Nat) (s0 : List (List TSlot)) (s1 : List TSlot) (s8 : Int) (s9 : Int) (s10 : Int) (t : Int) (h : slices_BinarySearchFunc_Slot_Slot_Slot_v2_l1 s0 s1 s8 s9 s10 = some t) : LpOf Try.prog rd (fbody Try.prog 56) [0, 0, 1, 1, 1] (slices_BinarySearchFunc_Slot_Slot_Slot_v2_l1_I s0 s1 s8 s9 s10) ((slices_BinarySearchFunc_Slot_Slot_Slot_v2_l1_O s0 s1 s8) t).1 ((slices_BinarySearchFunc_Slot_Slot_Slot_v2_l1_O s0 s1 s8) t).2 :=
  loopE_lpR (fun s : Int × Int => slices_BinarySearchFunc_Slot_Slot_Slot_v2_l1_I s0 s1 s8 s.1 s.2) (slices_BinarySearchFunc_Slot_Slot_Slot_v2_l1_O s0 s1 s8) (by kernel_rfl) (fun t => isN_ne (by rfl)) (fun s o h => slices_BinarySearchFunc_Slot_Slot_Slot_v2_l1_rnd rd s0 s1 s8 s.1 s.2 o h) (s := (s9, s10)) (t := t) h
theorem slices_BinarySearchFunc_Slot_Slot_Slot_v2_ok (a0 : List (List TSlot)) (a1 : List TSlot) (r : Int × Bool) (h : slices_BinarySearchFunc_Slot_Slot_Slot_v2 a0 a1 = some r) : ACall Try.prog 56 [.d ((D.l (D.l TSlot.D)) a0), .d ((D.l TSlot.D) a1), .clo (.func 59) [] []] [] (.tup [.d ((D.i .i64) r.1), .d (D.b r.2)]) [] := by
  unfold slices_BinarySearchFunc_Slot_Slot_Slot_v2 at h
  obtain ⟨o5, h7, h⟩ := bS h
  rcases iS h with ⟨h8, h⟩ | ⟨h8, h⟩
  ·
   obtain ⟨x6, h9, h⟩ := xS h
   obtain ⟨r7, h10, h⟩ := bS h
   obtain rfl := si h
   exact runF_call mixed [(13, .int (a0.length : Int)), (39, .bit true), (43, .el ((D.l TSlot.D) x6)), (46, .ret (.d ((D.i .i64) r7)))] [⟨[0, 0, 1, 1, 1], [.live [0, 1, 2, 8, 9, 10], .keep []], .exit 0, (slices_BinarySearchFunc_Slot_Slot_Slot_v2_l1_O a0 a1 (a0.length : Int) o5).2⟩] [] (ai (len_map (D.l TSlot.D) a0) (ai (slices_BinarySearchFunc_Slot_Slot_Slot_v2_l1_ok none a0 a1 (a0.length : Int) 0 (a0.length : Int) o5 h7) (ai h8 (ai (elem_map (D.l TSlot.D) h9) (ai (match_Binds_1_ok x6 a1 r7 h10) (ti)))))) (by kernel_rfl)
  ·
   obtain rfl := si h
   exact runF_call mixed [(13, .int (a0.length : Int)), (39, .bit false)] [⟨[0, 0, 1, 1, 1], [.live [0, 1, 2, 8, 9, 10], .keep []], .exit 0, (slices_BinarySearchFunc_Slot_Slot_Slot_v2_l1_O a0 a1 (a0.length : Int) o5).2⟩] [] (ai (len_map (D.l TSlot.D) a0) (ai (slices_BinarySearchFunc_Slot_Slot_Slot_v2_l1_ok none a0 a1 (a0.length : Int) 0 (a0.length : Int) o5 h7) (ai h8 (ti)))) (by kernel_rfl)
def match_Binds_b5_I (s6 : Int) (s8 : List THit) (s9 : Int) (s10 : Int) (s22 : Bool) (w3 : List (List TSlot)) (w5 : THit) : St := ⟨sp 31 0 [(3, .row 3), (5, .box 5 0), (6, .d ((D.i .i64) s6)), (8, .d ((D.l THit.D) s8)), (9, .d ((D.i .i64) s9)), (10, .d ((D.i .i64) s10)), (22, .d (D.b s22))], [(3, .rw 23 1 (w3.map (D.l TSlot.D))), (5, .cells ((cellsA (THit.D w5))))], []⟩
def match_Binds_b5_O (s6 : Int) (s8 : List THit) (s9 : Int) (s10 : Int) (s22 : Bool) (w3 : List (List TSlot)) (w5 : THit) (o : (List (List TSlot))) : Ex × St := (.normal, ⟨sp 31 0 [(3, .row 3), (8, .d ((D.l THit.D) s8)), (9, .d ((D.i .i64) s9)), (10, .d ((D.i .i64) s10))], [(3, .rw 23 1 (o.map (D.l TSlot.D)))], []⟩)
theorem match_Binds_b5_ok (rd : Option Nat) (s6 : Int) (s8 : List THit) (s9 : Int) (s10 : Int) (s22 : Bool) (w3 : List (List TSlot)) (w5 : THit) (o : (List (List TSlot))) (h : match_Binds_b5 s6 s8 s9 s10 s22 w3 w5 = some o) : LpOf Try.prog rd (fbody Try.prog 37) [1, 1, 1, 0, 0, 1, 1, 0, 0, 1, 0, 1, 1] (match_Binds_b5_I s6 s8 s9 s10 s22 w3 w5) (match_Binds_b5_O s6 s8 s9 s10 s22 w3 w5 o).1 (match_Binds_b5_O s6 s8 s9 s10 s22 w3 w5 o).2 := by
  unfold match_Binds_b5 at h
  cases s22 with
  | true =>
   replace h := iteT h
   obtain ⟨r8, h12, h⟩ := bS h
   obtain rfl := si h
   exact (runB_arr mixed [(28, .cx true [(0, 3), (1, 27)] [(2, 28)] (.row 2) [(2, .rw 23 1 (r8.map (D.l TSlot.D)))])] [] [.live [3, 8, 9, 10], .keep [28], .ren 28 3, .sort] (ai (nc_ok (D.l TSlot.D) [w5.bind]) (ai (slices_Insert_Slot_Slot_v2_ok s6 w3 [w5.bind] r8 h12) (ti))) (by kernel_rfl)).lp
  | false =>
   replace h := iteF h
   obtain rfl := si h
   exact (runB_arr mixed [] [] [.live [3, 8, 9, 10], .keep [3]] (ti) (by kernel_rfl)).lp
def match_Binds_b4_I (s8 : List THit) (s9 : Int) (s10 : Int) (w3 : List (List TSlot)) : St := ⟨sp 31 0 [(3, .row 3), (8, .d ((D.l THit.D) s8)), (9, .d ((D.i .i64) s9)), (10, .d ((D.i .i64) s10))], [(3, .rw 23 1 (w3.map (D.l TSlot.D)))], []⟩
def match_Binds_b4_O (s8 : List THit) (s9 : Int) (s10 : Int) (w3 : List (List TSlot)) (o : (List (List TSlot))) : Ex × St := (.normal, ⟨sp 31 0 [(3, .row 3), (8, .d ((D.l THit.D) s8)), (9, .d ((D.i .i64) s9)), (10, .d ((D.i .i64) s10))], [(3, .rw 23 1 (o.map (D.l TSlot.D)))], []⟩)
theorem match_Binds_b4_ok (rd : Option Nat) (s8 : List THit) (s9 : Int) (s10 : Int) (w3 : List (List TSlot)) (o : (List (List TSlot))) (h : match_Binds_b4 s8 s9 s10 w3 = some o) : LpOf Try.prog rd (fbody Try.prog 37) [0, 1, 1, 0, 0, 1, 0, 1, 1] (match_Binds_b4_I s8 s9 s10 w3) (match_Binds_b4_O s8 s9 s10 w3 o).1 (match_Binds_b4_O s8 s9 s10 w3 o).2 := by
  unfold match_Binds_b4 at h
  obtain ⟨x6, h9, h⟩ := xS h
  obtain ⟨r7, h10, h⟩ := bS h
  obtain ⟨o9, h13, h⟩ := bS h
  obtain rfl := si h
  exact (runB_arr mixed [(12, .el (THit.D x6)), (18, .lend [3] (.tup [.d ((D.i .i64) r7.1), .d (D.b r7.2)]))] [⟨[1, 1, 1, 0, 0, 1, 1, 0, 0, 1, 0, 1, 1], [.live [3, 5, 6, 8, 9, 10, 22], .keep [3, 5]], .normal, (match_Binds_b5_O r7.1 s8 s9 s10 (!r7.2) w3 x6 o9).2⟩] [.live [3, 8, 9, 10], .keep [3]] (ai (elem_map THit.D h9) (ai (slices_BinarySearchFunc_Slot_Slot_Slot_v2_ok w3 x6.bind r7 h10) (ai (match_Binds_b5_ok rd r7.1 s8 s9 s10 (!r7.2) w3 x6 o9 h13) (ti)))) (by kernel_rfl)).lp
def match_Binds_l1_I (s8 : List THit) (s9 : Int) (s10 : Int) (w3 : List (List TSlot)) : St := ⟨sp 31 0 [(3, .row 3), (8, .d ((D.l THit.D) s8)), (9, .d ((D.i .i64) s9)), (10, .d ((D.i .i64) s10))], [(3, .rw 23 1 (w3.map (D.l TSlot.D)))], []⟩
def match_Binds_l1_O (s8 : List THit) (s9 : Int) (o : (List (List TSlot))) : Ex × St := (.exit 0, ⟨sp 31 0 [(3, .row 3)], [(3, .rw 23 1 (o.map (D.l TSlot.D)))], []⟩)
theorem match_Binds_l1_rnd (rd : Option Nat) (s8 : List THit) (s9 : Int) (s10 : Int) (w3 : List (List TSlot)) (o : (Int × List (List TSlot)) ⊕ ((List (List TSlot)))) (h : match_Binds_l1_s s8 s9 s10 w3 = some o) : Arr Try.prog rd (fbody Try.prog 37) (0 :: [0, 1, 0, 1, 1]) (match_Binds_l1_I s8 s9 s10 w3) (rR (fun s : Int × List (List TSlot) => match_Binds_l1_I s8 s9 s.1 s.2) (match_Binds_l1_O s8 s9) o).1 (rR (fun s : Int × List (List TSlot) => match_Binds_l1_I s8 s9 s.1 s.2) (match_Binds_l1_O s8 s9) o).2 := by
  unfold match_Binds_l1_s at h
  rcases iS h with ⟨h8, h⟩ | ⟨h8, h⟩
  ·
   obtain ⟨o10, h14, h⟩ := bS h
   obtain rfl := si h
   exact runB_arr mixed [(11, .bit true)] [⟨[0, 1, 1, 0, 0, 1, 0, 1, 1], [.live [3, 8, 9, 10], .keep [3]], .normal, (match_Binds_b4_O s8 s9 s10 w3 o10).2⟩] [.live [3, 8, 9, 10], .keep [3]] (ai h8 (ai (match_Binds_b4_ok rd s8 s9 s10 w3 o10 h14) (ti))) (by kernel_rfl)
  ·
   obtain rfl := si h
   exact runB_arr mixed [(11, .bit false)] [] [.live [3], .keep [3]] (ai h8 (ti)) (by kernel_rfl)
theorem match_Binds_l1_ok (rd : Option Nat) (s8 : List THit) (s9 : Int) (s10 : Int) (w3 : List (List TSlot)) (t : (List (List TSlot))) (h : match_Binds_l1 s8 s9 s10 w3 = some t) : LpOf Try.prog rd (fbody Try.prog 37) [0, 1, 0, 1, 1] (match_Binds_l1_I s8 s9 s10 w3) ((match_Binds_l1_O s8 s9) t).1 ((match_Binds_l1_O s8 s9) t).2 :=
  loopE_lpR (fun s : Int × List (List TSlot) => match_Binds_l1_I s8 s9 s.1 s.2) (match_Binds_l1_O s8 s9) (by kernel_rfl) (fun t => isN_ne (by rfl)) (fun s o h => match_Binds_l1_rnd rd s8 s9 s.1 s.2 o h) (s := (s10, w3)) (t := t) h
theorem match_Binds_ok (a0 : List THit) (r : List (List TSlot)) (h : match_Binds a0 = some r) : ACall Try.prog 37 [.d ((D.l THit.D) a0)] [] (.d ((D.l (D.l TSlot.D)) r)) [] := by
  unfold match_Binds at h
  obtain ⟨o11, h15, h⟩ := bS h
  obtain rfl := si h
  exact runF_call mixed [(9, .int (a0.length : Int))] [⟨[0, 1, 0, 1, 1], [.live [3, 8, 9, 10], .keep [], .nilw 3 3 23 1, .sort], .exit 0, (match_Binds_l1_O a0 (a0.length : Int) o11).2⟩] [.frz 3] (ai (len_map THit.D a0) (ai (match_Binds_l1_ok none a0 (a0.length : Int) 0 ([] : List (List TSlot)) o11 h15) (ti))) (by kernel_rfl)
theorem slices_Clone_Slot_Slot_ok (l r : List (List TSlot)) (h : slices_Clone_Slot_Slot l = some r) : ACall Try.prog 63 [.row 0] [(0, .rw 23 1 (l.map (D.l TSlot.D)))] (.d (D.l (D.l TSlot.D) r)) [(0, .rw 23 1 (l.map (D.l TSlot.D)))] :=
  cloneE_k (ρ := ⟨fun _ => 63, fun n => if n = 4 then 4 else if n = 22 then 22 else 23, id⟩) (by_ := 24) (D.l TSlot.D) rfl rfl (cloneL mixed ⟨ "slices.Clone[[][]proctor/api.Slot,[]proctor/api.Slot]", by decide, (Try.func63).trans (by kernel_rfl)⟩ Try.underlying4 Try.underlying22 (by kernel_rfl) (by kernel_rfl) (by kernel_rfl) (by kernel_rfl)) (by kernel_rfl) (by decide) l r h
theorem domain_Set_Slot_All_ok (w1 : List (List TSlot)) (r : List (List TSlot) × List (List TSlot)) (h : domain_Set_Slot_All w1 = some r) : ACall Try.prog 40 [.box 0 0] [(0, .cells ([.row 1, .clo (.func 35) [] []])), (1, .rw 23 1 (w1.map (D.l TSlot.D)))] (.d ((D.l (D.l TSlot.D)) r.1)) [(0, .cells ([.row 2, .clo (.func 35) [] []])), (2, .rw 23 1 (r.2.map (D.l TSlot.D)))] := by
  unfold domain_Set_Slot_All at h
  obtain ⟨r1, h1, h⟩ := bS h
  obtain rfl := si h
  exact runX_call mixed (fun us => [(9, .cx true [(0, 1)] [] (.d ((D.l (D.l TSlot.D)) r1)) [(0, .rw 23 1 (w1.map (D.l TSlot.D)))])]) (fun us => []) [.live [2], .keep [0, 1, 997], .ren 1 2, .sort] [0] (fun us => ai (slices_Clone_Slot_Slot_ok w1 r1 h1) (ti)) (by kernel_rfl)
theorem slices_Clone_Slot_Slot_v2_ok (l r : List (List TSlot)) (h : slices_Clone_Slot_Slot_v2 l = some r) : ACall Try.prog 63 [.d (D.l (D.l TSlot.D) l)] [] (.d (D.l (D.l TSlot.D) r)) [] :=
  cloneE_d (ρ := ⟨fun _ => 63, fun n => if n = 4 then 4 else if n = 22 then 22 else 23, id⟩) (by_ := 24) (D.l TSlot.D) rfl (cloneL mixed ⟨ "slices.Clone[[][]proctor/api.Slot,[]proctor/api.Slot]", by decide, (Try.func63).trans (by kernel_rfl)⟩ Try.underlying4 Try.underlying22 (by kernel_rfl) (by kernel_rfl) (by kernel_rfl) (by kernel_rfl)) (by kernel_rfl) (by decide) l r h
theorem domain_Set_Slot_All_v2_ok (r : List (List TSlot)) (h : domain_Set_Slot_All_v2 = some r) : ACall Try.prog 40 [.box 0 0] [(0, .cells ([.nil, .clo (.func 35) [] []]))] (.d ((D.l (D.l TSlot.D)) r)) [(0, .cells ([.nil, .clo (.func 35) [] []]))] := by
  unfold domain_Set_Slot_All_v2 at h
  obtain ⟨r1, h1, h⟩ := bS h
  obtain rfl := si h
  exact runX_call mixed (fun us => [(9, .ret (.d ((D.l (D.l TSlot.D)) r1)))]) (fun us => []) [.live [2], .keep [0, 997]] [0] (fun us => ai (slices_Clone_Slot_Slot_v2_ok ([] : List (List TSlot)) r1 h1) (ti)) (by kernel_rfl)
theorem slices_Grow_Slot_Slot_ok (n : Int) (r : List (List TSlot)) (h : slices_Grow_Slot_Slot n = some r) : ACall Try.prog 62 [.nil, .d (D.i .i64 n)] [] (.row 0) [(0, .rw 23 1 (r.map (D.l TSlot.D)))] :=
  growE_ok (ρ := ⟨fun _ => 62, fun n => if n = 0 then 0 else if n = 3 then 3 else if n = 4 then 4 else if n = 9 then 9 else if n = 20 then 20 else if n = 22 then 22 else 23, id⟩) (by_ := 24) (D.l TSlot.D) rfl rfl (growL mixed ⟨ "slices.Grow[[][]proctor/api.Slot,[]proctor/api.Slot]", by decide, (Try.func62).trans (by kernel_rfl)⟩ Try.underlying0 Try.underlying3 Try.underlying4 Try.underlying9 Try.underlying20 Try.underlying22 (by kernel_rfl) (by kernel_rfl) (by kernel_rfl) (by kernel_rfl) (by kernel_rfl) (by kernel_rfl) (by kernel_rfl) (by kernel_rfl) (by kernel_rfl) (by kernel_rfl) (by kernel_rfl) (by kernel_rfl)) (by kernel_rfl) (by decide) n r h
def slices_Concat_Slot_Slot_b3_I (s0 : List (List (List TSlot))) (s3 : Int) (s9 : List (List (List TSlot))) (s10 : Int) (s11 : Int) (s20 : Bool) : St := ⟨sp 36 0 [(0, .d ((D.l (D.l (D.l TSlot.D))) s0)), (3, .d ((D.i .i64) s3)), (9, .d ((D.l (D.l (D.l TSlot.D))) s9)), (10, .d ((D.i .i64) s10)), (11, .d ((D.i .i64) s11)), (20, .d (D.b s20))], [], []⟩
def slices_Concat_Slot_Slot_b3_O (s0 : List (List (List TSlot))) (s3 : Int) (s9 : List (List (List TSlot))) (s10 : Int) (s11 : Int) (s20 : Bool) (o : Unit) : Ex × St := (.normal, ⟨sp 36 0 [(0, .d ((D.l (D.l (D.l TSlot.D))) s0)), (3, .d ((D.i .i64) s3)), (9, .d ((D.l (D.l (D.l TSlot.D))) s9)), (10, .d ((D.i .i64) s10)), (11, .d ((D.i .i64) s11))], [], []⟩)
theorem slices_Concat_Slot_Slot_b3_ok (rd : Option Nat) (s0 : List (List (List TSlot))) (s3 : Int) (s9 : List (List (List TSlot))) (s10 : Int) (s11 : Int) (s20 : Bool) (o : Unit) (h : slices_Concat_Slot_Slot_b3 s0 s3 s9 s10 s11 s20 = some o) : LpOf Try.prog rd (fbody Try.prog 39) [1, 1, 1, 0, 0, 1, 1, 0, 0, 1, 0, 1, 1] (slices_Concat_Slot_Slot_b3_I s0 s3 s9 s10 s11 s20) (slices_Concat_Slot_Slot_b3_O s0 s3 s9 s10 s11 s20 o).1 (slices_Concat_Slot_Slot_b3_O s0 s3 s9 s10 s11 s20 o).2 := by
  unfold slices_Concat_Slot_Slot_b3 at h
  cases s20 with
  | true =>
   replace h := iteT h
   cases h
  | false =>
   replace h := iteF h
   obtain rfl := si h
   exact (runB_arr mixed [] [] [.live [0, 3, 9, 10, 11], .keep []] (ti) (by kernel_rfl)).lp
def slices_Concat_Slot_Slot_b2_I (s0 : List (List (List TSlot))) (s3 : Int) (s9 : List (List (List TSlot))) (s10 : Int) (s11 : Int) : St := ⟨sp 36 0 [(0, .d ((D.l (D.l (D.l TSlot.D))) s0)), (3, .d ((D.i .i64) s3)), (9, .d ((D.l (D.l (D.l TSlot.D))) s9)), (10, .d ((D.i .i64) s10)), (11, .d ((D.i .i64) s11))], [], []⟩
def slices_Concat_Slot_Slot_b2_O (s0 : List (List (List TSlot))) (s3 : Int) (s9 : List (List (List TSlot))) (s10 : Int) (s11 : Int) (o : Int) : Ex × St := (.normal, ⟨sp 36 0 [(0, .d ((D.l (D.l (D.l TSlot.D))) s0)), (3, .d ((D.i .i64) o)), (9, .d ((D.l (D.l (D.l TSlot.D))) s9)), (10, .d ((D.i .i64) s10)), (11, .d ((D.i .i64) s11))], [], []⟩)
theorem slices_Concat_Slot_Slot_b2_ok (rd : Option Nat) (s0 : List (List (List TSlot))) (s3 : Int) (s9 : List (List (List TSlot))) (s10 : Int) (s11 : Int) (o : Int) (h : slices_Concat_Slot_Slot_b2 s0 s3 s9 s10 s11 = some o) : LpOf Try.prog rd (fbody Try.prog 39) [0, 1, 1, 0, 0, 1, 0, 1, 1] (slices_Concat_Slot_Slot_b2_I s0 s3 s9 s10 s11) (slices_Concat_Slot_Slot_b2_O s0 s3 s9 s10 s11 o).1 (slices_Concat_Slot_Slot_b2_O s0 s3 s9 s10 s11 o).2 := by
  unfold slices_Concat_Slot_Slot_b2 at h
  obtain ⟨x1, h2, h⟩ := xS h
  obtain ⟨o2, h4, h⟩ := bS h
  obtain rfl := si h
  exact (runB_arr mixed [(13, .el ((D.l (D.l TSlot.D)) x1)), (17, .int (x1.length : Int))] [⟨[1, 1, 1, 0, 0, 1, 1, 0, 0, 1, 0, 1, 1], [.live [0, 3, 9, 10, 11, 20], .keep []], .normal, (slices_Concat_Slot_Slot_b3_O s0 (intVal .add .i64 s3 (x1.length : Int)) s9 s10 s11 (decide ((intVal .add .i64 s3 (x1.length : Int)) < 0)) o2).2⟩] [.live [0, 3, 9, 10, 11], .keep []] (ai (elem_map (D.l (D.l TSlot.D)) h2) (ai (len_map (D.l TSlot.D) x1) (ai (slices_Concat_Slot_Slot_b3_ok rd s0 (intVal .add .i64 s3 (x1.length : Int)) s9 s10 s11 (decide ((intVal .add .i64 s3 (x1.length : Int)) < 0)) o2 h4) (ti)))) (by kernel_rfl)).lp
def slices_Concat_Slot_Slot_l1_I (s0 : List (List (List TSlot))) (s9 : List (List (List TSlot))) (s10 : Int) (s3 : Int) (s11 : Int) : St := ⟨sp 36 0 [(0, .d ((D.l (D.l (D.l TSlot.D))) s0)), (3, .d ((D.i .i64) s3)), (9, .d ((D.l (D.l (D.l TSlot.D))) s9)), (10, .d ((D.i .i64) s10)), (11, .d ((D.i .i64) s11))], [], []⟩
def slices_Concat_Slot_Slot_l1_O (s0 : List (List (List TSlot))) (s9 : List (List (List TSlot))) (s10 : Int) (o : Int) : Ex × St := (.exit 0, ⟨sp 36 0 [(0, .d ((D.l (D.l (D.l TSlot.D))) s0)), (3, .d ((D.i .i64) o))], [], []⟩)
theorem slices_Concat_Slot_Slot_l1_rnd (rd : Option Nat) (s0 : List (List (List TSlot))) (s9 : List (List (List TSlot))) (s10 : Int) (s3 : Int) (s11 : Int) (o : (Int × Int) ⊕ (Int)) (h : slices_Concat_Slot_Slot_l1_s s0 s9 s10 s3 s11 = some o) : Arr Try.prog rd (fbody Try.prog 39) (0 :: [0, 1, 0, 1, 1]) (slices_Concat_Slot_Slot_l1_I s0 s9 s10 s3 s11) (rR (fun s : Int × Int => slices_Concat_Slot_Slot_l1_I s0 s9 s10 s.1 s.2) (slices_Concat_Slot_Slot_l1_O s0 s9 s10) o).1 (rR (fun s : Int × Int => slices_Concat_Slot_Slot_l1_I s0 s9 s10 s.1 s.2) (slices_Concat_Slot_Slot_l1_O s0 s9 s10) o).2 := by
  unfold slices_Concat_Slot_Slot_l1_s at h
  rcases iS h with ⟨h1, h⟩ | ⟨h1, h⟩
  ·
   obtain ⟨o3, h5, h⟩ := bS h
   obtain rfl := si h
   exact runB_arr mixed [(12, .bit true)] [⟨[0, 1, 1, 0, 0, 1, 0, 1, 1], [.live [0, 3, 9, 10, 11], .keep []], .normal, (slices_Concat_Slot_Slot_b2_O s0 s3 s9 s10 s11 o3).2⟩] [.live [0, 3, 9, 10, 11], .keep []] (ai h1 (ai (slices_Concat_Slot_Slot_b2_ok rd s0 s3 s9 s10 s11 o3 h5) (ti))) (by kernel_rfl)
  ·
   obtain rfl := si h
   exact runB_arr mixed [(12, .bit false)] [] [.live [0, 3], .keep []] (ai h1 (ti)) (by kernel_rfl)
theorem slices_Concat_Slot_Slot_l1_ok (rd : Option Nat) (s0 : List (List (List TSlot))) (s9 : List (List (List TSlot))) (s10 : Int) (s3 : Int) (s11 : Int) (t : Int) (h : slices_Concat_Slot_Slot_l1 s0 s9 s10 s3 s11 = some t) : LpOf Try.prog rd (fbody Try.prog 39) [0, 1, 0, 1, 1] (slices_Concat_Slot_Slot_l1_I s0 s9 s10 s3 s11) ((slices_Concat_Slot_Slot_l1_O s0 s9 s10) t).1 ((slices_Concat_Slot_Slot_l1_O s0 s9 s10) t).2 :=
  loopE_lpR (fun s : Int × Int => slices_Concat_Slot_Slot_l1_I s0 s9 s10 s.1 s.2) (slices_Concat_Slot_Slot_l1_O s0 s9 s10) (by kernel_rfl) (fun t => isN_ne (by rfl)) (fun s o h => slices_Concat_Slot_Slot_l1_rnd rd s0 s9 s10 s.1 s.2 o h) (s := (s3, s11)) (t := t) h
def slices_Concat_Slot_Slot_l4_I (s25 : List (List (List TSlot))) (s26 : Int) (s27 : Int) (w6 : List (List TSlot)) : St := ⟨sp 36 0 [(6, .row 6), (25, .d ((D.l (D.l (D.l TSlot.D))) s25)), (26, .d ((D.i .i64) s26)), (27, .d ((D.i .i64) s27))], [(6, .rw 23 1 (w6.map (D.l TSlot.D)))], []⟩
def slices_Concat_Slot_Slot_l4_O (s25 : List (List (List TSlot))) (s26 : Int) (o : (List (List TSlot))) : Ex × St := (.exit 2, ⟨sp 36 0 [(6, .row 6)], [(6, .rw 23 1 (o.map (D.l TSlot.D)))], []⟩)
theorem slices_Concat_Slot_Slot_l4_rnd (rd : Option Nat) (s25 : List (List (List TSlot))) (s26 : Int) (s27 : Int) (w6 : List (List TSlot)) (o : (Int × List (List TSlot)) ⊕ ((List (List TSlot)))) (h : slices_Concat_Slot_Slot_l4_s s25 s26 s27 w6 = some o) : Arr Try.prog rd (fbody Try.prog 39) (0 :: [0, 1, 0, 1, 1, 1, 1]) (slices_Concat_Slot_Slot_l4_I s25 s26 s27 w6) (rR (fun s : Int × List (List TSlot) => slices_Concat_Slot_Slot_l4_I s25 s26 s.1 s.2) (slices_Concat_Slot_Slot_l4_O s25 s26) o).1 (rR (fun s : Int × List (List TSlot) => slices_Concat_Slot_Slot_l4_I s25 s26 s.1 s.2) (slices_Concat_Slot_Slot_l4_O s25 s26) o).2 := by
  unfold slices_Concat_Slot_Slot_l4_s at h
  rcases iS h with ⟨h8, h⟩ | ⟨h8, h⟩
  ·
   obtain ⟨x6, h9, h⟩ := xS h
   obtain ⟨h10, h⟩ := cS h
   obtain rfl := si h
   exact runB_arr mixed [(28, .bit true), (29, .el ((D.l (D.l TSlot.D)) x6)), (33, .rwl ((w6 ++ x6).map (D.l TSlot.D)))] [] [.live [6, 25, 26, 27], .keep [33], .ren 33 6, .sort] (ai h8 (ai (elem_map (D.l (D.l TSlot.D)) h9) (ai (nc_ok (D.l TSlot.D) x6) (ai (fit_map (D.l TSlot.D) h10) (ai (app_map (D.l TSlot.D) w6 x6) (ti)))))) (by kernel_rfl)
  ·
   obtain rfl := si h
   exact runB_arr mixed [(28, .bit false)] [] [.live [6], .keep [6]] (ai h8 (ti)) (by kernel_rfl)
theorem slices_Concat_Slot_Slot_l4_ok (rd : Option Nat) (s25 : List (List (List TSlot))) (s26 : Int) (s27 : Int) (w6 : List (List TSlot)) (t : (List (List TSlot))) (h : slices_Concat_Slot_Slot_l4 s25 s26 s27 w6 = some t) : LpOf Try.prog rd (fbody Try.prog 39) [0, 1, 0, 1, 1, 1, 1] (slices_Concat_Slot_Slot_l4_I s25 s26 s27 w6) ((slices_Concat_Slot_Slot_l4_O s25 s26) t).1 ((slices_Concat_Slot_Slot_l4_O s25 s26) t).2 :=
  loopE_lpR (fun s : Int × List (List TSlot) => slices_Concat_Slot_Slot_l4_I s25 s26 s.1 s.2) (slices_Concat_Slot_Slot_l4_O s25 s26) (by kernel_rfl) (fun t => isN_ne (by rfl)) (fun s o h => slices_Concat_Slot_Slot_l4_rnd rd s25 s26 s.1 s.2 o h) (s := (s27, w6)) (t := t) h
theorem slices_Concat_Slot_Slot_ok (a0 : List (List (List TSlot))) (r : List (List TSlot)) (h : slices_Concat_Slot_Slot a0 = some r) : ACall Try.prog 39 [.d ((D.l (D.l (D.l TSlot.D))) a0)] [] (.d ((D.l (D.l TSlot.D)) r)) [] := by
  unfold slices_Concat_Slot_Slot at h
  obtain ⟨o4, h6, h⟩ := bS h
  obtain ⟨r5, h7, h⟩ := bS h
  obtain ⟨o7, h11, h⟩ := bS h
  obtain rfl := si h
  exact runF_call mixed [(10, .int (a0.length : Int)), (24, .cx true [] [(0, 24)] (.row 0) [(0, .rw 23 1 (r5.map (D.l TSlot.D)))]), (26, .int (a0.length : Int))] [⟨[0, 1, 0, 1, 1], [.live [0, 3, 9, 10, 11], .keep []], .exit 0, (slices_Concat_Slot_Slot_l1_O a0 a0 (a0.length : Int) o4).2⟩, ⟨[0, 1, 0, 1, 1, 1, 1], [.live [6, 25, 26, 27], .keep [24], .ren 24 6, .sort], .exit 2, (slices_Concat_Slot_Slot_l4_O a0 (a0.length : Int) o7).2⟩] [.frz 6] (ai (len_map (D.l (D.l TSlot.D)) a0) (ai (slices_Concat_Slot_Slot_l1_ok none a0 a0 (a0.length : Int) 0 0 o4 h6) (ai (slices_Grow_Slot_Slot_ok o4 r5 h7) (ai (len_map (D.l (D.l TSlot.D)) a0) (ai (slices_Concat_Slot_Slot_l4_ok none a0 (a0.length : Int) 0 r5 o7 h11) (ti)))))) (by kernel_rfl)
theorem extend_unions_ok (a0 : List (List TSlot)) (a1 : List TSlot) (r : List (List TSlot) × List TSlot) (h : extend_unions a0 a1 = some r) : ACall Try.prog 38 [.d ((D.l (D.l TSlot.D)) a0), .d ((D.l TSlot.D) a1)] [] (.clo (.func 60) [] [.eptr (D.cells ((D.l (D.l TSlot.D)) r.1)), .eptr (D.cells ((D.l TSlot.D) r.2))]) [] := by
  unfold extend_unions at h
  obtain rfl := si h
  exact runF_call mixed [(2, .frz), (3, .frz)] [] [] (ti) (by kernel_rfl)
theorem binding_both_ok (a0 : List TSlot) (a1 : List TSlot) (r : List TSlot × List TSlot) (h : binding_both a0 a1 = some r) : ACall Try.prog 66 [.d ((D.l TSlot.D) a0), .d ((D.l TSlot.D) a1)] [] (.clo (.func 75) [] [.eptr (D.cells ((D.l TSlot.D) r.1)), .eptr (D.cells ((D.l TSlot.D) r.2))]) [] := by
  unfold binding_both at h
  obtain rfl := si h
  exact runF_call mixed [(2, .frz), (3, .frz)] [] [] (ti) (by kernel_rfl)
def binding_Get_l1_I (s1 : Int) (s8 : List TSlot) (s9 : Int) (w4 : TValue) (s10 : Int) : St := ⟨sp 22 0 [(1, .d ((D.i .i64) s1)), (4, .box 4 0), (8, .d ((D.l TSlot.D) s8)), (9, .d ((D.i .i64) s9)), (10, .d ((D.i .i64) s10))], [(4, .cells ((cellsA (TValue.D w4))))], []⟩
def binding_Get_l1_O (s1 : Int) (s8 : List TSlot) (s9 : Int) (w4 : TValue) (o : Unit ⊕ TValue) : Ex × St := match o with
  | .inl o => (.exit 0, ⟨sp 22 0 [(4, .box 4 0)], [(4, .cells ((cellsA (TValue.D w4))))], []⟩)
  | .inr o => (.ret, ⟨sp 22 0 [(4, .box 4 0), (5, .d (D.b true))], [(4, .cells ((cellsA (TValue.D o))))], []⟩)
theorem binding_Get_l1_rnd (rd : Option Nat) (s1 : Int) (s8 : List TSlot) (s9 : Int) (w4 : TValue) (s10 : Int) (o : (Int) ⊕ (Unit ⊕ TValue)) (h : binding_Get_l1_s s1 s8 s9 w4 s10 = some o) : Arr Try.prog rd (fbody Try.prog 76) (0 :: [0, 1, 0, 1]) (binding_Get_l1_I s1 s8 s9 w4 s10) (rR (fun s : Int => binding_Get_l1_I s1 s8 s9 w4 s) (binding_Get_l1_O s1 s8 s9 w4) o).1 (rR (fun s : Int => binding_Get_l1_I s1 s8 s9 w4 s) (binding_Get_l1_O s1 s8 s9 w4) o).2 := by
  unfold binding_Get_l1_s at h
  rcases iS h with ⟨h1, h⟩ | ⟨h1, h⟩
  ·
   obtain ⟨x1, h2, h⟩ := xS h
   rcases iS h with ⟨h3, h⟩ | ⟨h3, h⟩
   ·
    obtain rfl := si h
    exact runB_arr mixed [(11, .bit true), (12, .el (TSlot.D x1)), (17, .bit true)] [] [.live [4, 5], .keep [4]] (ai h1 (ai (elem_map TSlot.D h2) (ai h3 (ti)))) (by kernel_rfl)
   ·
    obtain rfl := si h
    exact runB_arr mixed [(11, .bit true), (12, .el (TSlot.D x1)), (17, .bit false)] [] [.live [1, 4, 8, 9, 10], .keep [4]] (ai h1 (ai (elem_map TSlot.D h2) (ai h3 (ti)))) (by kernel_rfl)
  ·
   obtain rfl := si h
   exact runB_arr mixed [(11, .bit false)] [] [.live [4], .keep [4]] (ai h1 (ti)) (by kernel_rfl)
theorem binding_Get_l1_ok (rd : Option Nat) (s1 : Int) (s8 : List TSlot) (s9 : Int) (w4 : TValue) (s10 : Int) (t : Unit ⊕ TValue) (h : binding_Get_l1 s1 s8 s9 w4 s10 = some t) : LpOf Try.prog rd (fbody Try.prog 76) [0, 1, 0, 1] (binding_Get_l1_I s1 s8 s9 w4 s10) ((binding_Get_l1_O s1 s8 s9 w4) t).1 ((binding_Get_l1_O s1 s8 s9 w4) t).2 :=
  loopE_lpR (fun s : Int => binding_Get_l1_I s1 s8 s9 w4 s) (binding_Get_l1_O s1 s8 s9 w4) (by kernel_rfl) (fun t => isN_ne (by rcases t with (_ | _) <;> rfl)) (fun s o h => binding_Get_l1_rnd rd s1 s8 s9 w4 s o h) (s := s10) (t := t) h
theorem binding_Get_ok (a0 : List TSlot) (a1 : Int) (r : TValue × Bool) (h : binding_Get a0 a1 = some r) : ACall Try.prog 76 [.d ((D.l TSlot.D) a0), .d ((D.i .i64) a1)] [] (.tup [.d (TValue.D r.1), .d (D.b r.2)]) [] := by
  unfold binding_Get at h
  obtain ⟨o2, h4, h⟩ := bS h
  replace h := sumE_some h
  rcases h with ⟨o3, rfl, h⟩ | ⟨o4, rfl, h⟩
  ·
   obtain rfl := si h
   exact runF_call mixed [(9, .int (a0.length : Int))] [⟨[0, 1, 0, 1], [.live [1, 4, 8, 9, 10], .keep [4]], .exit 0, (binding_Get_l1_O a1 a0 (a0.length : Int) (TValue.mk 0 0 ([] : List UInt8) false) (Sum.inl o3)).2⟩] [] (ai (len_map TSlot.D a0) (ai (binding_Get_l1_ok none a1 a0 (a0.length : Int) (TValue.mk 0 0 ([] : List UInt8) false) 0 (Sum.inl o3) h4) (ti))) (by kernel_rfl)
  ·
   obtain rfl := si h
   exact runF_call mixed [(9, .int (a0.length : Int))] [⟨[0, 1, 0, 1], [.live [1, 4, 8, 9, 10], .keep [4]], .ret, (binding_Get_l1_O a1 a0 (a0.length : Int) (TValue.mk 0 0 ([] : List UInt8) false) (Sum.inr o4)).2⟩] [] (ai (len_map TSlot.D a0) (ai (binding_Get_l1_ok none a1 a0 (a0.length : Int) (TValue.mk 0 0 ([] : List UInt8) false) 0 (Sum.inr o4) h4) (ti))) (by kernel_rfl)
def binding_both_1_enc (x : (TSlot × TValue) ⊕ TSlot) : List A := match x with
  | .inl x => [.d (TSlot.D x.1), .eptr (D.cells (TValue.D x.2))]
  | .inr x => [.d (TSlot.D x), .d (.v (.pointer none))]
def binding_both_1_b2_I {φ : Type} (l : Nat) (F : φ → Bx) (f0 : φ) (s2 : List TSlot) (s9 : List TSlot) (s10 : Int) (s11 : Int) : St := ⟨sp 29 0 [(0, .d (.v (.func (.yield l) #[] #[]))), (2, .eptr (D.cells ((D.l TSlot.D) s2))), (9, .d ((D.l TSlot.D) s9)), (10, .d ((D.i .i64) s10)), (11, .d ((D.i .i64) s11))], [], (F f0)⟩
def binding_both_1_b2_O {φ : Type} (l : Nat) (F : φ → Bx) (f0 : φ) (s2 : List TSlot) (s9 : List TSlot) (s10 : Int) (s11 : Int) (o : φ ⊕ φ) : Ex × St := match o with
  | .inl o => (.normal, ⟨sp 29 0 [(0, .d (.v (.func (.yield l) #[] #[]))), (2, .eptr (D.cells ((D.l TSlot.D) s2))), (9, .d ((D.l TSlot.D) s9)), (10, .d ((D.i .i64) s10)), (11, .d ((D.i .i64) s11))], [], (F o)⟩)
  | .inr o => (.ret, ⟨sp 29 0 [], [], (F o)⟩)
theorem binding_both_1_b2_ok (rd : Option Nat) {φ : Type} (step : φ → ((TSlot × TValue) ⊕ TSlot) → Option (φ × Bool)) (l : Nat) (F : φ → Bx) (N : List Nat) (hF : ∀ f, FOk (F f) N) (hY : ∀ f x r, step f x = some r → AYield Try.prog l (binding_both_1_enc x) (F f) (.d (D.b r.2)) (F r.1)) (f0 : φ) (s2 : List TSlot) (s9 : List TSlot) (s10 : Int) (s11 : Int) (o : φ ⊕ φ) (h : binding_both_1_b2 step f0 s2 s9 s10 s11 = some o) : LpOf Try.prog rd (fbody Try.prog 75) [0, 1, 1, 0, 0, 1] (binding_both_1_b2_I l F f0 s2 s9 s10 s11) (binding_both_1_b2_O l F f0 s2 s9 s10 s11 o).1 (binding_both_1_b2_O l F f0 s2 s9 s10 s11 o).2 := by
  unfold binding_both_1_b2 at h
  obtain ⟨x1, h2, h⟩ := xS h
  obtain ⟨r2, h3, h⟩ := bS h
  rcases iS h with ⟨h5, h⟩ | ⟨h5, h⟩
  ·
   rcases yldE_some h with ⟨f3, h6, h⟩ | ⟨f4, h7, h⟩
   ·
    obtain rfl := si h
    exact (runB_arr mixed [(13, .el (TSlot.D x1)), (19, .ret (.tup [.d (TValue.D r2.1), .d (D.b r2.2)])), (22, .bit true), (10007, .frz), (26, .own false (.d (D.b true)) [] (F f3))] [] [.live [0, 2, 9, 10, 11], .keep []] (ai (elem_map TSlot.D h2) (ai (binding_Get_ok s2 x1.var r2 h3) (ai h5 (ai (hY f0 (.inl (x1, r2.1)) (f3, true) h6) (ai (Or.inr ⟨(hF _).nms.trans (hF _).nms.symm, (hF _).far⟩ : F f3 = F f0 ∨ (names (F f3) = names (F f0) ∧ Far (F f3))) (ti)))))) (by kernel_rfl)).lp
   ·
    obtain rfl := si h
    exact (runB_arr mixed [(13, .el (TSlot.D x1)), (19, .ret (.tup [.d (TValue.D r2.1), .d (D.b r2.2)])), (22, .bit true), (10007, .frz), (26, .own false (.d (D.b false)) [] (F f4))] [] [.live [], .keep []] (ai (elem_map TSlot.D h2) (ai (binding_Get_ok s2 x1.var r2 h3) (ai h5 (ai (hY f0 (.inl (x1, r2.1)) (f4, false) h7) (ai (Or.inr ⟨(hF _).nms.trans (hF _).nms.symm, (hF _).far⟩ : F f4 = F f0 ∨ (names (F f4) = names (F f0) ∧ Far (F f4))) (ti)))))) (by kernel_rfl)).lp
  ·
   rcases yldE_some h with ⟨f5, h8, h⟩ | ⟨f6, h9, h⟩
   ·
    obtain rfl := si h
    exact (runB_arr mixed [(13, .el (TSlot.D x1)), (19, .ret (.tup [.d (TValue.D r2.1), .d (D.b r2.2)])), (22, .bit false), (26, .own false (.d (D.b true)) [] (F f5))] [] [.live [0, 2, 9, 10, 11], .keep []] (ai (elem_map TSlot.D h2) (ai (binding_Get_ok s2 x1.var r2 h3) (ai h5 (ai (hY f0 (.inr x1) (f5, true) h8) (ai (Or.inr ⟨(hF _).nms.trans (hF _).nms.symm, (hF _).far⟩ : F f5 = F f0 ∨ (names (F f5) = names (F f0) ∧ Far (F f5))) (ti)))))) (by kernel_rfl)).lp
   ·
    obtain rfl := si h
    exact (runB_arr mixed [(13, .el (TSlot.D x1)), (19, .ret (.tup [.d (TValue.D r2.1), .d (D.b r2.2)])), (22, .bit false), (26, .own false (.d (D.b false)) [] (F f6))] [] [.live [], .keep []] (ai (elem_map TSlot.D h2) (ai (binding_Get_ok s2 x1.var r2 h3) (ai h5 (ai (hY f0 (.inr x1) (f6, false) h9) (ai (Or.inr ⟨(hF _).nms.trans (hF _).nms.symm, (hF _).far⟩ : F f6 = F f0 ∨ (names (F f6) = names (F f0) ∧ Far (F f6))) (ti)))))) (by kernel_rfl)).lp
def binding_both_1_l1_I {φ : Type} (l : Nat) (F : φ → Bx) (s2 : List TSlot) (s9 : List TSlot) (s10 : Int) (f0 : φ) (s11 : Int) : St := ⟨sp 29 0 [(0, .d (.v (.func (.yield l) #[] #[]))), (2, .eptr (D.cells ((D.l TSlot.D) s2))), (9, .d ((D.l TSlot.D) s9)), (10, .d ((D.i .i64) s10)), (11, .d ((D.i .i64) s11))], [], (F f0)⟩
def binding_both_1_l1_O {φ : Type} (l : Nat) (F : φ → Bx) (s2 : List TSlot) (s9 : List TSlot) (s10 : Int) (o : φ ⊕ φ) : Ex × St := match o with
  | .inl o => (.exit 0, ⟨sp 29 0 [], [], (F o)⟩)
  | .inr o => (.ret, ⟨sp 29 0 [], [], (F o)⟩)
theorem binding_both_1_l1_rnd (rd : Option Nat) {φ : Type} (step : φ → ((TSlot × TValue) ⊕ TSlot) → Option (φ × Bool)) (l : Nat) (F : φ → Bx) (N : List Nat) (hF : ∀ f, FOk (F f) N) (hY : ∀ f x r, step f x = some r → AYield Try.prog l (binding_both_1_enc x) (F f) (.d (D.b r.2)) (F r.1)) (s2 : List TSlot) (s9 : List TSlot) (s10 : Int) (f0 : φ) (s11 : Int) (o : (φ × Int) ⊕ (φ ⊕ φ)) (h : binding_both_1_l1_s step s2 s9 s10 f0 s11 = some o) : Arr Try.prog rd (fbody Try.prog 75) (0 :: [0, 1]) (binding_both_1_l1_I l F s2 s9 s10 f0 s11) (rR (fun s : φ × Int => binding_both_1_l1_I l F s2 s9 s10 s.1 s.2) (binding_both_1_l1_O l F s2 s9 s10) o).1 (rR (fun s : φ × Int => binding_both_1_l1_I l F s2 s9 s10 s.1 s.2) (binding_both_1_l1_O l F s2 s9 s10) o).2 := by
  unfold binding_both_1_l1_s at h
  rcases iS h with ⟨h1, h⟩ | ⟨h1, h⟩
  ·
   obtain ⟨o7, h10, h⟩ := bS h
   replace h := sumE_some h
   rcases h with ⟨o8, rfl, h⟩ | ⟨o9, rfl, h⟩
   ·
    obtain rfl := si h
    exact runB_arr mixed [(12, .bit true)] [⟨[0, 1, 1, 0, 0, 1], [.live [0, 2, 9, 10, 11], .keep []], .normal, (binding_both_1_b2_O l F f0 s2 s9 s10 s11 (Sum.inl o8)).2⟩] [.live [0, 2, 9, 10, 11], .keep []] (ai h1 (ai (binding_both_1_b2_ok rd step l F N hF hY f0 s2 s9 s10 s11 (Sum.inl o8) h10) (ti))) (by kernel_rfl)
   ·
    obtain rfl := si h
    exact runB_arr mixed [(12, .bit true)] [⟨[0, 1, 1, 0, 0, 1], [.live [0, 2, 9, 10, 11], .keep []], .ret, (binding_both_1_b2_O l F f0 s2 s9 s10 s11 (Sum.inr o9)).2⟩] [.live [], .keep []] (ai h1 (ai (binding_both_1_b2_ok rd step l F N hF hY f0 s2 s9 s10 s11 (Sum.inr o9) h10) (ti))) (by kernel_rfl)
  ·
   obtain rfl := si h
   exact runB_arr mixed [(12, .bit false)] [] [.live [], .keep []] (ai h1 (ti)) (by kernel_rfl)
theorem binding_both_1_l1_ok (rd : Option Nat) {φ : Type} (step : φ → ((TSlot × TValue) ⊕ TSlot) → Option (φ × Bool)) (l : Nat) (F : φ → Bx) (N : List Nat) (hF : ∀ f, FOk (F f) N) (hY : ∀ f x r, step f x = some r → AYield Try.prog l (binding_both_1_enc x) (F f) (.d (D.b r.2)) (F r.1)) (s2 : List TSlot) (s9 : List TSlot) (s10 : Int) (f0 : φ) (s11 : Int) (t : φ ⊕ φ) (h : binding_both_1_l1 step s2 s9 s10 f0 s11 = some t) : LpOf Try.prog rd (fbody Try.prog 75) [0, 1] (binding_both_1_l1_I l F s2 s9 s10 f0 s11) ((binding_both_1_l1_O l F s2 s9 s10) t).1 ((binding_both_1_l1_O l F s2 s9 s10) t).2 :=
  loopE_lpR (fun s : φ × Int => binding_both_1_l1_I l F s2 s9 s10 s.1 s.2) (binding_both_1_l1_O l F s2 s9 s10) (by kernel_rfl) (fun t => isN_ne (by rcases t with (_ | _) <;> rfl)) (fun s o h => binding_both_1_l1_rnd rd step l F N hF hY s2 s9 s10 s.1 s.2 o h) (s := (f0, s11)) (t := t) h
theorem binding_both_1_ok {φ : Type} (step : φ → ((TSlot × TValue) ⊕ TSlot) → Option (φ × Bool)) (a1 : List TSlot) (a2 : List TSlot) (f0 : φ) (f1 : φ) (h : binding_both_1 step a1 a2 f0 = some f1) : AIt Try.prog 75 [.eptr (D.cells ((D.l TSlot.D) a1)), .eptr (D.cells ((D.l TSlot.D) a2))] binding_both_1_enc step f0 f1 := by
  intro l F N hF hY
  refine ⟨.tup [], ?_⟩
  unfold binding_both_1 at h
  obtain ⟨o10, h11, h⟩ := bS h
  replace h := sumE_some h
  rcases h with ⟨o11, rfl, h⟩ | ⟨o12, rfl, h⟩
  ·
   obtain rfl := si h
   exact runI_call mixed [(10, .int (a1.length : Int))] [⟨[0, 1], [.live [0, 2, 9, 10, 11], .keep []], .exit 0, (binding_both_1_l1_O l F a2 a1 (a1.length : Int) (Sum.inl o11)).2⟩] [] (hF _).far (hF _).cls (ai (len_map TSlot.D a1) (ai (binding_both_1_l1_ok none step l F N hF hY a2 a1 (a1.length : Int) f0 0 (Sum.inl o11) h11) (ti))) (by kernel_rfl)
  ·
   obtain rfl := si h
   exact runI_call mixed [(10, .int (a1.length : Int))] [⟨[0, 1], [.live [0, 2, 9, 10, 11], .keep []], .ret, (binding_both_1_l1_O l F a2 a1 (a1.length : Int) (Sum.inr o12)).2⟩] [] (hF _).far (hF _).cls (ai (len_map TSlot.D a1) (ai (binding_both_1_l1_ok none step l F N hF hY a2 a1 (a1.length : Int) f0 0 (Sum.inr o12) h11) (ti))) (by kernel_rfl)
def binding_Fits_b2_I (uz : List Value) (s9_1 : List TSlot) (s9_2 : List TSlot) (s10 : TSlot) (s11 : TValue) (w4 : Bool) (w998_1 : List TSlot) (w998_2 : List TSlot) : St := ⟨sp 22 0 [(4, .box 4 0), (9, .clo (.func 75) [] [.eptr (D.cells ((D.l TSlot.D) s9_1)), .eptr (D.cells ((D.l TSlot.D) s9_2))]), (10, .d (TSlot.D s10)), (11, .eptr (D.cells (TValue.D s11)))], [(4, .cells ([.d (D.b w4)])), (998, .vals (sp 22 0 [(4, .box 4 0), (9, .clo (.func 75) [] [.eptr (D.cells ((D.l TSlot.D) w998_1)), .eptr (D.cells ((D.l TSlot.D) w998_2))])]) uz)], []⟩
def binding_Fits_b2_O (uz : List Value) (s9_1 : List TSlot) (s9_2 : List TSlot) (s10 : TSlot) (s11 : TValue) (w4 : Bool) (w998_1 : List TSlot) (w998_2 : List TSlot) (o : Unit) : Ex × St := (.normal, ⟨sp 22 0 [(4, .box 4 0), (5, .box 5 0), (6, .eptr (D.cells (TValue.D s11))), (9, .clo (.func 75) [] [.eptr (D.cells ((D.l TSlot.D) s9_1)), .eptr (D.cells ((D.l TSlot.D) s9_2))])], [(4, .cells ([.d (D.b w4)])), (5, .cells ((cellsA (TSlot.D s10)))), (998, .vals (sp 22 0 [(4, .box 4 0), (9, .clo (.func 75) [] [.eptr (D.cells ((D.l TSlot.D) w998_1)), .eptr (D.cells ((D.l TSlot.D) w998_2))])]) uz)], []⟩)
theorem binding_Fits_b2_ok (rd : Option Nat) (uz : List Value) (s9_1 : List TSlot) (s9_2 : List TSlot) (s10 : TSlot) (s11 : TValue) (w4 : Bool) (w998_1 : List TSlot) (w998_2 : List TSlot) (o : Unit) (h : binding_Fits_b2 s9_1 s9_2 s10 s11 w4 w998_1 w998_2 = some o) : LpOf Try.prog rd (fbody Try.prog 72) [0, 0, 1, 0, 1] (binding_Fits_b2_I uz s9_1 s9_2 s10 s11 w4 w998_1 w998_2) (binding_Fits_b2_O uz s9_1 s9_2 s10 s11 w4 w998_1 w998_2 o).1 (binding_Fits_b2_O uz s9_1 s9_2 s10 s11 w4 w998_1 w998_2 o).2 := by
  unfold binding_Fits_b2 at h
  obtain rfl := si h
  exact (runB_arr mixed [] [] [.live [4, 5, 6, 9], .keep [4, 5, 998]] (ti) (by kernel_rfl)).lp
def binding_Fits_b4_I (uz : List Value) (s9_1 : List TSlot) (s9_2 : List TSlot) (s10 : TSlot) (w4 : Bool) (w998_1 : List TSlot) (w998_2 : List TSlot) : St := ⟨sp 22 0 [(4, .box 4 0), (9, .clo (.func 75) [] [.eptr (D.cells ((D.l TSlot.D) s9_1)), .eptr (D.cells ((D.l TSlot.D) s9_2))]), (10, .d (TSlot.D s10)), (11, .d (.v (.pointer none)))], [(4, .cells ([.d (D.b w4)])), (998, .vals (sp 22 0 [(4, .box 4 0), (9, .clo (.func 75) [] [.eptr (D.cells ((D.l TSlot.D) w998_1)), .eptr (D.cells ((D.l TSlot.D) w998_2))])]) uz)], []⟩
def binding_Fits_b4_O (uz : List Value) (s9_1 : List TSlot) (s9_2 : List TSlot) (s10 : TSlot) (w4 : Bool) (w998_1 : List TSlot) (w998_2 : List TSlot) (o : Unit) : Ex × St := (.normal, ⟨sp 22 0 [(4, .box 4 0), (5, .box 5 0), (6, .d (.v (.pointer none))), (9, .clo (.func 75) [] [.eptr (D.cells ((D.l TSlot.D) s9_1)), .eptr (D.cells ((D.l TSlot.D) s9_2))])], [(4, .cells ([.d (D.b w4)])), (5, .cells ((cellsA (TSlot.D s10)))), (998, .vals (sp 22 0 [(4, .box 4 0), (9, .clo (.func 75) [] [.eptr (D.cells ((D.l TSlot.D) w998_1)), .eptr (D.cells ((D.l TSlot.D) w998_2))])]) uz)], []⟩)
theorem binding_Fits_b4_ok (rd : Option Nat) (uz : List Value) (s9_1 : List TSlot) (s9_2 : List TSlot) (s10 : TSlot) (w4 : Bool) (w998_1 : List TSlot) (w998_2 : List TSlot) (o : Unit) (h : binding_Fits_b4 s9_1 s9_2 s10 w4 w998_1 w998_2 = some o) : LpOf Try.prog rd (fbody Try.prog 72) [0, 0, 1, 0, 1] (binding_Fits_b4_I uz s9_1 s9_2 s10 w4 w998_1 w998_2) (binding_Fits_b4_O uz s9_1 s9_2 s10 w4 w998_1 w998_2 o).1 (binding_Fits_b4_O uz s9_1 s9_2 s10 w4 w998_1 w998_2 o).2 := by
  unfold binding_Fits_b4 at h
  obtain rfl := si h
  exact (runB_arr mixed [] [] [.live [4, 5, 6, 9], .keep [4, 5, 998]] (ti) (by kernel_rfl)).lp
def binding_Fits_b6_I (uz : List Value) (s6 : TValue) (s9_1 : List TSlot) (s9_2 : List TSlot) (w4 : Bool) (w5 : TSlot) (w998_1 : List TSlot) (w998_2 : List TSlot) : St := ⟨sp 22 0 [(4, .box 4 0), (5, .box 5 0), (6, .eptr (D.cells (TValue.D s6))), (9, .clo (.func 75) [] [.eptr (D.cells ((D.l TSlot.D) s9_1)), .eptr (D.cells ((D.l TSlot.D) s9_2))])], [(4, .cells ([.d (D.b w4)])), (5, .cells ((cellsA (TSlot.D w5)))), (998, .vals (sp 22 0 [(4, .box 4 0), (9, .clo (.func 75) [] [.eptr (D.cells ((D.l TSlot.D) w998_1)), .eptr (D.cells ((D.l TSlot.D) w998_2))])]) uz)], []⟩
def binding_Fits_b6_O (uz : List Value) (s6 : TValue) (s9_1 : List TSlot) (s9_2 : List TSlot) (w4 : Bool) (w5 : TSlot) (w998_1 : List TSlot) (w998_2 : List TSlot) (o : Unit ⊕ Unit) : Ex × St := match o with
  | .inl o => (.normal, ⟨sp 22 0 [], [(4, .cells ([.d (D.b w4)])), (998, .vals (sp 22 0 [(4, .box 4 0), (9, .clo (.func 75) [] [.eptr (D.cells ((D.l TSlot.D) w998_1)), .eptr (D.cells ((D.l TSlot.D) w998_2))])]) uz)], []⟩)
  | .inr o => (.ret, ⟨sp 22 0 [], [(4, .cells ([.d (D.b false)])), (998, .vals (sp 22 0 [(4, .box 4 0), (9, .clo (.func 75) [] [.eptr (D.cells ((D.l TSlot.D) w998_1)), .eptr (D.cells ((D.l TSlot.D) w998_2))])]) uz)], []⟩)
theorem binding_Fits_b6_ok (rd : Option Nat) (uz : List Value) (s6 : TValue) (s9_1 : List TSlot) (s9_2 : List TSlot) (w4 : Bool) (w5 : TSlot) (w998_1 : List TSlot) (w998_2 : List TSlot) (o : Unit ⊕ Unit) (h : binding_Fits_b6 s6 s9_1 s9_2 w4 w5 w998_1 w998_2 = some o) : LpOf Try.prog rd (fbody Try.prog 72) [1, 0, 1, 0, 1] (binding_Fits_b6_I uz s6 s9_1 s9_2 w4 w5 w998_1 w998_2) (binding_Fits_b6_O uz s6 s9_1 s9_2 w4 w5 w998_1 w998_2 o).1 (binding_Fits_b6_O uz s6 s9_1 s9_2 w4 w5 w998_1 w998_2 o).2 := by
  unfold binding_Fits_b6 at h
  rcases iS h with ⟨h3, h⟩ | ⟨h3, h⟩
  ·
   obtain rfl := si h
   exact (runB_arr mixed [(21, .bit true)] [] [.live [], .keep [4, 998]] (ai h3 (ti)) (by kernel_rfl)).lp
  ·
   obtain rfl := si h
   exact (runB_arr mixed [(21, .bit false)] [] [.live [], .keep [4, 998]] (ai h3 (ti)) (by kernel_rfl)).lp
def binding_Fits_b7_I (uz : List Value) (s9_1 : List TSlot) (s9_2 : List TSlot) (w4 : Bool) (w5 : TSlot) (w998_1 : List TSlot) (w998_2 : List TSlot) : St := ⟨sp 22 0 [(4, .box 4 0), (5, .box 5 0), (6, .d (.v (.pointer none))), (9, .clo (.func 75) [] [.eptr (D.cells ((D.l TSlot.D) s9_1)), .eptr (D.cells ((D.l TSlot.D) s9_2))])], [(4, .cells ([.d (D.b w4)])), (5, .cells ((cellsA (TSlot.D w5)))), (998, .vals (sp 22 0 [(4, .box 4 0), (9, .clo (.func 75) [] [.eptr (D.cells ((D.l TSlot.D) w998_1)), .eptr (D.cells ((D.l TSlot.D) w998_2))])]) uz)], []⟩
def binding_Fits_b7_O (uz : List Value) (s9_1 : List TSlot) (s9_2 : List TSlot) (w4 : Bool) (w5 : TSlot) (w998_1 : List TSlot) (w998_2 : List TSlot) (o : Unit) : Ex × St := (.normal, ⟨sp 22 0 [], [(4, .cells ([.d (D.b w4)])), (998, .vals (sp 22 0 [(4, .box 4 0), (9, .clo (.func 75) [] [.eptr (D.cells ((D.l TSlot.D) w998_1)), .eptr (D.cells ((D.l TSlot.D) w998_2))])]) uz)], []⟩)
theorem binding_Fits_b7_ok (rd : Option Nat) (uz : List Value) (s9_1 : List TSlot) (s9_2 : List TSlot) (w4 : Bool) (w5 : TSlot) (w998_1 : List TSlot) (w998_2 : List TSlot) (o : Unit) (h : binding_Fits_b7 s9_1 s9_2 w4 w5 w998_1 w998_2 = some o) : LpOf Try.prog rd (fbody Try.prog 72) [1, 0, 1, 0, 1] (binding_Fits_b7_I uz s9_1 s9_2 w4 w5 w998_1 w998_2) (binding_Fits_b7_O uz s9_1 s9_2 w4 w5 w998_1 w998_2 o).1 (binding_Fits_b7_O uz s9_1 s9_2 w4 w5 w998_1 w998_2 o).2 := by
  unfold binding_Fits_b7 at h
  obtain rfl := si h
  exact (runB_arr mixed [] [] [.live [], .keep [4, 998]] (ti) (by kernel_rfl)).lp
def binding_Fits_r1_E (s9_1 : List TSlot) (s9_2 : List TSlot) : List A := sp 22 0 [(4, .box 4 0), (9, .clo (.func 75) [] [.eptr (D.cells ((D.l TSlot.D) s9_1)), .eptr (D.cells ((D.l TSlot.D) s9_2))])]
def binding_Fits_r1_BL (s9_1 : List TSlot) (s9_2 : List TSlot) (s : Bool) : Bx := [(4, .cells ([.d (D.b s)]))]
def binding_Fits_r1_BT (s9_1 : List TSlot) (s9_2 : List TSlot) (t : Bool) : Bx := [(4, .cells ([.d (D.b t)]))]
def binding_Fits_r1_X (t : Bool) : Ex := .ret
def binding_Fits_r1_O (s9_1 : List TSlot) (s9_2 : List TSlot) (o : (Bool) ⊕ (Bool)) : Ex × St := (rex binding_Fits_r1_X o, ⟨binding_Fits_r1_E s9_1 s9_2, rbx (binding_Fits_r1_BL s9_1 s9_2) (binding_Fits_r1_BT s9_1 s9_2) o, rbx (fun _ => []) (fun _ => []) o⟩)
theorem binding_Fits_r1_rnd (s9_1 : List TSlot) (s9_2 : List TSlot) (s : Bool) (x : (TSlot × TValue) ⊕ TSlot) (o : (Bool) ⊕ (Bool)) (h : binding_Fits_r1_rd s9_1 s9_2 s x = some o) (m : Nat) (uz : List Value) : ∃ M E1, LpOf Try.prog (some m) (fbody Try.prog 72) (0 :: [0, 1, 0, 1]) ⟨setPs (binding_Fits_r1_E s9_1 s9_2) ((Array.toList #[10, 11]).zip (binding_both_1_enc x)), binding_Fits_r1_BL s9_1 s9_2 s ++ [(vn, .vals (binding_Fits_r1_E s9_1 s9_2) uz)], (fun _ => []) s⟩ .normal M ∧
    LpOf Try.prog (some m) (fbody Try.prog 72) (1 :: [0, 1, 0, 1]) M (rex binding_Fits_r1_X o) ⟨E1, rbx (binding_Fits_r1_BL s9_1 s9_2) (binding_Fits_r1_BT s9_1 s9_2) o ++ [(vn, .vals (binding_Fits_r1_E s9_1 s9_2) uz)], rbx (fun _ => []) (fun _ => []) o⟩ := by
  unfold binding_Fits_r1_rd at h
  replace h := sumE_some h
  rcases h with ⟨z13, rfl, h⟩ | ⟨z14, rfl, h⟩
  ·
   obtain ⟨o6, h5, h⟩ := bS h
   obtain ⟨o7, h6, h⟩ := bS h
   replace h := sumE_some h
   rcases h with ⟨o15, rfl, h⟩ | ⟨o16, rfl, h⟩
   ·
    obtain rfl := si h
    exact ⟨(binding_Fits_b2_O uz s9_1 s9_2 z13.1 z13.2 s s9_1 s9_2 o6).2, sp 22 0 [], lp_wks (w := [.live [4, 9, 10, 11], .keep [4, 998]]) (s1 := binding_Fits_b2_I uz s9_1 s9_2 z13.1 z13.2 s s9_1 s9_2) (by kernel_rfl) (lp_cast (binding_Fits_b2_ok (some m) uz s9_1 s9_2 z13.1 z13.2 s s9_1 s9_2 o6 h5) rfl (by kernel_rfl) rfl), lp_wks (w := [.live [4, 5, 6, 9], .keep [4, 5, 998]]) (s1 := binding_Fits_b6_I uz z13.2 s9_1 s9_2 s z13.1 s9_1 s9_2) (by kernel_rfl) (lp_cast (binding_Fits_b6_ok (some m) uz z13.2 s9_1 s9_2 s z13.1 s9_1 s9_2 (Sum.inl o15) h6) rfl (by kernel_rfl) (by kernel_rfl))⟩
   ·
    obtain rfl := si h
    exact ⟨(binding_Fits_b2_O uz s9_1 s9_2 z13.1 z13.2 s s9_1 s9_2 o6).2, sp 22 0 [], lp_wks (w := [.live [4, 9, 10, 11], .keep [4, 998]]) (s1 := binding_Fits_b2_I uz s9_1 s9_2 z13.1 z13.2 s s9_1 s9_2) (by kernel_rfl) (lp_cast (binding_Fits_b2_ok (some m) uz s9_1 s9_2 z13.1 z13.2 s s9_1 s9_2 o6 h5) rfl (by kernel_rfl) rfl), lp_wks (w := [.live [4, 5, 6, 9], .keep [4, 5, 998]]) (s1 := binding_Fits_b6_I uz z13.2 s9_1 s9_2 s z13.1 s9_1 s9_2) (by kernel_rfl) (lp_cast (binding_Fits_b6_ok (some m) uz z13.2 s9_1 s9_2 s z13.1 s9_1 s9_2 (Sum.inr o16) h6) rfl (by kernel_rfl) (by kernel_rfl))⟩
  ·
   obtain ⟨o8, h7, h⟩ := bS h
   obtain ⟨o9, h8, h⟩ := bS h
   obtain rfl := si h
   exact ⟨(binding_Fits_b4_O uz s9_1 s9_2 z14 s s9_1 s9_2 o8).2, sp 22 0 [], lp_wks (w := [.live [4, 9, 10, 11], .keep [4, 998]]) (s1 := binding_Fits_b4_I uz s9_1 s9_2 z14 s s9_1 s9_2) (by kernel_rfl) (lp_cast (binding_Fits_b4_ok (some m) uz s9_1 s9_2 z14 s s9_1 s9_2 o8 h7) rfl (by kernel_rfl) rfl), lp_wks (w := [.live [4, 5, 6, 9], .keep [4, 5, 998]]) (s1 := binding_Fits_b7_I uz s9_1 s9_2 s z14 s9_1 s9_2) (by kernel_rfl) (lp_cast (binding_Fits_b7_ok (some m) uz s9_1 s9_2 s z14 s9_1 s9_2 o9 h8) rfl (by kernel_rfl) (by kernel_rfl))⟩
theorem binding_Fits_r1_ok (s9_1 : List TSlot) (s9_2 : List TSlot) (s : Bool) (o : (Bool) ⊕ (Bool)) (h : binding_both_1 (stepOf (binding_Fits_r1_rd s9_1 s9_2)) s9_1 s9_2 (.inl s) = some o) : LpOf Try.prog none (fbody Try.prog 72) [0, 1, 0, 1] ⟨binding_Fits_r1_E s9_1 s9_2, binding_Fits_r1_BL s9_1 s9_2 s, (fun _ => []) s⟩ (binding_Fits_r1_O s9_1 s9_2 o).1 (binding_Fits_r1_O s9_1 s9_2 o).2 :=
  range_ok (p := [0, 1, 0, 1]) (g := .tmp 9) (ps := #[10, 11]) (assign := codeAt (fbody Try.prog 72) (0 :: [0, 1, 0, 1])) (body := codeAt (fbody Try.prog 72) (1 :: [0, 1, 0, 1])) (by kernel_rfl) (binding_Fits_r1_BL s9_1 s9_2) (binding_Fits_r1_BT s9_1 s9_2) (fun _ => []) (fun _ => []) binding_Fits_r1_X binding_both_1_enc (binding_Fits_r1_rd s9_1 s9_2) (gf := 75) (cs := [.eptr (D.cells ((D.l TSlot.D) s9_1)), .eptr (D.cells ((D.l TSlot.D) s9_2))]) (by kernel_rfl) (by kernel_rfl) (by kernel_rfl) (fun x => by rcases x with (_ | _) <;> exact ⟨by kernel_rfl, by kernel_rfl⟩) (fun s us => by kernel_rfl) (fun t us => by kernel_rfl) (fun s => rfl) (fun t => rfl) (by kernel_rfl) (fun t => rfl) (fun s => FOk.nil) (fun t => FOk.nil) (fun s x o h m us => binding_Fits_r1_rnd s9_1 s9_2 s x o h m us) (binding_both_1_ok (stepOf (binding_Fits_r1_rd s9_1 s9_2)) s9_1 s9_2 (.inl s) o h)
theorem binding_Fits_ok (a0 : List TSlot) (a1 : List TSlot) (r : Bool) (h : binding_Fits a0 a1 = some r) : ACall Try.prog 72 [.d ((D.l TSlot.D) a0), .d ((D.l TSlot.D) a1)] [] (.d (D.b r)) [] := by
  unfold binding_Fits at h
  obtain ⟨r1, h1, h⟩ := bS h
  obtain ⟨o10, h4, h⟩ := bS h
  replace h := sumE_some h
  rcases h with ⟨o11, rfl, h⟩ | ⟨o12, rfl, h⟩
  ·
   obtain rfl := si h
   exact runF_call mixed [(9, .ret (.clo (.func 75) [] [.eptr (D.cells ((D.l TSlot.D) r1.1)), .eptr (D.cells ((D.l TSlot.D) r1.2))]))] [⟨[0, 1, 0, 1], [.live [4, 9], .keep [4]], .normal, (binding_Fits_r1_O r1.1 r1.2 (Sum.inl o11)).2⟩] [] (ai (binding_both_ok a0 a1 r1 h1) (ai (binding_Fits_r1_ok r1.1 r1.2 false (Sum.inl o11) h4) (ti))) (by kernel_rfl)
  ·
   obtain rfl := si h
   exact runF_call mixed [(9, .ret (.clo (.func 75) [] [.eptr (D.cells ((D.l TSlot.D) r1.1)), .eptr (D.cells ((D.l TSlot.D) r1.2))]))] [⟨[0, 1, 0, 1], [.live [4, 9], .keep [4]], .ret, (binding_Fits_r1_O r1.1 r1.2 (Sum.inr o12)).2⟩] [] (ai (binding_both_ok a0 a1 r1 h1) (ai (binding_Fits_r1_ok r1.1 r1.2 false (Sum.inr o12) h4) (ti))) (by kernel_rfl)
theorem slices_Grow_Slot_Slot_v2_ok (n : Int) (r : List TSlot) (h : slices_Grow_Slot_Slot_v2 n = some r) : ACall Try.prog 81 [.nil, .d (D.i .i64 n)] [] (.row 0) [(0, .rw 60 5 (r.map TSlot.D))] :=
  growE_ok (ρ := ⟨fun _ => 81, fun n => if n = 0 then 0 else if n = 3 then 3 else if n = 4 then 4 else if n = 9 then 9 else if n = 20 then 20 else if n = 22 then 23 else 60, id⟩) (by_ := 48) TSlot.D rfl rfl (growL mixed ⟨ "slices.Grow[[]proctor/api.Slot,proctor/api.Slot]", by decide, (Try.func81).trans (by kernel_rfl)⟩ Try.underlying0 Try.underlying3 Try.underlying4 Try.underlying9 Try.underlying20 Try.underlying23 (by kernel_rfl) (by kernel_rfl) (by kernel_rfl) (by kernel_rfl) (by kernel_rfl) (by kernel_rfl) (by kernel_rfl) (by kernel_rfl) (by kernel_rfl) (by kernel_rfl) (by kernel_rfl) (by kernel_rfl)) (by kernel_rfl) (by decide) n r h
def slices_Concat_Slot_Slot_v2_b3_I (s0 : List (List TSlot)) (s3 : Int) (s9 : List (List TSlot)) (s10 : Int) (s11 : Int) (s20 : Bool) : St := ⟨sp 36 0 [(0, .d ((D.l (D.l TSlot.D)) s0)), (3, .d ((D.i .i64) s3)), (9, .d ((D.l (D.l TSlot.D)) s9)), (10, .d ((D.i .i64) s10)), (11, .d ((D.i .i64) s11)), (20, .d (D.b s20))], [], []⟩
def slices_Concat_Slot_Slot_v2_b3_O (s0 : List (List TSlot)) (s3 : Int) (s9 : List (List TSlot)) (s10 : Int) (s11 : Int) (s20 : Bool) (o : Unit) : Ex × St := (.normal, ⟨sp 36 0 [(0, .d ((D.l (D.l TSlot.D)) s0)), (3, .d ((D.i .i64) s3)), (9, .d ((D.l (D.l TSlot.D)) s9)), (10, .d ((D.i .i64) s10)), (11, .d ((D.i .i64) s11))], [], []⟩)
theorem slices_Concat_Slot_Slot_v2_b3_ok (rd : Option Nat) (s0 : List (List TSlot)) (s3 : Int) (s9 : List (List TSlot)) (s10 : Int) (s11 : Int) (s20 : Bool) (o : Unit) (h : slices_Concat_Slot_Slot_v2_b3 s0 s3 s9 s10 s11 s20 = some o) : LpOf Try.prog rd (fbody Try.prog 74) [1, 1, 1, 0, 0, 1, 1, 0, 0, 1, 0, 1, 1] (slices_Concat_Slot_Slot_v2_b3_I s0 s3 s9 s10 s11 s20) (slices_Concat_Slot_Slot_v2_b3_O s0 s3 s9 s10 s11 s20 o).1 (slices_Concat_Slot_Slot_v2_b3_O s0 s3 s9 s10 s11 s20 o).2 := by
  unfold slices_Concat_Slot_Slot_v2_b3 at h
  cases s20 with
  | true =>
   replace h := iteT h
   cases h
  | false =>
   replace h := iteF h
   obtain rfl := si h
   exact (runB_arr mixed [] [] [.live [0, 3, 9, 10, 11], .keep []] (ti) (by kernel_rfl)).lp
def slices_Concat_Slot_Slot_v2_b2_I (s0 : List (List TSlot)) (s3 : Int) (s9 : List (List TSlot)) (s10 : Int) (s11 : Int) : St := ⟨sp 36 0 [(0, .d ((D.l (D.l TSlot.D)) s0)), (3, .d ((D.i .i64) s3)), (9, .d ((D.l (D.l TSlot.D)) s9)), (10, .d ((D.i .i64) s10)), (11, .d ((D.i .i64) s11))], [], []⟩
def slices_Concat_Slot_Slot_v2_b2_O (s0 : List (List TSlot)) (s3 : Int) (s9 : List (List TSlot)) (s10 : Int) (s11 : Int) (o : Int) : Ex × St := (.normal, ⟨sp 36 0 [(0, .d ((D.l (D.l TSlot.D)) s0)), (3, .d ((D.i .i64) o)), (9, .d ((D.l (D.l TSlot.D)) s9)), (10, .d ((D.i .i64) s10)), (11, .d ((D.i .i64) s11))], [], []⟩)
theorem slices_Concat_Slot_Slot_v2_b2_ok (rd : Option Nat) (s0 : List (List TSlot)) (s3 : Int) (s9 : List (List TSlot)) (s10 : Int) (s11 : Int) (o : Int) (h : slices_Concat_Slot_Slot_v2_b2 s0 s3 s9 s10 s11 = some o) : LpOf Try.prog rd (fbody Try.prog 74) [0, 1, 1, 0, 0, 1, 0, 1, 1] (slices_Concat_Slot_Slot_v2_b2_I s0 s3 s9 s10 s11) (slices_Concat_Slot_Slot_v2_b2_O s0 s3 s9 s10 s11 o).1 (slices_Concat_Slot_Slot_v2_b2_O s0 s3 s9 s10 s11 o).2 := by
  unfold slices_Concat_Slot_Slot_v2_b2 at h
  obtain ⟨x1, h2, h⟩ := xS h
  obtain ⟨o2, h4, h⟩ := bS h
  obtain rfl := si h
  exact (runB_arr mixed [(13, .el ((D.l TSlot.D) x1)), (17, .int (x1.length : Int))] [⟨[1, 1, 1, 0, 0, 1, 1, 0, 0, 1, 0, 1, 1], [.live [0, 3, 9, 10, 11, 20], .keep []], .normal, (slices_Concat_Slot_Slot_v2_b3_O s0 (intVal .add .i64 s3 (x1.length : Int)) s9 s10 s11 (decide ((intVal .add .i64 s3 (x1.length : Int)) < 0)) o2).2⟩] [.live [0, 3, 9, 10, 11], .keep []] (ai (elem_map (D.l TSlot.D) h2) (ai (len_map TSlot.D x1) (ai (slices_Concat_Slot_Slot_v2_b3_ok rd s0 (intVal .add .i64 s3 (x1.length : Int)) s9 s10 s11 (decide ((intVal .add .i64 s3 (x1.length : Int)) < 0)) o2 h4) (ti)))) (by kernel_rfl)).lp
def slices_Concat_Slot_Slot_v2_l1_I (s0 : List (List TSlot)) (s9 : List (List TSlot)) (s10 : Int) (s3 : Int) (s11 : Int) : St := ⟨sp 36 0 [(0, .d ((D.l (D.l TSlot.D)) s0)), (3, .d ((D.i .i64) s3)), (9, .d ((D.l (D.l TSlot.D)) s9)), (10, .d ((D.i .i64) s10)), (11, .d ((D.i .i64) s11))], [], []⟩
def slices_Concat_Slot_Slot_v2_l1_O (s0 : List (List TSlot)) (s9 : List (List TSlot)) (s10 : Int) (o : Int) : Ex × St := (.exit 0, ⟨sp 36 0 [(0, .d ((D.l (D.l TSlot.D)) s0)), (3, .d ((D.i .i64) o))], [], []⟩)
theorem slices_Concat_Slot_Slot_v2_l1_rnd (rd : Option Nat) (s0 : List (List TSlot)) (s9 : List (List TSlot)) (s10 : Int) (s3 : Int) (s11 : Int) (o : (Int × Int) ⊕ (Int)) (h : slices_Concat_Slot_Slot_v2_l1_s s0 s9 s10 s3 s11 = some o) : Arr Try.prog rd (fbody Try.prog 74) (0 :: [0, 1, 0, 1, 1]) (slices_Concat_Slot_Slot_v2_l1_I s0 s9 s10 s3 s11) (rR (fun s : Int × Int => slices_Concat_Slot_Slot_v2_l1_I s0 s9 s10 s.1 s.2) (slices_Concat_Slot_Slot_v2_l1_O s0 s9 s10) o).1 (rR (fun s : Int × Int => slices_Concat_Slot_Slot_v2_l1_I s0 s9 s10 s.1 s.2) (slices_Concat_Slot_Slot_v2_l1_O s0 s9 s10) o).2 := by
  unfold slices_Concat_Slot_Slot_v2_l1_s at h
  rcases iS h with ⟨h1, h⟩ | ⟨h1, h⟩
  ·
   obtain ⟨o3, h5, h⟩ := bS h
   obtain rfl := si h
   exact runB_arr mixed [(12, .bit true)] [⟨[0, 1, 1, 0, 0, 1, 0, 1, 1], [.live [0, 3, 9, 10, 11], .keep []], .normal, (slices_Concat_Slot_Slot_v2_b2_O s0 s3 s9 s10 s11 o3).2⟩] [.live [0, 3, 9, 10, 11], .keep []] (ai h1 (ai (slices_Concat_Slot_Slot_v2_b2_ok rd s0 s3 s9 s10 s11 o3 h5) (ti))) (by kernel_rfl)
  ·
   obtain rfl := si h
   exact runB_arr mixed [(12, .bit false)] [] [.live [0, 3], .keep []] (ai h1 (ti)) (by kernel_rfl)
theorem slices_Concat_Slot_Slot_v2_l1_ok (rd : Option Nat) (s0 : List (List TSlot)) (s9 : List (List TSlot)) (s10 : Int) (s3 : Int) (s11 : Int) (t : Int) (h : slices_Concat_Slot_Slot_v2_l1 s0 s9 s10 s3 s11 = some t) : LpOf Try.prog rd (fbody Try.prog 74) [0, 1, 0, 1, 1] (slices_Concat_Slot_Slot_v2_l1_I s0 s9 s10 s3 s11) ((slices_Concat_Slot_Slot_v2_l1_O s0 s9 s10) t).1 ((slices_Concat_Slot_Slot_v2_l1_O s0 s9 s10) t).2 :=
  loopE_lpR (fun s : Int × Int => slices_Concat_Slot_Slot_v2_l1_I s0 s9 s10 s.1 s.2) (slices_Concat_Slot_Slot_v2_l1_O s0 s9 s10) (by kernel_rfl) (fun t => isN_ne (by rfl)) (fun s o h => slices_Concat_Slot_Slot_v2_l1_rnd rd s0 s9 s10 s.1 s.2 o h) (s := (s3, s11)) (t := t) h
def slices_Concat_Slot_Slot_v2_l4_I (s25 : List (List TSlot)) (s26 : Int) (s27 : Int) (w6 : List TSlot) : St := ⟨sp 36 0 [(6, .row 6), (25, .d ((D.l (D.l TSlot.D)) s25)), (26, .d ((D.i .i64) s26)), (27, .d ((D.i .i64) s27))], [(6, .rw 60 5 (w6.map TSlot.D))], []⟩
def slices_Concat_Slot_Slot_v2_l4_O (s25 : List (List TSlot)) (s26 : Int) (o : (List TSlot)) : Ex × St := (.exit 2, ⟨sp 36 0 [(6, .row 6)], [(6, .rw 60 5 (o.map TSlot.D))], []⟩)
theorem slices_Concat_Slot_Slot_v2_l4_rnd (rd : Option Nat) (s25 : List (List TSlot)) (s26 : Int) (s27 : Int) (w6 : List TSlot) (o : (Int × List TSlot) ⊕ ((List TSlot))) (h : slices_Concat_Slot_Slot_v2_l4_s s25 s26 s27 w6 = some o) : Arr Try.prog rd (fbody Try.prog 74) (0 :: [0, 1, 0, 1, 1, 1, 1]) (slices_Concat_Slot_Slot_v2_l4_I s25 s26 s27 w6) (rR (fun s : Int × List TSlot => slices_Concat_Slot_Slot_v2_l4_I s25 s26 s.1 s.2) (slices_Concat_Slot_Slot_v2_l4_O s25 s26) o).1 (rR (fun s : Int × List TSlot => slices_Concat_Slot_Slot_v2_l4_I s25 s26 s.1 s.2) (slices_Concat_Slot_Slot_v2_l4_O s25 s26) o).2 := by
  unfold slices_Concat_Slot_Slot_v2_l4_s at h
  rcases iS h with ⟨h8, h⟩ | ⟨h8, h⟩
  ·
   obtain ⟨x6, h9, h⟩ := xS h
   obtain ⟨h10, h⟩ := cS h
   obtain rfl := si h
   exact runB_arr mixed [(28, .bit true), (29, .el ((D.l TSlot.D) x6)), (33, .rwl ((w6 ++ x6).map TSlot.D))] [] [.live [6, 25, 26, 27], .keep [33], .ren 33 6, .sort] (ai h8 (ai (elem_map (D.l TSlot.D) h9) (ai (nc_ok TSlot.D x6) (ai (fit_map TSlot.D h10) (ai (app_map TSlot.D w6 x6) (ti)))))) (by kernel_rfl)
  ·
   obtain rfl := si h
   exact runB_arr mixed [(28, .bit false)] [] [.live [6], .keep [6]] (ai h8 (ti)) (by kernel_rfl)
theorem slices_Concat_Slot_Slot_v2_l4_ok (rd : Option Nat) (s25 : List (List TSlot)) (s26 : Int) (s27 : Int) (w6 : List TSlot) (t : (List TSlot)) (h : slices_Concat_Slot_Slot_v2_l4 s25 s26 s27 w6 = some t) : LpOf Try.prog rd (fbody Try.prog 74) [0, 1, 0, 1, 1, 1, 1] (slices_Concat_Slot_Slot_v2_l4_I s25 s26 s27 w6) ((slices_Concat_Slot_Slot_v2_l4_O s25 s26) t).1 ((slices_Concat_Slot_Slot_v2_l4_O s25 s26) t).2 :=
  loopE_lpR (fun s : Int × List TSlot => slices_Concat_Slot_Slot_v2_l4_I s25 s26 s.1 s.2) (slices_Concat_Slot_Slot_v2_l4_O s25 s26) (by kernel_rfl) (fun t => isN_ne (by rfl)) (fun s o h => slices_Concat_Slot_Slot_v2_l4_rnd rd s25 s26 s.1 s.2 o h) (s := (s27, w6)) (t := t) h
theorem slices_Concat_Slot_Slot_v2_ok (a0 : List (List TSlot)) (r : List TSlot) (h : slices_Concat_Slot_Slot_v2 a0 = some r) : ACall Try.prog 74 [.d ((D.l (D.l TSlot.D)) a0)] [] (.d ((D.l TSlot.D) r)) [] := by
  unfold slices_Concat_Slot_Slot_v2 at h
  obtain ⟨o4, h6, h⟩ := bS h
  obtain ⟨r5, h7, h⟩ := bS h
  obtain ⟨o7, h11, h⟩ := bS h
  obtain rfl := si h
  exact runF_call mixed [(10, .int (a0.length : Int)), (24, .cx true [] [(0, 24)] (.row 0) [(0, .rw 60 5 (r5.map TSlot.D))]), (26, .int (a0.length : Int))] [⟨[0, 1, 0, 1, 1], [.live [0, 3, 9, 10, 11], .keep []], .exit 0, (slices_Concat_Slot_Slot_v2_l1_O a0 a0 (a0.length : Int) o4).2⟩, ⟨[0, 1, 0, 1, 1, 1, 1], [.live [6, 25, 26, 27], .keep [24], .ren 24 6, .sort], .exit 2, (slices_Concat_Slot_Slot_v2_l4_O a0 (a0.length : Int) o7).2⟩] [.frz 6] (ai (len_map (D.l TSlot.D) a0) (ai (slices_Concat_Slot_Slot_v2_l1_ok none a0 a0 (a0.length : Int) 0 0 o4 h6) (ai (slices_Grow_Slot_Slot_v2_ok o4 r5 h7) (ai (len_map (D.l TSlot.D) a0) (ai (slices_Concat_Slot_Slot_v2_l4_ok none a0 (a0.length : Int) 0 r5 o7 h11) (ti)))))) (by kernel_rfl)
theorem binding_find_1_ok (a0 : TSlot) (a1 : Int) (r : Int) (h : binding_find_1 a0 a1 = some r) : ACall Try.prog 84 [.d (TSlot.D a0), .d ((D.i .i64) a1)] [] (.d ((D.i .i64) r)) [] := by
  unfold binding_find_1 at h
  obtain rfl := si h
  exact runF_call mixed [] [] [] (ti) (by kernel_rfl)
def slices_BinarySearchFunc_Slot_Slot_int_b3_I (s0 : List TSlot) (s1 : Int) (s8 : Int) (s9 : Int) (s10 : Int) (s11 : Int) (s31 : Bool) : St := ⟨sp 49 0 [(0, .d ((D.l TSlot.D) s0)), (1, .d ((D.i .i64) s1)), (2, .clo (.func 84) [] []), (8, .d ((D.i .i64) s8)), (9, .d ((D.i .i64) s9)), (10, .d ((D.i .i64) s10)), (11, .d ((D.i .i64) s11)), (31, .d (D.b s31))], [], []⟩
def slices_BinarySearchFunc_Slot_Slot_int_b3_O (s0 : List TSlot) (s1 : Int) (s8 : Int) (s9 : Int) (s10 : Int) (s11 : Int) (s31 : Bool) (o : (Int × Int)) : Ex × St := (.normal, ⟨sp 49 0 [(0, .d ((D.l TSlot.D) s0)), (1, .d ((D.i .i64) s1)), (2, .clo (.func 84) [] []), (8, .d ((D.i .i64) s8)), (9, .d ((D.i .i64) o.1)), (10, .d ((D.i .i64) o.2))], [], []⟩)
theorem slices_BinarySearchFunc_Slot_Slot_int_b3_ok (rd : Option Nat) (s0 : List TSlot) (s1 : Int) (s8 : Int) (s9 : Int) (s10 : Int) (s11 : Int) (s31 : Bool) (o : (Int × Int)) (h : slices_BinarySearchFunc_Slot_Slot_int_b3 s0 s1 s8 s9 s10 s11 s31 = some o) : LpOf Try.prog rd (fbody Try.prog 83) [1, 1, 0, 1, 0, 0, 0, 1, 1, 1] (slices_BinarySearchFunc_Slot_Slot_int_b3_I s0 s1 s8 s9 s10 s11 s31) (slices_BinarySearchFunc_Slot_Slot_int_b3_O s0 s1 s8 s9 s10 s11 s31 o).1 (slices_BinarySearchFunc_Slot_Slot_int_b3_O s0 s1 s8 s9 s10 s11 s31 o).2 := by
  unfold slices_BinarySearchFunc_Slot_Slot_int_b3 at h
  cases s31 with
  | true =>
   replace h := iteT h
   obtain rfl := si h
   exact (runB_arr mixed [] [] [.live [0, 1, 2, 8, 9, 10], .keep []] (ti) (by kernel_rfl)).lp
  | false =>
   replace h := iteF h
   obtain rfl := si h
   exact (runB_arr mixed [] [] [.live [0, 1, 2, 8, 9, 10], .keep []] (ti) (by kernel_rfl)).lp
def slices_BinarySearchFunc_Slot_Slot_int_b2_I (s0 : List TSlot) (s1 : Int) (s8 : Int) (s9 : Int) (s10 : Int) : St := ⟨sp 49 0 [(0, .d ((D.l TSlot.D) s0)), (1, .d ((D.i .i64) s1)), (2, .clo (.func 84) [] []), (8, .d ((D.i .i64) s8)), (9, .d ((D.i .i64) s9)), (10, .d ((D.i .i64) s10))], [], []⟩
def slices_BinarySearchFunc_Slot_Slot_int_b2_O (s0 : List TSlot) (s1 : Int) (s8 : Int) (s9 : Int) (s10 : Int) (o : (Int × Int)) : Ex × St := (.normal, ⟨sp 49 0 [(0, .d ((D.l TSlot.D) s0)), (1, .d ((D.i .i64) s1)), (2, .clo (.func 84) [] []), (8, .d ((D.i .i64) s8)), (9, .d ((D.i .i64) o.1)), (10, .d ((D.i .i64) o.2))], [], []⟩)
theorem slices_BinarySearchFunc_Slot_Slot_int_b2_ok (rd : Option Nat) (s0 : List TSlot) (s1 : Int) (s8 : Int) (s9 : Int) (s10 : Int) (o : (Int × Int)) (h : slices_BinarySearchFunc_Slot_Slot_int_b2 s0 s1 s8 s9 s10 = some o) : LpOf Try.prog rd (fbody Try.prog 83) [1, 0, 0, 0, 1, 1, 1] (slices_BinarySearchFunc_Slot_Slot_int_b2_I s0 s1 s8 s9 s10) (slices_BinarySearchFunc_Slot_Slot_int_b2_O s0 s1 s8 s9 s10 o).1 (slices_BinarySearchFunc_Slot_Slot_int_b2_O s0 s1 s8 s9 s10 o).2 := by
  unfold slices_BinarySearchFunc_Slot_Slot_int_b2 at h
  obtain ⟨x1, h2, h⟩ := xS h
  obtain ⟨r2, h3, h⟩ := bS h
  obtain ⟨o3, h5, h⟩ := bS h
  obtain rfl := si h
  exact (runB_arr mixed [(27, .el (TSlot.D x1)), (30, .ret (.d ((D.i .i64) r2)))] [⟨[1, 1, 0, 1, 0, 0, 0, 1, 1, 1], [.live [0, 1, 2, 8, 9, 10, 11, 31], .keep []], .normal, (slices_BinarySearchFunc_Slot_Slot_int_b3_O s0 s1 s8 s9 s10 (IntKind.wrap .i64 (intVal .shr .u64 (IntKind.wrap .u64 (intVal .add .i64 s9 s10)) 1)) (decide (r2 < 0)) o3).2⟩] [.live [0, 1, 2, 8, 9, 10], .keep []] (ai (of_decide_eq_true rfl : (0 : Int) ≤ 1) (ai (elem_map TSlot.D h2) (ai (binding_find_1_ok x1 s1 r2 h3) (ai (slices_BinarySearchFunc_Slot_Slot_int_b3_ok rd s0 s1 s8 s9 s10 (IntKind.wrap .i64 (intVal .shr .u64 (IntKind.wrap .u64 (intVal .add .i64 s9 s10)) 1)) (decide (r2 < 0)) o3 h5) (ti))))) (by kernel_rfl)).lp
def slices_BinarySearchFunc_Slot_Slot_int_l1_I (s0 : List TSlot) (s1 : Int) (s8 : Int) (s9 : Int) (s10 : Int) : St := ⟨sp 49 0 [(0, .d ((D.l TSlot.D) s0)), (1, .d ((D.i .i64) s1)), (2, .clo (.func 84) [] []), (8, .d ((D.i .i64) s8)), (9, .d ((D.i .i64) s9)), (10, .d ((D.i .i64) s10))], [], []⟩
def slices_BinarySearchFunc_Slot_Slot_int_l1_O (s0 : List TSlot) (s1 : Int) (s8 : Int) (o : Int) : Ex × St := (.exit 0, ⟨sp 49 0 [(0, .d ((D.l TSlot.D) s0)), (1, .d ((D.i .i64) s1)), (2, .clo (.func 84) [] []), (8, .d ((D.i .i64) s8)), (9, .d ((D.i .i64) o))], [], []⟩)
theorem slices_BinarySearchFunc_Slot_Slot_int_l1_rnd (rd : Option Nat) (s0 : List TSlot) (s1 : Int) (s8 : Int) (s9 : Int) (s10 : Int) (o : (Int × Int) ⊕ (Int)) (h : slices_BinarySearchFunc_Slot_Slot_int_l1_s s0 s1 s8 s9 s10 = some o) : Arr Try.prog rd (fbody Try.prog 83) (0 :: [0, 0, 1, 1, 1]) (slices_BinarySearchFunc_Slot_Slot_int_l1_I s0 s1 s8 s9 s10) (rR (fun s : Int × Int => slices_BinarySearchFunc_Slot_Slot_int_l1_I s0 s1 s8 s.1 s.2) (slices_BinarySearchFunc_Slot_Slot_int_l1_O s0 s1 s8) o).1 (rR (fun s : Int × Int => slices_BinarySearchFunc_Slot_Slot_int_l1_I s0 s1 s8 s.1 s.2) (slices_BinarySearchFunc_Slot_Slot_int_l1_O s0 s1 s8) o).2 := by
  unfold slices_BinarySearchFunc_Slot_Slot_int_l1_s at h
  rcases iS h with ⟨h1, h⟩ | ⟨h1, h⟩
  ·
   obtain ⟨o4, h6, h⟩ := bS h
   obtain rfl := si h
   exact runB_arr mixed [(17, .bit true)] [⟨[1, 0, 0, 0, 1, 1, 1], [.live [0, 1, 2, 8, 9, 10], .keep []], .normal, (slices_BinarySearchFunc_Slot_Slot_int_b2_O s0 s1 s8 s9 s10 o4).2⟩] [.live [0, 1, 2, 8, 9, 10], .keep []] (ai h1 (ai (slices_BinarySearchFunc_Slot_Slot_int_b2_ok rd s0 s1 s8 s9 s10 o4 h6) (ti))) (by kernel_rfl)
  ·
   obtain rfl := si h
   exact runB_arr mixed [(17, .bit false)] [] [.live [0, 1, 2, 8, 9], .keep []] (ai h1 (ti)) (by kernel_rfl)
theorem slices_BinarySearchFunc_Slot_Slot_int_l1_ok (rd : Option Nat) (s0 : List TSlot) (s1 : Int) (s8 : Int) (s9 : Int) (s10 : Int) (t : Int) (h : slices_BinarySearchFunc_Slot_Slot_int_l1 s0 s1 s8 s9 s10 = some t) : LpOf Try.prog rd (fbody Try.prog 83) [0, 0, 1, 1, 1] (slices_BinarySearchFunc_Slot_Slot_int_l1_I s0 s1 s8 s9 s10) ((slices_BinarySearchFunc_Slot_Slot_int_l1_O s0 s1 s8) t).1 ((slices_BinarySearchFunc_Slot_Slot_int_l1_O s0 s1 s8) t).2 :=
  loopE_lpR (fun s : Int × Int => slices_BinarySearchFunc_Slot_Slot_int_l1_I s0 s1 s8 s.1 s.2) (slices_BinarySearchFunc_Slot_Slot_int_l1_O s0 s1 s8) (by kernel_rfl) (fun t => isN_ne (by rfl)) (fun s o h => slices_BinarySearchFunc_Slot_Slot_int_l1_rnd rd s0 s1 s8 s.1 s.2 o h) (s := (s9, s10)) (t := t) h
theorem slices_BinarySearchFunc_Slot_Slot_int_ok (a0 : List TSlot) (a1 : Int) (r : Int × Bool) (h : slices_BinarySearchFunc_Slot_Slot_int a0 a1 = some r) : ACall Try.prog 83 [.d ((D.l TSlot.D) a0), .d ((D.i .i64) a1), .clo (.func 84) [] []] [] (.tup [.d ((D.i .i64) r.1), .d (D.b r.2)]) [] := by
  unfold slices_BinarySearchFunc_Slot_Slot_int at h
  obtain ⟨o5, h7, h⟩ := bS h
  rcases iS h with ⟨h8, h⟩ | ⟨h8, h⟩
  ·
   obtain ⟨x6, h9, h⟩ := xS h
   obtain ⟨r7, h10, h⟩ := bS h
   obtain rfl := si h
   exact runF_call mixed [(13, .int (a0.length : Int)), (39, .bit true), (43, .el (TSlot.D x6)), (46, .ret (.d ((D.i .i64) r7)))] [⟨[0, 0, 1, 1, 1], [.live [0, 1, 2, 8, 9, 10], .keep []], .exit 0, (slices_BinarySearchFunc_Slot_Slot_int_l1_O a0 a1 (a0.length : Int) o5).2⟩] [] (ai (len_map TSlot.D a0) (ai (slices_BinarySearchFunc_Slot_Slot_int_l1_ok none a0 a1 (a0.length : Int) 0 (a0.length : Int) o5 h7) (ai h8 (ai (elem_map TSlot.D h9) (ai (binding_find_1_ok x6 a1 r7 h10) (ti)))))) (by kernel_rfl)
  ·
   obtain rfl := si h
   exact runF_call mixed [(13, .int (a0.length : Int)), (39, .bit false)] [⟨[0, 0, 1, 1, 1], [.live [0, 1, 2, 8, 9, 10], .keep []], .exit 0, (slices_BinarySearchFunc_Slot_Slot_int_l1_O a0 a1 (a0.length : Int) o5).2⟩] [] (ai (len_map TSlot.D a0) (ai (slices_BinarySearchFunc_Slot_Slot_int_l1_ok none a0 a1 (a0.length : Int) 0 (a0.length : Int) o5 h7) (ai h8 (ti)))) (by kernel_rfl)
theorem binding_find_ok (a0 : List TSlot) (a1 : Int) (r : Int × Bool) (h : binding_find a0 a1 = some r) : ACall Try.prog 78 [.d ((D.l TSlot.D) a0), .d ((D.i .i64) a1)] [] (.tup [.d ((D.i .i64) r.1), .d (D.b r.2)]) [] := by
  unfold binding_find at h
  obtain ⟨r1, h1, h⟩ := bS h
  obtain rfl := si h
  exact runF_call mixed [(8, .ret (.tup [.d ((D.i .i64) r1.1), .d (D.b r1.2)]))] [] [] (ai (slices_BinarySearchFunc_Slot_Slot_int_ok a0 a1 r1 h1) (ti)) (by kernel_rfl)
theorem slices_Insert_Slot_Slot_v3_ok (i : Int) (ys r : List TSlot) (h : slices_Insert_Slot_Slot_v3 i ys = some r) : ACall Try.prog 79 [.nil, .d (D.i .i64 i), .row 0] [(0, .row 60 5 (ys.map TSlot.D))] (.row 1) [(1, .rw 60 5 (r.map TSlot.D))] :=
  insN_ok (ρ := ⟨fun n => if n = 22 then 79 else if n = 29 then 85 else 86, fun n => if n = 0 then 0 else if n = 3 then 3 else if n = 4 then 4 else if n = 24 then 23 else 60, id⟩) (by_ := 48) TSlot.D mixed rfl ⟨ "slices.Insert[[]proctor/api.Slot,proctor/api.Slot]", by decide, (Try.func79).trans (by kernel_rfl)⟩ Try.underlying3 Try.underlying4 Try.underlying23 (by kernel_rfl) (by decide) i ys r h
theorem slices_Insert_Slot_Slot_v4_ok (i : Int) (xs ys r : List TSlot) (h : slices_Insert_Slot_Slot_v4 i xs ys = some r) : ACall Try.prog 79 [.row 0, .d (D.i .i64 i), .row 1] [(0, .rw 60 5 (xs.map TSlot.D)), (1, .row 60 5 (ys.map TSlot.D))] (.row 2) [(2, .rw 60 5 (r.map TSlot.D))] :=
  insE_ok (ρ := ⟨fun n => if n = 22 then 79 else if n = 29 then 85 else 86, fun n => if n = 0 then 0 else if n = 3 then 3 else if n = 4 then 4 else if n = 24 then 23 else 60, id⟩) (by_ := 48) TSlot.D mixed rfl ⟨ "slices.Insert[[]proctor/api.Slot,proctor/api.Slot]", by decide, (Try.func79).trans (by kernel_rfl)⟩ Try.underlying3 Try.underlying4 Try.underlying23 (by kernel_rfl) (by decide) (by decide)
    (fun args w => run_callFunc_extern Try.func85 (by kernel_rfl) (by kernel_rfl) (by kernel_rfl) (e := Go.Extern.SlicesOverlaps.overlaps #[23, 23] #[4]) (by kernel_rfl) args w) i xs ys r h
theorem value_Int_ok (a0 : Int) (r : TValue) (h : value_Int a0 = some r) : ACall Try.prog 89 [.d ((D.i .i64) a0)] [] (.d (TValue.D r)) [] := by
  unfold value_Int at h
  obtain rfl := si h
  exact runF_call mixed [] [] [] (ti) (by kernel_rfl)
theorem value_Str_ok (a0 : List UInt8) (r : TValue) (h : value_Str a0 = some r) : ACall Try.prog 90 [.d (D.s a0)] [] (.d (TValue.D r)) [] := by
  unfold value_Str at h
  obtain rfl := si h
  exact runF_call mixed [] [] [] (ti) (by kernel_rfl)
theorem value_Bool_ok (a0 : Bool) (r : TValue) (h : value_Bool a0 = some r) : ACall Try.prog 91 [.d (D.b a0)] [] (.d (TValue.D r)) [] := by
  unfold value_Bool at h
  obtain rfl := si h
  exact runF_call mixed [] [] [] (ti) (by kernel_rfl)
theorem value_Right_ok (a0 : TValue) (r : Bool) (h : value_Right a0 = some r) : ACall Try.prog 87 [.d (TValue.D a0)] [] (.d (D.b r)) [] := by
  unfold value_Right at h
  rcases iS h with ⟨h1, h⟩ | ⟨h1, h⟩
  ·
   obtain ⟨r1, h2, h⟩ := bS h
   obtain rfl := si h
   exact runF_call mixed [(5, .bit true), (10, .ret (.d (TValue.D r1)))] [] [] (ai h1 (ai (value_Int_ok a0.int r1 h2) (ti))) (by kernel_rfl)
  ·
   rcases iS h with ⟨h3, h⟩ | ⟨h3, h⟩
   ·
    obtain ⟨r2, h4, h⟩ := bS h
    rcases iS h with ⟨h5, h⟩ | ⟨h5, h⟩
    ·
     obtain rfl := si h
     exact runF_call mixed [(5, .bit false), (12, .bit true), (17, .ret (.d (TValue.D r2))), (19, .bit true), (22, .int (a0.str.length : Int))] [] [] (ai h1 (ai h3 (ai (value_Str_ok a0.str r2 h4) (ai h5 (ai (len_str a0.str) (ti)))))) (by kernel_rfl)
    ·
     obtain rfl := si h
     exact runF_call mixed [(5, .bit false), (12, .bit true), (17, .ret (.d (TValue.D r2))), (19, .bit false)] [] [] (ai h1 (ai h3 (ai (value_Str_ok a0.str r2 h4) (ai h5 (ti))))) (by kernel_rfl)
   ·
    rcases iS h with ⟨h6, h⟩ | ⟨h6, h⟩
    ·
     obtain ⟨r3, h7, h⟩ := bS h
     obtain rfl := si h
     exact runF_call mixed [(5, .bit false), (12, .bit false), (25, .bit true), (30, .ret (.d (TValue.D r3)))] [] [] (ai h1 (ai h3 (ai h6 (ai (value_Bool_ok a0.bool r3 h7) (ti))))) (by kernel_rfl)
    ·
     obtain rfl := si h
     exact runF_call mixed [(5, .bit false), (12, .bit false), (25, .bit false)] [] [] (ai h1 (ai h3 (ai h6 (ti)))) (by kernel_rfl)
def binding_Right_l1_I (s0 : List TSlot) (s5 : List TSlot) (s6 : Int) (s7 : Int) : St := ⟨sp 42 0 [(0, .d ((D.l TSlot.D) s0)), (5, .d ((D.l TSlot.D) s5)), (6, .d ((D.i .i64) s6)), (7, .d ((D.i .i64) s7))], [], []⟩
def binding_Right_l1_O (s0 : List TSlot) (s5 : List TSlot) (s6 : Int) (o : Unit ⊕ Unit) : Ex × St := match o with
  | .inl o => (.exit 0, ⟨sp 42 0 [], [], []⟩)
  | .inr o => (.ret, ⟨sp 42 0 [(2, .d (D.b false))], [], []⟩)
theorem binding_Right_l1_rnd (rd : Option Nat) (s0 : List TSlot) (s5 : List TSlot) (s6 : Int) (s7 : Int) (o : (Int) ⊕ (Unit ⊕ Unit)) (h : binding_Right_l1_s s0 s5 s6 s7 = some o) : Arr Try.prog rd (fbody Try.prog 80) (0 :: [0, 1, 0, 1]) (binding_Right_l1_I s0 s5 s6 s7) (rR (fun s : Int => binding_Right_l1_I s0 s5 s6 s) (binding_Right_l1_O s0 s5 s6) o).1 (rR (fun s : Int => binding_Right_l1_I s0 s5 s6 s) (binding_Right_l1_O s0 s5 s6) o).2 := by
  unfold binding_Right_l1_s at h
  rcases iS h with ⟨h1, h⟩ | ⟨h1, h⟩
  ·
   obtain ⟨x1, h2, h⟩ := xS h
   rcases iS h with ⟨h3, h⟩ | ⟨h3, h⟩
   ·
    obtain rfl := si h
    exact runB_arr mixed [(8, .bit true), (10, .el (TSlot.D x1)), (15, .bit true)] [] [.live [2], .keep []] (ai h1 (ai (elem_map TSlot.D h2) (ai h3 (ti)))) (by kernel_rfl)
   ·
    rcases iS h with ⟨h4, h⟩ | ⟨h4, h⟩
    ·
     obtain rfl := si h
     exact runB_arr mixed [(8, .bit true), (10, .el (TSlot.D x1)), (15, .bit false), (20, .bit true)] [] [.live [2], .keep []] (ai h1 (ai (elem_map TSlot.D h2) (ai h3 (ai h4 (ti))))) (by kernel_rfl)
    ·
     obtain ⟨r2, h5, h⟩ := bS h
     rcases iS h with ⟨h6, h⟩ | ⟨h6, h⟩
     ·
      obtain rfl := si h
      exact runB_arr mixed [(8, .bit true), (10, .el (TSlot.D x1)), (15, .bit false), (20, .bit false), (23, .ret (.d (D.b r2))), (26, .bit true)] [] [.live [2], .keep []] (ai h1 (ai (elem_map TSlot.D h2) (ai h3 (ai h4 (ai (value_Right_ok x1.value r2 h5) (ai h6 (ti))))))) (by kernel_rfl)
     ·
      rcases iS h with ⟨h7, h⟩ | ⟨h7, h⟩
      ·
       obtain ⟨x3, h8, h⟩ := xS h
       rcases iS h with ⟨h9, h⟩ | ⟨h9, h⟩
       ·
        obtain rfl := si h
        exact runB_arr mixed [(8, .bit true), (10, .el (TSlot.D x1)), (15, .bit false), (20, .bit false), (23, .ret (.d (D.b r2))), (26, .bit false), (29, .bit true), (35, .el (TSlot.D x3)), (40, .bit true)] [] [.live [2], .keep []] (ai h1 (ai (elem_map TSlot.D h2) (ai h3 (ai h4 (ai (value_Right_ok x1.value r2 h5) (ai h6 (ai h7 (ai (elem_map TSlot.D h8) (ai h9 (ti)))))))))) (by kernel_rfl)
       ·
        obtain rfl := si h
        exact runB_arr mixed [(8, .bit true), (10, .el (TSlot.D x1)), (15, .bit false), (20, .bit false), (23, .ret (.d (D.b r2))), (26, .bit false), (29, .bit true), (35, .el (TSlot.D x3)), (40, .bit false)] [] [.live [0, 5, 6, 7], .keep []] (ai h1 (ai (elem_map TSlot.D h2) (ai h3 (ai h4 (ai (value_Right_ok x1.value r2 h5) (ai h6 (ai h7 (ai (elem_map TSlot.D h8) (ai h9 (ti)))))))))) (by kernel_rfl)
      ·
       obtain rfl := si h
       exact runB_arr mixed [(8, .bit true), (10, .el (TSlot.D x1)), (15, .bit false), (20, .bit false), (23, .ret (.d (D.b r2))), (26, .bit false), (29, .bit false)] [] [.live [0, 5, 6, 7], .keep []] (ai h1 (ai (elem_map TSlot.D h2) (ai h3 (ai h4 (ai (value_Right_ok x1.value r2 h5) (ai h6 (ai h7 (ti)))))))) (by kernel_rfl)
  ·
   obtain rfl := si h
   exact runB_arr mixed [(8, .bit false)] [] [.live [], .keep []] (ai h1 (ti)) (by kernel_rfl)
theorem binding_Right_l1_ok (rd : Option Nat) (s0 : List TSlot) (s5 : List TSlot) (s6 : Int) (s7 : Int) (t : Unit ⊕ Unit) (h : binding_Right_l1 s0 s5 s6 s7 = some t) : LpOf Try.prog rd (fbody Try.prog 80) [0, 1, 0, 1] (binding_Right_l1_I s0 s5 s6 s7) ((binding_Right_l1_O s0 s5 s6) t).1 ((binding_Right_l1_O s0 s5 s6) t).2 :=
  loopE_lpR (fun s : Int => binding_Right_l1_I s0 s5 s6 s) (binding_Right_l1_O s0 s5 s6) (by kernel_rfl) (fun t => isN_ne (by rcases t with (_ | _) <;> rfl)) (fun s o h => binding_Right_l1_rnd rd s0 s5 s6 s o h) (s := s7) (t := t) h
theorem binding_Right_ok (a0 : List TSlot) (r : Bool) (h : binding_Right a0 = some r) : ACall Try.prog 80 [.d ((D.l TSlot.D) a0)] [] (.d (D.b r)) [] := by
  unfold binding_Right at h
  obtain ⟨o4, h10, h⟩ := bS h
  replace h := sumE_some h
  rcases h with ⟨o5, rfl, h⟩ | ⟨o6, rfl, h⟩
  ·
   obtain rfl := si h
   exact runF_call mixed [(6, .int (a0.length : Int))] [⟨[0, 1, 0, 1], [.live [0, 5, 6, 7], .keep []], .exit 0, (binding_Right_l1_O a0 a0 (a0.length : Int) (Sum.inl o5)).2⟩] [] (ai (len_map TSlot.D a0) (ai (binding_Right_l1_ok none a0 a0 (a0.length : Int) 0 (Sum.inl o5) h10) (ti))) (by kernel_rfl)
  ·
   obtain rfl := si h
   exact runF_call mixed [(6, .int (a0.length : Int))] [⟨[0, 1, 0, 1], [.live [0, 5, 6, 7], .keep []], .ret, (binding_Right_l1_O a0 a0 (a0.length : Int) (Sum.inr o6)).2⟩] [] (ai (len_map TSlot.D a0) (ai (binding_Right_l1_ok none a0 a0 (a0.length : Int) 0 (Sum.inr o6) h10) (ti))) (by kernel_rfl)
def binding_Of_b7_I (s7 : Int) (s9 : List TSlot) (s10 : Int) (s11 : Int) (s22 : Bool) (w4 : List TSlot) (w6 : TSlot) : St := ⟨sp 42 0 [(4, .row 4), (6, .box 6 0), (7, .d ((D.i .i64) s7)), (9, .d ((D.l TSlot.D) s9)), (10, .d ((D.i .i64) s10)), (11, .d ((D.i .i64) s11)), (22, .d (D.b s22))], [(4, .rw 60 5 (w4.map TSlot.D)), (6, .cells ((cellsA (TSlot.D w6))))], []⟩
def binding_Of_b7_O (s7 : Int) (s9 : List TSlot) (s10 : Int) (s11 : Int) (s22 : Bool) (w4 : List TSlot) (w6 : TSlot) (o : (List TSlot) ⊕ Unit) : Ex × St := match o with
  | .inl o => (.normal, ⟨sp 42 0 [(4, .row 4), (9, .d ((D.l TSlot.D) s9)), (10, .d ((D.i .i64) s10)), (11, .d ((D.i .i64) s11))], [(4, .rw 60 5 (o.map TSlot.D))], []⟩)
  | .inr o => (.ret, ⟨sp 42 0 [(2, .nil), (3, .d (D.b false))], [], []⟩)
theorem binding_Of_b7_ok (rd : Option Nat) (s7 : Int) (s9 : List TSlot) (s10 : Int) (s11 : Int) (s22 : Bool) (w4 : List TSlot) (w6 : TSlot) (o : (List TSlot) ⊕ Unit) (h : binding_Of_b7 s7 s9 s10 s11 s22 w4 w6 = some o) : LpOf Try.prog rd (fbody Try.prog 73) [1, 0, 1, 1, 0, 0, 1, 1, 0, 0, 1, 0, 1, 1] (binding_Of_b7_I s7 s9 s10 s11 s22 w4 w6) (binding_Of_b7_O s7 s9 s10 s11 s22 w4 w6 o).1 (binding_Of_b7_O s7 s9 s10 s11 s22 w4 w6 o).2 := by
  unfold binding_Of_b7 at h
  cases s22 with
  | true =>
   replace h := iteT h
   obtain ⟨r16, h15, h⟩ := bS h
   obtain rfl := si h
   exact (runB_arr mixed [(29, .cx true [(0, 4), (1, 28)] [(2, 29)] (.row 2) [(2, .rw 60 5 (r16.map TSlot.D))])] [] [.live [4, 9, 10, 11], .keep [29], .ren 29 4, .sort] (ai (nc_ok TSlot.D [w6]) (ai (slices_Insert_Slot_Slot_v4_ok s7 w4 [w6] r16 h15) (ti))) (by kernel_rfl)).lp
  | false =>
   replace h := iteF h
   obtain ⟨h16, h⟩ := cS h
   obtain ⟨x17, h17, h⟩ := xS h
   rcases iS h with ⟨h18, h⟩ | ⟨h18, h⟩
   ·
    obtain rfl := si h
    exact (runB_arr mixed [(34, .el (TSlot.D x17)), (30, .bit true)] [] [.live [2, 3], .keep []] (ai h16.1 (ai (le_map TSlot.D h16.2) (ai (elem_ep TSlot.D h17) (ai h18 (ti))))) (by kernel_rfl)).lp
   ·
    obtain rfl := si h
    exact (runB_arr mixed [(34, .el (TSlot.D x17)), (30, .bit false)] [] [.live [4, 9, 10, 11], .keep [4]] (ai h16.1 (ai (le_map TSlot.D h16.2) (ai (elem_ep TSlot.D h17) (ai h18 (ti))))) (by kernel_rfl)).lp
def binding_Of_b6_I (s7 : Int) (s8 : Bool) (s9 : List TSlot) (s10 : Int) (s11 : Int) (w4 : List TSlot) (w6 : TSlot) : St := ⟨sp 42 0 [(4, .row 4), (6, .box 6 0), (7, .d ((D.i .i64) s7)), (8, .d (D.b s8)), (9, .d ((D.l TSlot.D) s9)), (10, .d ((D.i .i64) s10)), (11, .d ((D.i .i64) s11))], [(4, .rw 60 5 (w4.map TSlot.D)), (6, .cells ((cellsA (TSlot.D w6))))], []⟩
def binding_Of_b6_O (s7 : Int) (s8 : Bool) (s9 : List TSlot) (s10 : Int) (s11 : Int) (w4 : List TSlot) (w6 : TSlot) (o : (List TSlot) ⊕ Unit) : Ex × St := match o with
  | .inl o => (.normal, ⟨sp 42 0 [(4, .row 4), (9, .d ((D.l TSlot.D) s9)), (10, .d ((D.i .i64) s10)), (11, .d ((D.i .i64) s11))], [(4, .rw 60 5 (o.map TSlot.D))], []⟩)
  | .inr o => (.ret, ⟨sp 42 0 [(2, .nil), (3, .d (D.b false))], [], []⟩)
theorem binding_Of_b6_ok (rd : Option Nat) (s7 : Int) (s8 : Bool) (s9 : List TSlot) (s10 : Int) (s11 : Int) (w4 : List TSlot) (w6 : TSlot) (o : (List TSlot) ⊕ Unit) (h : binding_Of_b6 s7 s8 s9 s10 s11 w4 w6 = some o) : LpOf Try.prog rd (fbody Try.prog 73) [1, 1, 0, 0, 1, 1, 0, 0, 1, 0, 1, 1] (binding_Of_b6_I s7 s8 s9 s10 s11 w4 w6) (binding_Of_b6_O s7 s8 s9 s10 s11 w4 w6 o).1 (binding_Of_b6_O s7 s8 s9 s10 s11 w4 w6 o).2 := by
  unfold binding_Of_b6 at h
  obtain ⟨o18, h19, h⟩ := bS h
  replace h := sumE_some h
  rcases h with ⟨o19, rfl, h⟩ | ⟨o20, rfl, h⟩
  ·
   obtain rfl := si h
   exact (runB_arr mixed [] [⟨[1, 0, 1, 1, 0, 0, 1, 1, 0, 0, 1, 0, 1, 1], [.live [4, 6, 7, 9, 10, 11, 22], .keep [4, 6]], .normal, (binding_Of_b7_O s7 s9 s10 s11 (!s8) w4 w6 (Sum.inl o19)).2⟩] [.live [4, 9, 10, 11], .keep [4]] (ai (binding_Of_b7_ok rd s7 s9 s10 s11 (!s8) w4 w6 (Sum.inl o19) h19) (ti)) (by kernel_rfl)).lp
  ·
   obtain rfl := si h
   exact (runB_arr mixed [] [⟨[1, 0, 1, 1, 0, 0, 1, 1, 0, 0, 1, 0, 1, 1], [.live [4, 6, 7, 9, 10, 11, 22], .keep [4, 6]], .ret, (binding_Of_b7_O s7 s9 s10 s11 (!s8) w4 w6 (Sum.inr o20)).2⟩] [.live [2, 3], .keep []] (ai (binding_Of_b7_ok rd s7 s9 s10 s11 (!s8) w4 w6 (Sum.inr o20) h19) (ti)) (by kernel_rfl)).lp
def binding_Of_b5_I (s9 : List TSlot) (s10 : Int) (s11 : Int) (w4 : List TSlot) : St := ⟨sp 42 0 [(4, .row 4), (9, .d ((D.l TSlot.D) s9)), (10, .d ((D.i .i64) s10)), (11, .d ((D.i .i64) s11))], [(4, .rw 60 5 (w4.map TSlot.D))], []⟩
def binding_Of_b5_O (s9 : List TSlot) (s10 : Int) (s11 : Int) (w4 : List TSlot) (o : (List TSlot) ⊕ Unit) : Ex × St := match o with
  | .inl o => (.normal, ⟨sp 42 0 [(4, .row 4), (9, .d ((D.l TSlot.D) s9)), (10, .d ((D.i .i64) s10)), (11, .d ((D.i .i64) s11))], [(4, .rw 60 5 (o.map TSlot.D))], []⟩)
  | .inr o => (.ret, ⟨sp 42 0 [(2, .nil), (3, .d (D.b false))], [], []⟩)
theorem binding_Of_b5_ok (rd : Option Nat) (s9 : List TSlot) (s10 : Int) (s11 : Int) (w4 : List TSlot) (o : (List TSlot) ⊕ Unit) (h : binding_Of_b5 s9 s10 s11 w4 = some o) : LpOf Try.prog rd (fbody Try.prog 73) [0, 1, 1, 0, 0, 1, 0, 1, 1] (binding_Of_b5_I s9 s10 s11 w4) (binding_Of_b5_O s9 s10 s11 w4 o).1 (binding_Of_b5_O s9 s10 s11 w4 o).2 := by
  unfold binding_Of_b5 at h
  obtain ⟨x14, h12, h⟩ := xS h
  obtain ⟨r15, h13, h⟩ := bS h
  obtain ⟨o21, h20, h⟩ := bS h
  replace h := sumE_some h
  rcases h with ⟨o22, rfl, h⟩ | ⟨o23, rfl, h⟩
  ·
   obtain rfl := si h
   exact (runB_arr mixed [(13, .el (TSlot.D x14)), (19, .lend [4] (.tup [.d ((D.i .i64) r15.1), .d (D.b r15.2)]))] [⟨[1, 1, 0, 0, 1, 1, 0, 0, 1, 0, 1, 1], [.live [4, 6, 7, 8, 9, 10, 11], .keep [4, 6]], .normal, (binding_Of_b6_O r15.1 r15.2 s9 s10 s11 w4 x14 (Sum.inl o22)).2⟩] [.live [4, 9, 10, 11], .keep [4]] (ai (elem_map TSlot.D h12) (ai (binding_find_ok w4 x14.var r15 h13) (ai (binding_Of_b6_ok rd r15.1 r15.2 s9 s10 s11 w4 x14 (Sum.inl o22) h20) (ti)))) (by kernel_rfl)).lp
  ·
   obtain rfl := si h
   exact (runB_arr mixed [(13, .el (TSlot.D x14)), (19, .lend [4] (.tup [.d ((D.i .i64) r15.1), .d (D.b r15.2)]))] [⟨[1, 1, 0, 0, 1, 1, 0, 0, 1, 0, 1, 1], [.live [4, 6, 7, 8, 9, 10, 11], .keep [4, 6]], .ret, (binding_Of_b6_O r15.1 r15.2 s9 s10 s11 w4 x14 (Sum.inr o23)).2⟩] [.live [2, 3], .keep []] (ai (elem_map TSlot.D h12) (ai (binding_find_ok w4 x14.var r15 h13) (ai (binding_Of_b6_ok rd r15.1 r15.2 s9 s10 s11 w4 x14 (Sum.inr o23) h20) (ti)))) (by kernel_rfl)).lp
def binding_Of_l1_I (s9 : List TSlot) (s10 : Int) (s11 : Int) (w4 : List TSlot) : St := ⟨sp 42 0 [(4, .row 4), (9, .d ((D.l TSlot.D) s9)), (10, .d ((D.i .i64) s10)), (11, .d ((D.i .i64) s11))], [(4, .rw 60 5 (w4.map TSlot.D))], []⟩
def binding_Of_l1_O (s9 : List TSlot) (s10 : Int) (o : (List TSlot) ⊕ Unit) : Ex × St := match o with
  | .inl o => (.exit 0, ⟨sp 42 0 [(4, .row 4)], [(4, .rw 60 5 (o.map TSlot.D))], []⟩)
  | .inr o => (.ret, ⟨sp 42 0 [(2, .nil), (3, .d (D.b false))], [], []⟩)
theorem binding_Of_l1_rnd (rd : Option Nat) (s9 : List TSlot) (s10 : Int) (s11 : Int) (w4 : List TSlot) (o : (Int × List TSlot) ⊕ ((List TSlot) ⊕ Unit)) (h : binding_Of_l1_s s9 s10 s11 w4 = some o) : Arr Try.prog rd (fbody Try.prog 73) (0 :: [0, 1, 0, 1, 1]) (binding_Of_l1_I s9 s10 s11 w4) (rR (fun s : Int × List TSlot => binding_Of_l1_I s9 s10 s.1 s.2) (binding_Of_l1_O s9 s10) o).1 (rR (fun s : Int × List TSlot => binding_Of_l1_I s9 s10 s.1 s.2) (binding_Of_l1_O s9 s10) o).2 := by
  unfold binding_Of_l1_s at h
  rcases iS h with ⟨h11, h⟩ | ⟨h11, h⟩
  ·
   obtain ⟨o24, h21, h⟩ := bS h
   replace h := sumE_some h
   rcases h with ⟨o25, rfl, h⟩ | ⟨o26, rfl, h⟩
   ·
    obtain rfl := si h
    exact runB_arr mixed [(12, .bit true)] [⟨[0, 1, 1, 0, 0, 1, 0, 1, 1], [.live [4, 9, 10, 11], .keep [4]], .normal, (binding_Of_b5_O s9 s10 s11 w4 (Sum.inl o25)).2⟩] [.live [4, 9, 10, 11], .keep [4]] (ai h11 (ai (binding_Of_b5_ok rd s9 s10 s11 w4 (Sum.inl o25) h21) (ti))) (by kernel_rfl)
   ·
    obtain rfl := si h
    exact runB_arr mixed [(12, .bit true)] [⟨[0, 1, 1, 0, 0, 1, 0, 1, 1], [.live [4, 9, 10, 11], .keep [4]], .ret, (binding_Of_b5_O s9 s10 s11 w4 (Sum.inr o26)).2⟩] [.live [2, 3], .keep []] (ai h11 (ai (binding_Of_b5_ok rd s9 s10 s11 w4 (Sum.inr o26) h21) (ti))) (by kernel_rfl)
  ·
   obtain rfl := si h
   exact runB_arr mixed [(12, .bit false)] [] [.live [4], .keep [4]] (ai h11 (ti)) (by kernel_rfl)
theorem binding_Of_l1_ok (rd : Option Nat) (s9 : List TSlot) (s10 : Int) (s11 : Int) (w4 : List TSlot) (t : (List TSlot) ⊕ Unit) (h : binding_Of_l1 s9 s10 s11 w4 = some t) : LpOf Try.prog rd (fbody Try.prog 73) [0, 1, 0, 1, 1] (binding_Of_l1_I s9 s10 s11 w4) ((binding_Of_l1_O s9 s10) t).1 ((binding_Of_l1_O s9 s10) t).2 :=
  loopE_lpR (fun s : Int × List TSlot => binding_Of_l1_I s9 s10 s.1 s.2) (binding_Of_l1_O s9 s10) (by kernel_rfl) (fun t => isN_ne (by rcases t with (_ | _) <;> rfl)) (fun s o h => binding_Of_l1_rnd rd s9 s10 s.1 s.2 o h) (s := (s11, w4)) (t := t) h
theorem binding_Of_ok (a0 : List TSlot) (r : List TSlot × Bool) (h : binding_Of a0 = some r) : ACall Try.prog 73 [.d ((D.l TSlot.D) a0)] [] (.tup [.d ((D.l TSlot.D) r.1), .d (D.b r.2)]) [] := by
  unfold binding_Of at h
  obtain ⟨o27, h22, h⟩ := bS h
  replace h := sumE_some h
  rcases h with ⟨o28, rfl, h⟩ | ⟨o29, rfl, h⟩
  ·
   obtain ⟨r30, h23, h⟩ := bS h
   rcases iS h with ⟨h24, h⟩ | ⟨h24, h⟩
   ·
    obtain rfl := si h
    exact runF_call mixed [(10, .int (a0.length : Int)), (39, .lend [4] (.d (D.b r30))), (40, .bit true)] [⟨[0, 1, 0, 1, 1], [.live [4, 9, 10, 11], .keep [], .nilw 4 4 60 5, .sort], .exit 0, (binding_Of_l1_O a0 (a0.length : Int) (Sum.inl o28)).2⟩] [] (ai (len_map TSlot.D a0) (ai (binding_Of_l1_ok none a0 (a0.length : Int) 0 ([] : List TSlot) (Sum.inl o28) h22) (ai (binding_Right_ok o28 r30 h23) (ai h24 (ti))))) (by kernel_rfl)
   ·
    obtain rfl := si h
    exact runF_call mixed [(10, .int (a0.length : Int)), (39, .lend [4] (.d (D.b r30))), (40, .bit false)] [⟨[0, 1, 0, 1, 1], [.live [4, 9, 10, 11], .keep [], .nilw 4 4 60 5, .sort], .exit 0, (binding_Of_l1_O a0 (a0.length : Int) (Sum.inl o28)).2⟩] [.frz 4] (ai (len_map TSlot.D a0) (ai (binding_Of_l1_ok none a0 (a0.length : Int) 0 ([] : List TSlot) (Sum.inl o28) h22) (ai (binding_Right_ok o28 r30 h23) (ai h24 (ti))))) (by kernel_rfl)
  ·
   obtain rfl := si h
   exact runF_call mixed [(10, .int (a0.length : Int))] [⟨[0, 1, 0, 1, 1], [.live [4, 9, 10, 11], .keep [], .nilw 4 4 60 5, .sort], .ret, (binding_Of_l1_O a0 (a0.length : Int) (Sum.inr o29)).2⟩] [] (ai (len_map TSlot.D a0) (ai (binding_Of_l1_ok none a0 (a0.length : Int) 0 ([] : List TSlot) (Sum.inr o29) h22) (ti))) (by kernel_rfl)
theorem binding_Union_ok (a0 : List TSlot) (a1 : List TSlot) (r : List TSlot × Bool) (h : binding_Union a0 a1 = some r) : ACall Try.prog 61 [.d ((D.l TSlot.D) a0), .d ((D.l TSlot.D) a1)] [] (.tup [.d ((D.l TSlot.D) r.1), .d (D.b r.2)]) [] := by
  unfold binding_Union at h
  obtain ⟨r1, h1, h⟩ := bS h
  rcases iS h with ⟨h2, h⟩ | ⟨h2, h⟩
  ·
   obtain rfl := si h
   exact runF_call mixed [(8, .ret (.d (D.b r1))), (9, .bit true)] [] [] (ai (binding_Fits_ok a0 a1 r1 h1) (ai h2 (ti))) (by kernel_rfl)
  ·
   obtain ⟨r2, h3, h⟩ := bS h
   obtain ⟨r3, h4, h⟩ := bS h
   obtain rfl := si h
   exact runF_call mixed [(8, .ret (.d (D.b r1))), (9, .bit false), (13, .ret (.d ((D.l TSlot.D) r2))), (14, .ret (.tup [.d ((D.l TSlot.D) r3.1), .d (D.b r3.2)]))] [] [] (ai (binding_Fits_ok a0 a1 r1 h1) (ai h2 (ai (nc_ok (D.l TSlot.D) [a0, a1]) (ai (slices_Concat_Slot_Slot_v2_ok [a0, a1] r2 h3) (ai (binding_Of_ok r2 r3 h4) (ti)))))) (by kernel_rfl)
def extend_unions_1_enc (x : (List TSlot)) : List A := [.d ((D.l TSlot.D) x)]
def extend_unions_1_l1_I {φ : Type} (l : Nat) (F : φ → Bx) (s2 : List TSlot) (s8 : List (List TSlot)) (s9 : Int) (f0 : φ) (s10 : Int) : St := ⟨sp 28 0 [(0, .d (.v (.func (.yield l) #[] #[]))), (2, .eptr (D.cells ((D.l TSlot.D) s2))), (8, .d ((D.l (D.l TSlot.D)) s8)), (9, .d ((D.i .i64) s9)), (10, .d ((D.i .i64) s10))], [], (F f0)⟩
def extend_unions_1_l1_O {φ : Type} (l : Nat) (F : φ → Bx) (s2 : List TSlot) (s8 : List (List TSlot)) (s9 : Int) (o : φ ⊕ φ) : Ex × St := match o with
  | .inl o => (.exit 0, ⟨sp 28 0 [], [], (F o)⟩)
  | .inr o => (.ret, ⟨sp 28 0 [], [], (F o)⟩)
theorem extend_unions_1_l1_rnd (rd : Option Nat) {φ : Type} (step : φ → (List TSlot) → Option (φ × Bool)) (l : Nat) (F : φ → Bx) (N : List Nat) (hF : ∀ f, FOk (F f) N) (hY : ∀ f x r, step f x = some r → AYield Try.prog l (extend_unions_1_enc x) (F f) (.d (D.b r.2)) (F r.1)) (s2 : List TSlot) (s8 : List (List TSlot)) (s9 : Int) (f0 : φ) (s10 : Int) (o : (φ × Int) ⊕ (φ ⊕ φ)) (h : extend_unions_1_l1_s step s2 s8 s9 f0 s10 = some o) : Arr Try.prog rd (fbody Try.prog 60) (0 :: [0, 1]) (extend_unions_1_l1_I l F s2 s8 s9 f0 s10) (rR (fun s : φ × Int => extend_unions_1_l1_I l F s2 s8 s9 s.1 s.2) (extend_unions_1_l1_O l F s2 s8 s9) o).1 (rR (fun s : φ × Int => extend_unions_1_l1_I l F s2 s8 s9 s.1 s.2) (extend_unions_1_l1_O l F s2 s8 s9) o).2 := by
  unfold extend_unions_1_l1_s at h
  rcases iS h with ⟨h1, h⟩ | ⟨h1, h⟩
  ·
   obtain ⟨x1, h2, h⟩ := xS h
   obtain ⟨r2, h3, h⟩ := bS h
   rcases iS h with ⟨h4, h⟩ | ⟨h4, h⟩
   ·
    rcases yldE_some h with ⟨f3, h5, h⟩ | ⟨f4, h6, h⟩
    ·
     obtain rfl := si h
     exact runB_arr mixed [(11, .bit true), (12, .el ((D.l TSlot.D) x1)), (17, .ret (.tup [.d ((D.l TSlot.D) r2.1), .d (D.b r2.2)])), (21, .bit true), (24, .own false (.d (D.b true)) [] (F f3))] [] [.live [0, 2, 8, 9, 10], .keep []] (ai h1 (ai (elem_map (D.l TSlot.D) h2) (ai (binding_Union_ok x1 s2 r2 h3) (ai h4 (ai (hY f0 r2.1 (f3, true) h5) (ai (Or.inr ⟨(hF _).nms.trans (hF _).nms.symm, (hF _).far⟩ : F f3 = F f0 ∨ (names (F f3) = names (F f0) ∧ Far (F f3))) (ti))))))) (by kernel_rfl)
    ·
     obtain rfl := si h
     exact runB_arr mixed [(11, .bit true), (12, .el ((D.l TSlot.D) x1)), (17, .ret (.tup [.d ((D.l TSlot.D) r2.1), .d (D.b r2.2)])), (21, .bit true), (24, .own false (.d (D.b false)) [] (F f4))] [] [.live [], .keep []] (ai h1 (ai (elem_map (D.l TSlot.D) h2) (ai (binding_Union_ok x1 s2 r2 h3) (ai h4 (ai (hY f0 r2.1 (f4, false) h6) (ai (Or.inr ⟨(hF _).nms.trans (hF _).nms.symm, (hF _).far⟩ : F f4 = F f0 ∨ (names (F f4) = names (F f0) ∧ Far (F f4))) (ti))))))) (by kernel_rfl)
   ·
    obtain rfl := si h
    exact runB_arr mixed [(11, .bit true), (12, .el ((D.l TSlot.D) x1)), (17, .ret (.tup [.d ((D.l TSlot.D) r2.1), .d (D.b r2.2)])), (21, .bit false)] [] [.live [0, 2, 8, 9, 10], .keep []] (ai h1 (ai (elem_map (D.l TSlot.D) h2) (ai (binding_Union_ok x1 s2 r2 h3) (ai h4 (ti))))) (by kernel_rfl)
  ·
   obtain rfl := si h
   exact runB_arr mixed [(11, .bit false)] [] [.live [], .keep []] (ai h1 (ti)) (by kernel_rfl)
theorem extend_unions_1_l1_ok (rd : Option Nat) {φ : Type} (step : φ → (List TSlot) → Option (φ × Bool)) (l : Nat) (F : φ → Bx) (N : List Nat) (hF : ∀ f, FOk (F f) N) (hY : ∀ f x r, step f x = some r → AYield Try.prog l (extend_unions_1_enc x) (F f) (.d (D.b r.2)) (F r.1)) (s2 : List TSlot) (s8 : List (List TSlot)) (s9 : Int) (f0 : φ) (s10 : Int) (t : φ ⊕ φ) (h : extend_unions_1_l1 step s2 s8 s9 f0 s10 = some t) : LpOf Try.prog rd (fbody Try.prog 60) [0, 1] (extend_unions_1_l1_I l F s2 s8 s9 f0 s10) ((extend_unions_1_l1_O l F s2 s8 s9) t).1 ((extend_unions_1_l1_O l F s2 s8 s9) t).2 :=
  loopE_lpR (fun s : φ × Int => extend_unions_1_l1_I l F s2 s8 s9 s.1 s.2) (extend_unions_1_l1_O l F s2 s8 s9) (by kernel_rfl) (fun t => isN_ne (by rcases t with (_ | _) <;> rfl)) (fun s o h => extend_unions_1_l1_rnd rd step l F N hF hY s2 s8 s9 s.1 s.2 o h) (s := (f0, s10)) (t := t) h
theorem extend_unions_1_ok {φ : Type} (step : φ → (List TSlot) → Option (φ × Bool)) (a1 : List (List TSlot)) (a2 : List TSlot) (f0 : φ) (f1 : φ) (h : extend_unions_1 step a1 a2 f0 = some f1) : AIt Try.prog 60 [.eptr (D.cells ((D.l (D.l TSlot.D)) a1)), .eptr (D.cells ((D.l TSlot.D) a2))] extend_unions_1_enc step f0 f1 := by
  intro l F N hF hY
  refine ⟨.tup [], ?_⟩
  unfold extend_unions_1 at h
  obtain ⟨o5, h7, h⟩ := bS h
  replace h := sumE_some h
  rcases h with ⟨o6, rfl, h⟩ | ⟨o7, rfl, h⟩
  ·
   obtain rfl := si h
   exact runI_call mixed [(9, .int (a1.length : Int))] [⟨[0, 1], [.live [0, 2, 8, 9, 10], .keep []], .exit 0, (extend_unions_1_l1_O l F a2 a1 (a1.length : Int) (Sum.inl o6)).2⟩] [] (hF _).far (hF _).cls (ai (len_map (D.l TSlot.D) a1) (ai (extend_unions_1_l1_ok none step l F N hF hY a2 a1 (a1.length : Int) f0 0 (Sum.inl o6) h7) (ti))) (by kernel_rfl)
  ·
   obtain rfl := si h
   exact runI_call mixed [(9, .int (a1.length : Int))] [⟨[0, 1], [.live [0, 2, 8, 9, 10], .keep []], .ret, (extend_unions_1_l1_O l F a2 a1 (a1.length : Int) (Sum.inr o7)).2⟩] [] (hF _).far (hF _).cls (ai (len_map (D.l TSlot.D) a1) (ai (extend_unions_1_l1_ok none step l F N hF hY a2 a1 (a1.length : Int) f0 0 (Sum.inr o7) h7) (ti))) (by kernel_rfl)
theorem slices_Clone_Slot_Slot_v3_ok (l r : List (List TSlot)) (h : slices_Clone_Slot_Slot_v3 l = some r) : ACall Try.prog 63 [.row 0] [(0, .rw 23 1 (l.map (D.l TSlot.D)))] (.row 1) [(0, .rw 23 1 (l.map (D.l TSlot.D))), (1, .rw 23 1 (r.map (D.l TSlot.D)))] :=
  cloneE_ko (ρ := ⟨fun _ => 63, fun n => if n = 4 then 4 else if n = 22 then 22 else 23, id⟩) (by_ := 24) (D.l TSlot.D) rfl rfl (cloneL mixed ⟨ "slices.Clone[[][]proctor/api.Slot,[]proctor/api.Slot]", by decide, (Try.func63).trans (by kernel_rfl)⟩ Try.underlying4 Try.underlying22 (by kernel_rfl) (by kernel_rfl) (by kernel_rfl) (by kernel_rfl)) (by kernel_rfl) (by decide) l r h
theorem domain_Set_Slot_All_v3_ok (w1 : List (List TSlot)) (r : List (List TSlot) × List (List TSlot)) (h : domain_Set_Slot_All_v3 w1 = some r) : ACall Try.prog 40 [.box 0 0] [(0, .cells ([.row 1, .clo (.func 35) [] []])), (1, .rw 23 1 (w1.map (D.l TSlot.D)))] (.row 2) [(0, .cells ([.row 3, .clo (.func 35) [] []])), (2, .rw 23 1 (r.1.map (D.l TSlot.D))), (3, .rw 23 1 (r.2.map (D.l TSlot.D)))] := by
  unfold domain_Set_Slot_All_v3 at h
  obtain ⟨r1, h1, h⟩ := bS h
  obtain rfl := si h
  exact runX_call mixed (fun us => [(9, .cx true [(0, 1)] [(1, 9)] (.row 1) [(0, .rw 23 1 (w1.map (D.l TSlot.D))), (1, .rw 23 1 (r1.map (D.l TSlot.D)))])]) (fun us => []) [.live [2], .keep [0, 1, 9, 997], .ren 1 3, .ren 9 2, .sort] [0] (fun us => ai (slices_Clone_Slot_Slot_v3_ok w1 r1 h1) (ti)) (by kernel_rfl)
def slices_Equal_Slot_Slot_l1_I (s0 : List TSlot) (s1 : List TSlot) (s12 : Int) (s13 : Int) : St := ⟨sp 26 0 [(0, .d ((D.l TSlot.D) s0)), (1, .d ((D.l TSlot.D) s1)), (12, .d ((D.i .i64) s12)), (13, .d ((D.i .i64) s13))], [], []⟩
def slices_Equal_Slot_Slot_l1_O (s0 : List TSlot) (s1 : List TSlot) (s12 : Int) (o : Unit ⊕ Unit) : Ex × St := match o with
  | .inl o => (.exit 0, ⟨sp 26 0 [], [], []⟩)
  | .inr o => (.ret, ⟨sp 26 0 [(4, .d (D.b false))], [], []⟩)
theorem slices_Equal_Slot_Slot_l1_rnd (rd : Option Nat) (s0 : List TSlot) (s1 : List TSlot) (s12 : Int) (s13 : Int) (o : (Int) ⊕ (Unit ⊕ Unit)) (h : slices_Equal_Slot_Slot_l1_s s0 s1 s12 s13 = some o) : Arr Try.prog rd (fbody Try.prog 65) (0 :: [0, 1, 0, 1, 1]) (slices_Equal_Slot_Slot_l1_I s0 s1 s12 s13) (rR (fun s : Int => slices_Equal_Slot_Slot_l1_I s0 s1 s12 s) (slices_Equal_Slot_Slot_l1_O s0 s1 s12) o).1 (rR (fun s : Int => slices_Equal_Slot_Slot_l1_I s0 s1 s12 s) (slices_Equal_Slot_Slot_l1_O s0 s1 s12) o).2 := by
  unfold slices_Equal_Slot_Slot_l1_s at h
  rcases iS h with ⟨h2, h⟩ | ⟨h2, h⟩
  ·
   obtain ⟨x1, h3, h⟩ := xS h
   obtain ⟨x2, h4, h⟩ := xS h
   rcases iS h with ⟨h5, h⟩ | ⟨h5, h⟩
   ·
    obtain rfl := si h
    exact runB_arr mixed [(14, .bit true), (18, .el (TSlot.D x1)), (22, .el (TSlot.D x2)), (24, .bit true)] [] [.live [4], .keep []] (ai h2 (ai (elem_map TSlot.D h3) (ai (elem_map TSlot.D h4) (ai h5 (ti))))) (by kernel_rfl)
   ·
    obtain rfl := si h
    exact runB_arr mixed [(14, .bit true), (18, .el (TSlot.D x1)), (22, .el (TSlot.D x2)), (24, .bit false)] [] [.live [0, 1, 12, 13], .keep []] (ai h2 (ai (elem_map TSlot.D h3) (ai (elem_map TSlot.D h4) (ai h5 (ti))))) (by kernel_rfl)
  ·
   obtain rfl := si h
   exact runB_arr mixed [(14, .bit false)] [] [.live [], .keep []] (ai h2 (ti)) (by kernel_rfl)
theorem slices_Equal_Slot_Slot_l1_ok (rd : Option Nat) (s0 : List TSlot) (s1 : List TSlot) (s12 : Int) (s13 : Int) (t : Unit ⊕ Unit) (h : slices_Equal_Slot_Slot_l1 s0 s1 s12 s13 = some t) : LpOf Try.prog rd (fbody Try.prog 65) [0, 1, 0, 1, 1] (slices_Equal_Slot_Slot_l1_I s0 s1 s12 s13) ((slices_Equal_Slot_Slot_l1_O s0 s1 s12) t).1 ((slices_Equal_Slot_Slot_l1_O s0 s1 s12) t).2 :=
  loopE_lpR (fun s : Int => slices_Equal_Slot_Slot_l1_I s0 s1 s12 s) (slices_Equal_Slot_Slot_l1_O s0 s1 s12) (by kernel_rfl) (fun t => isN_ne (by rcases t with (_ | _) <;> rfl)) (fun s o h => slices_Equal_Slot_Slot_l1_rnd rd s0 s1 s12 s o h) (s := s13) (t := t) h
theorem slices_Equal_Slot_Slot_ok (a0 : List TSlot) (a1 : List TSlot) (r : Bool) (h : slices_Equal_Slot_Slot a0 a1 = some r) : ACall Try.prog 65 [.d ((D.l TSlot.D) a0), .d ((D.l TSlot.D) a1)] [] (.d (D.b r)) [] := by
  unfold slices_Equal_Slot_Slot at h
  rcases iS h with ⟨h1, h⟩ | ⟨h1, h⟩
  ·
   obtain rfl := si h
   exact runF_call mixed [(7, .int (a0.length : Int)), (9, .int (a1.length : Int)), (10, .bit true)] [] [] (ai (len_map TSlot.D a0) (ai (len_map TSlot.D a1) (ai h1 (ti)))) (by kernel_rfl)
  ·
   obtain ⟨o3, h6, h⟩ := bS h
   replace h := sumE_some h
   rcases h with ⟨o4, rfl, h⟩ | ⟨o5, rfl, h⟩
   ·
    obtain rfl := si h
    exact runF_call mixed [(7, .int (a0.length : Int)), (9, .int (a1.length : Int)), (10, .bit false), (12, .int (a0.length : Int))] [⟨[0, 1, 0, 1, 1], [.live [0, 1, 12, 13], .keep []], .exit 0, (slices_Equal_Slot_Slot_l1_O a0 a1 (a0.length : Int) (Sum.inl o4)).2⟩] [] (ai (len_map TSlot.D a0) (ai (len_map TSlot.D a1) (ai h1 (ai (len_map TSlot.D a0) (ai (slices_Equal_Slot_Slot_l1_ok none a0 a1 (a0.length : Int) 0 (Sum.inl o4) h6) (ti)))))) (by kernel_rfl)
   ·
    obtain rfl := si h
    exact runF_call mixed [(7, .int (a0.length : Int)), (9, .int (a1.length : Int)), (10, .bit false), (12, .int (a0.length : Int))] [⟨[0, 1, 0, 1, 1], [.live [0, 1, 12, 13], .keep []], .ret, (slices_Equal_Slot_Slot_l1_O a0 a1 (a0.length : Int) (Sum.inr o5)).2⟩] [] (ai (len_map TSlot.D a0) (ai (len_map TSlot.D a1) (ai h1 (ai (len_map TSlot.D a0) (ai (slices_Equal_Slot_Slot_l1_ok none a0 a1 (a0.length : Int) 0 (Sum.inr o5) h6) (ti)))))) (by kernel_rfl)
theorem binding_Same_ok (a0 : List TSlot) (a1 : List TSlot) (r : Bool) (h : binding_Same a0 a1 = some r) : ACall Try.prog 45 [.d ((D.l TSlot.D) a0), .d ((D.l TSlot.D) a1)] [] (.d (D.b r)) [] := by
  unfold binding_Same at h
  obtain ⟨r1, h1, h⟩ := bS h
  obtain rfl := si h
  exact runF_call mixed [(7, .ret (.d (D.b r1)))] [] [] (ai (slices_Equal_Slot_Slot_ok a0 a1 r1 h1) (ti)) (by kernel_rfl)
theorem extend_Grow_1_1_ok (a0 : List TSlot) (a1 : List TSlot) (r : Bool) (h : extend_Grow_1_1 a0 a1 = some r) : ACall Try.prog 44 [.d ((D.l TSlot.D) a0), .eptr (D.cells ((D.l TSlot.D) a1))] [] (.d (D.b r)) [] := by
  unfold extend_Grow_1_1 at h
  obtain ⟨r1, h1, h⟩ := bS h
  obtain rfl := si h
  exact runF_call mixed [(6, .ret (.d (D.b r1)))] [] [] (ai (binding_Same_ok a0 a1 r1 h1) (ti)) (by kernel_rfl)
def slices_IndexFunc_Slot_Slot_v2_l1_I (s0 : List (List TSlot)) (s1 : List TSlot) (s7 : Int) (s8 : Int) : St := ⟨sp 19 0 [(0, .d ((D.l (D.l TSlot.D)) s0)), (1, .clo (.func 44) [] [.eptr (D.cells ((D.l TSlot.D) s1))]), (7, .d ((D.i .i64) s7)), (8, .d ((D.i .i64) s8))], [], []⟩
def slices_IndexFunc_Slot_Slot_v2_l1_O (s0 : List (List TSlot)) (s1 : List TSlot) (s7 : Int) (o : Unit ⊕ Int) : Ex × St := match o with
  | .inl o => (.exit 0, ⟨sp 19 0 [], [], []⟩)
  | .inr o => (.ret, ⟨sp 19 0 [(4, .d ((D.i .i64) o))], [], []⟩)
theorem slices_IndexFunc_Slot_Slot_v2_l1_rnd (rd : Option Nat) (s0 : List (List TSlot)) (s1 : List TSlot) (s7 : Int) (s8 : Int) (o : (Int) ⊕ (Unit ⊕ Int)) (h : slices_IndexFunc_Slot_Slot_v2_l1_s s0 s1 s7 s8 = some o) : Arr Try.prog rd (fbody Try.prog 64) (0 :: [0, 1, 0, 1]) (slices_IndexFunc_Slot_Slot_v2_l1_I s0 s1 s7 s8) (rR (fun s : Int => slices_IndexFunc_Slot_Slot_v2_l1_I s0 s1 s7 s) (slices_IndexFunc_Slot_Slot_v2_l1_O s0 s1 s7) o).1 (rR (fun s : Int => slices_IndexFunc_Slot_Slot_v2_l1_I s0 s1 s7 s) (slices_IndexFunc_Slot_Slot_v2_l1_O s0 s1 s7) o).2 := by
  unfold slices_IndexFunc_Slot_Slot_v2_l1_s at h
  rcases iS h with ⟨h1, h⟩ | ⟨h1, h⟩
  ·
   obtain ⟨x1, h2, h⟩ := xS h
   obtain ⟨r2, h3, h⟩ := bS h
   cases r2 with
   | true =>
    replace h := iteT h
    obtain rfl := si h
    exact runB_arr mixed [(9, .bit true), (14, .el ((D.l TSlot.D) x1)), (16, .ret (.d (D.b true)))] [] [.live [4], .keep []] (ai h1 (ai (elem_map (D.l TSlot.D) h2) (ai (extend_Grow_1_1_ok x1 s1 true h3) (ti)))) (by kernel_rfl)
   | false =>
    replace h := iteF h
    obtain rfl := si h
    exact runB_arr mixed [(9, .bit true), (14, .el ((D.l TSlot.D) x1)), (16, .ret (.d (D.b false)))] [] [.live [0, 1, 7, 8], .keep []] (ai h1 (ai (elem_map (D.l TSlot.D) h2) (ai (extend_Grow_1_1_ok x1 s1 false h3) (ti)))) (by kernel_rfl)
  ·
   obtain rfl := si h
   exact runB_arr mixed [(9, .bit false)] [] [.live [], .keep []] (ai h1 (ti)) (by kernel_rfl)
theorem slices_IndexFunc_Slot_Slot_v2_l1_ok (rd : Option Nat) (s0 : List (List TSlot)) (s1 : List TSlot) (s7 : Int) (s8 : Int) (t : Unit ⊕ Int) (h : slices_IndexFunc_Slot_Slot_v2_l1 s0 s1 s7 s8 = some t) : LpOf Try.prog rd (fbody Try.prog 64) [0, 1, 0, 1] (slices_IndexFunc_Slot_Slot_v2_l1_I s0 s1 s7 s8) ((slices_IndexFunc_Slot_Slot_v2_l1_O s0 s1 s7) t).1 ((slices_IndexFunc_Slot_Slot_v2_l1_O s0 s1 s7) t).2 :=
  loopE_lpR (fun s : Int => slices_IndexFunc_Slot_Slot_v2_l1_I s0 s1 s7 s) (slices_IndexFunc_Slot_Slot_v2_l1_O s0 s1 s7) (by kernel_rfl) (fun t => isN_ne (by rcases t with (_ | _) <;> rfl)) (fun s o h => slices_IndexFunc_Slot_Slot_v2_l1_rnd rd s0 s1 s7 s o h) (s := s8) (t := t) h
theorem slices_IndexFunc_Slot_Slot_v2_ok (a0 : List (List TSlot)) (a1 : List TSlot) (r : Int) (h : slices_IndexFunc_Slot_Slot_v2 a0 a1 = some r) : ACall Try.prog 64 [.d ((D.l (D.l TSlot.D)) a0), .clo (.func 44) [] [.eptr (D.cells ((D.l TSlot.D) a1))]] [] (.d ((D.i .i64) r)) [] := by
  unfold slices_IndexFunc_Slot_Slot_v2 at h
  obtain ⟨o3, h5, h⟩ := bS h
  replace h := sumE_some h
  rcases h with ⟨o4, rfl, h⟩ | ⟨o5, rfl, h⟩
  ·
   obtain rfl := si h
   exact runF_call mixed [(7, .int (a0.length : Int))] [⟨[0, 1, 0, 1], [.live [0, 1, 7, 8], .keep []], .exit 0, (slices_IndexFunc_Slot_Slot_v2_l1_O a0 a1 (a0.length : Int) (Sum.inl o4)).2⟩] [] (ai (len_map (D.l TSlot.D) a0) (ai (slices_IndexFunc_Slot_Slot_v2_l1_ok none a0 a1 (a0.length : Int) 0 (Sum.inl o4) h5) (ti))) (by kernel_rfl)
  ·
   obtain rfl := si h
   exact runF_call mixed [(7, .int (a0.length : Int))] [⟨[0, 1, 0, 1], [.live [0, 1, 7, 8], .keep []], .ret, (slices_IndexFunc_Slot_Slot_v2_l1_O a0 a1 (a0.length : Int) (Sum.inr o5)).2⟩] [] (ai (len_map (D.l TSlot.D) a0) (ai (slices_IndexFunc_Slot_Slot_v2_l1_ok none a0 a1 (a0.length : Int) 0 (Sum.inr o5) h5) (ti))) (by kernel_rfl)
theorem slices_ContainsFunc_Slot_Slot_ok (a0 : List (List TSlot)) (a1 : List TSlot) (r : Bool) (h : slices_ContainsFunc_Slot_Slot a0 a1 = some r) : ACall Try.prog 43 [.d ((D.l (D.l TSlot.D)) a0), .clo (.func 44) [] [.eptr (D.cells ((D.l TSlot.D) a1))]] [] (.d (D.b r)) [] := by
  unfold slices_ContainsFunc_Slot_Slot at h
  obtain ⟨r1, h1, h⟩ := bS h
  obtain rfl := si h
  exact runF_call mixed [(7, .ret (.d ((D.i .i64) r1)))] [] [] (ai (slices_IndexFunc_Slot_Slot_v2_ok a0 a1 r1 h1) (ti)) (by kernel_rfl)
theorem extend_Grow_1_ok (a0 : List TSlot) (a1 : List (List TSlot)) (r : Bool) (h : extend_Grow_1 a0 a1 = some r) : ACall Try.prog 42 [.d ((D.l TSlot.D) a0), .eptr (D.cells ((D.l (D.l TSlot.D)) a1))] [] (.d (D.b r)) [] := by
  unfold extend_Grow_1 at h
  obtain ⟨r1, h1, h⟩ := bS h
  obtain rfl := si h
  exact runF_call mixed [(2, .frz), (6, .ret (.d (D.b r1)))] [] [] (ai (slices_ContainsFunc_Slot_Slot_ok a1 a0 r1 h1) (ti)) (by kernel_rfl)
def slices_IndexFunc_Slot_Slot_l1_I (s0 : List (List TSlot)) (s1 : List (List TSlot)) (s7 : Int) (s8 : Int) : St := ⟨sp 19 0 [(0, .d ((D.l (D.l TSlot.D)) s0)), (1, .clo (.func 42) [] [.eptr (D.cells ((D.l (D.l TSlot.D)) s1))]), (7, .d ((D.i .i64) s7)), (8, .d ((D.i .i64) s8))], [], []⟩
def slices_IndexFunc_Slot_Slot_l1_O (s0 : List (List TSlot)) (s1 : List (List TSlot)) (s7 : Int) (o : Unit ⊕ Int) : Ex × St := match o with
  | .inl o => (.exit 0, ⟨sp 19 0 [], [], []⟩)
  | .inr o => (.ret, ⟨sp 19 0 [(4, .d ((D.i .i64) o))], [], []⟩)
theorem slices_IndexFunc_Slot_Slot_l1_rnd (rd : Option Nat) (s0 : List (List TSlot)) (s1 : List (List TSlot)) (s7 : Int) (s8 : Int) (o : (Int) ⊕ (Unit ⊕ Int)) (h : slices_IndexFunc_Slot_Slot_l1_s s0 s1 s7 s8 = some o) : Arr Try.prog rd (fbody Try.prog 64) (0 :: [0, 1, 0, 1]) (slices_IndexFunc_Slot_Slot_l1_I s0 s1 s7 s8) (rR (fun s : Int => slices_IndexFunc_Slot_Slot_l1_I s0 s1 s7 s) (slices_IndexFunc_Slot_Slot_l1_O s0 s1 s7) o).1 (rR (fun s : Int => slices_IndexFunc_Slot_Slot_l1_I s0 s1 s7 s) (slices_IndexFunc_Slot_Slot_l1_O s0 s1 s7) o).2 := by
  unfold slices_IndexFunc_Slot_Slot_l1_s at h
  rcases iS h with ⟨h1, h⟩ | ⟨h1, h⟩
  ·
   obtain ⟨x1, h2, h⟩ := xS h
   obtain ⟨r2, h3, h⟩ := bS h
   cases r2 with
   | true =>
    replace h := iteT h
    obtain rfl := si h
    exact runB_arr mixed [(9, .bit true), (14, .el ((D.l TSlot.D) x1)), (16, .ret (.d (D.b true)))] [] [.live [4], .keep []] (ai h1 (ai (elem_map (D.l TSlot.D) h2) (ai (extend_Grow_1_ok x1 s1 true h3) (ti)))) (by kernel_rfl)
   | false =>
    replace h := iteF h
    obtain rfl := si h
    exact runB_arr mixed [(9, .bit true), (14, .el ((D.l TSlot.D) x1)), (16, .ret (.d (D.b false)))] [] [.live [0, 1, 7, 8], .keep []] (ai h1 (ai (elem_map (D.l TSlot.D) h2) (ai (extend_Grow_1_ok x1 s1 false h3) (ti)))) (by kernel_rfl)
  ·
   obtain rfl := si h
   exact runB_arr mixed [(9, .bit false)] [] [.live [], .keep []] (ai h1 (ti)) (by kernel_rfl)
theorem slices_IndexFunc_Slot_Slot_l1_ok (rd : Option Nat) (s0 : List (List TSlot)) (s1 : List (List TSlot)) (s7 : Int) (s8 : Int) (t : Unit ⊕ Int) (h : slices_IndexFunc_Slot_Slot_l1 s0 s1 s7 s8 = some t) : LpOf Try.prog rd (fbody Try.prog 64) [0, 1, 0, 1] (slices_IndexFunc_Slot_Slot_l1_I s0 s1 s7 s8) ((slices_IndexFunc_Slot_Slot_l1_O s0 s1 s7) t).1 ((slices_IndexFunc_Slot_Slot_l1_O s0 s1 s7) t).2 :=
  loopE_lpR (fun s : Int => slices_IndexFunc_Slot_Slot_l1_I s0 s1 s7 s) (slices_IndexFunc_Slot_Slot_l1_O s0 s1 s7) (by kernel_rfl) (fun t => isN_ne (by rcases t with (_ | _) <;> rfl)) (fun s o h => slices_IndexFunc_Slot_Slot_l1_rnd rd s0 s1 s7 s o h) (s := s8) (t := t) h
theorem slices_IndexFunc_Slot_Slot_ok (a0 : List (List TSlot)) (a1 : List (List TSlot)) (r : Int) (h : slices_IndexFunc_Slot_Slot a0 a1 = some r) : ACall Try.prog 64 [.d ((D.l (D.l TSlot.D)) a0), .clo (.func 42) [] [.eptr (D.cells ((D.l (D.l TSlot.D)) a1))]] [] (.d ((D.i .i64) r)) [] := by
  unfold slices_IndexFunc_Slot_Slot at h
  obtain ⟨o3, h5, h⟩ := bS h
  replace h := sumE_some h
  rcases h with ⟨o4, rfl, h⟩ | ⟨o5, rfl, h⟩
  ·
   obtain rfl := si h
   exact runF_call mixed [(7, .int (a0.length : Int))] [⟨[0, 1, 0, 1], [.live [0, 1, 7, 8], .keep []], .exit 0, (slices_IndexFunc_Slot_Slot_l1_O a0 a1 (a0.length : Int) (Sum.inl o4)).2⟩] [] (ai (len_map (D.l TSlot.D) a0) (ai (slices_IndexFunc_Slot_Slot_l1_ok none a0 a1 (a0.length : Int) 0 (Sum.inl o4) h5) (ti))) (by kernel_rfl)
  ·
   obtain rfl := si h
   exact runF_call mixed [(7, .int (a0.length : Int))] [⟨[0, 1, 0, 1], [.live [0, 1, 7, 8], .keep []], .ret, (slices_IndexFunc_Slot_Slot_l1_O a0 a1 (a0.length : Int) (Sum.inr o5)).2⟩] [] (ai (len_map (D.l TSlot.D) a0) (ai (slices_IndexFunc_Slot_Slot_l1_ok none a0 a1 (a0.length : Int) 0 (Sum.inr o5) h5) (ti))) (by kernel_rfl)
def slices_DeleteFunc_Slot_Slot_b3_I (us : List Value) (s1 : List (List TSlot)) (s5 : Int) (s6 : Int) (s7 : List TSlot) (s29 : Bool) (w0 : List (List TSlot)) : St := ⟨sp 42 0 [(0, .row 0), (1, .clo (.func 42) [] [.eptr (D.cells ((D.l (D.l TSlot.D)) s1))]), (5, .d ((D.i .i64) s5)), (6, .d ((D.i .i64) s6)), (7, .d ((D.l TSlot.D) s7)), (29, .d (D.b s29))], [(0, .rw 23 1 (w0.map (D.l TSlot.D))), (997, .vals [] us)], []⟩
def slices_DeleteFunc_Slot_Slot_b3_O (us : List Value) (s1 : List (List TSlot)) (s5 : Int) (s6 : Int) (s7 : List TSlot) (s29 : Bool) (w0 : List (List TSlot)) (o : (Int × List (List TSlot))) : Ex × St := (.normal, ⟨sp 42 0 [(0, .row 0), (1, .clo (.func 42) [] [.eptr (D.cells ((D.l (D.l TSlot.D)) s1))]), (5, .d ((D.i .i64) o.1)), (6, .d ((D.i .i64) s6))], [(0, .rw 23 1 (o.2.map (D.l TSlot.D))), (997, .vals [] us)], []⟩)
theorem slices_DeleteFunc_Slot_Slot_b3_ok (rd : Option Nat) (us : List Value) (s1 : List (List TSlot)) (s5 : Int) (s6 : Int) (s7 : List TSlot) (s29 : Bool) (w0 : List (List TSlot)) (o : (Int × List (List TSlot))) (h : slices_DeleteFunc_Slot_Slot_b3 s1 s5 s6 s7 s29 w0 = some o) : LpOf Try.prog rd (fbody Try.prog 41) [1, 1, 0, 0, 1, 0, 0, 1, 0, 1, 1, 1] (slices_DeleteFunc_Slot_Slot_b3_I us s1 s5 s6 s7 s29 w0) (slices_DeleteFunc_Slot_Slot_b3_O us s1 s5 s6 s7 s29 w0 o).1 (slices_DeleteFunc_Slot_Slot_b3_O us s1 s5 s6 s7 s29 w0 o).2 := by
  unfold slices_DeleteFunc_Slot_Slot_b3 at h
  cases s29 with
  | true =>
   replace h := iteT h
   obtain ⟨h8, h⟩ := cS h
   obtain ⟨h9, h⟩ := cS h
   obtain rfl := si h
   exact (runB_arr mixed [(10033, .sl ((w0.set s5.toNat s7).map (D.l TSlot.D)))] [] [.live [0, 1, 5, 6], .keep [0, 997]] (ai h8.1 (ai (le_map (D.l TSlot.D) h8.2) (ai (le_ep (D.l TSlot.D) h9) (ai (upd_map (D.l TSlot.D) w0 s5 s7) (ti))))) (by kernel_rfl)).lp
  | false =>
   replace h := iteF h
   obtain rfl := si h
   exact (runB_arr mixed [] [] [.live [0, 1, 5, 6], .keep [0, 997]] (ti) (by kernel_rfl)).lp
def slices_DeleteFunc_Slot_Slot_b2_I (us : List Value) (s1 : List (List TSlot)) (s5 : Int) (s6 : Int) (w0 : List (List TSlot)) : St := ⟨sp 42 0 [(0, .row 0), (1, .clo (.func 42) [] [.eptr (D.cells ((D.l (D.l TSlot.D)) s1))]), (5, .d ((D.i .i64) s5)), (6, .d ((D.i .i64) s6))], [(0, .rw 23 1 (w0.map (D.l TSlot.D))), (997, .vals [] us)], []⟩
def slices_DeleteFunc_Slot_Slot_b2_O (us : List Value) (s1 : List (List TSlot)) (s5 : Int) (s6 : Int) (w0 : List (List TSlot)) (o : (Int × List (List TSlot))) : Ex × St := (.normal, ⟨sp 42 0 [(0, .row 0), (1, .clo (.func 42) [] [.eptr (D.cells ((D.l (D.l TSlot.D)) s1))]), (5, .d ((D.i .i64) o.1)), (6, .d ((D.i .i64) s6))], [(0, .rw 23 1 (o.2.map (D.l TSlot.D))), (997, .vals [] us)], []⟩)
theorem slices_DeleteFunc_Slot_Slot_b2_ok (rd : Option Nat) (us : List Value) (s1 : List (List TSlot)) (s5 : Int) (s6 : Int) (w0 : List (List TSlot)) (o : (Int × List (List TSlot))) (h : slices_DeleteFunc_Slot_Slot_b2 s1 s5 s6 w0 = some o) : LpOf Try.prog rd (fbody Try.prog 41) [0, 1, 0, 0, 1, 0, 1, 1, 1] (slices_DeleteFunc_Slot_Slot_b2_I us s1 s5 s6 w0) (slices_DeleteFunc_Slot_Slot_b2_O us s1 s5 s6 w0 o).1 (slices_DeleteFunc_Slot_Slot_b2_O us s1 s5 s6 w0 o).2 := by
  unfold slices_DeleteFunc_Slot_Slot_b2 at h
  obtain ⟨h4, h⟩ := cS h
  obtain ⟨x2, h5, h⟩ := xS h
  obtain ⟨r3, h6, h⟩ := bS h
  obtain ⟨o4, h10, h⟩ := bS h
  obtain rfl := si h
  exact (runB_arr mixed [(25, .el ((D.l TSlot.D) x2)), (28, .ret (.d (D.b r3)))] [⟨[1, 1, 0, 0, 1, 0, 0, 1, 0, 1, 1, 1], [.live [0, 1, 5, 6, 7, 29], .keep [0, 997]], .normal, (slices_DeleteFunc_Slot_Slot_b3_O us s1 s5 s6 x2 (!r3) w0 o4).2⟩] [.live [0, 1, 5, 6], .keep [0, 997]] (ai h4.1 (ai (le_map (D.l TSlot.D) h4.2) (ai (elem_ep (D.l TSlot.D) h5) (ai (extend_Grow_1_ok x2 s1 r3 h6) (ai (slices_DeleteFunc_Slot_Slot_b3_ok rd us s1 s5 s6 x2 (!r3) w0 o4 h10) (ti)))))) (by kernel_rfl)).lp
def slices_DeleteFunc_Slot_Slot_l1_I (us : List Value) (s1 : List (List TSlot)) (s5 : Int) (s6 : Int) (w0 : List (List TSlot)) : St := ⟨sp 42 0 [(0, .row 0), (1, .clo (.func 42) [] [.eptr (D.cells ((D.l (D.l TSlot.D)) s1))]), (5, .d ((D.i .i64) s5)), (6, .d ((D.i .i64) s6))], [(0, .rw 23 1 (w0.map (D.l TSlot.D))), (997, .vals [] us)], []⟩
def slices_DeleteFunc_Slot_Slot_l1_O (us : List Value) (s1 : List (List TSlot)) (o : (Int × List (List TSlot))) : Ex × St := (.exit 0, ⟨sp 42 0 [(0, .row 0), (5, .d ((D.i .i64) o.1))], [(0, .rw 23 1 (o.2.map (D.l TSlot.D))), (997, .vals [] us)], []⟩)
theorem slices_DeleteFunc_Slot_Slot_l1_rnd (rd : Option Nat) (us : List Value) (s1 : List (List TSlot)) (s5 : Int) (s6 : Int) (w0 : List (List TSlot)) (o : (Int × Int × List (List TSlot)) ⊕ ((Int × List (List TSlot)))) (h : slices_DeleteFunc_Slot_Slot_l1_s s1 s5 s6 w0 = some o) : Arr Try.prog rd (fbody Try.prog 41) (0 :: [0, 1, 0, 1, 1, 1]) (slices_DeleteFunc_Slot_Slot_l1_I us s1 s5 s6 w0) (rR (fun s : Int × Int × List (List TSlot) => slices_DeleteFunc_Slot_Slot_l1_I us s1 s.1 s.2.1 s.2.2) (slices_DeleteFunc_Slot_Slot_l1_O us s1) o).1 (rR (fun s : Int × Int × List (List TSlot) => slices_DeleteFunc_Slot_Slot_l1_I us s1 s.1 s.2.1 s.2.2) (slices_DeleteFunc_Slot_Slot_l1_O us s1) o).2 := by
  unfold slices_DeleteFunc_Slot_Slot_l1_s at h
  rcases iS h with ⟨h3, h⟩ | ⟨h3, h⟩
  ·
   obtain ⟨o5, h11, h⟩ := bS h
   obtain rfl := si h
   exact runB_arr mixed [(18, .int (w0.length : Int)), (19, .bit true)] [⟨[0, 1, 0, 0, 1, 0, 1, 1, 1], [.live [0, 1, 5, 6], .keep [0, 997]], .normal, (slices_DeleteFunc_Slot_Slot_b2_O us s1 s5 s6 w0 o5).2⟩] [.live [0, 1, 5, 6], .keep [0, 997]] (ai (len_map (D.l TSlot.D) w0) (ai h3 (ai (slices_DeleteFunc_Slot_Slot_b2_ok rd us s1 s5 s6 w0 o5 h11) (ti)))) (by kernel_rfl)
  ·
   obtain rfl := si h
   exact runB_arr mixed [(18, .int (w0.length : Int)), (19, .bit false)] [] [.live [0, 5], .keep [0, 997]] (ai (len_map (D.l TSlot.D) w0) (ai h3 (ti))) (by kernel_rfl)
theorem slices_DeleteFunc_Slot_Slot_l1_ok (rd : Option Nat) (us : List Value) (s1 : List (List TSlot)) (s5 : Int) (s6 : Int) (w0 : List (List TSlot)) (t : (Int × List (List TSlot))) (h : slices_DeleteFunc_Slot_Slot_l1 s1 s5 s6 w0 = some t) : LpOf Try.prog rd (fbody Try.prog 41) [0, 1, 0, 1, 1, 1] (slices_DeleteFunc_Slot_Slot_l1_I us s1 s5 s6 w0) ((slices_DeleteFunc_Slot_Slot_l1_O us s1) t).1 ((slices_DeleteFunc_Slot_Slot_l1_O us s1) t).2 :=
  loopE_lpR (fun s : Int × Int × List (List TSlot) => slices_DeleteFunc_Slot_Slot_l1_I us s1 s.1 s.2.1 s.2.2) (slices_DeleteFunc_Slot_Slot_l1_O us s1) (by kernel_rfl) (fun t => isN_ne (by rfl)) (fun s o h => slices_DeleteFunc_Slot_Slot_l1_rnd rd us s1 s.1 s.2.1 s.2.2 o h) (s := (s5, s6, w0)) (t := t) h
theorem slices_DeleteFunc_Slot_Slot_ok (a1 : List (List TSlot)) (w0 : List (List TSlot)) (r : List (List TSlot)) (h : slices_DeleteFunc_Slot_Slot a1 w0 = some r) : ACall Try.prog 41 [.row 0, .clo (.func 42) [] [.eptr (D.cells ((D.l (D.l TSlot.D)) a1))]] [(0, .rw 23 1 (w0.map (D.l TSlot.D)))] (.d ((D.l (D.l TSlot.D)) r)) [] := by
  unfold slices_DeleteFunc_Slot_Slot at h
  obtain ⟨r1, h1, h⟩ := bS h
  rcases iS h with ⟨h2, h⟩ | ⟨h2, h⟩
  ·
   obtain rfl := si h
   exact runX_call mixed (fun us => [(10, .lend [0] (.d ((D.i .i64) r1))), (12, .bit true)]) (fun us => []) [.frz 0, .look 4, .live [4], .keep [997]] [] (fun us => ai (slices_IndexFunc_Slot_Slot_ok w0 a1 r1 h1) (ai h2 (ti))) (by kernel_rfl)
  ·
   obtain ⟨o6, h12, h⟩ := bS h
   obtain ⟨h13, h⟩ := cS h
   obtain ⟨h14, h⟩ := cS h
   obtain rfl := si h
   exact runX_call mixed (fun us => [(10, .lend [0] (.d ((D.i .i64) r1))), (12, .bit false), (38, .sl ((o6.2.take (o6.1).toNat ++ List.replicate (o6.2.length - (o6.1).toNat) ([] : List TSlot)).map (D.l TSlot.D))), (41, .sl (((o6.2.take (o6.1).toNat ++ List.replicate (o6.2.length - (o6.1).toNat) ([] : List TSlot)).take (o6.1).toNat).map (D.l TSlot.D)))]) (fun us => [⟨[0, 1, 0, 1, 1, 1], [.live [0, 1, 5, 6], .keep [0, 997]], .exit 0, (slices_DeleteFunc_Slot_Slot_l1_O us a1 o6).2⟩]) [.frz 41, .look 4, .live [4], .keep [997]] [] (fun us => ai (slices_IndexFunc_Slot_Slot_ok w0 a1 r1 h1) (ai h2 (ai (slices_DeleteFunc_Slot_Slot_l1_ok none us a1 r1 (intVal .add .i64 r1 1) w0 o6 h12) (ai h13.1 (ai (le_rw (D.l TSlot.D) h13.2) (ai (clr_rw (D.l TSlot.D) o6.2 o6.1 ([] : List TSlot) _ rfl) (ai h14.1 (ai (le_rw (D.l TSlot.D) h14.2) (ai (cut_rw (D.l TSlot.D) (o6.2.take (o6.1).toNat ++ List.replicate (o6.2.length - (o6.1).toNat) ([] : List TSlot)) o6.1) (ti)))))))))) (by kernel_rfl)
def extend_Grow_l1_I (s1 : List THit) (s2 : List (List TSlot)) (s14 : List (List TSlot)) (s15 : Int) (s16 : Int) (w600 : List (List TSlot)) : St := ⟨sp 48 0 [(1, .d ((D.l THit.D) s1)), (2, .eptr (D.cells ((D.l (D.l TSlot.D)) s2))), (5, .box 5 0), (6, .box 6 0), (14, .d ((D.l (D.l TSlot.D)) s14)), (15, .d ((D.i .i64) s15)), (16, .d ((D.i .i64) s16))], [(5, .cells ([.box 919 0])), (6, .cells ([.row 600, .clo (.func 35) [] []])), (600, .rw 23 1 (w600.map (D.l TSlot.D))), (919, .cells ([.nil, .clo (.func 35) [] []]))], []⟩
def extend_Grow_l1_O (s1 : List THit) (s2 : List (List TSlot)) (s14 : List (List TSlot)) (s15 : Int) (o : (List (List TSlot))) : Ex × St := (.exit 0, ⟨sp 48 0 [(1, .d ((D.l THit.D) s1)), (2, .eptr (D.cells ((D.l (D.l TSlot.D)) s2))), (5, .box 5 0), (6, .box 6 0)], [(5, .cells ([.box 919 0])), (6, .cells ([.row 600, .clo (.func 35) [] []])), (600, .rw 23 1 (o.map (D.l TSlot.D))), (919, .cells ([.nil, .clo (.func 35) [] []]))], []⟩)
theorem extend_Grow_l1_rnd (rd : Option Nat) (s1 : List THit) (s2 : List (List TSlot)) (s14 : List (List TSlot)) (s15 : Int) (s16 : Int) (w600 : List (List TSlot)) (o : (Int × List (List TSlot)) ⊕ ((List (List TSlot)))) (h : extend_Grow_l1_s s1 s2 s14 s15 s16 w600 = some o) : Arr Try.prog rd (fbody Try.prog 14) (0 :: [0, 1, 0, 1, 1]) (extend_Grow_l1_I s1 s2 s14 s15 s16 w600) (rR (fun s : Int × List (List TSlot) => extend_Grow_l1_I s1 s2 s14 s15 s.1 s.2) (extend_Grow_l1_O s1 s2 s14 s15) o).1 (rR (fun s : Int × List (List TSlot) => extend_Grow_l1_I s1 s2 s14 s15 s.1 s.2) (extend_Grow_l1_O s1 s2 s14 s15) o).2 := by
  unfold extend_Grow_l1_s at h
  rcases iS h with ⟨h6, h⟩ | ⟨h6, h⟩
  ·
   obtain ⟨x5, h7, h⟩ := xS h
   obtain ⟨r6, h8, h⟩ := bS h
   obtain rfl := si h
   exact runB_arr mixed [(17, .bit true), (18, .el ((D.l TSlot.D) x5)), (22, .cx false [(0, 6), (1, 600)] [(2, 22)] (.d (D.b r6.1)) [(0, .cells ([.row 2, .clo (.func 35) [] []])), (2, .rw 23 1 (r6.2.map (D.l TSlot.D)))])] [] [.live [1, 2, 5, 6, 14, 15, 16], .keep [5, 6, 22, 919], .ren 22 600, .sort] (ai h6 (ai (elem_map (D.l TSlot.D) h7) (ai (domain_Set_Slot_Put_v3_ok x5 w600 r6 h8) (ti)))) (by kernel_rfl)
  ·
   obtain rfl := si h
   exact runB_arr mixed [(17, .bit false)] [] [.live [1, 2, 5, 6], .keep [5, 6, 600, 919]] (ai h6 (ti)) (by kernel_rfl)
theorem extend_Grow_l1_ok (rd : Option Nat) (s1 : List THit) (s2 : List (List TSlot)) (s14 : List (List TSlot)) (s15 : Int) (s16 : Int) (w600 : List (List TSlot)) (t : (List (List TSlot))) (h : extend_Grow_l1 s1 s2 s14 s15 s16 w600 = some t) : LpOf Try.prog rd (fbody Try.prog 14) [0, 1, 0, 1, 1] (extend_Grow_l1_I s1 s2 s14 s15 s16 w600) ((extend_Grow_l1_O s1 s2 s14 s15) t).1 ((extend_Grow_l1_O s1 s2 s14 s15) t).2 :=
  loopE_lpR (fun s : Int × List (List TSlot) => extend_Grow_l1_I s1 s2 s14 s15 s.1 s.2) (extend_Grow_l1_O s1 s2 s14 s15) (by kernel_rfl) (fun t => isN_ne (by rfl)) (fun s o h => extend_Grow_l1_rnd rd s1 s2 s14 s15 s.1 s.2 o h) (s := (s16, w600)) (t := t) h
def extend_Grow_b10_I (uz : List Value) (s2 : List (List TSlot)) (s25 : List (List TSlot)) (s26 : Int) (s27 : Int) (s38_1 : List (List TSlot)) (s38_2 : List TSlot) (s39 : List TSlot) (w532 : List (List TSlot)) (w534 : List (List TSlot)) (w998_1 : List (List TSlot)) (w998_2 : List (List TSlot)) (w998_3 : Int) (w998_4 : Int) (w998_5 : List (List TSlot)) (w998_6 : List TSlot) : St := ⟨sp 48 0 [(2, .eptr (D.cells ((D.l (D.l TSlot.D)) s2))), (5, .box 5 0), (6, .box 6 0), (25, .d ((D.l (D.l TSlot.D)) s25)), (26, .d ((D.i .i64) s26)), (27, .d ((D.i .i64) s27)), (38, .clo (.func 60) [] [.eptr (D.cells ((D.l (D.l TSlot.D)) s38_1)), .eptr (D.cells ((D.l TSlot.D) s38_2))]), (39, .d ((D.l TSlot.D) s39))], [(5, .cells ([.box 919 0])), (6, .cells ([.row 532, .clo (.func 35) [] []])), (532, .rw 23 1 (w532.map (D.l TSlot.D))), (534, .rw 23 1 (w534.map (D.l TSlot.D))), (919, .cells ([.row 534, .clo (.func 35) [] []])), (998, .vals (sp 48 0 [(2, .eptr (D.cells ((D.l (D.l TSlot.D)) w998_1))), (5, .box 5 0), (6, .box 6 0), (25, .d ((D.l (D.l TSlot.D)) w998_2)), (26, .d ((D.i .i64) w998_3)), (27, .d ((D.i .i64) w998_4)), (38, .clo (.func 60) [] [.eptr (D.cells ((D.l (D.l TSlot.D)) w998_5)), .eptr (D.cells ((D.l TSlot.D) w998_6))])]) uz)], []⟩
def extend_Grow_b10_O (uz : List Value) (s2 : List (List TSlot)) (s25 : List (List TSlot)) (s26 : Int) (s27 : Int) (s38_1 : List (List TSlot)) (s38_2 : List TSlot) (s39 : List TSlot) (w532 : List (List TSlot)) (w534 : List (List TSlot)) (w998_1 : List (List TSlot)) (w998_2 : List (List TSlot)) (w998_3 : Int) (w998_4 : Int) (w998_5 : List (List TSlot)) (w998_6 : List TSlot) (o : Unit) : Ex × St := (.normal, ⟨sp 48 0 [(2, .eptr (D.cells ((D.l (D.l TSlot.D)) s2))), (5, .box 5 0), (6, .box 6 0), (11, .d ((D.l TSlot.D) s39)), (25, .d ((D.l (D.l TSlot.D)) s25)), (26, .d ((D.i .i64) s26)), (27, .d ((D.i .i64) s27)), (38, .clo (.func 60) [] [.eptr (D.cells ((D.l (D.l TSlot.D)) s38_1)), .eptr (D.cells ((D.l TSlot.D) s38_2))])], [(5, .cells ([.box 919 0])), (6, .cells ([.row 532, .clo (.func 35) [] []])), (532, .rw 23 1 (w532.map (D.l TSlot.D))), (534, .rw 23 1 (w534.map (D.l TSlot.D))), (919, .cells ([.row 534, .clo (.func 35) [] []])), (998, .vals (sp 48 0 [(2, .eptr (D.cells ((D.l (D.l TSlot.D)) w998_1))), (5, .box 5 0), (6, .box 6 0), (25, .d ((D.l (D.l TSlot.D)) w998_2)), (26, .d ((D.i .i64) w998_3)), (27, .d ((D.i .i64) w998_4)), (38, .clo (.func 60) [] [.eptr (D.cells ((D.l (D.l TSlot.D)) w998_5)), .eptr (D.cells ((D.l TSlot.D) w998_6))])]) uz)], []⟩)
theorem extend_Grow_b10_ok (rd : Option Nat) (uz : List Value) (s2 : List (List TSlot)) (s25 : List (List TSlot)) (s26 : Int) (s27 : Int) (s38_1 : List (List TSlot)) (s38_2 : List TSlot) (s39 : List TSlot) (w532 : List (List TSlot)) (w534 : List (List TSlot)) (w998_1 : List (List TSlot)) (w998_2 : List (List TSlot)) (w998_3 : Int) (w998_4 : Int) (w998_5 : List (List TSlot)) (w998_6 : List TSlot) (o : Unit) (h : extend_Grow_b10 s2 s25 s26 s27 s38_1 s38_2 s39 w532 w534 w998_1 w998_2 w998_3 w998_4 w998_5 w998_6 = some o) : LpOf Try.prog rd (fbody Try.prog 14) [0, 0, 1, 1, 0, 0, 1, 1, 0, 0, 1, 0, 1, 1, 1] (extend_Grow_b10_I uz s2 s25 s26 s27 s38_1 s38_2 s39 w532 w534 w998_1 w998_2 w998_3 w998_4 w998_5 w998_6) (extend_Grow_b10_O uz s2 s25 s26 s27 s38_1 s38_2 s39 w532 w534 w998_1 w998_2 w998_3 w998_4 w998_5 w998_6 o).1 (extend_Grow_b10_O uz s2 s25 s26 s27 s38_1 s38_2 s39 w532 w534 w998_1 w998_2 w998_3 w998_4 w998_5 w998_6 o).2 := by
  unfold extend_Grow_b10 at h
  obtain rfl := si h
  exact (runB_arr mixed [] [] [.live [2, 5, 6, 11, 25, 26, 27, 38], .keep [5, 6, 532, 534, 919, 998]] (ti) (by kernel_rfl)).lp
def extend_Grow_b12_I (uz : List Value) (s2 : List (List TSlot)) (s11 : List TSlot) (s25 : List (List TSlot)) (s26 : Int) (s27 : Int) (s38_1 : List (List TSlot)) (s38_2 : List TSlot) (w532 : List (List TSlot)) (w534 : List (List TSlot)) (w998_1 : List (List TSlot)) (w998_2 : List (List TSlot)) (w998_3 : Int) (w998_4 : Int) (w998_5 : List (List TSlot)) (w998_6 : List TSlot) : St := ⟨sp 48 0 [(2, .eptr (D.cells ((D.l (D.l TSlot.D)) s2))), (5, .box 5 0), (6, .box 6 0), (11, .d ((D.l TSlot.D) s11)), (25, .d ((D.l (D.l TSlot.D)) s25)), (26, .d ((D.i .i64) s26)), (27, .d ((D.i .i64) s27)), (38, .clo (.func 60) [] [.eptr (D.cells ((D.l (D.l TSlot.D)) s38_1)), .eptr (D.cells ((D.l TSlot.D) s38_2))])], [(5, .cells ([.box 919 0])), (6, .cells ([.row 532, .clo (.func 35) [] []])), (532, .rw 23 1 (w532.map (D.l TSlot.D))), (534, .rw 23 1 (w534.map (D.l TSlot.D))), (919, .cells ([.row 534, .clo (.func 35) [] []])), (998, .vals (sp 48 0 [(2, .eptr (D.cells ((D.l (D.l TSlot.D)) w998_1))), (5, .box 5 0), (6, .box 6 0), (25, .d ((D.l (D.l TSlot.D)) w998_2)), (26, .d ((D.i .i64) w998_3)), (27, .d ((D.i .i64) w998_4)), (38, .clo (.func 60) [] [.eptr (D.cells ((D.l (D.l TSlot.D)) w998_5)), .eptr (D.cells ((D.l TSlot.D) w998_6))])]) uz)], []⟩
def extend_Grow_b12_O (uz : List Value) (s2 : List (List TSlot)) (s11 : List TSlot) (s25 : List (List TSlot)) (s26 : Int) (s27 : Int) (s38_1 : List (List TSlot)) (s38_2 : List TSlot) (w532 : List (List TSlot)) (w534 : List (List TSlot)) (w998_1 : List (List TSlot)) (w998_2 : List (List TSlot)) (w998_3 : Int) (w998_4 : Int) (w998_5 : List (List TSlot)) (w998_6 : List TSlot) (o : (List (List TSlot))) : Ex × St := (.normal, ⟨sp 48 0 [], [(5, .cells ([.box 919 0])), (6, .cells ([.row 532, .clo (.func 35) [] []])), (532, .rw 23 1 (w532.map (D.l TSlot.D))), (534, .rw 23 1 (o.map (D.l TSlot.D))), (919, .cells ([.row 534, .clo (.func 35) [] []])), (998, .vals (sp 48 0 [(2, .eptr (D.cells ((D.l (D.l TSlot.D)) w998_1))), (5, .box 5 0), (6, .box 6 0), (25, .d ((D.l (D.l TSlot.D)) w998_2)), (26, .d ((D.i .i64) w998_3)), (27, .d ((D.i .i64) w998_4)), (38, .clo (.func 60) [] [.eptr (D.cells ((D.l (D.l TSlot.D)) w998_5)), .eptr (D.cells ((D.l TSlot.D) w998_6))])]) uz)], []⟩)
theorem extend_Grow_b12_ok (rd : Option Nat) (uz : List Value) (s2 : List (List TSlot)) (s11 : List TSlot) (s25 : List (List TSlot)) (s26 : Int) (s27 : Int) (s38_1 : List (List TSlot)) (s38_2 : List TSlot) (w532 : List (List TSlot)) (w534 : List (List TSlot)) (w998_1 : List (List TSlot)) (w998_2 : List (List TSlot)) (w998_3 : Int) (w998_4 : Int) (w998_5 : List (List TSlot)) (w998_6 : List TSlot) (o : (List (List TSlot))) (h : extend_Grow_b12 s2 s11 s25 s26 s27 s38_1 s38_2 w532 w534 w998_1 w998_2 w998_3 w998_4 w998_5 w998_6 = some o) : LpOf Try.prog rd (fbody Try.prog 14) [1, 0, 1, 1, 0, 0, 1, 1, 0, 0, 1, 0, 1, 1, 1] (extend_Grow_b12_I uz s2 s11 s25 s26 s27 s38_1 s38_2 w532 w534 w998_1 w998_2 w998_3 w998_4 w998_5 w998_6) (extend_Grow_b12_O uz s2 s11 s25 s26 s27 s38_1 s38_2 w532 w534 w998_1 w998_2 w998_3 w998_4 w998_5 w998_6 o).1 (extend_Grow_b12_O uz s2 s11 s25 s26 s27 s38_1 s38_2 w532 w534 w998_1 w998_2 w998_3 w998_4 w998_5 w998_6 o).2 := by
  unfold extend_Grow_b12 at h
  obtain ⟨r35, h28, h⟩ := bS h
  obtain rfl := si h
  exact (runB_arr mixed [(42, .cx false [(0, 919), (1, 534)] [(2, 42)] (.d (D.b r35.1)) [(0, .cells ([.row 2, .clo (.func 35) [] []])), (2, .rw 23 1 (r35.2.map (D.l TSlot.D)))])] [] [.live [], .keep [5, 6, 42, 532, 919, 998], .ren 42 534, .sort] (ai (domain_Set_Slot_Put_v3_ok s11 w534 r35 h28) (ti)) (by kernel_rfl)).lp
def extend_Grow_r9_E (s2 : List (List TSlot)) (s25 : List (List TSlot)) (s26 : Int) (s27 : Int) (s38_1 : List (List TSlot)) (s38_2 : List TSlot) : List A := sp 48 0 [(2, .eptr (D.cells ((D.l (D.l TSlot.D)) s2))), (5, .box 5 0), (6, .box 6 0), (25, .d ((D.l (D.l TSlot.D)) s25)), (26, .d ((D.i .i64) s26)), (27, .d ((D.i .i64) s27)), (38, .clo (.func 60) [] [.eptr (D.cells ((D.l (D.l TSlot.D)) s38_1)), .eptr (D.cells ((D.l TSlot.D) s38_2))])]
def extend_Grow_r9_BL (s2 : List (List TSlot)) (s25 : List (List TSlot)) (s26 : Int) (s27 : Int) (s38_1 : List (List TSlot)) (s38_2 : List TSlot) (w532 : List (List TSlot)) (s : List (List TSlot)) : Bx := [(5, .cells ([.box 919 0])), (6, .cells ([.row 532, .clo (.func 35) [] []])), (532, .rw 23 1 (w532.map (D.l TSlot.D))), (534, .rw 23 1 (s.map (D.l TSlot.D))), (919, .cells ([.row 534, .clo (.func 35) [] []]))]
def extend_Grow_r9_BT (s2 : List (List TSlot)) (s25 : List (List TSlot)) (s26 : Int) (s27 : Int) (s38_1 : List (List TSlot)) (s38_2 : List TSlot) (w532 : List (List TSlot)) (t : Empty) : Bx := t.elim
def extend_Grow_r9_X (t : Empty) : Ex := t.elim
def extend_Grow_r9_O (s2 : List (List TSlot)) (s25 : List (List TSlot)) (s26 : Int) (s27 : Int) (s38_1 : List (List TSlot)) (s38_2 : List TSlot) (w532 : List (List TSlot)) (o : (List (List TSlot)) ⊕ (Empty)) : Ex × St := (rex extend_Grow_r9_X o, ⟨extend_Grow_r9_E s2 s25 s26 s27 s38_1 s38_2, rbx (extend_Grow_r9_BL s2 s25 s26 s27 s38_1 s38_2 w532) (extend_Grow_r9_BT s2 s25 s26 s27 s38_1 s38_2 w532) o, rbx (fun _ => []) (fun _ => []) o⟩)
theorem extend_Grow_r9_rnd (s2 : List (List TSlot)) (s25 : List (List TSlot)) (s26 : Int) (s27 : Int) (s38_1 : List (List TSlot)) (s38_2 : List TSlot) (w532 : List (List TSlot)) (s : List (List TSlot)) (x : (List TSlot)) (o : (List (List TSlot)) ⊕ (Empty)) (h : extend_Grow_r9_rd s2 s25 s26 s27 s38_1 s38_2 w532 s x = some o) (m : Nat) (uz : List Value) : ∃ M E1, LpOf Try.prog (some m) (fbody Try.prog 14) (0 :: [0, 1, 1, 0, 0, 1, 1, 0, 0, 1, 0, 1, 1, 1]) ⟨setPs (extend_Grow_r9_E s2 s25 s26 s27 s38_1 s38_2) ((Array.toList #[39]).zip (extend_unions_1_enc x)), extend_Grow_r9_BL s2 s25 s26 s27 s38_1 s38_2 w532 s ++ [(vn, .vals (extend_Grow_r9_E s2 s25 s26 s27 s38_1 s38_2) uz)], (fun _ => []) s⟩ .normal M ∧
    LpOf Try.prog (some m) (fbody Try.prog 14) (1 :: [0, 1, 1, 0, 0, 1, 1, 0, 0, 1, 0, 1, 1, 1]) M (rex extend_Grow_r9_X o) ⟨E1, rbx (extend_Grow_r9_BL s2 s25 s26 s27 s38_1 s38_2 w532) (extend_Grow_r9_BT s2 s25 s26 s27 s38_1 s38_2 w532) o ++ [(vn, .vals (extend_Grow_r9_E s2 s25 s26 s27 s38_1 s38_2) uz)], rbx (fun _ => []) (fun _ => []) o⟩ := by
  unfold extend_Grow_r9_rd at h
  obtain ⟨o34, h33, h⟩ := bS h
  obtain ⟨o36, h34, h⟩ := bS h
  obtain rfl := si h
  exact ⟨(extend_Grow_b10_O uz s2 s25 s26 s27 s38_1 s38_2 x w532 s s2 s25 s26 s27 s38_1 s38_2 o34).2, sp 48 0 [], lp_wks (w := [.live [2, 5, 6, 25, 26, 27, 38, 39], .keep [5, 6, 532, 534, 919, 998]]) (s1 := extend_Grow_b10_I uz s2 s25 s26 s27 s38_1 s38_2 x w532 s s2 s25 s26 s27 s38_1 s38_2) (by kernel_rfl) (lp_cast (extend_Grow_b10_ok (some m) uz s2 s25 s26 s27 s38_1 s38_2 x w532 s s2 s25 s26 s27 s38_1 s38_2 o34 h33) rfl (by kernel_rfl) rfl), lp_wks (w := [.live [2, 5, 6, 11, 25, 26, 27, 38], .keep [5, 6, 532, 534, 919, 998]]) (s1 := extend_Grow_b12_I uz s2 x s25 s26 s27 s38_1 s38_2 w532 s s2 s25 s26 s27 s38_1 s38_2) (by kernel_rfl) (lp_cast (extend_Grow_b12_ok (some m) uz s2 x s25 s26 s27 s38_1 s38_2 w532 s s2 s25 s26 s27 s38_1 s38_2 o36 h34) rfl (by kernel_rfl) (by kernel_rfl))⟩
theorem extend_Grow_r9_ok (s2 : List (List TSlot)) (s25 : List (List TSlot)) (s26 : Int) (s27 : Int) (s38_1 : List (List TSlot)) (s38_2 : List TSlot) (w532 : List (List TSlot)) (s : List (List TSlot)) (o : (List (List TSlot)) ⊕ (Empty)) (h : extend_unions_1 (stepOf (extend_Grow_r9_rd s2 s25 s26 s27 s38_1 s38_2 w532)) s38_1 s38_2 (.inl s) = some o) : LpOf Try.prog none (fbody Try.prog 14) [0, 1, 1, 0, 0, 1, 1, 0, 0, 1, 0, 1, 1, 1] ⟨extend_Grow_r9_E s2 s25 s26 s27 s38_1 s38_2, extend_Grow_r9_BL s2 s25 s26 s27 s38_1 s38_2 w532 s, (fun _ => []) s⟩ (extend_Grow_r9_O s2 s25 s26 s27 s38_1 s38_2 w532 o).1 (extend_Grow_r9_O s2 s25 s26 s27 s38_1 s38_2 w532 o).2 :=
  range_ok (p := [0, 1, 1, 0, 0, 1, 1, 0, 0, 1, 0, 1, 1, 1]) (g := .tmp 38) (ps := #[39]) (assign := codeAt (fbody Try.prog 14) (0 :: [0, 1, 1, 0, 0, 1, 1, 0, 0, 1, 0, 1, 1, 1])) (body := codeAt (fbody Try.prog 14) (1 :: [0, 1, 1, 0, 0, 1, 1, 0, 0, 1, 0, 1, 1, 1])) (by kernel_rfl) (extend_Grow_r9_BL s2 s25 s26 s27 s38_1 s38_2 w532) (extend_Grow_r9_BT s2 s25 s26 s27 s38_1 s38_2 w532) (fun _ => []) (fun _ => []) extend_Grow_r9_X extend_unions_1_enc (extend_Grow_r9_rd s2 s25 s26 s27 s38_1 s38_2 w532) (gf := 60) (cs := [.eptr (D.cells ((D.l (D.l TSlot.D)) s38_1)), .eptr (D.cells ((D.l TSlot.D) s38_2))]) (by kernel_rfl) (by kernel_rfl) (by kernel_rfl) (fun x => ⟨by kernel_rfl, by kernel_rfl⟩) (fun s us => by kernel_rfl) (fun t us => t.elim) (fun s => rfl) (fun t => t.elim) (by kernel_rfl) (fun t => t.elim) (fun s => FOk.nil) (fun t => FOk.nil) (fun s x o h m us => extend_Grow_r9_rnd s2 s25 s26 s27 s38_1 s38_2 w532 s x o h m us) (extend_unions_1_ok (stepOf (extend_Grow_r9_rd s2 s25 s26 s27 s38_1 s38_2 w532)) s38_1 s38_2 (.inl s) o h)
def extend_Grow_l2_I (s2 : List (List TSlot)) (s25 : List (List TSlot)) (s26 : Int) (s27 : Int) (w600 : List (List TSlot)) (w601 : List (List TSlot)) : St := ⟨sp 48 0 [(2, .eptr (D.cells ((D.l (D.l TSlot.D)) s2))), (5, .box 5 0), (6, .box 6 0), (25, .d ((D.l (D.l TSlot.D)) s25)), (26, .d ((D.i .i64) s26)), (27, .d ((D.i .i64) s27))], [(5, .cells ([.box 919 0])), (6, .cells ([.row 600, .clo (.func 35) [] []])), (600, .rw 23 1 (w600.map (D.l TSlot.D))), (601, .rw 23 1 (w601.map (D.l TSlot.D))), (919, .cells ([.row 601, .clo (.func 35) [] []]))], []⟩
def extend_Grow_l2_O (s2 : List (List TSlot)) (s25 : List (List TSlot)) (s26 : Int) (o : (List (List TSlot))) : Ex × St := (.exit 2, ⟨sp 48 0 [(2, .eptr (D.cells ((D.l (D.l TSlot.D)) s2))), (5, .box 5 0)], [(5, .cells ([.box 919 0])), (601, .rw 23 1 (o.map (D.l TSlot.D))), (919, .cells ([.row 601, .clo (.func 35) [] []]))], []⟩)
theorem extend_Grow_l2_rnd (_ : Option Nat) (s2 : List (List TSlot)) (s25 : List (List TSlot)) (s26 : Int) (s27 : Int) (w600 : List (List TSlot)) (w601 : List (List TSlot)) (o : (Int × List (List TSlot) × List (List TSlot)) ⊕ ((List (List TSlot)))) (h : extend_Grow_l2_s s2 s25 s26 s27 w600 w601 = some o) : Arr Try.prog none (fbody Try.prog 14) (0 :: [0, 1, 0, 1, 1, 1]) (extend_Grow_l2_I s2 s25 s26 s27 w600 w601) (rR (fun s : Int × List (List TSlot) × List (List TSlot) => extend_Grow_l2_I s2 s25 s26 s.1 s.2.1 s.2.2) (extend_Grow_l2_O s2 s25 s26) o).1 (rR (fun s : Int × List (List TSlot) × List (List TSlot) => extend_Grow_l2_I s2 s25 s26 s.1 s.2.1 s.2.2) (extend_Grow_l2_O s2 s25 s26) o).2 := by
  unfold extend_Grow_l2_s at h
  rcases iS h with ⟨h21, h⟩ | ⟨h21, h⟩
  ·
   obtain ⟨x26, h22, h⟩ := xS h
   obtain ⟨r27, h23, h⟩ := bS h
   obtain ⟨r28, h24, h⟩ := bS h
   obtain ⟨r29, h25, h⟩ := bS h
   obtain ⟨r30, h26, h⟩ := bS h
   obtain ⟨o37, h29, h⟩ := bS h
   replace h := sumE_some h
   rcases h with ⟨o38, rfl, h⟩ | ⟨o39, rfl, h⟩
   ·
    obtain rfl := si h
    exact runB_arr mixed [(28, .bit true), (29, .el ((D.l TSlot.D) x26)), (32, .cx false [(0, 6), (1, 600)] [(2, 32)] (.d ((D.l (D.l TSlot.D)) r27.1)) [(0, .cells ([.row 2, .clo (.func 35) [] []])), (2, .rw 23 1 (r27.2.map (D.l TSlot.D)))]), (34, .cx false [(0, 919), (1, 601)] [(2, 34)] (.d ((D.l (D.l TSlot.D)) r28.1)) [(0, .cells ([.row 2, .clo (.func 35) [] []])), (2, .rw 23 1 (r28.2.map (D.l TSlot.D)))]), (36, .ret (.d ((D.l (D.l TSlot.D)) r29))), (38, .ret (.clo (.func 60) [] [.eptr (D.cells ((D.l (D.l TSlot.D)) r30.1)), .eptr (D.cells ((D.l TSlot.D) r30.2))]))] [⟨[0, 1, 1, 0, 0, 1, 1, 0, 0, 1, 0, 1, 1, 1], [.live [2, 5, 6, 25, 26, 27, 38], .keep [5, 6, 32, 34, 919], .ren 32 532, .ren 34 534, .sort], .normal, (extend_Grow_r9_O s2 s25 s26 s27 r30.1 r30.2 r27.2 (Sum.inl o38)).2⟩] [.live [2, 5, 6, 25, 26, 27], .keep [5, 6, 532, 534, 919], .ren 532 600, .ren 534 601, .sort] (ai h21 (ai (elem_map (D.l TSlot.D) h22) (ai (domain_Set_Slot_All_ok w600 r27 h23) (ai (domain_Set_Slot_All_ok w601 r28 h24) (ai (nc_ok (D.l (D.l TSlot.D)) [r27.1, r28.1]) (ai (slices_Concat_Slot_Slot_ok [r27.1, r28.1] r29 h25) (ai (extend_unions_ok r29 x26 r30 h26) (ai (extend_Grow_r9_ok s2 s25 s26 s27 r30.1 r30.2 r27.2 r28.2 (Sum.inl o38) h29) (ti))))))))) (by kernel_rfl)
   ·
    cases h
  ·
   obtain rfl := si h
   exact runB_arr mixed [(28, .bit false)] [] [.live [2, 5], .keep [5, 601, 919]] (ai h21 (ti)) (by kernel_rfl)
theorem extend_Grow_l2_ok (_ : Option Nat) (s2 : List (List TSlot)) (s25 : List (List TSlot)) (s26 : Int) (s27 : Int) (w600 : List (List TSlot)) (w601 : List (List TSlot)) (t : (List (List TSlot))) (h : extend_Grow_l2 s2 s25 s26 s27 w600 w601 = some t) : LpOf Try.prog none (fbody Try.prog 14) [0, 1, 0, 1, 1, 1] (extend_Grow_l2_I s2 s25 s26 s27 w600 w601) ((extend_Grow_l2_O s2 s25 s26) t).1 ((extend_Grow_l2_O s2 s25 s26) t).2 :=
  loopE_lpR (fun s : Int × List (List TSlot) × List (List TSlot) => extend_Grow_l2_I s2 s25 s26 s.1 s.2.1 s.2.2) (extend_Grow_l2_O s2 s25 s26) (by kernel_rfl) (fun t => isN_ne (by rfl)) (fun s o h => extend_Grow_l2_rnd none s2 s25 s26 s.1 s.2.1 s.2.2 o h) (s := (s27, w600, w601)) (t := t) h
theorem extend_Grow_ok (a0 : List (List TSlot)) (a1 : List THit) (r : List (List TSlot)) (h : extend_Grow a0 a1 = some r) : ACall Try.prog 14 [.d ((D.l (D.l TSlot.D)) a0), .d ((D.l THit.D) a1)] [] (.d ((D.l (D.l TSlot.D)) r)) [] := by
  unfold extend_Grow at h
  obtain ⟨r1, h1, h⟩ := bS h
  obtain ⟨r2, h2, h⟩ := bS h
  obtain ⟨o7, h9, h⟩ := bS h
  obtain ⟨r8, h10, h⟩ := bS h
  obtain ⟨o40, h30, h⟩ := bS h
  obtain ⟨r41, h31, h⟩ := bS h
  obtain ⟨r42, h32, h⟩ := bS h
  obtain rfl := si h
  exact runF_call mixed [(2, .frz), (12, .cx false [] [(0, 419)] (.box 0 0) [(0, .cells ([.nil, .clo (.func 35) [] []]))]), (13, .cx false [] [(0, 420)] (.box 0 0) [(0, .cells ([.nil, .clo (.func 35) [] []]))]), (15, .int (a0.length : Int)), (25, .ret (.d ((D.l (D.l TSlot.D)) r8))), (26, .int (r8.length : Int)), (45, .cx false [(0, 919), (1, 601)] [(2, 45), (3, 452)] (.row 2) [(0, .cells ([.row 3, .clo (.func 35) [] []])), (2, .rw 23 1 (r41.1.map (D.l TSlot.D))), (3, .rw 23 1 (r41.2.map (D.l TSlot.D)))]), (47, .cx false [(0, 45)] [] (.d ((D.l (D.l TSlot.D)) r42)) [])] [⟨[0, 1, 0, 1, 1], [.live [1, 2, 5, 6, 14, 15, 16], .keep [5, 419, 420], .ren 419 919, .ren 420 6, .nilc 6 0 600 23 1, .sort], .exit 0, (extend_Grow_l1_O a1 a0 a0 (a0.length : Int) o7).2⟩, ⟨[0, 1, 0, 1, 1, 1], [.live [2, 5, 6, 25, 26, 27], .keep [5, 6, 600, 919], .nilc 919 0 601 23 1, .sort], .exit 2, (extend_Grow_l2_O a0 r8 (r8.length : Int) o40).2⟩] [] (ai (domain_NewSet_Slot_v2_ok r1 h1) (ai (domain_NewSet_Slot_v2_ok r2 h2) (ai (len_map (D.l TSlot.D) a0) (ai (extend_Grow_l1_ok none a1 a0 a0 (a0.length : Int) 0 ([] : List (List TSlot)) o7 h9) (ai (match_Binds_ok a1 r8 h10) (ai (len_map (D.l TSlot.D) r8) (ai (extend_Grow_l2_ok none a0 r8 (r8.length : Int) 0 o7 ([] : List (List TSlot)) o40 h30) (ai (domain_Set_Slot_All_v3_ok o40 r41 h31) (ai (slices_DeleteFunc_Slot_Slot_ok a0 r41.1 r42 h32) (ti)))))))))) (by kernel_rfl)
def ref05_Same_l1_I (s0 : List TSlot) (s1 : List TSlot) (s5 : Int) : St := ⟨sp 26 0 [(0, .d ((D.l TSlot.D) s0)), (1, .d ((D.l TSlot.D) s1)), (5, .d ((D.i .i64) s5))], [], []⟩
def ref05_Same_l1_O (s0 : List TSlot) (s1 : List TSlot) (o : Unit ⊕ Unit) : Ex × St := match o with
  | .inl o => (.exit 0, ⟨sp 26 0 [], [], []⟩)
  | .inr o => (.ret, ⟨sp 26 0 [(4, .d (D.b false))], [], []⟩)
theorem ref05_Same_l1_rnd (rd : Option Nat) (s0 : List TSlot) (s1 : List TSlot) (s5 : Int) (o : (Int) ⊕ (Unit ⊕ Unit)) (h : ref05_Same_l1_s s0 s1 s5 = some o) : Arr Try.prog rd (fbody Try.prog 30) (0 :: [0, 1, 0, 1, 1]) (ref05_Same_l1_I s0 s1 s5) (rR (fun s : Int => ref05_Same_l1_I s0 s1 s) (ref05_Same_l1_O s0 s1) o).1 (rR (fun s : Int => ref05_Same_l1_I s0 s1 s) (ref05_Same_l1_O s0 s1) o).2 := by
  unfold ref05_Same_l1_s at h
  rcases iS h with ⟨h2, h⟩ | ⟨h2, h⟩
  ·
   obtain ⟨x1, h3, h⟩ := xS h
   obtain ⟨x2, h4, h⟩ := xS h
   rcases iS h with ⟨h5, h⟩ | ⟨h5, h⟩
   ·
    obtain rfl := si h
    exact runB_arr mixed [(13, .int (s0.length : Int)), (14, .bit true), (19, .el (TSlot.D x1)), (23, .el (TSlot.D x2)), (25, .bit true)] [] [.live [4], .keep []] (ai (len_map TSlot.D s0) (ai h2 (ai (elem_map TSlot.D h3) (ai (elem_map TSlot.D h4) (ai h5 (ti)))))) (by kernel_rfl)
   ·
    obtain rfl := si h
    exact runB_arr mixed [(13, .int (s0.length : Int)), (14, .bit true), (19, .el (TSlot.D x1)), (23, .el (TSlot.D x2)), (25, .bit false)] [] [.live [0, 1, 5], .keep []] (ai (len_map TSlot.D s0) (ai h2 (ai (elem_map TSlot.D h3) (ai (elem_map TSlot.D h4) (ai h5 (ti)))))) (by kernel_rfl)
  ·
   obtain rfl := si h
   exact runB_arr mixed [(13, .int (s0.length : Int)), (14, .bit false)] [] [.live [], .keep []] (ai (len_map TSlot.D s0) (ai h2 (ti))) (by kernel_rfl)
theorem ref05_Same_l1_ok (rd : Option Nat) (s0 : List TSlot) (s1 : List TSlot) (s5 : Int) (t : Unit ⊕ Unit) (h : ref05_Same_l1 s0 s1 s5 = some t) : LpOf Try.prog rd (fbody Try.prog 30) [0, 1, 0, 1, 1] (ref05_Same_l1_I s0 s1 s5) ((ref05_Same_l1_O s0 s1) t).1 ((ref05_Same_l1_O s0 s1) t).2 :=
  loopE_lpR (fun s : Int => ref05_Same_l1_I s0 s1 s) (ref05_Same_l1_O s0 s1) (by kernel_rfl) (fun t => isN_ne (by rcases t with (_ | _) <;> rfl)) (fun s o h => ref05_Same_l1_rnd rd s0 s1 s o h) (s := s5) (t := t) h
theorem ref05_Same_ok (a0 : List TSlot) (a1 : List TSlot) (r : Bool) (h : ref05_Same a0 a1 = some r) : ACall Try.prog 30 [.d ((D.l TSlot.D) a0), .d ((D.l TSlot.D) a1)] [] (.d (D.b r)) [] := by
  unfold ref05_Same at h
  rcases iS h with ⟨h1, h⟩ | ⟨h1, h⟩
  ·
   obtain rfl := si h
   exact runF_call mixed [(7, .int (a0.length : Int)), (9, .int (a1.length : Int)), (10, .bit true)] [] [] (ai (len_map TSlot.D a0) (ai (len_map TSlot.D a1) (ai h1 (ti)))) (by kernel_rfl)
  ·
   obtain ⟨o3, h6, h⟩ := bS h
   replace h := sumE_some h
   rcases h with ⟨o4, rfl, h⟩ | ⟨o5, rfl, h⟩
   ·
    obtain rfl := si h
    exact runF_call mixed [(7, .int (a0.length : Int)), (9, .int (a1.length : Int)), (10, .bit false)] [⟨[0, 1, 0, 1, 1], [.live [0, 1, 5], .keep []], .exit 0, (ref05_Same_l1_O a0 a1 (Sum.inl o4)).2⟩] [] (ai (len_map TSlot.D a0) (ai (len_map TSlot.D a1) (ai h1 (ai (ref05_Same_l1_ok none a0 a1 0 (Sum.inl o4) h6) (ti))))) (by kernel_rfl)
   ·
    obtain rfl := si h
    exact runF_call mixed [(7, .int (a0.length : Int)), (9, .int (a1.length : Int)), (10, .bit false)] [⟨[0, 1, 0, 1, 1], [.live [0, 1, 5], .keep []], .ret, (ref05_Same_l1_O a0 a1 (Sum.inr o5)).2⟩] [] (ai (len_map TSlot.D a0) (ai (len_map TSlot.D a1) (ai h1 (ai (ref05_Same_l1_ok none a0 a1 0 (Sum.inr o5) h6) (ti))))) (by kernel_rfl)
theorem law26_awake_ok (r : Bool) (h : law26_awake = some r) : ACall Try.prog 8 [] [] (.d (D.b r)) [] := by
  unfold law26_awake at h
  obtain ⟨r1, h1, h⟩ := bS h
  obtain ⟨r2, h2, h⟩ := bS h
  obtain ⟨r3, h3, h⟩ := bS h
  obtain ⟨r4, h4, h⟩ := bS h
  rcases iS h with ⟨h5, h⟩ | ⟨h5, h⟩
  ·
   obtain ⟨x5, h6, h⟩ := xS h
   obtain ⟨r6, h7, h⟩ := bS h
   obtain ⟨r7, h8, h⟩ := bS h
   cases r7 with
   | true =>
    replace h := iteT h
    obtain ⟨x8, h10, h⟩ := xS h
    rcases iS h with ⟨h11, h⟩ | ⟨h11, h⟩
    ·
     obtain ⟨x9, h12, h⟩ := xS h
     obtain ⟨x10, h13, h⟩ := xS h
     obtain ⟨r11, h14, h⟩ := bS h
     obtain rfl := si h
     exact runF_call mixed [(2, .ret (.d (TSlot.D r1))), (5, .ret (.d (TSlot.D r2))), (8, .ret (.d (TSlot.D r3))), (12, .ret (.d ((D.l (D.l TSlot.D)) r4))), (14, .int (r4.length : Int)), (16, .bit true), (18, .el ((D.l TSlot.D) x5)), (20, .ret (.d (TSlot.D r6))), (22, .ret (.d (D.b true))), (26, .el ((D.l TSlot.D) x8)), (28, .int (x8.length : Int)), (31, .bit true), (33, .el ((D.l TSlot.D) x9)), (35, .el (TSlot.D x10)), (37, .ret (.d (TSlot.D r11)))] [] [] (ai (law26_slot_ok 1 7 r1 h1) (ai (nc_ok TSlot.D [r1]) (ai (nc_ok (D.l TSlot.D) ([([] : List TSlot), [r1]])) (ai (law26_slot_ok 0 5 r2 h2) (ai (nc_ok TSlot.D [r2]) (ai (law26_slot_ok 0 6 r3 h3) (ai (nc_ok TSlot.D [r3]) (ai (nc_ok THit.D ([THit.mk 0 [r2] ([] : List TSlot), THit.mk 1 [r3] ([] : List TSlot)])) (ai (extend_Grow_ok ([([] : List TSlot), [r1]]) ([THit.mk 0 [r2] ([] : List TSlot), THit.mk 1 [r3] ([] : List TSlot)]) r4 h4) (ai (len_map (D.l TSlot.D) r4) (ai h5 (ai (elem_map (D.l TSlot.D) h6) (ai (law26_slot_ok 0 6 r6 h7) (ai (nc_ok TSlot.D [r6]) (ai (ref05_Same_ok x5 [r6] true h8) (ai (elem_map (D.l TSlot.D) h10) (ai (len_map TSlot.D x8) (ai h11 (ai (elem_map (D.l TSlot.D) h12) (ai (elem_map TSlot.D h13) (ai (law26_slot_ok 1 7 r11 h14) (ti)))))))))))))))))))))) (by kernel_rfl)
    ·
     obtain rfl := si h
     exact runF_call mixed [(2, .ret (.d (TSlot.D r1))), (5, .ret (.d (TSlot.D r2))), (8, .ret (.d (TSlot.D r3))), (12, .ret (.d ((D.l (D.l TSlot.D)) r4))), (14, .int (r4.length : Int)), (16, .bit true), (18, .el ((D.l TSlot.D) x5)), (20, .ret (.d (TSlot.D r6))), (22, .ret (.d (D.b true))), (26, .el ((D.l TSlot.D) x8)), (28, .int (x8.length : Int)), (31, .bit false)] [] [] (ai (law26_slot_ok 1 7 r1 h1) (ai (nc_ok TSlot.D [r1]) (ai (nc_ok (D.l TSlot.D) ([([] : List TSlot), [r1]])) (ai (law26_slot_ok 0 5 r2 h2) (ai (nc_ok TSlot.D [r2]) (ai (law26_slot_ok 0 6 r3 h3) (ai (nc_ok TSlot.D [r3]) (ai (nc_ok THit.D ([THit.mk 0 [r2] ([] : List TSlot), THit.mk 1 [r3] ([] : List TSlot)])) (ai (extend_Grow_ok ([([] : List TSlot), [r1]]) ([THit.mk 0 [r2] ([] : List TSlot), THit.mk 1 [r3] ([] : List TSlot)]) r4 h4) (ai (len_map (D.l TSlot.D) r4) (ai h5 (ai (elem_map (D.l TSlot.D) h6) (ai (law26_slot_ok 0 6 r6 h7) (ai (nc_ok TSlot.D [r6]) (ai (ref05_Same_ok x5 [r6] true h8) (ai (elem_map (D.l TSlot.D) h10) (ai (len_map TSlot.D x8) (ai h11 (ti))))))))))))))))))) (by kernel_rfl)
   | false =>
    replace h := iteF h
    obtain rfl := si h
    exact runF_call mixed [(2, .ret (.d (TSlot.D r1))), (5, .ret (.d (TSlot.D r2))), (8, .ret (.d (TSlot.D r3))), (12, .ret (.d ((D.l (D.l TSlot.D)) r4))), (14, .int (r4.length : Int)), (16, .bit true), (18, .el ((D.l TSlot.D) x5)), (20, .ret (.d (TSlot.D r6))), (22, .ret (.d (D.b false)))] [] [] (ai (law26_slot_ok 1 7 r1 h1) (ai (nc_ok TSlot.D [r1]) (ai (nc_ok (D.l TSlot.D) ([([] : List TSlot), [r1]])) (ai (law26_slot_ok 0 5 r2 h2) (ai (nc_ok TSlot.D [r2]) (ai (law26_slot_ok 0 6 r3 h3) (ai (nc_ok TSlot.D [r3]) (ai (nc_ok THit.D ([THit.mk 0 [r2] ([] : List TSlot), THit.mk 1 [r3] ([] : List TSlot)])) (ai (extend_Grow_ok ([([] : List TSlot), [r1]]) ([THit.mk 0 [r2] ([] : List TSlot), THit.mk 1 [r3] ([] : List TSlot)]) r4 h4) (ai (len_map (D.l TSlot.D) r4) (ai h5 (ai (elem_map (D.l TSlot.D) h6) (ai (law26_slot_ok 0 6 r6 h7) (ai (nc_ok TSlot.D [r6]) (ai (ref05_Same_ok x5 [r6] false h8) (ti)))))))))))))))) (by kernel_rfl)
  ·
   obtain rfl := si h
   exact runF_call mixed [(2, .ret (.d (TSlot.D r1))), (5, .ret (.d (TSlot.D r2))), (8, .ret (.d (TSlot.D r3))), (12, .ret (.d ((D.l (D.l TSlot.D)) r4))), (14, .int (r4.length : Int)), (16, .bit false)] [] [] (ai (law26_slot_ok 1 7 r1 h1) (ai (nc_ok TSlot.D [r1]) (ai (nc_ok (D.l TSlot.D) ([([] : List TSlot), [r1]])) (ai (law26_slot_ok 0 5 r2 h2) (ai (nc_ok TSlot.D [r2]) (ai (law26_slot_ok 0 6 r3 h3) (ai (nc_ok TSlot.D [r3]) (ai (nc_ok THit.D ([THit.mk 0 [r2] ([] : List TSlot), THit.mk 1 [r3] ([] : List TSlot)])) (ai (extend_Grow_ok ([([] : List TSlot), [r1]]) ([THit.mk 0 [r2] ([] : List TSlot), THit.mk 1 [r3] ([] : List TSlot)]) r4 h4) (ai (len_map (D.l TSlot.D) r4) (ai h5 (ti)))))))))))) (by kernel_rfl)
theorem ref03_Right_ok (a0 : TValue) (r : Bool) (h : ref03_Right a0 = some r) : ACall Try.prog 53 [.d (TValue.D a0)] [] (.d (D.b r)) [] := by
  unfold ref03_Right at h
  rcases iS h with ⟨h1, h⟩ | ⟨h1, h⟩
  ·
   rcases iS h with ⟨h2, h⟩ | ⟨h2, h⟩
   ·
    obtain rfl := si h
    exact runF_call mixed [(5, .bit true), (9, .bit true)] [] [] (ai h1 (ai h2 (ti))) (by kernel_rfl)
   ·
    obtain rfl := si h
    exact runF_call mixed [(5, .bit true), (9, .bit false)] [] [] (ai h1 (ai h2 (ti))) (by kernel_rfl)
  ·
   rcases iS h with ⟨h3, h⟩ | ⟨h3, h⟩
   ·
    rcases iS h with ⟨h4, h⟩ | ⟨h4, h⟩
    ·
     rcases iS h with ⟨h5, h⟩ | ⟨h5, h⟩
     ·
      obtain rfl := si h
      exact runF_call mixed [(5, .bit false), (16, .bit true), (20, .bit true), (25, .bit true), (28, .int (a0.str.length : Int))] [] [] (ai h1 (ai h3 (ai h4 (ai h5 (ai (len_str a0.str) (ti)))))) (by kernel_rfl)
     ·
      obtain rfl := si h
      exact runF_call mixed [(5, .bit false), (16, .bit true), (20, .bit true), (25, .bit false)] [] [] (ai h1 (ai h3 (ai h4 (ai h5 (ti))))) (by kernel_rfl)
    ·
     obtain rfl := si h
     exact runF_call mixed [(5, .bit false), (16, .bit true), (20, .bit false)] [] [] (ai h1 (ai h3 (ai h4 (ti)))) (by kernel_rfl)
   ·
    rcases iS h with ⟨h6, h⟩ | ⟨h6, h⟩
    ·
     rcases iS h with ⟨h7, h⟩ | ⟨h7, h⟩
     ·
      obtain rfl := si h
      exact runF_call mixed [(5, .bit false), (16, .bit false), (34, .bit true), (39, .bit true)] [] [] (ai h1 (ai h3 (ai h6 (ai h7 (ti))))) (by kernel_rfl)
     ·
      obtain rfl := si h
      exact runF_call mixed [(5, .bit false), (16, .bit false), (34, .bit true), (39, .bit false)] [] [] (ai h1 (ai h3 (ai h6 (ai h7 (ti))))) (by kernel_rfl)
    ·
     obtain rfl := si h
     exact runF_call mixed [(5, .bit false), (16, .bit false), (34, .bit false)] [] [] (ai h1 (ai h3 (ai h6 (ti)))) (by kernel_rfl)
def ref05_Right_l1_I (s0 : List TSlot) (s3 : Int) : St := ⟨sp 51 0 [(0, .d ((D.l TSlot.D) s0)), (3, .d ((D.i .i64) s3))], [], []⟩
def ref05_Right_l1_O (s0 : List TSlot) (o : Unit ⊕ Unit) : Ex × St := match o with
  | .inl o => (.exit 0, ⟨sp 51 0 [], [], []⟩)
  | .inr o => (.ret, ⟨sp 51 0 [(2, .d (D.b false))], [], []⟩)
theorem ref05_Right_l1_rnd (rd : Option Nat) (s0 : List TSlot) (s3 : Int) (o : (Int) ⊕ (Unit ⊕ Unit)) (h : ref05_Right_l1_s s0 s3 = some o) : Arr Try.prog rd (fbody Try.prog 28) (0 :: [0, 1, 0, 1]) (ref05_Right_l1_I s0 s3) (rR (fun s : Int => ref05_Right_l1_I s0 s) (ref05_Right_l1_O s0) o).1 (rR (fun s : Int => ref05_Right_l1_I s0 s) (ref05_Right_l1_O s0) o).2 := by
  unfold ref05_Right_l1_s at h
  rcases iS h with ⟨h1, h⟩ | ⟨h1, h⟩
  ·
   obtain ⟨x1, h2, h⟩ := xS h
   rcases iS h with ⟨h3, h⟩ | ⟨h3, h⟩
   ·
    obtain rfl := si h
    exact runB_arr mixed [(6, .int (s0.length : Int)), (7, .bit true), (12, .el (TSlot.D x1)), (16, .bit true)] [] [.live [2], .keep []] (ai (len_map TSlot.D s0) (ai h1 (ai (elem_map TSlot.D h2) (ai h3 (ti))))) (by kernel_rfl)
   ·
    obtain ⟨x2, h4, h⟩ := xS h
    rcases iS h with ⟨h5, h⟩ | ⟨h5, h⟩
    ·
     obtain rfl := si h
     exact runB_arr mixed [(6, .int (s0.length : Int)), (7, .bit true), (12, .el (TSlot.D x1)), (16, .bit false), (19, .el (TSlot.D x2)), (24, .bit true)] [] [.live [2], .keep []] (ai (len_map TSlot.D s0) (ai h1 (ai (elem_map TSlot.D h2) (ai h3 (ai (elem_map TSlot.D h4) (ai h5 (ti))))))) (by kernel_rfl)
    ·
     obtain ⟨x3, h6, h⟩ := xS h
     obtain ⟨r4, h7, h⟩ := bS h
     rcases iS h with ⟨h8, h⟩ | ⟨h8, h⟩
     ·
      obtain rfl := si h
      exact runB_arr mixed [(6, .int (s0.length : Int)), (7, .bit true), (12, .el (TSlot.D x1)), (16, .bit false), (19, .el (TSlot.D x2)), (24, .bit false), (27, .el (TSlot.D x3)), (30, .ret (.d (D.b r4))), (33, .bit true)] [] [.live [2], .keep []] (ai (len_map TSlot.D s0) (ai h1 (ai (elem_map TSlot.D h2) (ai h3 (ai (elem_map TSlot.D h4) (ai h5 (ai (elem_map TSlot.D h6) (ai (ref03_Right_ok x3.value r4 h7) (ai h8 (ti)))))))))) (by kernel_rfl)
     ·
      rcases iS h with ⟨h9, h⟩ | ⟨h9, h⟩
      ·
       obtain ⟨x5, h10, h⟩ := xS h
       obtain ⟨x6, h11, h⟩ := xS h
       rcases iS h with ⟨h12, h⟩ | ⟨h12, h⟩
       ·
        obtain rfl := si h
        exact runB_arr mixed [(6, .int (s0.length : Int)), (7, .bit true), (12, .el (TSlot.D x1)), (16, .bit false), (19, .el (TSlot.D x2)), (24, .bit false), (27, .el (TSlot.D x3)), (30, .ret (.d (D.b r4))), (33, .bit false), (36, .bit true), (39, .el (TSlot.D x5)), (45, .el (TSlot.D x6)), (50, .bit true)] [] [.live [2], .keep []] (ai (len_map TSlot.D s0) (ai h1 (ai (elem_map TSlot.D h2) (ai h3 (ai (elem_map TSlot.D h4) (ai h5 (ai (elem_map TSlot.D h6) (ai (ref03_Right_ok x3.value r4 h7) (ai h8 (ai h9 (ai (elem_map TSlot.D h10) (ai (elem_map TSlot.D h11) (ai h12 (ti)))))))))))))) (by kernel_rfl)
       ·
        obtain rfl := si h
        exact runB_arr mixed [(6, .int (s0.length : Int)), (7, .bit true), (12, .el (TSlot.D x1)), (16, .bit false), (19, .el (TSlot.D x2)), (24, .bit false), (27, .el (TSlot.D x3)), (30, .ret (.d (D.b r4))), (33, .bit false), (36, .bit true), (39, .el (TSlot.D x5)), (45, .el (TSlot.D x6)), (50, .bit false)] [] [.live [0, 3], .keep []] (ai (len_map TSlot.D s0) (ai h1 (ai (elem_map TSlot.D h2) (ai h3 (ai (elem_map TSlot.D h4) (ai h5 (ai (elem_map TSlot.D h6) (ai (ref03_Right_ok x3.value r4 h7) (ai h8 (ai h9 (ai (elem_map TSlot.D h10) (ai (elem_map TSlot.D h11) (ai h12 (ti)))))))))))))) (by kernel_rfl)
      ·
       obtain rfl := si h
       exact runB_arr mixed [(6, .int (s0.length : Int)), (7, .bit true), (12, .el (TSlot.D x1)), (16, .bit false), (19, .el (TSlot.D x2)), (24, .bit false), (27, .el (TSlot.D x3)), (30, .ret (.d (D.b r4))), (33, .bit false), (36, .bit false)] [] [.live [0, 3], .keep []] (ai (len_map TSlot.D s0) (ai h1 (ai (elem_map TSlot.D h2) (ai h3 (ai (elem_map TSlot.D h4) (ai h5 (ai (elem_map TSlot.D h6) (ai (ref03_Right_ok x3.value r4 h7) (ai h8 (ai h9 (ti))))))))))) (by kernel_rfl)
  ·
   obtain rfl := si h
   exact runB_arr mixed [(6, .int (s0.length : Int)), (7, .bit false)] [] [.live [], .keep []] (ai (len_map TSlot.D s0) (ai h1 (ti))) (by kernel_rfl)
theorem ref05_Right_l1_ok (rd : Option Nat) (s0 : List TSlot) (s3 : Int) (t : Unit ⊕ Unit) (h : ref05_Right_l1 s0 s3 = some t) : LpOf Try.prog rd (fbody Try.prog 28) [0, 1, 0, 1] (ref05_Right_l1_I s0 s3) ((ref05_Right_l1_O s0) t).1 ((ref05_Right_l1_O s0) t).2 :=
  loopE_lpR (fun s : Int => ref05_Right_l1_I s0 s) (ref05_Right_l1_O s0) (by kernel_rfl) (fun t => isN_ne (by rcases t with (_ | _) <;> rfl)) (fun s o h => ref05_Right_l1_rnd rd s0 s o h) (s := s3) (t := t) h
theorem ref05_Right_ok (a0 : List TSlot) (r : Bool) (h : ref05_Right a0 = some r) : ACall Try.prog 28 [.d ((D.l TSlot.D) a0)] [] (.d (D.b r)) [] := by
  unfold ref05_Right at h
  obtain ⟨o7, h13, h⟩ := bS h
  replace h := sumE_some h
  rcases h with ⟨o8, rfl, h⟩ | ⟨o9, rfl, h⟩
  ·
   obtain rfl := si h
   exact runF_call mixed [] [⟨[0, 1, 0, 1], [.live [0, 3], .keep []], .exit 0, (ref05_Right_l1_O a0 (Sum.inl o8)).2⟩] [] (ai (ref05_Right_l1_ok none a0 0 (Sum.inl o8) h13) (ti)) (by kernel_rfl)
  ·
   obtain rfl := si h
   exact runF_call mixed [] [⟨[0, 1, 0, 1], [.live [0, 3], .keep []], .ret, (ref05_Right_l1_O a0 (Sum.inr o9)).2⟩] [] (ai (ref05_Right_l1_ok none a0 0 (Sum.inr o9) h13) (ti)) (by kernel_rfl)
def law26_right_l2_I (s0 : List (List TSlot)) (s3 : Int) (s4 : Int) : St := ⟨sp 45 0 [(0, .d ((D.l (D.l TSlot.D)) s0)), (3, .d ((D.i .i64) s3)), (4, .d ((D.i .i64) s4))], [], []⟩
def law26_right_l2_O (s0 : List (List TSlot)) (s3 : Int) (o : Unit ⊕ Unit) : Ex × St := match o with
  | .inl o => (.exit 2, ⟨sp 45 0 [(0, .d ((D.l (D.l TSlot.D)) s0)), (3, .d ((D.i .i64) s3))], [], []⟩)
  | .inr o => (.ret, ⟨sp 45 0 [(2, .d (D.b false))], [], []⟩)
theorem law26_right_l2_rnd (rd : Option Nat) (s0 : List (List TSlot)) (s3 : Int) (s4 : Int) (o : (Int) ⊕ (Unit ⊕ Unit)) (h : law26_right_l2_s s0 s3 s4 = some o) : Arr Try.prog rd (fbody Try.prog 7) (0 :: [0, 1, 1, 0, 0, 1, 0, 0, 1, 0, 1]) (law26_right_l2_I s0 s3 s4) (rR (fun s : Int => law26_right_l2_I s0 s3 s) (law26_right_l2_O s0 s3) o).1 (rR (fun s : Int => law26_right_l2_I s0 s3 s) (law26_right_l2_O s0 s3) o).2 := by
  unfold law26_right_l2_s at h
  obtain ⟨x4, h7, h⟩ := xS h
  rcases iS h with ⟨h8, h⟩ | ⟨h8, h⟩
  ·
   obtain ⟨x5, h9, h⟩ := xS h
   obtain ⟨x6, h10, h⟩ := xS h
   rcases iS h with ⟨h11, h⟩ | ⟨h11, h⟩
   ·
    obtain rfl := si h
    exact runB_arr mixed [(28, .el ((D.l TSlot.D) x4)), (30, .int (x4.length : Int)), (31, .bit true), (36, .el ((D.l TSlot.D) x5)), (39, .el (TSlot.D x6)), (43, .int (x6.value.str.length : Int)), (44, .bit true)] [] [.live [2], .keep []] (ai (elem_map (D.l TSlot.D) h7) (ai (len_map TSlot.D x4) (ai h8 (ai (elem_map (D.l TSlot.D) h9) (ai (elem_map TSlot.D h10) (ai (len_str x6.value.str) (ai h11 (ti)))))))) (by kernel_rfl)
   ·
    obtain rfl := si h
    exact runB_arr mixed [(28, .el ((D.l TSlot.D) x4)), (30, .int (x4.length : Int)), (31, .bit true), (36, .el ((D.l TSlot.D) x5)), (39, .el (TSlot.D x6)), (43, .int (x6.value.str.length : Int)), (44, .bit false)] [] [.live [0, 3, 4], .keep []] (ai (elem_map (D.l TSlot.D) h7) (ai (len_map TSlot.D x4) (ai h8 (ai (elem_map (D.l TSlot.D) h9) (ai (elem_map TSlot.D h10) (ai (len_str x6.value.str) (ai h11 (ti)))))))) (by kernel_rfl)
  ·
   obtain rfl := si h
   exact runB_arr mixed [(28, .el ((D.l TSlot.D) x4)), (30, .int (x4.length : Int)), (31, .bit false)] [] [.live [0, 3], .keep []] (ai (elem_map (D.l TSlot.D) h7) (ai (len_map TSlot.D x4) (ai h8 (ti)))) (by kernel_rfl)
theorem law26_right_l2_ok (rd : Option Nat) (s0 : List (List TSlot)) (s3 : Int) (s4 : Int) (t : Unit ⊕ Unit) (h : law26_right_l2 s0 s3 s4 = some t) : LpOf Try.prog rd (fbody Try.prog 7) [0, 1, 1, 0, 0, 1, 0, 0, 1, 0, 1] (law26_right_l2_I s0 s3 s4) ((law26_right_l2_O s0 s3) t).1 ((law26_right_l2_O s0 s3) t).2 :=
  loopE_lpR (fun s : Int => law26_right_l2_I s0 s3 s) (law26_right_l2_O s0 s3) (by kernel_rfl) (fun t => isN_ne (by rcases t with (_ | _) <;> rfl)) (fun s o h => law26_right_l2_rnd rd s0 s3 s o h) (s := s4) (t := t) h
def law26_right_l1_I (s0 : List (List TSlot)) (s3 : Int) : St := ⟨sp 45 0 [(0, .d ((D.l (D.l TSlot.D)) s0)), (3, .d ((D.i .i64) s3))], [], []⟩
def law26_right_l1_O (s0 : List (List TSlot)) (o : Unit ⊕ Unit) : Ex × St := match o with
  | .inl o => (.exit 0, ⟨sp 45 0 [], [], []⟩)
  | .inr o => (.ret, ⟨sp 45 0 [(2, .d (D.b false))], [], []⟩)
theorem law26_right_l1_rnd (rd : Option Nat) (s0 : List (List TSlot)) (s3 : Int) (o : (Int) ⊕ (Unit ⊕ Unit)) (h : law26_right_l1_s s0 s3 = some o) : Arr Try.prog rd (fbody Try.prog 7) (0 :: [0, 1, 0, 1]) (law26_right_l1_I s0 s3) (rR (fun s : Int => law26_right_l1_I s0 s) (law26_right_l1_O s0) o).1 (rR (fun s : Int => law26_right_l1_I s0 s) (law26_right_l1_O s0) o).2 := by
  unfold law26_right_l1_s at h
  rcases iS h with ⟨h1, h⟩ | ⟨h1, h⟩
  ·
   obtain ⟨x1, h2, h⟩ := xS h
   rcases iS h with ⟨h3, h⟩ | ⟨h3, h⟩
   ·
    obtain rfl := si h
    exact runB_arr mixed [(7, .int (s0.length : Int)), (8, .bit true), (13, .el ((D.l TSlot.D) x1)), (15, .int (x1.length : Int)), (17, .bit true)] [] [.live [2], .keep []] (ai (len_map (D.l TSlot.D) s0) (ai h1 (ai (elem_map (D.l TSlot.D) h2) (ai (len_map TSlot.D x1) (ai h3 (ti)))))) (by kernel_rfl)
   ·
    obtain ⟨x2, h4, h⟩ := xS h
    obtain ⟨r3, h5, h⟩ := bS h
    rcases iS h with ⟨h6, h⟩ | ⟨h6, h⟩
    ·
     obtain rfl := si h
     exact runB_arr mixed [(7, .int (s0.length : Int)), (8, .bit true), (13, .el ((D.l TSlot.D) x1)), (15, .int (x1.length : Int)), (17, .bit false), (20, .el ((D.l TSlot.D) x2)), (22, .ret (.d (D.b r3))), (24, .bit true)] [] [.live [2], .keep []] (ai (len_map (D.l TSlot.D) s0) (ai h1 (ai (elem_map (D.l TSlot.D) h2) (ai (len_map TSlot.D x1) (ai h3 (ai (elem_map (D.l TSlot.D) h4) (ai (ref05_Right_ok x2 r3 h5) (ai h6 (ti))))))))) (by kernel_rfl)
    ·
     obtain ⟨o7, h12, h⟩ := bS h
     replace h := sumE_some h
     rcases h with ⟨o8, rfl, h⟩ | ⟨o9, rfl, h⟩
     ·
      obtain rfl := si h
      exact runB_arr mixed [(7, .int (s0.length : Int)), (8, .bit true), (13, .el ((D.l TSlot.D) x1)), (15, .int (x1.length : Int)), (17, .bit false), (20, .el ((D.l TSlot.D) x2)), (22, .ret (.d (D.b r3))), (24, .bit false)] [⟨[0, 1, 1, 0, 0, 1, 0, 0, 1, 0, 1], [.live [0, 3, 4], .keep []], .exit 2, (law26_right_l2_O s0 s3 (Sum.inl o8)).2⟩] [.live [0, 3], .keep []] (ai (len_map (D.l TSlot.D) s0) (ai h1 (ai (elem_map (D.l TSlot.D) h2) (ai (len_map TSlot.D x1) (ai h3 (ai (elem_map (D.l TSlot.D) h4) (ai (ref05_Right_ok x2 r3 h5) (ai h6 (ai (law26_right_l2_ok rd s0 s3 0 (Sum.inl o8) h12) (ti)))))))))) (by kernel_rfl)
     ·
      obtain rfl := si h
      exact runB_arr mixed [(7, .int (s0.length : Int)), (8, .bit true), (13, .el ((D.l TSlot.D) x1)), (15, .int (x1.length : Int)), (17, .bit false), (20, .el ((D.l TSlot.D) x2)), (22, .ret (.d (D.b r3))), (24, .bit false)] [⟨[0, 1, 1, 0, 0, 1, 0, 0, 1, 0, 1], [.live [0, 3, 4], .keep []], .ret, (law26_right_l2_O s0 s3 (Sum.inr o9)).2⟩] [.live [2], .keep []] (ai (len_map (D.l TSlot.D) s0) (ai h1 (ai (elem_map (D.l TSlot.D) h2) (ai (len_map TSlot.D x1) (ai h3 (ai (elem_map (D.l TSlot.D) h4) (ai (ref05_Right_ok x2 r3 h5) (ai h6 (ai (law26_right_l2_ok rd s0 s3 0 (Sum.inr o9) h12) (ti)))))))))) (by kernel_rfl)
  ·
   obtain rfl := si h
   exact runB_arr mixed [(7, .int (s0.length : Int)), (8, .bit false)] [] [.live [], .keep []] (ai (len_map (D.l TSlot.D) s0) (ai h1 (ti))) (by kernel_rfl)
theorem law26_right_l1_ok (rd : Option Nat) (s0 : List (List TSlot)) (s3 : Int) (t : Unit ⊕ Unit) (h : law26_right_l1 s0 s3 = some t) : LpOf Try.prog rd (fbody Try.prog 7) [0, 1, 0, 1] (law26_right_l1_I s0 s3) ((law26_right_l1_O s0) t).1 ((law26_right_l1_O s0) t).2 :=
  loopE_lpR (fun s : Int => law26_right_l1_I s0 s) (law26_right_l1_O s0) (by kernel_rfl) (fun t => isN_ne (by rcases t with (_ | _) <;> rfl)) (fun s o h => law26_right_l1_rnd rd s0 s o h) (s := s3) (t := t) h
theorem law26_right_ok (a0 : List (List TSlot)) (r : Bool) (h : law26_right a0 = some r) : ACall Try.prog 7 [.d ((D.l (D.l TSlot.D)) a0)] [] (.d (D.b r)) [] := by
  unfold law26_right at h
  obtain ⟨o10, h13, h⟩ := bS h
  replace h := sumE_some h
  rcases h with ⟨o11, rfl, h⟩ | ⟨o12, rfl, h⟩
  ·
   obtain rfl := si h
   exact runF_call mixed [] [⟨[0, 1, 0, 1], [.live [0, 3], .keep []], .exit 0, (law26_right_l1_O a0 (Sum.inl o11)).2⟩] [] (ai (law26_right_l1_ok none a0 0 (Sum.inl o11) h13) (ti)) (by kernel_rfl)
  ·
   obtain rfl := si h
   exact runF_call mixed [] [⟨[0, 1, 0, 1], [.live [0, 3], .keep []], .ret, (law26_right_l1_O a0 (Sum.inr o12)).2⟩] [] (ai (law26_right_l1_ok none a0 0 (Sum.inr o12) h13) (ti)) (by kernel_rfl)
def law26_hits_l1_I (s0 : List (List TSlot)) (s4 : Int) (w3 : List THit) : St := ⟨sp 21 0 [(0, .d ((D.l (D.l TSlot.D)) s0)), (3, .row 3), (4, .d ((D.i .i64) s4))], [(3, .row 63 3 (w3.map THit.D))], []⟩
def law26_hits_l1_O (s0 : List (List TSlot)) (o : (List THit)) : Ex × St := (.exit 0, ⟨sp 21 0 [(3, .row 3)], [(3, .row 63 3 (o.map THit.D))], []⟩)
theorem law26_hits_l1_rnd (rd : Option Nat) (s0 : List (List TSlot)) (s4 : Int) (w3 : List THit) (o : (Int × List THit) ⊕ ((List THit))) (h : law26_hits_l1_s s0 s4 w3 = some o) : Arr Try.prog rd (fbody Try.prog 9) (0 :: [0, 1, 0, 1, 1]) (law26_hits_l1_I s0 s4 w3) (rR (fun s : Int × List THit => law26_hits_l1_I s0 s.1 s.2) (law26_hits_l1_O s0) o).1 (rR (fun s : Int × List THit => law26_hits_l1_I s0 s.1 s.2) (law26_hits_l1_O s0) o).2 := by
  unfold law26_hits_l1_s at h
  rcases iS h with ⟨h4, h⟩ | ⟨h4, h⟩
  ·
   obtain ⟨x2, h5, h⟩ := xS h
   obtain ⟨h6, h⟩ := cS h
   obtain rfl := si h
   exact runB_arr mixed [(7, .int (s0.length : Int)), (8, .bit true), (15, .el ((D.l TSlot.D) x2)), (19, .sl ((w3 ++ ([THit.mk s4 x2 ([] : List TSlot)])).map THit.D))] [] [.live [0, 3, 4], .keep [19], .ren 19 3, .sort] (ai (len_map (D.l TSlot.D) s0) (ai h4 (ai (elem_map (D.l TSlot.D) h5) (ai (nc_ok THit.D ([THit.mk s4 x2 ([] : List TSlot)])) (ai (nc_ok THit.D ([THit.mk s4 x2 ([] : List TSlot)])) (ai (fit_map THit.D h6) (ai (app_map THit.D w3 ([THit.mk s4 x2 ([] : List TSlot)])) (ti)))))))) (by kernel_rfl)
  ·
   obtain rfl := si h
   exact runB_arr mixed [(7, .int (s0.length : Int)), (8, .bit false)] [] [.live [3], .keep [3]] (ai (len_map (D.l TSlot.D) s0) (ai h4 (ti))) (by kernel_rfl)
theorem law26_hits_l1_ok (rd : Option Nat) (s0 : List (List TSlot)) (s4 : Int) (w3 : List THit) (t : (List THit)) (h : law26_hits_l1 s0 s4 w3 = some t) : LpOf Try.prog rd (fbody Try.prog 9) [0, 1, 0, 1, 1] (law26_hits_l1_I s0 s4 w3) ((law26_hits_l1_O s0) t).1 ((law26_hits_l1_O s0) t).2 :=
  loopE_lpR (fun s : Int × List THit => law26_hits_l1_I s0 s.1 s.2) (law26_hits_l1_O s0) (by kernel_rfl) (fun t => isN_ne (by rfl)) (fun s o h => law26_hits_l1_rnd rd s0 s.1 s.2 o h) (s := (s4, w3)) (t := t) h
theorem law26_hits_ok (a0 : List (List TSlot)) (r : List THit) (h : law26_hits a0 = some r) : ACall Try.prog 9 [.d ((D.l (D.l TSlot.D)) a0)] [] (.d ((D.l THit.D) r)) [] := by
  unfold law26_hits at h
  obtain ⟨o3, h7, h⟩ := bS h
  obtain rfl := si h
  exact runF_call mixed [] [⟨[0, 1, 0, 1, 1], [.live [0, 3, 4], .keep [], .nil 3 3 63 3, .sort], .exit 0, (law26_hits_l1_O a0 o3).2⟩] [] (ai (law26_hits_l1_ok none a0 0 ([] : List THit) o3 h7) (ti)) (by kernel_rfl)
def binding_Under_b2_I (uz : List Value) (s9_1 : List TSlot) (s9_2 : List TSlot) (s10 : TSlot) (s11 : TValue) (w4 : Bool) (w998_1 : List TSlot) (w998_2 : List TSlot) : St := ⟨sp 22 0 [(4, .box 4 0), (9, .clo (.func 75) [] [.eptr (D.cells ((D.l TSlot.D) s9_1)), .eptr (D.cells ((D.l TSlot.D) s9_2))]), (10, .d (TSlot.D s10)), (11, .eptr (D.cells (TValue.D s11)))], [(4, .cells ([.d (D.b w4)])), (998, .vals (sp 22 0 [(4, .box 4 0), (9, .clo (.func 75) [] [.eptr (D.cells ((D.l TSlot.D) w998_1)), .eptr (D.cells ((D.l TSlot.D) w998_2))])]) uz)], []⟩
def binding_Under_b2_O (uz : List Value) (s9_1 : List TSlot) (s9_2 : List TSlot) (s10 : TSlot) (s11 : TValue) (w4 : Bool) (w998_1 : List TSlot) (w998_2 : List TSlot) (o : Unit) : Ex × St := (.normal, ⟨sp 22 0 [(4, .box 4 0), (5, .box 5 0), (6, .eptr (D.cells (TValue.D s11))), (9, .clo (.func 75) [] [.eptr (D.cells ((D.l TSlot.D) s9_1)), .eptr (D.cells ((D.l TSlot.D) s9_2))])], [(4, .cells ([.d (D.b w4)])), (5, .cells ((cellsA (TSlot.D s10)))), (998, .vals (sp 22 0 [(4, .box 4 0), (9, .clo (.func 75) [] [.eptr (D.cells ((D.l TSlot.D) w998_1)), .eptr (D.cells ((D.l TSlot.D) w998_2))])]) uz)], []⟩)
theorem binding_Under_b2_ok (rd : Option Nat) (uz : List Value) (s9_1 : List TSlot) (s9_2 : List TSlot) (s10 : TSlot) (s11 : TValue) (w4 : Bool) (w998_1 : List TSlot) (w998_2 : List TSlot) (o : Unit) (h : binding_Under_b2 s9_1 s9_2 s10 s11 w4 w998_1 w998_2 = some o) : LpOf Try.prog rd (fbody Try.prog 48) [0, 0, 1, 0, 1] (binding_Under_b2_I uz s9_1 s9_2 s10 s11 w4 w998_1 w998_2) (binding_Under_b2_O uz s9_1 s9_2 s10 s11 w4 w998_1 w998_2 o).1 (binding_Under_b2_O uz s9_1 s9_2 s10 s11 w4 w998_1 w998_2 o).2 := by
  unfold binding_Under_b2 at h
  obtain rfl := si h
  exact (runB_arr mixed [] [] [.live [4, 5, 6, 9], .keep [4, 5, 998]] (ti) (by kernel_rfl)).lp
def binding_Under_b4_I (uz : List Value) (s9_1 : List TSlot) (s9_2 : List TSlot) (s10 : TSlot) (w4 : Bool) (w998_1 : List TSlot) (w998_2 : List TSlot) : St := ⟨sp 22 0 [(4, .box 4 0), (9, .clo (.func 75) [] [.eptr (D.cells ((D.l TSlot.D) s9_1)), .eptr (D.cells ((D.l TSlot.D) s9_2))]), (10, .d (TSlot.D s10)), (11, .d (.v (.pointer none)))], [(4, .cells ([.d (D.b w4)])), (998, .vals (sp 22 0 [(4, .box 4 0), (9, .clo (.func 75) [] [.eptr (D.cells ((D.l TSlot.D) w998_1)), .eptr (D.cells ((D.l TSlot.D) w998_2))])]) uz)], []⟩
def binding_Under_b4_O (uz : List Value) (s9_1 : List TSlot) (s9_2 : List TSlot) (s10 : TSlot) (w4 : Bool) (w998_1 : List TSlot) (w998_2 : List TSlot) (o : Unit) : Ex × St := (.normal, ⟨sp 22 0 [(4, .box 4 0), (5, .box 5 0), (6, .d (.v (.pointer none))), (9, .clo (.func 75) [] [.eptr (D.cells ((D.l TSlot.D) s9_1)), .eptr (D.cells ((D.l TSlot.D) s9_2))])], [(4, .cells ([.d (D.b w4)])), (5, .cells ((cellsA (TSlot.D s10)))), (998, .vals (sp 22 0 [(4, .box 4 0), (9, .clo (.func 75) [] [.eptr (D.cells ((D.l TSlot.D) w998_1)), .eptr (D.cells ((D.l TSlot.D) w998_2))])]) uz)], []⟩)
theorem binding_Under_b4_ok (rd : Option Nat) (uz : List Value) (s9_1 : List TSlot) (s9_2 : List TSlot) (s10 : TSlot) (w4 : Bool) (w998_1 : List TSlot) (w998_2 : List TSlot) (o : Unit) (h : binding_Under_b4 s9_1 s9_2 s10 w4 w998_1 w998_2 = some o) : LpOf Try.prog rd (fbody Try.prog 48) [0, 0, 1, 0, 1] (binding_Under_b4_I uz s9_1 s9_2 s10 w4 w998_1 w998_2) (binding_Under_b4_O uz s9_1 s9_2 s10 w4 w998_1 w998_2 o).1 (binding_Under_b4_O uz s9_1 s9_2 s10 w4 w998_1 w998_2 o).2 := by
  unfold binding_Under_b4 at h
  obtain rfl := si h
  exact (runB_arr mixed [] [] [.live [4, 5, 6, 9], .keep [4, 5, 998]] (ti) (by kernel_rfl)).lp
def binding_Under_b6_I (uz : List Value) (s6 : TValue) (s9_1 : List TSlot) (s9_2 : List TSlot) (w4 : Bool) (w5 : TSlot) (w998_1 : List TSlot) (w998_2 : List TSlot) : St := ⟨sp 22 0 [(4, .box 4 0), (5, .box 5 0), (6, .eptr (D.cells (TValue.D s6))), (9, .clo (.func 75) [] [.eptr (D.cells ((D.l TSlot.D) s9_1)), .eptr (D.cells ((D.l TSlot.D) s9_2))])], [(4, .cells ([.d (D.b w4)])), (5, .cells ((cellsA (TSlot.D w5)))), (998, .vals (sp 22 0 [(4, .box 4 0), (9, .clo (.func 75) [] [.eptr (D.cells ((D.l TSlot.D) w998_1)), .eptr (D.cells ((D.l TSlot.D) w998_2))])]) uz)], []⟩
def binding_Under_b6_O (uz : List Value) (s6 : TValue) (s9_1 : List TSlot) (s9_2 : List TSlot) (w4 : Bool) (w5 : TSlot) (w998_1 : List TSlot) (w998_2 : List TSlot) (o : Unit ⊕ Unit) : Ex × St := match o with
  | .inl o => (.normal, ⟨sp 22 0 [], [(4, .cells ([.d (D.b w4)])), (998, .vals (sp 22 0 [(4, .box 4 0), (9, .clo (.func 75) [] [.eptr (D.cells ((D.l TSlot.D) w998_1)), .eptr (D.cells ((D.l TSlot.D) w998_2))])]) uz)], []⟩)
  | .inr o => (.ret, ⟨sp 22 0 [], [(4, .cells ([.d (D.b false)])), (998, .vals (sp 22 0 [(4, .box 4 0), (9, .clo (.func 75) [] [.eptr (D.cells ((D.l TSlot.D) w998_1)), .eptr (D.cells ((D.l TSlot.D) w998_2))])]) uz)], []⟩)
theorem binding_Under_b6_ok (rd : Option Nat) (uz : List Value) (s6 : TValue) (s9_1 : List TSlot) (s9_2 : List TSlot) (w4 : Bool) (w5 : TSlot) (w998_1 : List TSlot) (w998_2 : List TSlot) (o : Unit ⊕ Unit) (h : binding_Under_b6 s6 s9_1 s9_2 w4 w5 w998_1 w998_2 = some o) : LpOf Try.prog rd (fbody Try.prog 48) [1, 0, 1, 0, 1] (binding_Under_b6_I uz s6 s9_1 s9_2 w4 w5 w998_1 w998_2) (binding_Under_b6_O uz s6 s9_1 s9_2 w4 w5 w998_1 w998_2 o).1 (binding_Under_b6_O uz s6 s9_1 s9_2 w4 w5 w998_1 w998_2 o).2 := by
  unfold binding_Under_b6 at h
  rcases iS h with ⟨h3, h⟩ | ⟨h3, h⟩
  ·
   obtain rfl := si h
   exact (runB_arr mixed [(21, .bit true)] [] [.live [], .keep [4, 998]] (ai h3 (ti)) (by kernel_rfl)).lp
  ·
   obtain rfl := si h
   exact (runB_arr mixed [(21, .bit false)] [] [.live [], .keep [4, 998]] (ai h3 (ti)) (by kernel_rfl)).lp
def binding_Under_b7_I (uz : List Value) (s9_1 : List TSlot) (s9_2 : List TSlot) (w4 : Bool) (w5 : TSlot) (w998_1 : List TSlot) (w998_2 : List TSlot) : St := ⟨sp 22 0 [(4, .box 4 0), (5, .box 5 0), (6, .d (.v (.pointer none))), (9, .clo (.func 75) [] [.eptr (D.cells ((D.l TSlot.D) s9_1)), .eptr (D.cells ((D.l TSlot.D) s9_2))])], [(4, .cells ([.d (D.b w4)])), (5, .cells ((cellsA (TSlot.D w5)))), (998, .vals (sp 22 0 [(4, .box 4 0), (9, .clo (.func 75) [] [.eptr (D.cells ((D.l TSlot.D) w998_1)), .eptr (D.cells ((D.l TSlot.D) w998_2))])]) uz)], []⟩
def binding_Under_b7_O (uz : List Value) (s9_1 : List TSlot) (s9_2 : List TSlot) (w4 : Bool) (w5 : TSlot) (w998_1 : List TSlot) (w998_2 : List TSlot) (o : Unit) : Ex × St := (.ret, ⟨sp 22 0 [], [(4, .cells ([.d (D.b false)])), (998, .vals (sp 22 0 [(4, .box 4 0), (9, .clo (.func 75) [] [.eptr (D.cells ((D.l TSlot.D) w998_1)), .eptr (D.cells ((D.l TSlot.D) w998_2))])]) uz)], []⟩)
theorem binding_Under_b7_ok (rd : Option Nat) (uz : List Value) (s9_1 : List TSlot) (s9_2 : List TSlot) (w4 : Bool) (w5 : TSlot) (w998_1 : List TSlot) (w998_2 : List TSlot) (o : Unit) (h : binding_Under_b7 s9_1 s9_2 w4 w5 w998_1 w998_2 = some o) : LpOf Try.prog rd (fbody Try.prog 48) [1, 0, 1, 0, 1] (binding_Under_b7_I uz s9_1 s9_2 w4 w5 w998_1 w998_2) (binding_Under_b7_O uz s9_1 s9_2 w4 w5 w998_1 w998_2 o).1 (binding_Under_b7_O uz s9_1 s9_2 w4 w5 w998_1 w998_2 o).2 := by
  unfold binding_Under_b7 at h
  obtain rfl := si h
  exact (runB_arr mixed [] [] [.live [], .keep [4, 998]] (ti) (by kernel_rfl)).lp
def binding_Under_r1_E (s9_1 : List TSlot) (s9_2 : List TSlot) : List A := sp 22 0 [(4, .box 4 0), (9, .clo (.func 75) [] [.eptr (D.cells ((D.l TSlot.D) s9_1)), .eptr (D.cells ((D.l TSlot.D) s9_2))])]
def binding_Under_r1_BL (s9_1 : List TSlot) (s9_2 : List TSlot) (s : Bool) : Bx := [(4, .cells ([.d (D.b s)]))]
def binding_Under_r1_BT (s9_1 : List TSlot) (s9_2 : List TSlot) (t : Bool) : Bx := [(4, .cells ([.d (D.b t)]))]
def binding_Under_r1_X (t : Bool) : Ex := .ret
def binding_Under_r1_O (s9_1 : List TSlot) (s9_2 : List TSlot) (o : (Bool) ⊕ (Bool)) : Ex × St := (rex binding_Under_r1_X o, ⟨binding_Under_r1_E s9_1 s9_2, rbx (binding_Under_r1_BL s9_1 s9_2) (binding_Under_r1_BT s9_1 s9_2) o, rbx (fun _ => []) (fun _ => []) o⟩)
end Go.Ac
