/- Own work, printed: the functions compute these. -/
import Derived.Test.YtbmojpadjglncaaWa22asx2
set_option linter.unusedVariables false
set_option linter.unusedSimpArgs false
set_option linter.unusedVariables false
set_option linter.unusedSimpArgs false
namespace Go.Ac
open Go.Proofs
theorem ref20_Same_l2_rnd (rd : Option Nat) (s0 : List (List TValue)) (s1 : List (List TValue)) (s5 : Int) (s6 : Int) (o : (Int) ⊕ (Unit ⊕ Unit)) (h : ref20_Same_l2_s s0 s1 s5 s6 = some o) : Arr Try.prog rd (fbody Try.prog 11) (0 :: [0, 1, 1, 0, 0, 1, 0, 0, 1, 0, 1, 1]) (ref20_Same_l2_I s0 s1 s5 s6) (rR (fun s : Int => ref20_Same_l2_I s0 s1 s5 s) (ref20_Same_l2_O s0 s1 s5) o).1 (rR (fun s : Int => ref20_Same_l2_I s0 s1 s5 s) (ref20_Same_l2_O s0 s1 s5) o).2 := by
  unfold ref20_Same_l2_s at h
  obtain ⟨x3, h6, h⟩ := xS h
  rcases iS h with ⟨h7, h⟩ | ⟨h7, h⟩
  ·
   obtain ⟨x4, h8, h⟩ := xS h
   obtain ⟨x5, h9, h⟩ := xS h
   obtain ⟨x6, h10, h⟩ := xS h
   obtain ⟨x7, h11, h⟩ := xS h
   rcases iS h with ⟨h12, h⟩ | ⟨h12, h⟩
   ·
    obtain rfl := si h
    exact runB_arr mixed [(32, .el ((D.l TValue.D) x3)), (34, .int (x3.length : Int)), (35, .bit true), (40, .el ((D.l TValue.D) x4)), (43, .el (TValue.D x5)), (47, .el ((D.l TValue.D) x6)), (50, .el (TValue.D x7)), (52, .bit true)] [] [.live [4], .keep []] (ai (elem_map (D.l TValue.D) h6) (ai (len_map TValue.D x3) (ai h7 (ai (elem_map (D.l TValue.D) h8) (ai (elem_map TValue.D h9) (ai (elem_map (D.l TValue.D) h10) (ai (elem_map TValue.D h11) (ai h12 (ti))))))))) (by kernel_rfl)
   ·
    obtain rfl := si h
    exact runB_arr mixed [(32, .el ((D.l TValue.D) x3)), (34, .int (x3.length : Int)), (35, .bit true), (40, .el ((D.l TValue.D) x4)), (43, .el (TValue.D x5)), (47, .el ((D.l TValue.D) x6)), (50, .el (TValue.D x7)), (52, .bit false)] [] [.live [0, 1, 5, 6], .keep []] (ai (elem_map (D.l TValue.D) h6) (ai (len_map TValue.D x3) (ai h7 (ai (elem_map (D.l TValue.D) h8) (ai (elem_map TValue.D h9) (ai (elem_map (D.l TValue.D) h10) (ai (elem_map TValue.D h11) (ai h12 (ti))))))))) (by kernel_rfl)
  ·
   obtain rfl := si h
   exact runB_arr mixed [(32, .el ((D.l TValue.D) x3)), (34, .int (x3.length : Int)), (35, .bit false)] [] [.live [0, 1, 5], .keep []] (ai (elem_map (D.l TValue.D) h6) (ai (len_map TValue.D x3) (ai h7 (ti)))) (by kernel_rfl)
theorem ref20_Same_l2_ok (rd : Option Nat) (s0 : List (List TValue)) (s1 : List (List TValue)) (s5 : Int) (s6 : Int) (t : Unit ⊕ Unit) (h : ref20_Same_l2 s0 s1 s5 s6 = some t) : LpOf Try.prog rd (fbody Try.prog 11) [0, 1, 1, 0, 0, 1, 0, 0, 1, 0, 1, 1] (ref20_Same_l2_I s0 s1 s5 s6) ((ref20_Same_l2_O s0 s1 s5) t).1 ((ref20_Same_l2_O s0 s1 s5) t).2 :=
  loopE_lpR (fun s : Int => ref20_Same_l2_I s0 s1 s5 s) (ref20_Same_l2_O s0 s1 s5) (by kernel_rfl) (fun t => isN_ne (by rcases t with (_ | _) <;> rfl)) (fun s o h => ref20_Same_l2_rnd rd s0 s1 s5 s o h) (s := s6) (t := t) h
def ref20_Same_l1_I (s0 : List (List TValue)) (s1 : List (List TValue)) (s5 : Int) : St := ⟨sp 53 0 [(0, .d ((D.l (D.l TValue.D)) s0)), (1, .d ((D.l (D.l TValue.D)) s1)), (5, .d ((D.i .i64) s5))], [], []⟩
def ref20_Same_l1_O (s0 : List (List TValue)) (s1 : List (List TValue)) (o : Unit ⊕ Unit) : Ex × St := match o with
  | .inl o => (.exit 0, ⟨sp 53 0 [], [], []⟩)
  | .inr o => (.ret, ⟨sp 53 0 [(4, .d (D.b false))], [], []⟩)
theorem ref20_Same_l1_rnd (rd : Option Nat) (s0 : List (List TValue)) (s1 : List (List TValue)) (s5 : Int) (o : (Int) ⊕ (Unit ⊕ Unit)) (h : ref20_Same_l1_s s0 s1 s5 = some o) : Arr Try.prog rd (fbody Try.prog 11) (0 :: [0, 1, 0, 1, 1]) (ref20_Same_l1_I s0 s1 s5) (rR (fun s : Int => ref20_Same_l1_I s0 s1 s) (ref20_Same_l1_O s0 s1) o).1 (rR (fun s : Int => ref20_Same_l1_I s0 s1 s) (ref20_Same_l1_O s0 s1) o).2 := by
  unfold ref20_Same_l1_s at h
  rcases iS h with ⟨h2, h⟩ | ⟨h2, h⟩
  ·
   obtain ⟨x1, h3, h⟩ := xS h
   obtain ⟨x2, h4, h⟩ := xS h
   rcases iS h with ⟨h5, h⟩ | ⟨h5, h⟩
   ·
    obtain rfl := si h
    exact runB_arr mixed [(14, .int (s0.length : Int)), (15, .bit true), (20, .el ((D.l TValue.D) x1)), (22, .int (x1.length : Int)), (25, .el ((D.l TValue.D) x2)), (27, .int (x2.length : Int)), (28, .bit true)] [] [.live [4], .keep []] (ai (len_map (D.l TValue.D) s0) (ai h2 (ai (elem_map (D.l TValue.D) h3) (ai (len_map TValue.D x1) (ai (elem_map (D.l TValue.D) h4) (ai (len_map TValue.D x2) (ai h5 (ti)))))))) (by kernel_rfl)
   ·
    obtain ⟨o8, h13, h⟩ := bS h
    replace h := sumE_some h
    rcases h with ⟨o9, rfl, h⟩ | ⟨o10, rfl, h⟩
    ·
     obtain rfl := si h
     exact runB_arr mixed [(14, .int (s0.length : Int)), (15, .bit true), (20, .el ((D.l TValue.D) x1)), (22, .int (x1.length : Int)), (25, .el ((D.l TValue.D) x2)), (27, .int (x2.length : Int)), (28, .bit false)] [⟨[0, 1, 1, 0, 0, 1, 0, 0, 1, 0, 1, 1], [.live [0, 1, 5, 6], .keep []], .exit 2, (ref20_Same_l2_O s0 s1 s5 (Sum.inl o9)).2⟩] [.live [0, 1, 5], .keep []] (ai (len_map (D.l TValue.D) s0) (ai h2 (ai (elem_map (D.l TValue.D) h3) (ai (len_map TValue.D x1) (ai (elem_map (D.l TValue.D) h4) (ai (len_map TValue.D x2) (ai h5 (ai (ref20_Same_l2_ok rd s0 s1 s5 0 (Sum.inl o9) h13) (ti))))))))) (by kernel_rfl)
    ·
     obtain rfl := si h
     exact runB_arr mixed [(14, .int (s0.length : Int)), (15, .bit true), (20, .el ((D.l TValue.D) x1)), (22, .int (x1.length : Int)), (25, .el ((D.l TValue.D) x2)), (27, .int (x2.length : Int)), (28, .bit false)] [⟨[0, 1, 1, 0, 0, 1, 0, 0, 1, 0, 1, 1], [.live [0, 1, 5, 6], .keep []], .ret, (ref20_Same_l2_O s0 s1 s5 (Sum.inr o10)).2⟩] [.live [4], .keep []] (ai (len_map (D.l TValue.D) s0) (ai h2 (ai (elem_map (D.l TValue.D) h3) (ai (len_map TValue.D x1) (ai (elem_map (D.l TValue.D) h4) (ai (len_map TValue.D x2) (ai h5 (ai (ref20_Same_l2_ok rd s0 s1 s5 0 (Sum.inr o10) h13) (ti))))))))) (by kernel_rfl)
  ·
   obtain rfl := si h
   exact runB_arr mixed [(14, .int (s0.length : Int)), (15, .bit false)] [] [.live [], .keep []] (ai (len_map (D.l TValue.D) s0) (ai h2 (ti))) (by kernel_rfl)
theorem ref20_Same_l1_ok (rd : Option Nat) (s0 : List (List TValue)) (s1 : List (List TValue)) (s5 : Int) (t : Unit ⊕ Unit) (h : ref20_Same_l1 s0 s1 s5 = some t) : LpOf Try.prog rd (fbody Try.prog 11) [0, 1, 0, 1, 1] (ref20_Same_l1_I s0 s1 s5) ((ref20_Same_l1_O s0 s1) t).1 ((ref20_Same_l1_O s0 s1) t).2 :=
  loopE_lpR (fun s : Int => ref20_Same_l1_I s0 s1 s) (ref20_Same_l1_O s0 s1) (by kernel_rfl) (fun t => isN_ne (by rcases t with (_ | _) <;> rfl)) (fun s o h => ref20_Same_l1_rnd rd s0 s1 s o h) (s := s5) (t := t) h
theorem ref20_Same_ok (a0 : List (List TValue)) (a1 : List (List TValue)) (r : Bool) (h : ref20_Same a0 a1 = some r) : ACall Try.prog 11 [.d ((D.l (D.l TValue.D)) a0), .d ((D.l (D.l TValue.D)) a1)] [] (.d (D.b r)) [] := by
  unfold ref20_Same at h
  rcases iS h with ⟨h1, h⟩ | ⟨h1, h⟩
  ·
   obtain rfl := si h
   exact runF_call mixed [(8, .int (a0.length : Int)), (10, .int (a1.length : Int)), (11, .bit true)] [] [] (ai (len_map (D.l TValue.D) a0) (ai (len_map (D.l TValue.D) a1) (ai h1 (ti)))) (by kernel_rfl)
  ·
   obtain ⟨o11, h14, h⟩ := bS h
   replace h := sumE_some h
   rcases h with ⟨o12, rfl, h⟩ | ⟨o13, rfl, h⟩
   ·
    obtain rfl := si h
    exact runF_call mixed [(8, .int (a0.length : Int)), (10, .int (a1.length : Int)), (11, .bit false)] [⟨[0, 1, 0, 1, 1], [.live [0, 1, 5], .keep []], .exit 0, (ref20_Same_l1_O a0 a1 (Sum.inl o12)).2⟩] [] (ai (len_map (D.l TValue.D) a0) (ai (len_map (D.l TValue.D) a1) (ai h1 (ai (ref20_Same_l1_ok none a0 a1 0 (Sum.inl o12) h14) (ti))))) (by kernel_rfl)
   ·
    obtain rfl := si h
    exact runF_call mixed [(8, .int (a0.length : Int)), (10, .int (a1.length : Int)), (11, .bit false)] [⟨[0, 1, 0, 1, 1], [.live [0, 1, 5], .keep []], .ret, (ref20_Same_l1_O a0 a1 (Sum.inr o13)).2⟩] [] (ai (len_map (D.l TValue.D) a0) (ai (len_map (D.l TValue.D) a1) (ai h1 (ai (ref20_Same_l1_ok none a0 a1 0 (Sum.inr o13) h14) (ti))))) (by kernel_rfl)
theorem ref22_Has_ok (a0 : List TValue) (a1 : TValue) (r : Bool) (h : ref22_Has a0 a1 = some r) : ACall Try.prog 30 [.d ((D.l TValue.D) a0), .d (TValue.D a1)] [] (.d (D.b r)) [] := by
  unfold ref22_Has at h
  obtain ⟨r1, h1, h⟩ := bS h
  obtain rfl := si h
  exact runF_call mixed [(7, .ret (.d ((D.l TValue.D) r1))), (8, .int (r1.length : Int)), (10, .int (a0.length : Int))] [] [] (ai (ref20_Put_ok a0 a1 r1 h1) (ai (len_map TValue.D r1) (ai (len_map TValue.D a0) (ti)))) (by kernel_rfl)
def ref22_New_b3_I (s0 : Int) (s1 : List TValue) (s12 : Bool) (w4 : TValue) (w5 : TValue) : St := ⟨sp 22 0 [(0, .d ((D.i .i64) s0)), (1, .d ((D.l TValue.D) s1)), (4, .box 4 0), (5, .box 5 0), (12, .d (D.b s12))], [(4, .cells ((cellsA (TValue.D w4)))), (5, .cells ((cellsA (TValue.D w5))))], []⟩
def ref22_New_b3_O (s0 : Int) (s1 : List TValue) (s12 : Bool) (w4 : TValue) (w5 : TValue) (o : TValue) : Ex × St := (.normal, ⟨sp 22 0 [(0, .d ((D.i .i64) s0)), (1, .d ((D.l TValue.D) s1)), (4, .box 4 0), (5, .box 5 0)], [(4, .cells ((cellsA (TValue.D w4)))), (5, .cells ((cellsA (TValue.D o))))], []⟩)
theorem ref22_New_b3_ok (rd : Option Nat) (s0 : Int) (s1 : List TValue) (s12 : Bool) (w4 : TValue) (w5 : TValue) (o : TValue) (h : ref22_New_b3 s0 s1 s12 w4 w5 = some o) : LpOf Try.prog rd (fbody Try.prog 15) [1, 0, 1, 0, 0, 0, 1, 1] (ref22_New_b3_I s0 s1 s12 w4 w5) (ref22_New_b3_O s0 s1 s12 w4 w5 o).1 (ref22_New_b3_O s0 s1 s12 w4 w5 o).2 := by
  unfold ref22_New_b3 at h
  cases s12 with
  | true =>
   replace h := iteT h
   obtain rfl := si h
   exact (runB_arr mixed [] [] [.live [0, 1, 4, 5], .keep [4, 5]] (ti) (by kernel_rfl)).lp
  | false =>
   replace h := iteF h
   obtain ⟨h4, h⟩ := cS h
   obtain rfl := si h
   exact (runB_arr mixed [(19, .str (w5.str ++ ([97] : List UInt8)))] [] [.live [0, 1, 4, 5], .keep [4, 5]] (ai (sapp_ok h4) (ti)) (by kernel_rfl)).lp
def ref22_New_b2_I (s0 : Int) (s1 : List TValue) (w4 : TValue) (w5 : TValue) : St := ⟨sp 22 0 [(0, .d ((D.i .i64) s0)), (1, .d ((D.l TValue.D) s1)), (4, .box 4 0), (5, .box 5 0)], [(4, .cells ((cellsA (TValue.D w4)))), (5, .cells ((cellsA (TValue.D w5))))], []⟩
def ref22_New_b2_O (s0 : Int) (s1 : List TValue) (w4 : TValue) (w5 : TValue) (o : TValue) : Ex × St := (.normal, ⟨sp 22 0 [(0, .d ((D.i .i64) s0)), (1, .d ((D.l TValue.D) s1)), (4, .box 4 0), (5, .box 5 0)], [(4, .cells ((cellsA (TValue.D w4)))), (5, .cells ((cellsA (TValue.D o))))], []⟩)
theorem ref22_New_b2_ok (rd : Option Nat) (s0 : Int) (s1 : List TValue) (w4 : TValue) (w5 : TValue) (o : TValue) (h : ref22_New_b2 s0 s1 w4 w5 = some o) : LpOf Try.prog rd (fbody Try.prog 15) [1, 0, 0, 0, 1, 1] (ref22_New_b2_I s0 s1 w4 w5) (ref22_New_b2_O s0 s1 w4 w5 o).1 (ref22_New_b2_O s0 s1 w4 w5 o).2 := by
  unfold ref22_New_b2 at h
  obtain ⟨o2, h5, h⟩ := bS h
  obtain rfl := si h
  exact (runB_arr mixed [] [⟨[1, 0, 1, 0, 0, 0, 1, 1], [.live [0, 1, 4, 5, 12], .keep [4, 5]], .normal, (ref22_New_b3_O s0 s1 (decide (s0 = 1)) w4 w5 o2).2⟩] [.live [0, 1, 4, 5], .keep [4, 5]] (ai (ref22_New_b3_ok rd s0 s1 (decide (s0 = 1)) w4 w5 o2 h5) (ti)) (by kernel_rfl)).lp
def ref22_New_l1_I (s0 : Int) (s1 : List TValue) (w4 : TValue) (w5 : TValue) : St := ⟨sp 22 0 [(0, .d ((D.i .i64) s0)), (1, .d ((D.l TValue.D) s1)), (4, .box 4 0), (5, .box 5 0)], [(4, .cells ((cellsA (TValue.D w4)))), (5, .cells ((cellsA (TValue.D w5))))], []⟩
def ref22_New_l1_O (s0 : Int) (s1 : List TValue) (w4 : TValue) (o : TValue) : Ex × St := (.exit 0, ⟨sp 22 0 [(4, .box 4 0), (5, .box 5 0)], [(4, .cells ((cellsA (TValue.D w4)))), (5, .cells ((cellsA (TValue.D o))))], []⟩)
theorem ref22_New_l1_rnd (rd : Option Nat) (s0 : Int) (s1 : List TValue) (w4 : TValue) (w5 : TValue) (o : (TValue) ⊕ (TValue)) (h : ref22_New_l1_s s0 s1 w4 w5 = some o) : Arr Try.prog rd (fbody Try.prog 15) (0 :: [0, 0, 1, 1]) (ref22_New_l1_I s0 s1 w4 w5) (rR (fun s : TValue => ref22_New_l1_I s0 s1 w4 s) (ref22_New_l1_O s0 s1 w4) o).1 (rR (fun s : TValue => ref22_New_l1_I s0 s1 w4 s) (ref22_New_l1_O s0 s1 w4) o).2 := by
  unfold ref22_New_l1_s at h
  obtain ⟨r1, h1, h⟩ := bS h
  cases r1 with
  | true =>
   replace h := iteT h
   obtain ⟨o3, h6, h⟩ := bS h
   obtain rfl := si h
   exact runB_arr mixed [(10, .ret (.d (D.b true)))] [⟨[1, 0, 0, 0, 1, 1], [.live [0, 1, 4, 5], .keep [4, 5]], .normal, (ref22_New_b2_O s0 s1 w4 w5 o3).2⟩] [.live [0, 1, 4, 5], .keep [4, 5]] (ai (ref22_Has_ok s1 w5 true h1) (ai (ref22_New_b2_ok rd s0 s1 w4 w5 o3 h6) (ti))) (by kernel_rfl)
  | false =>
   replace h := iteF h
   obtain rfl := si h
   exact runB_arr mixed [(10, .ret (.d (D.b false)))] [] [.live [4, 5], .keep [4, 5]] (ai (ref22_Has_ok s1 w5 false h1) (ti)) (by kernel_rfl)
theorem ref22_New_l1_ok (rd : Option Nat) (s0 : Int) (s1 : List TValue) (w4 : TValue) (w5 : TValue) (t : TValue) (h : ref22_New_l1 s0 s1 w4 w5 = some t) : LpOf Try.prog rd (fbody Try.prog 15) [0, 0, 1, 1] (ref22_New_l1_I s0 s1 w4 w5) ((ref22_New_l1_O s0 s1 w4) t).1 ((ref22_New_l1_O s0 s1 w4) t).2 :=
  loopE_lpR (fun s : TValue => ref22_New_l1_I s0 s1 w4 s) (ref22_New_l1_O s0 s1 w4) (by kernel_rfl) (fun t => isN_ne (by rfl)) (fun s o h => ref22_New_l1_rnd rd s0 s1 w4 s o h) (s := w5) (t := t) h
theorem ref22_New_ok (a0 : Int) (a1 : List TValue) (r : TValue) (h : ref22_New a0 a1 = some r) : ACall Try.prog 15 [.d ((D.i .i64) a0), .d ((D.l TValue.D) a1)] [] (.d (TValue.D r)) [] := by
  unfold ref22_New at h
  obtain ⟨o4, h7, h⟩ := bS h
  obtain rfl := si h
  exact runF_call mixed [] [⟨[0, 0, 1, 1], [.live [0, 1, 4, 5], .keep [4, 5]], .exit 0, (ref22_New_l1_O a0 a1 (TValue.mk 0 0 ([] : List UInt8) false) o4).2⟩] [] (ai (ref22_New_l1_ok none a0 a1 (TValue.mk 0 0 ([] : List UInt8) false) (TValue.mk a0 0 ([] : List UInt8) false) o4 h7) (ti)) (by kernel_rfl)
def law22_JointSmall_b5_I (s1 : Int) (s2 : List TValue) (s7 : List TValue) (s8 : Int) (s53 : Bool) (w3 : TQea) : St := ⟨sp 110 0 [(1, .d ((D.i .i64) s1)), (2, .d ((D.l TValue.D) s2)), (3, .box 3 0), (7, .d ((D.l TValue.D) s7)), (8, .d ((D.i .i64) s8)), (53, .d (D.b s53))], [(3, .cells ((cellsA (TQea.D w3))))], []⟩
def law22_JointSmall_b5_O (s1 : Int) (s2 : List TValue) (s7 : List TValue) (s8 : Int) (s53 : Bool) (w3 : TQea) (o : (List TValue)) : Ex × St := (.normal, ⟨sp 110 0 [(1, .d ((D.i .i64) s1)), (2, .d ((D.l TValue.D) s2)), (3, .box 3 0), (7, .d ((D.l TValue.D) o)), (8, .d ((D.i .i64) s8))], [(3, .cells ((cellsA (TQea.D w3))))], []⟩)
theorem law22_JointSmall_b5_ok (rd : Option Nat) (s1 : Int) (s2 : List TValue) (s7 : List TValue) (s8 : Int) (s53 : Bool) (w3 : TQea) (o : (List TValue)) (h : law22_JointSmall_b5 s1 s2 s7 s8 s53 w3 = some o) : LpOf Try.prog rd (fbody Try.prog 3) [1, 1, 0, 0, 1, 0, 0, 1, 0, 1, 1, 1] (law22_JointSmall_b5_I s1 s2 s7 s8 s53 w3) (law22_JointSmall_b5_O s1 s2 s7 s8 s53 w3 o).1 (law22_JointSmall_b5_O s1 s2 s7 s8 s53 w3 o).2 := by
  unfold law22_JointSmall_b5 at h
  cases s53 with
  | true =>
   replace h := iteT h
   obtain ⟨x24, h33, h⟩ := xS h
   obtain ⟨r25, h34, h⟩ := bS h
   obtain rfl := si h
   exact (runB_arr mixed [(57, .el (TValue.D x24)), (59, .ret (.d ((D.l TValue.D) r25)))] [] [.live [1, 2, 3, 7, 8], .keep [3]] (ai (elem_map TValue.D h33) (ai (ref20_Put_ok s7 x24 r25 h34) (ti))) (by kernel_rfl)).lp
  | false =>
   replace h := iteF h
   obtain rfl := si h
   exact (runB_arr mixed [] [] [.live [1, 2, 3, 7, 8], .keep [3]] (ti) (by kernel_rfl)).lp
def law22_JointSmall_b4_I (s1 : Int) (s2 : List TValue) (s7 : List TValue) (s8 : Int) (w3 : TQea) : St := ⟨sp 110 0 [(1, .d ((D.i .i64) s1)), (2, .d ((D.l TValue.D) s2)), (3, .box 3 0), (7, .d ((D.l TValue.D) s7)), (8, .d ((D.i .i64) s8))], [(3, .cells ((cellsA (TQea.D w3))))], []⟩
def law22_JointSmall_b4_O (s1 : Int) (s2 : List TValue) (s7 : List TValue) (s8 : Int) (w3 : TQea) (o : (List TValue) ⊕ Bool) : Ex × St := match o with
  | .inl o => (.normal, ⟨sp 110 0 [(1, .d ((D.i .i64) s1)), (2, .d ((D.l TValue.D) s2)), (3, .box 3 0), (7, .d ((D.l TValue.D) o)), (8, .d ((D.i .i64) s8))], [(3, .cells ((cellsA (TQea.D w3))))], []⟩)
  | .inr o => (.ret, ⟨sp 110 0 [(6, .d (D.b o))], [], []⟩)
theorem law22_JointSmall_b4_ok (rd : Option Nat) (s1 : Int) (s2 : List TValue) (s7 : List TValue) (s8 : Int) (w3 : TQea) (o : (List TValue) ⊕ Bool) (h : law22_JointSmall_b4 s1 s2 s7 s8 w3 = some o) : LpOf Try.prog rd (fbody Try.prog 3) [0, 1, 0, 0, 1, 0, 1, 1, 1] (law22_JointSmall_b4_I s1 s2 s7 s8 w3) (law22_JointSmall_b4_O s1 s2 s7 s8 w3 o).1 (law22_JointSmall_b4_O s1 s2 s7 s8 w3 o).2 := by
  unfold law22_JointSmall_b4 at h
  obtain ⟨x18, h24, h⟩ := xS h
  rcases iS h with ⟨h25, h⟩ | ⟨h25, h⟩
  ·
   obtain ⟨r19, h26, h⟩ := bS h
   obtain rfl := si h
   exact (runB_arr mixed [(33, .el (TValue.D x18)), (36, .int (x18.str.length : Int)), (38, .bit true), (46, .ret (.d (D.b r19)))] [] [.live [6], .keep []] (ai (elem_map TValue.D h24) (ai (len_str x18.str) (ai h25 (ai (law22_awake_ok r19 h26) (ti))))) (by kernel_rfl)).lp
  ·
   obtain ⟨x20, h27, h⟩ := xS h
   obtain ⟨r21, h28, h⟩ := bS h
   rcases iS h with ⟨h29, h⟩ | ⟨h29, h⟩
   ·
    obtain ⟨r22, h30, h⟩ := bS h
    obtain rfl := si h
    exact (runB_arr mixed [(33, .el (TValue.D x18)), (36, .int (x18.str.length : Int)), (38, .bit false), (41, .el (TValue.D x20)), (43, .ret (.d (D.b r21))), (45, .bit true), (46, .ret (.d (D.b r22)))] [] [.live [6], .keep []] (ai (elem_map TValue.D h24) (ai (len_str x18.str) (ai h25 (ai (elem_map TValue.D h27) (ai (ref03_Right_ok x20 r21 h28) (ai h29 (ai (law22_awake_ok r22 h30) (ti)))))))) (by kernel_rfl)).lp
   ·
    obtain ⟨x23, h31, h⟩ := xS h
    obtain ⟨o26, h35, h⟩ := bS h
    obtain rfl := si h
    exact (runB_arr mixed [(33, .el (TValue.D x18)), (36, .int (x18.str.length : Int)), (38, .bit false), (41, .el (TValue.D x20)), (43, .ret (.d (D.b r21))), (45, .bit false), (49, .el (TValue.D x23))] [⟨[1, 1, 0, 0, 1, 0, 0, 1, 0, 1, 1, 1], [.live [1, 2, 3, 7, 8, 53], .keep [3]], .normal, (law22_JointSmall_b5_O s1 s2 s7 s8 (decide (x23.kind = s1)) w3 o26).2⟩] [.live [1, 2, 3, 7, 8], .keep [3]] (ai (elem_map TValue.D h24) (ai (len_str x18.str) (ai h25 (ai (elem_map TValue.D h27) (ai (ref03_Right_ok x20 r21 h28) (ai h29 (ai (elem_map TValue.D h31) (ai (law22_JointSmall_b5_ok rd s1 s2 s7 s8 (decide (x23.kind = s1)) w3 o26 h35) (ti))))))))) (by kernel_rfl)).lp
def law22_JointSmall_l1_I (s1 : Int) (s2 : List TValue) (w3 : TQea) (s7 : List TValue) (s8 : Int) : St := ⟨sp 110 0 [(1, .d ((D.i .i64) s1)), (2, .d ((D.l TValue.D) s2)), (3, .box 3 0), (7, .d ((D.l TValue.D) s7)), (8, .d ((D.i .i64) s8))], [(3, .cells ((cellsA (TQea.D w3))))], []⟩
def law22_JointSmall_l1_O (s1 : Int) (s2 : List TValue) (w3 : TQea) (o : (List TValue) ⊕ Bool) : Ex × St := match o with
  | .inl o => (.exit 0, ⟨sp 110 0 [(1, .d ((D.i .i64) s1)), (2, .d ((D.l TValue.D) s2)), (3, .box 3 0), (7, .d ((D.l TValue.D) o))], [(3, .cells ((cellsA (TQea.D w3))))], []⟩)
  | .inr o => (.ret, ⟨sp 110 0 [(6, .d (D.b o))], [], []⟩)
theorem law22_JointSmall_l1_rnd (rd : Option Nat) (s1 : Int) (s2 : List TValue) (w3 : TQea) (s7 : List TValue) (s8 : Int) (o : (List TValue × Int) ⊕ ((List TValue) ⊕ Bool)) (h : law22_JointSmall_l1_s s1 s2 w3 s7 s8 = some o) : Arr Try.prog rd (fbody Try.prog 3) (0 :: [0, 1, 0, 1, 1, 1]) (law22_JointSmall_l1_I s1 s2 w3 s7 s8) (rR (fun s : List TValue × Int => law22_JointSmall_l1_I s1 s2 w3 s.1 s.2) (law22_JointSmall_l1_O s1 s2 w3) o).1 (rR (fun s : List TValue × Int => law22_JointSmall_l1_I s1 s2 w3 s.1 s.2) (law22_JointSmall_l1_O s1 s2 w3) o).2 := by
  unfold law22_JointSmall_l1_s at h
  rcases iS h with ⟨h23, h⟩ | ⟨h23, h⟩
  ·
   obtain ⟨o27, h36, h⟩ := bS h
   replace h := sumE_some h
   rcases h with ⟨o28, rfl, h⟩ | ⟨o29, rfl, h⟩
   ·
    obtain rfl := si h
    exact runB_arr mixed [(27, .int (s2.length : Int)), (28, .bit true)] [⟨[0, 1, 0, 0, 1, 0, 1, 1, 1], [.live [1, 2, 3, 7, 8], .keep [3]], .normal, (law22_JointSmall_b4_O s1 s2 s7 s8 w3 (Sum.inl o28)).2⟩] [.live [1, 2, 3, 7, 8], .keep [3]] (ai (len_map TValue.D s2) (ai h23 (ai (law22_JointSmall_b4_ok rd s1 s2 s7 s8 w3 (Sum.inl o28) h36) (ti)))) (by kernel_rfl)
   ·
    obtain rfl := si h
    exact runB_arr mixed [(27, .int (s2.length : Int)), (28, .bit true)] [⟨[0, 1, 0, 0, 1, 0, 1, 1, 1], [.live [1, 2, 3, 7, 8], .keep [3]], .ret, (law22_JointSmall_b4_O s1 s2 s7 s8 w3 (Sum.inr o29)).2⟩] [.live [6], .keep []] (ai (len_map TValue.D s2) (ai h23 (ai (law22_JointSmall_b4_ok rd s1 s2 s7 s8 w3 (Sum.inr o29) h36) (ti)))) (by kernel_rfl)
  ·
   obtain rfl := si h
   exact runB_arr mixed [(27, .int (s2.length : Int)), (28, .bit false)] [] [.live [1, 2, 3, 7], .keep [3]] (ai (len_map TValue.D s2) (ai h23 (ti))) (by kernel_rfl)
theorem law22_JointSmall_l1_ok (rd : Option Nat) (s1 : Int) (s2 : List TValue) (w3 : TQea) (s7 : List TValue) (s8 : Int) (t : (List TValue) ⊕ Bool) (h : law22_JointSmall_l1 s1 s2 w3 s7 s8 = some t) : LpOf Try.prog rd (fbody Try.prog 3) [0, 1, 0, 1, 1, 1] (law22_JointSmall_l1_I s1 s2 w3 s7 s8) ((law22_JointSmall_l1_O s1 s2 w3) t).1 ((law22_JointSmall_l1_O s1 s2 w3) t).2 :=
  loopE_lpR (fun s : List TValue × Int => law22_JointSmall_l1_I s1 s2 w3 s.1 s.2) (law22_JointSmall_l1_O s1 s2 w3) (by kernel_rfl) (fun t => isN_ne (by rcases t with (_ | _) <;> rfl)) (fun s o h => law22_JointSmall_l1_rnd rd s1 s2 w3 s.1 s.2 o h) (s := (s7, s8)) (t := t) h
theorem law22_JointSmall_ok (a0 : TQea) (a1 : Int) (a2 : List TValue) (r : Bool) (h : law22_JointSmall a0 a1 a2 = some r) : ACall Try.prog 3 [.d (TQea.D a0), .d ((D.i .i64) a1), .d ((D.l TValue.D) a2)] [] (.d (D.b r)) [] := by
  unfold law22_JointSmall at h
  obtain ⟨r1, h1, h⟩ := bS h
  rcases iS h with ⟨h2, h⟩ | ⟨h2, h⟩
  ·
   obtain ⟨r2, h3, h⟩ := bS h
   obtain rfl := si h
   exact runF_call mixed [(12, .ret (.d ((D.i .i64) r1))), (14, .bit true), (24, .ret (.d (D.b r2)))] [] [] (ai (ref13_Few_ok a0 r1 h1) (ai h2 (ai (law22_awake_ok r2 h3) (ti)))) (by kernel_rfl)
  ·
   rcases iS h with ⟨h4, h⟩ | ⟨h4, h⟩
   ·
    obtain ⟨r3, h5, h⟩ := bS h
    obtain rfl := si h
    exact runF_call mixed [(12, .ret (.d ((D.i .i64) r1))), (14, .bit false), (16, .int (a2.length : Int)), (19, .bit true), (24, .ret (.d (D.b r3)))] [] [] (ai (ref13_Few_ok a0 r1 h1) (ai h2 (ai (len_map TValue.D a2) (ai h4 (ai (law22_awake_ok r3 h5) (ti)))))) (by kernel_rfl)
   ·
    obtain ⟨r4, h6, h⟩ := bS h
    rcases iS h with ⟨h7, h⟩ | ⟨h7, h⟩
    ·
     obtain ⟨r5, h8, h⟩ := bS h
     obtain rfl := si h
     exact runF_call mixed [(12, .ret (.d ((D.i .i64) r1))), (14, .bit false), (16, .int (a2.length : Int)), (19, .bit false), (21, .ret (.d (D.b r4))), (23, .bit true), (24, .ret (.d (D.b r5)))] [] [] (ai (ref13_Few_ok a0 r1 h1) (ai h2 (ai (len_map TValue.D a2) (ai h4 (ai (ref13_Right_ok a0 r4 h6) (ai h7 (ai (law22_awake_ok r5 h8) (ti)))))))) (by kernel_rfl)
    ·
     obtain ⟨o30, h37, h⟩ := bS h
     replace h := sumE_some h
     rcases h with ⟨o31, rfl, h⟩ | ⟨o32, rfl, h⟩
     ·
      obtain ⟨r33, h38, h⟩ := bS h
      obtain ⟨r34, h39, h⟩ := bS h
      rcases iS h with ⟨h40, h⟩ | ⟨h40, h⟩
      ·
       obtain rfl := si h
       exact runF_call mixed [(12, .ret (.d ((D.i .i64) r1))), (14, .bit false), (16, .int (a2.length : Int)), (19, .bit false), (21, .ret (.d (D.b r4))), (23, .bit false), (61, .ret (.d (D.b r33))), (63, .ret (.d (D.b r34))), (65, .bit true)] [⟨[0, 1, 0, 1, 1, 1], [.look 7, .live [1, 2, 3, 7, 8], .keep [3]], .exit 0, (law22_JointSmall_l1_O a1 a2 a0 (Sum.inl o31)).2⟩] [] (ai (ref13_Few_ok a0 r1 h1) (ai h2 (ai (len_map TValue.D a2) (ai h4 (ai (ref13_Right_ok a0 r4 h6) (ai h7 (ai (law22_JointSmall_l1_ok none a1 a2 a0 ([] : List TValue) 0 (Sum.inl o31) h37) (ai (joint_Small_ok a0 r33 h38) (ai (ref22_Small_ok a0 r34 h39) (ai h40 (ti))))))))))) (by kernel_rfl)
      ·
       obtain ⟨r35, h41, h⟩ := bS h
       obtain ⟨r36, h42, h⟩ := bS h
       obtain ⟨r37, h43, h⟩ := bS h
       rcases iS h with ⟨h44, h⟩ | ⟨h44, h⟩
       ·
        obtain rfl := si h
        exact runF_call mixed [(12, .ret (.d ((D.i .i64) r1))), (14, .bit false), (16, .int (a2.length : Int)), (19, .bit false), (21, .ret (.d (D.b r4))), (23, .bit false), (61, .ret (.d (D.b r33))), (63, .ret (.d (D.b r34))), (65, .bit false), (68, .ret (.d ((D.l TValue.D) r35))), (72, .ret (.d ((D.l TValue.D) r36))), (74, .ret (.d (D.b r37))), (76, .bit true)] [⟨[0, 1, 0, 1, 1, 1], [.look 7, .live [1, 2, 3, 7, 8], .keep [3]], .exit 0, (law22_JointSmall_l1_O a1 a2 a0 (Sum.inl o31)).2⟩] [] (ai (ref13_Few_ok a0 r1 h1) (ai h2 (ai (len_map TValue.D a2) (ai h4 (ai (ref13_Right_ok a0 r4 h6) (ai h7 (ai (law22_JointSmall_l1_ok none a1 a2 a0 ([] : List TValue) 0 (Sum.inl o31) h37) (ai (joint_Small_ok a0 r33 h38) (ai (ref22_Small_ok a0 r34 h39) (ai h40 (ai (joint_Consts_v2_ok a0 a1 r35 h41) (ai (nc_ok (D.l TValue.D) [r35]) (ai (ref22_Consts_ok a0 a1 r36 h42) (ai (nc_ok (D.l TValue.D) [r36]) (ai (ref20_Same_ok [r35] [r36] r37 h43) (ai h44 (ti))))))))))))))))) (by kernel_rfl)
       ·
        obtain ⟨r38, h45, h⟩ := bS h
        rcases iS h with ⟨h46, h⟩ | ⟨h46, h⟩
        ·
         rcases iS h with ⟨h47, h⟩ | ⟨h47, h⟩
         ·
          rcases iS h with ⟨h48, h⟩ | ⟨h48, h⟩
          ·
           rcases iS h with ⟨h49, h⟩ | ⟨h49, h⟩
           ·
            obtain ⟨r39, h50, h⟩ := bS h
            obtain rfl := si h
            exact runF_call mixed [(12, .ret (.d ((D.i .i64) r1))), (14, .bit false), (16, .int (a2.length : Int)), (19, .bit false), (21, .ret (.d (D.b r4))), (23, .bit false), (61, .ret (.d (D.b r33))), (63, .ret (.d (D.b r34))), (65, .bit false), (68, .ret (.d ((D.l TValue.D) r35))), (72, .ret (.d ((D.l TValue.D) r36))), (74, .ret (.d (D.b r37))), (76, .bit false), (80, .ret (.tup [.d (TValue.D r38.1), .d (D.b r38.2)])), (85, .bit true), (88, .bit true), (92, .bit true), (96, .bit true), (97, .ret (.d (D.b r39)))] [⟨[0, 1, 0, 1, 1, 1], [.look 7, .live [1, 2, 3, 7, 8], .keep [3]], .exit 0, (law22_JointSmall_l1_O a1 a2 a0 (Sum.inl o31)).2⟩] [] (ai (ref13_Few_ok a0 r1 h1) (ai h2 (ai (len_map TValue.D a2) (ai h4 (ai (ref13_Right_ok a0 r4 h6) (ai h7 (ai (law22_JointSmall_l1_ok none a1 a2 a0 ([] : List TValue) 0 (Sum.inl o31) h37) (ai (joint_Small_ok a0 r33 h38) (ai (ref22_Small_ok a0 r34 h39) (ai h40 (ai (joint_Consts_v2_ok a0 a1 r35 h41) (ai (nc_ok (D.l TValue.D) [r35]) (ai (ref22_Consts_ok a0 a1 r36 h42) (ai (nc_ok (D.l TValue.D) [r36]) (ai (ref20_Same_ok [r35] [r36] r37 h43) (ai h44 (ai (joint_New_ok a1 a2 r38 h45) (ai h46 (ai h47 (ai h48 (ai h49 (ai (law22_awake_ok r39 h50) (ti))))))))))))))))))))))) (by kernel_rfl)
           ·
            obtain rfl := si h
            exact runF_call mixed [(12, .ret (.d ((D.i .i64) r1))), (14, .bit false), (16, .int (a2.length : Int)), (19, .bit false), (21, .ret (.d (D.b r4))), (23, .bit false), (61, .ret (.d (D.b r33))), (63, .ret (.d (D.b r34))), (65, .bit false), (68, .ret (.d ((D.l TValue.D) r35))), (72, .ret (.d ((D.l TValue.D) r36))), (74, .ret (.d (D.b r37))), (76, .bit false), (80, .ret (.tup [.d (TValue.D r38.1), .d (D.b r38.2)])), (85, .bit true), (88, .bit true), (92, .bit true), (96, .bit false)] [⟨[0, 1, 0, 1, 1, 1], [.look 7, .live [1, 2, 3, 7, 8], .keep [3]], .exit 0, (law22_JointSmall_l1_O a1 a2 a0 (Sum.inl o31)).2⟩] [] (ai (ref13_Few_ok a0 r1 h1) (ai h2 (ai (len_map TValue.D a2) (ai h4 (ai (ref13_Right_ok a0 r4 h6) (ai h7 (ai (law22_JointSmall_l1_ok none a1 a2 a0 ([] : List TValue) 0 (Sum.inl o31) h37) (ai (joint_Small_ok a0 r33 h38) (ai (ref22_Small_ok a0 r34 h39) (ai h40 (ai (joint_Consts_v2_ok a0 a1 r35 h41) (ai (nc_ok (D.l TValue.D) [r35]) (ai (ref22_Consts_ok a0 a1 r36 h42) (ai (nc_ok (D.l TValue.D) [r36]) (ai (ref20_Same_ok [r35] [r36] r37 h43) (ai h44 (ai (joint_New_ok a1 a2 r38 h45) (ai h46 (ai h47 (ai h48 (ai h49 (ti)))))))))))))))))))))) (by kernel_rfl)
          ·
           obtain rfl := si h
           exact runF_call mixed [(12, .ret (.d ((D.i .i64) r1))), (14, .bit false), (16, .int (a2.length : Int)), (19, .bit false), (21, .ret (.d (D.b r4))), (23, .bit false), (61, .ret (.d (D.b r33))), (63, .ret (.d (D.b r34))), (65, .bit false), (68, .ret (.d ((D.l TValue.D) r35))), (72, .ret (.d ((D.l TValue.D) r36))), (74, .ret (.d (D.b r37))), (76, .bit false), (80, .ret (.tup [.d (TValue.D r38.1), .d (D.b r38.2)])), (85, .bit true), (88, .bit true), (92, .bit false)] [⟨[0, 1, 0, 1, 1, 1], [.look 7, .live [1, 2, 3, 7, 8], .keep [3]], .exit 0, (law22_JointSmall_l1_O a1 a2 a0 (Sum.inl o31)).2⟩] [] (ai (ref13_Few_ok a0 r1 h1) (ai h2 (ai (len_map TValue.D a2) (ai h4 (ai (ref13_Right_ok a0 r4 h6) (ai h7 (ai (law22_JointSmall_l1_ok none a1 a2 a0 ([] : List TValue) 0 (Sum.inl o31) h37) (ai (joint_Small_ok a0 r33 h38) (ai (ref22_Small_ok a0 r34 h39) (ai h40 (ai (joint_Consts_v2_ok a0 a1 r35 h41) (ai (nc_ok (D.l TValue.D) [r35]) (ai (ref22_Consts_ok a0 a1 r36 h42) (ai (nc_ok (D.l TValue.D) [r36]) (ai (ref20_Same_ok [r35] [r36] r37 h43) (ai h44 (ai (joint_New_ok a1 a2 r38 h45) (ai h46 (ai h47 (ai h48 (ti))))))))))))))))))))) (by kernel_rfl)
         ·
          rcases iS h with ⟨h51, h⟩ | ⟨h51, h⟩
          ·
           obtain ⟨r40, h52, h⟩ := bS h
           rcases iS h with ⟨h53, h⟩ | ⟨h53, h⟩
           ·
            obtain ⟨r41, h54, h⟩ := bS h
            obtain rfl := si h
            exact runF_call mixed [(12, .ret (.d ((D.i .i64) r1))), (14, .bit false), (16, .int (a2.length : Int)), (19, .bit false), (21, .ret (.d (D.b r4))), (23, .bit false), (61, .ret (.d (D.b r33))), (63, .ret (.d (D.b r34))), (65, .bit false), (68, .ret (.d ((D.l TValue.D) r35))), (72, .ret (.d ((D.l TValue.D) r36))), (74, .ret (.d (D.b r37))), (76, .bit false), (80, .ret (.tup [.d (TValue.D r38.1), .d (D.b r38.2)])), (85, .bit true), (88, .bit false), (100, .bit true), (104, .ret (.d (TValue.D r40))), (107, .bit true), (108, .ret (.d (D.b r41)))] [⟨[0, 1, 0, 1, 1, 1], [.look 7, .live [1, 2, 3, 7, 8], .keep [3]], .exit 0, (law22_JointSmall_l1_O a1 a2 a0 (Sum.inl o31)).2⟩] [] (ai (ref13_Few_ok a0 r1 h1) (ai h2 (ai (len_map TValue.D a2) (ai h4 (ai (ref13_Right_ok a0 r4 h6) (ai h7 (ai (law22_JointSmall_l1_ok none a1 a2 a0 ([] : List TValue) 0 (Sum.inl o31) h37) (ai (joint_Small_ok a0 r33 h38) (ai (ref22_Small_ok a0 r34 h39) (ai h40 (ai (joint_Consts_v2_ok a0 a1 r35 h41) (ai (nc_ok (D.l TValue.D) [r35]) (ai (ref22_Consts_ok a0 a1 r36 h42) (ai (nc_ok (D.l TValue.D) [r36]) (ai (ref20_Same_ok [r35] [r36] r37 h43) (ai h44 (ai (joint_New_ok a1 a2 r38 h45) (ai h46 (ai h47 (ai h51 (ai (ref22_New_ok a1 o31 r40 h52) (ai h53 (ai (law22_awake_ok r41 h54) (ti)))))))))))))))))))))))) (by kernel_rfl)
           ·
            obtain rfl := si h
            exact runF_call mixed [(12, .ret (.d ((D.i .i64) r1))), (14, .bit false), (16, .int (a2.length : Int)), (19, .bit false), (21, .ret (.d (D.b r4))), (23, .bit false), (61, .ret (.d (D.b r33))), (63, .ret (.d (D.b r34))), (65, .bit false), (68, .ret (.d ((D.l TValue.D) r35))), (72, .ret (.d ((D.l TValue.D) r36))), (74, .ret (.d (D.b r37))), (76, .bit false), (80, .ret (.tup [.d (TValue.D r38.1), .d (D.b r38.2)])), (85, .bit true), (88, .bit false), (100, .bit true), (104, .ret (.d (TValue.D r40))), (107, .bit false)] [⟨[0, 1, 0, 1, 1, 1], [.look 7, .live [1, 2, 3, 7, 8], .keep [3]], .exit 0, (law22_JointSmall_l1_O a1 a2 a0 (Sum.inl o31)).2⟩] [] (ai (ref13_Few_ok a0 r1 h1) (ai h2 (ai (len_map TValue.D a2) (ai h4 (ai (ref13_Right_ok a0 r4 h6) (ai h7 (ai (law22_JointSmall_l1_ok none a1 a2 a0 ([] : List TValue) 0 (Sum.inl o31) h37) (ai (joint_Small_ok a0 r33 h38) (ai (ref22_Small_ok a0 r34 h39) (ai h40 (ai (joint_Consts_v2_ok a0 a1 r35 h41) (ai (nc_ok (D.l TValue.D) [r35]) (ai (ref22_Consts_ok a0 a1 r36 h42) (ai (nc_ok (D.l TValue.D) [r36]) (ai (ref20_Same_ok [r35] [r36] r37 h43) (ai h44 (ai (joint_New_ok a1 a2 r38 h45) (ai h46 (ai h47 (ai h51 (ai (ref22_New_ok a1 o31 r40 h52) (ai h53 (ti))))))))))))))))))))))) (by kernel_rfl)
          ·
           obtain rfl := si h
           exact runF_call mixed [(12, .ret (.d ((D.i .i64) r1))), (14, .bit false), (16, .int (a2.length : Int)), (19, .bit false), (21, .ret (.d (D.b r4))), (23, .bit false), (61, .ret (.d (D.b r33))), (63, .ret (.d (D.b r34))), (65, .bit false), (68, .ret (.d ((D.l TValue.D) r35))), (72, .ret (.d ((D.l TValue.D) r36))), (74, .ret (.d (D.b r37))), (76, .bit false), (80, .ret (.tup [.d (TValue.D r38.1), .d (D.b r38.2)])), (85, .bit true), (88, .bit false), (100, .bit false)] [⟨[0, 1, 0, 1, 1, 1], [.look 7, .live [1, 2, 3, 7, 8], .keep [3]], .exit 0, (law22_JointSmall_l1_O a1 a2 a0 (Sum.inl o31)).2⟩] [] (ai (ref13_Few_ok a0 r1 h1) (ai h2 (ai (len_map TValue.D a2) (ai h4 (ai (ref13_Right_ok a0 r4 h6) (ai h7 (ai (law22_JointSmall_l1_ok none a1 a2 a0 ([] : List TValue) 0 (Sum.inl o31) h37) (ai (joint_Small_ok a0 r33 h38) (ai (ref22_Small_ok a0 r34 h39) (ai h40 (ai (joint_Consts_v2_ok a0 a1 r35 h41) (ai (nc_ok (D.l TValue.D) [r35]) (ai (ref22_Consts_ok a0 a1 r36 h42) (ai (nc_ok (D.l TValue.D) [r36]) (ai (ref20_Same_ok [r35] [r36] r37 h43) (ai h44 (ai (joint_New_ok a1 a2 r38 h45) (ai h46 (ai h47 (ai h51 (ti))))))))))))))))))))) (by kernel_rfl)
        ·
         rcases iS h with ⟨h55, h⟩ | ⟨h55, h⟩
         ·
          obtain ⟨r42, h56, h⟩ := bS h
          rcases iS h with ⟨h57, h⟩ | ⟨h57, h⟩
          ·
           obtain ⟨r43, h58, h⟩ := bS h
           obtain rfl := si h
           exact runF_call mixed [(12, .ret (.d ((D.i .i64) r1))), (14, .bit false), (16, .int (a2.length : Int)), (19, .bit false), (21, .ret (.d (D.b r4))), (23, .bit false), (61, .ret (.d (D.b r33))), (63, .ret (.d (D.b r34))), (65, .bit false), (68, .ret (.d ((D.l TValue.D) r35))), (72, .ret (.d ((D.l TValue.D) r36))), (74, .ret (.d (D.b r37))), (76, .bit false), (80, .ret (.tup [.d (TValue.D r38.1), .d (D.b r38.2)])), (85, .bit false), (100, .bit true), (104, .ret (.d (TValue.D r42))), (107, .bit true), (108, .ret (.d (D.b r43)))] [⟨[0, 1, 0, 1, 1, 1], [.look 7, .live [1, 2, 3, 7, 8], .keep [3]], .exit 0, (law22_JointSmall_l1_O a1 a2 a0 (Sum.inl o31)).2⟩] [] (ai (ref13_Few_ok a0 r1 h1) (ai h2 (ai (len_map TValue.D a2) (ai h4 (ai (ref13_Right_ok a0 r4 h6) (ai h7 (ai (law22_JointSmall_l1_ok none a1 a2 a0 ([] : List TValue) 0 (Sum.inl o31) h37) (ai (joint_Small_ok a0 r33 h38) (ai (ref22_Small_ok a0 r34 h39) (ai h40 (ai (joint_Consts_v2_ok a0 a1 r35 h41) (ai (nc_ok (D.l TValue.D) [r35]) (ai (ref22_Consts_ok a0 a1 r36 h42) (ai (nc_ok (D.l TValue.D) [r36]) (ai (ref20_Same_ok [r35] [r36] r37 h43) (ai h44 (ai (joint_New_ok a1 a2 r38 h45) (ai h46 (ai h55 (ai (ref22_New_ok a1 o31 r42 h56) (ai h57 (ai (law22_awake_ok r43 h58) (ti))))))))))))))))))))))) (by kernel_rfl)
          ·
           obtain rfl := si h
           exact runF_call mixed [(12, .ret (.d ((D.i .i64) r1))), (14, .bit false), (16, .int (a2.length : Int)), (19, .bit false), (21, .ret (.d (D.b r4))), (23, .bit false), (61, .ret (.d (D.b r33))), (63, .ret (.d (D.b r34))), (65, .bit false), (68, .ret (.d ((D.l TValue.D) r35))), (72, .ret (.d ((D.l TValue.D) r36))), (74, .ret (.d (D.b r37))), (76, .bit false), (80, .ret (.tup [.d (TValue.D r38.1), .d (D.b r38.2)])), (85, .bit false), (100, .bit true), (104, .ret (.d (TValue.D r42))), (107, .bit false)] [⟨[0, 1, 0, 1, 1, 1], [.look 7, .live [1, 2, 3, 7, 8], .keep [3]], .exit 0, (law22_JointSmall_l1_O a1 a2 a0 (Sum.inl o31)).2⟩] [] (ai (ref13_Few_ok a0 r1 h1) (ai h2 (ai (len_map TValue.D a2) (ai h4 (ai (ref13_Right_ok a0 r4 h6) (ai h7 (ai (law22_JointSmall_l1_ok none a1 a2 a0 ([] : List TValue) 0 (Sum.inl o31) h37) (ai (joint_Small_ok a0 r33 h38) (ai (ref22_Small_ok a0 r34 h39) (ai h40 (ai (joint_Consts_v2_ok a0 a1 r35 h41) (ai (nc_ok (D.l TValue.D) [r35]) (ai (ref22_Consts_ok a0 a1 r36 h42) (ai (nc_ok (D.l TValue.D) [r36]) (ai (ref20_Same_ok [r35] [r36] r37 h43) (ai h44 (ai (joint_New_ok a1 a2 r38 h45) (ai h46 (ai h55 (ai (ref22_New_ok a1 o31 r42 h56) (ai h57 (ti)))))))))))))))))))))) (by kernel_rfl)
         ·
          obtain rfl := si h
          exact runF_call mixed [(12, .ret (.d ((D.i .i64) r1))), (14, .bit false), (16, .int (a2.length : Int)), (19, .bit false), (21, .ret (.d (D.b r4))), (23, .bit false), (61, .ret (.d (D.b r33))), (63, .ret (.d (D.b r34))), (65, .bit false), (68, .ret (.d ((D.l TValue.D) r35))), (72, .ret (.d ((D.l TValue.D) r36))), (74, .ret (.d (D.b r37))), (76, .bit false), (80, .ret (.tup [.d (TValue.D r38.1), .d (D.b r38.2)])), (85, .bit false), (100, .bit false)] [⟨[0, 1, 0, 1, 1, 1], [.look 7, .live [1, 2, 3, 7, 8], .keep [3]], .exit 0, (law22_JointSmall_l1_O a1 a2 a0 (Sum.inl o31)).2⟩] [] (ai (ref13_Few_ok a0 r1 h1) (ai h2 (ai (len_map TValue.D a2) (ai h4 (ai (ref13_Right_ok a0 r4 h6) (ai h7 (ai (law22_JointSmall_l1_ok none a1 a2 a0 ([] : List TValue) 0 (Sum.inl o31) h37) (ai (joint_Small_ok a0 r33 h38) (ai (ref22_Small_ok a0 r34 h39) (ai h40 (ai (joint_Consts_v2_ok a0 a1 r35 h41) (ai (nc_ok (D.l TValue.D) [r35]) (ai (ref22_Consts_ok a0 a1 r36 h42) (ai (nc_ok (D.l TValue.D) [r36]) (ai (ref20_Same_ok [r35] [r36] r37 h43) (ai h44 (ai (joint_New_ok a1 a2 r38 h45) (ai h46 (ai h55 (ti)))))))))))))))))))) (by kernel_rfl)
     ·
      obtain rfl := si h
      exact runF_call mixed [(12, .ret (.d ((D.i .i64) r1))), (14, .bit false), (16, .int (a2.length : Int)), (19, .bit false), (21, .ret (.d (D.b r4))), (23, .bit false)] [⟨[0, 1, 0, 1, 1, 1], [.look 7, .live [1, 2, 3, 7, 8], .keep [3]], .ret, (law22_JointSmall_l1_O a1 a2 a0 (Sum.inr o32)).2⟩] [] (ai (ref13_Few_ok a0 r1 h1) (ai h2 (ai (len_map TValue.D a2) (ai h4 (ai (ref13_Right_ok a0 r4 h6) (ai h7 (ai (law22_JointSmall_l1_ok none a1 a2 a0 ([] : List TValue) 0 (Sum.inr o32) h37) (ti)))))))) (by kernel_rfl)
end Go.Ac
