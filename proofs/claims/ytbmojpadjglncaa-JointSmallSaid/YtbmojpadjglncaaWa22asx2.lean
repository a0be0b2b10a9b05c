/- Own work, printed: the functions compute these. -/
import Derived.Test.YtbmojpadjglncaaWa22asx1
set_option linter.unusedVariables false
set_option linter.unusedSimpArgs false
set_option linter.unusedVariables false
set_option linter.unusedSimpArgs false
namespace Go.Ac
open Go.Proofs
theorem ref07_Check_l2_rnd (rd : Option Nat) (s0 : List TDecl) (s4 : Int) (s5 : Int) (o : (Int) ⊕ (Unit ⊕ Unit)) (h : ref07_Check_l2_s s0 s4 s5 = some o) : Arr Try.prog rd (fbody Try.prog 16) (0 :: [0, 1, 1, 1, 1, 0, 0, 1, 0, 0, 1, 0, 1, 1]) (ref07_Check_l2_I s0 s4 s5) (rR (fun s : Int => ref07_Check_l2_I s0 s4 s) (ref07_Check_l2_O s0 s4) o).1 (rR (fun s : Int => ref07_Check_l2_I s0 s4 s) (ref07_Check_l2_O s0 s4) o).2 := by
  unfold ref07_Check_l2_s at h
  obtain ⟨x6, h11, h⟩ := xS h
  rcases iS h with ⟨h12, h⟩ | ⟨h12, h⟩
  ·
   obtain ⟨x7, h13, h⟩ := xS h
   obtain ⟨x8, h14, h⟩ := xS h
   rcases iS h with ⟨h15, h⟩ | ⟨h15, h⟩
   ·
    obtain rfl := si h
    exact runB_arr mixed [(44, .el (TDecl.D x6)), (47, .int (x6.types.length : Int)), (48, .bit true), (53, .el (TDecl.D x7)), (57, .el ((D.i .i64) x8)), (60, .bit true)] [] [.live [2, 3], .keep []] (ai (elem_map TDecl.D h11) (ai (len_map (D.i .i64) x6.types) (ai h12 (ai (elem_map TDecl.D h13) (ai (elem_map (D.i .i64) h14) (ai h15 (ti))))))) (by kernel_rfl)
   ·
    obtain ⟨x9, h16, h⟩ := xS h
    obtain ⟨x10, h17, h⟩ := xS h
    rcases iS h with ⟨h18, h⟩ | ⟨h18, h⟩
    ·
     obtain rfl := si h
     exact runB_arr mixed [(44, .el (TDecl.D x6)), (47, .int (x6.types.length : Int)), (48, .bit true), (53, .el (TDecl.D x7)), (57, .el ((D.i .i64) x8)), (60, .bit false), (63, .el (TDecl.D x9)), (67, .el ((D.i .i64) x10)), (70, .bit true)] [] [.live [2, 3], .keep []] (ai (elem_map TDecl.D h11) (ai (len_map (D.i .i64) x6.types) (ai h12 (ai (elem_map TDecl.D h13) (ai (elem_map (D.i .i64) h14) (ai h15 (ai (elem_map TDecl.D h16) (ai (elem_map (D.i .i64) h17) (ai h18 (ti)))))))))) (by kernel_rfl)
    ·
     obtain rfl := si h
     exact runB_arr mixed [(44, .el (TDecl.D x6)), (47, .int (x6.types.length : Int)), (48, .bit true), (53, .el (TDecl.D x7)), (57, .el ((D.i .i64) x8)), (60, .bit false), (63, .el (TDecl.D x9)), (67, .el ((D.i .i64) x10)), (70, .bit false)] [] [.live [0, 4, 5], .keep []] (ai (elem_map TDecl.D h11) (ai (len_map (D.i .i64) x6.types) (ai h12 (ai (elem_map TDecl.D h13) (ai (elem_map (D.i .i64) h14) (ai h15 (ai (elem_map TDecl.D h16) (ai (elem_map (D.i .i64) h17) (ai h18 (ti)))))))))) (by kernel_rfl)
  ·
   obtain rfl := si h
   exact runB_arr mixed [(44, .el (TDecl.D x6)), (47, .int (x6.types.length : Int)), (48, .bit false)] [] [.live [0, 4], .keep []] (ai (elem_map TDecl.D h11) (ai (len_map (D.i .i64) x6.types) (ai h12 (ti)))) (by kernel_rfl)
theorem ref07_Check_l2_ok (rd : Option Nat) (s0 : List TDecl) (s4 : Int) (s5 : Int) (t : Unit ⊕ Unit) (h : ref07_Check_l2 s0 s4 s5 = some t) : LpOf Try.prog rd (fbody Try.prog 16) [0, 1, 1, 1, 1, 0, 0, 1, 0, 0, 1, 0, 1, 1] (ref07_Check_l2_I s0 s4 s5) ((ref07_Check_l2_O s0 s4) t).1 ((ref07_Check_l2_O s0 s4) t).2 :=
  loopE_lpR (fun s : Int => ref07_Check_l2_I s0 s4 s) (ref07_Check_l2_O s0 s4) (by kernel_rfl) (fun t => isN_ne (by rcases t with (_ | _) <;> rfl)) (fun s o h => ref07_Check_l2_rnd rd s0 s4 s o h) (s := s5) (t := t) h
def ref07_Check_l1_I (s0 : List TDecl) (s4 : Int) : St := ⟨sp 72 0 [(0, .d ((D.l TDecl.D) s0)), (4, .d ((D.i .i64) s4))], [], []⟩
def ref07_Check_l1_O (s0 : List TDecl) (o : Unit ⊕ (Int × Int)) : Ex × St := match o with
  | .inl o => (.exit 0, ⟨sp 72 0 [], [], []⟩)
  | .inr o => (.ret, ⟨sp 72 0 [(2, .d ((D.i .i64) o.1)), (3, .d ((D.i .i64) o.2))], [], []⟩)
theorem ref07_Check_l1_rnd (rd : Option Nat) (s0 : List TDecl) (s4 : Int) (o : (Int) ⊕ (Unit ⊕ (Int × Int))) (h : ref07_Check_l1_s s0 s4 = some o) : Arr Try.prog rd (fbody Try.prog 16) (0 :: [0, 1, 0, 1, 1]) (ref07_Check_l1_I s0 s4) (rR (fun s : Int => ref07_Check_l1_I s0 s) (ref07_Check_l1_O s0) o).1 (rR (fun s : Int => ref07_Check_l1_I s0 s) (ref07_Check_l1_O s0) o).2 := by
  unfold ref07_Check_l1_s at h
  rcases iS h with ⟨h2, h⟩ | ⟨h2, h⟩
  ·
   obtain ⟨x1, h3, h⟩ := xS h
   obtain ⟨r2, h4, h⟩ := bS h
   rcases iS h with ⟨h5, h⟩ | ⟨h5, h⟩
   ·
    obtain rfl := si h
    exact runB_arr mixed [(11, .int (s0.length : Int)), (12, .bit true), (17, .el (TDecl.D x1)), (20, .ret (.d (D.b r2))), (21, .bit true)] [] [.live [2, 3], .keep []] (ai (len_map TDecl.D s0) (ai h2 (ai (elem_map TDecl.D h3) (ai (ref07_Name_ok x1.name r2 h4) (ai h5 (ti)))))) (by kernel_rfl)
   ·
    obtain ⟨x3, h6, h⟩ := xS h
    obtain ⟨r4, h7, h⟩ := bS h
    rcases iS h with ⟨h8, h⟩ | ⟨h8, h⟩
    ·
     obtain rfl := si h
     exact runB_arr mixed [(11, .int (s0.length : Int)), (12, .bit true), (17, .el (TDecl.D x1)), (20, .ret (.d (D.b r2))), (21, .bit false), (26, .el (TDecl.D x3)), (29, .ret (.d ((D.i .i64) r4))), (31, .bit true)] [] [.live [2, 3], .keep []] (ai (len_map TDecl.D s0) (ai h2 (ai (elem_map TDecl.D h3) (ai (ref07_Name_ok x1.name r2 h4) (ai h5 (ai (elem_map TDecl.D h6) (ai (ref07_Find_ok s0 x3.name r4 h7) (ai h8 (ti))))))))) (by kernel_rfl)
    ·
     obtain ⟨x5, h9, h⟩ := xS h
     rcases iS h with ⟨h10, h⟩ | ⟨h10, h⟩
     ·
      obtain rfl := si h
      exact runB_arr mixed [(11, .int (s0.length : Int)), (12, .bit true), (17, .el (TDecl.D x1)), (20, .ret (.d (D.b r2))), (21, .bit false), (26, .el (TDecl.D x3)), (29, .ret (.d ((D.i .i64) r4))), (31, .bit false), (35, .el (TDecl.D x5)), (38, .int (x5.types.length : Int)), (39, .bit true)] [] [.live [2, 3], .keep []] (ai (len_map TDecl.D s0) (ai h2 (ai (elem_map TDecl.D h3) (ai (ref07_Name_ok x1.name r2 h4) (ai h5 (ai (elem_map TDecl.D h6) (ai (ref07_Find_ok s0 x3.name r4 h7) (ai h8 (ai (elem_map TDecl.D h9) (ai (len_map (D.i .i64) x5.types) (ai h10 (ti)))))))))))) (by kernel_rfl)
     ·
      obtain ⟨o11, h19, h⟩ := bS h
      replace h := sumE_some h
      rcases h with ⟨o12, rfl, h⟩ | ⟨o13, rfl, h⟩
      ·
       obtain rfl := si h
       exact runB_arr mixed [(11, .int (s0.length : Int)), (12, .bit true), (17, .el (TDecl.D x1)), (20, .ret (.d (D.b r2))), (21, .bit false), (26, .el (TDecl.D x3)), (29, .ret (.d ((D.i .i64) r4))), (31, .bit false), (35, .el (TDecl.D x5)), (38, .int (x5.types.length : Int)), (39, .bit false)] [⟨[0, 1, 1, 1, 1, 0, 0, 1, 0, 0, 1, 0, 1, 1], [.live [0, 4, 5], .keep []], .exit 2, (ref07_Check_l2_O s0 s4 (Sum.inl o12)).2⟩] [.live [0, 4], .keep []] (ai (len_map TDecl.D s0) (ai h2 (ai (elem_map TDecl.D h3) (ai (ref07_Name_ok x1.name r2 h4) (ai h5 (ai (elem_map TDecl.D h6) (ai (ref07_Find_ok s0 x3.name r4 h7) (ai h8 (ai (elem_map TDecl.D h9) (ai (len_map (D.i .i64) x5.types) (ai h10 (ai (ref07_Check_l2_ok rd s0 s4 0 (Sum.inl o12) h19) (ti))))))))))))) (by kernel_rfl)
      ·
       obtain rfl := si h
       exact runB_arr mixed [(11, .int (s0.length : Int)), (12, .bit true), (17, .el (TDecl.D x1)), (20, .ret (.d (D.b r2))), (21, .bit false), (26, .el (TDecl.D x3)), (29, .ret (.d ((D.i .i64) r4))), (31, .bit false), (35, .el (TDecl.D x5)), (38, .int (x5.types.length : Int)), (39, .bit false)] [⟨[0, 1, 1, 1, 1, 0, 0, 1, 0, 0, 1, 0, 1, 1], [.live [0, 4, 5], .keep []], .ret, (ref07_Check_l2_O s0 s4 (Sum.inr o13)).2⟩] [.live [2, 3], .keep []] (ai (len_map TDecl.D s0) (ai h2 (ai (elem_map TDecl.D h3) (ai (ref07_Name_ok x1.name r2 h4) (ai h5 (ai (elem_map TDecl.D h6) (ai (ref07_Find_ok s0 x3.name r4 h7) (ai h8 (ai (elem_map TDecl.D h9) (ai (len_map (D.i .i64) x5.types) (ai h10 (ai (ref07_Check_l2_ok rd s0 s4 0 (Sum.inr o13) h19) (ti))))))))))))) (by kernel_rfl)
  ·
   obtain rfl := si h
   exact runB_arr mixed [(11, .int (s0.length : Int)), (12, .bit false)] [] [.live [], .keep []] (ai (len_map TDecl.D s0) (ai h2 (ti))) (by kernel_rfl)
theorem ref07_Check_l1_ok (rd : Option Nat) (s0 : List TDecl) (s4 : Int) (t : Unit ⊕ (Int × Int)) (h : ref07_Check_l1 s0 s4 = some t) : LpOf Try.prog rd (fbody Try.prog 16) [0, 1, 0, 1, 1] (ref07_Check_l1_I s0 s4) ((ref07_Check_l1_O s0) t).1 ((ref07_Check_l1_O s0) t).2 :=
  loopE_lpR (fun s : Int => ref07_Check_l1_I s0 s) (ref07_Check_l1_O s0) (by kernel_rfl) (fun t => isN_ne (by rcases t with (_ | _) <;> rfl)) (fun s o h => ref07_Check_l1_rnd rd s0 s o h) (s := s4) (t := t) h
theorem ref07_Check_ok (a0 : List TDecl) (r : Int × Int) (h : ref07_Check a0 = some r) : ACall Try.prog 16 [.d ((D.l TDecl.D) a0)] [] (.tup [.d ((D.i .i64) r.1), .d ((D.i .i64) r.2)]) [] := by
  unfold ref07_Check at h
  rcases iS h with ⟨h1, h⟩ | ⟨h1, h⟩
  ·
   obtain rfl := si h
   exact runF_call mixed [(7, .int (a0.length : Int)), (8, .bit true)] [] [] (ai (len_map TDecl.D a0) (ai h1 (ti))) (by kernel_rfl)
  ·
   obtain ⟨o14, h20, h⟩ := bS h
   replace h := sumE_some h
   rcases h with ⟨o15, rfl, h⟩ | ⟨o16, rfl, h⟩
   ·
    obtain rfl := si h
    exact runF_call mixed [(7, .int (a0.length : Int)), (8, .bit false)] [⟨[0, 1, 0, 1, 1], [.live [0, 4], .keep []], .exit 0, (ref07_Check_l1_O a0 (Sum.inl o15)).2⟩] [] (ai (len_map TDecl.D a0) (ai h1 (ai (ref07_Check_l1_ok none a0 0 (Sum.inl o15) h20) (ti)))) (by kernel_rfl)
   ·
    obtain rfl := si h
    exact runF_call mixed [(7, .int (a0.length : Int)), (8, .bit false)] [⟨[0, 1, 0, 1, 1], [.live [0, 4], .keep []], .ret, (ref07_Check_l1_O a0 (Sum.inr o16)).2⟩] [] (ai (len_map TDecl.D a0) (ai h1 (ai (ref07_Check_l1_ok none a0 0 (Sum.inr o16) h20) (ti)))) (by kernel_rfl)
theorem ref03_Right_ok (a0 : TValue) (r : Bool) (h : ref03_Right a0 = some r) : ACall Try.prog 7 [.d (TValue.D a0)] [] (.d (D.b r)) [] := by
  unfold ref03_Right at h
  rcases iS h with ⟨h1, h⟩ | ⟨h1, h⟩
  ·
   rcases iS h with ⟨h2, h⟩ | ⟨h2, h⟩
   ·
    obtain rfl := si h
    exact runF_call mixed [(5, .bit true), (9, .bit true)] [] [] (ai h1 (ai h2 (ti))) (by kernel_rfl)
   ·
    obtain rfl := si h
    exact runF_call mixed [(5, .bit true), (9, .bit false)] [] [] (ai h1 (ai h2 (ti))) (by kernel_rfl)
  ·
   rcases iS h with ⟨h3, h⟩ | ⟨h3, h⟩
   ·
    rcases iS h with ⟨h4, h⟩ | ⟨h4, h⟩
    ·
     rcases iS h with ⟨h5, h⟩ | ⟨h5, h⟩
     ·
      obtain rfl := si h
      exact runF_call mixed [(5, .bit false), (16, .bit true), (20, .bit true), (25, .bit true), (28, .int (a0.str.length : Int))] [] [] (ai h1 (ai h3 (ai h4 (ai h5 (ai (len_str a0.str) (ti)))))) (by kernel_rfl)
     ·
      obtain rfl := si h
      exact runF_call mixed [(5, .bit false), (16, .bit true), (20, .bit true), (25, .bit false)] [] [] (ai h1 (ai h3 (ai h4 (ai h5 (ti))))) (by kernel_rfl)
    ·
     obtain rfl := si h
     exact runF_call mixed [(5, .bit false), (16, .bit true), (20, .bit false)] [] [] (ai h1 (ai h3 (ai h4 (ti)))) (by kernel_rfl)
   ·
    rcases iS h with ⟨h6, h⟩ | ⟨h6, h⟩
    ·
     rcases iS h with ⟨h7, h⟩ | ⟨h7, h⟩
     ·
      obtain rfl := si h
      exact runF_call mixed [(5, .bit false), (16, .bit false), (34, .bit true), (39, .bit true)] [] [] (ai h1 (ai h3 (ai h6 (ai h7 (ti))))) (by kernel_rfl)
     ·
      obtain rfl := si h
      exact runF_call mixed [(5, .bit false), (16, .bit false), (34, .bit true), (39, .bit false)] [] [] (ai h1 (ai h3 (ai h6 (ai h7 (ti))))) (by kernel_rfl)
    ·
     obtain rfl := si h
     exact runF_call mixed [(5, .bit false), (16, .bit false), (34, .bit false)] [] [] (ai h1 (ai h3 (ai h6 (ti)))) (by kernel_rfl)
def ref13_twice_l1_I (s0 : List (List UInt8)) (s1 : Int) (s5 : Int) : St := ⟨sp 20 0 [(0, .d ((D.l D.s) s0)), (1, .d ((D.i .i64) s1)), (5, .d ((D.i .i64) s5))], [], []⟩
def ref13_twice_l1_O (s0 : List (List UInt8)) (s1 : Int) (o : Unit ⊕ Unit) : Ex × St := match o with
  | .inl o => (.exit 0, ⟨sp 20 0 [], [], []⟩)
  | .inr o => (.ret, ⟨sp 20 0 [(4, .d (D.b true))], [], []⟩)
theorem ref13_twice_l1_rnd (rd : Option Nat) (s0 : List (List UInt8)) (s1 : Int) (s5 : Int) (o : (Int) ⊕ (Unit ⊕ Unit)) (h : ref13_twice_l1_s s0 s1 s5 = some o) : Arr Try.prog rd (fbody Try.prog 33) (0 :: [0, 1, 0, 1]) (ref13_twice_l1_I s0 s1 s5) (rR (fun s : Int => ref13_twice_l1_I s0 s1 s) (ref13_twice_l1_O s0 s1) o).1 (rR (fun s : Int => ref13_twice_l1_I s0 s1 s) (ref13_twice_l1_O s0 s1) o).2 := by
  unfold ref13_twice_l1_s at h
  rcases iS h with ⟨h1, h⟩ | ⟨h1, h⟩
  ·
   obtain ⟨x1, h2, h⟩ := xS h
   obtain ⟨x2, h3, h⟩ := xS h
   rcases iS h with ⟨h4, h⟩ | ⟨h4, h⟩
   ·
    obtain rfl := si h
    exact runB_arr mixed [(8, .bit true), (13, .el (D.s x1)), (17, .el (D.s x2)), (19, .bit true)] [] [.live [4], .keep []] (ai h1 (ai (elem_map D.s h2) (ai (elem_map D.s h3) (ai h4 (ti))))) (by kernel_rfl)
   ·
    obtain rfl := si h
    exact runB_arr mixed [(8, .bit true), (13, .el (D.s x1)), (17, .el (D.s x2)), (19, .bit false)] [] [.live [0, 1, 5], .keep []] (ai h1 (ai (elem_map D.s h2) (ai (elem_map D.s h3) (ai h4 (ti))))) (by kernel_rfl)
  ·
   obtain rfl := si h
   exact runB_arr mixed [(8, .bit false)] [] [.live [], .keep []] (ai h1 (ti)) (by kernel_rfl)
theorem ref13_twice_l1_ok (rd : Option Nat) (s0 : List (List UInt8)) (s1 : Int) (s5 : Int) (t : Unit ⊕ Unit) (h : ref13_twice_l1 s0 s1 s5 = some t) : LpOf Try.prog rd (fbody Try.prog 33) [0, 1, 0, 1] (ref13_twice_l1_I s0 s1 s5) ((ref13_twice_l1_O s0 s1) t).1 ((ref13_twice_l1_O s0 s1) t).2 :=
  loopE_lpR (fun s : Int => ref13_twice_l1_I s0 s1 s) (ref13_twice_l1_O s0 s1) (by kernel_rfl) (fun t => isN_ne (by rcases t with (_ | _) <;> rfl)) (fun s o h => ref13_twice_l1_rnd rd s0 s1 s o h) (s := s5) (t := t) h
theorem ref13_twice_ok (a0 : List (List UInt8)) (a1 : Int) (r : Bool) (h : ref13_twice a0 a1 = some r) : ACall Try.prog 33 [.d ((D.l D.s) a0), .d ((D.i .i64) a1)] [] (.d (D.b r)) [] := by
  unfold ref13_twice at h
  obtain ⟨o3, h5, h⟩ := bS h
  replace h := sumE_some h
  rcases h with ⟨o4, rfl, h⟩ | ⟨o5, rfl, h⟩
  ·
   obtain rfl := si h
   exact runF_call mixed [] [⟨[0, 1, 0, 1], [.live [0, 1, 5], .keep []], .exit 0, (ref13_twice_l1_O a0 a1 (Sum.inl o4)).2⟩] [] (ai (ref13_twice_l1_ok none a0 a1 0 (Sum.inl o4) h5) (ti)) (by kernel_rfl)
  ·
   obtain rfl := si h
   exact runF_call mixed [] [⟨[0, 1, 0, 1], [.live [0, 1, 5], .keep []], .ret, (ref13_twice_l1_O a0 a1 (Sum.inr o5)).2⟩] [] (ai (ref13_twice_l1_ok none a0 a1 0 (Sum.inr o5) h5) (ti)) (by kernel_rfl)
def ref13_names_l1_I (w1 : TQea) (s4 : Int) (w3 : List (List UInt8)) : St := ⟨sp 112 0 [(1, .box 1 0), (3, .row 3), (4, .d ((D.i .i64) s4))], [(1, .cells ((cellsA (TQea.D w1)))), (3, .row 9 1 (w3.map D.s))], []⟩
def ref13_names_l1_O (w1 : TQea) (o : (List (List UInt8)) ⊕ Unit) : Ex × St := match o with
  | .inl o => (.exit 0, ⟨sp 112 0 [(1, .box 1 0), (3, .row 3)], [(1, .cells ((cellsA (TQea.D w1)))), (3, .row 9 1 (o.map D.s))], []⟩)
  | .inr o => (.ret, ⟨sp 112 0 [(2, .d (D.b false))], [], []⟩)
theorem ref13_names_l1_rnd (rd : Option Nat) (w1 : TQea) (s4 : Int) (w3 : List (List UInt8)) (o : (Int × List (List UInt8)) ⊕ ((List (List UInt8)) ⊕ Unit)) (h : ref13_names_l1_s w1 s4 w3 = some o) : Arr Try.prog rd (fbody Try.prog 17) (0 :: [0, 1, 0, 1, 1]) (ref13_names_l1_I w1 s4 w3) (rR (fun s : Int × List (List UInt8) => ref13_names_l1_I w1 s.1 s.2) (ref13_names_l1_O w1) o).1 (rR (fun s : Int × List (List UInt8) => ref13_names_l1_I w1 s.1 s.2) (ref13_names_l1_O w1) o).2 := by
  unfold ref13_names_l1_s at h
  rcases iS h with ⟨h8, h⟩ | ⟨h8, h⟩
  ·
   obtain ⟨x4, h9, h⟩ := xS h
   obtain ⟨h10, h⟩ := cS h
   obtain ⟨x5, h11, h⟩ := xS h
   rcases iS h with ⟨h12, h⟩ | ⟨h12, h⟩
   ·
    obtain rfl := si h
    exact runB_arr mixed [(12, .int (w1.quants.length : Int)), (13, .bit true), (20, .el (TQuant.D x4)), (24, .sl ((w3 ++ [x4.name]).map D.s)), (28, .el (TQuant.D x5)), (32, .bit true)] [] [.live [2], .keep []] (ai (len_map TQuant.D w1.quants) (ai h8 (ai (elem_map TQuant.D h9) (ai (nc_ok D.s [x4.name]) (ai (nc_ok D.s [x4.name]) (ai (fit_map D.s h10) (ai (app_map D.s w3 [x4.name]) (ai (elem_map TQuant.D h11) (ai h12 (ti)))))))))) (by kernel_rfl)
   ·
    obtain ⟨x6, h13, h⟩ := xS h
    rcases iS h with ⟨h14, h⟩ | ⟨h14, h⟩
    ·
     obtain rfl := si h
     exact runB_arr mixed [(12, .int (w1.quants.length : Int)), (13, .bit true), (20, .el (TQuant.D x4)), (24, .sl ((w3 ++ [x4.name]).map D.s)), (28, .el (TQuant.D x5)), (32, .bit false), (36, .el (TQuant.D x6)), (40, .bit true)] [] [.live [2], .keep []] (ai (len_map TQuant.D w1.quants) (ai h8 (ai (elem_map TQuant.D h9) (ai (nc_ok D.s [x4.name]) (ai (nc_ok D.s [x4.name]) (ai (fit_map D.s h10) (ai (app_map D.s w3 [x4.name]) (ai (elem_map TQuant.D h11) (ai h12 (ai (elem_map TQuant.D h13) (ai h14 (ti)))))))))))) (by kernel_rfl)
    ·
     obtain rfl := si h
     exact runB_arr mixed [(12, .int (w1.quants.length : Int)), (13, .bit true), (20, .el (TQuant.D x4)), (24, .sl ((w3 ++ [x4.name]).map D.s)), (28, .el (TQuant.D x5)), (32, .bit false), (36, .el (TQuant.D x6)), (40, .bit false)] [] [.live [1, 3, 4], .keep [1, 24], .ren 24 3, .sort] (ai (len_map TQuant.D w1.quants) (ai h8 (ai (elem_map TQuant.D h9) (ai (nc_ok D.s [x4.name]) (ai (nc_ok D.s [x4.name]) (ai (fit_map D.s h10) (ai (app_map D.s w3 [x4.name]) (ai (elem_map TQuant.D h11) (ai h12 (ai (elem_map TQuant.D h13) (ai h14 (ti)))))))))))) (by kernel_rfl)
  ·
   obtain rfl := si h
   exact runB_arr mixed [(12, .int (w1.quants.length : Int)), (13, .bit false)] [] [.live [1, 3], .keep [1, 3]] (ai (len_map TQuant.D w1.quants) (ai h8 (ti))) (by kernel_rfl)
theorem ref13_names_l1_ok (rd : Option Nat) (w1 : TQea) (s4 : Int) (w3 : List (List UInt8)) (t : (List (List UInt8)) ⊕ Unit) (h : ref13_names_l1 w1 s4 w3 = some t) : LpOf Try.prog rd (fbody Try.prog 17) [0, 1, 0, 1, 1] (ref13_names_l1_I w1 s4 w3) ((ref13_names_l1_O w1) t).1 ((ref13_names_l1_O w1) t).2 :=
  loopE_lpR (fun s : Int × List (List UInt8) => ref13_names_l1_I w1 s.1 s.2) (ref13_names_l1_O w1) (by kernel_rfl) (fun t => isN_ne (by rcases t with (_ | _) <;> rfl)) (fun s o h => ref13_names_l1_rnd rd w1 s.1 s.2 o h) (s := (s4, w3)) (t := t) h
def ref13_names_l2_I (w1 : TQea) (s5 : Int) (w3 : List (List UInt8)) : St := ⟨sp 112 0 [(1, .box 1 0), (3, .row 3), (5, .d ((D.i .i64) s5))], [(1, .cells ((cellsA (TQea.D w1)))), (3, .row 9 1 (w3.map D.s))], []⟩
def ref13_names_l2_O (w1 : TQea) (o : (List (List UInt8)) ⊕ Unit) : Ex × St := match o with
  | .inl o => (.exit 2, ⟨sp 112 0 [(1, .box 1 0), (3, .row 3)], [(1, .cells ((cellsA (TQea.D w1)))), (3, .row 9 1 (o.map D.s))], []⟩)
  | .inr o => (.ret, ⟨sp 112 0 [(2, .d (D.b false))], [], []⟩)
theorem ref13_names_l2_rnd (rd : Option Nat) (w1 : TQea) (s5 : Int) (w3 : List (List UInt8)) (o : (Int × List (List UInt8)) ⊕ ((List (List UInt8)) ⊕ Unit)) (h : ref13_names_l2_s w1 s5 w3 = some o) : Arr Try.prog rd (fbody Try.prog 17) (0 :: [0, 1, 0, 1, 1, 1]) (ref13_names_l2_I w1 s5 w3) (rR (fun s : Int × List (List UInt8) => ref13_names_l2_I w1 s.1 s.2) (ref13_names_l2_O w1) o).1 (rR (fun s : Int × List (List UInt8) => ref13_names_l2_I w1 s.1 s.2) (ref13_names_l2_O w1) o).2 := by
  unfold ref13_names_l2_s at h
  rcases iS h with ⟨h16, h⟩ | ⟨h16, h⟩
  ·
   obtain ⟨x10, h17, h⟩ := xS h
   obtain ⟨h18, h⟩ := cS h
   obtain ⟨x11, h19, h⟩ := xS h
   obtain ⟨r12, h20, h⟩ := bS h
   rcases iS h with ⟨h21, h⟩ | ⟨h21, h⟩
   ·
    obtain rfl := si h
    exact runB_arr mixed [(44, .int (w1.frees.length : Int)), (45, .bit true), (52, .el (TFree.D x10)), (56, .sl ((w3 ++ [x10.name]).map D.s)), (60, .el (TFree.D x11)), (63, .ret (.d (D.b r12))), (64, .bit true)] [] [.live [2], .keep []] (ai (len_map TFree.D w1.frees) (ai h16 (ai (elem_map TFree.D h17) (ai (nc_ok D.s [x10.name]) (ai (nc_ok D.s [x10.name]) (ai (fit_map D.s h18) (ai (app_map D.s w3 [x10.name]) (ai (elem_map TFree.D h19) (ai (ref03_Right_ok x11.init_ r12 h20) (ai h21 (ti))))))))))) (by kernel_rfl)
   ·
    obtain rfl := si h
    exact runB_arr mixed [(44, .int (w1.frees.length : Int)), (45, .bit true), (52, .el (TFree.D x10)), (56, .sl ((w3 ++ [x10.name]).map D.s)), (60, .el (TFree.D x11)), (63, .ret (.d (D.b r12))), (64, .bit false)] [] [.live [1, 3, 5], .keep [1, 56], .ren 56 3, .sort] (ai (len_map TFree.D w1.frees) (ai h16 (ai (elem_map TFree.D h17) (ai (nc_ok D.s [x10.name]) (ai (nc_ok D.s [x10.name]) (ai (fit_map D.s h18) (ai (app_map D.s w3 [x10.name]) (ai (elem_map TFree.D h19) (ai (ref03_Right_ok x11.init_ r12 h20) (ai h21 (ti))))))))))) (by kernel_rfl)
  ·
   obtain rfl := si h
   exact runB_arr mixed [(44, .int (w1.frees.length : Int)), (45, .bit false)] [] [.live [1, 3], .keep [1, 3]] (ai (len_map TFree.D w1.frees) (ai h16 (ti))) (by kernel_rfl)
theorem ref13_names_l2_ok (rd : Option Nat) (w1 : TQea) (s5 : Int) (w3 : List (List UInt8)) (t : (List (List UInt8)) ⊕ Unit) (h : ref13_names_l2 w1 s5 w3 = some t) : LpOf Try.prog rd (fbody Try.prog 17) [0, 1, 0, 1, 1, 1] (ref13_names_l2_I w1 s5 w3) ((ref13_names_l2_O w1) t).1 ((ref13_names_l2_O w1) t).2 :=
  loopE_lpR (fun s : Int × List (List UInt8) => ref13_names_l2_I w1 s.1 s.2) (ref13_names_l2_O w1) (by kernel_rfl) (fun t => isN_ne (by rcases t with (_ | _) <;> rfl)) (fun s o h => ref13_names_l2_rnd rd w1 s.1 s.2 o h) (s := (s5, w3)) (t := t) h
def ref13_names_l3_I (w1 : TQea) (w3 : List (List UInt8)) (s6 : Int) : St := ⟨sp 112 0 [(1, .box 1 0), (3, .row 3), (6, .d ((D.i .i64) s6))], [(1, .cells ((cellsA (TQea.D w1)))), (3, .row 9 1 (w3.map D.s))], []⟩
def ref13_names_l3_O (w1 : TQea) (w3 : List (List UInt8)) (o : Unit ⊕ Unit) : Ex × St := match o with
  | .inl o => (.exit 4, ⟨sp 112 0 [(1, .box 1 0)], [(1, .cells ((cellsA (TQea.D w1))))], []⟩)
  | .inr o => (.ret, ⟨sp 112 0 [(2, .d (D.b false))], [], []⟩)
theorem ref13_names_l3_rnd (rd : Option Nat) (w1 : TQea) (w3 : List (List UInt8)) (s6 : Int) (o : (Int) ⊕ (Unit ⊕ Unit)) (h : ref13_names_l3_s w1 w3 s6 = some o) : Arr Try.prog rd (fbody Try.prog 17) (0 :: [0, 1, 0, 1, 1, 1, 1]) (ref13_names_l3_I w1 w3 s6) (rR (fun s : Int => ref13_names_l3_I w1 w3 s) (ref13_names_l3_O w1 w3) o).1 (rR (fun s : Int => ref13_names_l3_I w1 w3 s) (ref13_names_l3_O w1 w3) o).2 := by
  unfold ref13_names_l3_s at h
  rcases iS h with ⟨h23, h⟩ | ⟨h23, h⟩
  ·
   obtain ⟨x16, h24, h⟩ := xS h
   obtain ⟨r17, h25, h⟩ := bS h
   rcases iS h with ⟨h26, h⟩ | ⟨h26, h⟩
   ·
    obtain rfl := si h
    exact runB_arr mixed [(67, .int (w3.length : Int)), (68, .bit true), (73, .el (D.s x16)), (75, .ret (.d (D.b r17))), (77, .bit true)] [] [.live [2], .keep []] (ai (len_map D.s w3) (ai h23 (ai (elem_map D.s h24) (ai (ref07_Name_ok x16 r17 h25) (ai h26 (ti)))))) (by kernel_rfl)
   ·
    obtain ⟨r18, h27, h⟩ := bS h
    cases r18 with
    | true =>
     replace h := iteT h
     obtain rfl := si h
     exact runB_arr mixed [(67, .int (w3.length : Int)), (68, .bit true), (73, .el (D.s x16)), (75, .ret (.d (D.b r17))), (77, .bit false), (80, .ret (.d (D.b true)))] [] [.live [2], .keep []] (ai (len_map D.s w3) (ai h23 (ai (elem_map D.s h24) (ai (ref07_Name_ok x16 r17 h25) (ai h26 (ai (ref13_twice_ok w3 s6 true h27) (ti))))))) (by kernel_rfl)
    | false =>
     replace h := iteF h
     obtain rfl := si h
     exact runB_arr mixed [(67, .int (w3.length : Int)), (68, .bit true), (73, .el (D.s x16)), (75, .ret (.d (D.b r17))), (77, .bit false), (80, .ret (.d (D.b false)))] [] [.live [1, 3, 6], .keep [1, 3]] (ai (len_map D.s w3) (ai h23 (ai (elem_map D.s h24) (ai (ref07_Name_ok x16 r17 h25) (ai h26 (ai (ref13_twice_ok w3 s6 false h27) (ti))))))) (by kernel_rfl)
  ·
   obtain rfl := si h
   exact runB_arr mixed [(67, .int (w3.length : Int)), (68, .bit false)] [] [.live [1], .keep [1]] (ai (len_map D.s w3) (ai h23 (ti))) (by kernel_rfl)
theorem ref13_names_l3_ok (rd : Option Nat) (w1 : TQea) (w3 : List (List UInt8)) (s6 : Int) (t : Unit ⊕ Unit) (h : ref13_names_l3 w1 w3 s6 = some t) : LpOf Try.prog rd (fbody Try.prog 17) [0, 1, 0, 1, 1, 1, 1] (ref13_names_l3_I w1 w3 s6) ((ref13_names_l3_O w1 w3) t).1 ((ref13_names_l3_O w1 w3) t).2 :=
  loopE_lpR (fun s : Int => ref13_names_l3_I w1 w3 s) (ref13_names_l3_O w1 w3) (by kernel_rfl) (fun t => isN_ne (by rcases t with (_ | _) <;> rfl)) (fun s o h => ref13_names_l3_rnd rd w1 w3 s o h) (s := s6) (t := t) h
def ref13_names_l4_I (w1 : TQea) (s8 : Int) (w7 : List (List UInt8)) : St := ⟨sp 112 0 [(1, .box 1 0), (7, .row 7), (8, .d ((D.i .i64) s8))], [(1, .cells ((cellsA (TQea.D w1)))), (7, .row 9 1 (w7.map D.s))], []⟩
def ref13_names_l4_O (w1 : TQea) (o : Unit ⊕ Unit) : Ex × St := match o with
  | .inl o => (.exit 6, ⟨sp 112 0 [(1, .box 1 0)], [(1, .cells ((cellsA (TQea.D w1))))], []⟩)
  | .inr o => (.ret, ⟨sp 112 0 [(2, .d (D.b false))], [], []⟩)
theorem ref13_names_l4_rnd (rd : Option Nat) (w1 : TQea) (s8 : Int) (w7 : List (List UInt8)) (o : (Int × List (List UInt8)) ⊕ (Unit ⊕ Unit)) (h : ref13_names_l4_s w1 s8 w7 = some o) : Arr Try.prog rd (fbody Try.prog 17) (0 :: [0, 1, 0, 1, 1, 1, 1, 1, 1]) (ref13_names_l4_I w1 s8 w7) (rR (fun s : Int × List (List UInt8) => ref13_names_l4_I w1 s.1 s.2) (ref13_names_l4_O w1) o).1 (rR (fun s : Int × List (List UInt8) => ref13_names_l4_I w1 s.1 s.2) (ref13_names_l4_O w1) o).2 := by
  unfold ref13_names_l4_s at h
  rcases iS h with ⟨h38, h⟩ | ⟨h38, h⟩
  ·
   obtain ⟨x26, h39, h⟩ := xS h
   obtain ⟨h40, h⟩ := cS h
   obtain ⟨x27, h41, h⟩ := xS h
   obtain ⟨r28, h42, h⟩ := bS h
   rcases iS h with ⟨h43, h⟩ | ⟨h43, h⟩
   ·
    obtain rfl := si h
    exact runB_arr mixed [(85, .int (w1.states.length : Int)), (86, .bit true), (93, .el (TState.D x26)), (97, .sl ((w7 ++ [x26.name]).map D.s)), (100, .el (D.s x27)), (102, .ret (.d (D.b r28))), (104, .bit true)] [] [.live [2], .keep []] (ai (len_map TState.D w1.states) (ai h38 (ai (elem_map TState.D h39) (ai (nc_ok D.s [x26.name]) (ai (nc_ok D.s [x26.name]) (ai (fit_map D.s h40) (ai (app_map D.s w7 [x26.name]) (ai (elem_map D.s h41) (ai (ref07_Name_ok x27 r28 h42) (ai h43 (ti))))))))))) (by kernel_rfl)
   ·
    obtain ⟨r29, h44, h⟩ := bS h
    cases r29 with
    | true =>
     replace h := iteT h
     obtain rfl := si h
     exact runB_arr mixed [(85, .int (w1.states.length : Int)), (86, .bit true), (93, .el (TState.D x26)), (97, .sl ((w7 ++ [x26.name]).map D.s)), (100, .el (D.s x27)), (102, .ret (.d (D.b r28))), (104, .bit false), (107, .ret (.d (D.b true)))] [] [.live [2], .keep []] (ai (len_map TState.D w1.states) (ai h38 (ai (elem_map TState.D h39) (ai (nc_ok D.s [x26.name]) (ai (nc_ok D.s [x26.name]) (ai (fit_map D.s h40) (ai (app_map D.s w7 [x26.name]) (ai (elem_map D.s h41) (ai (ref07_Name_ok x27 r28 h42) (ai h43 (ai (ref13_twice_ok (w7 ++ [x26.name]) s8 true h44) (ti)))))))))))) (by kernel_rfl)
    | false =>
     replace h := iteF h
     obtain rfl := si h
     exact runB_arr mixed [(85, .int (w1.states.length : Int)), (86, .bit true), (93, .el (TState.D x26)), (97, .sl ((w7 ++ [x26.name]).map D.s)), (100, .el (D.s x27)), (102, .ret (.d (D.b r28))), (104, .bit false), (107, .ret (.d (D.b false)))] [] [.live [1, 7, 8], .keep [1, 97], .ren 97 7, .sort] (ai (len_map TState.D w1.states) (ai h38 (ai (elem_map TState.D h39) (ai (nc_ok D.s [x26.name]) (ai (nc_ok D.s [x26.name]) (ai (fit_map D.s h40) (ai (app_map D.s w7 [x26.name]) (ai (elem_map D.s h41) (ai (ref07_Name_ok x27 r28 h42) (ai h43 (ai (ref13_twice_ok (w7 ++ [x26.name]) s8 false h44) (ti)))))))))))) (by kernel_rfl)
  ·
   obtain rfl := si h
   exact runB_arr mixed [(85, .int (w1.states.length : Int)), (86, .bit false)] [] [.live [1], .keep [1]] (ai (len_map TState.D w1.states) (ai h38 (ti))) (by kernel_rfl)
theorem ref13_names_l4_ok (rd : Option Nat) (w1 : TQea) (s8 : Int) (w7 : List (List UInt8)) (t : Unit ⊕ Unit) (h : ref13_names_l4 w1 s8 w7 = some t) : LpOf Try.prog rd (fbody Try.prog 17) [0, 1, 0, 1, 1, 1, 1, 1, 1] (ref13_names_l4_I w1 s8 w7) ((ref13_names_l4_O w1) t).1 ((ref13_names_l4_O w1) t).2 :=
  loopE_lpR (fun s : Int × List (List UInt8) => ref13_names_l4_I w1 s.1 s.2) (ref13_names_l4_O w1) (by kernel_rfl) (fun t => isN_ne (by rcases t with (_ | _) <;> rfl)) (fun s o h => ref13_names_l4_rnd rd w1 s.1 s.2 o h) (s := (s8, w7)) (t := t) h
theorem ref13_names_ok (a0 : TQea) (r : Bool) (h : ref13_names a0 = some r) : ACall Try.prog 17 [.d (TQea.D a0)] [] (.d (D.b r)) [] := by
  unfold ref13_names at h
  obtain ⟨o7, h15, h⟩ := bS h
  replace h := sumE_some h
  rcases h with ⟨o8, rfl, h⟩ | ⟨o9, rfl, h⟩
  ·
   obtain ⟨o13, h22, h⟩ := bS h
   replace h := sumE_some h
   rcases h with ⟨o14, rfl, h⟩ | ⟨o15, rfl, h⟩
   ·
    obtain ⟨o19, h29, h⟩ := bS h
    replace h := sumE_some h
    rcases h with ⟨o20, rfl, h⟩ | ⟨o21, rfl, h⟩
    ·
     obtain ⟨o30, h46, h⟩ := bS h
     replace h := sumE_some h
     rcases h with ⟨o31, rfl, h⟩ | ⟨o32, rfl, h⟩
     ·
      obtain ⟨r33, h47, h⟩ := bS h
      obtain rfl := si h
      exact runF_call mixed [(111, .ret (.d (D.b r33)))] [⟨[0, 1, 0, 1, 1], [.live [1, 3, 4], .keep [1], .nil 3 3 9 1, .sort], .exit 0, (ref13_names_l1_O a0 (Sum.inl o8)).2⟩, ⟨[0, 1, 0, 1, 1, 1], [.live [1, 3, 5], .keep [1, 3]], .exit 2, (ref13_names_l2_O a0 (Sum.inl o14)).2⟩, ⟨[0, 1, 0, 1, 1, 1, 1], [.live [1, 3, 6], .keep [1, 3]], .exit 4, (ref13_names_l3_O a0 o14 (Sum.inl o20)).2⟩, ⟨[0, 1, 0, 1, 1, 1, 1, 1, 1], [.live [1, 7, 8], .keep [1], .nil 7 7 9 1, .sort], .exit 6, (ref13_names_l4_O a0 (Sum.inl o31)).2⟩] [] (ai (ref13_names_l1_ok none a0 0 ([] : List (List UInt8)) (Sum.inl o8) h15) (ai (ref13_names_l2_ok none a0 0 o8 (Sum.inl o14) h22) (ai (ref13_names_l3_ok none a0 o14 0 (Sum.inl o20) h29) (ai (ref13_names_l4_ok none a0 0 ([] : List (List UInt8)) (Sum.inl o31) h46) (ai (ref07_Name_ok a0.name r33 h47) (ti)))))) (by kernel_rfl)
     ·
      obtain rfl := si h
      exact runF_call mixed [] [⟨[0, 1, 0, 1, 1], [.live [1, 3, 4], .keep [1], .nil 3 3 9 1, .sort], .exit 0, (ref13_names_l1_O a0 (Sum.inl o8)).2⟩, ⟨[0, 1, 0, 1, 1, 1], [.live [1, 3, 5], .keep [1, 3]], .exit 2, (ref13_names_l2_O a0 (Sum.inl o14)).2⟩, ⟨[0, 1, 0, 1, 1, 1, 1], [.live [1, 3, 6], .keep [1, 3]], .exit 4, (ref13_names_l3_O a0 o14 (Sum.inl o20)).2⟩, ⟨[0, 1, 0, 1, 1, 1, 1, 1, 1], [.live [1, 7, 8], .keep [1], .nil 7 7 9 1, .sort], .ret, (ref13_names_l4_O a0 (Sum.inr o32)).2⟩] [] (ai (ref13_names_l1_ok none a0 0 ([] : List (List UInt8)) (Sum.inl o8) h15) (ai (ref13_names_l2_ok none a0 0 o8 (Sum.inl o14) h22) (ai (ref13_names_l3_ok none a0 o14 0 (Sum.inl o20) h29) (ai (ref13_names_l4_ok none a0 0 ([] : List (List UInt8)) (Sum.inr o32) h46) (ti))))) (by kernel_rfl)
    ·
     obtain rfl := si h
     exact runF_call mixed [] [⟨[0, 1, 0, 1, 1], [.live [1, 3, 4], .keep [1], .nil 3 3 9 1, .sort], .exit 0, (ref13_names_l1_O a0 (Sum.inl o8)).2⟩, ⟨[0, 1, 0, 1, 1, 1], [.live [1, 3, 5], .keep [1, 3]], .exit 2, (ref13_names_l2_O a0 (Sum.inl o14)).2⟩, ⟨[0, 1, 0, 1, 1, 1, 1], [.live [1, 3, 6], .keep [1, 3]], .ret, (ref13_names_l3_O a0 o14 (Sum.inr o21)).2⟩] [] (ai (ref13_names_l1_ok none a0 0 ([] : List (List UInt8)) (Sum.inl o8) h15) (ai (ref13_names_l2_ok none a0 0 o8 (Sum.inl o14) h22) (ai (ref13_names_l3_ok none a0 o14 0 (Sum.inr o21) h29) (ti)))) (by kernel_rfl)
   ·
    obtain rfl := si h
    exact runF_call mixed [] [⟨[0, 1, 0, 1, 1], [.live [1, 3, 4], .keep [1], .nil 3 3 9 1, .sort], .exit 0, (ref13_names_l1_O a0 (Sum.inl o8)).2⟩, ⟨[0, 1, 0, 1, 1, 1], [.live [1, 3, 5], .keep [1, 3]], .ret, (ref13_names_l2_O a0 (Sum.inr o15)).2⟩] [] (ai (ref13_names_l1_ok none a0 0 ([] : List (List UInt8)) (Sum.inl o8) h15) (ai (ref13_names_l2_ok none a0 0 o8 (Sum.inr o15) h22) (ti))) (by kernel_rfl)
  ·
   obtain rfl := si h
   exact runF_call mixed [] [⟨[0, 1, 0, 1, 1], [.live [1, 3, 4], .keep [1], .nil 3 3 9 1, .sort], .ret, (ref13_names_l1_O a0 (Sum.inr o9)).2⟩] [] (ai (ref13_names_l1_ok none a0 0 ([] : List (List UInt8)) (Sum.inr o9) h15) (ti)) (by kernel_rfl)
theorem ref03_truth_ok (a0 : Bool) (r : TValue × Int) (h : ref03_truth a0 = some r) : ACall Try.prog 86 [.d (D.b a0)] [] (.tup [.d (TValue.D r.1), .d ((D.i .i64) r.2)]) [] := by
  unfold ref03_truth at h
  obtain rfl := si h
  exact runF_call mixed [] [] [] (ti) (by kernel_rfl)
theorem ref01_Add_ok (a0 : Int) (a1 : Int) (r : Int × Bool) (h : ref01_Add a0 a1 = some r) : ACall Try.prog 89 [.d ((D.i .i64) a0), .d ((D.i .i64) a1)] [] (.tup [.d ((D.i .i64) r.1), .d (D.b r.2)]) [] := by
  unfold ref01_Add at h
  rcases iS h with ⟨h1, h⟩ | ⟨h1, h⟩
  ·
   rcases iS h with ⟨h2, h⟩ | ⟨h2, h⟩
   ·
    obtain rfl := si h
    exact runF_call mixed [(8, .bit true), (14, .bit true)] [] [] (ai h1 (ai h2 (ti))) (by kernel_rfl)
   ·
    rcases iS h with ⟨h3, h⟩ | ⟨h3, h⟩
    ·
     rcases iS h with ⟨h4, h⟩ | ⟨h4, h⟩
     ·
      obtain rfl := si h
      exact runF_call mixed [(8, .bit true), (14, .bit false), (17, .bit true), (23, .bit true)] [] [] (ai h1 (ai h2 (ai h3 (ai h4 (ti))))) (by kernel_rfl)
     ·
      obtain rfl := si h
      exact runF_call mixed [(8, .bit true), (14, .bit false), (17, .bit true), (23, .bit false)] [] [] (ai h1 (ai h2 (ai h3 (ai h4 (ti))))) (by kernel_rfl)
    ·
     obtain rfl := si h
     exact runF_call mixed [(8, .bit true), (14, .bit false), (17, .bit false)] [] [] (ai h1 (ai h2 (ai h3 (ti)))) (by kernel_rfl)
  ·
   rcases iS h with ⟨h5, h⟩ | ⟨h5, h⟩
   ·
    rcases iS h with ⟨h6, h⟩ | ⟨h6, h⟩
    ·
     obtain rfl := si h
     exact runF_call mixed [(8, .bit false), (17, .bit true), (23, .bit true)] [] [] (ai h1 (ai h5 (ai h6 (ti)))) (by kernel_rfl)
    ·
     obtain rfl := si h
     exact runF_call mixed [(8, .bit false), (17, .bit true), (23, .bit false)] [] [] (ai h1 (ai h5 (ai h6 (ti)))) (by kernel_rfl)
   ·
    obtain rfl := si h
    exact runF_call mixed [(8, .bit false), (17, .bit false)] [] [] (ai h1 (ai h5 (ti))) (by kernel_rfl)
theorem ref03_number_ok (a0 : Int) (a1 : Bool) (r : TValue × Int) (h : ref03_number a0 a1 = some r) : ACall Try.prog 90 [.d ((D.i .i64) a0), .d (D.b a1)] [] (.tup [.d (TValue.D r.1), .d ((D.i .i64) r.2)]) [] := by
  unfold ref03_number at h
  rcases iS h with ⟨h1, h⟩ | ⟨h1, h⟩
  ·
   obtain rfl := si h
   exact runF_call mixed [(7, .bit true)] [] [] (ai h1 (ti)) (by kernel_rfl)
  ·
   obtain rfl := si h
   exact runF_call mixed [(7, .bit false)] [] [] (ai h1 (ti)) (by kernel_rfl)
theorem ref01_Sub_ok (a0 : Int) (a1 : Int) (r : Int × Bool) (h : ref01_Sub a0 a1 = some r) : ACall Try.prog 91 [.d ((D.i .i64) a0), .d ((D.i .i64) a1)] [] (.tup [.d ((D.i .i64) r.1), .d (D.b r.2)]) [] := by
  unfold ref01_Sub at h
  rcases iS h with ⟨h1, h⟩ | ⟨h1, h⟩
  ·
   rcases iS h with ⟨h2, h⟩ | ⟨h2, h⟩
   ·
    obtain rfl := si h
    exact runF_call mixed [(8, .bit true), (14, .bit true)] [] [] (ai h1 (ai h2 (ti))) (by kernel_rfl)
   ·
    rcases iS h with ⟨h3, h⟩ | ⟨h3, h⟩
    ·
     rcases iS h with ⟨h4, h⟩ | ⟨h4, h⟩
     ·
      obtain rfl := si h
      exact runF_call mixed [(8, .bit true), (14, .bit false), (17, .bit true), (23, .bit true)] [] [] (ai h1 (ai h2 (ai h3 (ai h4 (ti))))) (by kernel_rfl)
     ·
      obtain rfl := si h
      exact runF_call mixed [(8, .bit true), (14, .bit false), (17, .bit true), (23, .bit false)] [] [] (ai h1 (ai h2 (ai h3 (ai h4 (ti))))) (by kernel_rfl)
    ·
     obtain rfl := si h
     exact runF_call mixed [(8, .bit true), (14, .bit false), (17, .bit false)] [] [] (ai h1 (ai h2 (ai h3 (ti)))) (by kernel_rfl)
  ·
   rcases iS h with ⟨h5, h⟩ | ⟨h5, h⟩
   ·
    rcases iS h with ⟨h6, h⟩ | ⟨h6, h⟩
    ·
     obtain rfl := si h
     exact runF_call mixed [(8, .bit false), (17, .bit true), (23, .bit true)] [] [] (ai h1 (ai h5 (ai h6 (ti)))) (by kernel_rfl)
    ·
     obtain rfl := si h
     exact runF_call mixed [(8, .bit false), (17, .bit true), (23, .bit false)] [] [] (ai h1 (ai h5 (ai h6 (ti)))) (by kernel_rfl)
   ·
    obtain rfl := si h
    exact runF_call mixed [(8, .bit false), (17, .bit false)] [] [] (ai h1 (ai h5 (ti))) (by kernel_rfl)
theorem ref01_Mul_ok (a0 : Int) (a1 : Int) (r : Int × Bool) (h : ref01_Mul a0 a1 = some r) : ACall Try.prog 92 [.d ((D.i .i64) a0), .d ((D.i .i64) a1)] [] (.tup [.d ((D.i .i64) r.1), .d (D.b r.2)]) [] := by
  unfold ref01_Mul at h
  rcases iS h with ⟨h1, h⟩ | ⟨h1, h⟩
  ·
   obtain rfl := si h
   exact runF_call mixed [(8, .bit true)] [] [] (ai h1 (ti)) (by kernel_rfl)
  ·
   rcases iS h with ⟨h2, h⟩ | ⟨h2, h⟩
   ·
    obtain rfl := si h
    exact runF_call mixed [(8, .bit false), (11, .bit true)] [] [] (ai h1 (ai h2 (ti))) (by kernel_rfl)
   ·
    rcases iS h with ⟨h3, h⟩ | ⟨h3, h⟩
    ·
     obtain ⟨r1, h4, h⟩ := bS h
     obtain rfl := si h
     exact runF_call mixed [(8, .bit false), (11, .bit false), (13, .bit true), (15, .ret (.tup [.d ((D.i .i64) r1.1), .d (D.b r1.2)]))] [] [] (ai h1 (ai h2 (ai h3 (ai (ref01_Sub_ok 0 a1 r1 h4) (ti))))) (by kernel_rfl)
    ·
     rcases iS h with ⟨h5, h⟩ | ⟨h5, h⟩
     ·
      obtain ⟨r2, h6, h⟩ := bS h
      obtain rfl := si h
      exact runF_call mixed [(8, .bit false), (11, .bit false), (13, .bit false), (19, .bit true), (21, .ret (.tup [.d ((D.i .i64) r2.1), .d (D.b r2.2)]))] [] [] (ai h1 (ai h2 (ai h3 (ai h5 (ai (ref01_Sub_ok 0 a0 r2 h6) (ti)))))) (by kernel_rfl)
     ·
      rcases iS h with ⟨h7, h⟩ | ⟨h7, h⟩
      ·
       rcases iS h with ⟨h8, h⟩ | ⟨h8, h⟩
       ·
        obtain ⟨h9, h⟩ := cS h
        rcases iS h with ⟨h10, h⟩ | ⟨h10, h⟩
        ·
         obtain rfl := si h
         exact runF_call mixed [(8, .bit false), (11, .bit false), (13, .bit false), (19, .bit false), (26, .bit true), (30, .bit true), (36, .bit true)] [] [] (ai h1 (ai h2 (ai h3 (ai h5 (ai h7 (ai h8 (ai h9 (ai h10 (ti))))))))) (by kernel_rfl)
        ·
         rcases iS h with ⟨h11, h⟩ | ⟨h11, h⟩
         ·
          obtain ⟨h12, h⟩ := cS h
          rcases iS h with ⟨h13, h⟩ | ⟨h13, h⟩
          ·
           obtain rfl := si h
           exact runF_call mixed [(8, .bit false), (11, .bit false), (13, .bit false), (19, .bit false), (26, .bit true), (30, .bit true), (36, .bit false), (39, .bit true), (43, .bit true), (50, .bit true)] [] [] (ai h1 (ai h2 (ai h3 (ai h5 (ai h7 (ai h8 (ai h9 (ai h10 (ai h7 (ai h11 (ai h12 (ai h13 (ti))))))))))))) (by kernel_rfl)
          ·
           rcases iS h with ⟨h14, h⟩ | ⟨h14, h⟩
           ·
            obtain ⟨h15, h⟩ := cS h
            rcases iS h with ⟨h16, h⟩ | ⟨h16, h⟩
            ·
             obtain rfl := si h
             exact runF_call mixed [(8, .bit false), (11, .bit false), (13, .bit false), (19, .bit false), (26, .bit true), (30, .bit true), (36, .bit false), (39, .bit true), (43, .bit true), (50, .bit false), (53, .bit true), (57, .bit true), (64, .bit true)] [] [] (ai h1 (ai h2 (ai h3 (ai h5 (ai h7 (ai h8 (ai h9 (ai h10 (ai h7 (ai h11 (ai h12 (ai h13 (ai h14 (ai h8 (ai h15 (ai h16 (ti))))))))))))))))) (by kernel_rfl)
            ·
             obtain ⟨h17, h⟩ := cS h
             rcases iS h with ⟨h18, h⟩ | ⟨h18, h⟩
             ·
              obtain rfl := si h
              exact runF_call mixed [(8, .bit false), (11, .bit false), (13, .bit false), (19, .bit false), (26, .bit true), (30, .bit true), (36, .bit false), (39, .bit true), (43, .bit true), (50, .bit false), (53, .bit true), (57, .bit true), (64, .bit false), (67, .bit true), (71, .bit true), (77, .bit true)] [] [] (ai h1 (ai h2 (ai h3 (ai h5 (ai h7 (ai h8 (ai h9 (ai h10 (ai h7 (ai h11 (ai h12 (ai h13 (ai h14 (ai h8 (ai h15 (ai h16 (ai h14 (ai h11 (ai h17 (ai h18 (ti))))))))))))))))))))) (by kernel_rfl)
             ·
              obtain rfl := si h
              exact runF_call mixed [(8, .bit false), (11, .bit false), (13, .bit false), (19, .bit false), (26, .bit true), (30, .bit true), (36, .bit false), (39, .bit true), (43, .bit true), (50, .bit false), (53, .bit true), (57, .bit true), (64, .bit false), (67, .bit true), (71, .bit true), (77, .bit false)] [] [] (ai h1 (ai h2 (ai h3 (ai h5 (ai h7 (ai h8 (ai h9 (ai h10 (ai h7 (ai h11 (ai h12 (ai h13 (ai h14 (ai h8 (ai h15 (ai h16 (ai h14 (ai h11 (ai h17 (ai h18 (ti))))))))))))))))))))) (by kernel_rfl)
           ·
            obtain rfl := si h
            exact runF_call mixed [(8, .bit false), (11, .bit false), (13, .bit false), (19, .bit false), (26, .bit true), (30, .bit true), (36, .bit false), (39, .bit true), (43, .bit true), (50, .bit false), (53, .bit false), (67, .bit false)] [] [] (ai h1 (ai h2 (ai h3 (ai h5 (ai h7 (ai h8 (ai h9 (ai h10 (ai h7 (ai h11 (ai h12 (ai h13 (ai h14 (ai h14 (ti))))))))))))))) (by kernel_rfl)
         ·
          rcases iS h with ⟨h19, h⟩ | ⟨h19, h⟩
          ·
           obtain ⟨h20, h⟩ := cS h
           rcases iS h with ⟨h21, h⟩ | ⟨h21, h⟩
           ·
            obtain rfl := si h
            exact runF_call mixed [(8, .bit false), (11, .bit false), (13, .bit false), (19, .bit false), (26, .bit true), (30, .bit true), (36, .bit false), (39, .bit true), (43, .bit false), (53, .bit true), (57, .bit true), (64, .bit true)] [] [] (ai h1 (ai h2 (ai h3 (ai h5 (ai h7 (ai h8 (ai h9 (ai h10 (ai h7 (ai h11 (ai h19 (ai h8 (ai h20 (ai h21 (ti))))))))))))))) (by kernel_rfl)
           ·
            obtain rfl := si h
            exact runF_call mixed [(8, .bit false), (11, .bit false), (13, .bit false), (19, .bit false), (26, .bit true), (30, .bit true), (36, .bit false), (39, .bit true), (43, .bit false), (53, .bit true), (57, .bit true), (64, .bit false), (67, .bit true), (71, .bit false)] [] [] (ai h1 (ai h2 (ai h3 (ai h5 (ai h7 (ai h8 (ai h9 (ai h10 (ai h7 (ai h11 (ai h19 (ai h8 (ai h20 (ai h21 (ai h19 (ai h11 (ti))))))))))))))))) (by kernel_rfl)
          ·
           obtain rfl := si h
           exact runF_call mixed [(8, .bit false), (11, .bit false), (13, .bit false), (19, .bit false), (26, .bit true), (30, .bit true), (36, .bit false), (39, .bit true), (43, .bit false), (53, .bit false), (67, .bit false)] [] [] (ai h1 (ai h2 (ai h3 (ai h5 (ai h7 (ai h8 (ai h9 (ai h10 (ai h7 (ai h11 (ai h19 (ai h19 (ti))))))))))))) (by kernel_rfl)
       ·
        rcases iS h with ⟨h22, h⟩ | ⟨h22, h⟩
        ·
         obtain ⟨h23, h⟩ := cS h
         rcases iS h with ⟨h24, h⟩ | ⟨h24, h⟩
         ·
          obtain rfl := si h
          exact runF_call mixed [(8, .bit false), (11, .bit false), (13, .bit false), (19, .bit false), (26, .bit true), (30, .bit false), (39, .bit true), (43, .bit true), (50, .bit true)] [] [] (ai h1 (ai h2 (ai h3 (ai h5 (ai h7 (ai h8 (ai h7 (ai h22 (ai h23 (ai h24 (ti))))))))))) (by kernel_rfl)
         ·
          rcases iS h with ⟨h25, h⟩ | ⟨h25, h⟩
          ·
           obtain ⟨h26, h⟩ := cS h
           rcases iS h with ⟨h27, h⟩ | ⟨h27, h⟩
           ·
            obtain rfl := si h
            exact runF_call mixed [(8, .bit false), (11, .bit false), (13, .bit false), (19, .bit false), (26, .bit true), (30, .bit false), (39, .bit true), (43, .bit true), (50, .bit false), (53, .bit true), (57, .bit false), (67, .bit true), (71, .bit true), (77, .bit true)] [] [] (ai h1 (ai h2 (ai h3 (ai h5 (ai h7 (ai h8 (ai h7 (ai h22 (ai h23 (ai h24 (ai h25 (ai h8 (ai h25 (ai h22 (ai h26 (ai h27 (ti))))))))))))))))) (by kernel_rfl)
           ·
            obtain rfl := si h
            exact runF_call mixed [(8, .bit false), (11, .bit false), (13, .bit false), (19, .bit false), (26, .bit true), (30, .bit false), (39, .bit true), (43, .bit true), (50, .bit false), (53, .bit true), (57, .bit false), (67, .bit true), (71, .bit true), (77, .bit false)] [] [] (ai h1 (ai h2 (ai h3 (ai h5 (ai h7 (ai h8 (ai h7 (ai h22 (ai h23 (ai h24 (ai h25 (ai h8 (ai h25 (ai h22 (ai h26 (ai h27 (ti))))))))))))))))) (by kernel_rfl)
          ·
           obtain rfl := si h
           exact runF_call mixed [(8, .bit false), (11, .bit false), (13, .bit false), (19, .bit false), (26, .bit true), (30, .bit false), (39, .bit true), (43, .bit true), (50, .bit false), (53, .bit false), (67, .bit false)] [] [] (ai h1 (ai h2 (ai h3 (ai h5 (ai h7 (ai h8 (ai h7 (ai h22 (ai h23 (ai h24 (ai h25 (ai h25 (ti))))))))))))) (by kernel_rfl)
        ·
         rcases iS h with ⟨h28, h⟩ | ⟨h28, h⟩
         ·
          obtain rfl := si h
          exact runF_call mixed [(8, .bit false), (11, .bit false), (13, .bit false), (19, .bit false), (26, .bit true), (30, .bit false), (39, .bit true), (43, .bit false), (53, .bit true), (57, .bit false), (67, .bit true), (71, .bit false)] [] [] (ai h1 (ai h2 (ai h3 (ai h5 (ai h7 (ai h8 (ai h7 (ai h22 (ai h28 (ai h8 (ai h28 (ai h22 (ti))))))))))))) (by kernel_rfl)
         ·
          obtain rfl := si h
          exact runF_call mixed [(8, .bit false), (11, .bit false), (13, .bit false), (19, .bit false), (26, .bit true), (30, .bit false), (39, .bit true), (43, .bit false), (53, .bit false), (67, .bit false)] [] [] (ai h1 (ai h2 (ai h3 (ai h5 (ai h7 (ai h8 (ai h7 (ai h22 (ai h28 (ai h28 (ti))))))))))) (by kernel_rfl)
      ·
       rcases iS h with ⟨h29, h⟩ | ⟨h29, h⟩
       ·
        rcases iS h with ⟨h30, h⟩ | ⟨h30, h⟩
        ·
         obtain ⟨h31, h⟩ := cS h
         rcases iS h with ⟨h32, h⟩ | ⟨h32, h⟩
         ·
          obtain rfl := si h
          exact runF_call mixed [(8, .bit false), (11, .bit false), (13, .bit false), (19, .bit false), (26, .bit false), (39, .bit false), (53, .bit true), (57, .bit true), (64, .bit true)] [] [] (ai h1 (ai h2 (ai h3 (ai h5 (ai h7 (ai h7 (ai h29 (ai h30 (ai h31 (ai h32 (ti))))))))))) (by kernel_rfl)
         ·
          rcases iS h with ⟨h33, h⟩ | ⟨h33, h⟩
          ·
           obtain ⟨h34, h⟩ := cS h
           rcases iS h with ⟨h35, h⟩ | ⟨h35, h⟩
           ·
            obtain rfl := si h
            exact runF_call mixed [(8, .bit false), (11, .bit false), (13, .bit false), (19, .bit false), (26, .bit false), (39, .bit false), (53, .bit true), (57, .bit true), (64, .bit false), (67, .bit true), (71, .bit true), (77, .bit true)] [] [] (ai h1 (ai h2 (ai h3 (ai h5 (ai h7 (ai h7 (ai h29 (ai h30 (ai h31 (ai h32 (ai h29 (ai h33 (ai h34 (ai h35 (ti))))))))))))))) (by kernel_rfl)
           ·
            obtain rfl := si h
            exact runF_call mixed [(8, .bit false), (11, .bit false), (13, .bit false), (19, .bit false), (26, .bit false), (39, .bit false), (53, .bit true), (57, .bit true), (64, .bit false), (67, .bit true), (71, .bit true), (77, .bit false)] [] [] (ai h1 (ai h2 (ai h3 (ai h5 (ai h7 (ai h7 (ai h29 (ai h30 (ai h31 (ai h32 (ai h29 (ai h33 (ai h34 (ai h35 (ti))))))))))))))) (by kernel_rfl)
          ·
           obtain rfl := si h
           exact runF_call mixed [(8, .bit false), (11, .bit false), (13, .bit false), (19, .bit false), (26, .bit false), (39, .bit false), (53, .bit true), (57, .bit true), (64, .bit false), (67, .bit true), (71, .bit false)] [] [] (ai h1 (ai h2 (ai h3 (ai h5 (ai h7 (ai h7 (ai h29 (ai h30 (ai h31 (ai h32 (ai h29 (ai h33 (ti))))))))))))) (by kernel_rfl)
        ·
         rcases iS h with ⟨h36, h⟩ | ⟨h36, h⟩
         ·
          obtain ⟨h37, h⟩ := cS h
          rcases iS h with ⟨h38, h⟩ | ⟨h38, h⟩
          ·
           obtain rfl := si h
           exact runF_call mixed [(8, .bit false), (11, .bit false), (13, .bit false), (19, .bit false), (26, .bit false), (39, .bit false), (53, .bit true), (57, .bit false), (67, .bit true), (71, .bit true), (77, .bit true)] [] [] (ai h1 (ai h2 (ai h3 (ai h5 (ai h7 (ai h7 (ai h29 (ai h30 (ai h29 (ai h36 (ai h37 (ai h38 (ti))))))))))))) (by kernel_rfl)
          ·
           obtain rfl := si h
           exact runF_call mixed [(8, .bit false), (11, .bit false), (13, .bit false), (19, .bit false), (26, .bit false), (39, .bit false), (53, .bit true), (57, .bit false), (67, .bit true), (71, .bit true), (77, .bit false)] [] [] (ai h1 (ai h2 (ai h3 (ai h5 (ai h7 (ai h7 (ai h29 (ai h30 (ai h29 (ai h36 (ai h37 (ai h38 (ti))))))))))))) (by kernel_rfl)
         ·
          obtain rfl := si h
          exact runF_call mixed [(8, .bit false), (11, .bit false), (13, .bit false), (19, .bit false), (26, .bit false), (39, .bit false), (53, .bit true), (57, .bit false), (67, .bit true), (71, .bit false)] [] [] (ai h1 (ai h2 (ai h3 (ai h5 (ai h7 (ai h7 (ai h29 (ai h30 (ai h29 (ai h36 (ti))))))))))) (by kernel_rfl)
       ·
        obtain rfl := si h
        exact runF_call mixed [(8, .bit false), (11, .bit false), (13, .bit false), (19, .bit false), (26, .bit false), (39, .bit false), (53, .bit false), (67, .bit false)] [] [] (ai h1 (ai h2 (ai h3 (ai h5 (ai h7 (ai h7 (ai h29 (ai h29 (ti))))))))) (by kernel_rfl)
theorem ref01_Div_ok (a0 : Int) (a1 : Int) (r : Int × Int × Int) (h : ref01_Div a0 a1 = some r) : ACall Try.prog 93 [.d ((D.i .i64) a0), .d ((D.i .i64) a1)] [] (.tup [.d ((D.i .i64) r.1), .d ((D.i .i64) r.2.1), .d ((D.i .i64) r.2.2)]) [] := by
  unfold ref01_Div at h
  rcases iS h with ⟨h1, h⟩ | ⟨h1, h⟩
  ·
   obtain rfl := si h
   exact runF_call mixed [(10, .bit true)] [] [] (ai h1 (ti)) (by kernel_rfl)
  ·
   rcases iS h with ⟨h2, h⟩ | ⟨h2, h⟩
   ·
    obtain ⟨r1, h3, h⟩ := bS h
    rcases iS h with ⟨h4, h⟩ | ⟨h4, h⟩
    ·
     obtain rfl := si h
     exact runF_call mixed [(10, .bit false), (12, .bit true), (15, .ret (.tup [.d ((D.i .i64) r1.1), .d (D.b r1.2)])), (19, .bit true)] [] [] (ai h1 (ai h2 (ai (ref01_Sub_ok 0 a0 r1 h3) (ai h4 (ti))))) (by kernel_rfl)
    ·
     obtain rfl := si h
     exact runF_call mixed [(10, .bit false), (12, .bit true), (15, .ret (.tup [.d ((D.i .i64) r1.1), .d (D.b r1.2)])), (19, .bit false)] [] [] (ai h1 (ai h2 (ai (ref01_Sub_ok 0 a0 r1 h3) (ai h4 (ti))))) (by kernel_rfl)
   ·
    obtain ⟨h5, h⟩ := cS h
    obtain ⟨h6, h⟩ := cS h
    obtain rfl := si h
    exact runF_call mixed [(10, .bit false), (12, .bit false)] [] [] (ai h1 (ai h2 (ai h5 (ai h6 (ti))))) (by kernel_rfl)
theorem ref03_arith_ok (a0 : Int) (a1 : Int) (a2 : Int) (r : TValue × Int) (h : ref03_arith a0 a1 a2 = some r) : ACall Try.prog 87 [.d ((D.i .i64) a0), .d ((D.i .i64) a1), .d ((D.i .i64) a2)] [] (.tup [.d (TValue.D r.1), .d ((D.i .i64) r.2)]) [] := by
  unfold ref03_arith at h
  rcases iS h with ⟨h1, h⟩ | ⟨h1, h⟩
  ·
   obtain ⟨r1, h2, h⟩ := bS h
   obtain ⟨r2, h3, h⟩ := bS h
   obtain rfl := si h
   exact runF_call mixed [(18, .bit true), (22, .ret (.tup [.d ((D.i .i64) r1.1), .d (D.b r1.2)])), (27, .ret (.tup [.d (TValue.D r2.1), .d ((D.i .i64) r2.2)]))] [] [] (ai h1 (ai (ref01_Add_ok a1 a2 r1 h2) (ai (ref03_number_ok r1.1 r1.2 r2 h3) (ti)))) (by kernel_rfl)
  ·
   rcases iS h with ⟨h4, h⟩ | ⟨h4, h⟩
   ·
    obtain ⟨r3, h5, h⟩ := bS h
    obtain ⟨r4, h6, h⟩ := bS h
    obtain rfl := si h
    exact runF_call mixed [(18, .bit false), (31, .bit true), (35, .ret (.tup [.d ((D.i .i64) r3.1), .d (D.b r3.2)])), (40, .ret (.tup [.d (TValue.D r4.1), .d ((D.i .i64) r4.2)]))] [] [] (ai h1 (ai h4 (ai (ref01_Sub_ok a1 a2 r3 h5) (ai (ref03_number_ok r3.1 r3.2 r4 h6) (ti))))) (by kernel_rfl)
   ·
    rcases iS h with ⟨h7, h⟩ | ⟨h7, h⟩
    ·
     obtain ⟨r5, h8, h⟩ := bS h
     obtain ⟨r6, h9, h⟩ := bS h
     obtain rfl := si h
     exact runF_call mixed [(18, .bit false), (31, .bit false), (44, .bit true), (48, .ret (.tup [.d ((D.i .i64) r5.1), .d (D.b r5.2)])), (53, .ret (.tup [.d (TValue.D r6.1), .d ((D.i .i64) r6.2)]))] [] [] (ai h1 (ai h4 (ai h7 (ai (ref01_Mul_ok a1 a2 r5 h8) (ai (ref03_number_ok r5.1 r5.2 r6 h9) (ti)))))) (by kernel_rfl)
    ·
     obtain ⟨r7, h10, h⟩ := bS h
     rcases iS h with ⟨h11, h⟩ | ⟨h11, h⟩
     ·
      obtain rfl := si h
      exact runF_call mixed [(18, .bit false), (31, .bit false), (44, .bit false), (59, .ret (.tup [.d ((D.i .i64) r7.1), .d ((D.i .i64) r7.2.1), .d ((D.i .i64) r7.2.2)])), (64, .bit true)] [] [] (ai h1 (ai h4 (ai h7 (ai (ref01_Div_ok a1 a2 r7 h10) (ai h11 (ti)))))) (by kernel_rfl)
     ·
      rcases iS h with ⟨h12, h⟩ | ⟨h12, h⟩
      ·
       obtain rfl := si h
       exact runF_call mixed [(18, .bit false), (31, .bit false), (44, .bit false), (59, .ret (.tup [.d ((D.i .i64) r7.1), .d ((D.i .i64) r7.2.1), .d ((D.i .i64) r7.2.2)])), (64, .bit false), (67, .bit true)] [] [] (ai h1 (ai h4 (ai h7 (ai (ref01_Div_ok a1 a2 r7 h10) (ai h11 (ai h12 (ti))))))) (by kernel_rfl)
      ·
       obtain ⟨r8, h13, h⟩ := bS h
       obtain rfl := si h
       exact runF_call mixed [(18, .bit false), (31, .bit false), (44, .bit false), (59, .ret (.tup [.d ((D.i .i64) r7.1), .d ((D.i .i64) r7.2.1), .d ((D.i .i64) r7.2.2)])), (64, .bit false), (67, .bit false), (73, .ret (.tup [.d (TValue.D r8.1), .d ((D.i .i64) r8.2)]))] [] [] (ai h1 (ai h4 (ai h7 (ai (ref01_Div_ok a1 a2 r7 h10) (ai h11 (ai h12 (ai (ref03_number_ok r7.1 (decide (r7.2.2 = 0)) r8 h13) (ti)))))))) (by kernel_rfl)
def ref03_Below_l1_I (s0 : List UInt8) (s1 : List UInt8) (s5 : Int) : St := ⟨sp 37 0 [(0, .d (D.s s0)), (1, .d (D.s s1)), (5, .d ((D.i .i64) s5))], [], []⟩
def ref03_Below_l1_O (s0 : List UInt8) (s1 : List UInt8) (o : Unit ⊕ Bool) : Ex × St := match o with
  | .inl o => (.exit 0, ⟨sp 37 0 [(0, .d (D.s s0)), (1, .d (D.s s1))], [], []⟩)
  | .inr o => (.ret, ⟨sp 37 0 [(4, .d (D.b o))], [], []⟩)
theorem ref03_Below_l1_rnd (rd : Option Nat) (s0 : List UInt8) (s1 : List UInt8) (s5 : Int) (o : (Int) ⊕ (Unit ⊕ Bool)) (h : ref03_Below_l1_s s0 s1 s5 = some o) : Arr Try.prog rd (fbody Try.prog 42) (0 :: [0, 1, 0, 1]) (ref03_Below_l1_I s0 s1 s5) (rR (fun s : Int => ref03_Below_l1_I s0 s1 s) (ref03_Below_l1_O s0 s1) o).1 (rR (fun s : Int => ref03_Below_l1_I s0 s1 s) (ref03_Below_l1_O s0 s1) o).2 := by
  unfold ref03_Below_l1_s at h
  rcases iS h with ⟨h1, h⟩ | ⟨h1, h⟩
  ·
   rcases iS h with ⟨h2, h⟩ | ⟨h2, h⟩
   ·
    obtain ⟨x1, h3, h⟩ := xS h
    obtain ⟨x2, h4, h⟩ := xS h
    rcases iS h with ⟨h5, h⟩ | ⟨h5, h⟩
    ·
     obtain ⟨x3, h6, h⟩ := xS h
     obtain ⟨x4, h7, h⟩ := xS h
     obtain rfl := si h
     exact runB_arr mixed [(8, .int (s0.length : Int)), (10, .bit true), (13, .int (s1.length : Int)), (15, .bit true), (20, .int x1.toNat), (23, .int x2.toNat), (24, .bit true), (27, .int x3.toNat), (30, .int x4.toNat)] [] [.live [4], .keep []] (ai (len_str s0) (ai h1 (ai (len_str s1) (ai h2 (ai (byte_ok h3) (ai (byte_ok h4) (ai h5 (ai (byte_ok h6) (ai (byte_ok h7) (ti)))))))))) (by kernel_rfl)
    ·
     obtain rfl := si h
     exact runB_arr mixed [(8, .int (s0.length : Int)), (10, .bit true), (13, .int (s1.length : Int)), (15, .bit true), (20, .int x1.toNat), (23, .int x2.toNat), (24, .bit false)] [] [.live [0, 1, 5], .keep []] (ai (len_str s0) (ai h1 (ai (len_str s1) (ai h2 (ai (byte_ok h3) (ai (byte_ok h4) (ai h5 (ti)))))))) (by kernel_rfl)
   ·
    obtain rfl := si h
    exact runB_arr mixed [(8, .int (s0.length : Int)), (10, .bit true), (13, .int (s1.length : Int)), (15, .bit false)] [] [.live [0, 1], .keep []] (ai (len_str s0) (ai h1 (ai (len_str s1) (ai h2 (ti))))) (by kernel_rfl)
  ·
   obtain rfl := si h
   exact runB_arr mixed [(8, .int (s0.length : Int)), (10, .bit false)] [] [.live [0, 1], .keep []] (ai (len_str s0) (ai h1 (ti))) (by kernel_rfl)
theorem ref03_Below_l1_ok (rd : Option Nat) (s0 : List UInt8) (s1 : List UInt8) (s5 : Int) (t : Unit ⊕ Bool) (h : ref03_Below_l1 s0 s1 s5 = some t) : LpOf Try.prog rd (fbody Try.prog 42) [0, 1, 0, 1] (ref03_Below_l1_I s0 s1 s5) ((ref03_Below_l1_O s0 s1) t).1 ((ref03_Below_l1_O s0 s1) t).2 :=
  loopE_lpR (fun s : Int => ref03_Below_l1_I s0 s1 s) (ref03_Below_l1_O s0 s1) (by kernel_rfl) (fun t => isN_ne (by rcases t with (_ | _) <;> rfl)) (fun s o h => ref03_Below_l1_rnd rd s0 s1 s o h) (s := s5) (t := t) h
theorem ref03_Below_ok (a0 : List UInt8) (a1 : List UInt8) (r : Bool) (h : ref03_Below a0 a1 = some r) : ACall Try.prog 42 [.d (D.s a0), .d (D.s a1)] [] (.d (D.b r)) [] := by
  unfold ref03_Below at h
  obtain ⟨o5, h8, h⟩ := bS h
  replace h := sumE_some h
  rcases h with ⟨o6, rfl, h⟩ | ⟨o7, rfl, h⟩
  ·
   obtain rfl := si h
   exact runF_call mixed [(33, .int (a0.length : Int)), (35, .int (a1.length : Int))] [⟨[0, 1, 0, 1], [.live [0, 1, 5], .keep []], .exit 0, (ref03_Below_l1_O a0 a1 (Sum.inl o6)).2⟩] [] (ai (ref03_Below_l1_ok none a0 a1 0 (Sum.inl o6) h8) (ai (len_str a0) (ai (len_str a1) (ti)))) (by kernel_rfl)
  ·
   obtain rfl := si h
   exact runF_call mixed [] [⟨[0, 1, 0, 1], [.live [0, 1, 5], .keep []], .ret, (ref03_Below_l1_O a0 a1 (Sum.inr o7)).2⟩] [] (ai (ref03_Below_l1_ok none a0 a1 0 (Sum.inr o7) h8) (ti)) (by kernel_rfl)
theorem ref03_Less_ok (a0 : TValue) (a1 : TValue) (r : Bool) (h : ref03_Less a0 a1 = some r) : ACall Try.prog 22 [.d (TValue.D a0), .d (TValue.D a1)] [] (.d (D.b r)) [] := by
  unfold ref03_Less at h
  rcases iS h with ⟨h1, h⟩ | ⟨h1, h⟩
  ·
   obtain rfl := si h
   exact runF_call mixed [(9, .bit true)] [] [] (ai h1 (ti)) (by kernel_rfl)
  ·
   rcases iS h with ⟨h2, h⟩ | ⟨h2, h⟩
   ·
    obtain rfl := si h
    exact runF_call mixed [(9, .bit false), (17, .bit true)] [] [] (ai h1 (ai h2 (ti))) (by kernel_rfl)
   ·
    rcases iS h with ⟨h3, h⟩ | ⟨h3, h⟩
    ·
     obtain ⟨r1, h4, h⟩ := bS h
     obtain rfl := si h
     exact runF_call mixed [(9, .bit false), (17, .bit false), (25, .bit true), (30, .ret (.d (D.b r1)))] [] [] (ai h1 (ai h2 (ai h3 (ai (ref03_Below_ok a0.str a1.str r1 h4) (ti))))) (by kernel_rfl)
    ·
     rcases iS h with ⟨h5, h⟩ | ⟨h5, h⟩
     ·
      obtain rfl := si h
      exact runF_call mixed [(9, .bit false), (17, .bit false), (25, .bit false), (34, .bit true)] [] [] (ai h1 (ai h2 (ai h3 (ai h5 (ti))))) (by kernel_rfl)
     ·
      obtain rfl := si h
      exact runF_call mixed [(9, .bit false), (17, .bit false), (25, .bit false), (34, .bit false)] [] [] (ai h1 (ai h2 (ai h3 (ai h5 (ti))))) (by kernel_rfl)
theorem ref03_Op_ok (a0 : Int) (a1 : TValue) (a2 : TValue) (r : TValue × Int) (h : ref03_Op a0 a1 a2 = some r) : ACall Try.prog 76 [.d ((D.i .i64) a0), .d (TValue.D a1), .d (TValue.D a2)] [] (.tup [.d (TValue.D r.1), .d ((D.i .i64) r.2)]) [] := by
  unfold ref03_Op at h
  rcases iS h with ⟨h1, h⟩ | ⟨h1, h⟩
  ·
   obtain rfl := si h
   exact runF_call mixed [(10, .bit true)] [] [] (ai h1 (ti)) (by kernel_rfl)
  ·
   rcases iS h with ⟨h2, h⟩ | ⟨h2, h⟩
   ·
    obtain rfl := si h
    exact runF_call mixed [(10, .bit false), (13, .bit true)] [] [] (ai h1 (ai h2 (ti))) (by kernel_rfl)
   ·
    rcases iS h with ⟨h3, h⟩ | ⟨h3, h⟩
    ·
     rcases iS h with ⟨h4, h⟩ | ⟨h4, h⟩
     ·
      obtain rfl := si h
      exact runF_call mixed [(10, .bit false), (13, .bit false), (16, .bit true), (19, .bit true)] [] [] (ai h1 (ai h2 (ai h3 (ai h4 (ti))))) (by kernel_rfl)
     ·
      obtain ⟨r1, h5, h⟩ := bS h
      obtain rfl := si h
      exact runF_call mixed [(10, .bit false), (13, .bit false), (16, .bit true), (19, .bit false), (24, .ret (.tup [.d (TValue.D r1.1), .d ((D.i .i64) r1.2)]))] [] [] (ai h1 (ai h2 (ai h3 (ai h4 (ai (ref03_truth_ok (!a1.bool) r1 h5) (ti)))))) (by kernel_rfl)
    ·
     rcases iS h with ⟨h6, h⟩ | ⟨h6, h⟩
     ·
      rcases iS h with ⟨h7, h⟩ | ⟨h7, h⟩
      ·
       obtain rfl := si h
       exact runF_call mixed [(10, .bit false), (13, .bit false), (16, .bit false), (28, .bit true), (31, .bit true)] [] [] (ai h1 (ai h2 (ai h3 (ai h6 (ai h7 (ti)))))) (by kernel_rfl)
      ·
       obtain ⟨r2, h8, h⟩ := bS h
       obtain rfl := si h
       exact runF_call mixed [(10, .bit false), (13, .bit false), (16, .bit false), (28, .bit true), (31, .bit false), (35, .ret (.tup [.d (TValue.D r2.1), .d ((D.i .i64) r2.2)]))] [] [] (ai h1 (ai h2 (ai h3 (ai h6 (ai h7 (ai (ref03_arith_ok 9 0 a1.int r2 h8) (ti))))))) (by kernel_rfl)
     ·
      rcases iS h with ⟨h9, h⟩ | ⟨h9, h⟩
      ·
       obtain rfl := si h
       exact runF_call mixed [(10, .bit false), (13, .bit false), (16, .bit false), (28, .bit false), (42, .bit true)] [] [] (ai h1 (ai h2 (ai h3 (ai h6 (ai h9 (ti)))))) (by kernel_rfl)
      ·
       rcases iS h with ⟨h10, h⟩ | ⟨h10, h⟩
       ·
        obtain ⟨r3, h11, h⟩ := bS h
        obtain rfl := si h
        exact runF_call mixed [(10, .bit false), (13, .bit false), (16, .bit false), (28, .bit false), (42, .bit false), (45, .bit true), (49, .ret (.tup [.d (TValue.D r3.1), .d ((D.i .i64) r3.2)]))] [] [] (ai h1 (ai h2 (ai h3 (ai h6 (ai h9 (ai h10 (ai (ref03_truth_ok (TValue.eqb a1 a2) r3 h11) (ti)))))))) (by kernel_rfl)
       ·
        rcases iS h with ⟨h12, h⟩ | ⟨h12, h⟩
        ·
         obtain ⟨r4, h13, h⟩ := bS h
         obtain rfl := si h
         exact runF_call mixed [(10, .bit false), (13, .bit false), (16, .bit false), (28, .bit false), (42, .bit false), (45, .bit false), (53, .bit true), (57, .ret (.tup [.d (TValue.D r4.1), .d ((D.i .i64) r4.2)]))] [] [] (ai h1 (ai h2 (ai h3 (ai h6 (ai h9 (ai h10 (ai h12 (ai (ref03_truth_ok (!(TValue.eqb a1 a2)) r4 h13) (ti))))))))) (by kernel_rfl)
        ·
         rcases iS h with ⟨h14, h⟩ | ⟨h14, h⟩
         ·
          rcases iS h with ⟨h15, h⟩ | ⟨h15, h⟩
          ·
           rcases iS h with ⟨h16, h⟩ | ⟨h16, h⟩
           ·
            obtain ⟨r5, h17, h⟩ := bS h
            obtain rfl := si h
            exact runF_call mixed [(10, .bit false), (13, .bit false), (16, .bit false), (28, .bit false), (42, .bit false), (45, .bit false), (53, .bit false), (62, .bit true), (64, .bit true), (67, .bit true), (71, .ret (.tup [.d (TValue.D r5.1), .d ((D.i .i64) r5.2)]))] [] [] (ai h1 (ai h2 (ai h3 (ai h6 (ai h9 (ai h10 (ai h12 (ai h14 (ai h15 (ai h16 (ai (ref03_truth_ok a2.bool r5 h17) (ti)))))))))))) (by kernel_rfl)
           ·
            obtain ⟨r6, h18, h⟩ := bS h
            obtain rfl := si h
            exact runF_call mixed [(10, .bit false), (13, .bit false), (16, .bit false), (28, .bit false), (42, .bit false), (45, .bit false), (53, .bit false), (62, .bit true), (64, .bit true), (67, .bit false), (71, .ret (.tup [.d (TValue.D r6.1), .d ((D.i .i64) r6.2)]))] [] [] (ai h1 (ai h2 (ai h3 (ai h6 (ai h9 (ai h10 (ai h12 (ai h14 (ai h15 (ai h16 (ai (ref03_truth_ok false r6 h18) (ti)))))))))))) (by kernel_rfl)
          ·
           rcases iS h with ⟨h19, h⟩ | ⟨h19, h⟩
           ·
            rcases iS h with ⟨h20, h⟩ | ⟨h20, h⟩
            ·
             obtain ⟨r7, h21, h⟩ := bS h
             obtain rfl := si h
             exact runF_call mixed [(10, .bit false), (13, .bit false), (16, .bit false), (28, .bit false), (42, .bit false), (45, .bit false), (53, .bit false), (62, .bit true), (64, .bit false), (75, .bit true), (78, .bit true), (82, .ret (.tup [.d (TValue.D r7.1), .d ((D.i .i64) r7.2)]))] [] [] (ai h1 (ai h2 (ai h3 (ai h6 (ai h9 (ai h10 (ai h12 (ai h14 (ai h15 (ai h19 (ai h20 (ai (ref03_truth_ok true r7 h21) (ti))))))))))))) (by kernel_rfl)
            ·
             obtain ⟨r8, h22, h⟩ := bS h
             obtain rfl := si h
             exact runF_call mixed [(10, .bit false), (13, .bit false), (16, .bit false), (28, .bit false), (42, .bit false), (45, .bit false), (53, .bit false), (62, .bit true), (64, .bit false), (75, .bit true), (78, .bit false), (82, .ret (.tup [.d (TValue.D r8.1), .d ((D.i .i64) r8.2)]))] [] [] (ai h1 (ai h2 (ai h3 (ai h6 (ai h9 (ai h10 (ai h12 (ai h14 (ai h15 (ai h19 (ai h20 (ai (ref03_truth_ok a2.bool r8 h22) (ti))))))))))))) (by kernel_rfl)
           ·
            obtain rfl := si h
            exact runF_call mixed [(10, .bit false), (13, .bit false), (16, .bit false), (28, .bit false), (42, .bit false), (45, .bit false), (53, .bit false), (62, .bit true), (64, .bit false), (75, .bit false)] [] [] (ai h1 (ai h2 (ai h3 (ai h6 (ai h9 (ai h10 (ai h12 (ai h14 (ai h15 (ai h19 (ti))))))))))) (by kernel_rfl)
         ·
          rcases iS h with ⟨h23, h⟩ | ⟨h23, h⟩
          ·
           obtain ⟨r9, h24, h⟩ := bS h
           obtain ⟨r10, h25, h⟩ := bS h
           obtain rfl := si h
           exact runF_call mixed [(10, .bit false), (13, .bit false), (16, .bit false), (28, .bit false), (42, .bit false), (45, .bit false), (53, .bit false), (62, .bit false), (87, .bit true), (90, .ret (.d (D.b r9))), (91, .ret (.tup [.d (TValue.D r10.1), .d ((D.i .i64) r10.2)]))] [] [] (ai h1 (ai h2 (ai h3 (ai h6 (ai h9 (ai h10 (ai h12 (ai h14 (ai h23 (ai (ref03_Less_ok a1 a2 r9 h24) (ai (ref03_truth_ok r9 r10 h25) (ti)))))))))))) (by kernel_rfl)
          ·
           rcases iS h with ⟨h26, h⟩ | ⟨h26, h⟩
           ·
            obtain ⟨r11, h27, h⟩ := bS h
            obtain ⟨r12, h28, h⟩ := bS h
            obtain rfl := si h
            exact runF_call mixed [(10, .bit false), (13, .bit false), (16, .bit false), (28, .bit false), (42, .bit false), (45, .bit false), (53, .bit false), (62, .bit false), (87, .bit false), (95, .bit true), (98, .ret (.d (D.b r11))), (100, .ret (.tup [.d (TValue.D r12.1), .d ((D.i .i64) r12.2)]))] [] [] (ai h1 (ai h2 (ai h3 (ai h6 (ai h9 (ai h10 (ai h12 (ai h14 (ai h23 (ai h26 (ai (ref03_Less_ok a2 a1 r11 h27) (ai (ref03_truth_ok (!r11) r12 h28) (ti))))))))))))) (by kernel_rfl)
           ·
            rcases iS h with ⟨h29, h⟩ | ⟨h29, h⟩
            ·
             rcases iS h with ⟨h30, h⟩ | ⟨h30, h⟩
             ·
              rcases iS h with ⟨h31, h⟩ | ⟨h31, h⟩
              ·
               obtain ⟨r13, h32, h⟩ := bS h
               obtain rfl := si h
               exact runF_call mixed [(10, .bit false), (13, .bit false), (16, .bit false), (28, .bit false), (42, .bit false), (45, .bit false), (53, .bit false), (62, .bit false), (87, .bit false), (95, .bit false), (106, .bit true), (110, .bit true), (113, .bit true), (119, .ret (.tup [.d (TValue.D r13.1), .d ((D.i .i64) r13.2)]))] [] [] (ai h1 (ai h2 (ai h3 (ai h6 (ai h9 (ai h10 (ai h12 (ai h14 (ai h23 (ai h26 (ai h29 (ai h30 (ai h31 (ai (ref03_arith_ok a0 a1.int a2.int r13 h32) (ti))))))))))))))) (by kernel_rfl)
              ·
               rcases iS h with ⟨h33, h⟩ | ⟨h33, h⟩
               ·
                rcases iS h with ⟨h34, h⟩ | ⟨h34, h⟩
                ·
                 rcases iS h with ⟨h35, h⟩ | ⟨h35, h⟩
                 ·
                  obtain rfl := si h
                  exact runF_call mixed [(10, .bit false), (13, .bit false), (16, .bit false), (28, .bit false), (42, .bit false), (45, .bit false), (53, .bit false), (62, .bit false), (87, .bit false), (95, .bit false), (106, .bit true), (110, .bit true), (113, .bit false), (125, .bit true), (128, .bit true), (131, .int (a1.str.length : Int)), (134, .int (a2.str.length : Int)), (136, .bit true)] [] [] (ai h1 (ai h2 (ai h3 (ai h6 (ai h9 (ai h10 (ai h12 (ai h14 (ai h23 (ai h26 (ai h29 (ai h30 (ai h31 (ai h33 (ai h34 (ai (len_str a1.str) (ai (len_str a2.str) (ai h35 (ti))))))))))))))))))) (by kernel_rfl)
                 ·
                  obtain ⟨h36, h⟩ := cS h
                  obtain rfl := si h
                  exact runF_call mixed [(10, .bit false), (13, .bit false), (16, .bit false), (28, .bit false), (42, .bit false), (45, .bit false), (53, .bit false), (62, .bit false), (87, .bit false), (95, .bit false), (106, .bit true), (110, .bit true), (113, .bit false), (125, .bit true), (128, .bit true), (131, .int (a1.str.length : Int)), (134, .int (a2.str.length : Int)), (136, .bit false), (142, .str (a1.str ++ a2.str))] [] [] (ai h1 (ai h2 (ai h3 (ai h6 (ai h9 (ai h10 (ai h12 (ai h14 (ai h23 (ai h26 (ai h29 (ai h30 (ai h31 (ai h33 (ai h34 (ai (len_str a1.str) (ai (len_str a2.str) (ai h35 (ai (sapp_ok h36) (ti)))))))))))))))))))) (by kernel_rfl)
                ·
                 obtain rfl := si h
                 exact runF_call mixed [(10, .bit false), (13, .bit false), (16, .bit false), (28, .bit false), (42, .bit false), (45, .bit false), (53, .bit false), (62, .bit false), (87, .bit false), (95, .bit false), (106, .bit true), (110, .bit true), (113, .bit false), (125, .bit true), (128, .bit false)] [] [] (ai h1 (ai h2 (ai h3 (ai h6 (ai h9 (ai h10 (ai h12 (ai h14 (ai h23 (ai h26 (ai h29 (ai h30 (ai h31 (ai h33 (ai h34 (ti)))))))))))))))) (by kernel_rfl)
               ·
                obtain rfl := si h
                exact runF_call mixed [(10, .bit false), (13, .bit false), (16, .bit false), (28, .bit false), (42, .bit false), (45, .bit false), (53, .bit false), (62, .bit false), (87, .bit false), (95, .bit false), (106, .bit true), (110, .bit true), (113, .bit false), (125, .bit false)] [] [] (ai h1 (ai h2 (ai h3 (ai h6 (ai h9 (ai h10 (ai h12 (ai h14 (ai h23 (ai h26 (ai h29 (ai h30 (ai h31 (ai h33 (ti))))))))))))))) (by kernel_rfl)
             ·
              rcases iS h with ⟨h37, h⟩ | ⟨h37, h⟩
              ·
               rcases iS h with ⟨h38, h⟩ | ⟨h38, h⟩
               ·
                rcases iS h with ⟨h39, h⟩ | ⟨h39, h⟩
                ·
                 obtain rfl := si h
                 exact runF_call mixed [(10, .bit false), (13, .bit false), (16, .bit false), (28, .bit false), (42, .bit false), (45, .bit false), (53, .bit false), (62, .bit false), (87, .bit false), (95, .bit false), (106, .bit true), (110, .bit false), (125, .bit true), (128, .bit true), (131, .int (a1.str.length : Int)), (134, .int (a2.str.length : Int)), (136, .bit true)] [] [] (ai h1 (ai h2 (ai h3 (ai h6 (ai h9 (ai h10 (ai h12 (ai h14 (ai h23 (ai h26 (ai h29 (ai h30 (ai h37 (ai h38 (ai (len_str a1.str) (ai (len_str a2.str) (ai h39 (ti)))))))))))))))))) (by kernel_rfl)
                ·
                 obtain ⟨h40, h⟩ := cS h
                 obtain rfl := si h
                 exact runF_call mixed [(10, .bit false), (13, .bit false), (16, .bit false), (28, .bit false), (42, .bit false), (45, .bit false), (53, .bit false), (62, .bit false), (87, .bit false), (95, .bit false), (106, .bit true), (110, .bit false), (125, .bit true), (128, .bit true), (131, .int (a1.str.length : Int)), (134, .int (a2.str.length : Int)), (136, .bit false), (142, .str (a1.str ++ a2.str))] [] [] (ai h1 (ai h2 (ai h3 (ai h6 (ai h9 (ai h10 (ai h12 (ai h14 (ai h23 (ai h26 (ai h29 (ai h30 (ai h37 (ai h38 (ai (len_str a1.str) (ai (len_str a2.str) (ai h39 (ai (sapp_ok h40) (ti))))))))))))))))))) (by kernel_rfl)
               ·
                obtain rfl := si h
                exact runF_call mixed [(10, .bit false), (13, .bit false), (16, .bit false), (28, .bit false), (42, .bit false), (45, .bit false), (53, .bit false), (62, .bit false), (87, .bit false), (95, .bit false), (106, .bit true), (110, .bit false), (125, .bit true), (128, .bit false)] [] [] (ai h1 (ai h2 (ai h3 (ai h6 (ai h9 (ai h10 (ai h12 (ai h14 (ai h23 (ai h26 (ai h29 (ai h30 (ai h37 (ai h38 (ti))))))))))))))) (by kernel_rfl)
              ·
               obtain rfl := si h
               exact runF_call mixed [(10, .bit false), (13, .bit false), (16, .bit false), (28, .bit false), (42, .bit false), (45, .bit false), (53, .bit false), (62, .bit false), (87, .bit false), (95, .bit false), (106, .bit true), (110, .bit false), (125, .bit false)] [] [] (ai h1 (ai h2 (ai h3 (ai h6 (ai h9 (ai h10 (ai h12 (ai h14 (ai h23 (ai h26 (ai h29 (ai h30 (ai h37 (ti)))))))))))))) (by kernel_rfl)
            ·
             rcases iS h with ⟨h41, h⟩ | ⟨h41, h⟩
             ·
              rcases iS h with ⟨h42, h⟩ | ⟨h42, h⟩
              ·
               rcases iS h with ⟨h43, h⟩ | ⟨h43, h⟩
               ·
                obtain rfl := si h
                exact runF_call mixed [(10, .bit false), (13, .bit false), (16, .bit false), (28, .bit false), (42, .bit false), (45, .bit false), (53, .bit false), (62, .bit false), (87, .bit false), (95, .bit false), (106, .bit false), (125, .bit true), (128, .bit true), (131, .int (a1.str.length : Int)), (134, .int (a2.str.length : Int)), (136, .bit true)] [] [] (ai h1 (ai h2 (ai h3 (ai h6 (ai h9 (ai h10 (ai h12 (ai h14 (ai h23 (ai h26 (ai h29 (ai h41 (ai h42 (ai (len_str a1.str) (ai (len_str a2.str) (ai h43 (ti))))))))))))))))) (by kernel_rfl)
               ·
                obtain ⟨h44, h⟩ := cS h
                obtain rfl := si h
                exact runF_call mixed [(10, .bit false), (13, .bit false), (16, .bit false), (28, .bit false), (42, .bit false), (45, .bit false), (53, .bit false), (62, .bit false), (87, .bit false), (95, .bit false), (106, .bit false), (125, .bit true), (128, .bit true), (131, .int (a1.str.length : Int)), (134, .int (a2.str.length : Int)), (136, .bit false), (142, .str (a1.str ++ a2.str))] [] [] (ai h1 (ai h2 (ai h3 (ai h6 (ai h9 (ai h10 (ai h12 (ai h14 (ai h23 (ai h26 (ai h29 (ai h41 (ai h42 (ai (len_str a1.str) (ai (len_str a2.str) (ai h43 (ai (sapp_ok h44) (ti)))))))))))))))))) (by kernel_rfl)
              ·
               obtain rfl := si h
               exact runF_call mixed [(10, .bit false), (13, .bit false), (16, .bit false), (28, .bit false), (42, .bit false), (45, .bit false), (53, .bit false), (62, .bit false), (87, .bit false), (95, .bit false), (106, .bit false), (125, .bit true), (128, .bit false)] [] [] (ai h1 (ai h2 (ai h3 (ai h6 (ai h9 (ai h10 (ai h12 (ai h14 (ai h23 (ai h26 (ai h29 (ai h41 (ai h42 (ti)))))))))))))) (by kernel_rfl)
             ·
              obtain rfl := si h
              exact runF_call mixed [(10, .bit false), (13, .bit false), (16, .bit false), (28, .bit false), (42, .bit false), (45, .bit false), (53, .bit false), (62, .bit false), (87, .bit false), (95, .bit false), (106, .bit false), (125, .bit false)] [] [] (ai h1 (ai h2 (ai h3 (ai h6 (ai h9 (ai h10 (ai h12 (ai h14 (ai h23 (ai h26 (ai h29 (ai h41 (ti))))))))))))) (by kernel_rfl)
theorem ref13_Type_ok (a0 : Int) (a1 : Int) (a2 : Int) (r : Int) (h : ref13_Type a0 a1 a2 = some r) : ACall Try.prog 61 [.d ((D.i .i64) a0), .d ((D.i .i64) a1), .d ((D.i .i64) a2)] [] (.d ((D.i .i64) r)) [] := by
  unfold ref13_Type at h
  rcases iS h with ⟨h1, h⟩ | ⟨h1, h⟩
  ·
   obtain rfl := si h
   exact runF_call mixed [(11, .bit true)] [] [] (ai h1 (ti)) (by kernel_rfl)
  ·
   rcases iS h with ⟨h2, h⟩ | ⟨h2, h⟩
   ·
    obtain rfl := si h
    exact runF_call mixed [(11, .bit false), (15, .bit true)] [] [] (ai h1 (ai h2 (ti))) (by kernel_rfl)
   ·
    obtain ⟨r1, h3, h⟩ := bS h
    rcases iS h with ⟨h4, h⟩ | ⟨h4, h⟩
    ·
     obtain rfl := si h
     exact runF_call mixed [(11, .bit false), (15, .bit false), (22, .ret (.tup [.d (TValue.D r1.1), .d ((D.i .i64) r1.2)])), (26, .bit true)] [] [] (ai h1 (ai h2 (ai (ref03_Op_ok a0 (TValue.mk a1 0 ([] : List UInt8) false) (TValue.mk a2 0 ([] : List UInt8) false) r1 h3) (ai h4 (ti))))) (by kernel_rfl)
    ·
     rcases iS h with ⟨h5, h⟩ | ⟨h5, h⟩
     ·
      obtain rfl := si h
      exact runF_call mixed [(11, .bit false), (15, .bit false), (22, .ret (.tup [.d (TValue.D r1.1), .d ((D.i .i64) r1.2)])), (26, .bit false), (28, .bit true)] [] [] (ai h1 (ai h2 (ai (ref03_Op_ok a0 (TValue.mk a1 0 ([] : List UInt8) false) (TValue.mk a2 0 ([] : List UInt8) false) r1 h3) (ai h4 (ai h5 (ti)))))) (by kernel_rfl)
     ·
      obtain rfl := si h
      exact runF_call mixed [(11, .bit false), (15, .bit false), (22, .ret (.tup [.d (TValue.D r1.1), .d ((D.i .i64) r1.2)])), (26, .bit false), (28, .bit false)] [] [] (ai h1 (ai h2 (ai (ref03_Op_ok a0 (TValue.mk a1 0 ([] : List UInt8) false) (TValue.mk a2 0 ([] : List UInt8) false) r1 h3) (ai h4 (ai h5 (ti)))))) (by kernel_rfl)
theorem ref13_below_F_ok (self : TQea → Int → Option (Int × Int × Int)) (hs : ∀ (a0 : TQea) (a1 : Int) (r : Int × Int × Int), self a0 a1 = some r → ACall Try.prog 52 [.d (TQea.D a0), .d ((D.i .i64) a1)] [] (.tup [.d ((D.i .i64) r.1), .d ((D.i .i64) r.2.1), .d ((D.i .i64) r.2.2)]) []) (a0 : TQea) (a1 : Int) (r : Int × Int × Int) (h : ref13_below_F self a0 a1 = some r) : ACall Try.prog 52 [.d (TQea.D a0), .d ((D.i .i64) a1)] [] (.tup [.d ((D.i .i64) r.1), .d ((D.i .i64) r.2.1), .d ((D.i .i64) r.2.2)]) [] := by
  unfold ref13_below_F at h
  rcases iS h with ⟨h1, h⟩ | ⟨h1, h⟩
  ·
   obtain rfl := si h
   exact runF_call mixed [(17, .bit true)] [] [] (ai h1 (ti)) (by kernel_rfl)
  ·
   rcases iS h with ⟨h2, h⟩ | ⟨h2, h⟩
   ·
    obtain rfl := si h
    exact runF_call mixed [(17, .bit false), (21, .int (a0.nodes.length : Int)), (23, .bit true)] [] [] (ai h1 (ai (len_map TNode.D a0.nodes) (ai h2 (ti)))) (by kernel_rfl)
   ·
    obtain ⟨x1, h3, h⟩ := xS h
    rcases iS h with ⟨h4, h⟩ | ⟨h4, h⟩
    ·
     rcases iS h with ⟨h5, h⟩ | ⟨h5, h⟩
     ·
      obtain rfl := si h
      exact runF_call mixed [(17, .bit false), (21, .int (a0.nodes.length : Int)), (23, .bit false), (27, .el (TNode.D x1)), (32, .bit true), (36, .bit true)] [] [] (ai h1 (ai (len_map TNode.D a0.nodes) (ai h2 (ai (elem_map TNode.D h3) (ai h4 (ai h5 (ti))))))) (by kernel_rfl)
     ·
      rcases iS h with ⟨h6, h⟩ | ⟨h6, h⟩
      ·
       obtain rfl := si h
       exact runF_call mixed [(17, .bit false), (21, .int (a0.nodes.length : Int)), (23, .bit false), (27, .el (TNode.D x1)), (32, .bit true), (36, .bit false), (41, .bit true)] [] [] (ai h1 (ai (len_map TNode.D a0.nodes) (ai h2 (ai (elem_map TNode.D h3) (ai h4 (ai h5 (ai h6 (ti)))))))) (by kernel_rfl)
      ·
       obtain ⟨r2, h7, h⟩ := bS h
       rcases iS h with ⟨h8, h⟩ | ⟨h8, h⟩
       ·
        obtain rfl := si h
        exact runF_call mixed [(17, .bit false), (21, .int (a0.nodes.length : Int)), (23, .bit false), (27, .el (TNode.D x1)), (32, .bit true), (36, .bit false), (41, .bit false), (44, .ret (.d (D.b r2))), (46, .bit true)] [] [] (ai h1 (ai (len_map TNode.D a0.nodes) (ai h2 (ai (elem_map TNode.D h3) (ai h4 (ai h5 (ai h6 (ai (ref03_Right_ok x1.value r2 h7) (ai h8 (ti)))))))))) (by kernel_rfl)
       ·
        obtain rfl := si h
        exact runF_call mixed [(17, .bit false), (21, .int (a0.nodes.length : Int)), (23, .bit false), (27, .el (TNode.D x1)), (32, .bit true), (36, .bit false), (41, .bit false), (44, .ret (.d (D.b r2))), (46, .bit false)] [] [] (ai h1 (ai (len_map TNode.D a0.nodes) (ai h2 (ai (elem_map TNode.D h3) (ai h4 (ai h5 (ai h6 (ai (ref03_Right_ok x1.value r2 h7) (ai h8 (ti)))))))))) (by kernel_rfl)
    ·
     rcases iS h with ⟨h9, h⟩ | ⟨h9, h⟩
     ·
      obtain rfl := si h
      exact runF_call mixed [(17, .bit false), (21, .int (a0.nodes.length : Int)), (23, .bit false), (27, .el (TNode.D x1)), (32, .bit false), (54, .bit true)] [] [] (ai h1 (ai (len_map TNode.D a0.nodes) (ai h2 (ai (elem_map TNode.D h3) (ai h4 (ai h9 (ti))))))) (by kernel_rfl)
     ·
      rcases iS h with ⟨h10, h⟩ | ⟨h10, h⟩
      ·
       rcases iS h with ⟨h11, h⟩ | ⟨h11, h⟩
       ·
        obtain rfl := si h
        exact runF_call mixed [(17, .bit false), (21, .int (a0.nodes.length : Int)), (23, .bit false), (27, .el (TNode.D x1)), (32, .bit false), (54, .bit false), (57, .bit true), (61, .bit true)] [] [] (ai h1 (ai (len_map TNode.D a0.nodes) (ai h2 (ai (elem_map TNode.D h3) (ai h4 (ai h9 (ai h10 (ai h11 (ti))))))))) (by kernel_rfl)
       ·
        rcases iS h with ⟨h12, h⟩ | ⟨h12, h⟩
        ·
         obtain rfl := si h
         exact runF_call mixed [(17, .bit false), (21, .int (a0.nodes.length : Int)), (23, .bit false), (27, .el (TNode.D x1)), (32, .bit false), (54, .bit false), (57, .bit true), (61, .bit false), (66, .int (a0.quants.length : Int)), (69, .bit true)] [] [] (ai h1 (ai (len_map TNode.D a0.nodes) (ai h2 (ai (elem_map TNode.D h3) (ai h4 (ai h9 (ai h10 (ai h11 (ai (len_map TQuant.D a0.quants) (ai h12 (ti))))))))))) (by kernel_rfl)
        ·
         rcases iS h with ⟨h13, h⟩ | ⟨h13, h⟩
         ·
          obtain rfl := si h
          exact runF_call mixed [(17, .bit false), (21, .int (a0.nodes.length : Int)), (23, .bit false), (27, .el (TNode.D x1)), (32, .bit false), (54, .bit false), (57, .bit true), (61, .bit false), (66, .int (a0.quants.length : Int)), (69, .bit false), (73, .bit true)] [] [] (ai h1 (ai (len_map TNode.D a0.nodes) (ai h2 (ai (elem_map TNode.D h3) (ai h4 (ai h9 (ai h10 (ai h11 (ai (len_map TQuant.D a0.quants) (ai h12 (ai h13 (ti)))))))))))) (by kernel_rfl)
         ·
          obtain ⟨x3, h14, h⟩ := xS h
          obtain rfl := si h
          exact runF_call mixed [(17, .bit false), (21, .int (a0.nodes.length : Int)), (23, .bit false), (27, .el (TNode.D x1)), (32, .bit false), (54, .bit false), (57, .bit true), (61, .bit false), (66, .int (a0.quants.length : Int)), (69, .bit false), (73, .bit false), (78, .el (TQuant.D x3))] [] [] (ai h1 (ai (len_map TNode.D a0.nodes) (ai h2 (ai (elem_map TNode.D h3) (ai h4 (ai h9 (ai h10 (ai h11 (ai (len_map TQuant.D a0.quants) (ai h12 (ai h13 (ai (elem_map TQuant.D h14) (ti))))))))))))) (by kernel_rfl)
      ·
       rcases iS h with ⟨h15, h⟩ | ⟨h15, h⟩
       ·
        rcases iS h with ⟨h16, h⟩ | ⟨h16, h⟩
        ·
         obtain rfl := si h
         exact runF_call mixed [(17, .bit false), (21, .int (a0.nodes.length : Int)), (23, .bit false), (27, .el (TNode.D x1)), (32, .bit false), (54, .bit false), (57, .bit false), (84, .bit true), (88, .bit true)] [] [] (ai h1 (ai (len_map TNode.D a0.nodes) (ai h2 (ai (elem_map TNode.D h3) (ai h4 (ai h9 (ai h10 (ai h15 (ai h16 (ti)))))))))) (by kernel_rfl)
        ·
         rcases iS h with ⟨h17, h⟩ | ⟨h17, h⟩
         ·
          obtain rfl := si h
          exact runF_call mixed [(17, .bit false), (21, .int (a0.nodes.length : Int)), (23, .bit false), (27, .el (TNode.D x1)), (32, .bit false), (54, .bit false), (57, .bit false), (84, .bit true), (88, .bit false), (93, .int (a0.frees.length : Int)), (96, .bit true)] [] [] (ai h1 (ai (len_map TNode.D a0.nodes) (ai h2 (ai (elem_map TNode.D h3) (ai h4 (ai h9 (ai h10 (ai h15 (ai h16 (ai (len_map TFree.D a0.frees) (ai h17 (ti)))))))))))) (by kernel_rfl)
         ·
          rcases iS h with ⟨h18, h⟩ | ⟨h18, h⟩
          ·
           obtain rfl := si h
           exact runF_call mixed [(17, .bit false), (21, .int (a0.nodes.length : Int)), (23, .bit false), (27, .el (TNode.D x1)), (32, .bit false), (54, .bit false), (57, .bit false), (84, .bit true), (88, .bit false), (93, .int (a0.frees.length : Int)), (96, .bit false), (100, .bit true)] [] [] (ai h1 (ai (len_map TNode.D a0.nodes) (ai h2 (ai (elem_map TNode.D h3) (ai h4 (ai h9 (ai h10 (ai h15 (ai h16 (ai (len_map TFree.D a0.frees) (ai h17 (ai h18 (ti))))))))))))) (by kernel_rfl)
          ·
           obtain ⟨x4, h19, h⟩ := xS h
           obtain rfl := si h
           exact runF_call mixed [(17, .bit false), (21, .int (a0.nodes.length : Int)), (23, .bit false), (27, .el (TNode.D x1)), (32, .bit false), (54, .bit false), (57, .bit false), (84, .bit true), (88, .bit false), (93, .int (a0.frees.length : Int)), (96, .bit false), (100, .bit false), (105, .el (TFree.D x4))] [] [] (ai h1 (ai (len_map TNode.D a0.nodes) (ai h2 (ai (elem_map TNode.D h3) (ai h4 (ai h9 (ai h10 (ai h15 (ai h16 (ai (len_map TFree.D a0.frees) (ai h17 (ai h18 (ai (elem_map TFree.D h19) (ti)))))))))))))) (by kernel_rfl)
       ·
        rcases iS h with ⟨h20, h⟩ | ⟨h20, h⟩
        ·
         obtain rfl := si h
         exact runF_call mixed [(17, .bit false), (21, .int (a0.nodes.length : Int)), (23, .bit false), (27, .el (TNode.D x1)), (32, .bit false), (54, .bit false), (57, .bit false), (84, .bit false), (113, .bit true)] [] [] (ai h1 (ai (len_map TNode.D a0.nodes) (ai h2 (ai (elem_map TNode.D h3) (ai h4 (ai h9 (ai h10 (ai h15 (ai h20 (ti)))))))))) (by kernel_rfl)
        ·
         rcases iS h with ⟨h21, h⟩ | ⟨h21, h⟩
         ·
          obtain rfl := si h
          exact runF_call mixed [(17, .bit false), (21, .int (a0.nodes.length : Int)), (23, .bit false), (27, .el (TNode.D x1)), (32, .bit false), (54, .bit false), (57, .bit false), (84, .bit false), (113, .bit false), (117, .bit true)] [] [] (ai h1 (ai (len_map TNode.D a0.nodes) (ai h2 (ai (elem_map TNode.D h3) (ai h4 (ai h9 (ai h10 (ai h15 (ai h20 (ai h21 (ti))))))))))) (by kernel_rfl)
         ·
          obtain ⟨r5, h22, h⟩ := bS h
          rcases iS h with ⟨h23, h⟩ | ⟨h23, h⟩
          ·
           rcases iS h with ⟨h24, h⟩ | ⟨h24, h⟩
           ·
            obtain rfl := si h
            exact runF_call mixed [(17, .bit false), (21, .int (a0.nodes.length : Int)), (23, .bit false), (27, .el (TNode.D x1)), (32, .bit false), (54, .bit false), (57, .bit false), (84, .bit false), (113, .bit false), (117, .bit false), (122, .ret (.tup [.d ((D.i .i64) r5.1), .d ((D.i .i64) r5.2.1), .d ((D.i .i64) r5.2.2)])), (128, .bit true), (131, .bit true)] [] [] (ai h1 (ai (len_map TNode.D a0.nodes) (ai h2 (ai (elem_map TNode.D h3) (ai h4 (ai h9 (ai h10 (ai h15 (ai h20 (ai h21 (ai (hs a0 (intVal .sub .i64 a1 1) r5 h22) (ai h23 (ai h24 (ti)))))))))))))) (by kernel_rfl)
           ·
            rcases iS h with ⟨h25, h⟩ | ⟨h25, h⟩
            ·
             obtain rfl := si h
             exact runF_call mixed [(17, .bit false), (21, .int (a0.nodes.length : Int)), (23, .bit false), (27, .el (TNode.D x1)), (32, .bit false), (54, .bit false), (57, .bit false), (84, .bit false), (113, .bit false), (117, .bit false), (122, .ret (.tup [.d ((D.i .i64) r5.1), .d ((D.i .i64) r5.2.1), .d ((D.i .i64) r5.2.2)])), (128, .bit true), (131, .bit false), (138, .bit true)] [] [] (ai h1 (ai (len_map TNode.D a0.nodes) (ai h2 (ai (elem_map TNode.D h3) (ai h4 (ai h9 (ai h10 (ai h15 (ai h20 (ai h21 (ai (hs a0 (intVal .sub .i64 a1 1) r5 h22) (ai h23 (ai h24 (ai h25 (ti))))))))))))))) (by kernel_rfl)
            ·
             rcases iS h with ⟨h26, h⟩ | ⟨h26, h⟩
             ·
              obtain rfl := si h
              exact runF_call mixed [(17, .bit false), (21, .int (a0.nodes.length : Int)), (23, .bit false), (27, .el (TNode.D x1)), (32, .bit false), (54, .bit false), (57, .bit false), (84, .bit false), (113, .bit false), (117, .bit false), (122, .ret (.tup [.d ((D.i .i64) r5.1), .d ((D.i .i64) r5.2.1), .d ((D.i .i64) r5.2.2)])), (128, .bit true), (131, .bit false), (138, .bit false), (142, .bit true)] [] [] (ai h1 (ai (len_map TNode.D a0.nodes) (ai h2 (ai (elem_map TNode.D h3) (ai h4 (ai h9 (ai h10 (ai h15 (ai h20 (ai h21 (ai (hs a0 (intVal .sub .i64 a1 1) r5 h22) (ai h23 (ai h24 (ai h25 (ai h26 (ti)))))))))))))))) (by kernel_rfl)
             ·
              obtain ⟨r6, h27, h⟩ := bS h
              obtain rfl := si h
              exact runF_call mixed [(17, .bit false), (21, .int (a0.nodes.length : Int)), (23, .bit false), (27, .el (TNode.D x1)), (32, .bit false), (54, .bit false), (57, .bit false), (84, .bit false), (113, .bit false), (117, .bit false), (122, .ret (.tup [.d ((D.i .i64) r5.1), .d ((D.i .i64) r5.2.1), .d ((D.i .i64) r5.2.2)])), (128, .bit true), (131, .bit false), (138, .bit false), (142, .bit false), (147, .ret (.d ((D.i .i64) r6)))] [] [] (ai h1 (ai (len_map TNode.D a0.nodes) (ai h2 (ai (elem_map TNode.D h3) (ai h4 (ai h9 (ai h10 (ai h15 (ai h20 (ai h21 (ai (hs a0 (intVal .sub .i64 a1 1) r5 h22) (ai h23 (ai h24 (ai h25 (ai h26 (ai (ref13_Type_ok x1.op r5.1 r5.1 r6 h27) (ti))))))))))))))))) (by kernel_rfl)
          ·
           rcases iS h with ⟨h28, h⟩ | ⟨h28, h⟩
           ·
            obtain rfl := si h
            exact runF_call mixed [(17, .bit false), (21, .int (a0.nodes.length : Int)), (23, .bit false), (27, .el (TNode.D x1)), (32, .bit false), (54, .bit false), (57, .bit false), (84, .bit false), (113, .bit false), (117, .bit false), (122, .ret (.tup [.d ((D.i .i64) r5.1), .d ((D.i .i64) r5.2.1), .d ((D.i .i64) r5.2.2)])), (128, .bit false), (153, .bit true)] [] [] (ai h1 (ai (len_map TNode.D a0.nodes) (ai h2 (ai (elem_map TNode.D h3) (ai h4 (ai h9 (ai h10 (ai h15 (ai h20 (ai h21 (ai (hs a0 (intVal .sub .i64 a1 1) r5 h22) (ai h23 (ai h28 (ti)))))))))))))) (by kernel_rfl)
           ·
            rcases iS h with ⟨h29, h⟩ | ⟨h29, h⟩
            ·
             obtain rfl := si h
             exact runF_call mixed [(17, .bit false), (21, .int (a0.nodes.length : Int)), (23, .bit false), (27, .el (TNode.D x1)), (32, .bit false), (54, .bit false), (57, .bit false), (84, .bit false), (113, .bit false), (117, .bit false), (122, .ret (.tup [.d ((D.i .i64) r5.1), .d ((D.i .i64) r5.2.1), .d ((D.i .i64) r5.2.2)])), (128, .bit false), (153, .bit false), (160, .bit true)] [] [] (ai h1 (ai (len_map TNode.D a0.nodes) (ai h2 (ai (elem_map TNode.D h3) (ai h4 (ai h9 (ai h10 (ai h15 (ai h20 (ai h21 (ai (hs a0 (intVal .sub .i64 a1 1) r5 h22) (ai h23 (ai h28 (ai h29 (ti))))))))))))))) (by kernel_rfl)
            ·
             rcases iS h with ⟨h30, h⟩ | ⟨h30, h⟩
             ·
              obtain rfl := si h
              exact runF_call mixed [(17, .bit false), (21, .int (a0.nodes.length : Int)), (23, .bit false), (27, .el (TNode.D x1)), (32, .bit false), (54, .bit false), (57, .bit false), (84, .bit false), (113, .bit false), (117, .bit false), (122, .ret (.tup [.d ((D.i .i64) r5.1), .d ((D.i .i64) r5.2.1), .d ((D.i .i64) r5.2.2)])), (128, .bit false), (153, .bit false), (160, .bit false), (166, .bit true)] [] [] (ai h1 (ai (len_map TNode.D a0.nodes) (ai h2 (ai (elem_map TNode.D h3) (ai h4 (ai h9 (ai h10 (ai h15 (ai h20 (ai h21 (ai (hs a0 (intVal .sub .i64 a1 1) r5 h22) (ai h23 (ai h28 (ai h29 (ai h30 (ti)))))))))))))))) (by kernel_rfl)
             ·
              obtain ⟨r7, h31, h⟩ := bS h
              obtain ⟨r8, h32, h⟩ := bS h
              obtain rfl := si h
              exact runF_call mixed [(17, .bit false), (21, .int (a0.nodes.length : Int)), (23, .bit false), (27, .el (TNode.D x1)), (32, .bit false), (54, .bit false), (57, .bit false), (84, .bit false), (113, .bit false), (117, .bit false), (122, .ret (.tup [.d ((D.i .i64) r5.1), .d ((D.i .i64) r5.2.1), .d ((D.i .i64) r5.2.2)])), (128, .bit false), (153, .bit false), (160, .bit false), (166, .bit false), (171, .ret (.tup [.d ((D.i .i64) r7.1), .d ((D.i .i64) r7.2.1), .d ((D.i .i64) r7.2.2)])), (179, .ret (.d ((D.i .i64) r8))), (182, .int (maxE r5.2.1 r7.2.1))] [] [] (ai h1 (ai (len_map TNode.D a0.nodes) (ai h2 (ai (elem_map TNode.D h3) (ai h4 (ai h9 (ai h10 (ai h15 (ai h20 (ai h21 (ai (hs a0 (intVal .sub .i64 a1 1) r5 h22) (ai h23 (ai h28 (ai h29 (ai h30 (ai (hs a0 (intVal .sub .i64 r5.2.2 1) r7 h31) (ai (ref13_Type_ok x1.op r7.1 r5.1 r8 h32) (ai (rfl : maxE r5.2.1 r7.2.1 = maxE r5.2.1 r7.2.1) (ti))))))))))))))))))) (by kernel_rfl)
theorem ref13_below_n_ok : ∀ (n : Nat) (a0 : TQea) (a1 : Int) (r : Int × Int × Int), ref13_below_n n a0 a1 = some r → ACall Try.prog 52 [.d (TQea.D a0), .d ((D.i .i64) a1)] [] (.tup [.d ((D.i .i64) r.1), .d ((D.i .i64) r.2.1), .d ((D.i .i64) r.2.2)]) []
  | 0, a0, a1, r, h => by simp [ref13_below_n] at h
  | n + 1, a0, a1, r, h => ref13_below_F_ok _ (ref13_below_n_ok n) a0 a1 r h
theorem ref13_below_ok (a0 : TQea) (a1 : Int) (r : Int × Int × Int) (h : ref13_below a0 a1 = some r) : ACall Try.prog 52 [.d (TQea.D a0), .d ((D.i .i64) a1)] [] (.tup [.d ((D.i .i64) r.1), .d ((D.i .i64) r.2.1), .d ((D.i .i64) r.2.2)]) [] := ref13_below_n_ok 100000 a0 a1 r h
theorem ref13_Kind_ok (a0 : TQea) (a1 : Int) (a2 : Int) (r : Int × Int) (h : ref13_Kind a0 a1 a2 = some r) : ACall Try.prog 34 [.d (TQea.D a0), .d ((D.i .i64) a1), .d ((D.i .i64) a2)] [] (.tup [.d ((D.i .i64) r.1), .d ((D.i .i64) r.2)]) [] := by
  unfold ref13_Kind at h
  obtain ⟨r1, h1, h⟩ := bS h
  rcases iS h with ⟨h2, h⟩ | ⟨h2, h⟩
  ·
   obtain rfl := si h
   exact runF_call mixed [(14, .ret (.tup [.d ((D.i .i64) r1.1), .d ((D.i .i64) r1.2.1), .d ((D.i .i64) r1.2.2)])), (20, .bit true)] [] [] (ai (ref13_below_ok a0 a2 r1 h1) (ai h2 (ti))) (by kernel_rfl)
  ·
   rcases iS h with ⟨h3, h⟩ | ⟨h3, h⟩
   ·
    obtain rfl := si h
    exact runF_call mixed [(14, .ret (.tup [.d ((D.i .i64) r1.1), .d ((D.i .i64) r1.2.1), .d ((D.i .i64) r1.2.2)])), (20, .bit false), (24, .bit true)] [] [] (ai (ref13_below_ok a0 a2 r1 h1) (ai h2 (ai h3 (ti)))) (by kernel_rfl)
   ·
    obtain rfl := si h
    exact runF_call mixed [(14, .ret (.tup [.d ((D.i .i64) r1.1), .d ((D.i .i64) r1.2.1), .d ((D.i .i64) r1.2.2)])), (20, .bit false), (24, .bit false)] [] [] (ai (ref13_below_ok a0 a2 r1 h1) (ai h2 (ai h3 (ti)))) (by kernel_rfl)
def ref13_Names_l1_I (s1 : Int) (w2 : TSymbol) (s5 : Int) : St := ⟨sp 30 0 [(1, .d ((D.i .i64) s1)), (2, .box 2 0), (5, .d ((D.i .i64) s5))], [(2, .cells ((cellsA (TSymbol.D w2))))], []⟩
def ref13_Names_l1_O (s1 : Int) (w2 : TSymbol) (o : Unit ⊕ Unit) : Ex × St := match o with
  | .inl o => (.exit 0, ⟨sp 30 0 [], [], []⟩)
  | .inr o => (.ret, ⟨sp 30 0 [(4, .d (D.b true))], [], []⟩)
theorem ref13_Names_l1_rnd (rd : Option Nat) (s1 : Int) (w2 : TSymbol) (s5 : Int) (o : (Int) ⊕ (Unit ⊕ Unit)) (h : ref13_Names_l1_s s1 w2 s5 = some o) : Arr Try.prog rd (fbody Try.prog 38) (0 :: [0, 1, 0, 1]) (ref13_Names_l1_I s1 w2 s5) (rR (fun s : Int => ref13_Names_l1_I s1 w2 s) (ref13_Names_l1_O s1 w2) o).1 (rR (fun s : Int => ref13_Names_l1_I s1 w2 s) (ref13_Names_l1_O s1 w2) o).2 := by
  unfold ref13_Names_l1_s at h
  rcases iS h with ⟨h1, h⟩ | ⟨h1, h⟩
  ·
   obtain ⟨x1, h2, h⟩ := xS h
   rcases iS h with ⟨h3, h⟩ | ⟨h3, h⟩
   ·
    obtain ⟨x2, h4, h⟩ := xS h
    rcases iS h with ⟨h5, h⟩ | ⟨h5, h⟩
    ·
     obtain rfl := si h
     exact runB_arr mixed [(9, .int (w2.args.length : Int)), (10, .bit true), (16, .el (TArg.D x1)), (20, .bit true), (24, .el (TArg.D x2)), (29, .bit true)] [] [.live [4], .keep []] (ai (len_map TArg.D w2.args) (ai h1 (ai (elem_map TArg.D h2) (ai h3 (ai (elem_map TArg.D h4) (ai h5 (ti))))))) (by kernel_rfl)
    ·
     obtain rfl := si h
     exact runB_arr mixed [(9, .int (w2.args.length : Int)), (10, .bit true), (16, .el (TArg.D x1)), (20, .bit true), (24, .el (TArg.D x2)), (29, .bit false)] [] [.live [1, 2, 5], .keep [2]] (ai (len_map TArg.D w2.args) (ai h1 (ai (elem_map TArg.D h2) (ai h3 (ai (elem_map TArg.D h4) (ai h5 (ti))))))) (by kernel_rfl)
   ·
    obtain rfl := si h
    exact runB_arr mixed [(9, .int (w2.args.length : Int)), (10, .bit true), (16, .el (TArg.D x1)), (20, .bit false)] [] [.live [1, 2, 5], .keep [2]] (ai (len_map TArg.D w2.args) (ai h1 (ai (elem_map TArg.D h2) (ai h3 (ti))))) (by kernel_rfl)
  ·
   obtain rfl := si h
   exact runB_arr mixed [(9, .int (w2.args.length : Int)), (10, .bit false)] [] [.live [], .keep []] (ai (len_map TArg.D w2.args) (ai h1 (ti))) (by kernel_rfl)
theorem ref13_Names_l1_ok (rd : Option Nat) (s1 : Int) (w2 : TSymbol) (s5 : Int) (t : Unit ⊕ Unit) (h : ref13_Names_l1 s1 w2 s5 = some t) : LpOf Try.prog rd (fbody Try.prog 38) [0, 1, 0, 1] (ref13_Names_l1_I s1 w2 s5) ((ref13_Names_l1_O s1 w2) t).1 ((ref13_Names_l1_O s1 w2) t).2 :=
  loopE_lpR (fun s : Int => ref13_Names_l1_I s1 w2 s) (ref13_Names_l1_O s1 w2) (by kernel_rfl) (fun t => isN_ne (by rcases t with (_ | _) <;> rfl)) (fun s o h => ref13_Names_l1_rnd rd s1 w2 s o h) (s := s5) (t := t) h
theorem ref13_Names_ok (a0 : TSymbol) (a1 : Int) (r : Bool) (h : ref13_Names a0 a1 = some r) : ACall Try.prog 38 [.d (TSymbol.D a0), .d ((D.i .i64) a1)] [] (.d (D.b r)) [] := by
  unfold ref13_Names at h
  obtain ⟨o3, h6, h⟩ := bS h
  replace h := sumE_some h
  rcases h with ⟨o4, rfl, h⟩ | ⟨o5, rfl, h⟩
  ·
   obtain rfl := si h
   exact runF_call mixed [] [⟨[0, 1, 0, 1], [.live [1, 2, 5], .keep [2]], .exit 0, (ref13_Names_l1_O a1 a0 (Sum.inl o4)).2⟩] [] (ai (ref13_Names_l1_ok none a1 a0 0 (Sum.inl o4) h6) (ti)) (by kernel_rfl)
  ·
   obtain rfl := si h
   exact runF_call mixed [] [⟨[0, 1, 0, 1], [.live [1, 2, 5], .keep [2]], .ret, (ref13_Names_l1_O a1 a0 (Sum.inr o5)).2⟩] [] (ai (ref13_Names_l1_ok none a1 a0 0 (Sum.inr o5) h6) (ti)) (by kernel_rfl)
def ref13_bound_l1_I (s3 : Int) (w4 : TQea) (w5 : TSymbol) (s9 : Int) : St := ⟨sp 34 0 [(3, .d ((D.i .i64) s3)), (4, .box 4 0), (5, .box 5 0), (9, .d ((D.i .i64) s9))], [(4, .cells ((cellsA (TQea.D w4)))), (5, .cells ((cellsA (TSymbol.D w5))))], []⟩
def ref13_bound_l1_O (s3 : Int) (w4 : TQea) (w5 : TSymbol) (o : Unit ⊕ Unit) : Ex × St := match o with
  | .inl o => (.exit 0, ⟨sp 34 0 [], [], []⟩)
  | .inr o => (.ret, ⟨sp 34 0 [(8, .d (D.b false))], [], []⟩)
theorem ref13_bound_l1_rnd (rd : Option Nat) (s3 : Int) (w4 : TQea) (w5 : TSymbol) (s9 : Int) (o : (Int) ⊕ (Unit ⊕ Unit)) (h : ref13_bound_l1_s s3 w4 w5 s9 = some o) : Arr Try.prog rd (fbody Try.prog 35) (0 :: [0, 1, 0, 1]) (ref13_bound_l1_I s3 w4 w5 s9) (rR (fun s : Int => ref13_bound_l1_I s3 w4 w5 s) (ref13_bound_l1_O s3 w4 w5) o).1 (rR (fun s : Int => ref13_bound_l1_I s3 w4 w5 s) (ref13_bound_l1_O s3 w4 w5) o).2 := by
  unfold ref13_bound_l1_s at h
  rcases iS h with ⟨h1, h⟩ | ⟨h1, h⟩
  ·
   obtain ⟨x1, h2, h⟩ := xS h
   rcases iS h with ⟨h3, h⟩ | ⟨h3, h⟩
   ·
    obtain ⟨x2, h4, h⟩ := xS h
    obtain ⟨r3, h5, h⟩ := bS h
    rcases iS h with ⟨h6, h⟩ | ⟨h6, h⟩
    ·
     obtain rfl := si h
     exact runB_arr mixed [(13, .bit true), (19, .el (TNode.D x1)), (23, .bit true), (28, .el (TNode.D x2)), (31, .ret (.d (D.b r3))), (33, .bit true)] [] [.live [8], .keep []] (ai h1 (ai (elem_map TNode.D h2) (ai h3 (ai (elem_map TNode.D h4) (ai (ref13_Names_ok w5 x2.a r3 h5) (ai h6 (ti))))))) (by kernel_rfl)
    ·
     obtain rfl := si h
     exact runB_arr mixed [(13, .bit true), (19, .el (TNode.D x1)), (23, .bit true), (28, .el (TNode.D x2)), (31, .ret (.d (D.b r3))), (33, .bit false)] [] [.live [3, 4, 5, 9], .keep [4, 5]] (ai h1 (ai (elem_map TNode.D h2) (ai h3 (ai (elem_map TNode.D h4) (ai (ref13_Names_ok w5 x2.a r3 h5) (ai h6 (ti))))))) (by kernel_rfl)
   ·
    obtain rfl := si h
    exact runB_arr mixed [(13, .bit true), (19, .el (TNode.D x1)), (23, .bit false)] [] [.live [3, 4, 5, 9], .keep [4, 5]] (ai h1 (ai (elem_map TNode.D h2) (ai h3 (ti)))) (by kernel_rfl)
  ·
   obtain rfl := si h
   exact runB_arr mixed [(13, .bit false)] [] [.live [], .keep []] (ai h1 (ti)) (by kernel_rfl)
theorem ref13_bound_l1_ok (rd : Option Nat) (s3 : Int) (w4 : TQea) (w5 : TSymbol) (s9 : Int) (t : Unit ⊕ Unit) (h : ref13_bound_l1 s3 w4 w5 s9 = some t) : LpOf Try.prog rd (fbody Try.prog 35) [0, 1, 0, 1] (ref13_bound_l1_I s3 w4 w5 s9) ((ref13_bound_l1_O s3 w4 w5) t).1 ((ref13_bound_l1_O s3 w4 w5) t).2 :=
  loopE_lpR (fun s : Int => ref13_bound_l1_I s3 w4 w5 s) (ref13_bound_l1_O s3 w4 w5) (by kernel_rfl) (fun t => isN_ne (by rcases t with (_ | _) <;> rfl)) (fun s o h => ref13_bound_l1_rnd rd s3 w4 w5 s o h) (s := s9) (t := t) h
theorem ref13_bound_ok (a0 : TQea) (a1 : TSymbol) (a2 : Int) (a3 : Int) (r : Bool) (h : ref13_bound a0 a1 a2 a3 = some r) : ACall Try.prog 35 [.d (TQea.D a0), .d (TSymbol.D a1), .d ((D.i .i64) a2), .d ((D.i .i64) a3)] [] (.d (D.b r)) [] := by
  unfold ref13_bound at h
  obtain ⟨o4, h7, h⟩ := bS h
  replace h := sumE_some h
  rcases h with ⟨o5, rfl, h⟩ | ⟨o6, rfl, h⟩
  ·
   obtain rfl := si h
   exact runF_call mixed [] [⟨[0, 1, 0, 1], [.live [3, 4, 5, 9], .keep [4, 5]], .exit 0, (ref13_bound_l1_O a3 a0 a1 (Sum.inl o5)).2⟩] [] (ai (ref13_bound_l1_ok none a3 a0 a1 a2 (Sum.inl o5) h7) (ti)) (by kernel_rfl)
  ·
   obtain rfl := si h
   exact runF_call mixed [] [⟨[0, 1, 0, 1], [.live [3, 4, 5, 9], .keep [4, 5]], .ret, (ref13_bound_l1_O a3 a0 a1 (Sum.inr o6)).2⟩] [] (ai (ref13_bound_l1_ok none a3 a0 a1 a2 (Sum.inr o6) h7) (ti)) (by kernel_rfl)
def ref13_trans_b1_I (s2 : Int) (s8 : Int) (s56 : Bool) (w3 : TQea) (w4 : TTrans) : St := ⟨sp 153 0 [(2, .d ((D.i .i64) s2)), (3, .box 3 0), (4, .box 4 0), (8, .d ((D.i .i64) s8)), (56, .d (D.b s56))], [(3, .cells ((cellsA (TQea.D w3)))), (4, .cells ((cellsA (TTrans.D w4))))], []⟩
def ref13_trans_b1_O (s2 : Int) (s8 : Int) (s56 : Bool) (w3 : TQea) (w4 : TTrans) (o : Int ⊕ Unit) : Ex × St := match o with
  | .inl o => (.normal, ⟨sp 153 0 [(2, .d ((D.i .i64) s2)), (3, .box 3 0), (4, .box 4 0), (8, .d ((D.i .i64) o))], [(3, .cells ((cellsA (TQea.D w3)))), (4, .cells ((cellsA (TTrans.D w4))))], []⟩)
  | .inr o => (.ret, ⟨sp 153 0 [(6, .d ((D.i .i64) 0)), (7, .d (D.b false))], [], []⟩)
theorem ref13_trans_b1_ok (rd : Option Nat) (s2 : Int) (s8 : Int) (s56 : Bool) (w3 : TQea) (w4 : TTrans) (o : Int ⊕ Unit) (h : ref13_trans_b1 s2 s8 s56 w3 w4 = some o) : LpOf Try.prog rd (fbody Try.prog 18) [1, 0, 1, 1, 1] (ref13_trans_b1_I s2 s8 s56 w3 w4) (ref13_trans_b1_O s2 s8 s56 w3 w4 o).1 (ref13_trans_b1_O s2 s8 s56 w3 w4 o).2 := by
  unfold ref13_trans_b1 at h
  cases s56 with
  | true =>
   replace h := iteT h
   obtain ⟨r1, h8, h⟩ := bS h
   rcases iS h with ⟨h9, h⟩ | ⟨h9, h⟩
   ·
    obtain rfl := si h
    exact (runB_arr mixed [(62, .ret (.tup [.d ((D.i .i64) r1.1), .d ((D.i .i64) r1.2)])), (67, .bit true)] [] [.live [6, 7], .keep []] (ai (ref13_Kind_ok w3 s8 w4.guard r1 h8) (ai h9 (ti))) (by kernel_rfl)).lp
   ·
    rcases iS h with ⟨h10, h⟩ | ⟨h10, h⟩
    ·
     obtain rfl := si h
     exact (runB_arr mixed [(62, .ret (.tup [.d ((D.i .i64) r1.1), .d ((D.i .i64) r1.2)])), (67, .bit false), (70, .bit true)] [] [.live [6, 7], .keep []] (ai (ref13_Kind_ok w3 s8 w4.guard r1 h8) (ai h9 (ai h10 (ti)))) (by kernel_rfl)).lp
    ·
     obtain rfl := si h
     exact (runB_arr mixed [(62, .ret (.tup [.d ((D.i .i64) r1.1), .d ((D.i .i64) r1.2)])), (67, .bit false), (70, .bit false)] [] [.live [2, 3, 4, 8], .keep [3, 4]] (ai (ref13_Kind_ok w3 s8 w4.guard r1 h8) (ai h9 (ai h10 (ti)))) (by kernel_rfl)).lp
  | false =>
   replace h := iteF h
   obtain rfl := si h
   exact (runB_arr mixed [] [] [.live [2, 3, 4, 8], .keep [3, 4]] (ti) (by kernel_rfl)).lp
def ref13_trans_l3_I (s2 : Int) (s11 : Int) (w3 : TQea) (w4 : TTrans) (w12 : TSet) (s15 : Int) : St := ⟨sp 153 0 [(2, .d ((D.i .i64) s2)), (3, .box 3 0), (4, .box 4 0), (11, .d ((D.i .i64) s11)), (12, .box 12 0), (15, .d ((D.i .i64) s15))], [(3, .cells ((cellsA (TQea.D w3)))), (4, .cells ((cellsA (TTrans.D w4)))), (12, .cells ((cellsA (TSet.D w12))))], []⟩
def ref13_trans_l3_O (s2 : Int) (s11 : Int) (w3 : TQea) (w4 : TTrans) (w12 : TSet) (o : Unit ⊕ Unit) : Ex × St := match o with
  | .inl o => (.exit 2, ⟨sp 153 0 [(2, .d ((D.i .i64) s2)), (3, .box 3 0), (4, .box 4 0), (11, .d ((D.i .i64) s11)), (12, .box 12 0)], [(3, .cells ((cellsA (TQea.D w3)))), (4, .cells ((cellsA (TTrans.D w4)))), (12, .cells ((cellsA (TSet.D w12))))], []⟩)
  | .inr o => (.ret, ⟨sp 153 0 [(6, .d ((D.i .i64) 0)), (7, .d (D.b false))], [], []⟩)
theorem ref13_trans_l3_rnd (rd : Option Nat) (s2 : Int) (s11 : Int) (w3 : TQea) (w4 : TTrans) (w12 : TSet) (s15 : Int) (o : (Int) ⊕ (Unit ⊕ Unit)) (h : ref13_trans_l3_s s2 s11 w3 w4 w12 s15 = some o) : Arr Try.prog rd (fbody Try.prog 18) (0 :: [0, 1, 0, 1, 1, 1, 0, 0, 1, 0, 0, 1, 0, 1, 1, 1, 1]) (ref13_trans_l3_I s2 s11 w3 w4 w12 s15) (rR (fun s : Int => ref13_trans_l3_I s2 s11 w3 w4 w12 s) (ref13_trans_l3_O s2 s11 w3 w4 w12) o).1 (rR (fun s : Int => ref13_trans_l3_I s2 s11 w3 w4 w12 s) (ref13_trans_l3_O s2 s11 w3 w4 w12) o).2 := by
  unfold ref13_trans_l3_s at h
  rcases iS h with ⟨h21, h⟩ | ⟨h21, h⟩
  ·
   obtain ⟨x8, h22, h⟩ := xS h
   rcases iS h with ⟨h23, h⟩ | ⟨h23, h⟩
   ·
    obtain rfl := si h
    exact runB_arr mixed [(127, .bit true), (133, .el (TSet.D x8)), (138, .bit true)] [] [.live [6, 7], .keep []] (ai h21 (ai (elem_map TSet.D h22) (ai h23 (ti)))) (by kernel_rfl)
   ·
    obtain rfl := si h
    exact runB_arr mixed [(127, .bit true), (133, .el (TSet.D x8)), (138, .bit false)] [] [.live [2, 3, 4, 11, 12, 15], .keep [3, 4, 12]] (ai h21 (ai (elem_map TSet.D h22) (ai h23 (ti)))) (by kernel_rfl)
  ·
   obtain rfl := si h
   exact runB_arr mixed [(127, .bit false)] [] [.live [2, 3, 4, 11, 12], .keep [3, 4, 12]] (ai h21 (ti)) (by kernel_rfl)
theorem ref13_trans_l3_ok (rd : Option Nat) (s2 : Int) (s11 : Int) (w3 : TQea) (w4 : TTrans) (w12 : TSet) (s15 : Int) (t : Unit ⊕ Unit) (h : ref13_trans_l3 s2 s11 w3 w4 w12 s15 = some t) : LpOf Try.prog rd (fbody Try.prog 18) [0, 1, 0, 1, 1, 1, 0, 0, 1, 0, 0, 1, 0, 1, 1, 1, 1] (ref13_trans_l3_I s2 s11 w3 w4 w12 s15) ((ref13_trans_l3_O s2 s11 w3 w4 w12) t).1 ((ref13_trans_l3_O s2 s11 w3 w4 w12) t).2 :=
  loopE_lpR (fun s : Int => ref13_trans_l3_I s2 s11 w3 w4 w12 s) (ref13_trans_l3_O s2 s11 w3 w4 w12) (by kernel_rfl) (fun t => isN_ne (by rcases t with (_ | _) <;> rfl)) (fun s o h => ref13_trans_l3_rnd rd s2 s11 w3 w4 w12 s o h) (s := s15) (t := t) h
def ref13_trans_l2_I (s2 : Int) (w3 : TQea) (w4 : TTrans) (s8 : Int) (s11 : Int) : St := ⟨sp 153 0 [(2, .d ((D.i .i64) s2)), (3, .box 3 0), (4, .box 4 0), (8, .d ((D.i .i64) s8)), (11, .d ((D.i .i64) s11))], [(3, .cells ((cellsA (TQea.D w3)))), (4, .cells ((cellsA (TTrans.D w4))))], []⟩
def ref13_trans_l2_O (s2 : Int) (w3 : TQea) (w4 : TTrans) (o : Int ⊕ Unit) : Ex × St := match o with
  | .inl o => (.exit 0, ⟨sp 153 0 [(2, .d ((D.i .i64) s2)), (3, .box 3 0), (4, .box 4 0), (8, .d ((D.i .i64) o))], [(3, .cells ((cellsA (TQea.D w3)))), (4, .cells ((cellsA (TTrans.D w4))))], []⟩)
  | .inr o => (.ret, ⟨sp 153 0 [(6, .d ((D.i .i64) 0)), (7, .d (D.b false))], [], []⟩)
theorem ref13_trans_l2_rnd (rd : Option Nat) (s2 : Int) (w3 : TQea) (w4 : TTrans) (s8 : Int) (s11 : Int) (o : (Int × Int) ⊕ (Int ⊕ Unit)) (h : ref13_trans_l2_s s2 w3 w4 s8 s11 = some o) : Arr Try.prog rd (fbody Try.prog 18) (0 :: [0, 1, 0, 1, 1, 1, 1]) (ref13_trans_l2_I s2 w3 w4 s8 s11) (rR (fun s : Int × Int => ref13_trans_l2_I s2 w3 w4 s.1 s.2) (ref13_trans_l2_O s2 w3 w4) o).1 (rR (fun s : Int × Int => ref13_trans_l2_I s2 w3 w4 s.1 s.2) (ref13_trans_l2_O s2 w3 w4) o).2 := by
  unfold ref13_trans_l2_s at h
  rcases iS h with ⟨h12, h⟩ | ⟨h12, h⟩
  ·
   obtain ⟨x5, h13, h⟩ := xS h
   obtain ⟨r6, h14, h⟩ := bS h
   rcases iS h with ⟨h15, h⟩ | ⟨h15, h⟩
   ·
    obtain rfl := si h
    exact runB_arr mixed [(77, .int (w4.sets.length : Int)), (78, .bit true), (84, .el (TSet.D x5)), (91, .ret (.tup [.d ((D.i .i64) r6.1), .d ((D.i .i64) r6.2)])), (97, .bit true)] [] [.live [6, 7], .keep []] (ai (len_map TSet.D w4.sets) (ai h12 (ai (elem_map TSet.D h13) (ai (ref13_Kind_ok w3 s8 x5.expr r6 h14) (ai h15 (ti)))))) (by kernel_rfl)
   ·
    rcases iS h with ⟨h16, h⟩ | ⟨h16, h⟩
    ·
     obtain rfl := si h
     exact runB_arr mixed [(77, .int (w4.sets.length : Int)), (78, .bit true), (84, .el (TSet.D x5)), (91, .ret (.tup [.d ((D.i .i64) r6.1), .d ((D.i .i64) r6.2)])), (97, .bit false), (102, .int (w3.frees.length : Int)), (105, .bit true)] [] [.live [6, 7], .keep []] (ai (len_map TSet.D w4.sets) (ai h12 (ai (elem_map TSet.D h13) (ai (ref13_Kind_ok w3 s8 x5.expr r6 h14) (ai h15 (ai (len_map TFree.D w3.frees) (ai h16 (ti)))))))) (by kernel_rfl)
    ·
     rcases iS h with ⟨h17, h⟩ | ⟨h17, h⟩
     ·
      obtain rfl := si h
      exact runB_arr mixed [(77, .int (w4.sets.length : Int)), (78, .bit true), (84, .el (TSet.D x5)), (91, .ret (.tup [.d ((D.i .i64) r6.1), .d ((D.i .i64) r6.2)])), (97, .bit false), (102, .int (w3.frees.length : Int)), (105, .bit false), (109, .bit true)] [] [.live [6, 7], .keep []] (ai (len_map TSet.D w4.sets) (ai h12 (ai (elem_map TSet.D h13) (ai (ref13_Kind_ok w3 s8 x5.expr r6 h14) (ai h15 (ai (len_map TFree.D w3.frees) (ai h16 (ai h17 (ti))))))))) (by kernel_rfl)
     ·
      rcases iS h with ⟨h18, h⟩ | ⟨h18, h⟩
      ·
       obtain rfl := si h
       exact runB_arr mixed [(77, .int (w4.sets.length : Int)), (78, .bit true), (84, .el (TSet.D x5)), (91, .ret (.tup [.d ((D.i .i64) r6.1), .d ((D.i .i64) r6.2)])), (97, .bit false), (102, .int (w3.frees.length : Int)), (105, .bit false), (109, .bit false), (113, .bit true)] [] [.live [6, 7], .keep []] (ai (len_map TSet.D w4.sets) (ai h12 (ai (elem_map TSet.D h13) (ai (ref13_Kind_ok w3 s8 x5.expr r6 h14) (ai h15 (ai (len_map TFree.D w3.frees) (ai h16 (ai h17 (ai h18 (ti)))))))))) (by kernel_rfl)
      ·
       obtain ⟨x7, h19, h⟩ := xS h
       rcases iS h with ⟨h20, h⟩ | ⟨h20, h⟩
       ·
        obtain rfl := si h
        exact runB_arr mixed [(77, .int (w4.sets.length : Int)), (78, .bit true), (84, .el (TSet.D x5)), (91, .ret (.tup [.d ((D.i .i64) r6.1), .d ((D.i .i64) r6.2)])), (97, .bit false), (102, .int (w3.frees.length : Int)), (105, .bit false), (109, .bit false), (113, .bit false), (119, .el (TFree.D x7)), (124, .bit true)] [] [.live [6, 7], .keep []] (ai (len_map TSet.D w4.sets) (ai h12 (ai (elem_map TSet.D h13) (ai (ref13_Kind_ok w3 s8 x5.expr r6 h14) (ai h15 (ai (len_map TFree.D w3.frees) (ai h16 (ai h17 (ai h18 (ai (elem_map TFree.D h19) (ai h20 (ti)))))))))))) (by kernel_rfl)
       ·
        obtain ⟨o9, h24, h⟩ := bS h
        replace h := sumE_some h
        rcases h with ⟨o10, rfl, h⟩ | ⟨o11, rfl, h⟩
        ·
         obtain rfl := si h
         exact runB_arr mixed [(77, .int (w4.sets.length : Int)), (78, .bit true), (84, .el (TSet.D x5)), (91, .ret (.tup [.d ((D.i .i64) r6.1), .d ((D.i .i64) r6.2)])), (97, .bit false), (102, .int (w3.frees.length : Int)), (105, .bit false), (109, .bit false), (113, .bit false), (119, .el (TFree.D x7)), (124, .bit false)] [⟨[0, 1, 0, 1, 1, 1, 0, 0, 1, 0, 0, 1, 0, 1, 1, 1, 1], [.live [2, 3, 4, 11, 12, 15], .keep [3, 4, 12]], .exit 2, (ref13_trans_l3_O s2 s11 w3 w4 x5 (Sum.inl o10)).2⟩] [.live [2, 3, 4, 8, 11], .keep [3, 4]] (ai (len_map TSet.D w4.sets) (ai h12 (ai (elem_map TSet.D h13) (ai (ref13_Kind_ok w3 s8 x5.expr r6 h14) (ai h15 (ai (len_map TFree.D w3.frees) (ai h16 (ai h17 (ai h18 (ai (elem_map TFree.D h19) (ai h20 (ai (ref13_trans_l3_ok rd s2 s11 w3 w4 x5 0 (Sum.inl o10) h24) (ti))))))))))))) (by kernel_rfl)
        ·
         obtain rfl := si h
         exact runB_arr mixed [(77, .int (w4.sets.length : Int)), (78, .bit true), (84, .el (TSet.D x5)), (91, .ret (.tup [.d ((D.i .i64) r6.1), .d ((D.i .i64) r6.2)])), (97, .bit false), (102, .int (w3.frees.length : Int)), (105, .bit false), (109, .bit false), (113, .bit false), (119, .el (TFree.D x7)), (124, .bit false)] [⟨[0, 1, 0, 1, 1, 1, 0, 0, 1, 0, 0, 1, 0, 1, 1, 1, 1], [.live [2, 3, 4, 11, 12, 15], .keep [3, 4, 12]], .ret, (ref13_trans_l3_O s2 s11 w3 w4 x5 (Sum.inr o11)).2⟩] [.live [6, 7], .keep []] (ai (len_map TSet.D w4.sets) (ai h12 (ai (elem_map TSet.D h13) (ai (ref13_Kind_ok w3 s8 x5.expr r6 h14) (ai h15 (ai (len_map TFree.D w3.frees) (ai h16 (ai h17 (ai h18 (ai (elem_map TFree.D h19) (ai h20 (ai (ref13_trans_l3_ok rd s2 s11 w3 w4 x5 0 (Sum.inr o11) h24) (ti))))))))))))) (by kernel_rfl)
  ·
   obtain rfl := si h
   exact runB_arr mixed [(77, .int (w4.sets.length : Int)), (78, .bit false)] [] [.live [2, 3, 4, 8], .keep [3, 4]] (ai (len_map TSet.D w4.sets) (ai h12 (ti))) (by kernel_rfl)
theorem ref13_trans_l2_ok (rd : Option Nat) (s2 : Int) (w3 : TQea) (w4 : TTrans) (s8 : Int) (s11 : Int) (t : Int ⊕ Unit) (h : ref13_trans_l2 s2 w3 w4 s8 s11 = some t) : LpOf Try.prog rd (fbody Try.prog 18) [0, 1, 0, 1, 1, 1, 1] (ref13_trans_l2_I s2 w3 w4 s8 s11) ((ref13_trans_l2_O s2 w3 w4) t).1 ((ref13_trans_l2_O s2 w3 w4) t).2 :=
  loopE_lpR (fun s : Int × Int => ref13_trans_l2_I s2 w3 w4 s.1 s.2) (ref13_trans_l2_O s2 w3 w4) (by kernel_rfl) (fun t => isN_ne (by rcases t with (_ | _) <;> rfl)) (fun s o h => ref13_trans_l2_rnd rd s2 w3 w4 s.1 s.2 o h) (s := (s8, s11)) (t := t) h
theorem ref13_trans_ok (a0 : TQea) (a1 : TTrans) (a2 : Int) (r : Int × Bool) (h : ref13_trans a0 a1 a2 = some r) : ACall Try.prog 18 [.d (TQea.D a0), .d (TTrans.D a1), .d ((D.i .i64) a2)] [] (.tup [.d ((D.i .i64) r.1), .d (D.b r.2)]) [] := by
  unfold ref13_trans at h
  rcases iS h with ⟨h1, h⟩ | ⟨h1, h⟩
  ·
   obtain rfl := si h
   exact runF_call mixed [(19, .bit true)] [] [] (ai h1 (ti)) (by kernel_rfl)
  ·
   rcases iS h with ⟨h2, h⟩ | ⟨h2, h⟩
   ·
    obtain rfl := si h
    exact runF_call mixed [(19, .bit false), (24, .int (a0.states.length : Int)), (27, .bit true)] [] [] (ai h1 (ai (len_map TState.D a0.states) (ai h2 (ti)))) (by kernel_rfl)
   ·
    rcases iS h with ⟨h3, h⟩ | ⟨h3, h⟩
    ·
     obtain rfl := si h
     exact runF_call mixed [(19, .bit false), (24, .int (a0.states.length : Int)), (27, .bit false), (32, .bit true)] [] [] (ai h1 (ai (len_map TState.D a0.states) (ai h2 (ai h3 (ti))))) (by kernel_rfl)
    ·
     rcases iS h with ⟨h4, h⟩ | ⟨h4, h⟩
     ·
      obtain rfl := si h
      exact runF_call mixed [(19, .bit false), (24, .int (a0.states.length : Int)), (27, .bit false), (32, .bit false), (37, .int (a0.states.length : Int)), (40, .bit true)] [] [] (ai h1 (ai (len_map TState.D a0.states) (ai h2 (ai h3 (ai (len_map TState.D a0.states) (ai h4 (ti))))))) (by kernel_rfl)
     ·
      rcases iS h with ⟨h5, h⟩ | ⟨h5, h⟩
      ·
       obtain rfl := si h
       exact runF_call mixed [(19, .bit false), (24, .int (a0.states.length : Int)), (27, .bit false), (32, .bit false), (37, .int (a0.states.length : Int)), (40, .bit false), (45, .bit true)] [] [] (ai h1 (ai (len_map TState.D a0.states) (ai h2 (ai h3 (ai (len_map TState.D a0.states) (ai h4 (ai h5 (ti)))))))) (by kernel_rfl)
      ·
       rcases iS h with ⟨h6, h⟩ | ⟨h6, h⟩
       ·
        obtain rfl := si h
        exact runF_call mixed [(19, .bit false), (24, .int (a0.states.length : Int)), (27, .bit false), (32, .bit false), (37, .int (a0.states.length : Int)), (40, .bit false), (45, .bit false), (50, .int (a0.symbols.length : Int)), (52, .bit true)] [] [] (ai h1 (ai (len_map TState.D a0.states) (ai h2 (ai h3 (ai (len_map TState.D a0.states) (ai h4 (ai h5 (ai (len_map TSymbol.D a0.symbols) (ai h6 (ti)))))))))) (by kernel_rfl)
       ·
        obtain ⟨o2, h11, h⟩ := bS h
        replace h := sumE_some h
        rcases h with ⟨o3, rfl, h⟩ | ⟨o4, rfl, h⟩
        ·
         obtain ⟨o12, h25, h⟩ := bS h
         replace h := sumE_some h
         rcases h with ⟨o13, rfl, h⟩ | ⟨o14, rfl, h⟩
         ·
          obtain ⟨x15, h26, h⟩ := xS h
          obtain ⟨r16, h27, h⟩ := bS h
          obtain rfl := si h
          exact runF_call mixed [(19, .bit false), (24, .int (a0.states.length : Int)), (27, .bit false), (32, .bit false), (37, .int (a0.states.length : Int)), (40, .bit false), (45, .bit false), (50, .int (a0.symbols.length : Int)), (52, .bit false), (148, .el (TSymbol.D x15)), (152, .ret (.d (D.b r16)))] [⟨[1, 0, 1, 1, 1], [.live [2, 3, 4, 8, 56], .keep [3, 4]], .normal, (ref13_trans_b1_O a2 a2 (!decide (a1.guard = (-1))) a0 a1 (Sum.inl o3)).2⟩, ⟨[0, 1, 0, 1, 1, 1, 1], [.live [2, 3, 4, 8, 11], .keep [3, 4]], .exit 0, (ref13_trans_l2_O a2 a0 a1 (Sum.inl o13)).2⟩] [] (ai h1 (ai (len_map TState.D a0.states) (ai h2 (ai h3 (ai (len_map TState.D a0.states) (ai h4 (ai h5 (ai (len_map TSymbol.D a0.symbols) (ai h6 (ai (ref13_trans_b1_ok none a2 a2 (!decide (a1.guard = (-1))) a0 a1 (Sum.inl o3) h11) (ai (ref13_trans_l2_ok none a2 a0 a1 o3 0 (Sum.inl o13) h25) (ai (elem_map TSymbol.D h26) (ai (ref13_bound_ok a0 x15 a2 o13 r16 h27) (ti)))))))))))))) (by kernel_rfl)
         ·
          obtain rfl := si h
          exact runF_call mixed [(19, .bit false), (24, .int (a0.states.length : Int)), (27, .bit false), (32, .bit false), (37, .int (a0.states.length : Int)), (40, .bit false), (45, .bit false), (50, .int (a0.symbols.length : Int)), (52, .bit false)] [⟨[1, 0, 1, 1, 1], [.live [2, 3, 4, 8, 56], .keep [3, 4]], .normal, (ref13_trans_b1_O a2 a2 (!decide (a1.guard = (-1))) a0 a1 (Sum.inl o3)).2⟩, ⟨[0, 1, 0, 1, 1, 1, 1], [.live [2, 3, 4, 8, 11], .keep [3, 4]], .ret, (ref13_trans_l2_O a2 a0 a1 (Sum.inr o14)).2⟩] [] (ai h1 (ai (len_map TState.D a0.states) (ai h2 (ai h3 (ai (len_map TState.D a0.states) (ai h4 (ai h5 (ai (len_map TSymbol.D a0.symbols) (ai h6 (ai (ref13_trans_b1_ok none a2 a2 (!decide (a1.guard = (-1))) a0 a1 (Sum.inl o3) h11) (ai (ref13_trans_l2_ok none a2 a0 a1 o3 0 (Sum.inr o14) h25) (ti)))))))))))) (by kernel_rfl)
        ·
         obtain rfl := si h
         exact runF_call mixed [(19, .bit false), (24, .int (a0.states.length : Int)), (27, .bit false), (32, .bit false), (37, .int (a0.states.length : Int)), (40, .bit false), (45, .bit false), (50, .int (a0.symbols.length : Int)), (52, .bit false)] [⟨[1, 0, 1, 1, 1], [.live [2, 3, 4, 8, 56], .keep [3, 4]], .ret, (ref13_trans_b1_O a2 a2 (!decide (a1.guard = (-1))) a0 a1 (Sum.inr o4)).2⟩] [] (ai h1 (ai (len_map TState.D a0.states) (ai h2 (ai h3 (ai (len_map TState.D a0.states) (ai h4 (ai h5 (ai (len_map TSymbol.D a0.symbols) (ai h6 (ai (ref13_trans_b1_ok none a2 a2 (!decide (a1.guard = (-1))) a0 a1 (Sum.inr o4) h11) (ti))))))))))) (by kernel_rfl)
theorem ref13_arg_ok (a0 : TQea) (a1 : TArg) (a2 : Int) (r : Bool) (h : ref13_arg a0 a1 a2 = some r) : ACall Try.prog 53 [.d (TQea.D a0), .d (TArg.D a1), .d ((D.i .i64) a2)] [] (.d (D.b r)) [] := by
  unfold ref13_arg at h
  rcases iS h with ⟨h1, h⟩ | ⟨h1, h⟩
  ·
   rcases iS h with ⟨h2, h⟩ | ⟨h2, h⟩
   ·
    obtain ⟨r1, h3, h⟩ := bS h
    cases r1 with
    | true =>
     replace h := iteT h
     obtain rfl := si h
     exact runF_call mixed [(11, .bit true), (15, .bit true), (18, .ret (.d (D.b true)))] [] [] (ai h1 (ai h2 (ai (ref03_Right_ok a1.value true h3) (ti)))) (by kernel_rfl)
    | false =>
     replace h := iteF h
     obtain rfl := si h
     exact runF_call mixed [(11, .bit true), (15, .bit true), (18, .ret (.d (D.b false)))] [] [] (ai h1 (ai h2 (ai (ref03_Right_ok a1.value false h3) (ti)))) (by kernel_rfl)
   ·
    obtain rfl := si h
    exact runF_call mixed [(11, .bit true), (15, .bit false)] [] [] (ai h1 (ai h2 (ti))) (by kernel_rfl)
  ·
   rcases iS h with ⟨h5, h⟩ | ⟨h5, h⟩
   ·
    obtain rfl := si h
    exact runF_call mixed [(11, .bit false), (30, .bit true)] [] [] (ai h1 (ai h5 (ti))) (by kernel_rfl)
   ·
    rcases iS h with ⟨h6, h⟩ | ⟨h6, h⟩
    ·
     rcases iS h with ⟨h7, h⟩ | ⟨h7, h⟩
     ·
      rcases iS h with ⟨h8, h⟩ | ⟨h8, h⟩
      ·
       obtain ⟨x2, h9, h⟩ := xS h
       obtain rfl := si h
       exact runF_call mixed [(11, .bit false), (30, .bit false), (33, .bit true), (37, .bit true), (42, .int (a0.quants.length : Int)), (45, .bit true), (50, .el (TQuant.D x2))] [] [] (ai h1 (ai h5 (ai h6 (ai h7 (ai (len_map TQuant.D a0.quants) (ai h8 (ai (elem_map TQuant.D h9) (ti)))))))) (by kernel_rfl)
      ·
       obtain rfl := si h
       exact runF_call mixed [(11, .bit false), (30, .bit false), (33, .bit true), (37, .bit true), (42, .int (a0.quants.length : Int)), (45, .bit false)] [] [] (ai h1 (ai h5 (ai h6 (ai h7 (ai (len_map TQuant.D a0.quants) (ai h8 (ti))))))) (by kernel_rfl)
     ·
      obtain rfl := si h
      exact runF_call mixed [(11, .bit false), (30, .bit false), (33, .bit true), (37, .bit false)] [] [] (ai h1 (ai h5 (ai h6 (ai h7 (ti))))) (by kernel_rfl)
    ·
     rcases iS h with ⟨h10, h⟩ | ⟨h10, h⟩
     ·
      rcases iS h with ⟨h11, h⟩ | ⟨h11, h⟩
      ·
       rcases iS h with ⟨h12, h⟩ | ⟨h12, h⟩
       ·
        obtain ⟨x3, h13, h⟩ := xS h
        obtain rfl := si h
        exact runF_call mixed [(11, .bit false), (30, .bit false), (33, .bit false), (58, .bit true), (62, .bit true), (67, .int (a0.frees.length : Int)), (70, .bit true), (75, .el (TFree.D x3))] [] [] (ai h1 (ai h5 (ai h6 (ai h10 (ai h11 (ai (len_map TFree.D a0.frees) (ai h12 (ai (elem_map TFree.D h13) (ti))))))))) (by kernel_rfl)
       ·
        obtain rfl := si h
        exact runF_call mixed [(11, .bit false), (30, .bit false), (33, .bit false), (58, .bit true), (62, .bit true), (67, .int (a0.frees.length : Int)), (70, .bit false)] [] [] (ai h1 (ai h5 (ai h6 (ai h10 (ai h11 (ai (len_map TFree.D a0.frees) (ai h12 (ti)))))))) (by kernel_rfl)
      ·
       obtain rfl := si h
       exact runF_call mixed [(11, .bit false), (30, .bit false), (33, .bit false), (58, .bit true), (62, .bit false)] [] [] (ai h1 (ai h5 (ai h6 (ai h10 (ai h11 (ti)))))) (by kernel_rfl)
     ·
      rcases iS h with ⟨h14, h⟩ | ⟨h14, h⟩
      ·
       obtain rfl := si h
       exact runF_call mixed [(11, .bit false), (30, .bit false), (33, .bit false), (58, .bit false), (85, .bit true)] [] [] (ai h1 (ai h5 (ai h6 (ai h10 (ai h14 (ti)))))) (by kernel_rfl)
      ·
       obtain rfl := si h
       exact runF_call mixed [(11, .bit false), (30, .bit false), (33, .bit false), (58, .bit false), (85, .bit false)] [] [] (ai h1 (ai h5 (ai h6 (ai h10 (ai h14 (ti)))))) (by kernel_rfl)
def ref13_symbol_l1_I (w2 : TQea) (w3 : TSymbol) (s5 : Int) : St := ⟨sp 56 0 [(2, .box 2 0), (3, .box 3 0), (5, .d ((D.i .i64) s5))], [(2, .cells ((cellsA (TQea.D w2)))), (3, .cells ((cellsA (TSymbol.D w3))))], []⟩
def ref13_symbol_l1_O (w2 : TQea) (w3 : TSymbol) (o : Unit ⊕ Unit) : Ex × St := match o with
  | .inl o => (.exit 0, ⟨sp 56 0 [], [], []⟩)
  | .inr o => (.ret, ⟨sp 56 0 [(4, .d (D.b false))], [], []⟩)
theorem ref13_symbol_l1_rnd (rd : Option Nat) (w2 : TQea) (w3 : TSymbol) (s5 : Int) (o : (Int) ⊕ (Unit ⊕ Unit)) (h : ref13_symbol_l1_s w2 w3 s5 = some o) : Arr Try.prog rd (fbody Try.prog 36) (0 :: [0, 1, 0, 1, 1]) (ref13_symbol_l1_I w2 w3 s5) (rR (fun s : Int => ref13_symbol_l1_I w2 w3 s) (ref13_symbol_l1_O w2 w3) o).1 (rR (fun s : Int => ref13_symbol_l1_I w2 w3 s) (ref13_symbol_l1_O w2 w3) o).2 := by
  unfold ref13_symbol_l1_s at h
  rcases iS h with ⟨h5, h⟩ | ⟨h5, h⟩
  ·
   obtain ⟨x2, h6, h⟩ := xS h
   obtain ⟨x3, h7, h⟩ := xS h
   obtain ⟨x4, h8, h⟩ := xS h
   obtain ⟨r5, h9, h⟩ := bS h
   rcases iS h with ⟨h10, h⟩ | ⟨h10, h⟩
   ·
    obtain rfl := si h
    exact runB_arr mixed [(34, .int (w3.args.length : Int)), (35, .bit true), (42, .el (TArg.D x2)), (48, .el (TDecl.D x3)), (52, .el ((D.i .i64) x4)), (54, .ret (.d (D.b r5))), (55, .bit true)] [] [.live [4], .keep []] (ai (len_map TArg.D w3.args) (ai h5 (ai (elem_map TArg.D h6) (ai (elem_map TDecl.D h7) (ai (elem_map (D.i .i64) h8) (ai (ref13_arg_ok w2 x2 x4 r5 h9) (ai h10 (ti)))))))) (by kernel_rfl)
   ·
    obtain rfl := si h
    exact runB_arr mixed [(34, .int (w3.args.length : Int)), (35, .bit true), (42, .el (TArg.D x2)), (48, .el (TDecl.D x3)), (52, .el ((D.i .i64) x4)), (54, .ret (.d (D.b r5))), (55, .bit false)] [] [.live [2, 3, 5], .keep [2, 3]] (ai (len_map TArg.D w3.args) (ai h5 (ai (elem_map TArg.D h6) (ai (elem_map TDecl.D h7) (ai (elem_map (D.i .i64) h8) (ai (ref13_arg_ok w2 x2 x4 r5 h9) (ai h10 (ti)))))))) (by kernel_rfl)
  ·
   obtain rfl := si h
   exact runB_arr mixed [(34, .int (w3.args.length : Int)), (35, .bit false)] [] [.live [], .keep []] (ai (len_map TArg.D w3.args) (ai h5 (ti))) (by kernel_rfl)
theorem ref13_symbol_l1_ok (rd : Option Nat) (w2 : TQea) (w3 : TSymbol) (s5 : Int) (t : Unit ⊕ Unit) (h : ref13_symbol_l1 w2 w3 s5 = some t) : LpOf Try.prog rd (fbody Try.prog 36) [0, 1, 0, 1, 1] (ref13_symbol_l1_I w2 w3 s5) ((ref13_symbol_l1_O w2 w3) t).1 ((ref13_symbol_l1_O w2 w3) t).2 :=
  loopE_lpR (fun s : Int => ref13_symbol_l1_I w2 w3 s) (ref13_symbol_l1_O w2 w3) (by kernel_rfl) (fun t => isN_ne (by rcases t with (_ | _) <;> rfl)) (fun s o h => ref13_symbol_l1_rnd rd w2 w3 s o h) (s := s5) (t := t) h
theorem ref13_symbol_ok (a0 : TQea) (a1 : TSymbol) (r : Bool) (h : ref13_symbol a0 a1 = some r) : ACall Try.prog 36 [.d (TQea.D a0), .d (TSymbol.D a1)] [] (.d (D.b r)) [] := by
  unfold ref13_symbol at h
  rcases iS h with ⟨h1, h⟩ | ⟨h1, h⟩
  ·
   obtain rfl := si h
   exact runF_call mixed [(9, .bit true)] [] [] (ai h1 (ti)) (by kernel_rfl)
  ·
   rcases iS h with ⟨h2, h⟩ | ⟨h2, h⟩
   ·
    obtain rfl := si h
    exact runF_call mixed [(9, .bit false), (14, .int (a0.decls.length : Int)), (17, .bit true)] [] [] (ai h1 (ai (len_map TDecl.D a0.decls) (ai h2 (ti)))) (by kernel_rfl)
   ·
    obtain ⟨x1, h3, h⟩ := xS h
    rcases iS h with ⟨h4, h⟩ | ⟨h4, h⟩
    ·
     obtain rfl := si h
     exact runF_call mixed [(9, .bit false), (14, .int (a0.decls.length : Int)), (17, .bit false), (20, .int (a1.args.length : Int)), (25, .el (TDecl.D x1)), (28, .int (x1.types.length : Int)), (30, .bit true)] [] [] (ai h1 (ai (len_map TDecl.D a0.decls) (ai h2 (ai (len_map TArg.D a1.args) (ai (elem_map TDecl.D h3) (ai (len_map (D.i .i64) x1.types) (ai h4 (ti)))))))) (by kernel_rfl)
    ·
     obtain ⟨o6, h11, h⟩ := bS h
     replace h := sumE_some h
     rcases h with ⟨o7, rfl, h⟩ | ⟨o8, rfl, h⟩
     ·
      obtain rfl := si h
      exact runF_call mixed [(9, .bit false), (14, .int (a0.decls.length : Int)), (17, .bit false), (20, .int (a1.args.length : Int)), (25, .el (TDecl.D x1)), (28, .int (x1.types.length : Int)), (30, .bit false)] [⟨[0, 1, 0, 1, 1], [.live [2, 3, 5], .keep [2, 3]], .exit 0, (ref13_symbol_l1_O a0 a1 (Sum.inl o7)).2⟩] [] (ai h1 (ai (len_map TDecl.D a0.decls) (ai h2 (ai (len_map TArg.D a1.args) (ai (elem_map TDecl.D h3) (ai (len_map (D.i .i64) x1.types) (ai h4 (ai (ref13_symbol_l1_ok none a0 a1 0 (Sum.inl o7) h11) (ti))))))))) (by kernel_rfl)
     ·
      obtain rfl := si h
      exact runF_call mixed [(9, .bit false), (14, .int (a0.decls.length : Int)), (17, .bit false), (20, .int (a1.args.length : Int)), (25, .el (TDecl.D x1)), (28, .int (x1.types.length : Int)), (30, .bit false)] [⟨[0, 1, 0, 1, 1], [.live [2, 3, 5], .keep [2, 3]], .ret, (ref13_symbol_l1_O a0 a1 (Sum.inr o8)).2⟩] [] (ai h1 (ai (len_map TDecl.D a0.decls) (ai h2 (ai (len_map TArg.D a1.args) (ai (elem_map TDecl.D h3) (ai (len_map (D.i .i64) x1.types) (ai h4 (ai (ref13_symbol_l1_ok none a0 a1 0 (Sum.inr o8) h11) (ti))))))))) (by kernel_rfl)
def ref13_SameSymbol_l1_I (w2 : TSymbol) (w3 : TSymbol) (s5 : Int) : St := ⟨sp 38 0 [(2, .box 2 0), (3, .box 3 0), (5, .d ((D.i .i64) s5))], [(2, .cells ((cellsA (TSymbol.D w2)))), (3, .cells ((cellsA (TSymbol.D w3))))], []⟩
def ref13_SameSymbol_l1_O (w2 : TSymbol) (w3 : TSymbol) (o : Unit ⊕ Unit) : Ex × St := match o with
  | .inl o => (.exit 0, ⟨sp 38 0 [], [], []⟩)
  | .inr o => (.ret, ⟨sp 38 0 [(4, .d (D.b false))], [], []⟩)
theorem ref13_SameSymbol_l1_rnd (rd : Option Nat) (w2 : TSymbol) (w3 : TSymbol) (s5 : Int) (o : (Int) ⊕ (Unit ⊕ Unit)) (h : ref13_SameSymbol_l1_s w2 w3 s5 = some o) : Arr Try.prog rd (fbody Try.prog 37) (0 :: [0, 1, 0, 1, 1]) (ref13_SameSymbol_l1_I w2 w3 s5) (rR (fun s : Int => ref13_SameSymbol_l1_I w2 w3 s) (ref13_SameSymbol_l1_O w2 w3) o).1 (rR (fun s : Int => ref13_SameSymbol_l1_I w2 w3 s) (ref13_SameSymbol_l1_O w2 w3) o).2 := by
  unfold ref13_SameSymbol_l1_s at h
  rcases iS h with ⟨h3, h⟩ | ⟨h3, h⟩
  ·
   obtain ⟨x1, h4, h⟩ := xS h
   obtain ⟨x2, h5, h⟩ := xS h
   rcases iS h with ⟨h6, h⟩ | ⟨h6, h⟩
   ·
    obtain rfl := si h
    exact runB_arr mixed [(23, .int (w2.args.length : Int)), (24, .bit true), (30, .el (TArg.D x1)), (35, .el (TArg.D x2)), (37, .bit true)] [] [.live [4], .keep []] (ai (len_map TArg.D w2.args) (ai h3 (ai (elem_map TArg.D h4) (ai (elem_map TArg.D h5) (ai h6 (ti)))))) (by kernel_rfl)
   ·
    obtain rfl := si h
    exact runB_arr mixed [(23, .int (w2.args.length : Int)), (24, .bit true), (30, .el (TArg.D x1)), (35, .el (TArg.D x2)), (37, .bit false)] [] [.live [2, 3, 5], .keep [2, 3]] (ai (len_map TArg.D w2.args) (ai h3 (ai (elem_map TArg.D h4) (ai (elem_map TArg.D h5) (ai h6 (ti)))))) (by kernel_rfl)
  ·
   obtain rfl := si h
   exact runB_arr mixed [(23, .int (w2.args.length : Int)), (24, .bit false)] [] [.live [], .keep []] (ai (len_map TArg.D w2.args) (ai h3 (ti))) (by kernel_rfl)
theorem ref13_SameSymbol_l1_ok (rd : Option Nat) (w2 : TSymbol) (w3 : TSymbol) (s5 : Int) (t : Unit ⊕ Unit) (h : ref13_SameSymbol_l1 w2 w3 s5 = some t) : LpOf Try.prog rd (fbody Try.prog 37) [0, 1, 0, 1, 1] (ref13_SameSymbol_l1_I w2 w3 s5) ((ref13_SameSymbol_l1_O w2 w3) t).1 ((ref13_SameSymbol_l1_O w2 w3) t).2 :=
  loopE_lpR (fun s : Int => ref13_SameSymbol_l1_I w2 w3 s) (ref13_SameSymbol_l1_O w2 w3) (by kernel_rfl) (fun t => isN_ne (by rcases t with (_ | _) <;> rfl)) (fun s o h => ref13_SameSymbol_l1_rnd rd w2 w3 s o h) (s := s5) (t := t) h
theorem ref13_SameSymbol_ok (a0 : TSymbol) (a1 : TSymbol) (r : Bool) (h : ref13_SameSymbol a0 a1 = some r) : ACall Try.prog 37 [.d (TSymbol.D a0), .d (TSymbol.D a1)] [] (.d (D.b r)) [] := by
  unfold ref13_SameSymbol at h
  rcases iS h with ⟨h1, h⟩ | ⟨h1, h⟩
  ·
   obtain rfl := si h
   exact runF_call mixed [(11, .bit true)] [] [] (ai h1 (ti)) (by kernel_rfl)
  ·
   rcases iS h with ⟨h2, h⟩ | ⟨h2, h⟩
   ·
    obtain rfl := si h
    exact runF_call mixed [(11, .bit false), (14, .int (a0.args.length : Int)), (17, .int (a1.args.length : Int)), (19, .bit true)] [] [] (ai h1 (ai (len_map TArg.D a0.args) (ai (len_map TArg.D a1.args) (ai h2 (ti))))) (by kernel_rfl)
   ·
    obtain ⟨o3, h7, h⟩ := bS h
    replace h := sumE_some h
    rcases h with ⟨o4, rfl, h⟩ | ⟨o5, rfl, h⟩
    ·
     obtain rfl := si h
     exact runF_call mixed [(11, .bit false), (14, .int (a0.args.length : Int)), (17, .int (a1.args.length : Int)), (19, .bit false)] [⟨[0, 1, 0, 1, 1], [.live [2, 3, 5], .keep [2, 3]], .exit 0, (ref13_SameSymbol_l1_O a0 a1 (Sum.inl o4)).2⟩] [] (ai h1 (ai (len_map TArg.D a0.args) (ai (len_map TArg.D a1.args) (ai h2 (ai (ref13_SameSymbol_l1_ok none a0 a1 0 (Sum.inl o4) h7) (ti)))))) (by kernel_rfl)
    ·
     obtain rfl := si h
     exact runF_call mixed [(11, .bit false), (14, .int (a0.args.length : Int)), (17, .int (a1.args.length : Int)), (19, .bit false)] [⟨[0, 1, 0, 1, 1], [.live [2, 3, 5], .keep [2, 3]], .ret, (ref13_SameSymbol_l1_O a0 a1 (Sum.inr o5)).2⟩] [] (ai h1 (ai (len_map TArg.D a0.args) (ai (len_map TArg.D a1.args) (ai h2 (ai (ref13_SameSymbol_l1_ok none a0 a1 0 (Sum.inr o5) h7) (ti)))))) (by kernel_rfl)
def ref13_symbols_b5_I (s5 : Int) (s6 : Int) (s34 : Bool) (w1 : TQea) (w3 : List Bool) (w4 : List Int) : St := ⟨sp 118 0 [(1, .box 1 0), (3, .row 3), (4, .row 4), (5, .d ((D.i .i64) s5)), (6, .d ((D.i .i64) s6)), (34, .d (D.b s34))], [(1, .cells ((cellsA (TQea.D w1)))), (3, .buf true 4 1 (w3.map D.b)), (4, .row 3 1 (w4.map (D.i .i64)))], []⟩
def ref13_symbols_b5_O (s5 : Int) (s6 : Int) (s34 : Bool) (w1 : TQea) (w3 : List Bool) (w4 : List Int) (o : (List Int)) : Ex × St := (.normal, ⟨sp 118 0 [(1, .box 1 0), (3, .row 3), (4, .row 4), (5, .d ((D.i .i64) s5)), (6, .d ((D.i .i64) s6))], [(1, .cells ((cellsA (TQea.D w1)))), (3, .buf true 4 1 (w3.map D.b)), (4, .row 3 1 (o.map (D.i .i64)))], []⟩)
theorem ref13_symbols_b5_ok (rd : Option Nat) (s5 : Int) (s6 : Int) (s34 : Bool) (w1 : TQea) (w3 : List Bool) (w4 : List Int) (o : (List Int)) (h : ref13_symbols_b5 s5 s6 s34 w1 w3 w4 = some o) : LpOf Try.prog rd (fbody Try.prog 19) [1, 0, 1, 0, 0, 1, 0, 0, 1, 0, 1, 1, 1] (ref13_symbols_b5_I s5 s6 s34 w1 w3 w4) (ref13_symbols_b5_O s5 s6 s34 w1 w3 w4 o).1 (ref13_symbols_b5_O s5 s6 s34 w1 w3 w4 o).2 := by
  unfold ref13_symbols_b5 at h
  cases s34 with
  | true =>
   replace h := iteT h
   obtain ⟨h17, h⟩ := cS h
   obtain rfl := si h
   exact (runB_arr mixed [(38, .sl ((w4 ++ [s6]).map (D.i .i64)))] [] [.live [1, 3, 4, 5, 6], .keep [1, 3, 38], .ren 38 4, .sort] (ai (nc_ok (D.i .i64) [s6]) (ai (nc_ok (D.i .i64) [s6]) (ai (fit_map (D.i .i64) h17) (ai (app_map (D.i .i64) w4 [s6]) (ti))))) (by kernel_rfl)).lp
  | false =>
   replace h := iteF h
   obtain rfl := si h
   exact (runB_arr mixed [] [] [.live [1, 3, 4, 5, 6], .keep [1, 3, 4]] (ti) (by kernel_rfl)).lp
def ref13_symbols_b4_I (s5 : Int) (w1 : TQea) (w3 : List Bool) (w4 : List Int) : St := ⟨sp 118 0 [(1, .box 1 0), (3, .row 3), (4, .row 4), (5, .d ((D.i .i64) s5))], [(1, .cells ((cellsA (TQea.D w1)))), (3, .buf true 4 1 (w3.map D.b)), (4, .row 3 1 (w4.map (D.i .i64)))], []⟩
def ref13_symbols_b4_O (s5 : Int) (w1 : TQea) (w3 : List Bool) (w4 : List Int) (o : (List Bool × List Int)) : Ex × St := (.normal, ⟨sp 118 0 [(1, .box 1 0), (3, .row 3), (4, .row 4), (5, .d ((D.i .i64) s5))], [(1, .cells ((cellsA (TQea.D w1)))), (3, .buf true 4 1 (o.1.map D.b)), (4, .row 3 1 (o.2.map (D.i .i64)))], []⟩)
theorem ref13_symbols_b4_ok (rd : Option Nat) (s5 : Int) (w1 : TQea) (w3 : List Bool) (w4 : List Int) (o : (List Bool × List Int)) (h : ref13_symbols_b4 s5 w1 w3 w4 = some o) : LpOf Try.prog rd (fbody Try.prog 19) [0, 1, 0, 0, 1, 0, 1, 1, 1] (ref13_symbols_b4_I s5 w1 w3 w4) (ref13_symbols_b4_O s5 w1 w3 w4 o).1 (ref13_symbols_b4_O s5 w1 w3 w4 o).2 := by
  unfold ref13_symbols_b4 at h
  obtain ⟨x5, h13, h⟩ := xS h
  obtain ⟨h14, h⟩ := cS h
  obtain ⟨x6, h15, h⟩ := xS h
  obtain ⟨o7, h18, h⟩ := bS h
  obtain ⟨h19, h⟩ := cS h
  obtain ⟨h20, h⟩ := cS h
  obtain rfl := si h
  exact (runB_arr mixed [(27, .el (TTrans.D x5)), (33, .el (D.b x6)), (10041, .sl ((w3.set x5.symbol.toNat true).map D.b))] [⟨[1, 0, 1, 0, 0, 1, 0, 0, 1, 0, 1, 1, 1], [.live [1, 3, 4, 5, 6, 34], .keep [1, 3, 4]], .normal, (ref13_symbols_b5_O s5 x5.symbol (!x6) w1 w3 w4 o7).2⟩] [.live [1, 3, 4, 5], .keep [1, 3, 4]] (ai (elem_map TTrans.D h13) (ai h14.1 (ai (le_map D.b h14.2) (ai (elem_ep D.b h15) (ai (ref13_symbols_b5_ok rd s5 x5.symbol (!x6) w1 w3 w4 o7 h18) (ai h19.1 (ai (le_map D.b h19.2) (ai (le_ep D.b h20) (ai (upd_map D.b w3 x5.symbol true) (ti)))))))))) (by kernel_rfl)).lp
def ref13_symbols_l1_I (w1 : TQea) (s5 : Int) (w3 : List Bool) (w4 : List Int) : St := ⟨sp 118 0 [(1, .box 1 0), (3, .row 3), (4, .row 4), (5, .d ((D.i .i64) s5))], [(1, .cells ((cellsA (TQea.D w1)))), (3, .buf true 4 1 (w3.map D.b)), (4, .row 3 1 (w4.map (D.i .i64)))], []⟩
def ref13_symbols_l1_O (w1 : TQea) (o : (List Int)) : Ex × St := (.exit 0, ⟨sp 118 0 [(1, .box 1 0), (4, .row 4)], [(1, .cells ((cellsA (TQea.D w1)))), (4, .row 3 1 (o.map (D.i .i64)))], []⟩)
theorem ref13_symbols_l1_rnd (rd : Option Nat) (w1 : TQea) (s5 : Int) (w3 : List Bool) (w4 : List Int) (o : (Int × List Bool × List Int) ⊕ ((List Int))) (h : ref13_symbols_l1_s w1 s5 w3 w4 = some o) : Arr Try.prog rd (fbody Try.prog 19) (0 :: [0, 1, 0, 1, 1, 1]) (ref13_symbols_l1_I w1 s5 w3 w4) (rR (fun s : Int × List Bool × List Int => ref13_symbols_l1_I w1 s.1 s.2.1 s.2.2) (ref13_symbols_l1_O w1) o).1 (rR (fun s : Int × List Bool × List Int => ref13_symbols_l1_I w1 s.1 s.2.1 s.2.2) (ref13_symbols_l1_O w1) o).2 := by
  unfold ref13_symbols_l1_s at h
  rcases iS h with ⟨h12, h⟩ | ⟨h12, h⟩
  ·
   obtain ⟨o8, h21, h⟩ := bS h
   obtain rfl := si h
   exact runB_arr mixed [(20, .int (w1.trans.length : Int)), (21, .bit true)] [⟨[0, 1, 0, 0, 1, 0, 1, 1, 1], [.live [1, 3, 4, 5], .keep [1, 3, 4]], .normal, (ref13_symbols_b4_O s5 w1 w3 w4 o8).2⟩] [.live [1, 3, 4, 5], .keep [1, 3, 4]] (ai (len_map TTrans.D w1.trans) (ai h12 (ai (ref13_symbols_b4_ok rd s5 w1 w3 w4 o8 h21) (ti)))) (by kernel_rfl)
  ·
   obtain rfl := si h
   exact runB_arr mixed [(20, .int (w1.trans.length : Int)), (21, .bit false)] [] [.live [1, 4], .keep [1, 4]] (ai (len_map TTrans.D w1.trans) (ai h12 (ti))) (by kernel_rfl)
theorem ref13_symbols_l1_ok (rd : Option Nat) (w1 : TQea) (s5 : Int) (w3 : List Bool) (w4 : List Int) (t : (List Int)) (h : ref13_symbols_l1 w1 s5 w3 w4 = some t) : LpOf Try.prog rd (fbody Try.prog 19) [0, 1, 0, 1, 1, 1] (ref13_symbols_l1_I w1 s5 w3 w4) ((ref13_symbols_l1_O w1) t).1 ((ref13_symbols_l1_O w1) t).2 :=
  loopE_lpR (fun s : Int × List Bool × List Int => ref13_symbols_l1_I w1 s.1 s.2.1 s.2.2) (ref13_symbols_l1_O w1) (by kernel_rfl) (fun t => isN_ne (by rfl)) (fun s o h => ref13_symbols_l1_rnd rd w1 s.1 s.2.1 s.2.2 o h) (s := (s5, w3, w4)) (t := t) h
def ref13_symbols_l6_I (w1 : TQea) (w4 : List Int) (s7 : Int) : St := ⟨sp 118 0 [(1, .box 1 0), (4, .row 4), (7, .d ((D.i .i64) s7))], [(1, .cells ((cellsA (TQea.D w1)))), (4, .row 3 1 (w4.map (D.i .i64)))], []⟩
def ref13_symbols_l6_O (w1 : TQea) (w4 : List Int) (o : Unit ⊕ Unit) : Ex × St := match o with
  | .inl o => (.exit 2, ⟨sp 118 0 [(1, .box 1 0)], [(1, .cells ((cellsA (TQea.D w1))))], []⟩)
  | .inr o => (.ret, ⟨sp 118 0 [(2, .d (D.b false))], [], []⟩)
theorem ref13_symbols_l6_rnd (rd : Option Nat) (w1 : TQea) (w4 : List Int) (s7 : Int) (o : (Int) ⊕ (Unit ⊕ Unit)) (h : ref13_symbols_l6_s w1 w4 s7 = some o) : Arr Try.prog rd (fbody Try.prog 19) (0 :: [0, 1, 0, 1, 1, 1, 1]) (ref13_symbols_l6_I w1 w4 s7) (rR (fun s : Int => ref13_symbols_l6_I w1 w4 s) (ref13_symbols_l6_O w1 w4) o).1 (rR (fun s : Int => ref13_symbols_l6_I w1 w4 s) (ref13_symbols_l6_O w1 w4) o).2 := by
  unfold ref13_symbols_l6_s at h
  rcases iS h with ⟨h23, h⟩ | ⟨h23, h⟩
  ·
   obtain ⟨x10, h24, h⟩ := xS h
   rcases iS h with ⟨h25, h⟩ | ⟨h25, h⟩
   ·
    obtain rfl := si h
    exact runB_arr mixed [(44, .int (w4.length : Int)), (45, .bit true), (50, .el ((D.i .i64) x10)), (54, .int (w1.symbols.length : Int)), (56, .int (w4.length : Int)), (60, .bit true)] [] [.live [2], .keep []] (ai (len_map (D.i .i64) w4) (ai h23 (ai (elem_map (D.i .i64) h24) (ai (len_map TSymbol.D w1.symbols) (ai (len_map (D.i .i64) w4) (ai h25 (ti))))))) (by kernel_rfl)
   ·
    obtain rfl := si h
    exact runB_arr mixed [(44, .int (w4.length : Int)), (45, .bit true), (50, .el ((D.i .i64) x10)), (54, .int (w1.symbols.length : Int)), (56, .int (w4.length : Int)), (60, .bit false)] [] [.live [1, 4, 7], .keep [1, 4]] (ai (len_map (D.i .i64) w4) (ai h23 (ai (elem_map (D.i .i64) h24) (ai (len_map TSymbol.D w1.symbols) (ai (len_map (D.i .i64) w4) (ai h25 (ti))))))) (by kernel_rfl)
  ·
   obtain rfl := si h
   exact runB_arr mixed [(44, .int (w4.length : Int)), (45, .bit false)] [] [.live [1], .keep [1]] (ai (len_map (D.i .i64) w4) (ai h23 (ti))) (by kernel_rfl)
theorem ref13_symbols_l6_ok (rd : Option Nat) (w1 : TQea) (w4 : List Int) (s7 : Int) (t : Unit ⊕ Unit) (h : ref13_symbols_l6 w1 w4 s7 = some t) : LpOf Try.prog rd (fbody Try.prog 19) [0, 1, 0, 1, 1, 1, 1] (ref13_symbols_l6_I w1 w4 s7) ((ref13_symbols_l6_O w1 w4) t).1 ((ref13_symbols_l6_O w1 w4) t).2 :=
  loopE_lpR (fun s : Int => ref13_symbols_l6_I w1 w4 s) (ref13_symbols_l6_O w1 w4) (by kernel_rfl) (fun t => isN_ne (by rcases t with (_ | _) <;> rfl)) (fun s o h => ref13_symbols_l6_rnd rd w1 w4 s o h) (s := s7) (t := t) h
def ref13_symbols_l8_I (s8 : Int) (w1 : TQea) (s9 : Int) : St := ⟨sp 118 0 [(1, .box 1 0), (8, .d ((D.i .i64) s8)), (9, .d ((D.i .i64) s9))], [(1, .cells ((cellsA (TQea.D w1))))], []⟩
def ref13_symbols_l8_O (s8 : Int) (w1 : TQea) (o : Unit ⊕ Unit) : Ex × St := match o with
  | .inl o => (.exit 6, ⟨sp 118 0 [(1, .box 1 0), (8, .d ((D.i .i64) s8))], [(1, .cells ((cellsA (TQea.D w1))))], []⟩)
  | .inr o => (.ret, ⟨sp 118 0 [(2, .d (D.b false))], [], []⟩)
theorem ref13_symbols_l8_rnd (rd : Option Nat) (s8 : Int) (w1 : TQea) (s9 : Int) (o : (Int) ⊕ (Unit ⊕ Unit)) (h : ref13_symbols_l8_s s8 w1 s9 = some o) : Arr Try.prog rd (fbody Try.prog 19) (0 :: [0, 1, 1, 0, 0, 1, 0, 0, 1, 0, 1, 1, 1, 1, 1]) (ref13_symbols_l8_I s8 w1 s9) (rR (fun s : Int => ref13_symbols_l8_I s8 w1 s) (ref13_symbols_l8_O s8 w1) o).1 (rR (fun s : Int => ref13_symbols_l8_I s8 w1 s) (ref13_symbols_l8_O s8 w1) o).2 := by
  unfold ref13_symbols_l8_s at h
  rcases iS h with ⟨h31, h⟩ | ⟨h31, h⟩
  ·
   obtain ⟨x16, h32, h⟩ := xS h
   obtain ⟨x17, h33, h⟩ := xS h
   obtain ⟨r18, h34, h⟩ := bS h
   cases r18 with
   | true =>
    replace h := iteT h
    obtain rfl := si h
    exact runB_arr mixed [(78, .bit true), (84, .el (TSymbol.D x16)), (89, .el (TSymbol.D x17)), (91, .ret (.d (D.b true)))] [] [.live [2], .keep []] (ai h31 (ai (elem_map TSymbol.D h32) (ai (elem_map TSymbol.D h33) (ai (ref13_SameSymbol_ok x16 x17 true h34) (ti))))) (by kernel_rfl)
   | false =>
    replace h := iteF h
    obtain rfl := si h
    exact runB_arr mixed [(78, .bit true), (84, .el (TSymbol.D x16)), (89, .el (TSymbol.D x17)), (91, .ret (.d (D.b false)))] [] [.live [1, 8, 9], .keep [1]] (ai h31 (ai (elem_map TSymbol.D h32) (ai (elem_map TSymbol.D h33) (ai (ref13_SameSymbol_ok x16 x17 false h34) (ti))))) (by kernel_rfl)
  ·
   obtain rfl := si h
   exact runB_arr mixed [(78, .bit false)] [] [.live [1, 8], .keep [1]] (ai h31 (ti)) (by kernel_rfl)
theorem ref13_symbols_l8_ok (rd : Option Nat) (s8 : Int) (w1 : TQea) (s9 : Int) (t : Unit ⊕ Unit) (h : ref13_symbols_l8 s8 w1 s9 = some t) : LpOf Try.prog rd (fbody Try.prog 19) [0, 1, 1, 0, 0, 1, 0, 0, 1, 0, 1, 1, 1, 1, 1] (ref13_symbols_l8_I s8 w1 s9) ((ref13_symbols_l8_O s8 w1) t).1 ((ref13_symbols_l8_O s8 w1) t).2 :=
  loopE_lpR (fun s : Int => ref13_symbols_l8_I s8 w1 s) (ref13_symbols_l8_O s8 w1) (by kernel_rfl) (fun t => isN_ne (by rcases t with (_ | _) <;> rfl)) (fun s o h => ref13_symbols_l8_rnd rd s8 w1 s o h) (s := s9) (t := t) h
def ref13_symbols_l7_I (w1 : TQea) (s8 : Int) : St := ⟨sp 118 0 [(1, .box 1 0), (8, .d ((D.i .i64) s8))], [(1, .cells ((cellsA (TQea.D w1))))], []⟩
def ref13_symbols_l7_O (w1 : TQea) (o : Unit ⊕ Unit) : Ex × St := match o with
  | .inl o => (.exit 4, ⟨sp 118 0 [(1, .box 1 0)], [(1, .cells ((cellsA (TQea.D w1))))], []⟩)
  | .inr o => (.ret, ⟨sp 118 0 [(2, .d (D.b false))], [], []⟩)
theorem ref13_symbols_l7_rnd (rd : Option Nat) (w1 : TQea) (s8 : Int) (o : (Int) ⊕ (Unit ⊕ Unit)) (h : ref13_symbols_l7_s w1 s8 = some o) : Arr Try.prog rd (fbody Try.prog 19) (0 :: [0, 1, 0, 1, 1, 1, 1, 1]) (ref13_symbols_l7_I w1 s8) (rR (fun s : Int => ref13_symbols_l7_I w1 s) (ref13_symbols_l7_O w1) o).1 (rR (fun s : Int => ref13_symbols_l7_I w1 s) (ref13_symbols_l7_O w1) o).2 := by
  unfold ref13_symbols_l7_s at h
  rcases iS h with ⟨h27, h⟩ | ⟨h27, h⟩
  ·
   obtain ⟨x14, h28, h⟩ := xS h
   obtain ⟨r15, h29, h⟩ := bS h
   rcases iS h with ⟨h30, h⟩ | ⟨h30, h⟩
   ·
    obtain rfl := si h
    exact runB_arr mixed [(64, .int (w1.symbols.length : Int)), (65, .bit true), (72, .el (TSymbol.D x14)), (74, .ret (.d (D.b r15))), (75, .bit true)] [] [.live [2], .keep []] (ai (len_map TSymbol.D w1.symbols) (ai h27 (ai (elem_map TSymbol.D h28) (ai (ref13_symbol_ok w1 x14 r15 h29) (ai h30 (ti)))))) (by kernel_rfl)
   ·
    obtain ⟨o19, h36, h⟩ := bS h
    replace h := sumE_some h
    rcases h with ⟨o20, rfl, h⟩ | ⟨o21, rfl, h⟩
    ·
     obtain rfl := si h
     exact runB_arr mixed [(64, .int (w1.symbols.length : Int)), (65, .bit true), (72, .el (TSymbol.D x14)), (74, .ret (.d (D.b r15))), (75, .bit false)] [⟨[0, 1, 1, 0, 0, 1, 0, 0, 1, 0, 1, 1, 1, 1, 1], [.live [1, 8, 9], .keep [1]], .exit 6, (ref13_symbols_l8_O s8 w1 (Sum.inl o20)).2⟩] [.live [1, 8], .keep [1]] (ai (len_map TSymbol.D w1.symbols) (ai h27 (ai (elem_map TSymbol.D h28) (ai (ref13_symbol_ok w1 x14 r15 h29) (ai h30 (ai (ref13_symbols_l8_ok rd s8 w1 0 (Sum.inl o20) h36) (ti))))))) (by kernel_rfl)
    ·
     obtain rfl := si h
     exact runB_arr mixed [(64, .int (w1.symbols.length : Int)), (65, .bit true), (72, .el (TSymbol.D x14)), (74, .ret (.d (D.b r15))), (75, .bit false)] [⟨[0, 1, 1, 0, 0, 1, 0, 0, 1, 0, 1, 1, 1, 1, 1], [.live [1, 8, 9], .keep [1]], .ret, (ref13_symbols_l8_O s8 w1 (Sum.inr o21)).2⟩] [.live [2], .keep []] (ai (len_map TSymbol.D w1.symbols) (ai h27 (ai (elem_map TSymbol.D h28) (ai (ref13_symbol_ok w1 x14 r15 h29) (ai h30 (ai (ref13_symbols_l8_ok rd s8 w1 0 (Sum.inr o21) h36) (ti))))))) (by kernel_rfl)
  ·
   obtain rfl := si h
   exact runB_arr mixed [(64, .int (w1.symbols.length : Int)), (65, .bit false)] [] [.live [1], .keep [1]] (ai (len_map TSymbol.D w1.symbols) (ai h27 (ti))) (by kernel_rfl)
theorem ref13_symbols_l7_ok (rd : Option Nat) (w1 : TQea) (s8 : Int) (t : Unit ⊕ Unit) (h : ref13_symbols_l7 w1 s8 = some t) : LpOf Try.prog rd (fbody Try.prog 19) [0, 1, 0, 1, 1, 1, 1, 1] (ref13_symbols_l7_I w1 s8) ((ref13_symbols_l7_O w1) t).1 ((ref13_symbols_l7_O w1) t).2 :=
  loopE_lpR (fun s : Int => ref13_symbols_l7_I w1 s) (ref13_symbols_l7_O w1) (by kernel_rfl) (fun t => isN_ne (by rcases t with (_ | _) <;> rfl)) (fun s o h => ref13_symbols_l7_rnd rd w1 s o h) (s := s8) (t := t) h
def ref13_symbols_l10_I (s10 : Int) (w1 : TQea) (s11 : Bool) (s12 : Int) : St := ⟨sp 118 0 [(1, .box 1 0), (10, .d ((D.i .i64) s10)), (11, .d (D.b s11)), (12, .d ((D.i .i64) s12))], [(1, .cells ((cellsA (TQea.D w1))))], []⟩
def ref13_symbols_l10_O (s10 : Int) (w1 : TQea) (o : Bool) : Ex × St := (.exit 10, ⟨sp 118 0 [(1, .box 1 0), (10, .d ((D.i .i64) s10)), (11, .d (D.b o))], [(1, .cells ((cellsA (TQea.D w1))))], []⟩)
theorem ref13_symbols_l10_rnd (rd : Option Nat) (s10 : Int) (w1 : TQea) (s11 : Bool) (s12 : Int) (o : (Bool × Int) ⊕ (Bool)) (h : ref13_symbols_l10_s s10 w1 s11 s12 = some o) : Arr Try.prog rd (fbody Try.prog 19) (0 :: [0, 1, 0, 1, 0, 0, 1, 0, 0, 1, 0, 1, 1, 1, 1, 1, 1]) (ref13_symbols_l10_I s10 w1 s11 s12) (rR (fun s : Bool × Int => ref13_symbols_l10_I s10 w1 s.1 s.2) (ref13_symbols_l10_O s10 w1) o).1 (rR (fun s : Bool × Int => ref13_symbols_l10_I s10 w1 s.1 s.2) (ref13_symbols_l10_O s10 w1) o).2 := by
  unfold ref13_symbols_l10_s at h
  rcases iS h with ⟨h39, h⟩ | ⟨h39, h⟩
  ·
   rcases iS h with ⟨h40, h⟩ | ⟨h40, h⟩
   ·
    obtain rfl := si h
    exact runB_arr mixed [(102, .int (w1.symbols.length : Int)), (103, .bit true), (107, .bit true)] [] [.live [1, 10, 11, 12], .keep [1]] (ai (len_map TSymbol.D w1.symbols) (ai h39 (ai h40 (ti)))) (by kernel_rfl)
   ·
    obtain ⟨x25, h41, h⟩ := xS h
    obtain ⟨r26, h42, h⟩ := bS h
    obtain rfl := si h
    exact runB_arr mixed [(102, .int (w1.symbols.length : Int)), (103, .bit true), (107, .bit false), (111, .el (TSymbol.D x25)), (114, .ret (.d (D.b r26)))] [] [.live [1, 10, 11, 12], .keep [1]] (ai (len_map TSymbol.D w1.symbols) (ai h39 (ai h40 (ai (elem_map TSymbol.D h41) (ai (ref13_Names_ok x25 s10 r26 h42) (ti)))))) (by kernel_rfl)
  ·
   obtain rfl := si h
   exact runB_arr mixed [(102, .int (w1.symbols.length : Int)), (103, .bit false)] [] [.live [1, 10, 11], .keep [1]] (ai (len_map TSymbol.D w1.symbols) (ai h39 (ti))) (by kernel_rfl)
theorem ref13_symbols_l10_ok (rd : Option Nat) (s10 : Int) (w1 : TQea) (s11 : Bool) (s12 : Int) (t : Bool) (h : ref13_symbols_l10 s10 w1 s11 s12 = some t) : LpOf Try.prog rd (fbody Try.prog 19) [0, 1, 0, 1, 0, 0, 1, 0, 0, 1, 0, 1, 1, 1, 1, 1, 1] (ref13_symbols_l10_I s10 w1 s11 s12) ((ref13_symbols_l10_O s10 w1) t).1 ((ref13_symbols_l10_O s10 w1) t).2 :=
  loopE_lpR (fun s : Bool × Int => ref13_symbols_l10_I s10 w1 s.1 s.2) (ref13_symbols_l10_O s10 w1) (by kernel_rfl) (fun t => isN_ne (by rfl)) (fun s o h => ref13_symbols_l10_rnd rd s10 w1 s.1 s.2 o h) (s := (s11, s12)) (t := t) h
def ref13_symbols_l9_I (w1 : TQea) (s10 : Int) : St := ⟨sp 118 0 [(1, .box 1 0), (10, .d ((D.i .i64) s10))], [(1, .cells ((cellsA (TQea.D w1))))], []⟩
def ref13_symbols_l9_O (w1 : TQea) (o : Unit ⊕ Unit) : Ex × St := match o with
  | .inl o => (.exit 8, ⟨sp 118 0 [], [], []⟩)
  | .inr o => (.ret, ⟨sp 118 0 [(2, .d (D.b false))], [], []⟩)
theorem ref13_symbols_l9_rnd (rd : Option Nat) (w1 : TQea) (s10 : Int) (o : (Int) ⊕ (Unit ⊕ Unit)) (h : ref13_symbols_l9_s w1 s10 = some o) : Arr Try.prog rd (fbody Try.prog 19) (0 :: [0, 1, 0, 1, 1, 1, 1, 1, 1]) (ref13_symbols_l9_I w1 s10) (rR (fun s : Int => ref13_symbols_l9_I w1 s) (ref13_symbols_l9_O w1) o).1 (rR (fun s : Int => ref13_symbols_l9_I w1 s) (ref13_symbols_l9_O w1) o).2 := by
  unfold ref13_symbols_l9_s at h
  rcases iS h with ⟨h38, h⟩ | ⟨h38, h⟩
  ·
   obtain ⟨o27, h43, h⟩ := bS h
   rcases iS h with ⟨h44, h⟩ | ⟨h44, h⟩
   ·
    obtain rfl := si h
    exact runB_arr mixed [(95, .int (w1.quants.length : Int)), (96, .bit true), (117, .bit true)] [⟨[0, 1, 0, 1, 0, 0, 1, 0, 0, 1, 0, 1, 1, 1, 1, 1, 1], [.live [1, 10, 11, 12], .keep [1]], .exit 10, (ref13_symbols_l10_O s10 w1 o27).2⟩] [.live [2], .keep []] (ai (len_map TQuant.D w1.quants) (ai h38 (ai (ref13_symbols_l10_ok rd s10 w1 false 0 o27 h43) (ai h44 (ti))))) (by kernel_rfl)
   ·
    obtain rfl := si h
    exact runB_arr mixed [(95, .int (w1.quants.length : Int)), (96, .bit true), (117, .bit false)] [⟨[0, 1, 0, 1, 0, 0, 1, 0, 0, 1, 0, 1, 1, 1, 1, 1, 1], [.live [1, 10, 11, 12], .keep [1]], .exit 10, (ref13_symbols_l10_O s10 w1 o27).2⟩] [.live [1, 10], .keep [1]] (ai (len_map TQuant.D w1.quants) (ai h38 (ai (ref13_symbols_l10_ok rd s10 w1 false 0 o27 h43) (ai h44 (ti))))) (by kernel_rfl)
  ·
   obtain rfl := si h
   exact runB_arr mixed [(95, .int (w1.quants.length : Int)), (96, .bit false)] [] [.live [], .keep []] (ai (len_map TQuant.D w1.quants) (ai h38 (ti))) (by kernel_rfl)
theorem ref13_symbols_l9_ok (rd : Option Nat) (w1 : TQea) (s10 : Int) (t : Unit ⊕ Unit) (h : ref13_symbols_l9 w1 s10 = some t) : LpOf Try.prog rd (fbody Try.prog 19) [0, 1, 0, 1, 1, 1, 1, 1, 1] (ref13_symbols_l9_I w1 s10) ((ref13_symbols_l9_O w1) t).1 ((ref13_symbols_l9_O w1) t).2 :=
  loopE_lpR (fun s : Int => ref13_symbols_l9_I w1 s) (ref13_symbols_l9_O w1) (by kernel_rfl) (fun t => isN_ne (by rcases t with (_ | _) <;> rfl)) (fun s o h => ref13_symbols_l9_rnd rd w1 s o h) (s := s10) (t := t) h
theorem ref13_symbols_ok (a0 : TQea) (r : Bool) (h : ref13_symbols a0 = some r) : ACall Try.prog 19 [.d (TQea.D a0)] [] (.d (D.b r)) [] := by
  unfold ref13_symbols at h
  obtain ⟨h1, h⟩ := cS h
  obtain ⟨o9, h22, h⟩ := bS h
  obtain ⟨o11, h26, h⟩ := bS h
  replace h := sumE_some h
  rcases h with ⟨o12, rfl, h⟩ | ⟨o13, rfl, h⟩
  ·
   obtain ⟨o22, h37, h⟩ := bS h
   replace h := sumE_some h
   rcases h with ⟨o23, rfl, h⟩ | ⟨o24, rfl, h⟩
   ·
    obtain ⟨o28, h45, h⟩ := bS h
    replace h := sumE_some h
    rcases h with ⟨o29, rfl, h⟩ | ⟨o30, rfl, h⟩
    ·
     obtain rfl := si h
     exact runF_call mixed [(15, .int (a0.symbols.length : Int)), (16, .sl ((List.replicate (a0.symbols.length : Int).toNat false).map D.b))] [⟨[0, 1, 0, 1, 1, 1], [.live [1, 3, 4, 5], .keep [1, 16], .ren 16 3, .nil 4 4 3 1, .sort], .exit 0, (ref13_symbols_l1_O a0 o9).2⟩, ⟨[0, 1, 0, 1, 1, 1, 1], [.live [1, 4, 7], .keep [1, 4]], .exit 2, (ref13_symbols_l6_O a0 o9 (Sum.inl o12)).2⟩, ⟨[0, 1, 0, 1, 1, 1, 1, 1], [.live [1, 8], .keep [1]], .exit 4, (ref13_symbols_l7_O a0 (Sum.inl o23)).2⟩, ⟨[0, 1, 0, 1, 1, 1, 1, 1, 1], [.live [1, 10], .keep [1]], .exit 8, (ref13_symbols_l9_O a0 (Sum.inl o29)).2⟩] [] (ai (len_map TSymbol.D a0.symbols) (ai h1.1 (ai (Int.le_refl (a0.symbols.length : Int)) (ai (Int.le_refl (a0.symbols.length : Int)) (ai (mk_fit D.b false h1.2) (ai (mk_app D.b (a0.symbols.length : Int) false) (ai (ref13_symbols_l1_ok none a0 0 (List.replicate (a0.symbols.length : Int).toNat false) ([] : List Int) o9 h22) (ai (ref13_symbols_l6_ok none a0 o9 0 (Sum.inl o12) h26) (ai (ref13_symbols_l7_ok none a0 0 (Sum.inl o23) h37) (ai (ref13_symbols_l9_ok none a0 0 (Sum.inl o29) h45) (ti))))))))))) (by kernel_rfl)
    ·
     obtain rfl := si h
     exact runF_call mixed [(15, .int (a0.symbols.length : Int)), (16, .sl ((List.replicate (a0.symbols.length : Int).toNat false).map D.b))] [⟨[0, 1, 0, 1, 1, 1], [.live [1, 3, 4, 5], .keep [1, 16], .ren 16 3, .nil 4 4 3 1, .sort], .exit 0, (ref13_symbols_l1_O a0 o9).2⟩, ⟨[0, 1, 0, 1, 1, 1, 1], [.live [1, 4, 7], .keep [1, 4]], .exit 2, (ref13_symbols_l6_O a0 o9 (Sum.inl o12)).2⟩, ⟨[0, 1, 0, 1, 1, 1, 1, 1], [.live [1, 8], .keep [1]], .exit 4, (ref13_symbols_l7_O a0 (Sum.inl o23)).2⟩, ⟨[0, 1, 0, 1, 1, 1, 1, 1, 1], [.live [1, 10], .keep [1]], .ret, (ref13_symbols_l9_O a0 (Sum.inr o30)).2⟩] [] (ai (len_map TSymbol.D a0.symbols) (ai h1.1 (ai (Int.le_refl (a0.symbols.length : Int)) (ai (Int.le_refl (a0.symbols.length : Int)) (ai (mk_fit D.b false h1.2) (ai (mk_app D.b (a0.symbols.length : Int) false) (ai (ref13_symbols_l1_ok none a0 0 (List.replicate (a0.symbols.length : Int).toNat false) ([] : List Int) o9 h22) (ai (ref13_symbols_l6_ok none a0 o9 0 (Sum.inl o12) h26) (ai (ref13_symbols_l7_ok none a0 0 (Sum.inl o23) h37) (ai (ref13_symbols_l9_ok none a0 0 (Sum.inr o30) h45) (ti))))))))))) (by kernel_rfl)
   ·
    obtain rfl := si h
    exact runF_call mixed [(15, .int (a0.symbols.length : Int)), (16, .sl ((List.replicate (a0.symbols.length : Int).toNat false).map D.b))] [⟨[0, 1, 0, 1, 1, 1], [.live [1, 3, 4, 5], .keep [1, 16], .ren 16 3, .nil 4 4 3 1, .sort], .exit 0, (ref13_symbols_l1_O a0 o9).2⟩, ⟨[0, 1, 0, 1, 1, 1, 1], [.live [1, 4, 7], .keep [1, 4]], .exit 2, (ref13_symbols_l6_O a0 o9 (Sum.inl o12)).2⟩, ⟨[0, 1, 0, 1, 1, 1, 1, 1], [.live [1, 8], .keep [1]], .ret, (ref13_symbols_l7_O a0 (Sum.inr o24)).2⟩] [] (ai (len_map TSymbol.D a0.symbols) (ai h1.1 (ai (Int.le_refl (a0.symbols.length : Int)) (ai (Int.le_refl (a0.symbols.length : Int)) (ai (mk_fit D.b false h1.2) (ai (mk_app D.b (a0.symbols.length : Int) false) (ai (ref13_symbols_l1_ok none a0 0 (List.replicate (a0.symbols.length : Int).toNat false) ([] : List Int) o9 h22) (ai (ref13_symbols_l6_ok none a0 o9 0 (Sum.inl o12) h26) (ai (ref13_symbols_l7_ok none a0 0 (Sum.inr o24) h37) (ti)))))))))) (by kernel_rfl)
  ·
   obtain rfl := si h
   exact runF_call mixed [(15, .int (a0.symbols.length : Int)), (16, .sl ((List.replicate (a0.symbols.length : Int).toNat false).map D.b))] [⟨[0, 1, 0, 1, 1, 1], [.live [1, 3, 4, 5], .keep [1, 16], .ren 16 3, .nil 4 4 3 1, .sort], .exit 0, (ref13_symbols_l1_O a0 o9).2⟩, ⟨[0, 1, 0, 1, 1, 1, 1], [.live [1, 4, 7], .keep [1, 4]], .ret, (ref13_symbols_l6_O a0 o9 (Sum.inr o13)).2⟩] [] (ai (len_map TSymbol.D a0.symbols) (ai h1.1 (ai (Int.le_refl (a0.symbols.length : Int)) (ai (Int.le_refl (a0.symbols.length : Int)) (ai (mk_fit D.b false h1.2) (ai (mk_app D.b (a0.symbols.length : Int) false) (ai (ref13_symbols_l1_ok none a0 0 (List.replicate (a0.symbols.length : Int).toNat false) ([] : List Int) o9 h22) (ai (ref13_symbols_l6_ok none a0 o9 0 (Sum.inr o13) h26) (ti))))))))) (by kernel_rfl)
def ref13_Right_l1_I (w1 : TQea) (s5 : Int) (s6 : Int) : St := ⟨sp 101 0 [(1, .box 1 0), (5, .d ((D.i .i64) s5)), (6, .d ((D.i .i64) s6))], [(1, .cells ((cellsA (TQea.D w1))))], []⟩
def ref13_Right_l1_O (w1 : TQea) (o : Int ⊕ Unit) : Ex × St := match o with
  | .inl o => (.exit 0, ⟨sp 101 0 [(1, .box 1 0), (5, .d ((D.i .i64) o))], [(1, .cells ((cellsA (TQea.D w1))))], []⟩)
  | .inr o => (.ret, ⟨sp 101 0 [(2, .d (D.b false))], [], []⟩)
theorem ref13_Right_l1_rnd (rd : Option Nat) (w1 : TQea) (s5 : Int) (s6 : Int) (o : (Int × Int) ⊕ (Int ⊕ Unit)) (h : ref13_Right_l1_s w1 s5 s6 = some o) : Arr Try.prog rd (fbody Try.prog 5) (0 :: [0, 1, 0, 1, 1, 1, 1]) (ref13_Right_l1_I w1 s5 s6) (rR (fun s : Int × Int => ref13_Right_l1_I w1 s.1 s.2) (ref13_Right_l1_O w1) o).1 (rR (fun s : Int × Int => ref13_Right_l1_I w1 s.1 s.2) (ref13_Right_l1_O w1) o).2 := by
  unfold ref13_Right_l1_s at h
  rcases iS h with ⟨h13, h⟩ | ⟨h13, h⟩
  ·
   obtain ⟨x3, h14, h⟩ := xS h
   obtain ⟨r4, h15, h⟩ := bS h
   rcases iS h with ⟨h16, h⟩ | ⟨h16, h⟩
   ·
    obtain rfl := si h
    exact runB_arr mixed [(74, .int (w1.trans.length : Int)), (75, .bit true), (83, .el (TTrans.D x3)), (86, .ret (.tup [.d ((D.i .i64) r4.1), .d (D.b r4.2)])), (90, .bit true)] [] [.live [2], .keep []] (ai (len_map TTrans.D w1.trans) (ai h13 (ai (elem_map TTrans.D h14) (ai (ref13_trans_ok w1 x3 s5 r4 h15) (ai h16 (ti)))))) (by kernel_rfl)
   ·
    obtain rfl := si h
    exact runB_arr mixed [(74, .int (w1.trans.length : Int)), (75, .bit true), (83, .el (TTrans.D x3)), (86, .ret (.tup [.d ((D.i .i64) r4.1), .d (D.b r4.2)])), (90, .bit false)] [] [.live [1, 5, 6], .keep [1]] (ai (len_map TTrans.D w1.trans) (ai h13 (ai (elem_map TTrans.D h14) (ai (ref13_trans_ok w1 x3 s5 r4 h15) (ai h16 (ti)))))) (by kernel_rfl)
  ·
   obtain rfl := si h
   exact runB_arr mixed [(74, .int (w1.trans.length : Int)), (75, .bit false)] [] [.live [1, 5], .keep [1]] (ai (len_map TTrans.D w1.trans) (ai h13 (ti))) (by kernel_rfl)
theorem ref13_Right_l1_ok (rd : Option Nat) (w1 : TQea) (s5 : Int) (s6 : Int) (t : Int ⊕ Unit) (h : ref13_Right_l1 w1 s5 s6 = some t) : LpOf Try.prog rd (fbody Try.prog 5) [0, 1, 0, 1, 1, 1, 1] (ref13_Right_l1_I w1 s5 s6) ((ref13_Right_l1_O w1) t).1 ((ref13_Right_l1_O w1) t).2 :=
  loopE_lpR (fun s : Int × Int => ref13_Right_l1_I w1 s.1 s.2) (ref13_Right_l1_O w1) (by kernel_rfl) (fun t => isN_ne (by rcases t with (_ | _) <;> rfl)) (fun s o h => ref13_Right_l1_rnd rd w1 s.1 s.2 o h) (s := (s5, s6)) (t := t) h
theorem ref13_Right_ok (a0 : TQea) (r : Bool) (h : ref13_Right a0 = some r) : ACall Try.prog 5 [.d (TQea.D a0)] [] (.d (D.b r)) [] := by
  unfold ref13_Right at h
  obtain ⟨r1, h1, h⟩ := bS h
  rcases iS h with ⟨h2, h⟩ | ⟨h2, h⟩
  ·
   obtain rfl := si h
   exact runF_call mixed [(12, .ret (.tup [.d ((D.i .i64) r1.1), .d ((D.i .i64) r1.2)])), (17, .bit true)] [] [] (ai (ref07_Check_ok a0.decls r1 h1) (ai h2 (ti))) (by kernel_rfl)
  ·
   rcases iS h with ⟨h3, h⟩ | ⟨h3, h⟩
   ·
    obtain rfl := si h
    exact runF_call mixed [(12, .ret (.tup [.d ((D.i .i64) r1.1), .d ((D.i .i64) r1.2)])), (17, .bit false), (20, .int (a0.quants.length : Int)), (23, .bit true)] [] [] (ai (ref07_Check_ok a0.decls r1 h1) (ai h2 (ai (len_map TQuant.D a0.quants) (ai h3 (ti))))) (by kernel_rfl)
   ·
    rcases iS h with ⟨h4, h⟩ | ⟨h4, h⟩
    ·
     obtain rfl := si h
     exact runF_call mixed [(12, .ret (.tup [.d ((D.i .i64) r1.1), .d ((D.i .i64) r1.2)])), (17, .bit false), (20, .int (a0.quants.length : Int)), (23, .bit false), (26, .int (a0.frees.length : Int)), (29, .bit true)] [] [] (ai (ref07_Check_ok a0.decls r1 h1) (ai h2 (ai (len_map TQuant.D a0.quants) (ai h3 (ai (len_map TFree.D a0.frees) (ai h4 (ti))))))) (by kernel_rfl)
    ·
     rcases iS h with ⟨h5, h⟩ | ⟨h5, h⟩
     ·
      obtain rfl := si h
      exact runF_call mixed [(12, .ret (.tup [.d ((D.i .i64) r1.1), .d ((D.i .i64) r1.2)])), (17, .bit false), (20, .int (a0.quants.length : Int)), (23, .bit false), (26, .int (a0.frees.length : Int)), (29, .bit false), (32, .int (a0.states.length : Int)), (35, .bit true)] [] [] (ai (ref07_Check_ok a0.decls r1 h1) (ai h2 (ai (len_map TQuant.D a0.quants) (ai h3 (ai (len_map TFree.D a0.frees) (ai h4 (ai (len_map TState.D a0.states) (ai h5 (ti))))))))) (by kernel_rfl)
     ·
      rcases iS h with ⟨h6, h⟩ | ⟨h6, h⟩
      ·
       obtain rfl := si h
       exact runF_call mixed [(12, .ret (.tup [.d ((D.i .i64) r1.1), .d ((D.i .i64) r1.2)])), (17, .bit false), (20, .int (a0.quants.length : Int)), (23, .bit false), (26, .int (a0.frees.length : Int)), (29, .bit false), (32, .int (a0.states.length : Int)), (35, .bit false), (38, .int (a0.symbols.length : Int)), (41, .bit true)] [] [] (ai (ref07_Check_ok a0.decls r1 h1) (ai h2 (ai (len_map TQuant.D a0.quants) (ai h3 (ai (len_map TFree.D a0.frees) (ai h4 (ai (len_map TState.D a0.states) (ai h5 (ai (len_map TSymbol.D a0.symbols) (ai h6 (ti))))))))))) (by kernel_rfl)
      ·
       rcases iS h with ⟨h7, h⟩ | ⟨h7, h⟩
       ·
        obtain rfl := si h
        exact runF_call mixed [(12, .ret (.tup [.d ((D.i .i64) r1.1), .d ((D.i .i64) r1.2)])), (17, .bit false), (20, .int (a0.quants.length : Int)), (23, .bit false), (26, .int (a0.frees.length : Int)), (29, .bit false), (32, .int (a0.states.length : Int)), (35, .bit false), (38, .int (a0.symbols.length : Int)), (41, .bit false), (44, .int (a0.nodes.length : Int)), (47, .bit true)] [] [] (ai (ref07_Check_ok a0.decls r1 h1) (ai h2 (ai (len_map TQuant.D a0.quants) (ai h3 (ai (len_map TFree.D a0.frees) (ai h4 (ai (len_map TState.D a0.states) (ai h5 (ai (len_map TSymbol.D a0.symbols) (ai h6 (ai (len_map TNode.D a0.nodes) (ai h7 (ti))))))))))))) (by kernel_rfl)
       ·
        rcases iS h with ⟨h8, h⟩ | ⟨h8, h⟩
        ·
         obtain rfl := si h
         exact runF_call mixed [(12, .ret (.tup [.d ((D.i .i64) r1.1), .d ((D.i .i64) r1.2)])), (17, .bit false), (20, .int (a0.quants.length : Int)), (23, .bit false), (26, .int (a0.frees.length : Int)), (29, .bit false), (32, .int (a0.states.length : Int)), (35, .bit false), (38, .int (a0.symbols.length : Int)), (41, .bit false), (44, .int (a0.nodes.length : Int)), (47, .bit false), (50, .int (a0.trans.length : Int)), (53, .bit true)] [] [] (ai (ref07_Check_ok a0.decls r1 h1) (ai h2 (ai (len_map TQuant.D a0.quants) (ai h3 (ai (len_map TFree.D a0.frees) (ai h4 (ai (len_map TState.D a0.states) (ai h5 (ai (len_map TSymbol.D a0.symbols) (ai h6 (ai (len_map TNode.D a0.nodes) (ai h7 (ai (len_map TTrans.D a0.trans) (ai h8 (ti))))))))))))))) (by kernel_rfl)
        ·
         rcases iS h with ⟨h9, h⟩ | ⟨h9, h⟩
         ·
          obtain rfl := si h
          exact runF_call mixed [(12, .ret (.tup [.d ((D.i .i64) r1.1), .d ((D.i .i64) r1.2)])), (17, .bit false), (20, .int (a0.quants.length : Int)), (23, .bit false), (26, .int (a0.frees.length : Int)), (29, .bit false), (32, .int (a0.states.length : Int)), (35, .bit false), (38, .int (a0.symbols.length : Int)), (41, .bit false), (44, .int (a0.nodes.length : Int)), (47, .bit false), (50, .int (a0.trans.length : Int)), (53, .bit false), (58, .bit true)] [] [] (ai (ref07_Check_ok a0.decls r1 h1) (ai h2 (ai (len_map TQuant.D a0.quants) (ai h3 (ai (len_map TFree.D a0.frees) (ai h4 (ai (len_map TState.D a0.states) (ai h5 (ai (len_map TSymbol.D a0.symbols) (ai h6 (ai (len_map TNode.D a0.nodes) (ai h7 (ai (len_map TTrans.D a0.trans) (ai h8 (ai h9 (ti)))))))))))))))) (by kernel_rfl)
         ·
          rcases iS h with ⟨h10, h⟩ | ⟨h10, h⟩
          ·
           obtain rfl := si h
           exact runF_call mixed [(12, .ret (.tup [.d ((D.i .i64) r1.1), .d ((D.i .i64) r1.2)])), (17, .bit false), (20, .int (a0.quants.length : Int)), (23, .bit false), (26, .int (a0.frees.length : Int)), (29, .bit false), (32, .int (a0.states.length : Int)), (35, .bit false), (38, .int (a0.symbols.length : Int)), (41, .bit false), (44, .int (a0.nodes.length : Int)), (47, .bit false), (50, .int (a0.trans.length : Int)), (53, .bit false), (58, .bit false), (63, .int (a0.states.length : Int)), (66, .bit true)] [] [] (ai (ref07_Check_ok a0.decls r1 h1) (ai h2 (ai (len_map TQuant.D a0.quants) (ai h3 (ai (len_map TFree.D a0.frees) (ai h4 (ai (len_map TState.D a0.states) (ai h5 (ai (len_map TSymbol.D a0.symbols) (ai h6 (ai (len_map TNode.D a0.nodes) (ai h7 (ai (len_map TTrans.D a0.trans) (ai h8 (ai h9 (ai (len_map TState.D a0.states) (ai h10 (ti)))))))))))))))))) (by kernel_rfl)
          ·
           obtain ⟨r2, h11, h⟩ := bS h
           rcases iS h with ⟨h12, h⟩ | ⟨h12, h⟩
           ·
            obtain rfl := si h
            exact runF_call mixed [(12, .ret (.tup [.d ((D.i .i64) r1.1), .d ((D.i .i64) r1.2)])), (17, .bit false), (20, .int (a0.quants.length : Int)), (23, .bit false), (26, .int (a0.frees.length : Int)), (29, .bit false), (32, .int (a0.states.length : Int)), (35, .bit false), (38, .int (a0.symbols.length : Int)), (41, .bit false), (44, .int (a0.nodes.length : Int)), (47, .bit false), (50, .int (a0.trans.length : Int)), (53, .bit false), (58, .bit false), (63, .int (a0.states.length : Int)), (66, .bit false), (68, .ret (.d (D.b r2))), (70, .bit true)] [] [] (ai (ref07_Check_ok a0.decls r1 h1) (ai h2 (ai (len_map TQuant.D a0.quants) (ai h3 (ai (len_map TFree.D a0.frees) (ai h4 (ai (len_map TState.D a0.states) (ai h5 (ai (len_map TSymbol.D a0.symbols) (ai h6 (ai (len_map TNode.D a0.nodes) (ai h7 (ai (len_map TTrans.D a0.trans) (ai h8 (ai h9 (ai (len_map TState.D a0.states) (ai h10 (ai (ref13_names_ok a0 r2 h11) (ai h12 (ti)))))))))))))))))))) (by kernel_rfl)
           ·
            obtain ⟨o5, h17, h⟩ := bS h
            replace h := sumE_some h
            rcases h with ⟨o6, rfl, h⟩ | ⟨o7, rfl, h⟩
            ·
             rcases iS h with ⟨h18, h⟩ | ⟨h18, h⟩
             ·
              obtain ⟨r8, h19, h⟩ := bS h
              obtain rfl := si h
              exact runF_call mixed [(12, .ret (.tup [.d ((D.i .i64) r1.1), .d ((D.i .i64) r1.2)])), (17, .bit false), (20, .int (a0.quants.length : Int)), (23, .bit false), (26, .int (a0.frees.length : Int)), (29, .bit false), (32, .int (a0.states.length : Int)), (35, .bit false), (38, .int (a0.symbols.length : Int)), (41, .bit false), (44, .int (a0.nodes.length : Int)), (47, .bit false), (50, .int (a0.trans.length : Int)), (53, .bit false), (58, .bit false), (63, .int (a0.states.length : Int)), (66, .bit false), (68, .ret (.d (D.b r2))), (70, .bit false), (95, .int (a0.nodes.length : Int)), (97, .bit true), (99, .ret (.d (D.b r8)))] [⟨[0, 1, 0, 1, 1, 1, 1], [.live [1, 5, 6], .keep [1]], .exit 0, (ref13_Right_l1_O a0 (Sum.inl o6)).2⟩] [] (ai (ref07_Check_ok a0.decls r1 h1) (ai h2 (ai (len_map TQuant.D a0.quants) (ai h3 (ai (len_map TFree.D a0.frees) (ai h4 (ai (len_map TState.D a0.states) (ai h5 (ai (len_map TSymbol.D a0.symbols) (ai h6 (ai (len_map TNode.D a0.nodes) (ai h7 (ai (len_map TTrans.D a0.trans) (ai h8 (ai h9 (ai (len_map TState.D a0.states) (ai h10 (ai (ref13_names_ok a0 r2 h11) (ai h12 (ai (ref13_Right_l1_ok none a0 0 0 (Sum.inl o6) h17) (ai (len_map TNode.D a0.nodes) (ai h18 (ai (ref13_symbols_ok a0 r8 h19) (ti)))))))))))))))))))))))) (by kernel_rfl)
             ·
              obtain rfl := si h
              exact runF_call mixed [(12, .ret (.tup [.d ((D.i .i64) r1.1), .d ((D.i .i64) r1.2)])), (17, .bit false), (20, .int (a0.quants.length : Int)), (23, .bit false), (26, .int (a0.frees.length : Int)), (29, .bit false), (32, .int (a0.states.length : Int)), (35, .bit false), (38, .int (a0.symbols.length : Int)), (41, .bit false), (44, .int (a0.nodes.length : Int)), (47, .bit false), (50, .int (a0.trans.length : Int)), (53, .bit false), (58, .bit false), (63, .int (a0.states.length : Int)), (66, .bit false), (68, .ret (.d (D.b r2))), (70, .bit false), (95, .int (a0.nodes.length : Int)), (97, .bit false)] [⟨[0, 1, 0, 1, 1, 1, 1], [.live [1, 5, 6], .keep [1]], .exit 0, (ref13_Right_l1_O a0 (Sum.inl o6)).2⟩] [] (ai (ref07_Check_ok a0.decls r1 h1) (ai h2 (ai (len_map TQuant.D a0.quants) (ai h3 (ai (len_map TFree.D a0.frees) (ai h4 (ai (len_map TState.D a0.states) (ai h5 (ai (len_map TSymbol.D a0.symbols) (ai h6 (ai (len_map TNode.D a0.nodes) (ai h7 (ai (len_map TTrans.D a0.trans) (ai h8 (ai h9 (ai (len_map TState.D a0.states) (ai h10 (ai (ref13_names_ok a0 r2 h11) (ai h12 (ai (ref13_Right_l1_ok none a0 0 0 (Sum.inl o6) h17) (ai (len_map TNode.D a0.nodes) (ai h18 (ti))))))))))))))))))))))) (by kernel_rfl)
            ·
             obtain rfl := si h
             exact runF_call mixed [(12, .ret (.tup [.d ((D.i .i64) r1.1), .d ((D.i .i64) r1.2)])), (17, .bit false), (20, .int (a0.quants.length : Int)), (23, .bit false), (26, .int (a0.frees.length : Int)), (29, .bit false), (32, .int (a0.states.length : Int)), (35, .bit false), (38, .int (a0.symbols.length : Int)), (41, .bit false), (44, .int (a0.nodes.length : Int)), (47, .bit false), (50, .int (a0.trans.length : Int)), (53, .bit false), (58, .bit false), (63, .int (a0.states.length : Int)), (66, .bit false), (68, .ret (.d (D.b r2))), (70, .bit false)] [⟨[0, 1, 0, 1, 1, 1, 1], [.live [1, 5, 6], .keep [1]], .ret, (ref13_Right_l1_O a0 (Sum.inr o7)).2⟩] [] (ai (ref07_Check_ok a0.decls r1 h1) (ai h2 (ai (len_map TQuant.D a0.quants) (ai h3 (ai (len_map TFree.D a0.frees) (ai h4 (ai (len_map TState.D a0.states) (ai h5 (ai (len_map TSymbol.D a0.symbols) (ai h6 (ai (len_map TNode.D a0.nodes) (ai h7 (ai (len_map TTrans.D a0.trans) (ai h8 (ai h9 (ai (len_map TState.D a0.states) (ai h10 (ai (ref13_names_ok a0 r2 h11) (ai h12 (ai (ref13_Right_l1_ok none a0 0 0 (Sum.inr o7) h17) (ti))))))))))))))))))))) (by kernel_rfl)
def ref20_Put_l1_I (s0 : List TValue) (w3 : TValue) (s5 : Int) : St := ⟨sp 48 0 [(0, .d ((D.l TValue.D) s0)), (3, .box 3 0), (5, .d ((D.i .i64) s5))], [(3, .cells ((cellsA (TValue.D w3))))], []⟩
def ref20_Put_l1_O (s0 : List TValue) (w3 : TValue) (o : Int) : Ex × St := (.exit 0, ⟨sp 48 0 [(0, .d ((D.l TValue.D) s0)), (3, .box 3 0), (5, .d ((D.i .i64) o))], [(3, .cells ((cellsA (TValue.D w3))))], []⟩)
theorem ref20_Put_l1_rnd (rd : Option Nat) (s0 : List TValue) (w3 : TValue) (s5 : Int) (o : (Int) ⊕ (Int)) (h : ref20_Put_l1_s s0 w3 s5 = some o) : Arr Try.prog rd (fbody Try.prog 8) (0 :: [0, 0, 1, 1]) (ref20_Put_l1_I s0 w3 s5) (rR (fun s : Int => ref20_Put_l1_I s0 w3 s) (ref20_Put_l1_O s0 w3) o).1 (rR (fun s : Int => ref20_Put_l1_I s0 w3 s) (ref20_Put_l1_O s0 w3) o).2 := by
  unfold ref20_Put_l1_s at h
  rcases iS h with ⟨h1, h⟩ | ⟨h1, h⟩
  ·
   obtain ⟨x1, h2, h⟩ := xS h
   obtain ⟨r2, h3, h⟩ := bS h
   cases r2 with
   | true =>
    replace h := iteT h
    obtain rfl := si h
    exact runB_arr mixed [(11, .bit true), (16, .el (TValue.D x1)), (18, .ret (.d (D.b true)))] [] [.live [0, 3, 5], .keep [3]] (ai h1 (ai (elem_map TValue.D h2) (ai (ref03_Less_ok w3 x1 true h3) (ti)))) (by kernel_rfl)
   | false =>
    replace h := iteF h
    obtain rfl := si h
    exact runB_arr mixed [(11, .bit true), (16, .el (TValue.D x1)), (18, .ret (.d (D.b false)))] [] [.live [0, 3, 5], .keep [3]] (ai h1 (ai (elem_map TValue.D h2) (ai (ref03_Less_ok w3 x1 false h3) (ti)))) (by kernel_rfl)
  ·
   obtain rfl := si h
   exact runB_arr mixed [(11, .bit false)] [] [.live [0, 3, 5], .keep [3]] (ai h1 (ti)) (by kernel_rfl)
theorem ref20_Put_l1_ok (rd : Option Nat) (s0 : List TValue) (w3 : TValue) (s5 : Int) (t : Int) (h : ref20_Put_l1 s0 w3 s5 = some t) : LpOf Try.prog rd (fbody Try.prog 8) [0, 0, 1, 1] (ref20_Put_l1_I s0 w3 s5) ((ref20_Put_l1_O s0 w3) t).1 ((ref20_Put_l1_O s0 w3) t).2 :=
  loopE_lpR (fun s : Int => ref20_Put_l1_I s0 w3 s) (ref20_Put_l1_O s0 w3) (by kernel_rfl) (fun t => isN_ne (by rfl)) (fun s o h => ref20_Put_l1_rnd rd s0 w3 s o h) (s := s5) (t := t) h
theorem ref20_Put_ok (a0 : List TValue) (a1 : TValue) (r : List TValue) (h : ref20_Put a0 a1 = some r) : ACall Try.prog 8 [.d ((D.l TValue.D) a0), .d (TValue.D a1)] [] (.d ((D.l TValue.D) r)) [] := by
  unfold ref20_Put at h
  obtain ⟨o3, h5, h⟩ := bS h
  rcases iS h with ⟨h6, h⟩ | ⟨h6, h⟩
  ·
   obtain ⟨x4, h7, h⟩ := xS h
   rcases iS h with ⟨h8, h⟩ | ⟨h8, h⟩
   ·
    obtain rfl := si h
    exact runF_call mixed [(8, .int (a0.length : Int)), (24, .bit true), (28, .el (TValue.D x4)), (32, .bit true)] [⟨[0, 0, 1, 1], [.live [0, 3, 5], .keep [3]], .exit 0, (ref20_Put_l1_O a0 a1 o3).2⟩] [] (ai (len_map TValue.D a0) (ai (ref20_Put_l1_ok none a0 a1 (a0.length : Int) o3 h5) (ai h6 (ai (elem_map TValue.D h7) (ai h8 (ti)))))) (by kernel_rfl)
   ·
    obtain ⟨h9, h⟩ := cS h
    obtain ⟨h10, h⟩ := cS h
    obtain ⟨h11, h⟩ := cS h
    obtain ⟨h12, h⟩ := cS h
    obtain ⟨h13, h⟩ := cS h
    obtain rfl := si h
    exact runF_call mixed [(8, .int (a0.length : Int)), (24, .bit true), (28, .el (TValue.D x4)), (32, .bit false), (37, .sl ((sub a0 0 o3).map TValue.D)), (38, .sl ((([] : List TValue) ++ (sub a0 0 o3)).map TValue.D)), (42, .sl (((([] : List TValue) ++ (sub a0 0 o3)) ++ [a1]).map TValue.D)), (46, .sl ((sub a0 o3 (a0.length : Int)).map TValue.D)), (47, .sl ((((([] : List TValue) ++ (sub a0 0 o3)) ++ [a1]) ++ (sub a0 o3 (a0.length : Int))).map TValue.D))] [⟨[0, 0, 1, 1], [.live [0, 3, 5], .keep [3]], .exit 0, (ref20_Put_l1_O a0 a1 o3).2⟩] [] (ai (len_map TValue.D a0) (ai (ref20_Put_l1_ok none a0 a1 (a0.length : Int) o3 h5) (ai h6 (ai (elem_map TValue.D h7) (ai h8 (ai (nc_ok TValue.D ([] : List TValue)) (ai (cut_some TValue.D h9) (ai (nc_ok TValue.D (sub a0 0 o3)) (ai (fit_map TValue.D h10) (ai (app_map TValue.D ([] : List TValue) (sub a0 0 o3)) (ai (nc_ok TValue.D [a1]) (ai (nc_ok TValue.D [a1]) (ai (fit_map TValue.D h11) (ai (app_map TValue.D (([] : List TValue) ++ (sub a0 0 o3)) [a1]) (ai (cut_none TValue.D h12) (ai (nc_ok TValue.D (sub a0 o3 (a0.length : Int))) (ai (fit_map TValue.D h13) (ai (app_map TValue.D ((([] : List TValue) ++ (sub a0 0 o3)) ++ [a1]) (sub a0 o3 (a0.length : Int))) (ti))))))))))))))))))) (by kernel_rfl)
  ·
   obtain ⟨h14, h⟩ := cS h
   obtain ⟨h15, h⟩ := cS h
   obtain ⟨h16, h⟩ := cS h
   obtain ⟨h17, h⟩ := cS h
   obtain ⟨h18, h⟩ := cS h
   obtain rfl := si h
   exact runF_call mixed [(8, .int (a0.length : Int)), (24, .bit false), (37, .sl ((sub a0 0 o3).map TValue.D)), (38, .sl ((([] : List TValue) ++ (sub a0 0 o3)).map TValue.D)), (42, .sl (((([] : List TValue) ++ (sub a0 0 o3)) ++ [a1]).map TValue.D)), (46, .sl ((sub a0 o3 (a0.length : Int)).map TValue.D)), (47, .sl ((((([] : List TValue) ++ (sub a0 0 o3)) ++ [a1]) ++ (sub a0 o3 (a0.length : Int))).map TValue.D))] [⟨[0, 0, 1, 1], [.live [0, 3, 5], .keep [3]], .exit 0, (ref20_Put_l1_O a0 a1 o3).2⟩] [] (ai (len_map TValue.D a0) (ai (ref20_Put_l1_ok none a0 a1 (a0.length : Int) o3 h5) (ai h6 (ai (nc_ok TValue.D ([] : List TValue)) (ai (cut_some TValue.D h14) (ai (nc_ok TValue.D (sub a0 0 o3)) (ai (fit_map TValue.D h15) (ai (app_map TValue.D ([] : List TValue) (sub a0 0 o3)) (ai (nc_ok TValue.D [a1]) (ai (nc_ok TValue.D [a1]) (ai (fit_map TValue.D h16) (ai (app_map TValue.D (([] : List TValue) ++ (sub a0 0 o3)) [a1]) (ai (cut_none TValue.D h17) (ai (nc_ok TValue.D (sub a0 o3 (a0.length : Int))) (ai (fit_map TValue.D h18) (ai (app_map TValue.D ((([] : List TValue) ++ (sub a0 0 o3)) ++ [a1]) (sub a0 o3 (a0.length : Int))) (ti))))))))))))))))) (by kernel_rfl)
def ref22_Small_l1_I (w1 : TQea) (s3 : Int) : St := ⟨sp 40 0 [(1, .box 1 0), (3, .d ((D.i .i64) s3))], [(1, .cells ((cellsA (TQea.D w1))))], []⟩
def ref22_Small_l1_O (w1 : TQea) (o : Unit ⊕ Unit) : Ex × St := match o with
  | .inl o => (.exit 0, ⟨sp 40 0 [], [], []⟩)
  | .inr o => (.ret, ⟨sp 40 0 [(2, .d (D.b false))], [], []⟩)
theorem ref22_Small_l1_rnd (rd : Option Nat) (w1 : TQea) (s3 : Int) (o : (Int) ⊕ (Unit ⊕ Unit)) (h : ref22_Small_l1_s w1 s3 = some o) : Arr Try.prog rd (fbody Try.prog 10) (0 :: [0, 1, 0, 1, 1]) (ref22_Small_l1_I w1 s3) (rR (fun s : Int => ref22_Small_l1_I w1 s) (ref22_Small_l1_O w1) o).1 (rR (fun s : Int => ref22_Small_l1_I w1 s) (ref22_Small_l1_O w1) o).2 := by
  unfold ref22_Small_l1_s at h
  rcases iS h with ⟨h5, h⟩ | ⟨h5, h⟩
  ·
   obtain ⟨x1, h6, h⟩ := xS h
   rcases iS h with ⟨h7, h⟩ | ⟨h7, h⟩
   ·
    obtain rfl := si h
    exact runB_arr mixed [(29, .int (w1.trans.length : Int)), (30, .bit true), (36, .el (TTrans.D x1)), (39, .bit true)] [] [.live [2], .keep []] (ai (len_map TTrans.D w1.trans) (ai h5 (ai (elem_map TTrans.D h6) (ai h7 (ti))))) (by kernel_rfl)
   ·
    obtain rfl := si h
    exact runB_arr mixed [(29, .int (w1.trans.length : Int)), (30, .bit true), (36, .el (TTrans.D x1)), (39, .bit false)] [] [.live [1, 3], .keep [1]] (ai (len_map TTrans.D w1.trans) (ai h5 (ai (elem_map TTrans.D h6) (ai h7 (ti))))) (by kernel_rfl)
  ·
   obtain rfl := si h
   exact runB_arr mixed [(29, .int (w1.trans.length : Int)), (30, .bit false)] [] [.live [], .keep []] (ai (len_map TTrans.D w1.trans) (ai h5 (ti))) (by kernel_rfl)
theorem ref22_Small_l1_ok (rd : Option Nat) (w1 : TQea) (s3 : Int) (t : Unit ⊕ Unit) (h : ref22_Small_l1 w1 s3 = some t) : LpOf Try.prog rd (fbody Try.prog 10) [0, 1, 0, 1, 1] (ref22_Small_l1_I w1 s3) ((ref22_Small_l1_O w1) t).1 ((ref22_Small_l1_O w1) t).2 :=
  loopE_lpR (fun s : Int => ref22_Small_l1_I w1 s) (ref22_Small_l1_O w1) (by kernel_rfl) (fun t => isN_ne (by rcases t with (_ | _) <;> rfl)) (fun s o h => ref22_Small_l1_rnd rd w1 s o h) (s := s3) (t := t) h
theorem ref22_Small_ok (a0 : TQea) (r : Bool) (h : ref22_Small a0 = some r) : ACall Try.prog 10 [.d (TQea.D a0)] [] (.d (D.b r)) [] := by
  unfold ref22_Small at h
  rcases iS h with ⟨h1, h⟩ | ⟨h1, h⟩
  ·
   obtain rfl := si h
   exact runF_call mixed [(6, .int (a0.frees.length : Int)), (8, .bit true)] [] [] (ai (len_map TFree.D a0.frees) (ai h1 (ti))) (by kernel_rfl)
  ·
   rcases iS h with ⟨h2, h⟩ | ⟨h2, h⟩
   ·
    obtain rfl := si h
    exact runF_call mixed [(6, .int (a0.frees.length : Int)), (8, .bit false), (11, .int (a0.quants.length : Int)), (14, .bit true)] [] [] (ai (len_map TFree.D a0.frees) (ai h1 (ai (len_map TQuant.D a0.quants) (ai h2 (ti))))) (by kernel_rfl)
   ·
    rcases iS h with ⟨h3, h⟩ | ⟨h3, h⟩
    ·
     obtain rfl := si h
     exact runF_call mixed [(6, .int (a0.frees.length : Int)), (8, .bit false), (11, .int (a0.quants.length : Int)), (14, .bit false), (17, .int (a0.states.length : Int)), (20, .bit true)] [] [] (ai (len_map TFree.D a0.frees) (ai h1 (ai (len_map TQuant.D a0.quants) (ai h2 (ai (len_map TState.D a0.states) (ai h3 (ti))))))) (by kernel_rfl)
    ·
     rcases iS h with ⟨h4, h⟩ | ⟨h4, h⟩
     ·
      obtain rfl := si h
      exact runF_call mixed [(6, .int (a0.frees.length : Int)), (8, .bit false), (11, .int (a0.quants.length : Int)), (14, .bit false), (17, .int (a0.states.length : Int)), (20, .bit false), (23, .int (a0.symbols.length : Int)), (25, .bit true)] [] [] (ai (len_map TFree.D a0.frees) (ai h1 (ai (len_map TQuant.D a0.quants) (ai h2 (ai (len_map TState.D a0.states) (ai h3 (ai (len_map TSymbol.D a0.symbols) (ai h4 (ti))))))))) (by kernel_rfl)
     ·
      obtain ⟨o2, h8, h⟩ := bS h
      replace h := sumE_some h
      rcases h with ⟨o3, rfl, h⟩ | ⟨o4, rfl, h⟩
      ·
       obtain rfl := si h
       exact runF_call mixed [(6, .int (a0.frees.length : Int)), (8, .bit false), (11, .int (a0.quants.length : Int)), (14, .bit false), (17, .int (a0.states.length : Int)), (20, .bit false), (23, .int (a0.symbols.length : Int)), (25, .bit false)] [⟨[0, 1, 0, 1, 1], [.live [1, 3], .keep [1]], .exit 0, (ref22_Small_l1_O a0 (Sum.inl o3)).2⟩] [] (ai (len_map TFree.D a0.frees) (ai h1 (ai (len_map TQuant.D a0.quants) (ai h2 (ai (len_map TState.D a0.states) (ai h3 (ai (len_map TSymbol.D a0.symbols) (ai h4 (ai (ref22_Small_l1_ok none a0 0 (Sum.inl o3) h8) (ti)))))))))) (by kernel_rfl)
      ·
       obtain rfl := si h
       exact runF_call mixed [(6, .int (a0.frees.length : Int)), (8, .bit false), (11, .int (a0.quants.length : Int)), (14, .bit false), (17, .int (a0.states.length : Int)), (20, .bit false), (23, .int (a0.symbols.length : Int)), (25, .bit false)] [⟨[0, 1, 0, 1, 1], [.live [1, 3], .keep [1]], .ret, (ref22_Small_l1_O a0 (Sum.inr o4)).2⟩] [] (ai (len_map TFree.D a0.frees) (ai h1 (ai (len_map TQuant.D a0.quants) (ai h2 (ai (len_map TState.D a0.states) (ai h3 (ai (len_map TSymbol.D a0.symbols) (ai h4 (ai (ref22_Small_l1_ok none a0 0 (Sum.inr o4) h8) (ti)))))))))) (by kernel_rfl)
def joint_Consts_v2_b1_I (s1 : Int) (s12 : Bool) (w2 : TQea) : St := ⟨sp 51 0 [(1, .d ((D.i .i64) s1)), (2, .box 2 0), (5, .box 5 0), (12, .d (D.b s12))], [(2, .cells ((cellsA (TQea.D w2)))), (5, .cells ([.nil, .clo (.func 25) [] []]))], []⟩
def joint_Consts_v2_b1_O (s1 : Int) (s12 : Bool) (w2 : TQea) (o : (List TValue)) : Ex × St := (.normal, ⟨sp 51 0 [(1, .d ((D.i .i64) s1)), (2, .box 2 0), (5, .box 5 0)], [(2, .cells ((cellsA (TQea.D w2)))), (5, .cells ([.row 518, .clo (.func 25) [] []])), (518, .rw 36 4 (o.map TValue.D))], []⟩)
theorem joint_Consts_v2_b1_ok (rd : Option Nat) (s1 : Int) (s12 : Bool) (w2 : TQea) (o : (List TValue)) (h : joint_Consts_v2_b1 s1 s12 w2 = some o) : LpOf Try.prog rd (fbody Try.prog 12) [1, 0, 1, 1] (joint_Consts_v2_b1_I s1 s12 w2) (joint_Consts_v2_b1_O s1 s12 w2 o).1 (joint_Consts_v2_b1_O s1 s12 w2 o).2 := by
  unfold joint_Consts_v2_b1 at h
  cases s12 with
  | true =>
   replace h := iteT h
   obtain ⟨r2, h3, h⟩ := bS h
   obtain ⟨r3, h4, h⟩ := bS h
   obtain ⟨r4, h5, h⟩ := bS h
   obtain ⟨r5, h6, h⟩ := bS h
   obtain rfl := si h
   exact (runB_arr mixed [(14, .ret (.d (TValue.D r2))), (15, .cx false [(0, 5)] [(1, 15)] (.d (D.b r3.1)) [(0, .cells ([.row 1, .clo (.func 25) [] []])), (1, .rw 36 4 (r3.2.map TValue.D))]), (17, .ret (.d (TValue.D r4))), (18, .cx false [(0, 5), (1, 15)] [(2, 18)] (.d (D.b r5.1)) [(0, .cells ([.row 2, .clo (.func 25) [] []])), (2, .rw 36 4 (r5.2.map TValue.D))])] [] [.live [1, 2, 5], .keep [2, 5, 18], .ren 18 518, .sort] (ai (value_Bool_ok false r2 h3) (ai (domain_Set_Value_Put_v2_ok r2 r3 h4) (ai (value_Bool_ok true r4 h5) (ai (domain_Set_Value_Put_v3_ok r4 r3.2 r5 h6) (ti))))) (by kernel_rfl)).lp
  | false =>
   replace h := iteF h
   obtain rfl := si h
   exact (runB_arr mixed [] [] [.live [1, 2, 5], .keep [2, 5], .nilc 5 0 518 36 4, .sort] (ti) (by kernel_rfl)).lp
def joint_Consts_v2_b5_I (s1 : Int) (s20 : List TSymbol) (s21 : Int) (s22 : Int) (s27 : List TArg) (s28 : Int) (s29 : Int) (s42 : Bool) (w9 : TArg) (w518 : List TValue) : St := ⟨sp 51 0 [(1, .d ((D.i .i64) s1)), (5, .box 5 0), (9, .box 9 0), (20, .d ((D.l TSymbol.D) s20)), (21, .d ((D.i .i64) s21)), (22, .d ((D.i .i64) s22)), (27, .d ((D.l TArg.D) s27)), (28, .d ((D.i .i64) s28)), (29, .d ((D.i .i64) s29)), (42, .d (D.b s42))], [(5, .cells ([.row 518, .clo (.func 25) [] []])), (9, .cells ((cellsA (TArg.D w9)))), (518, .rw 36 4 (w518.map TValue.D))], []⟩
def joint_Consts_v2_b5_O (s1 : Int) (s20 : List TSymbol) (s21 : Int) (s22 : Int) (s27 : List TArg) (s28 : Int) (s29 : Int) (s42 : Bool) (w9 : TArg) (w518 : List TValue) (o : (List TValue)) : Ex × St := (.normal, ⟨sp 51 0 [(1, .d ((D.i .i64) s1)), (5, .box 5 0), (20, .d ((D.l TSymbol.D) s20)), (21, .d ((D.i .i64) s21)), (22, .d ((D.i .i64) s22)), (27, .d ((D.l TArg.D) s27)), (28, .d ((D.i .i64) s28)), (29, .d ((D.i .i64) s29))], [(5, .cells ([.row 546, .clo (.func 25) [] []])), (546, .rw 36 4 (o.map TValue.D))], []⟩)
theorem joint_Consts_v2_b5_ok (rd : Option Nat) (s1 : Int) (s20 : List TSymbol) (s21 : Int) (s22 : Int) (s27 : List TArg) (s28 : Int) (s29 : Int) (s42 : Bool) (w9 : TArg) (w518 : List TValue) (o : (List TValue)) (h : joint_Consts_v2_b5 s1 s20 s21 s22 s27 s28 s29 s42 w9 w518 = some o) : LpOf Try.prog rd (fbody Try.prog 12) [1, 1, 0, 0, 1, 1, 0, 0, 1, 1, 0, 0, 1, 1, 0, 0, 1, 0, 1, 1, 1] (joint_Consts_v2_b5_I s1 s20 s21 s22 s27 s28 s29 s42 w9 w518) (joint_Consts_v2_b5_O s1 s20 s21 s22 s27 s28 s29 s42 w9 w518 o).1 (joint_Consts_v2_b5_O s1 s20 s21 s22 s27 s28 s29 s42 w9 w518 o).2 := by
  unfold joint_Consts_v2_b5 at h
  cases s42 with
  | true =>
   replace h := iteT h
   obtain ⟨r9, h14, h⟩ := bS h
   obtain rfl := si h
   exact (runB_arr mixed [(46, .cx false [(0, 5), (1, 518)] [(2, 46)] (.d (D.b r9.1)) [(0, .cells ([.row 2, .clo (.func 25) [] []])), (2, .rw 36 4 (r9.2.map TValue.D))])] [] [.live [1, 5, 20, 21, 22, 27, 28, 29], .keep [5, 46], .ren 46 546, .sort] (ai (domain_Set_Value_Put_v3_ok w9.value w518 r9 h14) (ti)) (by kernel_rfl)).lp
  | false =>
   replace h := iteF h
   obtain rfl := si h
   exact (runB_arr mixed [] [] [.live [1, 5, 20, 21, 22, 27, 28, 29], .keep [5, 518], .ren 518 546, .sort] (ti) (by kernel_rfl)).lp
def joint_Consts_v2_b4_I (s1 : Int) (s20 : List TSymbol) (s21 : Int) (s22 : Int) (s27 : List TArg) (s28 : Int) (s29 : Int) (w518 : List TValue) : St := ⟨sp 51 0 [(1, .d ((D.i .i64) s1)), (5, .box 5 0), (20, .d ((D.l TSymbol.D) s20)), (21, .d ((D.i .i64) s21)), (22, .d ((D.i .i64) s22)), (27, .d ((D.l TArg.D) s27)), (28, .d ((D.i .i64) s28)), (29, .d ((D.i .i64) s29))], [(5, .cells ([.row 518, .clo (.func 25) [] []])), (518, .rw 36 4 (w518.map TValue.D))], []⟩
def joint_Consts_v2_b4_O (s1 : Int) (s20 : List TSymbol) (s21 : Int) (s22 : Int) (s27 : List TArg) (s28 : Int) (s29 : Int) (w518 : List TValue) (o : (List TValue)) : Ex × St := (.normal, ⟨sp 51 0 [(1, .d ((D.i .i64) s1)), (5, .box 5 0), (20, .d ((D.l TSymbol.D) s20)), (21, .d ((D.i .i64) s21)), (22, .d ((D.i .i64) s22)), (27, .d ((D.l TArg.D) s27)), (28, .d ((D.i .i64) s28)), (29, .d ((D.i .i64) s29))], [(5, .cells ([.row 546, .clo (.func 25) [] []])), (546, .rw 36 4 (o.map TValue.D))], []⟩)
theorem joint_Consts_v2_b4_ok (rd : Option Nat) (s1 : Int) (s20 : List TSymbol) (s21 : Int) (s22 : Int) (s27 : List TArg) (s28 : Int) (s29 : Int) (w518 : List TValue) (o : (List TValue)) (h : joint_Consts_v2_b4 s1 s20 s21 s22 s27 s28 s29 w518 = some o) : LpOf Try.prog rd (fbody Try.prog 12) [0, 1, 1, 0, 0, 1, 1, 0, 0, 1, 1, 0, 0, 1, 0, 1, 1, 1] (joint_Consts_v2_b4_I s1 s20 s21 s22 s27 s28 s29 w518) (joint_Consts_v2_b4_O s1 s20 s21 s22 s27 s28 s29 w518 o).1 (joint_Consts_v2_b4_O s1 s20 s21 s22 s27 s28 s29 w518 o).2 := by
  unfold joint_Consts_v2_b4 at h
  obtain ⟨x8, h11, h⟩ := xS h
  rcases iS h with ⟨h12, h⟩ | ⟨h12, h⟩
  ·
   obtain ⟨o10, h15, h⟩ := bS h
   obtain rfl := si h
   exact (runB_arr mixed [(31, .el (TArg.D x8)), (36, .bit true)] [⟨[1, 1, 0, 0, 1, 1, 0, 0, 1, 1, 0, 0, 1, 1, 0, 0, 1, 0, 1, 1, 1], [.live [1, 5, 9, 20, 21, 22, 27, 28, 29, 42], .keep [5, 9, 518]], .normal, (joint_Consts_v2_b5_O s1 s20 s21 s22 s27 s28 s29 (decide (x8.value.kind = s1)) x8 w518 o10).2⟩] [.live [1, 5, 20, 21, 22, 27, 28, 29], .keep [5, 546]] (ai (elem_map TArg.D h11) (ai h12 (ai (joint_Consts_v2_b5_ok rd s1 s20 s21 s22 s27 s28 s29 (decide (x8.value.kind = s1)) x8 w518 o10 h15) (ti)))) (by kernel_rfl)).lp
  ·
   obtain ⟨o11, h16, h⟩ := bS h
   obtain rfl := si h
   exact (runB_arr mixed [(31, .el (TArg.D x8)), (36, .bit false)] [⟨[1, 1, 0, 0, 1, 1, 0, 0, 1, 1, 0, 0, 1, 1, 0, 0, 1, 0, 1, 1, 1], [.live [1, 5, 9, 20, 21, 22, 27, 28, 29, 42], .keep [5, 9, 518]], .normal, (joint_Consts_v2_b5_O s1 s20 s21 s22 s27 s28 s29 false x8 w518 o11).2⟩] [.live [1, 5, 20, 21, 22, 27, 28, 29], .keep [5, 546]] (ai (elem_map TArg.D h11) (ai h12 (ai (joint_Consts_v2_b5_ok rd s1 s20 s21 s22 s27 s28 s29 false x8 w518 o11 h16) (ti)))) (by kernel_rfl)).lp
def joint_Consts_v2_l3_I (s1 : Int) (s20 : List TSymbol) (s21 : Int) (s22 : Int) (s27 : List TArg) (s28 : Int) (s29 : Int) (w518 : List TValue) : St := ⟨sp 51 0 [(1, .d ((D.i .i64) s1)), (5, .box 5 0), (20, .d ((D.l TSymbol.D) s20)), (21, .d ((D.i .i64) s21)), (22, .d ((D.i .i64) s22)), (27, .d ((D.l TArg.D) s27)), (28, .d ((D.i .i64) s28)), (29, .d ((D.i .i64) s29))], [(5, .cells ([.row 518, .clo (.func 25) [] []])), (518, .rw 36 4 (w518.map TValue.D))], []⟩
def joint_Consts_v2_l3_O (s1 : Int) (s20 : List TSymbol) (s21 : Int) (s22 : Int) (s27 : List TArg) (s28 : Int) (o : (List TValue)) : Ex × St := (.exit 2, ⟨sp 51 0 [(1, .d ((D.i .i64) s1)), (5, .box 5 0), (20, .d ((D.l TSymbol.D) s20)), (21, .d ((D.i .i64) s21)), (22, .d ((D.i .i64) s22))], [(5, .cells ([.row 518, .clo (.func 25) [] []])), (518, .rw 36 4 (o.map TValue.D))], []⟩)
theorem joint_Consts_v2_l3_rnd (rd : Option Nat) (s1 : Int) (s20 : List TSymbol) (s21 : Int) (s22 : Int) (s27 : List TArg) (s28 : Int) (s29 : Int) (w518 : List TValue) (o : (Int × List TValue) ⊕ ((List TValue))) (h : joint_Consts_v2_l3_s s1 s20 s21 s22 s27 s28 s29 w518 = some o) : Arr Try.prog rd (fbody Try.prog 12) (0 :: [0, 1, 1, 0, 0, 1, 1, 0, 0, 1, 0, 1, 1, 1]) (joint_Consts_v2_l3_I s1 s20 s21 s22 s27 s28 s29 w518) (rR (fun s : Int × List TValue => joint_Consts_v2_l3_I s1 s20 s21 s22 s27 s28 s.1 s.2) (joint_Consts_v2_l3_O s1 s20 s21 s22 s27 s28) o).1 (rR (fun s : Int × List TValue => joint_Consts_v2_l3_I s1 s20 s21 s22 s27 s28 s.1 s.2) (joint_Consts_v2_l3_O s1 s20 s21 s22 s27 s28) o).2 := by
  unfold joint_Consts_v2_l3_s at h
  rcases iS h with ⟨h10, h⟩ | ⟨h10, h⟩
  ·
   obtain ⟨o12, h17, h⟩ := bS h
   obtain rfl := si h
   exact runB_arr mixed [(30, .bit true)] [⟨[0, 1, 1, 0, 0, 1, 1, 0, 0, 1, 1, 0, 0, 1, 0, 1, 1, 1], [.live [1, 5, 20, 21, 22, 27, 28, 29], .keep [5, 518]], .normal, (joint_Consts_v2_b4_O s1 s20 s21 s22 s27 s28 s29 w518 o12).2⟩] [.live [1, 5, 20, 21, 22, 27, 28, 29], .keep [5, 546], .ren 546 518, .sort] (ai h10 (ai (joint_Consts_v2_b4_ok rd s1 s20 s21 s22 s27 s28 s29 w518 o12 h17) (ti))) (by kernel_rfl)
  ·
   obtain rfl := si h
   exact runB_arr mixed [(30, .bit false)] [] [.live [1, 5, 20, 21, 22], .keep [5, 518]] (ai h10 (ti)) (by kernel_rfl)
theorem joint_Consts_v2_l3_ok (rd : Option Nat) (s1 : Int) (s20 : List TSymbol) (s21 : Int) (s22 : Int) (s27 : List TArg) (s28 : Int) (s29 : Int) (w518 : List TValue) (t : (List TValue)) (h : joint_Consts_v2_l3 s1 s20 s21 s22 s27 s28 s29 w518 = some t) : LpOf Try.prog rd (fbody Try.prog 12) [0, 1, 1, 0, 0, 1, 1, 0, 0, 1, 0, 1, 1, 1] (joint_Consts_v2_l3_I s1 s20 s21 s22 s27 s28 s29 w518) ((joint_Consts_v2_l3_O s1 s20 s21 s22 s27 s28) t).1 ((joint_Consts_v2_l3_O s1 s20 s21 s22 s27 s28) t).2 :=
  loopE_lpR (fun s : Int × List TValue => joint_Consts_v2_l3_I s1 s20 s21 s22 s27 s28 s.1 s.2) (joint_Consts_v2_l3_O s1 s20 s21 s22 s27 s28) (by kernel_rfl) (fun t => isN_ne (by rfl)) (fun s o h => joint_Consts_v2_l3_rnd rd s1 s20 s21 s22 s27 s28 s.1 s.2 o h) (s := (s29, w518)) (t := t) h
def joint_Consts_v2_l2_I (s1 : Int) (s20 : List TSymbol) (s21 : Int) (s22 : Int) (w518 : List TValue) : St := ⟨sp 51 0 [(1, .d ((D.i .i64) s1)), (5, .box 5 0), (20, .d ((D.l TSymbol.D) s20)), (21, .d ((D.i .i64) s21)), (22, .d ((D.i .i64) s22))], [(5, .cells ([.row 518, .clo (.func 25) [] []])), (518, .rw 36 4 (w518.map TValue.D))], []⟩
def joint_Consts_v2_l2_O (s1 : Int) (s20 : List TSymbol) (s21 : Int) (o : (List TValue)) : Ex × St := (.exit 0, ⟨sp 51 0 [(5, .box 5 0)], [(5, .cells ([.row 518, .clo (.func 25) [] []])), (518, .rw 36 4 (o.map TValue.D))], []⟩)
theorem joint_Consts_v2_l2_rnd (rd : Option Nat) (s1 : Int) (s20 : List TSymbol) (s21 : Int) (s22 : Int) (w518 : List TValue) (o : (Int × List TValue) ⊕ ((List TValue))) (h : joint_Consts_v2_l2_s s1 s20 s21 s22 w518 = some o) : Arr Try.prog rd (fbody Try.prog 12) (0 :: [0, 1, 0, 1, 1, 1]) (joint_Consts_v2_l2_I s1 s20 s21 s22 w518) (rR (fun s : Int × List TValue => joint_Consts_v2_l2_I s1 s20 s21 s.1 s.2) (joint_Consts_v2_l2_O s1 s20 s21) o).1 (rR (fun s : Int × List TValue => joint_Consts_v2_l2_I s1 s20 s21 s.1 s.2) (joint_Consts_v2_l2_O s1 s20 s21) o).2 := by
  unfold joint_Consts_v2_l2_s at h
  rcases iS h with ⟨h8, h⟩ | ⟨h8, h⟩
  ·
   obtain ⟨x7, h9, h⟩ := xS h
   obtain ⟨o13, h18, h⟩ := bS h
   obtain rfl := si h
   exact runB_arr mixed [(23, .bit true), (24, .el (TSymbol.D x7)), (28, .int (x7.args.length : Int))] [⟨[0, 1, 1, 0, 0, 1, 1, 0, 0, 1, 0, 1, 1, 1], [.live [1, 5, 20, 21, 22, 27, 28, 29], .keep [5, 518]], .exit 2, (joint_Consts_v2_l3_O s1 s20 s21 s22 x7.args (x7.args.length : Int) o13).2⟩] [.live [1, 5, 20, 21, 22], .keep [5, 518]] (ai h8 (ai (elem_map TSymbol.D h9) (ai (len_map TArg.D x7.args) (ai (joint_Consts_v2_l3_ok rd s1 s20 s21 s22 x7.args (x7.args.length : Int) 0 w518 o13 h18) (ti))))) (by kernel_rfl)
  ·
   obtain rfl := si h
   exact runB_arr mixed [(23, .bit false)] [] [.live [5], .keep [5, 518]] (ai h8 (ti)) (by kernel_rfl)
theorem joint_Consts_v2_l2_ok (rd : Option Nat) (s1 : Int) (s20 : List TSymbol) (s21 : Int) (s22 : Int) (w518 : List TValue) (t : (List TValue)) (h : joint_Consts_v2_l2 s1 s20 s21 s22 w518 = some t) : LpOf Try.prog rd (fbody Try.prog 12) [0, 1, 0, 1, 1, 1] (joint_Consts_v2_l2_I s1 s20 s21 s22 w518) ((joint_Consts_v2_l2_O s1 s20 s21) t).1 ((joint_Consts_v2_l2_O s1 s20 s21) t).2 :=
  loopE_lpR (fun s : Int × List TValue => joint_Consts_v2_l2_I s1 s20 s21 s.1 s.2) (joint_Consts_v2_l2_O s1 s20 s21) (by kernel_rfl) (fun t => isN_ne (by rfl)) (fun s o h => joint_Consts_v2_l2_rnd rd s1 s20 s21 s.1 s.2 o h) (s := (s22, w518)) (t := t) h
theorem joint_Consts_v2_ok (a0 : TQea) (a1 : Int) (r : List TValue) (h : joint_Consts_v2 a0 a1 = some r) : ACall Try.prog 12 [.d (TQea.D a0), .d ((D.i .i64) a1)] [] (.d ((D.l TValue.D) r)) [] := by
  unfold joint_Consts_v2 at h
  obtain ⟨r1, h1, h⟩ := bS h
  obtain ⟨o6, h7, h⟩ := bS h
  obtain ⟨o14, h19, h⟩ := bS h
  obtain ⟨r15, h20, h⟩ := bS h
  obtain rfl := si h
  exact runF_call mixed [(10, .cx false [] [(0, 417)] (.box 0 0) [(0, .cells ([.nil, .clo (.func 25) [] []]))]), (21, .int (a0.symbols.length : Int)), (50, .cx false [(0, 5), (1, 518)] [(2, 50), (3, 457)] (.row 2) [(0, .cells ([.row 3, .clo (.func 25) [] []])), (2, .rw 36 4 (r15.1.map TValue.D)), (3, .rw 36 4 (r15.2.map TValue.D))])] [⟨[1, 0, 1, 1], [.live [1, 2, 5, 12], .keep [2, 417], .ren 417 5, .sort], .normal, (joint_Consts_v2_b1_O a1 (decide (a1 = 3)) a0 o6).2⟩, ⟨[0, 1, 0, 1, 1, 1], [.live [1, 5, 20, 21, 22], .keep [5, 518]], .exit 0, (joint_Consts_v2_l2_O a1 a0.symbols (a0.symbols.length : Int) o14).2⟩] [.frz 50] (ai (domain_NewSet_Value_v2_ok r1 h1) (ai (joint_Consts_v2_b1_ok none a1 (decide (a1 = 3)) a0 o6 h7) (ai (len_map TSymbol.D a0.symbols) (ai (joint_Consts_v2_l2_ok none a1 a0.symbols (a0.symbols.length : Int) 0 o6 o14 h19) (ai (domain_Set_Value_All_ok o14 r15 h20) (ti)))))) (by kernel_rfl)
def ref22_Consts_b1_I (s1 : Int) (s10 : Bool) (w2 : TQea) : St := ⟨sp 56 0 [(1, .d ((D.i .i64) s1)), (2, .box 2 0), (5, .nil), (10, .d (D.b s10))], [(2, .cells ((cellsA (TQea.D w2))))], []⟩
def ref22_Consts_b1_O (s1 : Int) (s10 : Bool) (w2 : TQea) (o : (List TValue)) : Ex × St := (.normal, ⟨sp 56 0 [(1, .d ((D.i .i64) s1)), (2, .box 2 0), (5, .row 5)], [(2, .cells ((cellsA (TQea.D w2)))), (5, .row 36 4 (o.map TValue.D))], []⟩)
theorem ref22_Consts_b1_ok (rd : Option Nat) (s1 : Int) (s10 : Bool) (w2 : TQea) (o : (List TValue)) (h : ref22_Consts_b1 s1 s10 w2 = some o) : LpOf Try.prog rd (fbody Try.prog 13) [1, 0, 1, 1] (ref22_Consts_b1_I s1 s10 w2) (ref22_Consts_b1_O s1 s10 w2 o).1 (ref22_Consts_b1_O s1 s10 w2 o).2 := by
  unfold ref22_Consts_b1 at h
  cases s10 with
  | true =>
   replace h := iteT h
   obtain rfl := si h
   exact (runB_arr mixed [] [] [.live [1, 2, 5], .keep [2, 13], .ren 13 5, .sort] (ai (nc_ok TValue.D ([TValue.mk 3 0 ([] : List UInt8) false, TValue.mk 3 0 ([] : List UInt8) true])) (ti)) (by kernel_rfl)).lp
  | false =>
   replace h := iteF h
   obtain rfl := si h
   exact (runB_arr mixed [] [] [.live [1, 2, 5], .keep [2], .nil 5 5 36 4, .sort] (ti) (by kernel_rfl)).lp
def ref22_Consts_b7_I (s1 : Int) (s5 : List TValue) (s6 : Int) (s7 : Int) (s50 : Bool) (w2 : TQea) (w8 : TArg) : St := ⟨sp 56 0 [(1, .d ((D.i .i64) s1)), (2, .box 2 0), (5, .d ((D.l TValue.D) s5)), (6, .d ((D.i .i64) s6)), (7, .d ((D.i .i64) s7)), (8, .box 8 0), (50, .d (D.b s50))], [(2, .cells ((cellsA (TQea.D w2)))), (8, .cells ((cellsA (TArg.D w8))))], []⟩
def ref22_Consts_b7_O (s1 : Int) (s5 : List TValue) (s6 : Int) (s7 : Int) (s50 : Bool) (w2 : TQea) (w8 : TArg) (o : (List TValue)) : Ex × St := (.normal, ⟨sp 56 0 [(1, .d ((D.i .i64) s1)), (2, .box 2 0), (5, .d ((D.l TValue.D) o)), (6, .d ((D.i .i64) s6)), (7, .d ((D.i .i64) s7))], [(2, .cells ((cellsA (TQea.D w2))))], []⟩)
theorem ref22_Consts_b7_ok (rd : Option Nat) (s1 : Int) (s5 : List TValue) (s6 : Int) (s7 : Int) (s50 : Bool) (w2 : TQea) (w8 : TArg) (o : (List TValue)) (h : ref22_Consts_b7 s1 s5 s6 s7 s50 w2 w8 = some o) : LpOf Try.prog rd (fbody Try.prog 13) [1, 1, 0, 0, 1, 0, 0, 1, 0, 0, 1, 0, 0, 1, 0, 1, 1, 1] (ref22_Consts_b7_I s1 s5 s6 s7 s50 w2 w8) (ref22_Consts_b7_O s1 s5 s6 s7 s50 w2 w8 o).1 (ref22_Consts_b7_O s1 s5 s6 s7 s50 w2 w8 o).2 := by
  unfold ref22_Consts_b7 at h
  cases s50 with
  | true =>
   replace h := iteT h
   obtain ⟨r12, h20, h⟩ := bS h
   obtain rfl := si h
   exact (runB_arr mixed [(54, .ret (.d ((D.l TValue.D) r12)))] [] [.live [1, 2, 5, 6, 7], .keep [2]] (ai (ref20_Put_ok s5 w8.value r12 h20) (ti)) (by kernel_rfl)).lp
  | false =>
   replace h := iteF h
   obtain rfl := si h
   exact (runB_arr mixed [] [] [.live [1, 2, 5, 6, 7], .keep [2]] (ti) (by kernel_rfl)).lp
def ref22_Consts_b6_I (s1 : Int) (s5 : List TValue) (s6 : Int) (s7 : Int) (w2 : TQea) : St := ⟨sp 56 0 [(1, .d ((D.i .i64) s1)), (2, .box 2 0), (5, .d ((D.l TValue.D) s5)), (6, .d ((D.i .i64) s6)), (7, .d ((D.i .i64) s7))], [(2, .cells ((cellsA (TQea.D w2))))], []⟩
def ref22_Consts_b6_O (s1 : Int) (s5 : List TValue) (s6 : Int) (s7 : Int) (w2 : TQea) (o : (List TValue)) : Ex × St := (.normal, ⟨sp 56 0 [(1, .d ((D.i .i64) s1)), (2, .box 2 0), (5, .d ((D.l TValue.D) o)), (6, .d ((D.i .i64) s6)), (7, .d ((D.i .i64) s7))], [(2, .cells ((cellsA (TQea.D w2))))], []⟩)
theorem ref22_Consts_b6_ok (rd : Option Nat) (s1 : Int) (s5 : List TValue) (s6 : Int) (s7 : Int) (w2 : TQea) (o : (List TValue)) (h : ref22_Consts_b6 s1 s5 s6 s7 w2 = some o) : LpOf Try.prog rd (fbody Try.prog 13) [0, 1, 0, 0, 1, 0, 0, 1, 0, 0, 1, 0, 1, 1, 1] (ref22_Consts_b6_I s1 s5 s6 s7 w2) (ref22_Consts_b6_O s1 s5 s6 s7 w2 o).1 (ref22_Consts_b6_O s1 s5 s6 s7 w2 o).2 := by
  unfold ref22_Consts_b6 at h
  obtain ⟨x10, h16, h⟩ := xS h
  obtain ⟨x11, h17, h⟩ := xS h
  rcases iS h with ⟨h18, h⟩ | ⟨h18, h⟩
  ·
   obtain ⟨o13, h21, h⟩ := bS h
   obtain rfl := si h
   exact (runB_arr mixed [(35, .el (TSymbol.D x10)), (39, .el (TArg.D x11)), (44, .bit true)] [⟨[1, 1, 0, 0, 1, 0, 0, 1, 0, 0, 1, 0, 0, 1, 0, 1, 1, 1], [.live [1, 2, 5, 6, 7, 8, 50], .keep [2, 8]], .normal, (ref22_Consts_b7_O s1 s5 s6 s7 (decide (x11.value.kind = s1)) w2 x11 o13).2⟩] [.live [1, 2, 5, 6, 7], .keep [2]] (ai (elem_map TSymbol.D h16) (ai (elem_map TArg.D h17) (ai h18 (ai (ref22_Consts_b7_ok rd s1 s5 s6 s7 (decide (x11.value.kind = s1)) w2 x11 o13 h21) (ti))))) (by kernel_rfl)).lp
  ·
   obtain ⟨o14, h22, h⟩ := bS h
   obtain rfl := si h
   exact (runB_arr mixed [(35, .el (TSymbol.D x10)), (39, .el (TArg.D x11)), (44, .bit false)] [⟨[1, 1, 0, 0, 1, 0, 0, 1, 0, 0, 1, 0, 0, 1, 0, 1, 1, 1], [.live [1, 2, 5, 6, 7, 8, 50], .keep [2, 8]], .normal, (ref22_Consts_b7_O s1 s5 s6 s7 false w2 x11 o14).2⟩] [.live [1, 2, 5, 6, 7], .keep [2]] (ai (elem_map TSymbol.D h16) (ai (elem_map TArg.D h17) (ai h18 (ai (ref22_Consts_b7_ok rd s1 s5 s6 s7 false w2 x11 o14 h22) (ti))))) (by kernel_rfl)).lp
def ref22_Consts_l8_I (s1 : Int) (s6 : Int) (w2 : TQea) (s5 : List TValue) (s7 : Int) : St := ⟨sp 56 0 [(1, .d ((D.i .i64) s1)), (2, .box 2 0), (5, .d ((D.l TValue.D) s5)), (6, .d ((D.i .i64) s6)), (7, .d ((D.i .i64) s7))], [(2, .cells ((cellsA (TQea.D w2))))], []⟩
def ref22_Consts_l8_O (s1 : Int) (s6 : Int) (w2 : TQea) (o : (List TValue)) : Ex × St := (.exit 2, ⟨sp 56 0 [(1, .d ((D.i .i64) s1)), (2, .box 2 0), (5, .d ((D.l TValue.D) o)), (6, .d ((D.i .i64) s6))], [(2, .cells ((cellsA (TQea.D w2))))], []⟩)
theorem ref22_Consts_l8_rnd (rd : Option Nat) (s1 : Int) (s6 : Int) (w2 : TQea) (s5 : List TValue) (s7 : Int) (o : (List TValue × Int) ⊕ ((List TValue))) (h : ref22_Consts_l8_s s1 s6 w2 s5 s7 = some o) : Arr Try.prog rd (fbody Try.prog 13) (0 :: [0, 1, 0, 0, 1, 0, 0, 1, 0, 1, 1, 1]) (ref22_Consts_l8_I s1 s6 w2 s5 s7) (rR (fun s : List TValue × Int => ref22_Consts_l8_I s1 s6 w2 s.1 s.2) (ref22_Consts_l8_O s1 s6 w2) o).1 (rR (fun s : List TValue × Int => ref22_Consts_l8_I s1 s6 w2 s.1 s.2) (ref22_Consts_l8_O s1 s6 w2) o).2 := by
  unfold ref22_Consts_l8_s at h
  obtain ⟨x17, h26, h⟩ := xS h
  rcases iS h with ⟨h27, h⟩ | ⟨h27, h⟩
  ·
   obtain ⟨o18, h28, h⟩ := bS h
   obtain rfl := si h
   exact runB_arr mixed [(25, .el (TSymbol.D x17)), (28, .int (x17.args.length : Int)), (29, .bit true)] [⟨[0, 1, 0, 0, 1, 0, 0, 1, 0, 0, 1, 0, 1, 1, 1], [.live [1, 2, 5, 6, 7], .keep [2]], .normal, (ref22_Consts_b6_O s1 s5 s6 s7 w2 o18).2⟩] [.live [1, 2, 5, 6, 7], .keep [2]] (ai (elem_map TSymbol.D h26) (ai (len_map TArg.D x17.args) (ai h27 (ai (ref22_Consts_b6_ok rd s1 s5 s6 s7 w2 o18 h28) (ti))))) (by kernel_rfl)
  ·
   obtain rfl := si h
   exact runB_arr mixed [(25, .el (TSymbol.D x17)), (28, .int (x17.args.length : Int)), (29, .bit false)] [] [.live [1, 2, 5, 6], .keep [2]] (ai (elem_map TSymbol.D h26) (ai (len_map TArg.D x17.args) (ai h27 (ti)))) (by kernel_rfl)
theorem ref22_Consts_l8_ok (rd : Option Nat) (s1 : Int) (s6 : Int) (w2 : TQea) (s5 : List TValue) (s7 : Int) (t : (List TValue)) (h : ref22_Consts_l8 s1 s6 w2 s5 s7 = some t) : LpOf Try.prog rd (fbody Try.prog 13) [0, 1, 0, 0, 1, 0, 0, 1, 0, 1, 1, 1] (ref22_Consts_l8_I s1 s6 w2 s5 s7) ((ref22_Consts_l8_O s1 s6 w2) t).1 ((ref22_Consts_l8_O s1 s6 w2) t).2 :=
  loopE_lpR (fun s : List TValue × Int => ref22_Consts_l8_I s1 s6 w2 s.1 s.2) (ref22_Consts_l8_O s1 s6 w2) (by kernel_rfl) (fun t => isN_ne (by rfl)) (fun s o h => ref22_Consts_l8_rnd rd s1 s6 w2 s.1 s.2 o h) (s := (s5, s7)) (t := t) h
def ref22_Consts_l2_I (s1 : Int) (w2 : TQea) (s5 : List TValue) (s6 : Int) : St := ⟨sp 56 0 [(1, .d ((D.i .i64) s1)), (2, .box 2 0), (5, .d ((D.l TValue.D) s5)), (6, .d ((D.i .i64) s6))], [(2, .cells ((cellsA (TQea.D w2))))], []⟩
def ref22_Consts_l2_O (s1 : Int) (w2 : TQea) (o : (List TValue)) : Ex × St := (.exit 0, ⟨sp 56 0 [(5, .d ((D.l TValue.D) o))], [], []⟩)
theorem ref22_Consts_l2_rnd (rd : Option Nat) (s1 : Int) (w2 : TQea) (s5 : List TValue) (s6 : Int) (o : (List TValue × Int) ⊕ ((List TValue))) (h : ref22_Consts_l2_s s1 w2 s5 s6 = some o) : Arr Try.prog rd (fbody Try.prog 13) (0 :: [0, 1, 0, 1, 1, 1]) (ref22_Consts_l2_I s1 w2 s5 s6) (rR (fun s : List TValue × Int => ref22_Consts_l2_I s1 w2 s.1 s.2) (ref22_Consts_l2_O s1 w2) o).1 (rR (fun s : List TValue × Int => ref22_Consts_l2_I s1 w2 s.1 s.2) (ref22_Consts_l2_O s1 w2) o).2 := by
  unfold ref22_Consts_l2_s at h
  rcases iS h with ⟨h25, h⟩ | ⟨h25, h⟩
  ·
   obtain ⟨o19, h29, h⟩ := bS h
   obtain rfl := si h
   exact runB_arr mixed [(17, .int (w2.symbols.length : Int)), (18, .bit true)] [⟨[0, 1, 0, 0, 1, 0, 0, 1, 0, 1, 1, 1], [.live [1, 2, 5, 6, 7], .keep [2]], .exit 2, (ref22_Consts_l8_O s1 s6 w2 o19).2⟩] [.live [1, 2, 5, 6], .keep [2]] (ai (len_map TSymbol.D w2.symbols) (ai h25 (ai (ref22_Consts_l8_ok rd s1 s6 w2 s5 0 o19 h29) (ti)))) (by kernel_rfl)
  ·
   obtain rfl := si h
   exact runB_arr mixed [(17, .int (w2.symbols.length : Int)), (18, .bit false)] [] [.live [5], .keep []] (ai (len_map TSymbol.D w2.symbols) (ai h25 (ti))) (by kernel_rfl)
theorem ref22_Consts_l2_ok (rd : Option Nat) (s1 : Int) (w2 : TQea) (s5 : List TValue) (s6 : Int) (t : (List TValue)) (h : ref22_Consts_l2 s1 w2 s5 s6 = some t) : LpOf Try.prog rd (fbody Try.prog 13) [0, 1, 0, 1, 1, 1] (ref22_Consts_l2_I s1 w2 s5 s6) ((ref22_Consts_l2_O s1 w2) t).1 ((ref22_Consts_l2_O s1 w2) t).2 :=
  loopE_lpR (fun s : List TValue × Int => ref22_Consts_l2_I s1 w2 s.1 s.2) (ref22_Consts_l2_O s1 w2) (by kernel_rfl) (fun t => isN_ne (by rfl)) (fun s o h => ref22_Consts_l2_rnd rd s1 w2 s.1 s.2 o h) (s := (s5, s6)) (t := t) h
theorem ref22_Consts_ok (a0 : TQea) (a1 : Int) (r : List TValue) (h : ref22_Consts a0 a1 = some r) : ACall Try.prog 13 [.d (TQea.D a0), .d ((D.i .i64) a1)] [] (.d ((D.l TValue.D) r)) [] := by
  unfold ref22_Consts at h
  obtain ⟨o1, h2, h⟩ := bS h
  obtain ⟨o20, h30, h⟩ := bS h
  obtain rfl := si h
  exact runF_call mixed [] [⟨[1, 0, 1, 1], [.live [1, 2, 5, 10], .keep [2]], .normal, (ref22_Consts_b1_O a1 (decide (a1 = 3)) a0 o1).2⟩, ⟨[0, 1, 0, 1, 1, 1], [.look 5, .live [1, 2, 5, 6], .keep [2]], .exit 0, (ref22_Consts_l2_O a1 a0 o20).2⟩] [] (ai (ref22_Consts_b1_ok none a1 (decide (a1 = 3)) a0 o1 h2) (ai (ref22_Consts_l2_ok none a1 a0 o1 0 o20 h30) (ti))) (by kernel_rfl)
def ref20_Same_l2_I (s0 : List (List TValue)) (s1 : List (List TValue)) (s5 : Int) (s6 : Int) : St := ⟨sp 53 0 [(0, .d ((D.l (D.l TValue.D)) s0)), (1, .d ((D.l (D.l TValue.D)) s1)), (5, .d ((D.i .i64) s5)), (6, .d ((D.i .i64) s6))], [], []⟩
def ref20_Same_l2_O (s0 : List (List TValue)) (s1 : List (List TValue)) (s5 : Int) (o : Unit ⊕ Unit) : Ex × St := match o with
  | .inl o => (.exit 2, ⟨sp 53 0 [(0, .d ((D.l (D.l TValue.D)) s0)), (1, .d ((D.l (D.l TValue.D)) s1)), (5, .d ((D.i .i64) s5))], [], []⟩)
  | .inr o => (.ret, ⟨sp 53 0 [(4, .d (D.b false))], [], []⟩)
end Go.Ac
