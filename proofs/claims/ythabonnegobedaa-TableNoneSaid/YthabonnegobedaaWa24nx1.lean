/- Own work, printed: the functions compute these. -/
import Derived.Test.YthabonnegobedaaSh24n
import Derived.Test.YthabonnegobedaaProg
set_option linter.unusedVariables false
set_option linter.unusedSimpArgs false
set_option linter.unusedVariables false
set_option linter.unusedSimpArgs false
namespace Go.Ac
open Go.Proofs
theorem mixed : Try.prog.follows .mixedOrders = true := by kernel_rfl
theorem ref03_Right_ok (a0 : TValue) (r : Bool) (h : ref03_Right a0 = some r) : ACall Try.prog 39 [.d (TValue.D a0)] [] (.d (D.b r)) [] := by
  unfold ref03_Right at h
  rcases iS h with ⟨h1, h⟩ | ⟨h1, h⟩
  ·
   rcases iS h with ⟨h2, h⟩ | ⟨h2, h⟩
   ·
    obtain rfl := si h
    exact runF_call mixed [(5, .bit true), (9, .bit true)] [] [] (ai h1 (ai h2 (ti))) (by kernel_rfl)
   ·
    obtain rfl := si h
    exact runF_call mixed [(5, .bit true), (9, .bit false)] [] [] (ai h1 (ai h2 (ti))) (by kernel_rfl)
  ·
   rcases iS h with ⟨h3, h⟩ | ⟨h3, h⟩
   ·
    rcases iS h with ⟨h4, h⟩ | ⟨h4, h⟩
    ·
     rcases iS h with ⟨h5, h⟩ | ⟨h5, h⟩
     ·
      obtain rfl := si h
      exact runF_call mixed [(5, .bit false), (16, .bit true), (20, .bit true), (25, .bit true), (28, .int (a0.str.length : Int))] [] [] (ai h1 (ai h3 (ai h4 (ai h5 (ai (len_str a0.str) (ti)))))) (by kernel_rfl)
     ·
      obtain rfl := si h
      exact runF_call mixed [(5, .bit false), (16, .bit true), (20, .bit true), (25, .bit false)] [] [] (ai h1 (ai h3 (ai h4 (ai h5 (ti))))) (by kernel_rfl)
    ·
     obtain rfl := si h
     exact runF_call mixed [(5, .bit false), (16, .bit true), (20, .bit false)] [] [] (ai h1 (ai h3 (ai h4 (ti)))) (by kernel_rfl)
   ·
    rcases iS h with ⟨h6, h⟩ | ⟨h6, h⟩
    ·
     rcases iS h with ⟨h7, h⟩ | ⟨h7, h⟩
     ·
      obtain rfl := si h
      exact runF_call mixed [(5, .bit false), (16, .bit false), (34, .bit true), (39, .bit true)] [] [] (ai h1 (ai h3 (ai h6 (ai h7 (ti))))) (by kernel_rfl)
     ·
      obtain rfl := si h
      exact runF_call mixed [(5, .bit false), (16, .bit false), (34, .bit true), (39, .bit false)] [] [] (ai h1 (ai h3 (ai h6 (ai h7 (ti))))) (by kernel_rfl)
    ·
     obtain rfl := si h
     exact runF_call mixed [(5, .bit false), (16, .bit false), (34, .bit false)] [] [] (ai h1 (ai h3 (ai h6 (ti)))) (by kernel_rfl)
def ref05_Right_l1_I (s0 : List TSlot) (s3 : Int) : St := ⟨sp 51 0 [(0, .d ((D.l TSlot.D) s0)), (3, .d ((D.i .i64) s3))], [], []⟩
def ref05_Right_l1_O (s0 : List TSlot) (o : Unit ⊕ Unit) : Ex × St := match o with
  | .inl o => (.exit 0, ⟨sp 51 0 [], [], []⟩)
  | .inr o => (.ret, ⟨sp 51 0 [(2, .d (D.b false))], [], []⟩)
theorem ref05_Right_l1_rnd (rd : Option Nat) (s0 : List TSlot) (s3 : Int) (o : (Int) ⊕ (Unit ⊕ Unit)) (h : ref05_Right_l1_s s0 s3 = some o) : Arr Try.prog rd (fbody Try.prog 25) (0 :: [0, 1, 0, 1]) (ref05_Right_l1_I s0 s3) (rR (fun s : Int => ref05_Right_l1_I s0 s) (ref05_Right_l1_O s0) o).1 (rR (fun s : Int => ref05_Right_l1_I s0 s) (ref05_Right_l1_O s0) o).2 := by
  unfold ref05_Right_l1_s at h
  rcases iS h with ⟨h1, h⟩ | ⟨h1, h⟩
  ·
   obtain ⟨x1, h2, h⟩ := xS h
   rcases iS h with ⟨h3, h⟩ | ⟨h3, h⟩
   ·
    obtain rfl := si h
    exact runB_arr mixed [(6, .int (s0.length : Int)), (7, .bit true), (12, .el (TSlot.D x1)), (16, .bit true)] [] [.live [2], .keep []] (ai (len_map TSlot.D s0) (ai h1 (ai (elem_map TSlot.D h2) (ai h3 (ti))))) (by kernel_rfl)
   ·
    obtain ⟨x2, h4, h⟩ := xS h
    rcases iS h with ⟨h5, h⟩ | ⟨h5, h⟩
    ·
     obtain rfl := si h
     exact runB_arr mixed [(6, .int (s0.length : Int)), (7, .bit true), (12, .el (TSlot.D x1)), (16, .bit false), (19, .el (TSlot.D x2)), (24, .bit true)] [] [.live [2], .keep []] (ai (len_map TSlot.D s0) (ai h1 (ai (elem_map TSlot.D h2) (ai h3 (ai (elem_map TSlot.D h4) (ai h5 (ti))))))) (by kernel_rfl)
    ·
     obtain ⟨x3, h6, h⟩ := xS h
     obtain ⟨r4, h7, h⟩ := bS h
     rcases iS h with ⟨h8, h⟩ | ⟨h8, h⟩
     ·
      obtain rfl := si h
      exact runB_arr mixed [(6, .int (s0.length : Int)), (7, .bit true), (12, .el (TSlot.D x1)), (16, .bit false), (19, .el (TSlot.D x2)), (24, .bit false), (27, .el (TSlot.D x3)), (30, .ret (.d (D.b r4))), (33, .bit true)] [] [.live [2], .keep []] (ai (len_map TSlot.D s0) (ai h1 (ai (elem_map TSlot.D h2) (ai h3 (ai (elem_map TSlot.D h4) (ai h5 (ai (elem_map TSlot.D h6) (ai (ref03_Right_ok x3.value r4 h7) (ai h8 (ti)))))))))) (by kernel_rfl)
     ·
      rcases iS h with ⟨h9, h⟩ | ⟨h9, h⟩
      ·
       obtain ⟨x5, h10, h⟩ := xS h
       obtain ⟨x6, h11, h⟩ := xS h
       rcases iS h with ⟨h12, h⟩ | ⟨h12, h⟩
       ·
        obtain rfl := si h
        exact runB_arr mixed [(6, .int (s0.length : Int)), (7, .bit true), (12, .el (TSlot.D x1)), (16, .bit false), (19, .el (TSlot.D x2)), (24, .bit false), (27, .el (TSlot.D x3)), (30, .ret (.d (D.b r4))), (33, .bit false), (36, .bit true), (39, .el (TSlot.D x5)), (45, .el (TSlot.D x6)), (50, .bit true)] [] [.live [2], .keep []] (ai (len_map TSlot.D s0) (ai h1 (ai (elem_map TSlot.D h2) (ai h3 (ai (elem_map TSlot.D h4) (ai h5 (ai (elem_map TSlot.D h6) (ai (ref03_Right_ok x3.value r4 h7) (ai h8 (ai h9 (ai (elem_map TSlot.D h10) (ai (elem_map TSlot.D h11) (ai h12 (ti)))))))))))))) (by kernel_rfl)
       ·
        obtain rfl := si h
        exact runB_arr mixed [(6, .int (s0.length : Int)), (7, .bit true), (12, .el (TSlot.D x1)), (16, .bit false), (19, .el (TSlot.D x2)), (24, .bit false), (27, .el (TSlot.D x3)), (30, .ret (.d (D.b r4))), (33, .bit false), (36, .bit true), (39, .el (TSlot.D x5)), (45, .el (TSlot.D x6)), (50, .bit false)] [] [.live [0, 3], .keep []] (ai (len_map TSlot.D s0) (ai h1 (ai (elem_map TSlot.D h2) (ai h3 (ai (elem_map TSlot.D h4) (ai h5 (ai (elem_map TSlot.D h6) (ai (ref03_Right_ok x3.value r4 h7) (ai h8 (ai h9 (ai (elem_map TSlot.D h10) (ai (elem_map TSlot.D h11) (ai h12 (ti)))))))))))))) (by kernel_rfl)
      ·
       obtain rfl := si h
       exact runB_arr mixed [(6, .int (s0.length : Int)), (7, .bit true), (12, .el (TSlot.D x1)), (16, .bit false), (19, .el (TSlot.D x2)), (24, .bit false), (27, .el (TSlot.D x3)), (30, .ret (.d (D.b r4))), (33, .bit false), (36, .bit false)] [] [.live [0, 3], .keep []] (ai (len_map TSlot.D s0) (ai h1 (ai (elem_map TSlot.D h2) (ai h3 (ai (elem_map TSlot.D h4) (ai h5 (ai (elem_map TSlot.D h6) (ai (ref03_Right_ok x3.value r4 h7) (ai h8 (ai h9 (ti))))))))))) (by kernel_rfl)
  ·
   obtain rfl := si h
   exact runB_arr mixed [(6, .int (s0.length : Int)), (7, .bit false)] [] [.live [], .keep []] (ai (len_map TSlot.D s0) (ai h1 (ti))) (by kernel_rfl)
theorem ref05_Right_l1_ok (rd : Option Nat) (s0 : List TSlot) (s3 : Int) (t : Unit ⊕ Unit) (h : ref05_Right_l1 s0 s3 = some t) : LpOf Try.prog rd (fbody Try.prog 25) [0, 1, 0, 1] (ref05_Right_l1_I s0 s3) ((ref05_Right_l1_O s0) t).1 ((ref05_Right_l1_O s0) t).2 :=
  loopE_lpR (fun s : Int => ref05_Right_l1_I s0 s) (ref05_Right_l1_O s0) (by kernel_rfl) (fun t => isN_ne (by rcases t with (_ | _) <;> rfl)) (fun s o h => ref05_Right_l1_rnd rd s0 s o h) (s := s3) (t := t) h
theorem ref05_Right_ok (a0 : List TSlot) (r : Bool) (h : ref05_Right a0 = some r) : ACall Try.prog 25 [.d ((D.l TSlot.D) a0)] [] (.d (D.b r)) [] := by
  unfold ref05_Right at h
  obtain ⟨o7, h13, h⟩ := bS h
  replace h := sumE_some h
  rcases h with ⟨o8, rfl, h⟩ | ⟨o9, rfl, h⟩
  ·
   obtain rfl := si h
   exact runF_call mixed [] [⟨[0, 1, 0, 1], [.live [0, 3], .keep []], .exit 0, (ref05_Right_l1_O a0 (Sum.inl o8)).2⟩] [] (ai (ref05_Right_l1_ok none a0 0 (Sum.inl o8) h13) (ti)) (by kernel_rfl)
  ·
   obtain rfl := si h
   exact runF_call mixed [] [⟨[0, 1, 0, 1], [.live [0, 3], .keep []], .ret, (ref05_Right_l1_O a0 (Sum.inr o9)).2⟩] [] (ai (ref05_Right_l1_ok none a0 0 (Sum.inr o9) h13) (ti)) (by kernel_rfl)
def law24_few_l2_I (s0 : List Tproctorlaw24_Act) (s3 : Int) (s4 : Int) : St := ⟨sp 68 0 [(0, .d ((D.l Tproctorlaw24_Act.D) s0)), (3, .d ((D.i .i64) s3)), (4, .d ((D.i .i64) s4))], [], []⟩
def law24_few_l2_O (s0 : List Tproctorlaw24_Act) (s3 : Int) (o : Unit ⊕ Unit) : Ex × St := match o with
  | .inl o => (.exit 2, ⟨sp 68 0 [(0, .d ((D.l Tproctorlaw24_Act.D) s0)), (3, .d ((D.i .i64) s3))], [], []⟩)
  | .inr o => (.ret, ⟨sp 68 0 [(2, .d (D.b false))], [], []⟩)
theorem law24_few_l2_rnd (rd : Option Nat) (s0 : List Tproctorlaw24_Act) (s3 : Int) (s4 : Int) (o : (Int) ⊕ (Unit ⊕ Unit)) (h : law24_few_l2_s s0 s3 s4 = some o) : Arr Try.prog rd (fbody Try.prog 5) (0 :: [0, 1, 1, 0, 0, 1, 0, 0, 1, 0, 1, 1]) (law24_few_l2_I s0 s3 s4) (rR (fun s : Int => law24_few_l2_I s0 s3 s) (law24_few_l2_O s0 s3) o).1 (rR (fun s : Int => law24_few_l2_I s0 s3 s) (law24_few_l2_O s0 s3) o).2 := by
  unfold law24_few_l2_s at h
  obtain ⟨x6, h12, h⟩ := xS h
  rcases iS h with ⟨h13, h⟩ | ⟨h13, h⟩
  ·
   obtain ⟨x7, h14, h⟩ := xS h
   obtain ⟨x8, h15, h⟩ := xS h
   rcases iS h with ⟨h16, h⟩ | ⟨h16, h⟩
   ·
    obtain rfl := si h
    exact runB_arr mixed [(49, .el (Tproctorlaw24_Act.D x6)), (52, .int (x6.bind.length : Int)), (53, .bit true), (58, .el (Tproctorlaw24_Act.D x7)), (62, .el (TSlot.D x8)), (66, .int (x8.value.str.length : Int)), (67, .bit true)] [] [.live [2], .keep []] (ai (elem_map Tproctorlaw24_Act.D h12) (ai (len_map TSlot.D x6.bind) (ai h13 (ai (elem_map Tproctorlaw24_Act.D h14) (ai (elem_map TSlot.D h15) (ai (len_str x8.value.str) (ai h16 (ti)))))))) (by kernel_rfl)
   ·
    obtain rfl := si h
    exact runB_arr mixed [(49, .el (Tproctorlaw24_Act.D x6)), (52, .int (x6.bind.length : Int)), (53, .bit true), (58, .el (Tproctorlaw24_Act.D x7)), (62, .el (TSlot.D x8)), (66, .int (x8.value.str.length : Int)), (67, .bit false)] [] [.live [0, 3, 4], .keep []] (ai (elem_map Tproctorlaw24_Act.D h12) (ai (len_map TSlot.D x6.bind) (ai h13 (ai (elem_map Tproctorlaw24_Act.D h14) (ai (elem_map TSlot.D h15) (ai (len_str x8.value.str) (ai h16 (ti)))))))) (by kernel_rfl)
  ·
   obtain rfl := si h
   exact runB_arr mixed [(49, .el (Tproctorlaw24_Act.D x6)), (52, .int (x6.bind.length : Int)), (53, .bit false)] [] [.live [0, 3], .keep []] (ai (elem_map Tproctorlaw24_Act.D h12) (ai (len_map TSlot.D x6.bind) (ai h13 (ti)))) (by kernel_rfl)
theorem law24_few_l2_ok (rd : Option Nat) (s0 : List Tproctorlaw24_Act) (s3 : Int) (s4 : Int) (t : Unit ⊕ Unit) (h : law24_few_l2 s0 s3 s4 = some t) : LpOf Try.prog rd (fbody Try.prog 5) [0, 1, 1, 0, 0, 1, 0, 0, 1, 0, 1, 1] (law24_few_l2_I s0 s3 s4) ((law24_few_l2_O s0 s3) t).1 ((law24_few_l2_O s0 s3) t).2 :=
  loopE_lpR (fun s : Int => law24_few_l2_I s0 s3 s) (law24_few_l2_O s0 s3) (by kernel_rfl) (fun t => isN_ne (by rcases t with (_ | _) <;> rfl)) (fun s o h => law24_few_l2_rnd rd s0 s3 s o h) (s := s4) (t := t) h
def law24_few_l1_I (s0 : List Tproctorlaw24_Act) (s3 : Int) : St := ⟨sp 68 0 [(0, .d ((D.l Tproctorlaw24_Act.D) s0)), (3, .d ((D.i .i64) s3))], [], []⟩
def law24_few_l1_O (s0 : List Tproctorlaw24_Act) (o : Unit ⊕ Unit) : Ex × St := match o with
  | .inl o => (.exit 0, ⟨sp 68 0 [], [], []⟩)
  | .inr o => (.ret, ⟨sp 68 0 [(2, .d (D.b false))], [], []⟩)
theorem law24_few_l1_rnd (rd : Option Nat) (s0 : List Tproctorlaw24_Act) (s3 : Int) (o : (Int) ⊕ (Unit ⊕ Unit)) (h : law24_few_l1_s s0 s3 = some o) : Arr Try.prog rd (fbody Try.prog 5) (0 :: [0, 1, 0, 1, 1]) (law24_few_l1_I s0 s3) (rR (fun s : Int => law24_few_l1_I s0 s) (law24_few_l1_O s0) o).1 (rR (fun s : Int => law24_few_l1_I s0 s) (law24_few_l1_O s0) o).2 := by
  unfold law24_few_l1_s at h
  rcases iS h with ⟨h2, h⟩ | ⟨h2, h⟩
  ·
   obtain ⟨x1, h3, h⟩ := xS h
   rcases iS h with ⟨h4, h⟩ | ⟨h4, h⟩
   ·
    obtain rfl := si h
    exact runB_arr mixed [(10, .int (s0.length : Int)), (11, .bit true), (16, .el (Tproctorlaw24_Act.D x1)), (19, .int (x1.bind.length : Int)), (21, .bit true)] [] [.live [2], .keep []] (ai (len_map Tproctorlaw24_Act.D s0) (ai h2 (ai (elem_map Tproctorlaw24_Act.D h3) (ai (len_map TSlot.D x1.bind) (ai h4 (ti)))))) (by kernel_rfl)
   ·
    obtain ⟨x2, h5, h⟩ := xS h
    obtain ⟨r3, h6, h⟩ := bS h
    rcases iS h with ⟨h7, h⟩ | ⟨h7, h⟩
    ·
     obtain rfl := si h
     exact runB_arr mixed [(10, .int (s0.length : Int)), (11, .bit true), (16, .el (Tproctorlaw24_Act.D x1)), (19, .int (x1.bind.length : Int)), (21, .bit false), (24, .el (Tproctorlaw24_Act.D x2)), (27, .ret (.d (D.b r3))), (30, .bit true)] [] [.live [2], .keep []] (ai (len_map Tproctorlaw24_Act.D s0) (ai h2 (ai (elem_map Tproctorlaw24_Act.D h3) (ai (len_map TSlot.D x1.bind) (ai h4 (ai (elem_map Tproctorlaw24_Act.D h5) (ai (ref05_Right_ok x2.bind r3 h6) (ai h7 (ti))))))))) (by kernel_rfl)
    ·
     obtain ⟨x4, h8, h⟩ := xS h
     rcases iS h with ⟨h9, h⟩ | ⟨h9, h⟩
     ·
      obtain rfl := si h
      exact runB_arr mixed [(10, .int (s0.length : Int)), (11, .bit true), (16, .el (Tproctorlaw24_Act.D x1)), (19, .int (x1.bind.length : Int)), (21, .bit false), (24, .el (Tproctorlaw24_Act.D x2)), (27, .ret (.d (D.b r3))), (30, .bit false), (33, .el (Tproctorlaw24_Act.D x4)), (38, .bit true)] [] [.live [2], .keep []] (ai (len_map Tproctorlaw24_Act.D s0) (ai h2 (ai (elem_map Tproctorlaw24_Act.D h3) (ai (len_map TSlot.D x1.bind) (ai h4 (ai (elem_map Tproctorlaw24_Act.D h5) (ai (ref05_Right_ok x2.bind r3 h6) (ai h7 (ai (elem_map Tproctorlaw24_Act.D h8) (ai h9 (ti))))))))))) (by kernel_rfl)
     ·
      obtain ⟨x5, h10, h⟩ := xS h
      rcases iS h with ⟨h11, h⟩ | ⟨h11, h⟩
      ·
       obtain rfl := si h
       exact runB_arr mixed [(10, .int (s0.length : Int)), (11, .bit true), (16, .el (Tproctorlaw24_Act.D x1)), (19, .int (x1.bind.length : Int)), (21, .bit false), (24, .el (Tproctorlaw24_Act.D x2)), (27, .ret (.d (D.b r3))), (30, .bit false), (33, .el (Tproctorlaw24_Act.D x4)), (38, .bit false), (41, .el (Tproctorlaw24_Act.D x5)), (45, .bit true)] [] [.live [2], .keep []] (ai (len_map Tproctorlaw24_Act.D s0) (ai h2 (ai (elem_map Tproctorlaw24_Act.D h3) (ai (len_map TSlot.D x1.bind) (ai h4 (ai (elem_map Tproctorlaw24_Act.D h5) (ai (ref05_Right_ok x2.bind r3 h6) (ai h7 (ai (elem_map Tproctorlaw24_Act.D h8) (ai h9 (ai (elem_map Tproctorlaw24_Act.D h10) (ai h11 (ti))))))))))))) (by kernel_rfl)
      ·
       obtain ⟨o9, h17, h⟩ := bS h
       replace h := sumE_some h
       rcases h with ⟨o10, rfl, h⟩ | ⟨o11, rfl, h⟩
       ·
        obtain rfl := si h
        exact runB_arr mixed [(10, .int (s0.length : Int)), (11, .bit true), (16, .el (Tproctorlaw24_Act.D x1)), (19, .int (x1.bind.length : Int)), (21, .bit false), (24, .el (Tproctorlaw24_Act.D x2)), (27, .ret (.d (D.b r3))), (30, .bit false), (33, .el (Tproctorlaw24_Act.D x4)), (38, .bit false), (41, .el (Tproctorlaw24_Act.D x5)), (45, .bit false)] [⟨[0, 1, 1, 0, 0, 1, 0, 0, 1, 0, 1, 1], [.live [0, 3, 4], .keep []], .exit 2, (law24_few_l2_O s0 s3 (Sum.inl o10)).2⟩] [.live [0, 3], .keep []] (ai (len_map Tproctorlaw24_Act.D s0) (ai h2 (ai (elem_map Tproctorlaw24_Act.D h3) (ai (len_map TSlot.D x1.bind) (ai h4 (ai (elem_map Tproctorlaw24_Act.D h5) (ai (ref05_Right_ok x2.bind r3 h6) (ai h7 (ai (elem_map Tproctorlaw24_Act.D h8) (ai h9 (ai (elem_map Tproctorlaw24_Act.D h10) (ai h11 (ai (law24_few_l2_ok rd s0 s3 0 (Sum.inl o10) h17) (ti)))))))))))))) (by kernel_rfl)
       ·
        obtain rfl := si h
        exact runB_arr mixed [(10, .int (s0.length : Int)), (11, .bit true), (16, .el (Tproctorlaw24_Act.D x1)), (19, .int (x1.bind.length : Int)), (21, .bit false), (24, .el (Tproctorlaw24_Act.D x2)), (27, .ret (.d (D.b r3))), (30, .bit false), (33, .el (Tproctorlaw24_Act.D x4)), (38, .bit false), (41, .el (Tproctorlaw24_Act.D x5)), (45, .bit false)] [⟨[0, 1, 1, 0, 0, 1, 0, 0, 1, 0, 1, 1], [.live [0, 3, 4], .keep []], .ret, (law24_few_l2_O s0 s3 (Sum.inr o11)).2⟩] [.live [2], .keep []] (ai (len_map Tproctorlaw24_Act.D s0) (ai h2 (ai (elem_map Tproctorlaw24_Act.D h3) (ai (len_map TSlot.D x1.bind) (ai h4 (ai (elem_map Tproctorlaw24_Act.D h5) (ai (ref05_Right_ok x2.bind r3 h6) (ai h7 (ai (elem_map Tproctorlaw24_Act.D h8) (ai h9 (ai (elem_map Tproctorlaw24_Act.D h10) (ai h11 (ai (law24_few_l2_ok rd s0 s3 0 (Sum.inr o11) h17) (ti)))))))))))))) (by kernel_rfl)
  ·
   obtain rfl := si h
   exact runB_arr mixed [(10, .int (s0.length : Int)), (11, .bit false)] [] [.live [], .keep []] (ai (len_map Tproctorlaw24_Act.D s0) (ai h2 (ti))) (by kernel_rfl)
theorem law24_few_l1_ok (rd : Option Nat) (s0 : List Tproctorlaw24_Act) (s3 : Int) (t : Unit ⊕ Unit) (h : law24_few_l1 s0 s3 = some t) : LpOf Try.prog rd (fbody Try.prog 5) [0, 1, 0, 1, 1] (law24_few_l1_I s0 s3) ((law24_few_l1_O s0) t).1 ((law24_few_l1_O s0) t).2 :=
  loopE_lpR (fun s : Int => law24_few_l1_I s0 s) (law24_few_l1_O s0) (by kernel_rfl) (fun t => isN_ne (by rcases t with (_ | _) <;> rfl)) (fun s o h => law24_few_l1_rnd rd s0 s o h) (s := s3) (t := t) h
theorem law24_few_ok (a0 : List Tproctorlaw24_Act) (r : Bool) (h : law24_few a0 = some r) : ACall Try.prog 5 [.d ((D.l Tproctorlaw24_Act.D) a0)] [] (.d (D.b r)) [] := by
  unfold law24_few at h
  rcases iS h with ⟨h1, h⟩ | ⟨h1, h⟩
  ·
   obtain rfl := si h
   exact runF_call mixed [(6, .int (a0.length : Int)), (7, .bit true)] [] [] (ai (len_map Tproctorlaw24_Act.D a0) (ai h1 (ti))) (by kernel_rfl)
  ·
   obtain ⟨o12, h18, h⟩ := bS h
   replace h := sumE_some h
   rcases h with ⟨o13, rfl, h⟩ | ⟨o14, rfl, h⟩
   ·
    obtain rfl := si h
    exact runF_call mixed [(6, .int (a0.length : Int)), (7, .bit false)] [⟨[0, 1, 0, 1, 1], [.live [0, 3], .keep []], .exit 0, (law24_few_l1_O a0 (Sum.inl o13)).2⟩] [] (ai (len_map Tproctorlaw24_Act.D a0) (ai h1 (ai (law24_few_l1_ok none a0 0 (Sum.inl o13) h18) (ti)))) (by kernel_rfl)
   ·
    obtain rfl := si h
    exact runF_call mixed [(6, .int (a0.length : Int)), (7, .bit false)] [⟨[0, 1, 0, 1, 1], [.live [0, 3], .keep []], .ret, (law24_few_l1_O a0 (Sum.inr o14)).2⟩] [] (ai (len_map Tproctorlaw24_Act.D a0) (ai h1 (ai (law24_few_l1_ok none a0 0 (Sum.inr o14) h18) (ti)))) (by kernel_rfl)
theorem table_New_v2_ok (a0 : Int) (r : Int × Int × MP Int TRow × MP (List UInt8) Int) (h : table_New_v2 a0 = some r) : ACall Try.prog 7 [.d ((D.i .i64) a0)] [] (.box 0 0) [(0, .cells ([.row 1, .row 2, .d ((D.i .i64) r.1), .d ((D.i .i64) r.2.1)])), (1, .map r.2.2.1.clk (MP.dl (D.i .i64) TRow.D r.2.2.1)), (2, .map r.2.2.2.clk (MP.dl D.s (D.i .i64) r.2.2.2))] := by
  unfold table_New_v2 at h
  obtain rfl := si h
  exact runX_call mixed (fun us => [(6, .int (maxE a0 1)), (7, .int (minE (maxE a0 1) 4096))]) (fun us => []) [.live [2], .keep [3, 4, 9, 997], .ren 3 1, .ren 4 2, .ren 9 0, .sort] [] (fun us => ai (rfl : maxE a0 1 = maxE a0 1) (ai (rfl : minE (maxE a0 1) 4096 = minE (maxE a0 1) 4096) (ti))) (by kernel_rfl)
theorem value_Int_ok (a0 : Int) (r : TValue) (h : value_Int a0 = some r) : ACall Try.prog 80 [.d ((D.i .i64) a0)] [] (.d (TValue.D r)) [] := by
  unfold value_Int at h
  obtain rfl := si h
  exact runF_call mixed [] [] [] (ti) (by kernel_rfl)
theorem value_Str_ok (a0 : List UInt8) (r : TValue) (h : value_Str a0 = some r) : ACall Try.prog 81 [.d (D.s a0)] [] (.d (TValue.D r)) [] := by
  unfold value_Str at h
  obtain rfl := si h
  exact runF_call mixed [] [] [] (ti) (by kernel_rfl)
theorem value_Bool_ok (a0 : Bool) (r : TValue) (h : value_Bool a0 = some r) : ACall Try.prog 82 [.d (D.b a0)] [] (.d (TValue.D r)) [] := by
  unfold value_Bool at h
  obtain rfl := si h
  exact runF_call mixed [] [] [] (ti) (by kernel_rfl)
theorem value_Right_ok (a0 : TValue) (r : Bool) (h : value_Right a0 = some r) : ACall Try.prog 68 [.d (TValue.D a0)] [] (.d (D.b r)) [] := by
  unfold value_Right at h
  rcases iS h with ⟨h1, h⟩ | ⟨h1, h⟩
  ·
   obtain ⟨r1, h2, h⟩ := bS h
   obtain rfl := si h
   exact runF_call mixed [(5, .bit true), (10, .ret (.d (TValue.D r1)))] [] [] (ai h1 (ai (value_Int_ok a0.int r1 h2) (ti))) (by kernel_rfl)
  ·
   rcases iS h with ⟨h3, h⟩ | ⟨h3, h⟩
   ·
    obtain ⟨r2, h4, h⟩ := bS h
    rcases iS h with ⟨h5, h⟩ | ⟨h5, h⟩
    ·
     obtain rfl := si h
     exact runF_call mixed [(5, .bit false), (12, .bit true), (17, .ret (.d (TValue.D r2))), (19, .bit true), (22, .int (a0.str.length : Int))] [] [] (ai h1 (ai h3 (ai (value_Str_ok a0.str r2 h4) (ai h5 (ai (len_str a0.str) (ti)))))) (by kernel_rfl)
    ·
     obtain rfl := si h
     exact runF_call mixed [(5, .bit false), (12, .bit true), (17, .ret (.d (TValue.D r2))), (19, .bit false)] [] [] (ai h1 (ai h3 (ai (value_Str_ok a0.str r2 h4) (ai h5 (ti))))) (by kernel_rfl)
   ·
    rcases iS h with ⟨h6, h⟩ | ⟨h6, h⟩
    ·
     obtain ⟨r3, h7, h⟩ := bS h
     obtain rfl := si h
     exact runF_call mixed [(5, .bit false), (12, .bit false), (25, .bit true), (30, .ret (.d (TValue.D r3)))] [] [] (ai h1 (ai h3 (ai h6 (ai (value_Bool_ok a0.bool r3 h7) (ti))))) (by kernel_rfl)
    ·
     obtain rfl := si h
     exact runF_call mixed [(5, .bit false), (12, .bit false), (25, .bit false)] [] [] (ai h1 (ai h3 (ai h6 (ti)))) (by kernel_rfl)
def key_number_l1_I (s3 : Int) (s10 : Int) (w4 : List UInt8) : St := ⟨sp 27 0 [(3, .d ((D.i .u64) s3)), (4, .box 4 0), (10, .d ((D.i .i64) s10))], [(4, .buf false 132 1 (w4.map dbyte))], []⟩
def key_number_l1_O (s3 : Int) (o : (List UInt8)) : Ex × St := (.exit 0, ⟨sp 27 0 [(4, .box 4 0)], [(4, .buf false 132 1 (o.map dbyte))], []⟩)
theorem key_number_l1_rnd (rd : Option Nat) (s3 : Int) (s10 : Int) (w4 : List UInt8) (o : (Int × List UInt8) ⊕ ((List UInt8))) (h : key_number_l1_s s3 s10 w4 = some o) : Arr Try.prog rd (fbody Try.prog 83) (0 :: [0, 1, 0, 1, 1, 1]) (key_number_l1_I s3 s10 w4) (rR (fun s : Int × List UInt8 => key_number_l1_I s3 s.1 s.2) (key_number_l1_O s3) o).1 (rR (fun s : Int × List UInt8 => key_number_l1_I s3 s.1 s.2) (key_number_l1_O s3) o).2 := by
  unfold key_number_l1_s at h
  rcases iS h with ⟨h1, h⟩ | ⟨h1, h⟩
  ·
   obtain ⟨h2, h⟩ := cS h
   obtain ⟨h3, h⟩ := cS h
   obtain ⟨h4, h⟩ := cS h
   obtain rfl := si h
   exact runB_arr mixed [(11, .bit true), (19, .int (u8w (intVal .shr .u64 s3 (intVal .mul .i64 8 (intVal .sub .i64 7 s10)))).toNat), (10020, .sl ((w4.set s10.toNat (u8w (intVal .shr .u64 s3 (intVal .mul .i64 8 (intVal .sub .i64 7 s10))))).map dbyte))] [] [.live [3, 4, 10], .keep [4]] (ai h1 (ai h2 (ai (u8w_ok (intVal .shr .u64 s3 (intVal .mul .i64 8 (intVal .sub .i64 7 s10)))) (ai h3.1 (ai h3.2 (ai (le_ep dbyte h4) (ai (upd_map dbyte w4 s10 (u8w (intVal .shr .u64 s3 (intVal .mul .i64 8 (intVal .sub .i64 7 s10))))) (ti)))))))) (by kernel_rfl)
  ·
   obtain rfl := si h
   exact runB_arr mixed [(11, .bit false)] [] [.live [4], .keep [4]] (ai h1 (ti)) (by kernel_rfl)
theorem key_number_l1_ok (rd : Option Nat) (s3 : Int) (s10 : Int) (w4 : List UInt8) (t : (List UInt8)) (h : key_number_l1 s3 s10 w4 = some t) : LpOf Try.prog rd (fbody Try.prog 83) [0, 1, 0, 1, 1, 1] (key_number_l1_I s3 s10 w4) ((key_number_l1_O s3) t).1 ((key_number_l1_O s3) t).2 :=
  loopE_lpR (fun s : Int × List UInt8 => key_number_l1_I s3 s.1 s.2) (key_number_l1_O s3) (by kernel_rfl) (fun t => isN_ne (by rfl)) (fun s o h => key_number_l1_rnd rd s3 s.1 s.2 o h) (s := (s10, w4)) (t := t) h
theorem key_number_ok (a0 : Int) (r : List UInt8) (h : key_number a0 = some r) : ACall Try.prog 83 [.d ((D.i .i64) a0)] [] (.d ((D.l dbyte) r)) [] := by
  unfold key_number at h
  obtain ⟨o1, h5, h⟩ := bS h
  obtain ⟨h6, h⟩ := cS h
  obtain ⟨h7, h⟩ := cS h
  obtain rfl := si h
  exact runF_call mixed [(22, .sl ((List.replicate (8 : Int).toNat (0 : UInt8)).map dbyte)), (25, .sl ((o1.take (List.replicate (8 : Int).toNat (0 : UInt8)).length ++ (List.replicate (8 : Int).toNat (0 : UInt8)).drop o1.length).map dbyte))] [⟨[0, 1, 0, 1, 1, 1], [.live [3, 4, 10], .keep [4]], .exit 0, (key_number_l1_O (intVal .xor .u64 (IntKind.wrap .u64 a0) 9223372036854775808) o1).2⟩] [.frz 22] (ai (key_number_l1_ok none (intVal .xor .u64 (IntKind.wrap .u64 a0) 9223372036854775808) 0 (List.replicate 8 (0 : UInt8)) o1 h5) (ai h6.1 (ai (Int.le_refl (8 : Int)) (ai (Int.le_refl (8 : Int)) (ai (mk_fit dbyte (0 : UInt8) h6.2) (ai (mk_app dbyte (8 : Int) (0 : UInt8)) (ai (len_eq dbyte h7) (ai (copy_app dbyte (List.replicate (8 : Int).toNat (0 : UInt8)) o1) (ti))))))))) (by kernel_rfl)
def key_text_b3_I (s0 : List UInt8) (s6 : Int) (s7 : Int) (s19 : Bool) (w3 : List UInt8) : St := ⟨sp 27 0 [(0, .d (D.s s0)), (3, .row 3), (6, .d ((D.i .i64) s6)), (7, .d ((D.i .i64) s7)), (19, .d (D.b s19))], [(3, .row 5 1 (w3.map dbyte))], []⟩
def key_text_b3_O (s0 : List UInt8) (s6 : Int) (s7 : Int) (s19 : Bool) (w3 : List UInt8) (o : (List UInt8)) : Ex × St := (.normal, ⟨sp 27 0 [(0, .d (D.s s0)), (3, .row 3), (6, .d ((D.i .i64) s6)), (7, .d ((D.i .i64) s7))], [(3, .row 5 1 (o.map dbyte))], []⟩)
theorem key_text_b3_ok (rd : Option Nat) (s0 : List UInt8) (s6 : Int) (s7 : Int) (s19 : Bool) (w3 : List UInt8) (o : (List UInt8)) (h : key_text_b3 s0 s6 s7 s19 w3 = some o) : LpOf Try.prog rd (fbody Try.prog 84) [1, 1, 1, 0, 0, 1, 1, 0, 0, 1, 0, 1, 1] (key_text_b3_I s0 s6 s7 s19 w3) (key_text_b3_O s0 s6 s7 s19 w3 o).1 (key_text_b3_O s0 s6 s7 s19 w3 o).2 := by
  unfold key_text_b3 at h
  cases s19 with
  | true =>
   replace h := iteT h
   obtain ⟨h6, h⟩ := cS h
   obtain rfl := si h
   exact (runB_arr mixed [(22, .sl ((w3 ++ [(255 : UInt8)]).map dbyte))] [] [.live [0, 3, 6, 7], .keep [22], .ren 22 3, .sort] (ai (nc_ok dbyte [(255 : UInt8)]) (ai (nc_ok dbyte [(255 : UInt8)]) (ai (fit_map dbyte h6) (ai (app_map dbyte w3 [(255 : UInt8)]) (ti))))) (by kernel_rfl)).lp
  | false =>
   replace h := iteF h
   obtain rfl := si h
   exact (runB_arr mixed [] [] [.live [0, 3, 6, 7], .keep [3]] (ti) (by kernel_rfl)).lp
def key_text_b4_I (s0 : List UInt8) (s6 : Int) (s7 : Int) (w3 : List UInt8) : St := ⟨sp 27 0 [(0, .d (D.s s0)), (3, .row 3), (6, .d ((D.i .i64) s6)), (7, .d ((D.i .i64) s7))], [(3, .row 5 1 (w3.map dbyte))], []⟩
def key_text_b4_O (s0 : List UInt8) (s6 : Int) (s7 : Int) (w3 : List UInt8) (o : (List UInt8)) : Ex × St := (.normal, ⟨sp 27 0 [(0, .d (D.s s0)), (3, .row 3), (6, .d ((D.i .i64) s6)), (7, .d ((D.i .i64) s7))], [(3, .row 5 1 (o.map dbyte))], []⟩)
theorem key_text_b4_ok (rd : Option Nat) (s0 : List UInt8) (s6 : Int) (s7 : Int) (w3 : List UInt8) (o : (List UInt8)) (h : key_text_b4 s0 s6 s7 w3 = some o) : LpOf Try.prog rd (fbody Try.prog 84) [0, 1, 1, 0, 0, 1, 0, 1, 1] (key_text_b4_I s0 s6 s7 w3) (key_text_b4_O s0 s6 s7 w3 o).1 (key_text_b4_O s0 s6 s7 w3 o).2 := by
  unfold key_text_b4 at h
  obtain ⟨x5, h10, h⟩ := xS h
  obtain ⟨h11, h⟩ := cS h
  obtain ⟨x6, h12, h⟩ := xS h
  obtain ⟨o7, h13, h⟩ := bS h
  obtain rfl := si h
  exact (runB_arr mixed [(13, .int x5.toNat), (15, .sl ((w3 ++ [x5]).map dbyte)), (18, .int x6.toNat)] [⟨[1, 1, 1, 0, 0, 1, 1, 0, 0, 1, 0, 1, 1], [.live [0, 3, 6, 7, 19], .keep [15], .ren 15 3, .sort], .normal, (key_text_b3_O s0 s6 s7 (decide ((x6.toNat : Int) = ((0 : UInt8).toNat : Int))) (w3 ++ [x5]) o7).2⟩] [.live [0, 3, 6, 7], .keep [3]] (ai (byte_ok h10) (ai (nc_ok dbyte [x5]) (ai (nc_ok dbyte [x5]) (ai (fit_map dbyte h11) (ai (app_map dbyte w3 [x5]) (ai (byte_ok h12) (ai (key_text_b3_ok rd s0 s6 s7 (decide ((x6.toNat : Int) = ((0 : UInt8).toNat : Int))) (w3 ++ [x5]) o7 h13) (ti)))))))) (by kernel_rfl)).lp
def key_text_l1_I (s0 : List UInt8) (s6 : Int) (s7 : Int) (w3 : List UInt8) : St := ⟨sp 27 0 [(0, .d (D.s s0)), (3, .row 3), (6, .d ((D.i .i64) s6)), (7, .d ((D.i .i64) s7))], [(3, .row 5 1 (w3.map dbyte))], []⟩
def key_text_l1_O (s0 : List UInt8) (s6 : Int) (o : (List UInt8)) : Ex × St := (.exit 0, ⟨sp 27 0 [(3, .row 3)], [(3, .row 5 1 (o.map dbyte))], []⟩)
theorem key_text_l1_rnd (rd : Option Nat) (s0 : List UInt8) (s6 : Int) (s7 : Int) (w3 : List UInt8) (o : (Int × List UInt8) ⊕ ((List UInt8))) (h : key_text_l1_s s0 s6 s7 w3 = some o) : Arr Try.prog rd (fbody Try.prog 84) (0 :: [0, 1, 0, 1, 1]) (key_text_l1_I s0 s6 s7 w3) (rR (fun s : Int × List UInt8 => key_text_l1_I s0 s6 s.1 s.2) (key_text_l1_O s0 s6) o).1 (rR (fun s : Int × List UInt8 => key_text_l1_I s0 s6 s.1 s.2) (key_text_l1_O s0 s6) o).2 := by
  unfold key_text_l1_s at h
  rcases iS h with ⟨h9, h⟩ | ⟨h9, h⟩
  ·
   obtain ⟨o8, h14, h⟩ := bS h
   obtain rfl := si h
   exact runB_arr mixed [(8, .bit true)] [⟨[0, 1, 1, 0, 0, 1, 0, 1, 1], [.live [0, 3, 6, 7], .keep [3]], .normal, (key_text_b4_O s0 s6 s7 w3 o8).2⟩] [.live [0, 3, 6, 7], .keep [3]] (ai h9 (ai (key_text_b4_ok rd s0 s6 s7 w3 o8 h14) (ti))) (by kernel_rfl)
  ·
   obtain rfl := si h
   exact runB_arr mixed [(8, .bit false)] [] [.live [3], .keep [3]] (ai h9 (ti)) (by kernel_rfl)
theorem key_text_l1_ok (rd : Option Nat) (s0 : List UInt8) (s6 : Int) (s7 : Int) (w3 : List UInt8) (t : (List UInt8)) (h : key_text_l1 s0 s6 s7 w3 = some t) : LpOf Try.prog rd (fbody Try.prog 84) [0, 1, 0, 1, 1] (key_text_l1_I s0 s6 s7 w3) ((key_text_l1_O s0 s6) t).1 ((key_text_l1_O s0 s6) t).2 :=
  loopE_lpR (fun s : Int × List UInt8 => key_text_l1_I s0 s6 s.1 s.2) (key_text_l1_O s0 s6) (by kernel_rfl) (fun t => isN_ne (by rfl)) (fun s o h => key_text_l1_rnd rd s0 s6 s.1 s.2 o h) (s := (s7, w3)) (t := t) h
theorem key_text_ok (a0 : List UInt8) (r : List UInt8) (h : key_text a0 = some r) : ACall Try.prog 84 [.d (D.s a0)] [] (.d ((D.l dbyte) r)) [] := by
  unfold key_text at h
  obtain ⟨o9, h15, h⟩ := bS h
  obtain ⟨h16, h⟩ := cS h
  obtain rfl := si h
  exact runF_call mixed [(6, .int (a0.length : Int)), (26, .sl ((o9 ++ [(0 : UInt8), (1 : UInt8)]).map dbyte))] [⟨[0, 1, 0, 1, 1], [.live [0, 3, 6, 7], .keep [], .nil 3 3 5 1, .sort], .exit 0, (key_text_l1_O a0 (a0.length : Int) o9).2⟩] [] (ai (len_str a0) (ai (key_text_l1_ok none a0 (a0.length : Int) 0 ([] : List UInt8) o9 h15) (ai (nc_ok dbyte [(0 : UInt8), (1 : UInt8)]) (ai (nc_ok dbyte [(0 : UInt8), (1 : UInt8)]) (ai (fit_map dbyte h16) (ai (app_map dbyte o9 [(0 : UInt8), (1 : UInt8)]) (ti))))))) (by kernel_rfl)
theorem key_one_ok (a0 : TValue) (r : List UInt8) (h : key_one a0 = some r) : ACall Try.prog 69 [.d (TValue.D a0)] [] (.d ((D.l dbyte) r)) [] := by
  unfold key_one at h
  rcases iS h with ⟨h1, h⟩ | ⟨h1, h⟩
  ·
   obtain ⟨r1, h2, h⟩ := bS h
   obtain ⟨h3, h⟩ := cS h
   obtain rfl := si h
   exact runF_call mixed [(6, .int (u8w a0.kind).toNat), (10, .bit true), (15, .ret (.d ((D.l dbyte) r1))), (16, .sl (([u8w a0.kind] ++ r1).map dbyte))] [] [] (ai (u8w_ok a0.kind) (ai (nc_ok dbyte [u8w a0.kind]) (ai h1 (ai (key_number_ok a0.int r1 h2) (ai (nc_ok dbyte r1) (ai (fit_map dbyte h3) (ai (app_map dbyte [u8w a0.kind] r1) (ti)))))))) (by kernel_rfl)
  ·
   rcases iS h with ⟨h4, h⟩ | ⟨h4, h⟩
   ·
    obtain ⟨r2, h5, h⟩ := bS h
    obtain ⟨h6, h⟩ := cS h
    obtain rfl := si h
    exact runF_call mixed [(6, .int (u8w a0.kind).toNat), (10, .bit false), (17, .bit true), (22, .ret (.d ((D.l dbyte) r2))), (23, .sl (([u8w a0.kind] ++ r2).map dbyte))] [] [] (ai (u8w_ok a0.kind) (ai (nc_ok dbyte [u8w a0.kind]) (ai h1 (ai h4 (ai (key_text_ok a0.str r2 h5) (ai (nc_ok dbyte r2) (ai (fit_map dbyte h6) (ai (app_map dbyte [u8w a0.kind] r2) (ti))))))))) (by kernel_rfl)
   ·
    rcases iS h with ⟨h7, h⟩ | ⟨h7, h⟩
    ·
     obtain ⟨h8, h⟩ := cS h
     obtain rfl := si h
     exact runF_call mixed [(6, .int (u8w a0.kind).toNat), (10, .bit false), (17, .bit false), (25, .bit true), (28, .sl (([u8w a0.kind] ++ [(1 : UInt8)]).map dbyte))] [] [] (ai (u8w_ok a0.kind) (ai (nc_ok dbyte [u8w a0.kind]) (ai h1 (ai h4 (ai h7 (ai (nc_ok dbyte [(1 : UInt8)]) (ai (nc_ok dbyte [(1 : UInt8)]) (ai (fit_map dbyte h8) (ai (app_map dbyte [u8w a0.kind] [(1 : UInt8)]) (ti)))))))))) (by kernel_rfl)
    ·
     obtain ⟨h9, h⟩ := cS h
     obtain rfl := si h
     exact runF_call mixed [(6, .int (u8w a0.kind).toNat), (10, .bit false), (17, .bit false), (25, .bit false), (31, .sl (([u8w a0.kind] ++ [(0 : UInt8)]).map dbyte))] [] [] (ai (u8w_ok a0.kind) (ai (nc_ok dbyte [u8w a0.kind]) (ai h1 (ai h4 (ai h7 (ai (nc_ok dbyte [(0 : UInt8)]) (ai (nc_ok dbyte [(0 : UInt8)]) (ai (fit_map dbyte h9) (ai (app_map dbyte [u8w a0.kind] [(0 : UInt8)]) (ti)))))))))) (by kernel_rfl)
def key_Of_l1_I (s6 : List TValue) (s7 : Int) (s8 : Int) (w3 : List UInt8) : St := ⟨sp 21 0 [(3, .row 3), (6, .d ((D.l TValue.D) s6)), (7, .d ((D.i .i64) s7)), (8, .d ((D.i .i64) s8))], [(3, .row 5 1 (w3.map dbyte))], []⟩
def key_Of_l1_O (s6 : List TValue) (s7 : Int) (o : (List UInt8) ⊕ Unit) : Ex × St := match o with
  | .inl o => (.exit 0, ⟨sp 21 0 [(3, .row 3)], [(3, .row 5 1 (o.map dbyte))], []⟩)
  | .inr o => (.ret, ⟨sp 21 0 [(2, .nil)], [], []⟩)
theorem key_Of_l1_rnd (rd : Option Nat) (s6 : List TValue) (s7 : Int) (s8 : Int) (w3 : List UInt8) (o : (Int × List UInt8) ⊕ ((List UInt8) ⊕ Unit)) (h : key_Of_l1_s s6 s7 s8 w3 = some o) : Arr Try.prog rd (fbody Try.prog 47) (0 :: [0, 1, 0, 1, 1]) (key_Of_l1_I s6 s7 s8 w3) (rR (fun s : Int × List UInt8 => key_Of_l1_I s6 s7 s.1 s.2) (key_Of_l1_O s6 s7) o).1 (rR (fun s : Int × List UInt8 => key_Of_l1_I s6 s7 s.1 s.2) (key_Of_l1_O s6 s7) o).2 := by
  unfold key_Of_l1_s at h
  rcases iS h with ⟨h7, h⟩ | ⟨h7, h⟩
  ·
   obtain ⟨x4, h8, h⟩ := xS h
   obtain ⟨r5, h9, h⟩ := bS h
   rcases iS h with ⟨h10, h⟩ | ⟨h10, h⟩
   ·
    obtain rfl := si h
    exact runB_arr mixed [(9, .bit true), (10, .el (TValue.D x4)), (13, .ret (.d (D.b r5))), (14, .bit true)] [] [.live [2], .keep []] (ai h7 (ai (elem_map TValue.D h8) (ai (value_Right_ok x4 r5 h9) (ai h10 (ti))))) (by kernel_rfl)
   ·
    obtain ⟨r6, h11, h⟩ := bS h
    obtain ⟨h12, h⟩ := cS h
    obtain rfl := si h
    exact runB_arr mixed [(9, .bit true), (10, .el (TValue.D x4)), (13, .ret (.d (D.b r5))), (14, .bit false), (17, .ret (.d ((D.l dbyte) r6))), (18, .sl ((w3 ++ r6).map dbyte))] [] [.live [3, 6, 7, 8], .keep [18], .ren 18 3, .sort] (ai h7 (ai (elem_map TValue.D h8) (ai (value_Right_ok x4 r5 h9) (ai h10 (ai (key_one_ok x4 r6 h11) (ai (nc_ok dbyte r6) (ai (fit_map dbyte h12) (ai (app_map dbyte w3 r6) (ti))))))))) (by kernel_rfl)
  ·
   obtain rfl := si h
   exact runB_arr mixed [(9, .bit false)] [] [.live [3], .keep [3]] (ai h7 (ti)) (by kernel_rfl)
theorem key_Of_l1_ok (rd : Option Nat) (s6 : List TValue) (s7 : Int) (s8 : Int) (w3 : List UInt8) (t : (List UInt8) ⊕ Unit) (h : key_Of_l1 s6 s7 s8 w3 = some t) : LpOf Try.prog rd (fbody Try.prog 47) [0, 1, 0, 1, 1] (key_Of_l1_I s6 s7 s8 w3) ((key_Of_l1_O s6 s7) t).1 ((key_Of_l1_O s6 s7) t).2 :=
  loopE_lpR (fun s : Int × List UInt8 => key_Of_l1_I s6 s7 s.1 s.2) (key_Of_l1_O s6 s7) (by kernel_rfl) (fun t => isN_ne (by rcases t with (_ | _) <;> rfl)) (fun s o h => key_Of_l1_rnd rd s6 s7 s.1 s.2 o h) (s := (s8, w3)) (t := t) h
theorem key_Of_ok (a0 : List TValue) (r : List UInt8) (h : key_Of a0 = some r) : ACall Try.prog 47 [.d ((D.l TValue.D) a0)] [] (.d ((D.l dbyte) r)) [] := by
  unfold key_Of at h
  obtain ⟨o7, h13, h⟩ := bS h
  replace h := sumE_some h
  rcases h with ⟨o8, rfl, h⟩ | ⟨o9, rfl, h⟩
  ·
   obtain rfl := si h
   exact runF_call mixed [(7, .int (a0.length : Int))] [⟨[0, 1, 0, 1, 1], [.live [3, 6, 7, 8], .keep [], .nil 3 3 5 1, .sort], .exit 0, (key_Of_l1_O a0 (a0.length : Int) (Sum.inl o8)).2⟩] [] (ai (len_map TValue.D a0) (ai (key_Of_l1_ok none a0 (a0.length : Int) 0 ([] : List UInt8) (Sum.inl o8) h13) (ti))) (by kernel_rfl)
  ·
   obtain rfl := si h
   exact runF_call mixed [(7, .int (a0.length : Int))] [⟨[0, 1, 0, 1, 1], [.live [3, 6, 7, 8], .keep [], .nil 3 3 5 1, .sort], .ret, (key_Of_l1_O a0 (a0.length : Int) (Sum.inr o9)).2⟩] [] (ai (len_map TValue.D a0) (ai (key_Of_l1_ok none a0 (a0.length : Int) 0 ([] : List UInt8) (Sum.inr o9) h13) (ti))) (by kernel_rfl)
def binding_Key_l1_I (s6 : List TSlot) (s7 : Int) (s8 : Int) (w3 : List UInt8) : St := ⟨sp 27 0 [(3, .row 3), (6, .d ((D.l TSlot.D) s6)), (7, .d ((D.i .i64) s7)), (8, .d ((D.i .i64) s8))], [(3, .row 5 1 (w3.map dbyte))], []⟩
def binding_Key_l1_O (s6 : List TSlot) (s7 : Int) (o : (List UInt8)) : Ex × St := (.exit 0, ⟨sp 27 0 [(3, .row 3)], [(3, .row 5 1 (o.map dbyte))], []⟩)
theorem binding_Key_l1_rnd (rd : Option Nat) (s6 : List TSlot) (s7 : Int) (s8 : Int) (w3 : List UInt8) (o : (Int × List UInt8) ⊕ ((List UInt8))) (h : binding_Key_l1_s s6 s7 s8 w3 = some o) : Arr Try.prog rd (fbody Try.prog 37) (0 :: [0, 1, 0, 1, 1]) (binding_Key_l1_I s6 s7 s8 w3) (rR (fun s : Int × List UInt8 => binding_Key_l1_I s6 s7 s.1 s.2) (binding_Key_l1_O s6 s7) o).1 (rR (fun s : Int × List UInt8 => binding_Key_l1_I s6 s7 s.1 s.2) (binding_Key_l1_O s6 s7) o).2 := by
  unfold binding_Key_l1_s at h
  rcases iS h with ⟨h6, h⟩ | ⟨h6, h⟩
  ·
   obtain ⟨x3, h7, h⟩ := xS h
   obtain ⟨h8, h⟩ := cS h
   obtain ⟨r4, h9, h⟩ := bS h
   obtain ⟨h10, h⟩ := cS h
   obtain rfl := si h
   exact runB_arr mixed [(9, .bit true), (10, .el (TSlot.D x3)), (16, .int (u8w (intVal .add .i64 x3.var 16)).toNat), (18, .sl ((w3 ++ [u8w (intVal .add .i64 x3.var 16)]).map dbyte)), (22, .ret (.d ((D.l dbyte) r4))), (23, .sl (((w3 ++ [u8w (intVal .add .i64 x3.var 16)]) ++ r4).map dbyte))] [] [.live [3, 6, 7, 8], .keep [23], .ren 23 3, .sort] (ai h6 (ai (elem_map TSlot.D h7) (ai (u8w_ok (intVal .add .i64 x3.var 16)) (ai (nc_ok dbyte [u8w (intVal .add .i64 x3.var 16)]) (ai (nc_ok dbyte [u8w (intVal .add .i64 x3.var 16)]) (ai (fit_map dbyte h8) (ai (app_map dbyte w3 [u8w (intVal .add .i64 x3.var 16)]) (ai (nc_ok TValue.D [x3.value]) (ai (key_Of_ok [x3.value] r4 h9) (ai (nc_ok dbyte r4) (ai (fit_map dbyte h10) (ai (app_map dbyte (w3 ++ [u8w (intVal .add .i64 x3.var 16)]) r4) (ti))))))))))))) (by kernel_rfl)
  ·
   obtain rfl := si h
   exact runB_arr mixed [(9, .bit false)] [] [.live [3], .keep [3]] (ai h6 (ti)) (by kernel_rfl)
theorem binding_Key_l1_ok (rd : Option Nat) (s6 : List TSlot) (s7 : Int) (s8 : Int) (w3 : List UInt8) (t : (List UInt8)) (h : binding_Key_l1 s6 s7 s8 w3 = some t) : LpOf Try.prog rd (fbody Try.prog 37) [0, 1, 0, 1, 1] (binding_Key_l1_I s6 s7 s8 w3) ((binding_Key_l1_O s6 s7) t).1 ((binding_Key_l1_O s6 s7) t).2 :=
  loopE_lpR (fun s : Int × List UInt8 => binding_Key_l1_I s6 s7 s.1 s.2) (binding_Key_l1_O s6 s7) (by kernel_rfl) (fun t => isN_ne (by rfl)) (fun s o h => binding_Key_l1_rnd rd s6 s7 s.1 s.2 o h) (s := (s8, w3)) (t := t) h
theorem binding_Key_ok (a0 : List TSlot) (r : List UInt8) (h : binding_Key a0 = some r) : ACall Try.prog 37 [.d ((D.l TSlot.D) a0)] [] (.d (D.s r)) [] := by
  unfold binding_Key at h
  obtain ⟨o5, h11, h⟩ := bS h
  obtain rfl := si h
  exact runF_call mixed [(7, .int (a0.length : Int)), (26, .str o5)] [⟨[0, 1, 0, 1, 1], [.live [3, 6, 7, 8], .keep [], .nil 3 3 5 1, .sort], .exit 0, (binding_Key_l1_O a0 (a0.length : Int) o5).2⟩] [] (ai (len_map TSlot.D a0) (ai (binding_Key_l1_ok none a0 (a0.length : Int) 0 ([] : List UInt8) o5 h11) (ai (rfl : o5.map dbyte = o5.map dbyte) (ti)))) (by kernel_rfl)
theorem slices_Clone_Slot_Slot_ok (l r : List TSlot) (h : slices_Clone_Slot_Slot l = some r) : ACall Try.prog 40 [.d (D.l TSlot.D l)] [] (.d (D.l TSlot.D r)) [] :=
  cloneE_d (ρ := ⟨fun _ => 40, fun n => if n = 4 then 4 else if n = 22 then 33 else 66, id⟩) (by_ := 48) TSlot.D rfl (cloneL mixed ⟨ "slices.Clone[[]proctor/api.Slot,proctor/api.Slot]", by decide, (Try.func40).trans (by kernel_rfl)⟩ Try.underlying4 Try.underlying33 (by kernel_rfl) (by kernel_rfl) (by kernel_rfl) (by kernel_rfl)) (by kernel_rfl) (by decide) l r h
theorem slices_Clone_Config_Config_ok (l r : List TConfig) (h : slices_Clone_Config_Config l = some r) : ACall Try.prog 38 [.d (D.l TConfig.D l)] [] (.d (D.l TConfig.D r)) [] :=
  cloneE_d (ρ := ⟨fun _ => 38, fun n => if n = 4 then 4 else if n = 22 then 43 else 73, id⟩) (by_ := 32) TConfig.D rfl (cloneL mixed ⟨ "slices.Clone[[]proctor/api.Config,proctor/api.Config]", by decide, (Try.func38).trans (by kernel_rfl)⟩ Try.underlying4 Try.underlying43 (by kernel_rfl) (by kernel_rfl) (by kernel_rfl) (by kernel_rfl)) (by kernel_rfl) (by decide) l r h
theorem table_copied_ok (a0 : List TSlot) (a1 : List TConfig) (r : TRow) (h : table_copied a0 a1 = some r) : ACall Try.prog 30 [.d ((D.l TSlot.D) a0), .d ((D.l TConfig.D) a1)] [] (.d (TRow.D r)) [] := by
  unfold table_copied at h
  obtain ⟨r1, h1, h⟩ := bS h
  obtain ⟨r2, h2, h⟩ := bS h
  obtain rfl := si h
  exact runF_call mixed [(6, .ret (.d ((D.l TSlot.D) r1))), (8, .ret (.d ((D.l TConfig.D) r2)))] [] [] (ai (slices_Clone_Slot_Slot_ok a0 r1 h1) (ai (slices_Clone_Config_Config_ok a1 r2 h2) (ti))) (by kernel_rfl)
theorem table_Table_Put_v2_ok (a1 : List TSlot) (a2 : List TConfig) (w0_1 : Int) (w0_2 : Int) (w1 : MP Int TRow) (w2 : MP (List UInt8) Int) (r : Int × Int × Int × Int × MP Int TRow × MP (List UInt8) Int) (h : table_Table_Put_v2 a1 a2 w0_1 w0_2 w1 w2 = some r) : ACall Try.prog 20 [.box 0 0, .d ((D.l TSlot.D) a1), .d ((D.l TConfig.D) a2)] [(0, .cells ([.row 1, .row 2, .d ((D.i .i64) w0_1), .d ((D.i .i64) w0_2)])), (1, .map w1.clk (MP.dl (D.i .i64) TRow.D w1)), (2, .map w2.clk (MP.dl D.s (D.i .i64) w2))] (.tup [.d ((D.i .i64) r.1), .d ((D.i .i64) r.2.1)]) [(0, .cells ([.row 3, .row 4, .d ((D.i .i64) r.2.2.1), .d ((D.i .i64) r.2.2.2.1)])), (3, .map r.2.2.2.2.1.clk (MP.dl (D.i .i64) TRow.D r.2.2.2.2.1)), (4, .map r.2.2.2.2.2.clk (MP.dl D.s (D.i .i64) r.2.2.2.2.2))] := by
  unfold table_Table_Put_v2 at h
  obtain ⟨r1, h1, h⟩ := bS h
  rcases iS h with ⟨h2, h⟩ | ⟨h2, h⟩
  ·
   obtain rfl := si h
   exact runX_call mixed (fun us => [(14, .ret (.d (D.s r1))), (21, .mg ((D.i .i64) (mgetE 0 w2 r1).1) (mgetE 0 w2 r1).2), (24, .bit true)]) (fun us => []) [.live [6, 7], .keep [0, 1, 2, 997], .ren 1 3, .ren 2 4, .sort] [0] (fun us => ai (binding_Key_ok a1 r1 h1) (ai (mget_ok (keyS Try.underlying9) (D.i .i64) 0 w2 r1) (ai h2 (ti)))) (by kernel_rfl)
  ·
   obtain ⟨h3, h⟩ := cS h
   rcases iS h with ⟨h4, h⟩ | ⟨h4, h⟩
   ·
    obtain rfl := si h
    exact runX_call mixed (fun us => [(14, .ret (.d (D.s r1))), (21, .mg ((D.i .i64) (mgetE 0 w2 r1).1) (mgetE 0 w2 r1).2), (24, .bit false), (29, .int (w1.es.length : Int)), (34, .bit true)]) (fun us => []) [.live [6, 7], .keep [0, 1, 2, 997], .ren 1 3, .ren 2 4, .sort] [0] (fun us => ai (binding_Key_ok a1 r1 h1) (ai (mget_ok (keyS Try.underlying9) (D.i .i64) 0 w2 r1) (ai h2 (ai (mlen_ok (D.i .i64) TRow.D w1 h3) (ai h4 (ti)))))) (by kernel_rfl)
   ·
    obtain ⟨r2, h5, h⟩ := bS h
    obtain ⟨h6, h⟩ := cS h
    obtain ⟨h7, h⟩ := cS h
    obtain ⟨h8, h⟩ := cS h
    obtain ⟨h9, h⟩ := cS h
    obtain rfl := si h
    exact runX_call mixed (fun us => [(14, .ret (.d (D.s r1))), (21, .mg ((D.i .i64) (mgetE 0 w2 r1).1) (mgetE 0 w2 r1).2), (24, .bit false), (29, .int (w1.es.length : Int)), (34, .bit false), (57, .ret (.d (TRow.D r2))), (62, .me (mentE (TRow.mk ([] : List TSlot) ([] : List TConfig)) w1 (intVal .add .i64 w0_2 1)).clk (MP.dl (D.i .i64) TRow.D (mentE (TRow.mk ([] : List TSlot) ([] : List TConfig)) w1 (intVal .add .i64 w0_2 1))) (TRow.D (mevE (TRow.mk ([] : List TSlot) ([] : List TConfig)) w1 (intVal .add .i64 w0_2 1))) (mesE (TRow.mk ([] : List TSlot) ([] : List TConfig)) w1 (intVal .add .i64 w0_2 1))), (10063, .mp (mstoE (mentE (TRow.mk ([] : List TSlot) ([] : List TConfig)) w1 (intVal .add .i64 w0_2 1)) ((mesE (TRow.mk ([] : List TSlot) ([] : List TConfig)) w1 (intVal .add .i64 w0_2 1) : Nat) : Int) r2).clk (MP.dl (D.i .i64) TRow.D (mstoE (mentE (TRow.mk ([] : List TSlot) ([] : List TConfig)) w1 (intVal .add .i64 w0_2 1)) ((mesE (TRow.mk ([] : List TSlot) ([] : List TConfig)) w1 (intVal .add .i64 w0_2 1) : Nat) : Int) r2))), (64, .me (mentE 0 w2 r1).clk (MP.dl D.s (D.i .i64) (mentE 0 w2 r1)) ((D.i .i64) (mevE 0 w2 r1)) (mesE 0 w2 r1)), (10065, .mp (mstoE (mentE 0 w2 r1) ((mesE 0 w2 r1 : Nat) : Int) (intVal .add .i64 w0_2 1)).clk (MP.dl D.s (D.i .i64) (mstoE (mentE 0 w2 r1) ((mesE 0 w2 r1 : Nat) : Int) (intVal .add .i64 w0_2 1))))]) (fun us => []) [.live [6, 7], .keep [0, 1, 2, 997], .ren 1 3, .ren 2 4, .sort] [0] (fun us => ai (binding_Key_ok a1 r1 h1) (ai (mget_ok (keyS Try.underlying9) (D.i .i64) 0 w2 r1) (ai h2 (ai (mlen_ok (D.i .i64) TRow.D w1 h3) (ai h4 (ai (table_copied_ok a1 a2 r2 h5) (ai (ment_ok (keyI Try.underlying3) TRow.D (TRow.mk ([] : List TSlot) ([] : List TConfig)) w1 (intVal .add .i64 w0_2 1) h6) (ai (msto_ok (D.i .i64) TRow.D (mentE (TRow.mk ([] : List TSlot) ([] : List TConfig)) w1 (intVal .add .i64 w0_2 1)) ((mesE (TRow.mk ([] : List TSlot) ([] : List TConfig)) w1 (intVal .add .i64 w0_2 1) : Nat) : Int) r2 h7) (ai (ment_ok (keyS Try.underlying9) (D.i .i64) 0 w2 r1 h8) (ai (msto_ok D.s (D.i .i64) (mentE 0 w2 r1) ((mesE 0 w2 r1 : Nat) : Int) (intVal .add .i64 w0_2 1) h9) (ti))))))))))) (by kernel_rfl)
theorem table_Table_Len_v2_ok (w0_1 : Int) (w0_2 : Int) (w1 : MP Int TRow) (w2 : MP (List UInt8) Int) (r : Int × Int × Int × MP Int TRow × MP (List UInt8) Int) (h : table_Table_Len_v2 w0_1 w0_2 w1 w2 = some r) : ACall Try.prog 10 [.box 0 0] [(0, .cells ([.row 1, .row 2, .d ((D.i .i64) w0_1), .d ((D.i .i64) w0_2)])), (1, .map w1.clk (MP.dl (D.i .i64) TRow.D w1)), (2, .map w2.clk (MP.dl D.s (D.i .i64) w2))] (.d ((D.i .i64) r.1)) [(0, .cells ([.row 3, .row 4, .d ((D.i .i64) r.2.1), .d ((D.i .i64) r.2.2.1)])), (3, .map r.2.2.2.1.clk (MP.dl (D.i .i64) TRow.D r.2.2.2.1)), (4, .map r.2.2.2.2.clk (MP.dl D.s (D.i .i64) r.2.2.2.2))] := by
  unfold table_Table_Len_v2 at h
  obtain ⟨h1, h⟩ := cS h
  obtain rfl := si h
  exact runX_call mixed (fun us => [(9, .int (w1.es.length : Int))]) (fun us => []) [.live [2], .keep [0, 1, 2, 997], .ren 1 3, .ren 2 4, .sort] [0] (fun us => ai (mlen_ok (D.i .i64) TRow.D w1 h1) (ti)) (by kernel_rfl)
theorem law24_awake_ok (r : Bool) (h : law24_awake = some r) : ACall Try.prog 6 [] [] (.d (D.b r)) [] := by
  unfold law24_awake at h
  obtain ⟨r1, h1, h⟩ := bS h
  obtain ⟨r2, h2, h⟩ := bS h
  obtain ⟨r3, h3, h⟩ := bS h
  rcases iS h with ⟨h4, h⟩ | ⟨h4, h⟩
  ·
   rcases iS h with ⟨h5, h⟩ | ⟨h5, h⟩
   ·
    rcases iS h with ⟨h6, h⟩ | ⟨h6, h⟩
    ·
     obtain ⟨r4, h7, h⟩ := bS h
     obtain rfl := si h
     exact runF_call mixed [(6, .cx false [] [(0, 413), (1, 420), (2, 427)] (.box 0 0) [(0, .cells ([.row 1, .row 2, .d ((D.i .i64) r1.1), .d ((D.i .i64) r1.2.1)])), (1, .map r1.2.2.1.clk (MP.dl (D.i .i64) TRow.D r1.2.2.1)), (2, .map r1.2.2.2.clk (MP.dl D.s (D.i .i64) r1.2.2.2))]), (9, .cx false [(0, 413), (1, 420), (2, 427)] [(3, 9), (4, 416)] (.tup [.d ((D.i .i64) r2.1), .d ((D.i .i64) r2.2.1)]) [(0, .cells ([.row 3, .row 4, .d ((D.i .i64) r2.2.2.1), .d ((D.i .i64) r2.2.2.2.1)])), (3, .map r2.2.2.2.2.1.clk (MP.dl (D.i .i64) TRow.D r2.2.2.2.2.1)), (4, .map r2.2.2.2.2.2.clk (MP.dl D.s (D.i .i64) r2.2.2.2.2.2))]), (17, .cx false [(0, 413), (1, 9), (2, 416)] [(3, 17), (4, 424)] (.tup [.d ((D.i .i64) r3.1), .d ((D.i .i64) r3.2.1)]) [(0, .cells ([.row 3, .row 4, .d ((D.i .i64) r3.2.2.1), .d ((D.i .i64) r3.2.2.2.1)])), (3, .map r3.2.2.2.2.1.clk (MP.dl (D.i .i64) TRow.D r3.2.2.2.2.1)), (4, .map r3.2.2.2.2.2.clk (MP.dl D.s (D.i .i64) r3.2.2.2.2.2))]), (22, .bit true), (26, .bit true), (30, .bit true), (32, .cx false [(0, 413), (1, 17), (2, 424)] [(3, 32), (4, 439)] (.d ((D.i .i64) r4.1)) [(0, .cells ([.row 3, .row 4, .d ((D.i .i64) r4.2.1), .d ((D.i .i64) r4.2.2.1)])), (3, .map r4.2.2.2.1.clk (MP.dl (D.i .i64) TRow.D r4.2.2.2.1)), (4, .map r4.2.2.2.2.clk (MP.dl D.s (D.i .i64) r4.2.2.2.2))])] [] [] (ai (table_New_v2_ok 1 r1 h1) (ai (table_Table_Put_v2_ok ([] : List TSlot) ([] : List TConfig) r1.1 r1.2.1 r1.2.2.1 r1.2.2.2 r2 h2) (ai (nc_ok TSlot.D ([TSlot.mk 0 (TValue.mk 1 0 ([] : List UInt8) false)])) (ai (table_Table_Put_v2_ok ([TSlot.mk 0 (TValue.mk 1 0 ([] : List UInt8) false)]) ([] : List TConfig) r2.2.2.1 r2.2.2.2.1 r2.2.2.2.2.1 r2.2.2.2.2.2 r3 h3) (ai h4 (ai h5 (ai h6 (ai (table_Table_Len_v2_ok r3.2.2.1 r3.2.2.2.1 r3.2.2.2.2.1 r3.2.2.2.2.2 r4 h7) (ti))))))))) (by kernel_rfl)
    ·
     obtain rfl := si h
     exact runF_call mixed [(6, .cx false [] [(0, 413), (1, 420), (2, 427)] (.box 0 0) [(0, .cells ([.row 1, .row 2, .d ((D.i .i64) r1.1), .d ((D.i .i64) r1.2.1)])), (1, .map r1.2.2.1.clk (MP.dl (D.i .i64) TRow.D r1.2.2.1)), (2, .map r1.2.2.2.clk (MP.dl D.s (D.i .i64) r1.2.2.2))]), (9, .cx false [(0, 413), (1, 420), (2, 427)] [(3, 9), (4, 416)] (.tup [.d ((D.i .i64) r2.1), .d ((D.i .i64) r2.2.1)]) [(0, .cells ([.row 3, .row 4, .d ((D.i .i64) r2.2.2.1), .d ((D.i .i64) r2.2.2.2.1)])), (3, .map r2.2.2.2.2.1.clk (MP.dl (D.i .i64) TRow.D r2.2.2.2.2.1)), (4, .map r2.2.2.2.2.2.clk (MP.dl D.s (D.i .i64) r2.2.2.2.2.2))]), (17, .cx false [(0, 413), (1, 9), (2, 416)] [(3, 17), (4, 424)] (.tup [.d ((D.i .i64) r3.1), .d ((D.i .i64) r3.2.1)]) [(0, .cells ([.row 3, .row 4, .d ((D.i .i64) r3.2.2.1), .d ((D.i .i64) r3.2.2.2.1)])), (3, .map r3.2.2.2.2.1.clk (MP.dl (D.i .i64) TRow.D r3.2.2.2.2.1)), (4, .map r3.2.2.2.2.2.clk (MP.dl D.s (D.i .i64) r3.2.2.2.2.2))]), (22, .bit true), (26, .bit true), (30, .bit false)] [] [] (ai (table_New_v2_ok 1 r1 h1) (ai (table_Table_Put_v2_ok ([] : List TSlot) ([] : List TConfig) r1.1 r1.2.1 r1.2.2.1 r1.2.2.2 r2 h2) (ai (nc_ok TSlot.D ([TSlot.mk 0 (TValue.mk 1 0 ([] : List UInt8) false)])) (ai (table_Table_Put_v2_ok ([TSlot.mk 0 (TValue.mk 1 0 ([] : List UInt8) false)]) ([] : List TConfig) r2.2.2.1 r2.2.2.2.1 r2.2.2.2.2.1 r2.2.2.2.2.2 r3 h3) (ai h4 (ai h5 (ai h6 (ti)))))))) (by kernel_rfl)
   ·
    obtain rfl := si h
    exact runF_call mixed [(6, .cx false [] [(0, 413), (1, 420), (2, 427)] (.box 0 0) [(0, .cells ([.row 1, .row 2, .d ((D.i .i64) r1.1), .d ((D.i .i64) r1.2.1)])), (1, .map r1.2.2.1.clk (MP.dl (D.i .i64) TRow.D r1.2.2.1)), (2, .map r1.2.2.2.clk (MP.dl D.s (D.i .i64) r1.2.2.2))]), (9, .cx false [(0, 413), (1, 420), (2, 427)] [(3, 9), (4, 416)] (.tup [.d ((D.i .i64) r2.1), .d ((D.i .i64) r2.2.1)]) [(0, .cells ([.row 3, .row 4, .d ((D.i .i64) r2.2.2.1), .d ((D.i .i64) r2.2.2.2.1)])), (3, .map r2.2.2.2.2.1.clk (MP.dl (D.i .i64) TRow.D r2.2.2.2.2.1)), (4, .map r2.2.2.2.2.2.clk (MP.dl D.s (D.i .i64) r2.2.2.2.2.2))]), (17, .cx false [(0, 413), (1, 9), (2, 416)] [(3, 17), (4, 424)] (.tup [.d ((D.i .i64) r3.1), .d ((D.i .i64) r3.2.1)]) [(0, .cells ([.row 3, .row 4, .d ((D.i .i64) r3.2.2.1), .d ((D.i .i64) r3.2.2.2.1)])), (3, .map r3.2.2.2.2.1.clk (MP.dl (D.i .i64) TRow.D r3.2.2.2.2.1)), (4, .map r3.2.2.2.2.2.clk (MP.dl D.s (D.i .i64) r3.2.2.2.2.2))]), (22, .bit true), (26, .bit false)] [] [] (ai (table_New_v2_ok 1 r1 h1) (ai (table_Table_Put_v2_ok ([] : List TSlot) ([] : List TConfig) r1.1 r1.2.1 r1.2.2.1 r1.2.2.2 r2 h2) (ai (nc_ok TSlot.D ([TSlot.mk 0 (TValue.mk 1 0 ([] : List UInt8) false)])) (ai (table_Table_Put_v2_ok ([TSlot.mk 0 (TValue.mk 1 0 ([] : List UInt8) false)]) ([] : List TConfig) r2.2.2.1 r2.2.2.2.1 r2.2.2.2.2.1 r2.2.2.2.2.2 r3 h3) (ai h4 (ai h5 (ti))))))) (by kernel_rfl)
  ·
   obtain rfl := si h
   exact runF_call mixed [(6, .cx false [] [(0, 413), (1, 420), (2, 427)] (.box 0 0) [(0, .cells ([.row 1, .row 2, .d ((D.i .i64) r1.1), .d ((D.i .i64) r1.2.1)])), (1, .map r1.2.2.1.clk (MP.dl (D.i .i64) TRow.D r1.2.2.1)), (2, .map r1.2.2.2.clk (MP.dl D.s (D.i .i64) r1.2.2.2))]), (9, .cx false [(0, 413), (1, 420), (2, 427)] [(3, 9), (4, 416)] (.tup [.d ((D.i .i64) r2.1), .d ((D.i .i64) r2.2.1)]) [(0, .cells ([.row 3, .row 4, .d ((D.i .i64) r2.2.2.1), .d ((D.i .i64) r2.2.2.2.1)])), (3, .map r2.2.2.2.2.1.clk (MP.dl (D.i .i64) TRow.D r2.2.2.2.2.1)), (4, .map r2.2.2.2.2.2.clk (MP.dl D.s (D.i .i64) r2.2.2.2.2.2))]), (17, .cx false [(0, 413), (1, 9), (2, 416)] [(3, 17), (4, 424)] (.tup [.d ((D.i .i64) r3.1), .d ((D.i .i64) r3.2.1)]) [(0, .cells ([.row 3, .row 4, .d ((D.i .i64) r3.2.2.1), .d ((D.i .i64) r3.2.2.2.1)])), (3, .map r3.2.2.2.2.1.clk (MP.dl (D.i .i64) TRow.D r3.2.2.2.2.1)), (4, .map r3.2.2.2.2.2.clk (MP.dl D.s (D.i .i64) r3.2.2.2.2.2))]), (22, .bit false)] [] [] (ai (table_New_v2_ok 1 r1 h1) (ai (table_Table_Put_v2_ok ([] : List TSlot) ([] : List TConfig) r1.1 r1.2.1 r1.2.2.1 r1.2.2.2 r2 h2) (ai (nc_ok TSlot.D ([TSlot.mk 0 (TValue.mk 1 0 ([] : List UInt8) false)])) (ai (table_Table_Put_v2_ok ([TSlot.mk 0 (TValue.mk 1 0 ([] : List UInt8) false)]) ([] : List TConfig) r2.2.2.1 r2.2.2.2.1 r2.2.2.2.2.1 r2.2.2.2.2.2 r3 h3) (ai h4 (ti)))))) (by kernel_rfl)
theorem table_Table_Put_v4_ok (a1 : List TSlot) (a2 : List TConfig) (r : Int × Int) (h : table_Table_Put_v4 a1 a2 = some r) : ACall Try.prog 20 [.d (.v (.pointer none)), .d ((D.l TSlot.D) a1), .d ((D.l TConfig.D) a2)] [] (.tup [.d ((D.i .i64) r.1), .d ((D.i .i64) r.2)]) [] := by
  unfold table_Table_Put_v4 at h
  obtain rfl := si h
  exact runF_call mixed [] [] [] (ti) (by kernel_rfl)
theorem table_Table_Find_ok (a1 : List TSlot) (r : Int × Bool) (h : table_Table_Find a1 = some r) : ACall Try.prog 21 [.d (.v (.pointer none)), .d ((D.l TSlot.D) a1)] [] (.tup [.d ((D.i .i64) r.1), .d (D.b r.2)]) [] := by
  unfold table_Table_Find at h
  obtain rfl := si h
  exact runF_call mixed [] [] [] (ti) (by kernel_rfl)
theorem table_Table_Get_ok (a1 : Int) (r : TRow × Bool) (h : table_Table_Get a1 = some r) : ACall Try.prog 16 [.d (.v (.pointer none)), .d ((D.i .i64) a1)] [] (.tup [.d (TRow.D r.1), .d (D.b r.2)]) [] := by
  unfold table_Table_Get at h
  obtain rfl := si h
  exact runF_call mixed [] [] [] (ti) (by kernel_rfl)
theorem table_Table_Reset_ok (r : Unit) (h : table_Table_Reset = some r) : ACall Try.prog 22 [.d (.v (.pointer none))] [] (.tup []) [] := by
  unfold table_Table_Reset at h
  obtain rfl := si h
  exact runF_call mixed [] [] [] (ti) (by kernel_rfl)
theorem table_Table_Len_v3_ok (r : Int) (h : table_Table_Len_v3 = some r) : ACall Try.prog 10 [.d (.v (.pointer none))] [] (.d ((D.i .i64) r)) [] := by
  unfold table_Table_Len_v3 at h
  obtain rfl := si h
  exact runF_call mixed [] [] [] (ti) (by kernel_rfl)
theorem table_Table_Room_ok (r : Int) (h : table_Table_Room = some r) : ACall Try.prog 11 [.d (.v (.pointer none))] [] (.d ((D.i .i64) r)) [] := by
  unfold table_Table_Room at h
  obtain rfl := si h
  exact runF_call mixed [] [] [] (ti) (by kernel_rfl)
theorem table_Table_Set_ok (a1 : Int) (a2 : List TConfig) (r : Bool) (h : table_Table_Set a1 a2 = some r) : ACall Try.prog 23 [.d (.v (.pointer none)), .d ((D.i .i64) a1), .d ((D.l TConfig.D) a2)] [] (.d (D.b r)) [] := by
  unfold table_Table_Set at h
  obtain rfl := si h
  exact runF_call mixed [] [] [] (ti) (by kernel_rfl)
theorem table_Table_Drop_ok (a1 : Int) (r : Bool) (h : table_Table_Drop a1 = some r) : ACall Try.prog 24 [.d (.v (.pointer none)), .d ((D.i .i64) a1)] [] (.d (D.b r)) [] := by
  unfold table_Table_Drop at h
  obtain rfl := si h
  exact runF_call mixed [] [] [] (ti) (by kernel_rfl)
theorem table_Table_IDs_ok (r : List Int) (h : table_Table_IDs = some r) : ACall Try.prog 15 [.d (.v (.pointer none))] [] (.d ((D.l (D.i .i64)) r)) [] := by
  unfold table_Table_IDs at h
  obtain rfl := si h
  exact runF_call mixed [] [] [] (ti) (by kernel_rfl)
theorem table_Table_Rows_ok (r : List TRow) (h : table_Table_Rows = some r) : ACall Try.prog 13 [.d (.v (.pointer none))] [] (.d ((D.l TRow.D) r)) [] := by
  unfold table_Table_Rows at h
  obtain rfl := si h
  exact runF_call mixed [] [] [] (ti) (by kernel_rfl)
theorem law24_TableNone_ok (a0 : Tproctorlaw24_Act) (r : Bool) (h : law24_TableNone a0 = some r) : ACall Try.prog 4 [.d (Tproctorlaw24_Act.D a0)] [] (.d (D.b r)) [] := by
  unfold law24_TableNone at h
  obtain ⟨r1, h1, h⟩ := bS h
  rcases iS h with ⟨h2, h⟩ | ⟨h2, h⟩
  ·
   obtain ⟨r2, h3, h⟩ := bS h
   obtain rfl := si h
   exact runF_call mixed [(12, .ret (.d (D.b r1))), (13, .bit true), (14, .ret (.d (D.b r2)))] [] [] (ai (nc_ok Tproctorlaw24_Act.D [a0]) (ai (law24_few_ok [a0] r1 h1) (ai h2 (ai (law24_awake_ok r2 h3) (ti))))) (by kernel_rfl)
  ·
   obtain ⟨r3, h4, h⟩ := bS h
   obtain ⟨r4, h5, h⟩ := bS h
   obtain ⟨r5, h6, h⟩ := bS h
   obtain ⟨r6, h7, h⟩ := bS h
   obtain ⟨r7, h8, h⟩ := bS h
   obtain ⟨r8, h9, h⟩ := bS h
   rcases iS h with ⟨h10, h⟩ | ⟨h10, h⟩
   ·
    rcases iS h with ⟨h11, h⟩ | ⟨h11, h⟩
    ·
     rcases iS h with ⟨h12, h⟩ | ⟨h12, h⟩
     ·
      rcases iS h with ⟨h13, h⟩ | ⟨h13, h⟩
      ·
       obtain ⟨r9, h14, h⟩ := bS h
       rcases iS h with ⟨h15, h⟩ | ⟨h15, h⟩
       ·
        obtain ⟨r10, h16, h⟩ := bS h
        rcases iS h with ⟨h17, h⟩ | ⟨h17, h⟩
        ·
         obtain ⟨r11, h18, h⟩ := bS h
         rcases iS h with ⟨h19, h⟩ | ⟨h19, h⟩
         ·
          obtain ⟨r12, h20, h⟩ := bS h
          rcases iS h with ⟨h21, h⟩ | ⟨h21, h⟩
          ·
           obtain ⟨r13, h22, h⟩ := bS h
           obtain rfl := si h
           exact runF_call mixed [(12, .ret (.d (D.b r1))), (13, .bit false), (19, .ret (.tup [.d ((D.i .i64) r3.1), .d ((D.i .i64) r3.2)])), (26, .ret (.tup [.d ((D.i .i64) r4.1), .d (D.b r4.2)])), (33, .ret (.tup [.d (TRow.D r5.1), .d (D.b r5.2)])), (37, .ret (.tup [])), (42, .ret (.d ((D.i .i64) r7))), (45, .ret (.d ((D.i .i64) r8))), (48, .bit true), (52, .bit true), (56, .bit true), (60, .bit true), (64, .ret (.d (D.b r9))), (67, .bit true), (71, .ret (.d (D.b r10))), (74, .bit true), (76, .ret (.d ((D.l (D.i .i64)) r11))), (77, .int (r11.length : Int)), (80, .bit true), (82, .ret (.d ((D.l TRow.D) r12))), (83, .int (r12.length : Int)), (86, .bit true), (87, .ret (.d (D.b r13)))] [] [] (ai (nc_ok Tproctorlaw24_Act.D [a0]) (ai (law24_few_ok [a0] r1 h1) (ai h2 (ai (table_Table_Put_v4_ok a0.bind ([] : List TConfig) r3 h4) (ai (table_Table_Find_ok a0.bind r4 h5) (ai (table_Table_Get_ok a0.iD r5 h6) (ai (table_Table_Reset_ok r6 h7) (ai (table_Table_Len_v3_ok r7 h8) (ai (table_Table_Room_ok r8 h9) (ai h10 (ai h11 (ai h12 (ai h13 (ai (table_Table_Set_ok a0.iD ([] : List TConfig) r9 h14) (ai h15 (ai (table_Table_Drop_ok a0.iD r10 h16) (ai h17 (ai (table_Table_IDs_ok r11 h18) (ai (len_map (D.i .i64) r11) (ai h19 (ai (table_Table_Rows_ok r12 h20) (ai (len_map TRow.D r12) (ai h21 (ai (law24_awake_ok r13 h22) (ti))))))))))))))))))))))))) (by kernel_rfl)
          ·
           obtain rfl := si h
           exact runF_call mixed [(12, .ret (.d (D.b r1))), (13, .bit false), (19, .ret (.tup [.d ((D.i .i64) r3.1), .d ((D.i .i64) r3.2)])), (26, .ret (.tup [.d ((D.i .i64) r4.1), .d (D.b r4.2)])), (33, .ret (.tup [.d (TRow.D r5.1), .d (D.b r5.2)])), (37, .ret (.tup [])), (42, .ret (.d ((D.i .i64) r7))), (45, .ret (.d ((D.i .i64) r8))), (48, .bit true), (52, .bit true), (56, .bit true), (60, .bit true), (64, .ret (.d (D.b r9))), (67, .bit true), (71, .ret (.d (D.b r10))), (74, .bit true), (76, .ret (.d ((D.l (D.i .i64)) r11))), (77, .int (r11.length : Int)), (80, .bit true), (82, .ret (.d ((D.l TRow.D) r12))), (83, .int (r12.length : Int)), (86, .bit false)] [] [] (ai (nc_ok Tproctorlaw24_Act.D [a0]) (ai (law24_few_ok [a0] r1 h1) (ai h2 (ai (table_Table_Put_v4_ok a0.bind ([] : List TConfig) r3 h4) (ai (table_Table_Find_ok a0.bind r4 h5) (ai (table_Table_Get_ok a0.iD r5 h6) (ai (table_Table_Reset_ok r6 h7) (ai (table_Table_Len_v3_ok r7 h8) (ai (table_Table_Room_ok r8 h9) (ai h10 (ai h11 (ai h12 (ai h13 (ai (table_Table_Set_ok a0.iD ([] : List TConfig) r9 h14) (ai h15 (ai (table_Table_Drop_ok a0.iD r10 h16) (ai h17 (ai (table_Table_IDs_ok r11 h18) (ai (len_map (D.i .i64) r11) (ai h19 (ai (table_Table_Rows_ok r12 h20) (ai (len_map TRow.D r12) (ai h21 (ti)))))))))))))))))))))))) (by kernel_rfl)
         ·
          obtain rfl := si h
          exact runF_call mixed [(12, .ret (.d (D.b r1))), (13, .bit false), (19, .ret (.tup [.d ((D.i .i64) r3.1), .d ((D.i .i64) r3.2)])), (26, .ret (.tup [.d ((D.i .i64) r4.1), .d (D.b r4.2)])), (33, .ret (.tup [.d (TRow.D r5.1), .d (D.b r5.2)])), (37, .ret (.tup [])), (42, .ret (.d ((D.i .i64) r7))), (45, .ret (.d ((D.i .i64) r8))), (48, .bit true), (52, .bit true), (56, .bit true), (60, .bit true), (64, .ret (.d (D.b r9))), (67, .bit true), (71, .ret (.d (D.b r10))), (74, .bit true), (76, .ret (.d ((D.l (D.i .i64)) r11))), (77, .int (r11.length : Int)), (80, .bit false)] [] [] (ai (nc_ok Tproctorlaw24_Act.D [a0]) (ai (law24_few_ok [a0] r1 h1) (ai h2 (ai (table_Table_Put_v4_ok a0.bind ([] : List TConfig) r3 h4) (ai (table_Table_Find_ok a0.bind r4 h5) (ai (table_Table_Get_ok a0.iD r5 h6) (ai (table_Table_Reset_ok r6 h7) (ai (table_Table_Len_v3_ok r7 h8) (ai (table_Table_Room_ok r8 h9) (ai h10 (ai h11 (ai h12 (ai h13 (ai (table_Table_Set_ok a0.iD ([] : List TConfig) r9 h14) (ai h15 (ai (table_Table_Drop_ok a0.iD r10 h16) (ai h17 (ai (table_Table_IDs_ok r11 h18) (ai (len_map (D.i .i64) r11) (ai h19 (ti))))))))))))))))))))) (by kernel_rfl)
        ·
         obtain rfl := si h
         exact runF_call mixed [(12, .ret (.d (D.b r1))), (13, .bit false), (19, .ret (.tup [.d ((D.i .i64) r3.1), .d ((D.i .i64) r3.2)])), (26, .ret (.tup [.d ((D.i .i64) r4.1), .d (D.b r4.2)])), (33, .ret (.tup [.d (TRow.D r5.1), .d (D.b r5.2)])), (37, .ret (.tup [])), (42, .ret (.d ((D.i .i64) r7))), (45, .ret (.d ((D.i .i64) r8))), (48, .bit true), (52, .bit true), (56, .bit true), (60, .bit true), (64, .ret (.d (D.b r9))), (67, .bit true), (71, .ret (.d (D.b r10))), (74, .bit false)] [] [] (ai (nc_ok Tproctorlaw24_Act.D [a0]) (ai (law24_few_ok [a0] r1 h1) (ai h2 (ai (table_Table_Put_v4_ok a0.bind ([] : List TConfig) r3 h4) (ai (table_Table_Find_ok a0.bind r4 h5) (ai (table_Table_Get_ok a0.iD r5 h6) (ai (table_Table_Reset_ok r6 h7) (ai (table_Table_Len_v3_ok r7 h8) (ai (table_Table_Room_ok r8 h9) (ai h10 (ai h11 (ai h12 (ai h13 (ai (table_Table_Set_ok a0.iD ([] : List TConfig) r9 h14) (ai h15 (ai (table_Table_Drop_ok a0.iD r10 h16) (ai h17 (ti)))))))))))))))))) (by kernel_rfl)
       ·
        obtain rfl := si h
        exact runF_call mixed [(12, .ret (.d (D.b r1))), (13, .bit false), (19, .ret (.tup [.d ((D.i .i64) r3.1), .d ((D.i .i64) r3.2)])), (26, .ret (.tup [.d ((D.i .i64) r4.1), .d (D.b r4.2)])), (33, .ret (.tup [.d (TRow.D r5.1), .d (D.b r5.2)])), (37, .ret (.tup [])), (42, .ret (.d ((D.i .i64) r7))), (45, .ret (.d ((D.i .i64) r8))), (48, .bit true), (52, .bit true), (56, .bit true), (60, .bit true), (64, .ret (.d (D.b r9))), (67, .bit false)] [] [] (ai (nc_ok Tproctorlaw24_Act.D [a0]) (ai (law24_few_ok [a0] r1 h1) (ai h2 (ai (table_Table_Put_v4_ok a0.bind ([] : List TConfig) r3 h4) (ai (table_Table_Find_ok a0.bind r4 h5) (ai (table_Table_Get_ok a0.iD r5 h6) (ai (table_Table_Reset_ok r6 h7) (ai (table_Table_Len_v3_ok r7 h8) (ai (table_Table_Room_ok r8 h9) (ai h10 (ai h11 (ai h12 (ai h13 (ai (table_Table_Set_ok a0.iD ([] : List TConfig) r9 h14) (ai h15 (ti)))))))))))))))) (by kernel_rfl)
      ·
       obtain rfl := si h
       exact runF_call mixed [(12, .ret (.d (D.b r1))), (13, .bit false), (19, .ret (.tup [.d ((D.i .i64) r3.1), .d ((D.i .i64) r3.2)])), (26, .ret (.tup [.d ((D.i .i64) r4.1), .d (D.b r4.2)])), (33, .ret (.tup [.d (TRow.D r5.1), .d (D.b r5.2)])), (37, .ret (.tup [])), (42, .ret (.d ((D.i .i64) r7))), (45, .ret (.d ((D.i .i64) r8))), (48, .bit true), (52, .bit true), (56, .bit true), (60, .bit false)] [] [] (ai (nc_ok Tproctorlaw24_Act.D [a0]) (ai (law24_few_ok [a0] r1 h1) (ai h2 (ai (table_Table_Put_v4_ok a0.bind ([] : List TConfig) r3 h4) (ai (table_Table_Find_ok a0.bind r4 h5) (ai (table_Table_Get_ok a0.iD r5 h6) (ai (table_Table_Reset_ok r6 h7) (ai (table_Table_Len_v3_ok r7 h8) (ai (table_Table_Room_ok r8 h9) (ai h10 (ai h11 (ai h12 (ai h13 (ti)))))))))))))) (by kernel_rfl)
     ·
      obtain rfl := si h
      exact runF_call mixed [(12, .ret (.d (D.b r1))), (13, .bit false), (19, .ret (.tup [.d ((D.i .i64) r3.1), .d ((D.i .i64) r3.2)])), (26, .ret (.tup [.d ((D.i .i64) r4.1), .d (D.b r4.2)])), (33, .ret (.tup [.d (TRow.D r5.1), .d (D.b r5.2)])), (37, .ret (.tup [])), (42, .ret (.d ((D.i .i64) r7))), (45, .ret (.d ((D.i .i64) r8))), (48, .bit true), (52, .bit true), (56, .bit false)] [] [] (ai (nc_ok Tproctorlaw24_Act.D [a0]) (ai (law24_few_ok [a0] r1 h1) (ai h2 (ai (table_Table_Put_v4_ok a0.bind ([] : List TConfig) r3 h4) (ai (table_Table_Find_ok a0.bind r4 h5) (ai (table_Table_Get_ok a0.iD r5 h6) (ai (table_Table_Reset_ok r6 h7) (ai (table_Table_Len_v3_ok r7 h8) (ai (table_Table_Room_ok r8 h9) (ai h10 (ai h11 (ai h12 (ti))))))))))))) (by kernel_rfl)
    ·
     obtain rfl := si h
     exact runF_call mixed [(12, .ret (.d (D.b r1))), (13, .bit false), (19, .ret (.tup [.d ((D.i .i64) r3.1), .d ((D.i .i64) r3.2)])), (26, .ret (.tup [.d ((D.i .i64) r4.1), .d (D.b r4.2)])), (33, .ret (.tup [.d (TRow.D r5.1), .d (D.b r5.2)])), (37, .ret (.tup [])), (42, .ret (.d ((D.i .i64) r7))), (45, .ret (.d ((D.i .i64) r8))), (48, .bit true), (52, .bit false)] [] [] (ai (nc_ok Tproctorlaw24_Act.D [a0]) (ai (law24_few_ok [a0] r1 h1) (ai h2 (ai (table_Table_Put_v4_ok a0.bind ([] : List TConfig) r3 h4) (ai (table_Table_Find_ok a0.bind r4 h5) (ai (table_Table_Get_ok a0.iD r5 h6) (ai (table_Table_Reset_ok r6 h7) (ai (table_Table_Len_v3_ok r7 h8) (ai (table_Table_Room_ok r8 h9) (ai h10 (ai h11 (ti)))))))))))) (by kernel_rfl)
   ·
    obtain rfl := si h
    exact runF_call mixed [(12, .ret (.d (D.b r1))), (13, .bit false), (19, .ret (.tup [.d ((D.i .i64) r3.1), .d ((D.i .i64) r3.2)])), (26, .ret (.tup [.d ((D.i .i64) r4.1), .d (D.b r4.2)])), (33, .ret (.tup [.d (TRow.D r5.1), .d (D.b r5.2)])), (37, .ret (.tup [])), (42, .ret (.d ((D.i .i64) r7))), (45, .ret (.d ((D.i .i64) r8))), (48, .bit false)] [] [] (ai (nc_ok Tproctorlaw24_Act.D [a0]) (ai (law24_few_ok [a0] r1 h1) (ai h2 (ai (table_Table_Put_v4_ok a0.bind ([] : List TConfig) r3 h4) (ai (table_Table_Find_ok a0.bind r4 h5) (ai (table_Table_Get_ok a0.iD r5 h6) (ai (table_Table_Reset_ok r6 h7) (ai (table_Table_Len_v3_ok r7 h8) (ai (table_Table_Room_ok r8 h9) (ai h10 (ti))))))))))) (by kernel_rfl)
end Go.Ac
