/-
  Part of a proof: each function of the seat computes what its Lean function says (printed by a program).
-/
import Derived.Test.YtlimmomloedalaaSh27
import Derived.Test.YtlimmomloedalaaProg
set_option linter.unusedVariables false
set_option linter.unusedSimpArgs false
set_option linter.unusedVariables false
set_option linter.unusedSimpArgs false
namespace Go.Ac
open Go.Proofs
theorem mixed : Try.prog.follows .mixedOrders = true := by kernel_rfl
theorem ref03_Right_ok (a0 : TValue) (r : Bool) (h : ref03_Right a0 = some r) : ACall Try.prog 34 [.d (TValue.D a0)] [] (.d (D.b r)) [] := by
  unfold ref03_Right at h
  replace h := iteE_some h
  rcases h with ⟨h1, h⟩ | ⟨h1, h⟩
  · skip
    replace h := iteE_some h
    rcases h with ⟨h2, h⟩ | ⟨h2, h⟩
    · skip
      obtain rfl := Option.some.inj h
      exact runF_call mixed [(5, .bit true), (9, .bit true)] [] [] (And.intro h1 (And.intro h2 (True.intro))) (by kernel_rfl)
    · skip
      obtain rfl := Option.some.inj h
      exact runF_call mixed [(5, .bit true), (9, .bit false)] [] [] (And.intro h1 (And.intro h2 (True.intro))) (by kernel_rfl)
  · skip
    replace h := iteE_some h
    rcases h with ⟨h3, h⟩ | ⟨h3, h⟩
    · skip
      replace h := iteE_some h
      rcases h with ⟨h4, h⟩ | ⟨h4, h⟩
      · skip
        replace h := iteE_some h
        rcases h with ⟨h5, h⟩ | ⟨h5, h⟩
        · skip
          obtain rfl := Option.some.inj h
          exact runF_call mixed [(5, .bit false), (16, .bit true), (20, .bit true), (25, .bit true), (28, .int (a0.str.length : Int))] [] [] (And.intro h1 (And.intro h3 (And.intro h4 (And.intro h5 (And.intro (len_str a0.str) (True.intro)))))) (by kernel_rfl)
        · skip
          obtain rfl := Option.some.inj h
          exact runF_call mixed [(5, .bit false), (16, .bit true), (20, .bit true), (25, .bit false)] [] [] (And.intro h1 (And.intro h3 (And.intro h4 (And.intro h5 (True.intro))))) (by kernel_rfl)
      · skip
        obtain rfl := Option.some.inj h
        exact runF_call mixed [(5, .bit false), (16, .bit true), (20, .bit false)] [] [] (And.intro h1 (And.intro h3 (And.intro h4 (True.intro)))) (by kernel_rfl)
    · skip
      replace h := iteE_some h
      rcases h with ⟨h6, h⟩ | ⟨h6, h⟩
      · skip
        replace h := iteE_some h
        rcases h with ⟨h7, h⟩ | ⟨h7, h⟩
        · skip
          obtain rfl := Option.some.inj h
          exact runF_call mixed [(5, .bit false), (16, .bit false), (34, .bit true), (39, .bit true)] [] [] (And.intro h1 (And.intro h3 (And.intro h6 (And.intro h7 (True.intro))))) (by kernel_rfl)
        · skip
          obtain rfl := Option.some.inj h
          exact runF_call mixed [(5, .bit false), (16, .bit false), (34, .bit true), (39, .bit false)] [] [] (And.intro h1 (And.intro h3 (And.intro h6 (And.intro h7 (True.intro))))) (by kernel_rfl)
      · skip
        obtain rfl := Option.some.inj h
        exact runF_call mixed [(5, .bit false), (16, .bit false), (34, .bit false)] [] [] (And.intro h1 (And.intro h3 (And.intro h6 (True.intro)))) (by kernel_rfl)
def ref05_Right_l1_I (s0 : List TSlot) (s3 : Int) : St := ⟨sp 51 0 [(0, .d ((D.l TSlot.D) s0)), (3, .d ((D.i .i64) s3))], [], []⟩
def ref05_Right_l1_O (s0 : List TSlot) (o : Unit ⊕ Unit) : Ex × St := match o with
  | .inl o => (.exit 0, ⟨sp 51 0 [], [], []⟩)
  | .inr o => (.ret, ⟨sp 51 0 [(2, .d (D.b false))], [], []⟩)
theorem ref05_Right_l1_rnd (rd : Option Nat) (s0 : List TSlot) (s3 : Int) (o : (Int) ⊕ (Unit ⊕ Unit)) (h : ref05_Right_l1_s s0 s3 = some o) : Arr Try.prog rd (fbody Try.prog 14) (0 :: [0, 1, 0, 1]) (ref05_Right_l1_I s0 s3) (rR (fun s : Int => ref05_Right_l1_I s0 s) (ref05_Right_l1_O s0) o).1 (rR (fun s : Int => ref05_Right_l1_I s0 s) (ref05_Right_l1_O s0) o).2 := by
  unfold ref05_Right_l1_s at h
  replace h := iteE_some h
  rcases h with ⟨h1, h⟩ | ⟨h1, h⟩
  · skip
    replace h := idxE_some h
    obtain ⟨x1, h2, h⟩ := h
    replace h := iteE_some h
    rcases h with ⟨h3, h⟩ | ⟨h3, h⟩
    · skip
      obtain rfl := Option.some.inj h
      exact runB_arr mixed [(6, .int (s0.length : Int)), (7, .bit true), (12, .el (TSlot.D x1)), (16, .bit true)] [] [.live [2], .keep []] (And.intro (len_map TSlot.D s0) (And.intro h1 (And.intro (elem_map TSlot.D h2) (And.intro h3 (True.intro))))) (by kernel_rfl)
    · skip
      replace h := idxE_some h
      obtain ⟨x2, h4, h⟩ := h
      replace h := iteE_some h
      rcases h with ⟨h5, h⟩ | ⟨h5, h⟩
      · skip
        obtain rfl := Option.some.inj h
        exact runB_arr mixed [(6, .int (s0.length : Int)), (7, .bit true), (12, .el (TSlot.D x1)), (16, .bit false), (19, .el (TSlot.D x2)), (24, .bit true)] [] [.live [2], .keep []] (And.intro (len_map TSlot.D s0) (And.intro h1 (And.intro (elem_map TSlot.D h2) (And.intro h3 (And.intro (elem_map TSlot.D h4) (And.intro h5 (True.intro))))))) (by kernel_rfl)
      · skip
        replace h := idxE_some h
        obtain ⟨x3, h6, h⟩ := h
        replace h := bndE_some h
        obtain ⟨r4, h7, h⟩ := h
        replace h := iteE_some h
        rcases h with ⟨h8, h⟩ | ⟨h8, h⟩
        · skip
          obtain rfl := Option.some.inj h
          exact runB_arr mixed [(6, .int (s0.length : Int)), (7, .bit true), (12, .el (TSlot.D x1)), (16, .bit false), (19, .el (TSlot.D x2)), (24, .bit false), (27, .el (TSlot.D x3)), (30, .ret (.d (D.b r4))), (33, .bit true)] [] [.live [2], .keep []] (And.intro (len_map TSlot.D s0) (And.intro h1 (And.intro (elem_map TSlot.D h2) (And.intro h3 (And.intro (elem_map TSlot.D h4) (And.intro h5 (And.intro (elem_map TSlot.D h6) (And.intro (ref03_Right_ok x3.value r4 h7) (And.intro h8 (True.intro)))))))))) (by kernel_rfl)
        · skip
          replace h := iteE_some h
          rcases h with ⟨h9, h⟩ | ⟨h9, h⟩
          · skip
            replace h := idxE_some h
            obtain ⟨x5, h10, h⟩ := h
            replace h := idxE_some h
            obtain ⟨x6, h11, h⟩ := h
            replace h := iteE_some h
            rcases h with ⟨h12, h⟩ | ⟨h12, h⟩
            · skip
              obtain rfl := Option.some.inj h
              exact runB_arr mixed [(6, .int (s0.length : Int)), (7, .bit true), (12, .el (TSlot.D x1)), (16, .bit false), (19, .el (TSlot.D x2)), (24, .bit false), (27, .el (TSlot.D x3)), (30, .ret (.d (D.b r4))), (33, .bit false), (36, .bit true), (39, .el (TSlot.D x5)), (45, .el (TSlot.D x6)), (50, .bit true)] [] [.live [2], .keep []] (And.intro (len_map TSlot.D s0) (And.intro h1 (And.intro (elem_map TSlot.D h2) (And.intro h3 (And.intro (elem_map TSlot.D h4) (And.intro h5 (And.intro (elem_map TSlot.D h6) (And.intro (ref03_Right_ok x3.value r4 h7) (And.intro h8 (And.intro h9 (And.intro (elem_map TSlot.D h10) (And.intro (elem_map TSlot.D h11) (And.intro h12 (True.intro)))))))))))))) (by kernel_rfl)
            · skip
              obtain rfl := Option.some.inj h
              exact runB_arr mixed [(6, .int (s0.length : Int)), (7, .bit true), (12, .el (TSlot.D x1)), (16, .bit false), (19, .el (TSlot.D x2)), (24, .bit false), (27, .el (TSlot.D x3)), (30, .ret (.d (D.b r4))), (33, .bit false), (36, .bit true), (39, .el (TSlot.D x5)), (45, .el (TSlot.D x6)), (50, .bit false)] [] [.live [0, 3], .keep []] (And.intro (len_map TSlot.D s0) (And.intro h1 (And.intro (elem_map TSlot.D h2) (And.intro h3 (And.intro (elem_map TSlot.D h4) (And.intro h5 (And.intro (elem_map TSlot.D h6) (And.intro (ref03_Right_ok x3.value r4 h7) (And.intro h8 (And.intro h9 (And.intro (elem_map TSlot.D h10) (And.intro (elem_map TSlot.D h11) (And.intro h12 (True.intro)))))))))))))) (by kernel_rfl)
          · skip
            obtain rfl := Option.some.inj h
            exact runB_arr mixed [(6, .int (s0.length : Int)), (7, .bit true), (12, .el (TSlot.D x1)), (16, .bit false), (19, .el (TSlot.D x2)), (24, .bit false), (27, .el (TSlot.D x3)), (30, .ret (.d (D.b r4))), (33, .bit false), (36, .bit false)] [] [.live [0, 3], .keep []] (And.intro (len_map TSlot.D s0) (And.intro h1 (And.intro (elem_map TSlot.D h2) (And.intro h3 (And.intro (elem_map TSlot.D h4) (And.intro h5 (And.intro (elem_map TSlot.D h6) (And.intro (ref03_Right_ok x3.value r4 h7) (And.intro h8 (And.intro h9 (True.intro))))))))))) (by kernel_rfl)
  · skip
    obtain rfl := Option.some.inj h
    exact runB_arr mixed [(6, .int (s0.length : Int)), (7, .bit false)] [] [.live [], .keep []] (And.intro (len_map TSlot.D s0) (And.intro h1 (True.intro))) (by kernel_rfl)
theorem ref05_Right_l1_ok (rd : Option Nat) (s0 : List TSlot) (s3 : Int) (t : Unit ⊕ Unit) (h : ref05_Right_l1 s0 s3 = some t) : LpOf Try.prog rd (fbody Try.prog 14) [0, 1, 0, 1] (ref05_Right_l1_I s0 s3) ((ref05_Right_l1_O s0) t).1 ((ref05_Right_l1_O s0) t).2 :=
  loopE_lpR (fun s : Int => ref05_Right_l1_I s0 s) (ref05_Right_l1_O s0) (by kernel_rfl) (fun t => isN_ne (by rcases t with (_ | _) <;> rfl)) (fun s o h => ref05_Right_l1_rnd rd s0 s o h) (s := s3) (t := t) h
theorem ref05_Right_ok (a0 : List TSlot) (r : Bool) (h : ref05_Right a0 = some r) : ACall Try.prog 14 [.d ((D.l TSlot.D) a0)] [] (.d (D.b r)) [] := by
  unfold ref05_Right at h
  replace h := bndE_some h
  obtain ⟨o7, h13, h⟩ := h
  replace h := sumE_some h
  rcases h with ⟨o8, rfl, h⟩ | ⟨o9, rfl, h⟩
  · skip
    obtain rfl := Option.some.inj h
    exact runF_call mixed [] [⟨[0, 1, 0, 1], [.live [0, 3], .keep []], .exit 0, (ref05_Right_l1_O a0 (Sum.inl o8)).2⟩] [] (And.intro (ref05_Right_l1_ok none a0 0 (Sum.inl o8) h13) (True.intro)) (by kernel_rfl)
  · skip
    obtain rfl := Option.some.inj h
    exact runF_call mixed [] [⟨[0, 1, 0, 1], [.live [0, 3], .keep []], .ret, (ref05_Right_l1_O a0 (Sum.inr o9)).2⟩] [] (And.intro (ref05_Right_l1_ok none a0 0 (Sum.inr o9) h13) (True.intro)) (by kernel_rfl)
def ref26_Binds_l1_I (s0 : List TRow) (s4 : Int) (w3 : List (List TSlot)) : St := ⟨sp 20 0 [(0, .d ((D.l TRow.D) s0)), (3, .row 3), (4, .d ((D.i .i64) s4))], [(3, .row 32 1 (w3.map (D.l TSlot.D)))], []⟩
def ref26_Binds_l1_O (s0 : List TRow) (o : (List (List TSlot))) : Ex × St := (.exit 0, ⟨sp 20 0 [(3, .row 3)], [(3, .row 32 1 (o.map (D.l TSlot.D)))], []⟩)
theorem ref26_Binds_l1_rnd (rd : Option Nat) (s0 : List TRow) (s4 : Int) (w3 : List (List TSlot)) (o : (Int × List (List TSlot)) ⊕ ((List (List TSlot)))) (h : ref26_Binds_l1_s s0 s4 w3 = some o) : Arr Try.prog rd (fbody Try.prog 21) (0 :: [0, 1, 0, 1, 1]) (ref26_Binds_l1_I s0 s4 w3) (rR (fun s : Int × List (List TSlot) => ref26_Binds_l1_I s0 s.1 s.2) (ref26_Binds_l1_O s0) o).1 (rR (fun s : Int × List (List TSlot) => ref26_Binds_l1_I s0 s.1 s.2) (ref26_Binds_l1_O s0) o).2 := by
  unfold ref26_Binds_l1_s at h
  replace h := iteE_some h
  rcases h with ⟨h4, h⟩ | ⟨h4, h⟩
  · skip
    replace h := idxE_some h
    obtain ⟨x2, h5, h⟩ := h
    replace h := chkE_some h
    obtain ⟨h6, h⟩ := h
    obtain rfl := Option.some.inj h
    exact runB_arr mixed [(7, .int (s0.length : Int)), (8, .bit true), (14, .el (TRow.D x2)), (18, .sl ((w3 ++ [x2.bind]).map (D.l TSlot.D)))] [] [.live [0, 3, 4], .keep [18], .ren 18 3, .sort] (And.intro (len_map TRow.D s0) (And.intro h4 (And.intro (elem_map TRow.D h5) (And.intro (nc_ok (D.l TSlot.D) [x2.bind]) (And.intro (nc_ok (D.l TSlot.D) [x2.bind]) (And.intro (fit_map (D.l TSlot.D) h6) (And.intro (app_map (D.l TSlot.D) w3 [x2.bind]) (True.intro)))))))) (by kernel_rfl)
  · skip
    obtain rfl := Option.some.inj h
    exact runB_arr mixed [(7, .int (s0.length : Int)), (8, .bit false)] [] [.live [3], .keep [3]] (And.intro (len_map TRow.D s0) (And.intro h4 (True.intro))) (by kernel_rfl)
theorem ref26_Binds_l1_ok (rd : Option Nat) (s0 : List TRow) (s4 : Int) (w3 : List (List TSlot)) (t : (List (List TSlot))) (h : ref26_Binds_l1 s0 s4 w3 = some t) : LpOf Try.prog rd (fbody Try.prog 21) [0, 1, 0, 1, 1] (ref26_Binds_l1_I s0 s4 w3) ((ref26_Binds_l1_O s0) t).1 ((ref26_Binds_l1_O s0) t).2 :=
  loopE_lpR (fun s : Int × List (List TSlot) => ref26_Binds_l1_I s0 s.1 s.2) (ref26_Binds_l1_O s0) (by kernel_rfl) (fun t => isN_ne (by rfl)) (fun s o h => ref26_Binds_l1_rnd rd s0 s.1 s.2 o h) (s := (s4, w3)) (t := t) h
theorem ref26_Binds_ok (a0 : List TRow) (r : List (List TSlot)) (h : ref26_Binds a0 = some r) : ACall Try.prog 21 [.d ((D.l TRow.D) a0)] [] (.d ((D.l (D.l TSlot.D)) r)) [] := by
  unfold ref26_Binds at h
  replace h := bndE_some h
  obtain ⟨o3, h7, h⟩ := h
  obtain rfl := Option.some.inj h
  exact runF_call mixed [] [⟨[0, 1, 0, 1, 1], [.live [0, 3, 4], .keep [], .nil 3 3 32 1, .sort], .exit 0, (ref26_Binds_l1_O a0 o3).2⟩] [] (And.intro (ref26_Binds_l1_ok none a0 0 ([] : List (List TSlot)) o3 h7) (True.intro)) (by kernel_rfl)
def ref05_Same_l1_I (s0 : List TSlot) (s1 : List TSlot) (s5 : Int) : St := ⟨sp 26 0 [(0, .d ((D.l TSlot.D) s0)), (1, .d ((D.l TSlot.D) s1)), (5, .d ((D.i .i64) s5))], [], []⟩
def ref05_Same_l1_O (s0 : List TSlot) (s1 : List TSlot) (o : Unit ⊕ Unit) : Ex × St := match o with
  | .inl o => (.exit 0, ⟨sp 26 0 [], [], []⟩)
  | .inr o => (.ret, ⟨sp 26 0 [(4, .d (D.b false))], [], []⟩)
theorem ref05_Same_l1_rnd (rd : Option Nat) (s0 : List TSlot) (s1 : List TSlot) (s5 : Int) (o : (Int) ⊕ (Unit ⊕ Unit)) (h : ref05_Same_l1_s s0 s1 s5 = some o) : Arr Try.prog rd (fbody Try.prog 23) (0 :: [0, 1, 0, 1, 1]) (ref05_Same_l1_I s0 s1 s5) (rR (fun s : Int => ref05_Same_l1_I s0 s1 s) (ref05_Same_l1_O s0 s1) o).1 (rR (fun s : Int => ref05_Same_l1_I s0 s1 s) (ref05_Same_l1_O s0 s1) o).2 := by
  unfold ref05_Same_l1_s at h
  replace h := iteE_some h
  rcases h with ⟨h2, h⟩ | ⟨h2, h⟩
  · skip
    replace h := idxE_some h
    obtain ⟨x1, h3, h⟩ := h
    replace h := idxE_some h
    obtain ⟨x2, h4, h⟩ := h
    replace h := iteE_some h
    rcases h with ⟨h5, h⟩ | ⟨h5, h⟩
    · skip
      obtain rfl := Option.some.inj h
      exact runB_arr mixed [(13, .int (s0.length : Int)), (14, .bit true), (19, .el (TSlot.D x1)), (23, .el (TSlot.D x2)), (25, .bit true)] [] [.live [4], .keep []] (And.intro (len_map TSlot.D s0) (And.intro h2 (And.intro (elem_map TSlot.D h3) (And.intro (elem_map TSlot.D h4) (And.intro h5 (True.intro)))))) (by kernel_rfl)
    · skip
      obtain rfl := Option.some.inj h
      exact runB_arr mixed [(13, .int (s0.length : Int)), (14, .bit true), (19, .el (TSlot.D x1)), (23, .el (TSlot.D x2)), (25, .bit false)] [] [.live [0, 1, 5], .keep []] (And.intro (len_map TSlot.D s0) (And.intro h2 (And.intro (elem_map TSlot.D h3) (And.intro (elem_map TSlot.D h4) (And.intro h5 (True.intro)))))) (by kernel_rfl)
  · skip
    obtain rfl := Option.some.inj h
    exact runB_arr mixed [(13, .int (s0.length : Int)), (14, .bit false)] [] [.live [], .keep []] (And.intro (len_map TSlot.D s0) (And.intro h2 (True.intro))) (by kernel_rfl)
theorem ref05_Same_l1_ok (rd : Option Nat) (s0 : List TSlot) (s1 : List TSlot) (s5 : Int) (t : Unit ⊕ Unit) (h : ref05_Same_l1 s0 s1 s5 = some t) : LpOf Try.prog rd (fbody Try.prog 23) [0, 1, 0, 1, 1] (ref05_Same_l1_I s0 s1 s5) ((ref05_Same_l1_O s0 s1) t).1 ((ref05_Same_l1_O s0 s1) t).2 :=
  loopE_lpR (fun s : Int => ref05_Same_l1_I s0 s1 s) (ref05_Same_l1_O s0 s1) (by kernel_rfl) (fun t => isN_ne (by rcases t with (_ | _) <;> rfl)) (fun s o h => ref05_Same_l1_rnd rd s0 s1 s o h) (s := s5) (t := t) h
theorem ref05_Same_ok (a0 : List TSlot) (a1 : List TSlot) (r : Bool) (h : ref05_Same a0 a1 = some r) : ACall Try.prog 23 [.d ((D.l TSlot.D) a0), .d ((D.l TSlot.D) a1)] [] (.d (D.b r)) [] := by
  unfold ref05_Same at h
  replace h := iteE_some h
  rcases h with ⟨h1, h⟩ | ⟨h1, h⟩
  · skip
    obtain rfl := Option.some.inj h
    exact runF_call mixed [(7, .int (a0.length : Int)), (9, .int (a1.length : Int)), (10, .bit true)] [] [] (And.intro (len_map TSlot.D a0) (And.intro (len_map TSlot.D a1) (And.intro h1 (True.intro)))) (by kernel_rfl)
  · skip
    replace h := bndE_some h
    obtain ⟨o3, h6, h⟩ := h
    replace h := sumE_some h
    rcases h with ⟨o4, rfl, h⟩ | ⟨o5, rfl, h⟩
    · skip
      obtain rfl := Option.some.inj h
      exact runF_call mixed [(7, .int (a0.length : Int)), (9, .int (a1.length : Int)), (10, .bit false)] [⟨[0, 1, 0, 1, 1], [.live [0, 1, 5], .keep []], .exit 0, (ref05_Same_l1_O a0 a1 (Sum.inl o4)).2⟩] [] (And.intro (len_map TSlot.D a0) (And.intro (len_map TSlot.D a1) (And.intro h1 (And.intro (ref05_Same_l1_ok none a0 a1 0 (Sum.inl o4) h6) (True.intro))))) (by kernel_rfl)
    · skip
      obtain rfl := Option.some.inj h
      exact runF_call mixed [(7, .int (a0.length : Int)), (9, .int (a1.length : Int)), (10, .bit false)] [⟨[0, 1, 0, 1, 1], [.live [0, 1, 5], .keep []], .ret, (ref05_Same_l1_O a0 a1 (Sum.inr o5)).2⟩] [] (And.intro (len_map TSlot.D a0) (And.intro (len_map TSlot.D a1) (And.intro h1 (And.intro (ref05_Same_l1_ok none a0 a1 0 (Sum.inr o5) h6) (True.intro))))) (by kernel_rfl)
def ref05_Has_l1_I (s0 : List (List TSlot)) (s1 : List TSlot) (s5 : Int) : St := ⟨sp 18 0 [(0, .d ((D.l (D.l TSlot.D)) s0)), (1, .d ((D.l TSlot.D) s1)), (5, .d ((D.i .i64) s5))], [], []⟩
def ref05_Has_l1_O (s0 : List (List TSlot)) (s1 : List TSlot) (o : Unit ⊕ Unit) : Ex × St := match o with
  | .inl o => (.exit 0, ⟨sp 18 0 [], [], []⟩)
  | .inr o => (.ret, ⟨sp 18 0 [(4, .d (D.b true))], [], []⟩)
theorem ref05_Has_l1_rnd (rd : Option Nat) (s0 : List (List TSlot)) (s1 : List TSlot) (s5 : Int) (o : (Int) ⊕ (Unit ⊕ Unit)) (h : ref05_Has_l1_s s0 s1 s5 = some o) : Arr Try.prog rd (fbody Try.prog 20) (0 :: [0, 1, 0, 1]) (ref05_Has_l1_I s0 s1 s5) (rR (fun s : Int => ref05_Has_l1_I s0 s1 s) (ref05_Has_l1_O s0 s1) o).1 (rR (fun s : Int => ref05_Has_l1_I s0 s1 s) (ref05_Has_l1_O s0 s1) o).2 := by
  unfold ref05_Has_l1_s at h
  replace h := iteE_some h
  rcases h with ⟨h1, h⟩ | ⟨h1, h⟩
  · skip
    replace h := idxE_some h
    obtain ⟨x1, h2, h⟩ := h
    replace h := bndE_some h
    obtain ⟨r2, h3, h⟩ := h
    cases r2 with
    | true =>
      replace h := iteT h
      obtain rfl := Option.some.inj h
      exact runB_arr mixed [(8, .int (s0.length : Int)), (9, .bit true), (14, .el ((D.l TSlot.D) x1)), (17, .ret (.d (D.b true)))] [] [.live [4], .keep []] (And.intro (len_map (D.l TSlot.D) s0) (And.intro h1 (And.intro (elem_map (D.l TSlot.D) h2) (And.intro (ref05_Same_ok x1 s1 true h3) (True.intro))))) (by kernel_rfl)
    | false =>
      replace h := iteF h
      obtain rfl := Option.some.inj h
      exact runB_arr mixed [(8, .int (s0.length : Int)), (9, .bit true), (14, .el ((D.l TSlot.D) x1)), (17, .ret (.d (D.b false)))] [] [.live [0, 1, 5], .keep []] (And.intro (len_map (D.l TSlot.D) s0) (And.intro h1 (And.intro (elem_map (D.l TSlot.D) h2) (And.intro (ref05_Same_ok x1 s1 false h3) (True.intro))))) (by kernel_rfl)
  · skip
    obtain rfl := Option.some.inj h
    exact runB_arr mixed [(8, .int (s0.length : Int)), (9, .bit false)] [] [.live [], .keep []] (And.intro (len_map (D.l TSlot.D) s0) (And.intro h1 (True.intro))) (by kernel_rfl)
theorem ref05_Has_l1_ok (rd : Option Nat) (s0 : List (List TSlot)) (s1 : List TSlot) (s5 : Int) (t : Unit ⊕ Unit) (h : ref05_Has_l1 s0 s1 s5 = some t) : LpOf Try.prog rd (fbody Try.prog 20) [0, 1, 0, 1] (ref05_Has_l1_I s0 s1 s5) ((ref05_Has_l1_O s0 s1) t).1 ((ref05_Has_l1_O s0 s1) t).2 :=
  loopE_lpR (fun s : Int => ref05_Has_l1_I s0 s1 s) (ref05_Has_l1_O s0 s1) (by kernel_rfl) (fun t => isN_ne (by rcases t with (_ | _) <;> rfl)) (fun s o h => ref05_Has_l1_rnd rd s0 s1 s o h) (s := s5) (t := t) h
theorem ref05_Has_ok (a0 : List (List TSlot)) (a1 : List TSlot) (r : Bool) (h : ref05_Has a0 a1 = some r) : ACall Try.prog 20 [.d ((D.l (D.l TSlot.D)) a0), .d ((D.l TSlot.D) a1)] [] (.d (D.b r)) [] := by
  unfold ref05_Has at h
  replace h := bndE_some h
  obtain ⟨o3, h5, h⟩ := h
  replace h := sumE_some h
  rcases h with ⟨o4, rfl, h⟩ | ⟨o5, rfl, h⟩
  · skip
    obtain rfl := Option.some.inj h
    exact runF_call mixed [] [⟨[0, 1, 0, 1], [.live [0, 1, 5], .keep []], .exit 0, (ref05_Has_l1_O a0 a1 (Sum.inl o4)).2⟩] [] (And.intro (ref05_Has_l1_ok none a0 a1 0 (Sum.inl o4) h5) (True.intro)) (by kernel_rfl)
  · skip
    obtain rfl := Option.some.inj h
    exact runF_call mixed [] [⟨[0, 1, 0, 1], [.live [0, 1, 5], .keep []], .ret, (ref05_Has_l1_O a0 a1 (Sum.inr o5)).2⟩] [] (And.intro (ref05_Has_l1_ok none a0 a1 0 (Sum.inr o5) h5) (True.intro)) (by kernel_rfl)
def ref03_Below_l1_I (s0 : List UInt8) (s1 : List UInt8) (s5 : Int) : St := ⟨sp 37 0 [(0, .d (D.s s0)), (1, .d (D.s s1)), (5, .d ((D.i .i64) s5))], [], []⟩
def ref03_Below_l1_O (s0 : List UInt8) (s1 : List UInt8) (o : Unit ⊕ Bool) : Ex × St := match o with
  | .inl o => (.exit 0, ⟨sp 37 0 [(0, .d (D.s s0)), (1, .d (D.s s1))], [], []⟩)
  | .inr o => (.ret, ⟨sp 37 0 [(4, .d (D.b o))], [], []⟩)
theorem ref03_Below_l1_rnd (rd : Option Nat) (s0 : List UInt8) (s1 : List UInt8) (s5 : Int) (o : (Int) ⊕ (Unit ⊕ Bool)) (h : ref03_Below_l1_s s0 s1 s5 = some o) : Arr Try.prog rd (fbody Try.prog 50) (0 :: [0, 1, 0, 1]) (ref03_Below_l1_I s0 s1 s5) (rR (fun s : Int => ref03_Below_l1_I s0 s1 s) (ref03_Below_l1_O s0 s1) o).1 (rR (fun s : Int => ref03_Below_l1_I s0 s1 s) (ref03_Below_l1_O s0 s1) o).2 := by
  unfold ref03_Below_l1_s at h
  replace h := iteE_some h
  rcases h with ⟨h1, h⟩ | ⟨h1, h⟩
  · skip
    replace h := iteE_some h
    rcases h with ⟨h2, h⟩ | ⟨h2, h⟩
    · skip
      replace h := idxE_some h
      obtain ⟨x1, h3, h⟩ := h
      replace h := idxE_some h
      obtain ⟨x2, h4, h⟩ := h
      replace h := iteE_some h
      rcases h with ⟨h5, h⟩ | ⟨h5, h⟩
      · skip
        replace h := idxE_some h
        obtain ⟨x3, h6, h⟩ := h
        replace h := idxE_some h
        obtain ⟨x4, h7, h⟩ := h
        obtain rfl := Option.some.inj h
        exact runB_arr mixed [(8, .int (s0.length : Int)), (10, .bit true), (13, .int (s1.length : Int)), (15, .bit true), (20, .int x1.toNat), (23, .int x2.toNat), (24, .bit true), (27, .int x3.toNat), (30, .int x4.toNat)] [] [.live [4], .keep []] (And.intro (len_str s0) (And.intro h1 (And.intro (len_str s1) (And.intro h2 (And.intro (byte_ok h3) (And.intro (byte_ok h4) (And.intro h5 (And.intro (byte_ok h6) (And.intro (byte_ok h7) (True.intro)))))))))) (by kernel_rfl)
      · skip
        obtain rfl := Option.some.inj h
        exact runB_arr mixed [(8, .int (s0.length : Int)), (10, .bit true), (13, .int (s1.length : Int)), (15, .bit true), (20, .int x1.toNat), (23, .int x2.toNat), (24, .bit false)] [] [.live [0, 1, 5], .keep []] (And.intro (len_str s0) (And.intro h1 (And.intro (len_str s1) (And.intro h2 (And.intro (byte_ok h3) (And.intro (byte_ok h4) (And.intro h5 (True.intro)))))))) (by kernel_rfl)
    · skip
      obtain rfl := Option.some.inj h
      exact runB_arr mixed [(8, .int (s0.length : Int)), (10, .bit true), (13, .int (s1.length : Int)), (15, .bit false)] [] [.live [0, 1], .keep []] (And.intro (len_str s0) (And.intro h1 (And.intro (len_str s1) (And.intro h2 (True.intro))))) (by kernel_rfl)
  · skip
    obtain rfl := Option.some.inj h
    exact runB_arr mixed [(8, .int (s0.length : Int)), (10, .bit false)] [] [.live [0, 1], .keep []] (And.intro (len_str s0) (And.intro h1 (True.intro))) (by kernel_rfl)
theorem ref03_Below_l1_ok (rd : Option Nat) (s0 : List UInt8) (s1 : List UInt8) (s5 : Int) (t : Unit ⊕ Bool) (h : ref03_Below_l1 s0 s1 s5 = some t) : LpOf Try.prog rd (fbody Try.prog 50) [0, 1, 0, 1] (ref03_Below_l1_I s0 s1 s5) ((ref03_Below_l1_O s0 s1) t).1 ((ref03_Below_l1_O s0 s1) t).2 :=
  loopE_lpR (fun s : Int => ref03_Below_l1_I s0 s1 s) (ref03_Below_l1_O s0 s1) (by kernel_rfl) (fun t => isN_ne (by rcases t with (_ | _) <;> rfl)) (fun s o h => ref03_Below_l1_rnd rd s0 s1 s o h) (s := s5) (t := t) h
theorem ref03_Below_ok (a0 : List UInt8) (a1 : List UInt8) (r : Bool) (h : ref03_Below a0 a1 = some r) : ACall Try.prog 50 [.d (D.s a0), .d (D.s a1)] [] (.d (D.b r)) [] := by
  unfold ref03_Below at h
  replace h := bndE_some h
  obtain ⟨o5, h8, h⟩ := h
  replace h := sumE_some h
  rcases h with ⟨o6, rfl, h⟩ | ⟨o7, rfl, h⟩
  · skip
    obtain rfl := Option.some.inj h
    exact runF_call mixed [(33, .int (a0.length : Int)), (35, .int (a1.length : Int))] [⟨[0, 1, 0, 1], [.live [0, 1, 5], .keep []], .exit 0, (ref03_Below_l1_O a0 a1 (Sum.inl o6)).2⟩] [] (And.intro (ref03_Below_l1_ok none a0 a1 0 (Sum.inl o6) h8) (And.intro (len_str a0) (And.intro (len_str a1) (True.intro)))) (by kernel_rfl)
  · skip
    obtain rfl := Option.some.inj h
    exact runF_call mixed [] [⟨[0, 1, 0, 1], [.live [0, 1, 5], .keep []], .ret, (ref03_Below_l1_O a0 a1 (Sum.inr o7)).2⟩] [] (And.intro (ref03_Below_l1_ok none a0 a1 0 (Sum.inr o7) h8) (True.intro)) (by kernel_rfl)
theorem ref03_Less_ok (a0 : TValue) (a1 : TValue) (r : Bool) (h : ref03_Less a0 a1 = some r) : ACall Try.prog 45 [.d (TValue.D a0), .d (TValue.D a1)] [] (.d (D.b r)) [] := by
  unfold ref03_Less at h
  replace h := iteE_some h
  rcases h with ⟨h1, h⟩ | ⟨h1, h⟩
  · skip
    obtain rfl := Option.some.inj h
    exact runF_call mixed [(9, .bit true)] [] [] (And.intro h1 (True.intro)) (by kernel_rfl)
  · skip
    replace h := iteE_some h
    rcases h with ⟨h2, h⟩ | ⟨h2, h⟩
    · skip
      obtain rfl := Option.some.inj h
      exact runF_call mixed [(9, .bit false), (17, .bit true)] [] [] (And.intro h1 (And.intro h2 (True.intro))) (by kernel_rfl)
    · skip
      replace h := iteE_some h
      rcases h with ⟨h3, h⟩ | ⟨h3, h⟩
      · skip
        replace h := bndE_some h
        obtain ⟨r1, h4, h⟩ := h
        obtain rfl := Option.some.inj h
        exact runF_call mixed [(9, .bit false), (17, .bit false), (25, .bit true), (30, .ret (.d (D.b r1)))] [] [] (And.intro h1 (And.intro h2 (And.intro h3 (And.intro (ref03_Below_ok a0.str a1.str r1 h4) (True.intro))))) (by kernel_rfl)
      · skip
        replace h := iteE_some h
        rcases h with ⟨h5, h⟩ | ⟨h5, h⟩
        · skip
          obtain rfl := Option.some.inj h
          exact runF_call mixed [(9, .bit false), (17, .bit false), (25, .bit false), (34, .bit true)] [] [] (And.intro h1 (And.intro h2 (And.intro h3 (And.intro h5 (True.intro))))) (by kernel_rfl)
        · skip
          obtain rfl := Option.some.inj h
          exact runF_call mixed [(9, .bit false), (17, .bit false), (25, .bit false), (34, .bit false)] [] [] (And.intro h1 (And.intro h2 (And.intro h3 (And.intro h5 (True.intro))))) (by kernel_rfl)
def ref05_Less_l1_I (s0 : List TSlot) (s1 : List TSlot) (s5 : Int) : St := ⟨sp 66 0 [(0, .d ((D.l TSlot.D) s0)), (1, .d ((D.l TSlot.D) s1)), (5, .d ((D.i .i64) s5))], [], []⟩
def ref05_Less_l1_O (s0 : List TSlot) (s1 : List TSlot) (o : Unit ⊕ Bool) : Ex × St := match o with
  | .inl o => (.exit 0, ⟨sp 66 0 [], [], []⟩)
  | .inr o => (.ret, ⟨sp 66 0 [(4, .d (D.b o))], [], []⟩)
theorem ref05_Less_l1_rnd (rd : Option Nat) (s0 : List TSlot) (s1 : List TSlot) (s5 : Int) (o : (Int) ⊕ (Unit ⊕ Bool)) (h : ref05_Less_l1_s s0 s1 s5 = some o) : Arr Try.prog rd (fbody Try.prog 37) (0 :: [0, 1, 0, 1, 1]) (ref05_Less_l1_I s0 s1 s5) (rR (fun s : Int => ref05_Less_l1_I s0 s1 s) (ref05_Less_l1_O s0 s1) o).1 (rR (fun s : Int => ref05_Less_l1_I s0 s1 s) (ref05_Less_l1_O s0 s1) o).2 := by
  unfold ref05_Less_l1_s at h
  replace h := iteE_some h
  rcases h with ⟨h2, h⟩ | ⟨h2, h⟩
  · skip
    replace h := idxE_some h
    obtain ⟨x1, h3, h⟩ := h
    replace h := idxE_some h
    obtain ⟨x2, h4, h⟩ := h
    replace h := iteE_some h
    rcases h with ⟨h5, h⟩ | ⟨h5, h⟩
    · skip
      replace h := idxE_some h
      obtain ⟨x3, h6, h⟩ := h
      replace h := idxE_some h
      obtain ⟨x4, h7, h⟩ := h
      obtain rfl := Option.some.inj h
      exact runB_arr mixed [(18, .int (s0.length : Int)), (19, .bit true), (24, .el (TSlot.D x1)), (29, .el (TSlot.D x2)), (32, .bit true), (35, .el (TSlot.D x3)), (40, .el (TSlot.D x4))] [] [.live [4], .keep []] (And.intro (len_map TSlot.D s0) (And.intro h2 (And.intro (elem_map TSlot.D h3) (And.intro (elem_map TSlot.D h4) (And.intro h5 (And.intro (elem_map TSlot.D h6) (And.intro (elem_map TSlot.D h7) (True.intro)))))))) (by kernel_rfl)
    · skip
      replace h := idxE_some h
      obtain ⟨x5, h8, h⟩ := h
      replace h := idxE_some h
      obtain ⟨x6, h9, h⟩ := h
      replace h := iteE_some h
      rcases h with ⟨h10, h⟩ | ⟨h10, h⟩
      · skip
        replace h := idxE_some h
        obtain ⟨x7, h11, h⟩ := h
        replace h := idxE_some h
        obtain ⟨x8, h12, h⟩ := h
        replace h := bndE_some h
        obtain ⟨r9, h13, h⟩ := h
        obtain rfl := Option.some.inj h
        exact runB_arr mixed [(18, .int (s0.length : Int)), (19, .bit true), (24, .el (TSlot.D x1)), (29, .el (TSlot.D x2)), (32, .bit false), (46, .el (TSlot.D x5)), (51, .el (TSlot.D x6)), (54, .bit true), (57, .el (TSlot.D x7)), (62, .el (TSlot.D x8)), (65, .ret (.d (D.b r9)))] [] [.live [4], .keep []] (And.intro (len_map TSlot.D s0) (And.intro h2 (And.intro (elem_map TSlot.D h3) (And.intro (elem_map TSlot.D h4) (And.intro h5 (And.intro (elem_map TSlot.D h8) (And.intro (elem_map TSlot.D h9) (And.intro h10 (And.intro (elem_map TSlot.D h11) (And.intro (elem_map TSlot.D h12) (And.intro (ref03_Less_ok x7.value x8.value r9 h13) (True.intro)))))))))))) (by kernel_rfl)
      · skip
        obtain rfl := Option.some.inj h
        exact runB_arr mixed [(18, .int (s0.length : Int)), (19, .bit true), (24, .el (TSlot.D x1)), (29, .el (TSlot.D x2)), (32, .bit false), (46, .el (TSlot.D x5)), (51, .el (TSlot.D x6)), (54, .bit false)] [] [.live [0, 1, 5], .keep []] (And.intro (len_map TSlot.D s0) (And.intro h2 (And.intro (elem_map TSlot.D h3) (And.intro (elem_map TSlot.D h4) (And.intro h5 (And.intro (elem_map TSlot.D h8) (And.intro (elem_map TSlot.D h9) (And.intro h10 (True.intro))))))))) (by kernel_rfl)
  · skip
    obtain rfl := Option.some.inj h
    exact runB_arr mixed [(18, .int (s0.length : Int)), (19, .bit false)] [] [.live [], .keep []] (And.intro (len_map TSlot.D s0) (And.intro h2 (True.intro))) (by kernel_rfl)
theorem ref05_Less_l1_ok (rd : Option Nat) (s0 : List TSlot) (s1 : List TSlot) (s5 : Int) (t : Unit ⊕ Bool) (h : ref05_Less_l1 s0 s1 s5 = some t) : LpOf Try.prog rd (fbody Try.prog 37) [0, 1, 0, 1, 1] (ref05_Less_l1_I s0 s1 s5) ((ref05_Less_l1_O s0 s1) t).1 ((ref05_Less_l1_O s0 s1) t).2 :=
  loopE_lpR (fun s : Int => ref05_Less_l1_I s0 s1 s) (ref05_Less_l1_O s0 s1) (by kernel_rfl) (fun t => isN_ne (by rcases t with (_ | _) <;> rfl)) (fun s o h => ref05_Less_l1_rnd rd s0 s1 s o h) (s := s5) (t := t) h
theorem ref05_Less_ok (a0 : List TSlot) (a1 : List TSlot) (r : Bool) (h : ref05_Less a0 a1 = some r) : ACall Try.prog 37 [.d ((D.l TSlot.D) a0), .d ((D.l TSlot.D) a1)] [] (.d (D.b r)) [] := by
  unfold ref05_Less at h
  replace h := iteE_some h
  rcases h with ⟨h1, h⟩ | ⟨h1, h⟩
  · skip
    obtain rfl := Option.some.inj h
    exact runF_call mixed [(7, .int (a0.length : Int)), (9, .int (a1.length : Int)), (10, .bit true), (12, .int (a0.length : Int)), (14, .int (a1.length : Int))] [] [] (And.intro (len_map TSlot.D a0) (And.intro (len_map TSlot.D a1) (And.intro h1 (And.intro (len_map TSlot.D a0) (And.intro (len_map TSlot.D a1) (True.intro)))))) (by kernel_rfl)
  · skip
    replace h := bndE_some h
    obtain ⟨o10, h14, h⟩ := h
    replace h := sumE_some h
    rcases h with ⟨o11, rfl, h⟩ | ⟨o12, rfl, h⟩
    · skip
      obtain rfl := Option.some.inj h
      exact runF_call mixed [(7, .int (a0.length : Int)), (9, .int (a1.length : Int)), (10, .bit false)] [⟨[0, 1, 0, 1, 1], [.live [0, 1, 5], .keep []], .exit 0, (ref05_Less_l1_O a0 a1 (Sum.inl o11)).2⟩] [] (And.intro (len_map TSlot.D a0) (And.intro (len_map TSlot.D a1) (And.intro h1 (And.intro (ref05_Less_l1_ok none a0 a1 0 (Sum.inl o11) h14) (True.intro))))) (by kernel_rfl)
    · skip
      obtain rfl := Option.some.inj h
      exact runF_call mixed [(7, .int (a0.length : Int)), (9, .int (a1.length : Int)), (10, .bit false)] [⟨[0, 1, 0, 1, 1], [.live [0, 1, 5], .keep []], .ret, (ref05_Less_l1_O a0 a1 (Sum.inr o12)).2⟩] [] (And.intro (len_map TSlot.D a0) (And.intro (len_map TSlot.D a1) (And.intro h1 (And.intro (ref05_Less_l1_ok none a0 a1 0 (Sum.inr o12) h14) (True.intro))))) (by kernel_rfl)
def ref24_Insert_l1_I (s0 : List TRow) (w3 : TRow) (s5 : Int) : St := ⟨sp 38 0 [(0, .d ((D.l TRow.D) s0)), (3, .box 3 0), (5, .d ((D.i .i64) s5))], [(3, .cells ((cellsA (TRow.D w3))))], []⟩
def ref24_Insert_l1_O (s0 : List TRow) (w3 : TRow) (o : Int) : Ex × St := (.exit 0, ⟨sp 38 0 [(0, .d ((D.l TRow.D) s0)), (3, .box 3 0), (5, .d ((D.i .i64) o))], [(3, .cells ((cellsA (TRow.D w3))))], []⟩)
theorem ref24_Insert_l1_rnd (rd : Option Nat) (s0 : List TRow) (w3 : TRow) (s5 : Int) (o : (Int) ⊕ (Int)) (h : ref24_Insert_l1_s s0 w3 s5 = some o) : Arr Try.prog rd (fbody Try.prog 22) (0 :: [0, 0, 1, 1]) (ref24_Insert_l1_I s0 w3 s5) (rR (fun s : Int => ref24_Insert_l1_I s0 w3 s) (ref24_Insert_l1_O s0 w3) o).1 (rR (fun s : Int => ref24_Insert_l1_I s0 w3 s) (ref24_Insert_l1_O s0 w3) o).2 := by
  unfold ref24_Insert_l1_s at h
  replace h := iteE_some h
  rcases h with ⟨h1, h⟩ | ⟨h1, h⟩
  · skip
    replace h := idxE_some h
    obtain ⟨x1, h2, h⟩ := h
    replace h := bndE_some h
    obtain ⟨r2, h3, h⟩ := h
    cases r2 with
    | true =>
      replace h := iteT h
      obtain rfl := Option.some.inj h
      exact runB_arr mixed [(11, .bit true), (17, .el (TRow.D x1)), (20, .ret (.d (D.b true)))] [] [.live [0, 3, 5], .keep [3]] (And.intro h1 (And.intro (elem_map TRow.D h2) (And.intro (ref05_Less_ok w3.bind x1.bind true h3) (True.intro)))) (by kernel_rfl)
    | false =>
      replace h := iteF h
      obtain rfl := Option.some.inj h
      exact runB_arr mixed [(11, .bit true), (17, .el (TRow.D x1)), (20, .ret (.d (D.b false)))] [] [.live [0, 3, 5], .keep [3]] (And.intro h1 (And.intro (elem_map TRow.D h2) (And.intro (ref05_Less_ok w3.bind x1.bind false h3) (True.intro)))) (by kernel_rfl)
  · skip
    obtain rfl := Option.some.inj h
    exact runB_arr mixed [(11, .bit false)] [] [.live [0, 3, 5], .keep [3]] (And.intro h1 (True.intro)) (by kernel_rfl)
theorem ref24_Insert_l1_ok (rd : Option Nat) (s0 : List TRow) (w3 : TRow) (s5 : Int) (t : Int) (h : ref24_Insert_l1 s0 w3 s5 = some t) : LpOf Try.prog rd (fbody Try.prog 22) [0, 0, 1, 1] (ref24_Insert_l1_I s0 w3 s5) ((ref24_Insert_l1_O s0 w3) t).1 ((ref24_Insert_l1_O s0 w3) t).2 :=
  loopE_lpR (fun s : Int => ref24_Insert_l1_I s0 w3 s) (ref24_Insert_l1_O s0 w3) (by kernel_rfl) (fun t => isN_ne (by rfl)) (fun s o h => ref24_Insert_l1_rnd rd s0 w3 s o h) (s := s5) (t := t) h
theorem ref24_Insert_ok (a0 : List TRow) (a1 : TRow) (r : List TRow) (h : ref24_Insert a0 a1 = some r) : ACall Try.prog 22 [.d ((D.l TRow.D) a0), .d (TRow.D a1)] [] (.d ((D.l TRow.D) r)) [] := by
  unfold ref24_Insert at h
  replace h := bndE_some h
  obtain ⟨o3, h5, h⟩ := h
  replace h := chkE_some h
  obtain ⟨h6, h⟩ := h
  replace h := chkE_some h
  obtain ⟨h7, h⟩ := h
  replace h := chkE_some h
  obtain ⟨h8, h⟩ := h
  replace h := chkE_some h
  obtain ⟨h9, h⟩ := h
  replace h := chkE_some h
  obtain ⟨h10, h⟩ := h
  obtain rfl := Option.some.inj h
  exact runF_call mixed [(8, .int (a0.length : Int)), (27, .sl ((sub a0 0 o3).map TRow.D)), (28, .sl ((([] : List TRow) ++ (sub a0 0 o3)).map TRow.D)), (32, .sl (((([] : List TRow) ++ (sub a0 0 o3)) ++ [a1]).map TRow.D)), (36, .sl ((sub a0 o3 (a0.length : Int)).map TRow.D)), (37, .sl ((((([] : List TRow) ++ (sub a0 0 o3)) ++ [a1]) ++ (sub a0 o3 (a0.length : Int))).map TRow.D))] [⟨[0, 0, 1, 1], [.live [0, 3, 5], .keep [3]], .exit 0, (ref24_Insert_l1_O a0 a1 o3).2⟩] [] (And.intro (len_map TRow.D a0) (And.intro (ref24_Insert_l1_ok none a0 a1 (a0.length : Int) o3 h5) (And.intro (nc_ok TRow.D ([] : List TRow)) (And.intro (cut_some TRow.D h6) (And.intro (nc_ok TRow.D (sub a0 0 o3)) (And.intro (fit_map TRow.D h7) (And.intro (app_map TRow.D ([] : List TRow) (sub a0 0 o3)) (And.intro (nc_ok TRow.D [a1]) (And.intro (nc_ok TRow.D [a1]) (And.intro (fit_map TRow.D h8) (And.intro (app_map TRow.D (([] : List TRow) ++ (sub a0 0 o3)) [a1]) (And.intro (cut_none TRow.D h9) (And.intro (nc_ok TRow.D (sub a0 o3 (a0.length : Int))) (And.intro (fit_map TRow.D h10) (And.intro (app_map TRow.D ((([] : List TRow) ++ (sub a0 0 o3)) ++ [a1]) (sub a0 o3 (a0.length : Int))) (True.intro)))))))))))))))) (by kernel_rfl)
def law27_rows_l6_I (s0 : List Tproctorlaw27_Seed) (s3 : List TRow) (s4 : Int) (s5 : Int) : St := ⟨sp 81 0 [(0, .d ((D.l Tproctorlaw27_Seed.D) s0)), (3, .d ((D.l TRow.D) s3)), (4, .d ((D.i .i64) s4)), (5, .d ((D.i .i64) s5))], [], []⟩
def law27_rows_l6_O (s0 : List Tproctorlaw27_Seed) (s3 : List TRow) (s4 : Int) (o : Unit ⊕ Unit) : Ex × St := match o with
  | .inl o => (.exit 2, ⟨sp 81 0 [(0, .d ((D.l Tproctorlaw27_Seed.D) s0)), (3, .d ((D.l TRow.D) s3)), (4, .d ((D.i .i64) s4))], [], []⟩)
  | .inr o => (.ret, ⟨sp 81 0 [(2, .nil)], [], []⟩)
theorem law27_rows_l6_rnd (rd : Option Nat) (s0 : List Tproctorlaw27_Seed) (s3 : List TRow) (s4 : Int) (s5 : Int) (o : (Int) ⊕ (Unit ⊕ Unit)) (h : law27_rows_l6_s s0 s3 s4 s5 = some o) : Arr Try.prog rd (fbody Try.prog 5) (0 :: [0, 1, 0, 1, 0, 0, 1, 0, 0, 1, 0, 1, 1]) (law27_rows_l6_I s0 s3 s4 s5) (rR (fun s : Int => law27_rows_l6_I s0 s3 s4 s) (law27_rows_l6_O s0 s3 s4) o).1 (rR (fun s : Int => law27_rows_l6_I s0 s3 s4 s) (law27_rows_l6_O s0 s3 s4) o).2 := by
  unfold law27_rows_l6_s at h
  replace h := idxE_some h
  obtain ⟨x23, h31, h⟩ := h
  replace h := iteE_some h
  rcases h with ⟨h32, h⟩ | ⟨h32, h⟩
  · skip
    replace h := idxE_some h
    obtain ⟨x24, h33, h⟩ := h
    replace h := idxE_some h
    obtain ⟨x25, h34, h⟩ := h
    replace h := iteE_some h
    rcases h with ⟨h35, h⟩ | ⟨h35, h⟩
    · skip
      obtain rfl := Option.some.inj h
      exact runB_arr mixed [(35, .el (Tproctorlaw27_Seed.D x23)), (38, .int (x23.bind.length : Int)), (39, .bit true), (44, .el (Tproctorlaw27_Seed.D x24)), (48, .el (TSlot.D x25)), (52, .int (x25.value.str.length : Int)), (53, .bit true)] [] [.live [2], .keep []] (And.intro (elem_map Tproctorlaw27_Seed.D h31) (And.intro (len_map TSlot.D x23.bind) (And.intro h32 (And.intro (elem_map Tproctorlaw27_Seed.D h33) (And.intro (elem_map TSlot.D h34) (And.intro (len_str x25.value.str) (And.intro h35 (True.intro)))))))) (by kernel_rfl)
    · skip
      obtain rfl := Option.some.inj h
      exact runB_arr mixed [(35, .el (Tproctorlaw27_Seed.D x23)), (38, .int (x23.bind.length : Int)), (39, .bit true), (44, .el (Tproctorlaw27_Seed.D x24)), (48, .el (TSlot.D x25)), (52, .int (x25.value.str.length : Int)), (53, .bit false)] [] [.live [0, 3, 4, 5], .keep []] (And.intro (elem_map Tproctorlaw27_Seed.D h31) (And.intro (len_map TSlot.D x23.bind) (And.intro h32 (And.intro (elem_map Tproctorlaw27_Seed.D h33) (And.intro (elem_map TSlot.D h34) (And.intro (len_str x25.value.str) (And.intro h35 (True.intro)))))))) (by kernel_rfl)
  · skip
    obtain rfl := Option.some.inj h
    exact runB_arr mixed [(35, .el (Tproctorlaw27_Seed.D x23)), (38, .int (x23.bind.length : Int)), (39, .bit false)] [] [.live [0, 3, 4], .keep []] (And.intro (elem_map Tproctorlaw27_Seed.D h31) (And.intro (len_map TSlot.D x23.bind) (And.intro h32 (True.intro)))) (by kernel_rfl)
theorem law27_rows_l6_ok (rd : Option Nat) (s0 : List Tproctorlaw27_Seed) (s3 : List TRow) (s4 : Int) (s5 : Int) (t : Unit ⊕ Unit) (h : law27_rows_l6 s0 s3 s4 s5 = some t) : LpOf Try.prog rd (fbody Try.prog 5) [0, 1, 0, 1, 0, 0, 1, 0, 0, 1, 0, 1, 1] (law27_rows_l6_I s0 s3 s4 s5) ((law27_rows_l6_O s0 s3 s4) t).1 ((law27_rows_l6_O s0 s3 s4) t).2 :=
  loopE_lpR (fun s : Int => law27_rows_l6_I s0 s3 s4 s) (law27_rows_l6_O s0 s3 s4) (by kernel_rfl) (fun t => isN_ne (by rcases t with (_ | _) <;> rfl)) (fun s o h => law27_rows_l6_rnd rd s0 s3 s4 s o h) (s := s5) (t := t) h
def law27_rows_b7_I (s0 : List Tproctorlaw27_Seed) (s3 : List TRow) (s4 : Int) (s62 : Bool) : St := ⟨sp 81 0 [(0, .d ((D.l Tproctorlaw27_Seed.D) s0)), (3, .d ((D.l TRow.D) s3)), (4, .d ((D.i .i64) s4)), (62, .d (D.b s62))], [], []⟩
def law27_rows_b7_O (s0 : List Tproctorlaw27_Seed) (s3 : List TRow) (s4 : Int) (s62 : Bool) (o : (List TRow)) : Ex × St := (.normal, ⟨sp 81 0 [(0, .d ((D.l Tproctorlaw27_Seed.D) s0)), (3, .d ((D.l TRow.D) o)), (4, .d ((D.i .i64) s4))], [], []⟩)
theorem law27_rows_b7_ok (rd : Option Nat) (s0 : List Tproctorlaw27_Seed) (s3 : List TRow) (s4 : Int) (s62 : Bool) (o : (List TRow)) (h : law27_rows_b7 s0 s3 s4 s62 = some o) : LpOf Try.prog rd (fbody Try.prog 5) [1, 1, 1, 0, 0, 1, 0, 0, 1, 0, 1, 1] (law27_rows_b7_I s0 s3 s4 s62) (law27_rows_b7_O s0 s3 s4 s62 o).1 (law27_rows_b7_O s0 s3 s4 s62 o).2 := by
  unfold law27_rows_b7 at h
  cases s62 with
  | true =>
    replace h := iteT h
    replace h := idxE_some h
    obtain ⟨x32, h41, h⟩ := h
    replace h := idxE_some h
    obtain ⟨x33, h42, h⟩ := h
    replace h := chkE_some h
    obtain ⟨h43, h⟩ := h
    replace h := bndE_some h
    obtain ⟨r34, h44, h⟩ := h
    obtain rfl := Option.some.inj h
    exact (runB_arr mixed [(66, .el (Tproctorlaw27_Seed.D x32)), (71, .el (Tproctorlaw27_Seed.D x33)), (74, .int (u8i (intVal .rem .u8 (x33.state.toNat : Int) ((3 : UInt8).toNat : Int))).toNat), (75, .int (u8i (intVal .rem .u8 (x33.state.toNat : Int) ((3 : UInt8).toNat : Int))).toNat), (79, .cx [] [] (.d ((D.l TRow.D) r34)) [])] [] [.live [0, 3, 4], .keep []] (And.intro (elem_map Tproctorlaw27_Seed.D h41) (And.intro (elem_map Tproctorlaw27_Seed.D h42) (And.intro h43 (And.intro (u8i_rem x33.state ((3 : UInt8).toNat : Int)) (And.intro (wrap_u8_i64 (u8i (intVal .rem .u8 (x33.state.toNat : Int) ((3 : UInt8).toNat : Int)))) (And.intro (nc_ok TConfig.D ([TConfig.mk ((u8i (intVal .rem .u8 (x33.state.toNat : Int) ((3 : UInt8).toNat : Int))).toNat : Int) ([] : List TValue)])) (And.intro (ref24_Insert_ok s3 (TRow.mk x32.bind ([TConfig.mk ((u8i (intVal .rem .u8 (x33.state.toNat : Int) ((3 : UInt8).toNat : Int))).toNat : Int) ([] : List TValue)])) r34 h44) (True.intro)))))))) (by kernel_rfl)).lp
  | false =>
    replace h := iteF h
    obtain rfl := Option.some.inj h
    exact (runB_arr mixed [] [] [.live [0, 3, 4], .keep []] (True.intro) (by kernel_rfl)).lp
def law27_rows_b5_I (s0 : List Tproctorlaw27_Seed) (s3 : List TRow) (s4 : Int) : St := ⟨sp 81 0 [(0, .d ((D.l Tproctorlaw27_Seed.D) s0)), (3, .d ((D.l TRow.D) s3)), (4, .d ((D.i .i64) s4))], [], []⟩
def law27_rows_b5_O (s0 : List Tproctorlaw27_Seed) (s3 : List TRow) (s4 : Int) (o : (List TRow) ⊕ Unit) : Ex × St := match o with
  | .inl o => (.normal, ⟨sp 81 0 [(0, .d ((D.l Tproctorlaw27_Seed.D) s0)), (3, .d ((D.l TRow.D) o)), (4, .d ((D.i .i64) s4))], [], []⟩)
  | .inr o => (.ret, ⟨sp 81 0 [(2, .nil)], [], []⟩)
theorem law27_rows_b5_ok (rd : Option Nat) (s0 : List Tproctorlaw27_Seed) (s3 : List TRow) (s4 : Int) (o : (List TRow) ⊕ Unit) (h : law27_rows_b5 s0 s3 s4 = some o) : LpOf Try.prog rd (fbody Try.prog 5) [0, 1, 0, 0, 1, 0, 1, 1] (law27_rows_b5_I s0 s3 s4) (law27_rows_b5_O s0 s3 s4 o).1 (law27_rows_b5_O s0 s3 s4 o).2 := by
  unfold law27_rows_b5 at h
  replace h := idxE_some h
  obtain ⟨x20, h26, h⟩ := h
  replace h := iteE_some h
  rcases h with ⟨h27, h⟩ | ⟨h27, h⟩
  · skip
    obtain rfl := Option.some.inj h
    exact (runB_arr mixed [(18, .el (Tproctorlaw27_Seed.D x20)), (21, .int (x20.bind.length : Int)), (23, .bit true)] [] [.live [2], .keep []] (And.intro (elem_map Tproctorlaw27_Seed.D h26) (And.intro (len_map TSlot.D x20.bind) (And.intro h27 (True.intro)))) (by kernel_rfl)).lp
  · skip
    replace h := idxE_some h
    obtain ⟨x21, h28, h⟩ := h
    replace h := bndE_some h
    obtain ⟨r22, h29, h⟩ := h
    replace h := iteE_some h
    rcases h with ⟨h30, h⟩ | ⟨h30, h⟩
    · skip
      obtain rfl := Option.some.inj h
      exact (runB_arr mixed [(18, .el (Tproctorlaw27_Seed.D x20)), (21, .int (x20.bind.length : Int)), (23, .bit false), (26, .el (Tproctorlaw27_Seed.D x21)), (29, .ret (.d (D.b r22))), (31, .bit true)] [] [.live [2], .keep []] (And.intro (elem_map Tproctorlaw27_Seed.D h26) (And.intro (len_map TSlot.D x20.bind) (And.intro h27 (And.intro (elem_map Tproctorlaw27_Seed.D h28) (And.intro (ref05_Right_ok x21.bind r22 h29) (And.intro h30 (True.intro))))))) (by kernel_rfl)).lp
    · skip
      replace h := bndE_some h
      obtain ⟨o26, h36, h⟩ := h
      replace h := sumE_some h
      rcases h with ⟨o27, rfl, h⟩ | ⟨o28, rfl, h⟩
      · skip
        replace h := bndE_some h
        obtain ⟨r29, h37, h⟩ := h
        replace h := idxE_some h
        obtain ⟨x30, h38, h⟩ := h
        replace h := bndE_some h
        obtain ⟨r31, h39, h⟩ := h
        replace h := bndE_some h
        obtain ⟨o35, h45, h⟩ := h
        obtain rfl := Option.some.inj h
        exact (runB_arr mixed [(18, .el (Tproctorlaw27_Seed.D x20)), (21, .int (x20.bind.length : Int)), (23, .bit false), (26, .el (Tproctorlaw27_Seed.D x21)), (29, .ret (.d (D.b r22))), (31, .bit false), (55, .ret (.d ((D.l (D.l TSlot.D)) r29))), (58, .el (Tproctorlaw27_Seed.D x30)), (61, .ret (.d (D.b r31)))] [⟨[0, 1, 0, 1, 0, 0, 1, 0, 0, 1, 0, 1, 1], [.live [0, 3, 4, 5], .keep []], .exit 2, (law27_rows_l6_O s0 s3 s4 (Sum.inl o27)).2⟩, ⟨[1, 1, 1, 0, 0, 1, 0, 0, 1, 0, 1, 1], [.live [0, 3, 4, 62], .keep []], .normal, (law27_rows_b7_O s0 s3 s4 (!r31) o35).2⟩] [.live [0, 3, 4], .keep []] (And.intro (elem_map Tproctorlaw27_Seed.D h26) (And.intro (len_map TSlot.D x20.bind) (And.intro h27 (And.intro (elem_map Tproctorlaw27_Seed.D h28) (And.intro (ref05_Right_ok x21.bind r22 h29) (And.intro h30 (And.intro (law27_rows_l6_ok rd s0 s3 s4 0 (Sum.inl o27) h36) (And.intro (ref26_Binds_ok s3 r29 h37) (And.intro (elem_map Tproctorlaw27_Seed.D h38) (And.intro (ref05_Has_ok r29 x30.bind r31 h39) (And.intro (law27_rows_b7_ok rd s0 s3 s4 (!r31) o35 h45) (True.intro)))))))))))) (by kernel_rfl)).lp
      · skip
        obtain rfl := Option.some.inj h
        exact (runB_arr mixed [(18, .el (Tproctorlaw27_Seed.D x20)), (21, .int (x20.bind.length : Int)), (23, .bit false), (26, .el (Tproctorlaw27_Seed.D x21)), (29, .ret (.d (D.b r22))), (31, .bit false)] [⟨[0, 1, 0, 1, 0, 0, 1, 0, 0, 1, 0, 1, 1], [.live [0, 3, 4, 5], .keep []], .ret, (law27_rows_l6_O s0 s3 s4 (Sum.inr o28)).2⟩] [.live [2], .keep []] (And.intro (elem_map Tproctorlaw27_Seed.D h26) (And.intro (len_map TSlot.D x20.bind) (And.intro h27 (And.intro (elem_map Tproctorlaw27_Seed.D h28) (And.intro (ref05_Right_ok x21.bind r22 h29) (And.intro h30 (And.intro (law27_rows_l6_ok rd s0 s3 s4 0 (Sum.inr o28) h36) (True.intro)))))))) (by kernel_rfl)).lp
def law27_rows_l1_I (s0 : List Tproctorlaw27_Seed) (s3 : List TRow) (s4 : Int) : St := ⟨sp 81 0 [(0, .d ((D.l Tproctorlaw27_Seed.D) s0)), (3, .d ((D.l TRow.D) s3)), (4, .d ((D.i .i64) s4))], [], []⟩
def law27_rows_l1_O (s0 : List Tproctorlaw27_Seed) (o : (List TRow) ⊕ Unit) : Ex × St := match o with
  | .inl o => (.exit 0, ⟨sp 81 0 [(3, .d ((D.l TRow.D) o))], [], []⟩)
  | .inr o => (.ret, ⟨sp 81 0 [(2, .nil)], [], []⟩)
theorem law27_rows_l1_rnd (rd : Option Nat) (s0 : List Tproctorlaw27_Seed) (s3 : List TRow) (s4 : Int) (o : (List TRow × Int) ⊕ ((List TRow) ⊕ Unit)) (h : law27_rows_l1_s s0 s3 s4 = some o) : Arr Try.prog rd (fbody Try.prog 5) (0 :: [0, 1, 0, 1, 1]) (law27_rows_l1_I s0 s3 s4) (rR (fun s : List TRow × Int => law27_rows_l1_I s0 s.1 s.2) (law27_rows_l1_O s0) o).1 (rR (fun s : List TRow × Int => law27_rows_l1_I s0 s.1 s.2) (law27_rows_l1_O s0) o).2 := by
  unfold law27_rows_l1_s at h
  replace h := iteE_some h
  rcases h with ⟨h24, h⟩ | ⟨h24, h⟩
  · skip
    replace h := iteE_some h
    rcases h with ⟨h25, h⟩ | ⟨h25, h⟩
    · skip
      replace h := bndE_some h
      obtain ⟨o36, h46, h⟩ := h
      replace h := sumE_some h
      rcases h with ⟨o37, rfl, h⟩ | ⟨o38, rfl, h⟩
      · skip
        obtain rfl := Option.some.inj h
        exact runB_arr mixed [(8, .int (s0.length : Int)), (10, .bit true), (13, .bit true)] [⟨[0, 1, 0, 0, 1, 0, 1, 1], [.live [0, 3, 4], .keep []], .normal, (law27_rows_b5_O s0 s3 s4 (Sum.inl o37)).2⟩] [.live [0, 3, 4], .keep []] (And.intro (len_map Tproctorlaw27_Seed.D s0) (And.intro h24 (And.intro h25 (And.intro (law27_rows_b5_ok rd s0 s3 s4 (Sum.inl o37) h46) (True.intro))))) (by kernel_rfl)
      · skip
        obtain rfl := Option.some.inj h
        exact runB_arr mixed [(8, .int (s0.length : Int)), (10, .bit true), (13, .bit true)] [⟨[0, 1, 0, 0, 1, 0, 1, 1], [.live [0, 3, 4], .keep []], .ret, (law27_rows_b5_O s0 s3 s4 (Sum.inr o38)).2⟩] [.live [2], .keep []] (And.intro (len_map Tproctorlaw27_Seed.D s0) (And.intro h24 (And.intro h25 (And.intro (law27_rows_b5_ok rd s0 s3 s4 (Sum.inr o38) h46) (True.intro))))) (by kernel_rfl)
    · skip
      obtain rfl := Option.some.inj h
      exact runB_arr mixed [(8, .int (s0.length : Int)), (10, .bit true), (13, .bit false)] [] [.live [3], .keep []] (And.intro (len_map Tproctorlaw27_Seed.D s0) (And.intro h24 (And.intro h25 (True.intro)))) (by kernel_rfl)
  · skip
    obtain rfl := Option.some.inj h
    exact runB_arr mixed [(8, .int (s0.length : Int)), (10, .bit false)] [] [.live [3], .keep []] (And.intro (len_map Tproctorlaw27_Seed.D s0) (And.intro h24 (True.intro))) (by kernel_rfl)
theorem law27_rows_l1_ok (rd : Option Nat) (s0 : List Tproctorlaw27_Seed) (s3 : List TRow) (s4 : Int) (t : (List TRow) ⊕ Unit) (h : law27_rows_l1 s0 s3 s4 = some t) : LpOf Try.prog rd (fbody Try.prog 5) [0, 1, 0, 1, 1] (law27_rows_l1_I s0 s3 s4) ((law27_rows_l1_O s0) t).1 ((law27_rows_l1_O s0) t).2 :=
  loopE_lpR (fun s : List TRow × Int => law27_rows_l1_I s0 s.1 s.2) (law27_rows_l1_O s0) (by kernel_rfl) (fun t => isN_ne (by rcases t with (_ | _) <;> rfl)) (fun s o h => law27_rows_l1_rnd rd s0 s.1 s.2 o h) (s := (s3, s4)) (t := t) h
theorem law27_rows_ok (a0 : List Tproctorlaw27_Seed) (r : List TRow) (h : law27_rows a0 = some r) : ACall Try.prog 5 [.d ((D.l Tproctorlaw27_Seed.D) a0)] [] (.d ((D.l TRow.D) r)) [] := by
  unfold law27_rows at h
  replace h := bndE_some h
  obtain ⟨o39, h47, h⟩ := h
  replace h := sumE_some h
  rcases h with ⟨o40, rfl, h⟩ | ⟨o41, rfl, h⟩
  · skip
    obtain rfl := Option.some.inj h
    exact runF_call mixed [] [⟨[0, 1, 0, 1, 1], [.look 3, .live [0, 3, 4], .keep []], .exit 0, (law27_rows_l1_O a0 (Sum.inl o40)).2⟩] [] (And.intro (law27_rows_l1_ok none a0 ([] : List TRow) 0 (Sum.inl o40) h47) (True.intro)) (by kernel_rfl)
  · skip
    obtain rfl := Option.some.inj h
    exact runF_call mixed [] [⟨[0, 1, 0, 1, 1], [.look 3, .live [0, 3, 4], .keep []], .ret, (law27_rows_l1_O a0 (Sum.inr o41)).2⟩] [] (And.intro (law27_rows_l1_ok none a0 ([] : List TRow) 0 (Sum.inr o41) h47) (True.intro)) (by kernel_rfl)
theorem slices_Clone_Row_Row_ok (l r : List TRow) (h : slices_Clone_Row_Row l = some r) : ACall Try.prog 24 [.d (D.l TRow.D l)] [] (.row 0) [(0, .rw 35 2 (r.map TRow.D))] :=
  cloneE_own (ρ := ⟨fun _ => 24, fun n => if n = 4 then 4 else if n = 22 then 23 else 35, id⟩) (by_ := 48) TRow.D rfl rfl (cloneL mixed ⟨ "slices.Clone[[]proctor/api.Row,proctor/api.Row]", by decide, (Try.func24).trans (by kernel_rfl)⟩ Try.underlying4 Try.underlying23 (by kernel_rfl) (by kernel_rfl) (by kernel_rfl) (by kernel_rfl)) (by kernel_rfl) (by decide) l r h
def slices_Equal_Slot_Slot_l1_I (s0 : List TSlot) (s1 : List TSlot) (s12 : Int) (s13 : Int) : St := ⟨sp 26 0 [(0, .d ((D.l TSlot.D) s0)), (1, .d ((D.l TSlot.D) s1)), (12, .d ((D.i .i64) s12)), (13, .d ((D.i .i64) s13))], [], []⟩
def slices_Equal_Slot_Slot_l1_O (s0 : List TSlot) (s1 : List TSlot) (s12 : Int) (o : Unit ⊕ Unit) : Ex × St := match o with
  | .inl o => (.exit 0, ⟨sp 26 0 [], [], []⟩)
  | .inr o => (.ret, ⟨sp 26 0 [(4, .d (D.b false))], [], []⟩)
theorem slices_Equal_Slot_Slot_l1_rnd (rd : Option Nat) (s0 : List TSlot) (s1 : List TSlot) (s12 : Int) (s13 : Int) (o : (Int) ⊕ (Unit ⊕ Unit)) (h : slices_Equal_Slot_Slot_l1_s s0 s1 s12 s13 = some o) : Arr Try.prog rd (fbody Try.prog 43) (0 :: [0, 1, 0, 1, 1]) (slices_Equal_Slot_Slot_l1_I s0 s1 s12 s13) (rR (fun s : Int => slices_Equal_Slot_Slot_l1_I s0 s1 s12 s) (slices_Equal_Slot_Slot_l1_O s0 s1 s12) o).1 (rR (fun s : Int => slices_Equal_Slot_Slot_l1_I s0 s1 s12 s) (slices_Equal_Slot_Slot_l1_O s0 s1 s12) o).2 := by
  unfold slices_Equal_Slot_Slot_l1_s at h
  replace h := iteE_some h
  rcases h with ⟨h2, h⟩ | ⟨h2, h⟩
  · skip
    replace h := idxE_some h
    obtain ⟨x1, h3, h⟩ := h
    replace h := idxE_some h
    obtain ⟨x2, h4, h⟩ := h
    replace h := iteE_some h
    rcases h with ⟨h5, h⟩ | ⟨h5, h⟩
    · skip
      obtain rfl := Option.some.inj h
      exact runB_arr mixed [(14, .bit true), (18, .el (TSlot.D x1)), (22, .el (TSlot.D x2)), (24, .bit true)] [] [.live [4], .keep []] (And.intro h2 (And.intro (elem_map TSlot.D h3) (And.intro (elem_map TSlot.D h4) (And.intro h5 (True.intro))))) (by kernel_rfl)
    · skip
      obtain rfl := Option.some.inj h
      exact runB_arr mixed [(14, .bit true), (18, .el (TSlot.D x1)), (22, .el (TSlot.D x2)), (24, .bit false)] [] [.live [0, 1, 12, 13], .keep []] (And.intro h2 (And.intro (elem_map TSlot.D h3) (And.intro (elem_map TSlot.D h4) (And.intro h5 (True.intro))))) (by kernel_rfl)
  · skip
    obtain rfl := Option.some.inj h
    exact runB_arr mixed [(14, .bit false)] [] [.live [], .keep []] (And.intro h2 (True.intro)) (by kernel_rfl)
theorem slices_Equal_Slot_Slot_l1_ok (rd : Option Nat) (s0 : List TSlot) (s1 : List TSlot) (s12 : Int) (s13 : Int) (t : Unit ⊕ Unit) (h : slices_Equal_Slot_Slot_l1 s0 s1 s12 s13 = some t) : LpOf Try.prog rd (fbody Try.prog 43) [0, 1, 0, 1, 1] (slices_Equal_Slot_Slot_l1_I s0 s1 s12 s13) ((slices_Equal_Slot_Slot_l1_O s0 s1 s12) t).1 ((slices_Equal_Slot_Slot_l1_O s0 s1 s12) t).2 :=
  loopE_lpR (fun s : Int => slices_Equal_Slot_Slot_l1_I s0 s1 s12 s) (slices_Equal_Slot_Slot_l1_O s0 s1 s12) (by kernel_rfl) (fun t => isN_ne (by rcases t with (_ | _) <;> rfl)) (fun s o h => slices_Equal_Slot_Slot_l1_rnd rd s0 s1 s12 s o h) (s := s13) (t := t) h
theorem slices_Equal_Slot_Slot_ok (a0 : List TSlot) (a1 : List TSlot) (r : Bool) (h : slices_Equal_Slot_Slot a0 a1 = some r) : ACall Try.prog 43 [.d ((D.l TSlot.D) a0), .d ((D.l TSlot.D) a1)] [] (.d (D.b r)) [] := by
  unfold slices_Equal_Slot_Slot at h
  replace h := iteE_some h
  rcases h with ⟨h1, h⟩ | ⟨h1, h⟩
  · skip
    obtain rfl := Option.some.inj h
    exact runF_call mixed [(7, .int (a0.length : Int)), (9, .int (a1.length : Int)), (10, .bit true)] [] [] (And.intro (len_map TSlot.D a0) (And.intro (len_map TSlot.D a1) (And.intro h1 (True.intro)))) (by kernel_rfl)
  · skip
    replace h := bndE_some h
    obtain ⟨o3, h6, h⟩ := h
    replace h := sumE_some h
    rcases h with ⟨o4, rfl, h⟩ | ⟨o5, rfl, h⟩
    · skip
      obtain rfl := Option.some.inj h
      exact runF_call mixed [(7, .int (a0.length : Int)), (9, .int (a1.length : Int)), (10, .bit false), (12, .int (a0.length : Int))] [⟨[0, 1, 0, 1, 1], [.live [0, 1, 12, 13], .keep []], .exit 0, (slices_Equal_Slot_Slot_l1_O a0 a1 (a0.length : Int) (Sum.inl o4)).2⟩] [] (And.intro (len_map TSlot.D a0) (And.intro (len_map TSlot.D a1) (And.intro h1 (And.intro (len_map TSlot.D a0) (And.intro (slices_Equal_Slot_Slot_l1_ok none a0 a1 (a0.length : Int) 0 (Sum.inl o4) h6) (True.intro)))))) (by kernel_rfl)
    · skip
      obtain rfl := Option.some.inj h
      exact runF_call mixed [(7, .int (a0.length : Int)), (9, .int (a1.length : Int)), (10, .bit false), (12, .int (a0.length : Int))] [⟨[0, 1, 0, 1, 1], [.live [0, 1, 12, 13], .keep []], .ret, (slices_Equal_Slot_Slot_l1_O a0 a1 (a0.length : Int) (Sum.inr o5)).2⟩] [] (And.intro (len_map TSlot.D a0) (And.intro (len_map TSlot.D a1) (And.intro h1 (And.intro (len_map TSlot.D a0) (And.intro (slices_Equal_Slot_Slot_l1_ok none a0 a1 (a0.length : Int) 0 (Sum.inr o5) h6) (True.intro)))))) (by kernel_rfl)
theorem binding_Same_ok (a0 : List TSlot) (a1 : List TSlot) (r : Bool) (h : binding_Same a0 a1 = some r) : ACall Try.prog 31 [.d ((D.l TSlot.D) a0), .d ((D.l TSlot.D) a1)] [] (.d (D.b r)) [] := by
  unfold binding_Same at h
  replace h := bndE_some h
  obtain ⟨r1, h1, h⟩ := h
  obtain rfl := Option.some.inj h
  exact runF_call mixed [(7, .ret (.d (D.b r1)))] [] [] (And.intro (slices_Equal_Slot_Slot_ok a0 a1 r1 h1) (True.intro)) (by kernel_rfl)
theorem prune_Below_1_ok (a0 : TRow) (a1 : List TSlot) (r : Bool) (h : prune_Below_1 a0 a1 = some r) : ACall Try.prog 30 [.d (TRow.D a0), .eptr (D.cells ((D.l TSlot.D) a1))] [] (.d (D.b r)) [] := by
  unfold prune_Below_1 at h
  replace h := bndE_some h
  obtain ⟨r1, h1, h⟩ := h
  obtain rfl := Option.some.inj h
  exact runF_call mixed [(7, .ret (.d (D.b r1)))] [] [] (And.intro (binding_Same_ok a0.bind a1 r1 h1) (True.intro)) (by kernel_rfl)
def prune_keep_Row_b5_I (s1 : List TSlot) (s8 : List TRow) (s9 : Int) (s10 : Int) (s16 : Bool) (w5 : List TRow) (w7 : TRow) : St := ⟨sp 23 0 [(1, .clo (.func 30) [] [.eptr (D.cells ((D.l TSlot.D) s1))]), (5, .row 5), (7, .box 7 0), (8, .d ((D.l TRow.D) s8)), (9, .d ((D.i .i64) s9)), (10, .d ((D.i .i64) s10)), (16, .d (D.b s16))], [(5, .row 35 2 (w5.map TRow.D)), (7, .cells ((cellsA (TRow.D w7))))], []⟩
def prune_keep_Row_b5_O (s1 : List TSlot) (s8 : List TRow) (s9 : Int) (s10 : Int) (s16 : Bool) (w5 : List TRow) (w7 : TRow) (o : (List TRow)) : Ex × St := (.normal, ⟨sp 23 0 [(1, .clo (.func 30) [] [.eptr (D.cells ((D.l TSlot.D) s1))]), (5, .row 5), (8, .d ((D.l TRow.D) s8)), (9, .d ((D.i .i64) s9)), (10, .d ((D.i .i64) s10))], [(5, .row 35 2 (o.map TRow.D))], []⟩)
theorem prune_keep_Row_b5_ok (rd : Option Nat) (s1 : List TSlot) (s8 : List TRow) (s9 : Int) (s10 : Int) (s16 : Bool) (w5 : List TRow) (w7 : TRow) (o : (List TRow)) (h : prune_keep_Row_b5 s1 s8 s9 s10 s16 w5 w7 = some o) : LpOf Try.prog rd (fbody Try.prog 29) [1, 1, 0, 0, 1, 1, 0, 0, 1, 0, 1, 1] (prune_keep_Row_b5_I s1 s8 s9 s10 s16 w5 w7) (prune_keep_Row_b5_O s1 s8 s9 s10 s16 w5 w7 o).1 (prune_keep_Row_b5_O s1 s8 s9 s10 s16 w5 w7 o).2 := by
  unfold prune_keep_Row_b5 at h
  cases s16 with
  | true =>
    replace h := iteT h
    replace h := chkE_some h
    obtain ⟨h12, h⟩ := h
    obtain rfl := Option.some.inj h
    exact (runB_arr mixed [(20, .sl ((w5 ++ [w7]).map TRow.D))] [] [.live [1, 5, 8, 9, 10], .keep [20], .ren 20 5, .sort] (And.intro (nc_ok TRow.D [w7]) (And.intro (nc_ok TRow.D [w7]) (And.intro (fit_map TRow.D h12) (And.intro (app_map TRow.D w5 [w7]) (True.intro))))) (by kernel_rfl)).lp
  | false =>
    replace h := iteF h
    obtain rfl := Option.some.inj h
    exact (runB_arr mixed [] [] [.live [1, 5, 8, 9, 10], .keep [5]] (True.intro) (by kernel_rfl)).lp
def prune_keep_Row_b4_I (s1 : List TSlot) (s8 : List TRow) (s9 : Int) (s10 : Int) (w5 : List TRow) : St := ⟨sp 23 0 [(1, .clo (.func 30) [] [.eptr (D.cells ((D.l TSlot.D) s1))]), (5, .row 5), (8, .d ((D.l TRow.D) s8)), (9, .d ((D.i .i64) s9)), (10, .d ((D.i .i64) s10))], [(5, .row 35 2 (w5.map TRow.D))], []⟩
def prune_keep_Row_b4_O (s1 : List TSlot) (s8 : List TRow) (s9 : Int) (s10 : Int) (w5 : List TRow) (o : (List TRow)) : Ex × St := (.normal, ⟨sp 23 0 [(1, .clo (.func 30) [] [.eptr (D.cells ((D.l TSlot.D) s1))]), (5, .row 5), (8, .d ((D.l TRow.D) s8)), (9, .d ((D.i .i64) s9)), (10, .d ((D.i .i64) s10))], [(5, .row 35 2 (o.map TRow.D))], []⟩)
theorem prune_keep_Row_b4_ok (rd : Option Nat) (s1 : List TSlot) (s8 : List TRow) (s9 : Int) (s10 : Int) (w5 : List TRow) (o : (List TRow)) (h : prune_keep_Row_b4 s1 s8 s9 s10 w5 = some o) : LpOf Try.prog rd (fbody Try.prog 29) [0, 1, 1, 0, 0, 1, 0, 1, 1] (prune_keep_Row_b4_I s1 s8 s9 s10 w5) (prune_keep_Row_b4_O s1 s8 s9 s10 w5 o).1 (prune_keep_Row_b4_O s1 s8 s9 s10 w5 o).2 := by
  unfold prune_keep_Row_b4 at h
  replace h := idxE_some h
  obtain ⟨x5, h9, h⟩ := h
  replace h := bndE_some h
  obtain ⟨r6, h10, h⟩ := h
  replace h := bndE_some h
  obtain ⟨o7, h13, h⟩ := h
  obtain rfl := Option.some.inj h
  exact (runB_arr mixed [(12, .el (TRow.D x5)), (16, .ret (.d (D.b r6)))] [⟨[1, 1, 0, 0, 1, 1, 0, 0, 1, 0, 1, 1], [.live [1, 5, 7, 8, 9, 10, 16], .keep [5, 7]], .normal, (prune_keep_Row_b5_O s1 s8 s9 s10 r6 w5 x5 o7).2⟩] [.live [1, 5, 8, 9, 10], .keep [5]] (And.intro (elem_map TRow.D h9) (And.intro (prune_Below_1_ok x5 s1 r6 h10) (And.intro (prune_keep_Row_b5_ok rd s1 s8 s9 s10 r6 w5 x5 o7 h13) (True.intro)))) (by kernel_rfl)).lp
def prune_keep_Row_l1_I (s1 : List TSlot) (s8 : List TRow) (s9 : Int) (s10 : Int) (w5 : List TRow) : St := ⟨sp 23 0 [(1, .clo (.func 30) [] [.eptr (D.cells ((D.l TSlot.D) s1))]), (5, .row 5), (8, .d ((D.l TRow.D) s8)), (9, .d ((D.i .i64) s9)), (10, .d ((D.i .i64) s10))], [(5, .row 35 2 (w5.map TRow.D))], []⟩
def prune_keep_Row_l1_O (s1 : List TSlot) (s8 : List TRow) (s9 : Int) (o : (List TRow)) : Ex × St := (.exit 0, ⟨sp 23 0 [(5, .row 5)], [(5, .row 35 2 (o.map TRow.D))], []⟩)
theorem prune_keep_Row_l1_rnd (rd : Option Nat) (s1 : List TSlot) (s8 : List TRow) (s9 : Int) (s10 : Int) (w5 : List TRow) (o : (Int × List TRow) ⊕ ((List TRow))) (h : prune_keep_Row_l1_s s1 s8 s9 s10 w5 = some o) : Arr Try.prog rd (fbody Try.prog 29) (0 :: [0, 1, 0, 1, 1]) (prune_keep_Row_l1_I s1 s8 s9 s10 w5) (rR (fun s : Int × List TRow => prune_keep_Row_l1_I s1 s8 s9 s.1 s.2) (prune_keep_Row_l1_O s1 s8 s9) o).1 (rR (fun s : Int × List TRow => prune_keep_Row_l1_I s1 s8 s9 s.1 s.2) (prune_keep_Row_l1_O s1 s8 s9) o).2 := by
  unfold prune_keep_Row_l1_s at h
  replace h := iteE_some h
  rcases h with ⟨h8, h⟩ | ⟨h8, h⟩
  · skip
    replace h := bndE_some h
    obtain ⟨o8, h14, h⟩ := h
    obtain rfl := Option.some.inj h
    exact runB_arr mixed [(11, .bit true)] [⟨[0, 1, 1, 0, 0, 1, 0, 1, 1], [.live [1, 5, 8, 9, 10], .keep [5]], .normal, (prune_keep_Row_b4_O s1 s8 s9 s10 w5 o8).2⟩] [.live [1, 5, 8, 9, 10], .keep [5]] (And.intro h8 (And.intro (prune_keep_Row_b4_ok rd s1 s8 s9 s10 w5 o8 h14) (True.intro))) (by kernel_rfl)
  · skip
    obtain rfl := Option.some.inj h
    exact runB_arr mixed [(11, .bit false)] [] [.live [5], .keep [5]] (And.intro h8 (True.intro)) (by kernel_rfl)
theorem prune_keep_Row_l1_ok (rd : Option Nat) (s1 : List TSlot) (s8 : List TRow) (s9 : Int) (s10 : Int) (w5 : List TRow) (t : (List TRow)) (h : prune_keep_Row_l1 s1 s8 s9 s10 w5 = some t) : LpOf Try.prog rd (fbody Try.prog 29) [0, 1, 0, 1, 1] (prune_keep_Row_l1_I s1 s8 s9 s10 w5) ((prune_keep_Row_l1_O s1 s8 s9) t).1 ((prune_keep_Row_l1_O s1 s8 s9) t).2 :=
  loopE_lpR (fun s : Int × List TRow => prune_keep_Row_l1_I s1 s8 s9 s.1 s.2) (prune_keep_Row_l1_O s1 s8 s9) (by kernel_rfl) (fun t => isN_ne (by rfl)) (fun s o h => prune_keep_Row_l1_rnd rd s1 s8 s9 s.1 s.2 o h) (s := (s10, w5)) (t := t) h
theorem prune_keep_Row_ok (a0 : List TRow) (a1 : List TSlot) (r : List TRow) (h : prune_keep_Row a0 a1 = some r) : ACall Try.prog 29 [.d ((D.l TRow.D) a0), .clo (.func 30) [] [.eptr (D.cells ((D.l TSlot.D) a1))]] [] (.d ((D.l TRow.D) r)) [] := by
  unfold prune_keep_Row at h
  replace h := bndE_some h
  obtain ⟨o9, h15, h⟩ := h
  obtain rfl := Option.some.inj h
  exact runF_call mixed [(9, .int (a0.length : Int))] [⟨[0, 1, 0, 1, 1], [.live [1, 5, 8, 9, 10], .keep [], .nil 5 5 35 2, .sort], .exit 0, (prune_keep_Row_l1_O a1 a0 (a0.length : Int) o9).2⟩] [] (And.intro (len_map TRow.D a0) (And.intro (prune_keep_Row_l1_ok none a1 a0 (a0.length : Int) 0 ([] : List TRow) o9 h15) (True.intro))) (by kernel_rfl)
theorem binding_both_ok (a0 : List TSlot) (a1 : List TSlot) (r : List TSlot × List TSlot) (h : binding_both a0 a1 = some r) : ACall Try.prog 49 [.d ((D.l TSlot.D) a0), .d ((D.l TSlot.D) a1)] [] (.clo (.func 52) [] [.eptr (D.cells ((D.l TSlot.D) r.1)), .eptr (D.cells ((D.l TSlot.D) r.2))]) [] := by
  unfold binding_both at h
  obtain rfl := Option.some.inj h
  exact runF_call mixed [(2, .frz), (3, .frz)] [] [] (True.intro) (by kernel_rfl)
def binding_Get_l1_I (s1 : Int) (s8 : List TSlot) (s9 : Int) (w4 : TValue) (s10 : Int) : St := ⟨sp 22 0 [(1, .d ((D.i .i64) s1)), (4, .box 4 0), (8, .d ((D.l TSlot.D) s8)), (9, .d ((D.i .i64) s9)), (10, .d ((D.i .i64) s10))], [(4, .cells ((cellsA (TValue.D w4))))], []⟩
def binding_Get_l1_O (s1 : Int) (s8 : List TSlot) (s9 : Int) (w4 : TValue) (o : Unit ⊕ TValue) : Ex × St := match o with
  | .inl o => (.exit 0, ⟨sp 22 0 [(4, .box 4 0)], [(4, .cells ((cellsA (TValue.D w4))))], []⟩)
  | .inr o => (.ret, ⟨sp 22 0 [(4, .box 4 0), (5, .d (D.b true))], [(4, .cells ((cellsA (TValue.D o))))], []⟩)
theorem binding_Get_l1_rnd (rd : Option Nat) (s1 : Int) (s8 : List TSlot) (s9 : Int) (w4 : TValue) (s10 : Int) (o : (Int) ⊕ (Unit ⊕ TValue)) (h : binding_Get_l1_s s1 s8 s9 w4 s10 = some o) : Arr Try.prog rd (fbody Try.prog 53) (0 :: [0, 1, 0, 1]) (binding_Get_l1_I s1 s8 s9 w4 s10) (rR (fun s : Int => binding_Get_l1_I s1 s8 s9 w4 s) (binding_Get_l1_O s1 s8 s9 w4) o).1 (rR (fun s : Int => binding_Get_l1_I s1 s8 s9 w4 s) (binding_Get_l1_O s1 s8 s9 w4) o).2 := by
  unfold binding_Get_l1_s at h
  replace h := iteE_some h
  rcases h with ⟨h1, h⟩ | ⟨h1, h⟩
  · skip
    replace h := idxE_some h
    obtain ⟨x1, h2, h⟩ := h
    replace h := iteE_some h
    rcases h with ⟨h3, h⟩ | ⟨h3, h⟩
    · skip
      obtain rfl := Option.some.inj h
      exact runB_arr mixed [(11, .bit true), (12, .el (TSlot.D x1)), (17, .bit true)] [] [.live [4, 5], .keep [4]] (And.intro h1 (And.intro (elem_map TSlot.D h2) (And.intro h3 (True.intro)))) (by kernel_rfl)
    · skip
      obtain rfl := Option.some.inj h
      exact runB_arr mixed [(11, .bit true), (12, .el (TSlot.D x1)), (17, .bit false)] [] [.live [1, 4, 8, 9, 10], .keep [4]] (And.intro h1 (And.intro (elem_map TSlot.D h2) (And.intro h3 (True.intro)))) (by kernel_rfl)
  · skip
    obtain rfl := Option.some.inj h
    exact runB_arr mixed [(11, .bit false)] [] [.live [4], .keep [4]] (And.intro h1 (True.intro)) (by kernel_rfl)
theorem binding_Get_l1_ok (rd : Option Nat) (s1 : Int) (s8 : List TSlot) (s9 : Int) (w4 : TValue) (s10 : Int) (t : Unit ⊕ TValue) (h : binding_Get_l1 s1 s8 s9 w4 s10 = some t) : LpOf Try.prog rd (fbody Try.prog 53) [0, 1, 0, 1] (binding_Get_l1_I s1 s8 s9 w4 s10) ((binding_Get_l1_O s1 s8 s9 w4) t).1 ((binding_Get_l1_O s1 s8 s9 w4) t).2 :=
  loopE_lpR (fun s : Int => binding_Get_l1_I s1 s8 s9 w4 s) (binding_Get_l1_O s1 s8 s9 w4) (by kernel_rfl) (fun t => isN_ne (by rcases t with (_ | _) <;> rfl)) (fun s o h => binding_Get_l1_rnd rd s1 s8 s9 w4 s o h) (s := s10) (t := t) h
theorem binding_Get_ok (a0 : List TSlot) (a1 : Int) (r : TValue × Bool) (h : binding_Get a0 a1 = some r) : ACall Try.prog 53 [.d ((D.l TSlot.D) a0), .d ((D.i .i64) a1)] [] (.tup [.d (TValue.D r.1), .d (D.b r.2)]) [] := by
  unfold binding_Get at h
  replace h := bndE_some h
  obtain ⟨o2, h4, h⟩ := h
  replace h := sumE_some h
  rcases h with ⟨o3, rfl, h⟩ | ⟨o4, rfl, h⟩
  · skip
    obtain rfl := Option.some.inj h
    exact runF_call mixed [(9, .int (a0.length : Int))] [⟨[0, 1, 0, 1], [.live [1, 4, 8, 9, 10], .keep [4]], .exit 0, (binding_Get_l1_O a1 a0 (a0.length : Int) (TValue.mk 0 0 ([] : List UInt8) false) (Sum.inl o3)).2⟩] [] (And.intro (len_map TSlot.D a0) (And.intro (binding_Get_l1_ok none a1 a0 (a0.length : Int) (TValue.mk 0 0 ([] : List UInt8) false) 0 (Sum.inl o3) h4) (True.intro))) (by kernel_rfl)
  · skip
    obtain rfl := Option.some.inj h
    exact runF_call mixed [(9, .int (a0.length : Int))] [⟨[0, 1, 0, 1], [.live [1, 4, 8, 9, 10], .keep [4]], .ret, (binding_Get_l1_O a1 a0 (a0.length : Int) (TValue.mk 0 0 ([] : List UInt8) false) (Sum.inr o4)).2⟩] [] (And.intro (len_map TSlot.D a0) (And.intro (binding_Get_l1_ok none a1 a0 (a0.length : Int) (TValue.mk 0 0 ([] : List UInt8) false) 0 (Sum.inr o4) h4) (True.intro))) (by kernel_rfl)
def binding_both_1_enc (x : (TSlot × TValue) ⊕ TSlot) : List A := match x with
  | .inl x => [.d (TSlot.D x.1), .eptr (D.cells (TValue.D x.2))]
  | .inr x => [.d (TSlot.D x), .d (.v (.pointer none))]
def binding_both_1_b2_I {φ : Type} (l : Nat) (F : φ → Bx) (f0 : φ) (s2 : List TSlot) (s9 : List TSlot) (s10 : Int) (s11 : Int) : St := ⟨sp 29 0 [(0, .d (.v (.func (.yield l) #[] #[]))), (2, .eptr (D.cells ((D.l TSlot.D) s2))), (9, .d ((D.l TSlot.D) s9)), (10, .d ((D.i .i64) s10)), (11, .d ((D.i .i64) s11))], [], (F f0)⟩
def binding_both_1_b2_O {φ : Type} (l : Nat) (F : φ → Bx) (f0 : φ) (s2 : List TSlot) (s9 : List TSlot) (s10 : Int) (s11 : Int) (o : φ ⊕ φ) : Ex × St := match o with
  | .inl o => (.normal, ⟨sp 29 0 [(0, .d (.v (.func (.yield l) #[] #[]))), (2, .eptr (D.cells ((D.l TSlot.D) s2))), (9, .d ((D.l TSlot.D) s9)), (10, .d ((D.i .i64) s10)), (11, .d ((D.i .i64) s11))], [], (F o)⟩)
  | .inr o => (.ret, ⟨sp 29 0 [], [], (F o)⟩)
theorem binding_both_1_b2_ok (rd : Option Nat) {φ : Type} (step : φ → ((TSlot × TValue) ⊕ TSlot) → Option (φ × Bool)) (l : Nat) (F : φ → Bx) (hF : ∀ f, Far (F f)) (hN : ∀ f f', names (F f) = names (F f')) (hY : ∀ f x r, step f x = some r → AYield Try.prog l (binding_both_1_enc x) (F f) (.d (D.b r.2)) (F r.1)) (f0 : φ) (s2 : List TSlot) (s9 : List TSlot) (s10 : Int) (s11 : Int) (o : φ ⊕ φ) (h : binding_both_1_b2 step f0 s2 s9 s10 s11 = some o) : LpOf Try.prog rd (fbody Try.prog 52) [0, 1, 1, 0, 0, 1] (binding_both_1_b2_I l F f0 s2 s9 s10 s11) (binding_both_1_b2_O l F f0 s2 s9 s10 s11 o).1 (binding_both_1_b2_O l F f0 s2 s9 s10 s11 o).2 := by
  unfold binding_both_1_b2 at h
  replace h := idxE_some h
  obtain ⟨x1, h2, h⟩ := h
  replace h := bndE_some h
  obtain ⟨r2, h3, h⟩ := h
  replace h := iteE_some h
  rcases h with ⟨h5, h⟩ | ⟨h5, h⟩
  · skip
    replace h := yldE_some h
    rcases h with ⟨f3, h6, h⟩ | ⟨f4, h7, h⟩
    · skip
      obtain rfl := Option.some.inj h
      exact (runB_arr mixed [(13, .el (TSlot.D x1)), (19, .ret (.tup [.d (TValue.D r2.1), .d (D.b r2.2)])), (22, .bit true), (10007, .frz), (26, .own false (.d (D.b true)) [] (F f3))] [] [.live [0, 2, 9, 10, 11], .keep []] (And.intro (elem_map TSlot.D h2) (And.intro (binding_Get_ok s2 x1.var r2 h3) (And.intro h5 (And.intro (hY f0 (.inl (x1, r2.1)) (f3, true) h6) (And.intro (Or.inr ⟨hN _ _, hF _⟩ : F f3 = F f0 ∨ (names (F f3) = names (F f0) ∧ Far (F f3))) (True.intro)))))) (by kernel_rfl)).lp
    · skip
      obtain rfl := Option.some.inj h
      exact (runB_arr mixed [(13, .el (TSlot.D x1)), (19, .ret (.tup [.d (TValue.D r2.1), .d (D.b r2.2)])), (22, .bit true), (10007, .frz), (26, .own false (.d (D.b false)) [] (F f4))] [] [.live [], .keep []] (And.intro (elem_map TSlot.D h2) (And.intro (binding_Get_ok s2 x1.var r2 h3) (And.intro h5 (And.intro (hY f0 (.inl (x1, r2.1)) (f4, false) h7) (And.intro (Or.inr ⟨hN _ _, hF _⟩ : F f4 = F f0 ∨ (names (F f4) = names (F f0) ∧ Far (F f4))) (True.intro)))))) (by kernel_rfl)).lp
  · skip
    replace h := yldE_some h
    rcases h with ⟨f5, h8, h⟩ | ⟨f6, h9, h⟩
    · skip
      obtain rfl := Option.some.inj h
      exact (runB_arr mixed [(13, .el (TSlot.D x1)), (19, .ret (.tup [.d (TValue.D r2.1), .d (D.b r2.2)])), (22, .bit false), (26, .own false (.d (D.b true)) [] (F f5))] [] [.live [0, 2, 9, 10, 11], .keep []] (And.intro (elem_map TSlot.D h2) (And.intro (binding_Get_ok s2 x1.var r2 h3) (And.intro h5 (And.intro (hY f0 (.inr x1) (f5, true) h8) (And.intro (Or.inr ⟨hN _ _, hF _⟩ : F f5 = F f0 ∨ (names (F f5) = names (F f0) ∧ Far (F f5))) (True.intro)))))) (by kernel_rfl)).lp
    · skip
      obtain rfl := Option.some.inj h
      exact (runB_arr mixed [(13, .el (TSlot.D x1)), (19, .ret (.tup [.d (TValue.D r2.1), .d (D.b r2.2)])), (22, .bit false), (26, .own false (.d (D.b false)) [] (F f6))] [] [.live [], .keep []] (And.intro (elem_map TSlot.D h2) (And.intro (binding_Get_ok s2 x1.var r2 h3) (And.intro h5 (And.intro (hY f0 (.inr x1) (f6, false) h9) (And.intro (Or.inr ⟨hN _ _, hF _⟩ : F f6 = F f0 ∨ (names (F f6) = names (F f0) ∧ Far (F f6))) (True.intro)))))) (by kernel_rfl)).lp
def binding_both_1_l1_I {φ : Type} (l : Nat) (F : φ → Bx) (s2 : List TSlot) (s9 : List TSlot) (s10 : Int) (f0 : φ) (s11 : Int) : St := ⟨sp 29 0 [(0, .d (.v (.func (.yield l) #[] #[]))), (2, .eptr (D.cells ((D.l TSlot.D) s2))), (9, .d ((D.l TSlot.D) s9)), (10, .d ((D.i .i64) s10)), (11, .d ((D.i .i64) s11))], [], (F f0)⟩
def binding_both_1_l1_O {φ : Type} (l : Nat) (F : φ → Bx) (s2 : List TSlot) (s9 : List TSlot) (s10 : Int) (o : φ ⊕ φ) : Ex × St := match o with
  | .inl o => (.exit 0, ⟨sp 29 0 [], [], (F o)⟩)
  | .inr o => (.ret, ⟨sp 29 0 [], [], (F o)⟩)
theorem binding_both_1_l1_rnd (rd : Option Nat) {φ : Type} (step : φ → ((TSlot × TValue) ⊕ TSlot) → Option (φ × Bool)) (l : Nat) (F : φ → Bx) (hF : ∀ f, Far (F f)) (hN : ∀ f f', names (F f) = names (F f')) (hY : ∀ f x r, step f x = some r → AYield Try.prog l (binding_both_1_enc x) (F f) (.d (D.b r.2)) (F r.1)) (s2 : List TSlot) (s9 : List TSlot) (s10 : Int) (f0 : φ) (s11 : Int) (o : (φ × Int) ⊕ (φ ⊕ φ)) (h : binding_both_1_l1_s step s2 s9 s10 f0 s11 = some o) : Arr Try.prog rd (fbody Try.prog 52) (0 :: [0, 1]) (binding_both_1_l1_I l F s2 s9 s10 f0 s11) (rR (fun s : φ × Int => binding_both_1_l1_I l F s2 s9 s10 s.1 s.2) (binding_both_1_l1_O l F s2 s9 s10) o).1 (rR (fun s : φ × Int => binding_both_1_l1_I l F s2 s9 s10 s.1 s.2) (binding_both_1_l1_O l F s2 s9 s10) o).2 := by
  unfold binding_both_1_l1_s at h
  replace h := iteE_some h
  rcases h with ⟨h1, h⟩ | ⟨h1, h⟩
  · skip
    replace h := bndE_some h
    obtain ⟨o7, h10, h⟩ := h
    replace h := sumE_some h
    rcases h with ⟨o8, rfl, h⟩ | ⟨o9, rfl, h⟩
    · skip
      obtain rfl := Option.some.inj h
      exact runB_arr mixed [(12, .bit true)] [⟨[0, 1, 1, 0, 0, 1], [.live [0, 2, 9, 10, 11], .keep []], .normal, (binding_both_1_b2_O l F f0 s2 s9 s10 s11 (Sum.inl o8)).2⟩] [.live [0, 2, 9, 10, 11], .keep []] (And.intro h1 (And.intro (binding_both_1_b2_ok rd step l F hF hN hY f0 s2 s9 s10 s11 (Sum.inl o8) h10) (True.intro))) (by kernel_rfl)
    · skip
      obtain rfl := Option.some.inj h
      exact runB_arr mixed [(12, .bit true)] [⟨[0, 1, 1, 0, 0, 1], [.live [0, 2, 9, 10, 11], .keep []], .ret, (binding_both_1_b2_O l F f0 s2 s9 s10 s11 (Sum.inr o9)).2⟩] [.live [], .keep []] (And.intro h1 (And.intro (binding_both_1_b2_ok rd step l F hF hN hY f0 s2 s9 s10 s11 (Sum.inr o9) h10) (True.intro))) (by kernel_rfl)
  · skip
    obtain rfl := Option.some.inj h
    exact runB_arr mixed [(12, .bit false)] [] [.live [], .keep []] (And.intro h1 (True.intro)) (by kernel_rfl)
theorem binding_both_1_l1_ok (rd : Option Nat) {φ : Type} (step : φ → ((TSlot × TValue) ⊕ TSlot) → Option (φ × Bool)) (l : Nat) (F : φ → Bx) (hF : ∀ f, Far (F f)) (hN : ∀ f f', names (F f) = names (F f')) (hY : ∀ f x r, step f x = some r → AYield Try.prog l (binding_both_1_enc x) (F f) (.d (D.b r.2)) (F r.1)) (s2 : List TSlot) (s9 : List TSlot) (s10 : Int) (f0 : φ) (s11 : Int) (t : φ ⊕ φ) (h : binding_both_1_l1 step s2 s9 s10 f0 s11 = some t) : LpOf Try.prog rd (fbody Try.prog 52) [0, 1] (binding_both_1_l1_I l F s2 s9 s10 f0 s11) ((binding_both_1_l1_O l F s2 s9 s10) t).1 ((binding_both_1_l1_O l F s2 s9 s10) t).2 :=
  loopE_lpR (fun s : φ × Int => binding_both_1_l1_I l F s2 s9 s10 s.1 s.2) (binding_both_1_l1_O l F s2 s9 s10) (by kernel_rfl) (fun t => isN_ne (by rcases t with (_ | _) <;> rfl)) (fun s o h => binding_both_1_l1_rnd rd step l F hF hN hY s2 s9 s10 s.1 s.2 o h) (s := (f0, s11)) (t := t) h
theorem binding_both_1_ok {φ : Type} (step : φ → ((TSlot × TValue) ⊕ TSlot) → Option (φ × Bool)) (a1 : List TSlot) (a2 : List TSlot) (f0 : φ) (f1 : φ) (h : binding_both_1 step a1 a2 f0 = some f1) : AIt Try.prog 52 [.eptr (D.cells ((D.l TSlot.D) a1)), .eptr (D.cells ((D.l TSlot.D) a2))] binding_both_1_enc step f0 f1 := by
  intro l F hF hN hcl hY
  refine ⟨.tup [], ?_⟩
  unfold binding_both_1 at h
  replace h := bndE_some h
  obtain ⟨o10, h11, h⟩ := h
  replace h := sumE_some h
  rcases h with ⟨o11, rfl, h⟩ | ⟨o12, rfl, h⟩
  · skip
    obtain rfl := Option.some.inj h
    exact runI_call mixed [(10, .int (a1.length : Int))] [⟨[0, 1], [.live [0, 2, 9, 10, 11], .keep []], .exit 0, (binding_both_1_l1_O l F a2 a1 (a1.length : Int) (Sum.inl o11)).2⟩] [] (hF _) (hcl _) (And.intro (len_map TSlot.D a1) (And.intro (binding_both_1_l1_ok none step l F hF hN hY a2 a1 (a1.length : Int) f0 0 (Sum.inl o11) h11) (True.intro))) (by kernel_rfl)
  · skip
    obtain rfl := Option.some.inj h
    exact runI_call mixed [(10, .int (a1.length : Int))] [⟨[0, 1], [.live [0, 2, 9, 10, 11], .keep []], .ret, (binding_both_1_l1_O l F a2 a1 (a1.length : Int) (Sum.inr o12)).2⟩] [] (hF _) (hcl _) (And.intro (len_map TSlot.D a1) (And.intro (binding_both_1_l1_ok none step l F hF hN hY a2 a1 (a1.length : Int) f0 0 (Sum.inr o12) h11) (True.intro))) (by kernel_rfl)
def binding_Under_b2_I (uz : List Value) (s9_1 : List TSlot) (s9_2 : List TSlot) (s10 : TSlot) (s11 : TValue) (w4 : Bool) (w998_1 : List TSlot) (w998_2 : List TSlot) : St := ⟨sp 22 0 [(4, .box 4 0), (9, .clo (.func 52) [] [.eptr (D.cells ((D.l TSlot.D) s9_1)), .eptr (D.cells ((D.l TSlot.D) s9_2))]), (10, .d (TSlot.D s10)), (11, .eptr (D.cells (TValue.D s11)))], [(4, .cells ([.d (D.b w4)])), (998, .vals (sp 22 0 [(4, .box 4 0), (9, .clo (.func 52) [] [.eptr (D.cells ((D.l TSlot.D) w998_1)), .eptr (D.cells ((D.l TSlot.D) w998_2))])]) uz)], []⟩
def binding_Under_b2_O (uz : List Value) (s9_1 : List TSlot) (s9_2 : List TSlot) (s10 : TSlot) (s11 : TValue) (w4 : Bool) (w998_1 : List TSlot) (w998_2 : List TSlot) (o : Unit) : Ex × St := (.normal, ⟨sp 22 0 [(4, .box 4 0), (5, .box 5 0), (6, .eptr (D.cells (TValue.D s11))), (9, .clo (.func 52) [] [.eptr (D.cells ((D.l TSlot.D) s9_1)), .eptr (D.cells ((D.l TSlot.D) s9_2))])], [(4, .cells ([.d (D.b w4)])), (5, .cells ((cellsA (TSlot.D s10)))), (998, .vals (sp 22 0 [(4, .box 4 0), (9, .clo (.func 52) [] [.eptr (D.cells ((D.l TSlot.D) w998_1)), .eptr (D.cells ((D.l TSlot.D) w998_2))])]) uz)], []⟩)
theorem binding_Under_b2_ok (rd : Option Nat) (uz : List Value) (s9_1 : List TSlot) (s9_2 : List TSlot) (s10 : TSlot) (s11 : TValue) (w4 : Bool) (w998_1 : List TSlot) (w998_2 : List TSlot) (o : Unit) (h : binding_Under_b2 s9_1 s9_2 s10 s11 w4 w998_1 w998_2 = some o) : LpOf Try.prog rd (fbody Try.prog 41) [0, 0, 1, 0, 1] (binding_Under_b2_I uz s9_1 s9_2 s10 s11 w4 w998_1 w998_2) (binding_Under_b2_O uz s9_1 s9_2 s10 s11 w4 w998_1 w998_2 o).1 (binding_Under_b2_O uz s9_1 s9_2 s10 s11 w4 w998_1 w998_2 o).2 := by
  unfold binding_Under_b2 at h
  obtain rfl := Option.some.inj h
  exact (runB_arr mixed [] [] [.live [4, 5, 6, 9], .keep [4, 5, 998]] (True.intro) (by kernel_rfl)).lp
def binding_Under_b4_I (uz : List Value) (s9_1 : List TSlot) (s9_2 : List TSlot) (s10 : TSlot) (w4 : Bool) (w998_1 : List TSlot) (w998_2 : List TSlot) : St := ⟨sp 22 0 [(4, .box 4 0), (9, .clo (.func 52) [] [.eptr (D.cells ((D.l TSlot.D) s9_1)), .eptr (D.cells ((D.l TSlot.D) s9_2))]), (10, .d (TSlot.D s10)), (11, .d (.v (.pointer none)))], [(4, .cells ([.d (D.b w4)])), (998, .vals (sp 22 0 [(4, .box 4 0), (9, .clo (.func 52) [] [.eptr (D.cells ((D.l TSlot.D) w998_1)), .eptr (D.cells ((D.l TSlot.D) w998_2))])]) uz)], []⟩
def binding_Under_b4_O (uz : List Value) (s9_1 : List TSlot) (s9_2 : List TSlot) (s10 : TSlot) (w4 : Bool) (w998_1 : List TSlot) (w998_2 : List TSlot) (o : Unit) : Ex × St := (.normal, ⟨sp 22 0 [(4, .box 4 0), (5, .box 5 0), (6, .d (.v (.pointer none))), (9, .clo (.func 52) [] [.eptr (D.cells ((D.l TSlot.D) s9_1)), .eptr (D.cells ((D.l TSlot.D) s9_2))])], [(4, .cells ([.d (D.b w4)])), (5, .cells ((cellsA (TSlot.D s10)))), (998, .vals (sp 22 0 [(4, .box 4 0), (9, .clo (.func 52) [] [.eptr (D.cells ((D.l TSlot.D) w998_1)), .eptr (D.cells ((D.l TSlot.D) w998_2))])]) uz)], []⟩)
theorem binding_Under_b4_ok (rd : Option Nat) (uz : List Value) (s9_1 : List TSlot) (s9_2 : List TSlot) (s10 : TSlot) (w4 : Bool) (w998_1 : List TSlot) (w998_2 : List TSlot) (o : Unit) (h : binding_Under_b4 s9_1 s9_2 s10 w4 w998_1 w998_2 = some o) : LpOf Try.prog rd (fbody Try.prog 41) [0, 0, 1, 0, 1] (binding_Under_b4_I uz s9_1 s9_2 s10 w4 w998_1 w998_2) (binding_Under_b4_O uz s9_1 s9_2 s10 w4 w998_1 w998_2 o).1 (binding_Under_b4_O uz s9_1 s9_2 s10 w4 w998_1 w998_2 o).2 := by
  unfold binding_Under_b4 at h
  obtain rfl := Option.some.inj h
  exact (runB_arr mixed [] [] [.live [4, 5, 6, 9], .keep [4, 5, 998]] (True.intro) (by kernel_rfl)).lp
def binding_Under_b6_I (uz : List Value) (s6 : TValue) (s9_1 : List TSlot) (s9_2 : List TSlot) (w4 : Bool) (w5 : TSlot) (w998_1 : List TSlot) (w998_2 : List TSlot) : St := ⟨sp 22 0 [(4, .box 4 0), (5, .box 5 0), (6, .eptr (D.cells (TValue.D s6))), (9, .clo (.func 52) [] [.eptr (D.cells ((D.l TSlot.D) s9_1)), .eptr (D.cells ((D.l TSlot.D) s9_2))])], [(4, .cells ([.d (D.b w4)])), (5, .cells ((cellsA (TSlot.D w5)))), (998, .vals (sp 22 0 [(4, .box 4 0), (9, .clo (.func 52) [] [.eptr (D.cells ((D.l TSlot.D) w998_1)), .eptr (D.cells ((D.l TSlot.D) w998_2))])]) uz)], []⟩
def binding_Under_b6_O (uz : List Value) (s6 : TValue) (s9_1 : List TSlot) (s9_2 : List TSlot) (w4 : Bool) (w5 : TSlot) (w998_1 : List TSlot) (w998_2 : List TSlot) (o : Unit ⊕ Unit) : Ex × St := match o with
  | .inl o => (.normal, ⟨sp 22 0 [], [(4, .cells ([.d (D.b w4)])), (998, .vals (sp 22 0 [(4, .box 4 0), (9, .clo (.func 52) [] [.eptr (D.cells ((D.l TSlot.D) w998_1)), .eptr (D.cells ((D.l TSlot.D) w998_2))])]) uz)], []⟩)
  | .inr o => (.ret, ⟨sp 22 0 [], [(4, .cells ([.d (D.b false)])), (998, .vals (sp 22 0 [(4, .box 4 0), (9, .clo (.func 52) [] [.eptr (D.cells ((D.l TSlot.D) w998_1)), .eptr (D.cells ((D.l TSlot.D) w998_2))])]) uz)], []⟩)
theorem binding_Under_b6_ok (rd : Option Nat) (uz : List Value) (s6 : TValue) (s9_1 : List TSlot) (s9_2 : List TSlot) (w4 : Bool) (w5 : TSlot) (w998_1 : List TSlot) (w998_2 : List TSlot) (o : Unit ⊕ Unit) (h : binding_Under_b6 s6 s9_1 s9_2 w4 w5 w998_1 w998_2 = some o) : LpOf Try.prog rd (fbody Try.prog 41) [1, 0, 1, 0, 1] (binding_Under_b6_I uz s6 s9_1 s9_2 w4 w5 w998_1 w998_2) (binding_Under_b6_O uz s6 s9_1 s9_2 w4 w5 w998_1 w998_2 o).1 (binding_Under_b6_O uz s6 s9_1 s9_2 w4 w5 w998_1 w998_2 o).2 := by
  unfold binding_Under_b6 at h
  replace h := iteE_some h
  rcases h with ⟨h3, h⟩ | ⟨h3, h⟩
  · skip
    obtain rfl := Option.some.inj h
    exact (runB_arr mixed [(21, .bit true)] [] [.live [], .keep [4, 998]] (And.intro h3 (True.intro)) (by kernel_rfl)).lp
  · skip
    obtain rfl := Option.some.inj h
    exact (runB_arr mixed [(21, .bit false)] [] [.live [], .keep [4, 998]] (And.intro h3 (True.intro)) (by kernel_rfl)).lp
def binding_Under_b7_I (uz : List Value) (s9_1 : List TSlot) (s9_2 : List TSlot) (w4 : Bool) (w5 : TSlot) (w998_1 : List TSlot) (w998_2 : List TSlot) : St := ⟨sp 22 0 [(4, .box 4 0), (5, .box 5 0), (6, .d (.v (.pointer none))), (9, .clo (.func 52) [] [.eptr (D.cells ((D.l TSlot.D) s9_1)), .eptr (D.cells ((D.l TSlot.D) s9_2))])], [(4, .cells ([.d (D.b w4)])), (5, .cells ((cellsA (TSlot.D w5)))), (998, .vals (sp 22 0 [(4, .box 4 0), (9, .clo (.func 52) [] [.eptr (D.cells ((D.l TSlot.D) w998_1)), .eptr (D.cells ((D.l TSlot.D) w998_2))])]) uz)], []⟩
def binding_Under_b7_O (uz : List Value) (s9_1 : List TSlot) (s9_2 : List TSlot) (w4 : Bool) (w5 : TSlot) (w998_1 : List TSlot) (w998_2 : List TSlot) (o : Unit) : Ex × St := (.ret, ⟨sp 22 0 [], [(4, .cells ([.d (D.b false)])), (998, .vals (sp 22 0 [(4, .box 4 0), (9, .clo (.func 52) [] [.eptr (D.cells ((D.l TSlot.D) w998_1)), .eptr (D.cells ((D.l TSlot.D) w998_2))])]) uz)], []⟩)
theorem binding_Under_b7_ok (rd : Option Nat) (uz : List Value) (s9_1 : List TSlot) (s9_2 : List TSlot) (w4 : Bool) (w5 : TSlot) (w998_1 : List TSlot) (w998_2 : List TSlot) (o : Unit) (h : binding_Under_b7 s9_1 s9_2 w4 w5 w998_1 w998_2 = some o) : LpOf Try.prog rd (fbody Try.prog 41) [1, 0, 1, 0, 1] (binding_Under_b7_I uz s9_1 s9_2 w4 w5 w998_1 w998_2) (binding_Under_b7_O uz s9_1 s9_2 w4 w5 w998_1 w998_2 o).1 (binding_Under_b7_O uz s9_1 s9_2 w4 w5 w998_1 w998_2 o).2 := by
  unfold binding_Under_b7 at h
  obtain rfl := Option.some.inj h
  exact (runB_arr mixed [] [] [.live [], .keep [4, 998]] (True.intro) (by kernel_rfl)).lp
def binding_Under_r1_E (s9_1 : List TSlot) (s9_2 : List TSlot) : List A := sp 22 0 [(4, .box 4 0), (9, .clo (.func 52) [] [.eptr (D.cells ((D.l TSlot.D) s9_1)), .eptr (D.cells ((D.l TSlot.D) s9_2))])]
def binding_Under_r1_BL (s9_1 : List TSlot) (s9_2 : List TSlot) (s : Bool) : Bx := [(4, .cells ([.d (D.b s)]))]
def binding_Under_r1_BT (s9_1 : List TSlot) (s9_2 : List TSlot) (t : Bool) : Bx := [(4, .cells ([.d (D.b t)]))]
def binding_Under_r1_X (t : Bool) : Ex := .ret
def binding_Under_r1_O (s9_1 : List TSlot) (s9_2 : List TSlot) (o : (Bool) ⊕ (Bool)) : Ex × St := (rex binding_Under_r1_X o, ⟨binding_Under_r1_E s9_1 s9_2, rbx (binding_Under_r1_BL s9_1 s9_2) (binding_Under_r1_BT s9_1 s9_2) o, []⟩)
theorem binding_Under_r1_rnd (s9_1 : List TSlot) (s9_2 : List TSlot) (s : Bool) (x : (TSlot × TValue) ⊕ TSlot) (o : (Bool) ⊕ (Bool)) (h : binding_Under_r1_rd s9_1 s9_2 s x = some o) (l : Nat) (uz : List Value) : ∃ M E1, LpOf Try.prog (some l) (fbody Try.prog 41) (0 :: [0, 1, 0, 1]) ⟨setPs (binding_Under_r1_E s9_1 s9_2) ((Array.toList #[10, 11]).zip (binding_both_1_enc x)), binding_Under_r1_BL s9_1 s9_2 s ++ [(vn, .vals (binding_Under_r1_E s9_1 s9_2) uz)], []⟩ .normal M ∧
    LpOf Try.prog (some l) (fbody Try.prog 41) (1 :: [0, 1, 0, 1]) M (rex binding_Under_r1_X o) ⟨E1, rbx (binding_Under_r1_BL s9_1 s9_2) (binding_Under_r1_BT s9_1 s9_2) o ++ [(vn, .vals (binding_Under_r1_E s9_1 s9_2) uz)], []⟩ := by
  unfold binding_Under_r1_rd at h
  replace h := sumE_some h
  rcases h with ⟨z13, rfl, h⟩ | ⟨z14, rfl, h⟩
  · skip
    replace h := bndE_some h
    obtain ⟨o6, h5, h⟩ := h
    replace h := bndE_some h
    obtain ⟨o7, h6, h⟩ := h
    replace h := sumE_some h
    rcases h with ⟨o15, rfl, h⟩ | ⟨o16, rfl, h⟩
    · skip
      obtain rfl := Option.some.inj h
      exact ⟨(binding_Under_b2_O uz s9_1 s9_2 z13.1 z13.2 s s9_1 s9_2 o6).2, sp 22 0 [], lp_wks (w := [.live [4, 9, 10, 11], .keep [4, 998]]) (s1 := binding_Under_b2_I uz s9_1 s9_2 z13.1 z13.2 s s9_1 s9_2) (by kernel_rfl) (lp_cast (binding_Under_b2_ok (some l) uz s9_1 s9_2 z13.1 z13.2 s s9_1 s9_2 o6 h5) rfl (by kernel_rfl) rfl), lp_wks (w := [.live [4, 5, 6, 9], .keep [4, 5, 998]]) (s1 := binding_Under_b6_I uz z13.2 s9_1 s9_2 s z13.1 s9_1 s9_2) (by kernel_rfl) (lp_cast (binding_Under_b6_ok (some l) uz z13.2 s9_1 s9_2 s z13.1 s9_1 s9_2 (Sum.inl o15) h6) rfl (by kernel_rfl) (by kernel_rfl))⟩
    · skip
      obtain rfl := Option.some.inj h
      exact ⟨(binding_Under_b2_O uz s9_1 s9_2 z13.1 z13.2 s s9_1 s9_2 o6).2, sp 22 0 [], lp_wks (w := [.live [4, 9, 10, 11], .keep [4, 998]]) (s1 := binding_Under_b2_I uz s9_1 s9_2 z13.1 z13.2 s s9_1 s9_2) (by kernel_rfl) (lp_cast (binding_Under_b2_ok (some l) uz s9_1 s9_2 z13.1 z13.2 s s9_1 s9_2 o6 h5) rfl (by kernel_rfl) rfl), lp_wks (w := [.live [4, 5, 6, 9], .keep [4, 5, 998]]) (s1 := binding_Under_b6_I uz z13.2 s9_1 s9_2 s z13.1 s9_1 s9_2) (by kernel_rfl) (lp_cast (binding_Under_b6_ok (some l) uz z13.2 s9_1 s9_2 s z13.1 s9_1 s9_2 (Sum.inr o16) h6) rfl (by kernel_rfl) (by kernel_rfl))⟩
  · skip
    replace h := bndE_some h
    obtain ⟨o8, h7, h⟩ := h
    replace h := bndE_some h
    obtain ⟨o9, h8, h⟩ := h
    obtain rfl := Option.some.inj h
    exact ⟨(binding_Under_b4_O uz s9_1 s9_2 z14 s s9_1 s9_2 o8).2, sp 22 0 [], lp_wks (w := [.live [4, 9, 10, 11], .keep [4, 998]]) (s1 := binding_Under_b4_I uz s9_1 s9_2 z14 s s9_1 s9_2) (by kernel_rfl) (lp_cast (binding_Under_b4_ok (some l) uz s9_1 s9_2 z14 s s9_1 s9_2 o8 h7) rfl (by kernel_rfl) rfl), lp_wks (w := [.live [4, 5, 6, 9], .keep [4, 5, 998]]) (s1 := binding_Under_b7_I uz s9_1 s9_2 s z14 s9_1 s9_2) (by kernel_rfl) (lp_cast (binding_Under_b7_ok (some l) uz s9_1 s9_2 s z14 s9_1 s9_2 o9 h8) rfl (by kernel_rfl) (by kernel_rfl))⟩
theorem binding_Under_r1_ok (s9_1 : List TSlot) (s9_2 : List TSlot) (s : Bool) (o : (Bool) ⊕ (Bool)) (h : binding_both_1 (stepOf (binding_Under_r1_rd s9_1 s9_2)) s9_1 s9_2 (.inl s) = some o) : LpOf Try.prog none (fbody Try.prog 41) [0, 1, 0, 1] ⟨binding_Under_r1_E s9_1 s9_2, binding_Under_r1_BL s9_1 s9_2 s, []⟩ (binding_Under_r1_O s9_1 s9_2 o).1 (binding_Under_r1_O s9_1 s9_2 o).2 :=
  range_ok (p := [0, 1, 0, 1]) (g := .tmp 9) (ps := #[10, 11]) (assign := codeAt (fbody Try.prog 41) (0 :: [0, 1, 0, 1])) (body := codeAt (fbody Try.prog 41) (1 :: [0, 1, 0, 1])) (by kernel_rfl) (binding_Under_r1_BL s9_1 s9_2) (binding_Under_r1_BT s9_1 s9_2) binding_Under_r1_X binding_both_1_enc (binding_Under_r1_rd s9_1 s9_2) (gf := 52) (cs := [.eptr (D.cells ((D.l TSlot.D) s9_1)), .eptr (D.cells ((D.l TSlot.D) s9_2))]) (by kernel_rfl) (by kernel_rfl) (by kernel_rfl) (fun x => by rcases x with (_ | _) <;> exact ⟨by kernel_rfl, by kernel_rfl⟩) (fun s us => by kernel_rfl) (fun t us => by kernel_rfl) (fun s => rfl) (fun t => rfl) (by kernel_rfl) (fun t => rfl) (fun s x o h l us => binding_Under_r1_rnd s9_1 s9_2 s x o h l us) (binding_both_1_ok (stepOf (binding_Under_r1_rd s9_1 s9_2)) s9_1 s9_2 (.inl s) o h)
theorem binding_Under_ok (a0 : List TSlot) (a1 : List TSlot) (r : Bool) (h : binding_Under a0 a1 = some r) : ACall Try.prog 41 [.d ((D.l TSlot.D) a0), .d ((D.l TSlot.D) a1)] [] (.d (D.b r)) [] := by
  unfold binding_Under at h
  replace h := bndE_some h
  obtain ⟨r1, h1, h⟩ := h
  replace h := bndE_some h
  obtain ⟨o10, h4, h⟩ := h
  replace h := sumE_some h
  rcases h with ⟨o11, rfl, h⟩ | ⟨o12, rfl, h⟩
  · skip
    obtain rfl := Option.some.inj h
    exact runF_call mixed [(9, .ret (.clo (.func 52) [] [.eptr (D.cells ((D.l TSlot.D) r1.1)), .eptr (D.cells ((D.l TSlot.D) r1.2))]))] [⟨[0, 1, 0, 1], [.live [4, 9], .keep [4]], .normal, (binding_Under_r1_O r1.1 r1.2 (Sum.inl o11)).2⟩] [] (And.intro (binding_both_ok a0 a1 r1 h1) (And.intro (binding_Under_r1_ok r1.1 r1.2 false (Sum.inl o11) h4) (True.intro))) (by kernel_rfl)
  · skip
    obtain rfl := Option.some.inj h
    exact runF_call mixed [(9, .ret (.clo (.func 52) [] [.eptr (D.cells ((D.l TSlot.D) r1.1)), .eptr (D.cells ((D.l TSlot.D) r1.2))]))] [⟨[0, 1, 0, 1], [.live [4, 9], .keep [4]], .ret, (binding_Under_r1_O r1.1 r1.2 (Sum.inr o12)).2⟩] [] (And.intro (binding_both_ok a0 a1 r1 h1) (And.intro (binding_Under_r1_ok r1.1 r1.2 false (Sum.inr o12) h4) (True.intro))) (by kernel_rfl)
theorem extend_Greatest_1_ok (a0 : TRow) (a1 : TRow) (r : Bool) (h : extend_Greatest_1 a0 a1 = some r) : ACall Try.prog 42 [.d (TRow.D a0), .eptr (D.cells (TRow.D a1))] [] (.d (D.b r)) [] := by
  unfold extend_Greatest_1 at h
  replace h := iteE_some h
  rcases h with ⟨h1, h⟩ | ⟨h1, h⟩
  · skip
    replace h := bndE_some h
    obtain ⟨r1, h2, h⟩ := h
    obtain rfl := Option.some.inj h
    exact runF_call mixed [(6, .int (a0.bind.length : Int)), (9, .int (a1.bind.length : Int)), (11, .bit true), (16, .ret (.d (D.b r1)))] [] [] (And.intro (len_map TSlot.D a0.bind) (And.intro (len_map TSlot.D a1.bind) (And.intro h1 (And.intro (binding_Under_ok a1.bind a0.bind r1 h2) (True.intro))))) (by kernel_rfl)
  · skip
    obtain rfl := Option.some.inj h
    exact runF_call mixed [(6, .int (a0.bind.length : Int)), (9, .int (a1.bind.length : Int)), (11, .bit false)] [] [] (And.intro (len_map TSlot.D a0.bind) (And.intro (len_map TSlot.D a1.bind) (And.intro h1 (True.intro)))) (by kernel_rfl)
def slices_IndexFunc_Row_Row_l1_I (s0 : List TRow) (s1 : TRow) (s7 : Int) (s8 : Int) : St := ⟨sp 19 0 [(0, .d ((D.l TRow.D) s0)), (1, .clo (.func 42) [] [.eptr (D.cells (TRow.D s1))]), (7, .d ((D.i .i64) s7)), (8, .d ((D.i .i64) s8))], [], []⟩
def slices_IndexFunc_Row_Row_l1_O (s0 : List TRow) (s1 : TRow) (s7 : Int) (o : Unit ⊕ Int) : Ex × St := match o with
  | .inl o => (.exit 0, ⟨sp 19 0 [], [], []⟩)
  | .inr o => (.ret, ⟨sp 19 0 [(4, .d ((D.i .i64) o))], [], []⟩)
theorem slices_IndexFunc_Row_Row_l1_rnd (rd : Option Nat) (s0 : List TRow) (s1 : TRow) (s7 : Int) (s8 : Int) (o : (Int) ⊕ (Unit ⊕ Int)) (h : slices_IndexFunc_Row_Row_l1_s s0 s1 s7 s8 = some o) : Arr Try.prog rd (fbody Try.prog 46) (0 :: [0, 1, 0, 1]) (slices_IndexFunc_Row_Row_l1_I s0 s1 s7 s8) (rR (fun s : Int => slices_IndexFunc_Row_Row_l1_I s0 s1 s7 s) (slices_IndexFunc_Row_Row_l1_O s0 s1 s7) o).1 (rR (fun s : Int => slices_IndexFunc_Row_Row_l1_I s0 s1 s7 s) (slices_IndexFunc_Row_Row_l1_O s0 s1 s7) o).2 := by
  unfold slices_IndexFunc_Row_Row_l1_s at h
  replace h := iteE_some h
  rcases h with ⟨h1, h⟩ | ⟨h1, h⟩
  · skip
    replace h := idxE_some h
    obtain ⟨x1, h2, h⟩ := h
    replace h := bndE_some h
    obtain ⟨r2, h3, h⟩ := h
    cases r2 with
    | true =>
      replace h := iteT h
      obtain rfl := Option.some.inj h
      exact runB_arr mixed [(9, .bit true), (14, .el (TRow.D x1)), (16, .ret (.d (D.b true)))] [] [.live [4], .keep []] (And.intro h1 (And.intro (elem_map TRow.D h2) (And.intro (extend_Greatest_1_ok x1 s1 true h3) (True.intro)))) (by kernel_rfl)
    | false =>
      replace h := iteF h
      obtain rfl := Option.some.inj h
      exact runB_arr mixed [(9, .bit true), (14, .el (TRow.D x1)), (16, .ret (.d (D.b false)))] [] [.live [0, 1, 7, 8], .keep []] (And.intro h1 (And.intro (elem_map TRow.D h2) (And.intro (extend_Greatest_1_ok x1 s1 false h3) (True.intro)))) (by kernel_rfl)
  · skip
    obtain rfl := Option.some.inj h
    exact runB_arr mixed [(9, .bit false)] [] [.live [], .keep []] (And.intro h1 (True.intro)) (by kernel_rfl)
theorem slices_IndexFunc_Row_Row_l1_ok (rd : Option Nat) (s0 : List TRow) (s1 : TRow) (s7 : Int) (s8 : Int) (t : Unit ⊕ Int) (h : slices_IndexFunc_Row_Row_l1 s0 s1 s7 s8 = some t) : LpOf Try.prog rd (fbody Try.prog 46) [0, 1, 0, 1] (slices_IndexFunc_Row_Row_l1_I s0 s1 s7 s8) ((slices_IndexFunc_Row_Row_l1_O s0 s1 s7) t).1 ((slices_IndexFunc_Row_Row_l1_O s0 s1 s7) t).2 :=
  loopE_lpR (fun s : Int => slices_IndexFunc_Row_Row_l1_I s0 s1 s7 s) (slices_IndexFunc_Row_Row_l1_O s0 s1 s7) (by kernel_rfl) (fun t => isN_ne (by rcases t with (_ | _) <;> rfl)) (fun s o h => slices_IndexFunc_Row_Row_l1_rnd rd s0 s1 s7 s o h) (s := s8) (t := t) h
theorem slices_IndexFunc_Row_Row_ok (a0 : List TRow) (a1 : TRow) (r : Int) (h : slices_IndexFunc_Row_Row a0 a1 = some r) : ACall Try.prog 46 [.d ((D.l TRow.D) a0), .clo (.func 42) [] [.eptr (D.cells (TRow.D a1))]] [] (.d ((D.i .i64) r)) [] := by
  unfold slices_IndexFunc_Row_Row at h
  replace h := bndE_some h
  obtain ⟨o3, h5, h⟩ := h
  replace h := sumE_some h
  rcases h with ⟨o4, rfl, h⟩ | ⟨o5, rfl, h⟩
  · skip
    obtain rfl := Option.some.inj h
    exact runF_call mixed [(7, .int (a0.length : Int))] [⟨[0, 1, 0, 1], [.live [0, 1, 7, 8], .keep []], .exit 0, (slices_IndexFunc_Row_Row_l1_O a0 a1 (a0.length : Int) (Sum.inl o4)).2⟩] [] (And.intro (len_map TRow.D a0) (And.intro (slices_IndexFunc_Row_Row_l1_ok none a0 a1 (a0.length : Int) 0 (Sum.inl o4) h5) (True.intro))) (by kernel_rfl)
  · skip
    obtain rfl := Option.some.inj h
    exact runF_call mixed [(7, .int (a0.length : Int))] [⟨[0, 1, 0, 1], [.live [0, 1, 7, 8], .keep []], .ret, (slices_IndexFunc_Row_Row_l1_O a0 a1 (a0.length : Int) (Sum.inr o5)).2⟩] [] (And.intro (len_map TRow.D a0) (And.intro (slices_IndexFunc_Row_Row_l1_ok none a0 a1 (a0.length : Int) 0 (Sum.inr o5) h5) (True.intro))) (by kernel_rfl)
theorem slices_ContainsFunc_Row_Row_ok (a0 : List TRow) (a1 : TRow) (r : Bool) (h : slices_ContainsFunc_Row_Row a0 a1 = some r) : ACall Try.prog 38 [.d ((D.l TRow.D) a0), .clo (.func 42) [] [.eptr (D.cells (TRow.D a1))]] [] (.d (D.b r)) [] := by
  unfold slices_ContainsFunc_Row_Row at h
  replace h := bndE_some h
  obtain ⟨r1, h1, h⟩ := h
  obtain rfl := Option.some.inj h
  exact runF_call mixed [(7, .ret (.d ((D.i .i64) r1)))] [] [] (And.intro (slices_IndexFunc_Row_Row_ok a0 a1 r1 h1) (True.intro)) (by kernel_rfl)
def extend_Greatest_b5_I (s1 : List TSlot) (s12 : List TRow) (s13 : Int) (s14 : Int) (s21 : Bool) (w5 : List TRow) (w8 : TRow) : St := ⟨sp 44 0 [(1, .d ((D.l TSlot.D) s1)), (5, .row 5), (6, .nil), (8, .box 8 0), (12, .d ((D.l TRow.D) s12)), (13, .d ((D.i .i64) s13)), (14, .d ((D.i .i64) s14)), (21, .d (D.b s21))], [(5, .row 35 2 (w5.map TRow.D)), (8, .cells ((cellsA (TRow.D w8))))], []⟩
def extend_Greatest_b5_O (s1 : List TSlot) (s12 : List TRow) (s13 : Int) (s14 : Int) (s21 : Bool) (w5 : List TRow) (w8 : TRow) (o : (List TRow)) : Ex × St := (.normal, ⟨sp 44 0 [(1, .d ((D.l TSlot.D) s1)), (5, .row 5), (6, .nil), (12, .d ((D.l TRow.D) s12)), (13, .d ((D.i .i64) s13)), (14, .d ((D.i .i64) s14))], [(5, .row 35 2 (o.map TRow.D))], []⟩)
theorem extend_Greatest_b5_ok (rd : Option Nat) (s1 : List TSlot) (s12 : List TRow) (s13 : Int) (s14 : Int) (s21 : Bool) (w5 : List TRow) (w8 : TRow) (o : (List TRow)) (h : extend_Greatest_b5 s1 s12 s13 s14 s21 w5 w8 = some o) : LpOf Try.prog rd (fbody Try.prog 28) [1, 1, 0, 0, 1, 1, 0, 0, 1, 0, 1, 1] (extend_Greatest_b5_I s1 s12 s13 s14 s21 w5 w8) (extend_Greatest_b5_O s1 s12 s13 s14 s21 w5 w8 o).1 (extend_Greatest_b5_O s1 s12 s13 s14 s21 w5 w8 o).2 := by
  unfold extend_Greatest_b5 at h
  cases s21 with
  | true =>
    replace h := iteT h
    replace h := chkE_some h
    obtain ⟨h12, h⟩ := h
    obtain rfl := Option.some.inj h
    exact (runB_arr mixed [(25, .sl ((w5 ++ [w8]).map TRow.D))] [] [.live [1, 5, 6, 12, 13, 14], .keep [25], .ren 25 5, .sort] (And.intro (nc_ok TRow.D [w8]) (And.intro (nc_ok TRow.D [w8]) (And.intro (fit_map TRow.D h12) (And.intro (app_map TRow.D w5 [w8]) (True.intro))))) (by kernel_rfl)).lp
  | false =>
    replace h := iteF h
    obtain rfl := Option.some.inj h
    exact (runB_arr mixed [] [] [.live [1, 5, 6, 12, 13, 14], .keep [5]] (True.intro) (by kernel_rfl)).lp
def extend_Greatest_b4_I (s1 : List TSlot) (s12 : List TRow) (s13 : Int) (s14 : Int) (w5 : List TRow) : St := ⟨sp 44 0 [(1, .d ((D.l TSlot.D) s1)), (5, .row 5), (6, .nil), (12, .d ((D.l TRow.D) s12)), (13, .d ((D.i .i64) s13)), (14, .d ((D.i .i64) s14))], [(5, .row 35 2 (w5.map TRow.D))], []⟩
def extend_Greatest_b4_O (s1 : List TSlot) (s12 : List TRow) (s13 : Int) (s14 : Int) (w5 : List TRow) (o : (List TRow)) : Ex × St := (.normal, ⟨sp 44 0 [(1, .d ((D.l TSlot.D) s1)), (5, .row 5), (6, .nil), (12, .d ((D.l TRow.D) s12)), (13, .d ((D.i .i64) s13)), (14, .d ((D.i .i64) s14))], [(5, .row 35 2 (o.map TRow.D))], []⟩)
theorem extend_Greatest_b4_ok (rd : Option Nat) (s1 : List TSlot) (s12 : List TRow) (s13 : Int) (s14 : Int) (w5 : List TRow) (o : (List TRow)) (h : extend_Greatest_b4 s1 s12 s13 s14 w5 = some o) : LpOf Try.prog rd (fbody Try.prog 28) [0, 1, 1, 0, 0, 1, 0, 1, 1] (extend_Greatest_b4_I s1 s12 s13 s14 w5) (extend_Greatest_b4_O s1 s12 s13 s14 w5 o).1 (extend_Greatest_b4_O s1 s12 s13 s14 w5 o).2 := by
  unfold extend_Greatest_b4 at h
  replace h := idxE_some h
  obtain ⟨x5, h9, h⟩ := h
  replace h := bndE_some h
  obtain ⟨r6, h10, h⟩ := h
  replace h := bndE_some h
  obtain ⟨o7, h13, h⟩ := h
  obtain rfl := Option.some.inj h
  exact (runB_arr mixed [(16, .el (TRow.D x5)), (21, .ret (.d (D.b r6)))] [⟨[1, 1, 0, 0, 1, 1, 0, 0, 1, 0, 1, 1], [.live [1, 5, 6, 8, 12, 13, 14, 21], .keep [5, 8]], .normal, (extend_Greatest_b5_O s1 s12 s13 s14 r6 w5 x5 o7).2⟩] [.live [1, 5, 6, 12, 13, 14], .keep [5]] (And.intro (elem_map TRow.D h9) (And.intro (binding_Under_ok x5.bind s1 r6 h10) (And.intro (extend_Greatest_b5_ok rd s1 s12 s13 s14 r6 w5 x5 o7 h13) (True.intro)))) (by kernel_rfl)).lp
def extend_Greatest_l1_I (s1 : List TSlot) (s12 : List TRow) (s13 : Int) (s14 : Int) (w5 : List TRow) : St := ⟨sp 44 0 [(1, .d ((D.l TSlot.D) s1)), (5, .row 5), (6, .nil), (12, .d ((D.l TRow.D) s12)), (13, .d ((D.i .i64) s13)), (14, .d ((D.i .i64) s14))], [(5, .row 35 2 (w5.map TRow.D))], []⟩
def extend_Greatest_l1_O (s1 : List TSlot) (s12 : List TRow) (s13 : Int) (o : (List TRow)) : Ex × St := (.exit 0, ⟨sp 44 0 [(5, .row 5), (6, .nil)], [(5, .row 35 2 (o.map TRow.D))], []⟩)
theorem extend_Greatest_l1_rnd (rd : Option Nat) (s1 : List TSlot) (s12 : List TRow) (s13 : Int) (s14 : Int) (w5 : List TRow) (o : (Int × List TRow) ⊕ ((List TRow))) (h : extend_Greatest_l1_s s1 s12 s13 s14 w5 = some o) : Arr Try.prog rd (fbody Try.prog 28) (0 :: [0, 1, 0, 1, 1]) (extend_Greatest_l1_I s1 s12 s13 s14 w5) (rR (fun s : Int × List TRow => extend_Greatest_l1_I s1 s12 s13 s.1 s.2) (extend_Greatest_l1_O s1 s12 s13) o).1 (rR (fun s : Int × List TRow => extend_Greatest_l1_I s1 s12 s13 s.1 s.2) (extend_Greatest_l1_O s1 s12 s13) o).2 := by
  unfold extend_Greatest_l1_s at h
  replace h := iteE_some h
  rcases h with ⟨h8, h⟩ | ⟨h8, h⟩
  · skip
    replace h := bndE_some h
    obtain ⟨o8, h14, h⟩ := h
    obtain rfl := Option.some.inj h
    exact runB_arr mixed [(15, .bit true)] [⟨[0, 1, 1, 0, 0, 1, 0, 1, 1], [.live [1, 5, 6, 12, 13, 14], .keep [5]], .normal, (extend_Greatest_b4_O s1 s12 s13 s14 w5 o8).2⟩] [.live [1, 5, 6, 12, 13, 14], .keep [5]] (And.intro h8 (And.intro (extend_Greatest_b4_ok rd s1 s12 s13 s14 w5 o8 h14) (True.intro))) (by kernel_rfl)
  · skip
    obtain rfl := Option.some.inj h
    exact runB_arr mixed [(15, .bit false)] [] [.live [5, 6], .keep [5]] (And.intro h8 (True.intro)) (by kernel_rfl)
theorem extend_Greatest_l1_ok (rd : Option Nat) (s1 : List TSlot) (s12 : List TRow) (s13 : Int) (s14 : Int) (w5 : List TRow) (t : (List TRow)) (h : extend_Greatest_l1 s1 s12 s13 s14 w5 = some t) : LpOf Try.prog rd (fbody Try.prog 28) [0, 1, 0, 1, 1] (extend_Greatest_l1_I s1 s12 s13 s14 w5) ((extend_Greatest_l1_O s1 s12 s13) t).1 ((extend_Greatest_l1_O s1 s12 s13) t).2 :=
  loopE_lpR (fun s : Int × List TRow => extend_Greatest_l1_I s1 s12 s13 s.1 s.2) (extend_Greatest_l1_O s1 s12 s13) (by kernel_rfl) (fun t => isN_ne (by rfl)) (fun s o h => extend_Greatest_l1_rnd rd s1 s12 s13 s.1 s.2 o h) (s := (s14, w5)) (t := t) h
def extend_Greatest_b10_I (s28 : Int) (s29 : Int) (s37 : Bool) (w5 : List TRow) (w6 : List TRow) (w10 : TRow) : St := ⟨sp 44 0 [(5, .row 5), (6, .row 6), (10, .box 10 0), (27, .row 5), (28, .d ((D.i .i64) s28)), (29, .d ((D.i .i64) s29)), (37, .d (D.b s37))], [(5, .row 35 2 (w5.map TRow.D)), (6, .row 35 2 (w6.map TRow.D)), (10, .fz (D.cells (TRow.D w10)))], []⟩
def extend_Greatest_b10_O (s28 : Int) (s29 : Int) (s37 : Bool) (w5 : List TRow) (w6 : List TRow) (w10 : TRow) (o : (List TRow)) : Ex × St := (.normal, ⟨sp 44 0 [(5, .row 5), (6, .row 6), (27, .row 5), (28, .d ((D.i .i64) s28)), (29, .d ((D.i .i64) s29))], [(5, .row 35 2 (w5.map TRow.D)), (6, .row 35 2 (o.map TRow.D))], []⟩)
theorem extend_Greatest_b10_ok (rd : Option Nat) (s28 : Int) (s29 : Int) (s37 : Bool) (w5 : List TRow) (w6 : List TRow) (w10 : TRow) (o : (List TRow)) (h : extend_Greatest_b10 s28 s29 s37 w5 w6 w10 = some o) : LpOf Try.prog rd (fbody Try.prog 28) [1, 1, 1, 0, 0, 1, 1, 0, 0, 1, 0, 1, 1, 1] (extend_Greatest_b10_I s28 s29 s37 w5 w6 w10) (extend_Greatest_b10_O s28 s29 s37 w5 w6 w10 o).1 (extend_Greatest_b10_O s28 s29 s37 w5 w6 w10 o).2 := by
  unfold extend_Greatest_b10 at h
  cases s37 with
  | true =>
    replace h := iteT h
    replace h := chkE_some h
    obtain ⟨h27, h⟩ := h
    obtain rfl := Option.some.inj h
    exact (runB_arr mixed [(41, .sl ((w6 ++ [w10]).map TRow.D))] [] [.live [5, 6, 27, 28, 29], .keep [5, 41], .ren 41 6, .sort] (And.intro (nc_ok TRow.D [w10]) (And.intro (nc_ok TRow.D [w10]) (And.intro (fit_map TRow.D h27) (And.intro (app_map TRow.D w6 [w10]) (True.intro))))) (by kernel_rfl)).lp
  | false =>
    replace h := iteF h
    obtain rfl := Option.some.inj h
    exact (runB_arr mixed [] [] [.live [5, 6, 27, 28, 29], .keep [5, 6]] (True.intro) (by kernel_rfl)).lp
def extend_Greatest_b9_I (s28 : Int) (s29 : Int) (w5 : List TRow) (w6 : List TRow) : St := ⟨sp 44 0 [(5, .row 5), (6, .row 6), (27, .row 5), (28, .d ((D.i .i64) s28)), (29, .d ((D.i .i64) s29))], [(5, .row 35 2 (w5.map TRow.D)), (6, .row 35 2 (w6.map TRow.D))], []⟩
def extend_Greatest_b9_O (s28 : Int) (s29 : Int) (w5 : List TRow) (w6 : List TRow) (o : (List TRow)) : Ex × St := (.normal, ⟨sp 44 0 [(5, .row 5), (6, .row 6), (27, .row 5), (28, .d ((D.i .i64) s28)), (29, .d ((D.i .i64) s29))], [(5, .row 35 2 (w5.map TRow.D)), (6, .row 35 2 (o.map TRow.D))], []⟩)
theorem extend_Greatest_b9_ok (rd : Option Nat) (s28 : Int) (s29 : Int) (w5 : List TRow) (w6 : List TRow) (o : (List TRow)) (h : extend_Greatest_b9 s28 s29 w5 w6 = some o) : LpOf Try.prog rd (fbody Try.prog 28) [0, 1, 1, 0, 0, 1, 0, 1, 1, 1] (extend_Greatest_b9_I s28 s29 w5 w6) (extend_Greatest_b9_O s28 s29 w5 w6 o).1 (extend_Greatest_b9_O s28 s29 w5 w6 o).2 := by
  unfold extend_Greatest_b9 at h
  replace h := idxE_some h
  obtain ⟨x14, h24, h⟩ := h
  replace h := bndE_some h
  obtain ⟨r15, h25, h⟩ := h
  replace h := bndE_some h
  obtain ⟨o16, h28, h⟩ := h
  obtain rfl := Option.some.inj h
  exact (runB_arr mixed [(31, .el (TRow.D x14)), (10010, .frz), (36, .ret (.d (D.b r15)))] [⟨[1, 1, 1, 0, 0, 1, 1, 0, 0, 1, 0, 1, 1, 1], [.live [5, 6, 10, 27, 28, 29, 37], .keep [5, 6, 10]], .normal, (extend_Greatest_b10_O s28 s29 (!r15) w5 w6 x14 o16).2⟩] [.live [5, 6, 27, 28, 29], .keep [5, 6]] (And.intro (elem_map TRow.D h24) (And.intro (slices_ContainsFunc_Row_Row_ok w5 x14 r15 h25) (And.intro (extend_Greatest_b10_ok rd s28 s29 (!r15) w5 w6 x14 o16 h28) (True.intro)))) (by kernel_rfl)).lp
def extend_Greatest_l6_I (s28 : Int) (w5 : List TRow) (s29 : Int) (w6 : List TRow) : St := ⟨sp 44 0 [(5, .row 5), (6, .row 6), (27, .row 5), (28, .d ((D.i .i64) s28)), (29, .d ((D.i .i64) s29))], [(5, .row 35 2 (w5.map TRow.D)), (6, .row 35 2 (w6.map TRow.D))], []⟩
def extend_Greatest_l6_O (s28 : Int) (w5 : List TRow) (o : (List TRow)) : Ex × St := (.exit 2, ⟨sp 44 0 [(6, .row 6)], [(6, .row 35 2 (o.map TRow.D))], []⟩)
theorem extend_Greatest_l6_rnd (rd : Option Nat) (s28 : Int) (w5 : List TRow) (s29 : Int) (w6 : List TRow) (o : (Int × List TRow) ⊕ ((List TRow))) (h : extend_Greatest_l6_s s28 w5 s29 w6 = some o) : Arr Try.prog rd (fbody Try.prog 28) (0 :: [0, 1, 0, 1, 1, 1]) (extend_Greatest_l6_I s28 w5 s29 w6) (rR (fun s : Int × List TRow => extend_Greatest_l6_I s28 w5 s.1 s.2) (extend_Greatest_l6_O s28 w5) o).1 (rR (fun s : Int × List TRow => extend_Greatest_l6_I s28 w5 s.1 s.2) (extend_Greatest_l6_O s28 w5) o).2 := by
  unfold extend_Greatest_l6_s at h
  replace h := iteE_some h
  rcases h with ⟨h23, h⟩ | ⟨h23, h⟩
  · skip
    replace h := bndE_some h
    obtain ⟨o17, h29, h⟩ := h
    obtain rfl := Option.some.inj h
    exact runB_arr mixed [(30, .bit true)] [⟨[0, 1, 1, 0, 0, 1, 0, 1, 1, 1], [.live [5, 6, 27, 28, 29], .keep [5, 6]], .normal, (extend_Greatest_b9_O s28 s29 w5 w6 o17).2⟩] [.live [5, 6, 27, 28, 29], .keep [5, 6]] (And.intro h23 (And.intro (extend_Greatest_b9_ok rd s28 s29 w5 w6 o17 h29) (True.intro))) (by kernel_rfl)
  · skip
    obtain rfl := Option.some.inj h
    exact runB_arr mixed [(30, .bit false)] [] [.live [6], .keep [6]] (And.intro h23 (True.intro)) (by kernel_rfl)
theorem extend_Greatest_l6_ok (rd : Option Nat) (s28 : Int) (w5 : List TRow) (s29 : Int) (w6 : List TRow) (t : (List TRow)) (h : extend_Greatest_l6 s28 w5 s29 w6 = some t) : LpOf Try.prog rd (fbody Try.prog 28) [0, 1, 0, 1, 1, 1] (extend_Greatest_l6_I s28 w5 s29 w6) ((extend_Greatest_l6_O s28 w5) t).1 ((extend_Greatest_l6_O s28 w5) t).2 :=
  loopE_lpR (fun s : Int × List TRow => extend_Greatest_l6_I s28 w5 s.1 s.2) (extend_Greatest_l6_O s28 w5) (by kernel_rfl) (fun t => isN_ne (by rfl)) (fun s o h => extend_Greatest_l6_rnd rd s28 w5 s.1 s.2 o h) (s := (s29, w6)) (t := t) h
theorem extend_Greatest_ok (a0 : List TRow) (a1 : List TSlot) (r : List TRow) (h : extend_Greatest a0 a1 = some r) : ACall Try.prog 28 [.d ((D.l TRow.D) a0), .d ((D.l TSlot.D) a1)] [] (.d ((D.l TRow.D) r)) [] := by
  unfold extend_Greatest at h
  replace h := bndE_some h
  obtain ⟨o9, h15, h⟩ := h
  replace h := bndE_some h
  obtain ⟨o18, h30, h⟩ := h
  obtain rfl := Option.some.inj h
  exact runF_call mixed [(13, .int (a0.length : Int)), (28, .int (o9.length : Int))] [⟨[0, 1, 0, 1, 1], [.live [1, 5, 6, 12, 13, 14], .keep [], .nil 5 5 35 2, .sort], .exit 0, (extend_Greatest_l1_O a1 a0 (a0.length : Int) o9).2⟩, ⟨[0, 1, 0, 1, 1, 1], [.live [5, 6, 27, 28, 29], .keep [5], .nil 6 6 35 2, .sort], .exit 2, (extend_Greatest_l6_O (o9.length : Int) o9 o18).2⟩] [] (And.intro (len_map TRow.D a0) (And.intro (extend_Greatest_l1_ok none a1 a0 (a0.length : Int) 0 ([] : List TRow) o9 h15) (And.intro (len_map TRow.D o9) (And.intro (extend_Greatest_l6_ok none (o9.length : Int) o9 0 ([] : List TRow) o18 h30) (True.intro))))) (by kernel_rfl)
theorem prune_Below_ok (a0 : List TRow) (a1 : Int) (r : List TRow) (h : prune_Below a0 a1 = some r) : ACall Try.prog 11 [.d ((D.l TRow.D) a0), .d ((D.i .i64) a1)] [] (.d ((D.l TRow.D) r)) [] := by
  unfold prune_Below at h
  replace h := iteE_some h
  rcases h with ⟨h1, h⟩ | ⟨h1, h⟩
  · skip
    obtain rfl := Option.some.inj h
    exact runF_call mixed [(8, .bit true)] [] [] (And.intro h1 (True.intro)) (by kernel_rfl)
  · skip
    replace h := iteE_some h
    rcases h with ⟨h2, h⟩ | ⟨h2, h⟩
    · skip
      obtain rfl := Option.some.inj h
      exact runF_call mixed [(8, .bit false), (11, .int (a0.length : Int)), (13, .bit true)] [] [] (And.intro h1 (And.intro (len_map TRow.D a0) (And.intro h2 (True.intro)))) (by kernel_rfl)
    · skip
      replace h := idxE_some h
      obtain ⟨x1, h3, h⟩ := h
      replace h := bndE_some h
      obtain ⟨r2, h4, h⟩ := h
      replace h := bndE_some h
      obtain ⟨r3, h5, h⟩ := h
      obtain rfl := Option.some.inj h
      exact runF_call mixed [(8, .bit false), (11, .int (a0.length : Int)), (13, .bit false), (16, .el (TRow.D x1)), (10005, .frz), (21, .ret (.d ((D.l TRow.D) r2))), (23, .ret (.d ((D.l TRow.D) r3)))] [] [] (And.intro h1 (And.intro (len_map TRow.D a0) (And.intro h2 (And.intro (elem_map TRow.D h3) (And.intro (prune_keep_Row_ok a0 x1.bind r2 h4) (And.intro (extend_Greatest_ok r2 x1.bind r3 h5) (True.intro))))))) (by kernel_rfl)
def slices_Equal_Value_Value_l1_I (s0 : List TValue) (s1 : List TValue) (s12 : Int) (s13 : Int) : St := ⟨sp 26 0 [(0, .d ((D.l TValue.D) s0)), (1, .d ((D.l TValue.D) s1)), (12, .d ((D.i .i64) s12)), (13, .d ((D.i .i64) s13))], [], []⟩
def slices_Equal_Value_Value_l1_O (s0 : List TValue) (s1 : List TValue) (s12 : Int) (o : Unit ⊕ Unit) : Ex × St := match o with
  | .inl o => (.exit 0, ⟨sp 26 0 [], [], []⟩)
  | .inr o => (.ret, ⟨sp 26 0 [(4, .d (D.b false))], [], []⟩)
theorem slices_Equal_Value_Value_l1_rnd (rd : Option Nat) (s0 : List TValue) (s1 : List TValue) (s12 : Int) (s13 : Int) (o : (Int) ⊕ (Unit ⊕ Unit)) (h : slices_Equal_Value_Value_l1_s s0 s1 s12 s13 = some o) : Arr Try.prog rd (fbody Try.prog 51) (0 :: [0, 1, 0, 1, 1]) (slices_Equal_Value_Value_l1_I s0 s1 s12 s13) (rR (fun s : Int => slices_Equal_Value_Value_l1_I s0 s1 s12 s) (slices_Equal_Value_Value_l1_O s0 s1 s12) o).1 (rR (fun s : Int => slices_Equal_Value_Value_l1_I s0 s1 s12 s) (slices_Equal_Value_Value_l1_O s0 s1 s12) o).2 := by
  unfold slices_Equal_Value_Value_l1_s at h
  replace h := iteE_some h
  rcases h with ⟨h2, h⟩ | ⟨h2, h⟩
  · skip
    replace h := idxE_some h
    obtain ⟨x1, h3, h⟩ := h
    replace h := idxE_some h
    obtain ⟨x2, h4, h⟩ := h
    replace h := iteE_some h
    rcases h with ⟨h5, h⟩ | ⟨h5, h⟩
    · skip
      obtain rfl := Option.some.inj h
      exact runB_arr mixed [(14, .bit true), (18, .el (TValue.D x1)), (22, .el (TValue.D x2)), (24, .bit true)] [] [.live [4], .keep []] (And.intro h2 (And.intro (elem_map TValue.D h3) (And.intro (elem_map TValue.D h4) (And.intro h5 (True.intro))))) (by kernel_rfl)
    · skip
      obtain rfl := Option.some.inj h
      exact runB_arr mixed [(14, .bit true), (18, .el (TValue.D x1)), (22, .el (TValue.D x2)), (24, .bit false)] [] [.live [0, 1, 12, 13], .keep []] (And.intro h2 (And.intro (elem_map TValue.D h3) (And.intro (elem_map TValue.D h4) (And.intro h5 (True.intro))))) (by kernel_rfl)
  · skip
    obtain rfl := Option.some.inj h
    exact runB_arr mixed [(14, .bit false)] [] [.live [], .keep []] (And.intro h2 (True.intro)) (by kernel_rfl)
theorem slices_Equal_Value_Value_l1_ok (rd : Option Nat) (s0 : List TValue) (s1 : List TValue) (s12 : Int) (s13 : Int) (t : Unit ⊕ Unit) (h : slices_Equal_Value_Value_l1 s0 s1 s12 s13 = some t) : LpOf Try.prog rd (fbody Try.prog 51) [0, 1, 0, 1, 1] (slices_Equal_Value_Value_l1_I s0 s1 s12 s13) ((slices_Equal_Value_Value_l1_O s0 s1 s12) t).1 ((slices_Equal_Value_Value_l1_O s0 s1 s12) t).2 :=
  loopE_lpR (fun s : Int => slices_Equal_Value_Value_l1_I s0 s1 s12 s) (slices_Equal_Value_Value_l1_O s0 s1 s12) (by kernel_rfl) (fun t => isN_ne (by rcases t with (_ | _) <;> rfl)) (fun s o h => slices_Equal_Value_Value_l1_rnd rd s0 s1 s12 s o h) (s := s13) (t := t) h
theorem slices_Equal_Value_Value_ok (a0 : List TValue) (a1 : List TValue) (r : Bool) (h : slices_Equal_Value_Value a0 a1 = some r) : ACall Try.prog 51 [.d ((D.l TValue.D) a0), .d ((D.l TValue.D) a1)] [] (.d (D.b r)) [] := by
  unfold slices_Equal_Value_Value at h
  replace h := iteE_some h
  rcases h with ⟨h1, h⟩ | ⟨h1, h⟩
  · skip
    obtain rfl := Option.some.inj h
    exact runF_call mixed [(7, .int (a0.length : Int)), (9, .int (a1.length : Int)), (10, .bit true)] [] [] (And.intro (len_map TValue.D a0) (And.intro (len_map TValue.D a1) (And.intro h1 (True.intro)))) (by kernel_rfl)
  · skip
    replace h := bndE_some h
    obtain ⟨o3, h6, h⟩ := h
    replace h := sumE_some h
    rcases h with ⟨o4, rfl, h⟩ | ⟨o5, rfl, h⟩
    · skip
      obtain rfl := Option.some.inj h
      exact runF_call mixed [(7, .int (a0.length : Int)), (9, .int (a1.length : Int)), (10, .bit false), (12, .int (a0.length : Int))] [⟨[0, 1, 0, 1, 1], [.live [0, 1, 12, 13], .keep []], .exit 0, (slices_Equal_Value_Value_l1_O a0 a1 (a0.length : Int) (Sum.inl o4)).2⟩] [] (And.intro (len_map TValue.D a0) (And.intro (len_map TValue.D a1) (And.intro h1 (And.intro (len_map TValue.D a0) (And.intro (slices_Equal_Value_Value_l1_ok none a0 a1 (a0.length : Int) 0 (Sum.inl o4) h6) (True.intro)))))) (by kernel_rfl)
    · skip
      obtain rfl := Option.some.inj h
      exact runF_call mixed [(7, .int (a0.length : Int)), (9, .int (a1.length : Int)), (10, .bit false), (12, .int (a0.length : Int))] [⟨[0, 1, 0, 1, 1], [.live [0, 1, 12, 13], .keep []], .ret, (slices_Equal_Value_Value_l1_O a0 a1 (a0.length : Int) (Sum.inr o5)).2⟩] [] (And.intro (len_map TValue.D a0) (And.intro (len_map TValue.D a1) (And.intro h1 (And.intro (len_map TValue.D a0) (And.intro (slices_Equal_Value_Value_l1_ok none a0 a1 (a0.length : Int) 0 (Sum.inr o5) h6) (True.intro)))))) (by kernel_rfl)
theorem config_one_ok (a0 : TConfig) (a1 : TConfig) (r : Bool) (h : config_one a0 a1 = some r) : ACall Try.prog 48 [.d (TConfig.D a0), .d (TConfig.D a1)] [] (.d (D.b r)) [] := by
  unfold config_one at h
  replace h := iteE_some h
  rcases h with ⟨h1, h⟩ | ⟨h1, h⟩
  · skip
    replace h := bndE_some h
    obtain ⟨r1, h2, h⟩ := h
    obtain rfl := Option.some.inj h
    exact runF_call mixed [(10, .bit true), (15, .ret (.d (D.b r1)))] [] [] (And.intro h1 (And.intro (slices_Equal_Value_Value_ok a0.vals a1.vals r1 h2) (True.intro))) (by kernel_rfl)
  · skip
    obtain rfl := Option.some.inj h
    exact runF_call mixed [(10, .bit false)] [] [] (And.intro h1 (True.intro)) (by kernel_rfl)
def slices_EqualFunc_Config_Config_Config_Config_l1_I (s1 : List TConfig) (s15 : List TConfig) (s16 : Int) (s17 : Int) : St := ⟨sp 32 0 [(1, .d ((D.l TConfig.D) s1)), (2, .clo (.func 48) [] []), (15, .d ((D.l TConfig.D) s15)), (16, .d ((D.i .i64) s16)), (17, .d ((D.i .i64) s17))], [], []⟩
def slices_EqualFunc_Config_Config_Config_Config_l1_O (s1 : List TConfig) (s15 : List TConfig) (s16 : Int) (o : Unit ⊕ Unit) : Ex × St := match o with
  | .inl o => (.exit 0, ⟨sp 32 0 [], [], []⟩)
  | .inr o => (.ret, ⟨sp 32 0 [(6, .d (D.b false))], [], []⟩)
theorem slices_EqualFunc_Config_Config_Config_Config_l1_rnd (rd : Option Nat) (s1 : List TConfig) (s15 : List TConfig) (s16 : Int) (s17 : Int) (o : (Int) ⊕ (Unit ⊕ Unit)) (h : slices_EqualFunc_Config_Config_Config_Config_l1_s s1 s15 s16 s17 = some o) : Arr Try.prog rd (fbody Try.prog 47) (0 :: [0, 1, 0, 1, 1]) (slices_EqualFunc_Config_Config_Config_Config_l1_I s1 s15 s16 s17) (rR (fun s : Int => slices_EqualFunc_Config_Config_Config_Config_l1_I s1 s15 s16 s) (slices_EqualFunc_Config_Config_Config_Config_l1_O s1 s15 s16) o).1 (rR (fun s : Int => slices_EqualFunc_Config_Config_Config_Config_l1_I s1 s15 s16 s) (slices_EqualFunc_Config_Config_Config_Config_l1_O s1 s15 s16) o).2 := by
  unfold slices_EqualFunc_Config_Config_Config_Config_l1_s at h
  replace h := iteE_some h
  rcases h with ⟨h2, h⟩ | ⟨h2, h⟩
  · skip
    replace h := idxE_some h
    obtain ⟨x1, h3, h⟩ := h
    replace h := idxE_some h
    obtain ⟨x2, h4, h⟩ := h
    replace h := bndE_some h
    obtain ⟨r3, h5, h⟩ := h
    replace h := iteE_some h
    rcases h with ⟨h6, h⟩ | ⟨h6, h⟩
    · skip
      obtain rfl := Option.some.inj h
      exact runB_arr mixed [(18, .bit true), (20, .el (TConfig.D x1)), (24, .el (TConfig.D x2)), (29, .ret (.d (D.b r3))), (30, .bit true)] [] [.live [6], .keep []] (And.intro h2 (And.intro (elem_map TConfig.D h3) (And.intro (elem_map TConfig.D h4) (And.intro (config_one_ok x1 x2 r3 h5) (And.intro h6 (True.intro)))))) (by kernel_rfl)
    · skip
      obtain rfl := Option.some.inj h
      exact runB_arr mixed [(18, .bit true), (20, .el (TConfig.D x1)), (24, .el (TConfig.D x2)), (29, .ret (.d (D.b r3))), (30, .bit false)] [] [.live [1, 2, 15, 16, 17], .keep []] (And.intro h2 (And.intro (elem_map TConfig.D h3) (And.intro (elem_map TConfig.D h4) (And.intro (config_one_ok x1 x2 r3 h5) (And.intro h6 (True.intro)))))) (by kernel_rfl)
  · skip
    obtain rfl := Option.some.inj h
    exact runB_arr mixed [(18, .bit false)] [] [.live [], .keep []] (And.intro h2 (True.intro)) (by kernel_rfl)
theorem slices_EqualFunc_Config_Config_Config_Config_l1_ok (rd : Option Nat) (s1 : List TConfig) (s15 : List TConfig) (s16 : Int) (s17 : Int) (t : Unit ⊕ Unit) (h : slices_EqualFunc_Config_Config_Config_Config_l1 s1 s15 s16 s17 = some t) : LpOf Try.prog rd (fbody Try.prog 47) [0, 1, 0, 1, 1] (slices_EqualFunc_Config_Config_Config_Config_l1_I s1 s15 s16 s17) ((slices_EqualFunc_Config_Config_Config_Config_l1_O s1 s15 s16) t).1 ((slices_EqualFunc_Config_Config_Config_Config_l1_O s1 s15 s16) t).2 :=
  loopE_lpR (fun s : Int => slices_EqualFunc_Config_Config_Config_Config_l1_I s1 s15 s16 s) (slices_EqualFunc_Config_Config_Config_Config_l1_O s1 s15 s16) (by kernel_rfl) (fun t => isN_ne (by rcases t with (_ | _) <;> rfl)) (fun s o h => slices_EqualFunc_Config_Config_Config_Config_l1_rnd rd s1 s15 s16 s o h) (s := s17) (t := t) h
theorem slices_EqualFunc_Config_Config_Config_Config_ok (a0 : List TConfig) (a1 : List TConfig) (r : Bool) (h : slices_EqualFunc_Config_Config_Config_Config a0 a1 = some r) : ACall Try.prog 47 [.d ((D.l TConfig.D) a0), .d ((D.l TConfig.D) a1), .clo (.func 48) [] []] [] (.d (D.b r)) [] := by
  unfold slices_EqualFunc_Config_Config_Config_Config at h
  replace h := iteE_some h
  rcases h with ⟨h1, h⟩ | ⟨h1, h⟩
  · skip
    obtain rfl := Option.some.inj h
    exact runF_call mixed [(11, .int (a0.length : Int)), (13, .int (a1.length : Int)), (14, .bit true)] [] [] (And.intro (len_map TConfig.D a0) (And.intro (len_map TConfig.D a1) (And.intro h1 (True.intro)))) (by kernel_rfl)
  · skip
    replace h := bndE_some h
    obtain ⟨o4, h7, h⟩ := h
    replace h := sumE_some h
    rcases h with ⟨o5, rfl, h⟩ | ⟨o6, rfl, h⟩
    · skip
      obtain rfl := Option.some.inj h
      exact runF_call mixed [(11, .int (a0.length : Int)), (13, .int (a1.length : Int)), (14, .bit false), (16, .int (a0.length : Int))] [⟨[0, 1, 0, 1, 1], [.live [1, 2, 15, 16, 17], .keep []], .exit 0, (slices_EqualFunc_Config_Config_Config_Config_l1_O a1 a0 (a0.length : Int) (Sum.inl o5)).2⟩] [] (And.intro (len_map TConfig.D a0) (And.intro (len_map TConfig.D a1) (And.intro h1 (And.intro (len_map TConfig.D a0) (And.intro (slices_EqualFunc_Config_Config_Config_Config_l1_ok none a1 a0 (a0.length : Int) 0 (Sum.inl o5) h7) (True.intro)))))) (by kernel_rfl)
    · skip
      obtain rfl := Option.some.inj h
      exact runF_call mixed [(11, .int (a0.length : Int)), (13, .int (a1.length : Int)), (14, .bit false), (16, .int (a0.length : Int))] [⟨[0, 1, 0, 1, 1], [.live [1, 2, 15, 16, 17], .keep []], .ret, (slices_EqualFunc_Config_Config_Config_Config_l1_O a1 a0 (a0.length : Int) (Sum.inr o6)).2⟩] [] (And.intro (len_map TConfig.D a0) (And.intro (len_map TConfig.D a1) (And.intro h1 (And.intro (len_map TConfig.D a0) (And.intro (slices_EqualFunc_Config_Config_Config_Config_l1_ok none a1 a0 (a0.length : Int) 0 (Sum.inr o6) h7) (True.intro)))))) (by kernel_rfl)
theorem config_Same_ok (a0 : List TConfig) (a1 : List TConfig) (r : Bool) (h : config_Same a0 a1 = some r) : ACall Try.prog 40 [.d ((D.l TConfig.D) a0), .d ((D.l TConfig.D) a1)] [] (.d (D.b r)) [] := by
  unfold config_Same at h
  replace h := bndE_some h
  obtain ⟨r1, h1, h⟩ := h
  obtain rfl := Option.some.inj h
  exact runF_call mixed [(7, .ret (.d (D.b r1)))] [] [] (And.intro (slices_EqualFunc_Config_Config_Config_Config_ok a0 a1 r1 h1) (True.intro)) (by kernel_rfl)
theorem prune_sameSet_ok (a0 : TRow) (a1 : TRow) (r : Bool) (h : prune_sameSet a0 a1 = some r) : ACall Try.prog 27 [.d (TRow.D a0), .d (TRow.D a1)] [] (.d (D.b r)) [] := by
  unfold prune_sameSet at h
  replace h := bndE_some h
  obtain ⟨r1, h1, h⟩ := h
  obtain rfl := Option.some.inj h
  exact runF_call mixed [(9, .ret (.d (D.b r1)))] [] [] (And.intro (config_Same_ok a0.set a1.set r1 h1) (True.intro)) (by kernel_rfl)
theorem prune_alike_Row_1_ok (a0 : TRow) (a2 : TRow) (r : Bool) (h : prune_alike_Row_1 a0 a2 = some r) : ACall Try.prog 39 [.d (TRow.D a0), .eptr [.v (.func (.func 27) #[] #[])], .eptr (D.cells (TRow.D a2))] [] (.d (D.b r)) [] := by
  unfold prune_alike_Row_1 at h
  replace h := bndE_some h
  obtain ⟨r1, h1, h⟩ := h
  obtain rfl := Option.some.inj h
  exact runF_call mixed [(8, .ret (.d (D.b r1)))] [] [] (And.intro (prune_sameSet_ok a2 a0 r1 h1) (True.intro)) (by kernel_rfl)
def slices_IndexFunc_Row_Row_v2_l1_I (s0 : List TRow) (s1 : TRow) (s7 : Int) (s8 : Int) : St := ⟨sp 19 0 [(0, .d ((D.l TRow.D) s0)), (1, .clo (.func 39) [] [.eptr [.v (.func (.func 27) #[] #[])], .eptr (D.cells (TRow.D s1))]), (7, .d ((D.i .i64) s7)), (8, .d ((D.i .i64) s8))], [], []⟩
def slices_IndexFunc_Row_Row_v2_l1_O (s0 : List TRow) (s1 : TRow) (s7 : Int) (o : Unit ⊕ Int) : Ex × St := match o with
  | .inl o => (.exit 0, ⟨sp 19 0 [], [], []⟩)
  | .inr o => (.ret, ⟨sp 19 0 [(4, .d ((D.i .i64) o))], [], []⟩)
theorem slices_IndexFunc_Row_Row_v2_l1_rnd (rd : Option Nat) (s0 : List TRow) (s1 : TRow) (s7 : Int) (s8 : Int) (o : (Int) ⊕ (Unit ⊕ Int)) (h : slices_IndexFunc_Row_Row_v2_l1_s s0 s1 s7 s8 = some o) : Arr Try.prog rd (fbody Try.prog 46) (0 :: [0, 1, 0, 1]) (slices_IndexFunc_Row_Row_v2_l1_I s0 s1 s7 s8) (rR (fun s : Int => slices_IndexFunc_Row_Row_v2_l1_I s0 s1 s7 s) (slices_IndexFunc_Row_Row_v2_l1_O s0 s1 s7) o).1 (rR (fun s : Int => slices_IndexFunc_Row_Row_v2_l1_I s0 s1 s7 s) (slices_IndexFunc_Row_Row_v2_l1_O s0 s1 s7) o).2 := by
  unfold slices_IndexFunc_Row_Row_v2_l1_s at h
  replace h := iteE_some h
  rcases h with ⟨h1, h⟩ | ⟨h1, h⟩
  · skip
    replace h := idxE_some h
    obtain ⟨x1, h2, h⟩ := h
    replace h := bndE_some h
    obtain ⟨r2, h3, h⟩ := h
    cases r2 with
    | true =>
      replace h := iteT h
      obtain rfl := Option.some.inj h
      exact runB_arr mixed [(9, .bit true), (14, .el (TRow.D x1)), (16, .ret (.d (D.b true)))] [] [.live [4], .keep []] (And.intro h1 (And.intro (elem_map TRow.D h2) (And.intro (prune_alike_Row_1_ok x1 s1 true h3) (True.intro)))) (by kernel_rfl)
    | false =>
      replace h := iteF h
      obtain rfl := Option.some.inj h
      exact runB_arr mixed [(9, .bit true), (14, .el (TRow.D x1)), (16, .ret (.d (D.b false)))] [] [.live [0, 1, 7, 8], .keep []] (And.intro h1 (And.intro (elem_map TRow.D h2) (And.intro (prune_alike_Row_1_ok x1 s1 false h3) (True.intro)))) (by kernel_rfl)
  · skip
    obtain rfl := Option.some.inj h
    exact runB_arr mixed [(9, .bit false)] [] [.live [], .keep []] (And.intro h1 (True.intro)) (by kernel_rfl)
theorem slices_IndexFunc_Row_Row_v2_l1_ok (rd : Option Nat) (s0 : List TRow) (s1 : TRow) (s7 : Int) (s8 : Int) (t : Unit ⊕ Int) (h : slices_IndexFunc_Row_Row_v2_l1 s0 s1 s7 s8 = some t) : LpOf Try.prog rd (fbody Try.prog 46) [0, 1, 0, 1] (slices_IndexFunc_Row_Row_v2_l1_I s0 s1 s7 s8) ((slices_IndexFunc_Row_Row_v2_l1_O s0 s1 s7) t).1 ((slices_IndexFunc_Row_Row_v2_l1_O s0 s1 s7) t).2 :=
  loopE_lpR (fun s : Int => slices_IndexFunc_Row_Row_v2_l1_I s0 s1 s7 s) (slices_IndexFunc_Row_Row_v2_l1_O s0 s1 s7) (by kernel_rfl) (fun t => isN_ne (by rcases t with (_ | _) <;> rfl)) (fun s o h => slices_IndexFunc_Row_Row_v2_l1_rnd rd s0 s1 s7 s o h) (s := s8) (t := t) h
theorem slices_IndexFunc_Row_Row_v2_ok (a0 : List TRow) (a1 : TRow) (r : Int) (h : slices_IndexFunc_Row_Row_v2 a0 a1 = some r) : ACall Try.prog 46 [.d ((D.l TRow.D) a0), .clo (.func 39) [] [.eptr [.v (.func (.func 27) #[] #[])], .eptr (D.cells (TRow.D a1))]] [] (.d ((D.i .i64) r)) [] := by
  unfold slices_IndexFunc_Row_Row_v2 at h
  replace h := bndE_some h
  obtain ⟨o3, h5, h⟩ := h
  replace h := sumE_some h
  rcases h with ⟨o4, rfl, h⟩ | ⟨o5, rfl, h⟩
  · skip
    obtain rfl := Option.some.inj h
    exact runF_call mixed [(7, .int (a0.length : Int))] [⟨[0, 1, 0, 1], [.live [0, 1, 7, 8], .keep []], .exit 0, (slices_IndexFunc_Row_Row_v2_l1_O a0 a1 (a0.length : Int) (Sum.inl o4)).2⟩] [] (And.intro (len_map TRow.D a0) (And.intro (slices_IndexFunc_Row_Row_v2_l1_ok none a0 a1 (a0.length : Int) 0 (Sum.inl o4) h5) (True.intro))) (by kernel_rfl)
  · skip
    obtain rfl := Option.some.inj h
    exact runF_call mixed [(7, .int (a0.length : Int))] [⟨[0, 1, 0, 1], [.live [0, 1, 7, 8], .keep []], .ret, (slices_IndexFunc_Row_Row_v2_l1_O a0 a1 (a0.length : Int) (Sum.inr o5)).2⟩] [] (And.intro (len_map TRow.D a0) (And.intro (slices_IndexFunc_Row_Row_v2_l1_ok none a0 a1 (a0.length : Int) 0 (Sum.inr o5) h5) (True.intro))) (by kernel_rfl)
theorem slices_ContainsFunc_Row_Row_v2_ok (a0 : List TRow) (a1 : TRow) (r : Bool) (h : slices_ContainsFunc_Row_Row_v2 a0 a1 = some r) : ACall Try.prog 38 [.d ((D.l TRow.D) a0), .clo (.func 39) [] [.eptr [.v (.func (.func 27) #[] #[])], .eptr (D.cells (TRow.D a1))]] [] (.d (D.b r)) [] := by
  unfold slices_ContainsFunc_Row_Row_v2 at h
  replace h := bndE_some h
  obtain ⟨r1, h1, h⟩ := h
  obtain rfl := Option.some.inj h
  exact runF_call mixed [(7, .ret (.d ((D.i .i64) r1)))] [] [] (And.intro (slices_IndexFunc_Row_Row_v2_ok a0 a1 r1 h1) (True.intro)) (by kernel_rfl)
theorem prune_alike_Row_ok (a0 : List TRow) (a1 : TRow) (r : Bool) (h : prune_alike_Row a0 a1 = some r) : ACall Try.prog 26 [.d ((D.l TRow.D) a0), .d (TRow.D a1), .clo (.func 27) [] []] [] (.d (D.b r)) [] := by
  unfold prune_alike_Row at h
  replace h := bndE_some h
  obtain ⟨r1, h1, h⟩ := h
  obtain rfl := Option.some.inj h
  exact runF_call mixed [(4, .frz), (5, .frz), (9, .ret (.d (D.b r1)))] [] [] (And.intro (slices_ContainsFunc_Row_Row_v2_ok a0 a1 r1 h1) (True.intro)) (by kernel_rfl)
theorem prune_Spare_ok (a0 : List TRow) (a1 : Int) (r : Bool) (h : prune_Spare a0 a1 = some r) : ACall Try.prog 9 [.d ((D.l TRow.D) a0), .d ((D.i .i64) a1)] [] (.d (D.b r)) [] := by
  unfold prune_Spare at h
  replace h := bndE_some h
  obtain ⟨r1, h1, h⟩ := h
  replace h := iteE_some h
  rcases h with ⟨h2, h⟩ | ⟨h2, h⟩
  · skip
    replace h := idxE_some h
    obtain ⟨x2, h3, h⟩ := h
    replace h := bndE_some h
    obtain ⟨r3, h4, h⟩ := h
    obtain rfl := Option.some.inj h
    exact runF_call mixed [(8, .ret (.d ((D.l TRow.D) r1))), (10, .int (r1.length : Int)), (12, .bit true), (16, .el (TRow.D x2)), (18, .ret (.d (D.b r3)))] [] [] (And.intro (prune_Below_ok a0 a1 r1 h1) (And.intro (len_map TRow.D r1) (And.intro h2 (And.intro (elem_map TRow.D h3) (And.intro (prune_alike_Row_ok r1 x2 r3 h4) (True.intro)))))) (by kernel_rfl)
  · skip
    obtain rfl := Option.some.inj h
    exact runF_call mixed [(8, .ret (.d ((D.l TRow.D) r1))), (10, .int (r1.length : Int)), (12, .bit false)] [] [] (And.intro (prune_Below_ok a0 a1 r1 h1) (And.intro (len_map TRow.D r1) (And.intro h2 (True.intro)))) (by kernel_rfl)
theorem slices_Delete_Row_Row_ok (a b : Int) (l r : List TRow) (h : slices_Delete_Row_Row a b l = some r) : ACall Try.prog 25 [.row 0, .d (D.i .i64 a), .d (D.i .i64 b)] [(0, .rw 35 2 (l.map TRow.D))] (.row 1) [(1, .rw 35 2 (r.map TRow.D))] :=
  delE_ok (ρ := ⟨fun _ => 25, fun n => if n = 0 then 0 else if n = 3 then 3 else if n = 4 then 4 else if n = 22 then 23 else 35, id⟩) (by_ := 48) TRow.D mixed rfl ⟨ "slices.Delete[[]proctor/api.Row,proctor/api.Row]", by decide, (Try.func25).trans (by kernel_rfl)⟩ Try.underlying0 Try.underlying3 Try.underlying4 Try.underlying23 (by kernel_rfl) a b l r h
def prune_All_b3_I (s4 : Int) (s16 : Bool) (w3 : List TRow) : St := ⟨sp 23 0 [(3, .row 3), (4, .d ((D.i .i64) s4)), (16, .d (D.b s16))], [(3, .rw 35 2 (w3.map TRow.D))], []⟩
def prune_All_b3_O (s4 : Int) (s16 : Bool) (w3 : List TRow) (o : (List TRow)) : Ex × St := (.normal, ⟨sp 23 0 [(3, .row 3), (4, .d ((D.i .i64) s4))], [(3, .rw 35 2 (o.map TRow.D))], []⟩)
theorem prune_All_b3_ok (rd : Option Nat) (s4 : Int) (s16 : Bool) (w3 : List TRow) (o : (List TRow)) (h : prune_All_b3 s4 s16 w3 = some o) : LpOf Try.prog rd (fbody Try.prog 7) [1, 0, 0, 1, 0, 0, 1, 0, 1, 1] (prune_All_b3_I s4 s16 w3) (prune_All_b3_O s4 s16 w3 o).1 (prune_All_b3_O s4 s16 w3 o).2 := by
  unfold prune_All_b3 at h
  cases s16 with
  | true =>
    replace h := iteT h
    replace h := bndE_some h
    obtain ⟨r3, h5, h⟩ := h
    obtain rfl := Option.some.inj h
    exact (runB_arr mixed [(21, .cx [(0, 3)] [(1, 21)] (.row 1) [(1, .rw 35 2 (r3.map TRow.D))])] [] [.live [3, 4], .keep [21], .ren 21 3, .sort] (And.intro (slices_Delete_Row_Row_ok s4 (intVal .add .i64 s4 1) w3 r3 h5) (True.intro)) (by kernel_rfl)).lp
  | false =>
    replace h := iteF h
    obtain rfl := Option.some.inj h
    exact (runB_arr mixed [] [] [.live [3, 4], .keep [3]] (True.intro) (by kernel_rfl)).lp
def prune_All_b2_I (s4 : Int) (w3 : List TRow) : St := ⟨sp 23 0 [(3, .row 3), (4, .d ((D.i .i64) s4))], [(3, .rw 35 2 (w3.map TRow.D))], []⟩
def prune_All_b2_O (s4 : Int) (w3 : List TRow) (o : (List TRow)) : Ex × St := (.normal, ⟨sp 23 0 [(3, .row 3), (4, .d ((D.i .i64) s4))], [(3, .rw 35 2 (o.map TRow.D))], []⟩)
theorem prune_All_b2_ok (rd : Option Nat) (s4 : Int) (w3 : List TRow) (o : (List TRow)) (h : prune_All_b2 s4 w3 = some o) : LpOf Try.prog rd (fbody Try.prog 7) [0, 1, 0, 0, 1, 0, 1, 1] (prune_All_b2_I s4 w3) (prune_All_b2_O s4 w3 o).1 (prune_All_b2_O s4 w3 o).2 := by
  unfold prune_All_b2 at h
  replace h := bndE_some h
  obtain ⟨r2, h3, h⟩ := h
  replace h := bndE_some h
  obtain ⟨o4, h6, h⟩ := h
  obtain rfl := Option.some.inj h
  exact (runB_arr mixed [(16, .lend [3] (.d (D.b r2)))] [⟨[1, 0, 0, 1, 0, 0, 1, 0, 1, 1], [.live [3, 4, 16], .keep [3]], .normal, (prune_All_b3_O s4 r2 w3 o4).2⟩] [.live [3, 4], .keep [3]] (And.intro (prune_Spare_ok w3 s4 r2 h3) (And.intro (prune_All_b3_ok rd s4 r2 w3 o4 h6) (True.intro))) (by kernel_rfl)).lp
def prune_All_l1_I (s4 : Int) (w3 : List TRow) : St := ⟨sp 23 0 [(3, .row 3), (4, .d ((D.i .i64) s4))], [(3, .rw 35 2 (w3.map TRow.D))], []⟩
def prune_All_l1_O (o : (List TRow)) : Ex × St := (.exit 0, ⟨sp 23 0 [(3, .row 3)], [(3, .rw 35 2 (o.map TRow.D))], []⟩)
theorem prune_All_l1_rnd (rd : Option Nat) (s4 : Int) (w3 : List TRow) (o : (Int × List TRow) ⊕ ((List TRow))) (h : prune_All_l1_s s4 w3 = some o) : Arr Try.prog rd (fbody Try.prog 7) (0 :: [0, 1, 0, 1, 1]) (prune_All_l1_I s4 w3) (rR (fun s : Int × List TRow => prune_All_l1_I s.1 s.2) (prune_All_l1_O) o).1 (rR (fun s : Int × List TRow => prune_All_l1_I s.1 s.2) (prune_All_l1_O) o).2 := by
  unfold prune_All_l1_s at h
  replace h := iteE_some h
  rcases h with ⟨h2, h⟩ | ⟨h2, h⟩
  · skip
    replace h := bndE_some h
    obtain ⟨o5, h7, h⟩ := h
    obtain rfl := Option.some.inj h
    exact runB_arr mixed [(11, .bit true)] [⟨[0, 1, 0, 0, 1, 0, 1, 1], [.live [3, 4], .keep [3]], .normal, (prune_All_b2_O s4 w3 o5).2⟩] [.live [3, 4], .keep [3]] (And.intro h2 (And.intro (prune_All_b2_ok rd s4 w3 o5 h7) (True.intro))) (by kernel_rfl)
  · skip
    obtain rfl := Option.some.inj h
    exact runB_arr mixed [(11, .bit false)] [] [.live [3], .keep [3]] (And.intro h2 (True.intro)) (by kernel_rfl)
theorem prune_All_l1_ok (rd : Option Nat) (s4 : Int) (w3 : List TRow) (t : (List TRow)) (h : prune_All_l1 s4 w3 = some t) : LpOf Try.prog rd (fbody Try.prog 7) [0, 1, 0, 1, 1] (prune_All_l1_I s4 w3) ((prune_All_l1_O) t).1 ((prune_All_l1_O) t).2 :=
  loopE_lpR (fun s : Int × List TRow => prune_All_l1_I s.1 s.2) (prune_All_l1_O) (by kernel_rfl) (fun t => isN_ne (by rfl)) (fun s o h => prune_All_l1_rnd rd s.1 s.2 o h) (s := (s4, w3)) (t := t) h
theorem prune_All_ok (a0 : List TRow) (r : List TRow) (h : prune_All a0 = some r) : ACall Try.prog 7 [.d ((D.l TRow.D) a0)] [] (.d ((D.l TRow.D) r)) [] := by
  unfold prune_All at h
  replace h := bndE_some h
  obtain ⟨r1, h1, h⟩ := h
  replace h := bndE_some h
  obtain ⟨o6, h8, h⟩ := h
  obtain rfl := Option.some.inj h
  exact runF_call mixed [(6, .cx [] [(0, 6)] (.row 0) [(0, .rw 35 2 (r1.map TRow.D))]), (8, .int (r1.length : Int))] [⟨[0, 1, 0, 1, 1], [.live [3, 4], .keep [6], .ren 6 3, .sort], .exit 0, (prune_All_l1_O o6).2⟩] [.frz 3] (And.intro (slices_Clone_Row_Row_ok a0 r1 h1) (And.intro (len_map TRow.D r1) (And.intro (prune_All_l1_ok none (intVal .sub .i64 (r1.length : Int) 1) r1 o6 h8) (True.intro)))) (by kernel_rfl)
def ref05_Get_l1_I (s0 : List TSlot) (s1 : Int) (w4 : TValue) (s6 : Int) : St := ⟨sp 26 0 [(0, .d ((D.l TSlot.D) s0)), (1, .d ((D.i .i64) s1)), (4, .box 4 0), (6, .d ((D.i .i64) s6))], [(4, .cells ((cellsA (TValue.D w4))))], []⟩
def ref05_Get_l1_O (s0 : List TSlot) (s1 : Int) (w4 : TValue) (o : Unit ⊕ TValue) : Ex × St := match o with
  | .inl o => (.exit 0, ⟨sp 26 0 [(4, .box 4 0)], [(4, .cells ((cellsA (TValue.D w4))))], []⟩)
  | .inr o => (.ret, ⟨sp 26 0 [(4, .box 4 0), (5, .d (D.b true))], [(4, .cells ((cellsA (TValue.D o))))], []⟩)
theorem ref05_Get_l1_rnd (rd : Option Nat) (s0 : List TSlot) (s1 : Int) (w4 : TValue) (s6 : Int) (o : (Int) ⊕ (Unit ⊕ TValue)) (h : ref05_Get_l1_s s0 s1 w4 s6 = some o) : Arr Try.prog rd (fbody Try.prog 35) (0 :: [0, 1, 0, 1]) (ref05_Get_l1_I s0 s1 w4 s6) (rR (fun s : Int => ref05_Get_l1_I s0 s1 w4 s) (ref05_Get_l1_O s0 s1 w4) o).1 (rR (fun s : Int => ref05_Get_l1_I s0 s1 w4 s) (ref05_Get_l1_O s0 s1 w4) o).2 := by
  unfold ref05_Get_l1_s at h
  replace h := iteE_some h
  rcases h with ⟨h1, h⟩ | ⟨h1, h⟩
  · skip
    replace h := idxE_some h
    obtain ⟨x1, h2, h⟩ := h
    replace h := iteE_some h
    rcases h with ⟨h3, h⟩ | ⟨h3, h⟩
    · skip
      replace h := idxE_some h
      obtain ⟨x2, h4, h⟩ := h
      obtain rfl := Option.some.inj h
      exact runB_arr mixed [(9, .int (s0.length : Int)), (10, .bit true), (15, .el (TSlot.D x1)), (19, .bit true), (22, .el (TSlot.D x2))] [] [.live [4, 5], .keep [4]] (And.intro (len_map TSlot.D s0) (And.intro h1 (And.intro (elem_map TSlot.D h2) (And.intro h3 (And.intro (elem_map TSlot.D h4) (True.intro)))))) (by kernel_rfl)
    · skip
      obtain rfl := Option.some.inj h
      exact runB_arr mixed [(9, .int (s0.length : Int)), (10, .bit true), (15, .el (TSlot.D x1)), (19, .bit false)] [] [.live [0, 1, 4, 6], .keep [4]] (And.intro (len_map TSlot.D s0) (And.intro h1 (And.intro (elem_map TSlot.D h2) (And.intro h3 (True.intro))))) (by kernel_rfl)
  · skip
    obtain rfl := Option.some.inj h
    exact runB_arr mixed [(9, .int (s0.length : Int)), (10, .bit false)] [] [.live [4], .keep [4]] (And.intro (len_map TSlot.D s0) (And.intro h1 (True.intro))) (by kernel_rfl)
theorem ref05_Get_l1_ok (rd : Option Nat) (s0 : List TSlot) (s1 : Int) (w4 : TValue) (s6 : Int) (t : Unit ⊕ TValue) (h : ref05_Get_l1 s0 s1 w4 s6 = some t) : LpOf Try.prog rd (fbody Try.prog 35) [0, 1, 0, 1] (ref05_Get_l1_I s0 s1 w4 s6) ((ref05_Get_l1_O s0 s1 w4) t).1 ((ref05_Get_l1_O s0 s1 w4) t).2 :=
  loopE_lpR (fun s : Int => ref05_Get_l1_I s0 s1 w4 s) (ref05_Get_l1_O s0 s1 w4) (by kernel_rfl) (fun t => isN_ne (by rcases t with (_ | _) <;> rfl)) (fun s o h => ref05_Get_l1_rnd rd s0 s1 w4 s o h) (s := s6) (t := t) h
theorem ref05_Get_ok (a0 : List TSlot) (a1 : Int) (r : TValue × Bool) (h : ref05_Get a0 a1 = some r) : ACall Try.prog 35 [.d ((D.l TSlot.D) a0), .d ((D.i .i64) a1)] [] (.tup [.d (TValue.D r.1), .d (D.b r.2)]) [] := by
  unfold ref05_Get at h
  replace h := bndE_some h
  obtain ⟨o3, h5, h⟩ := h
  replace h := sumE_some h
  rcases h with ⟨o4, rfl, h⟩ | ⟨o5, rfl, h⟩
  · skip
    obtain rfl := Option.some.inj h
    exact runF_call mixed [] [⟨[0, 1, 0, 1], [.live [0, 1, 4, 6], .keep [4]], .exit 0, (ref05_Get_l1_O a0 a1 (TValue.mk 0 0 ([] : List UInt8) false) (Sum.inl o4)).2⟩] [] (And.intro (ref05_Get_l1_ok none a0 a1 (TValue.mk 0 0 ([] : List UInt8) false) 0 (Sum.inl o4) h5) (True.intro)) (by kernel_rfl)
  · skip
    obtain rfl := Option.some.inj h
    exact runF_call mixed [] [⟨[0, 1, 0, 1], [.live [0, 1, 4, 6], .keep [4]], .ret, (ref05_Get_l1_O a0 a1 (TValue.mk 0 0 ([] : List UInt8) false) (Sum.inr o5)).2⟩] [] (And.intro (ref05_Get_l1_ok none a0 a1 (TValue.mk 0 0 ([] : List UInt8) false) 0 (Sum.inr o5) h5) (True.intro)) (by kernel_rfl)
def ref05_Under_l1_I (s0 : List TSlot) (s1 : List TSlot) (s5 : Int) : St := ⟨sp 35 0 [(0, .d ((D.l TSlot.D) s0)), (1, .d ((D.l TSlot.D) s1)), (5, .d ((D.i .i64) s5))], [], []⟩
def ref05_Under_l1_O (s0 : List TSlot) (s1 : List TSlot) (o : Unit ⊕ Unit) : Ex × St := match o with
  | .inl o => (.exit 0, ⟨sp 35 0 [], [], []⟩)
  | .inr o => (.ret, ⟨sp 35 0 [(4, .d (D.b false))], [], []⟩)
theorem ref05_Under_l1_rnd (rd : Option Nat) (s0 : List TSlot) (s1 : List TSlot) (s5 : Int) (o : (Int) ⊕ (Unit ⊕ Unit)) (h : ref05_Under_l1_s s0 s1 s5 = some o) : Arr Try.prog rd (fbody Try.prog 33) (0 :: [0, 1, 0, 1]) (ref05_Under_l1_I s0 s1 s5) (rR (fun s : Int => ref05_Under_l1_I s0 s1 s) (ref05_Under_l1_O s0 s1) o).1 (rR (fun s : Int => ref05_Under_l1_I s0 s1 s) (ref05_Under_l1_O s0 s1) o).2 := by
  unfold ref05_Under_l1_s at h
  replace h := iteE_some h
  rcases h with ⟨h1, h⟩ | ⟨h1, h⟩
  · skip
    replace h := idxE_some h
    obtain ⟨x1, h2, h⟩ := h
    replace h := bndE_some h
    obtain ⟨r2, h3, h⟩ := h
    replace h := iteE_some h
    rcases h with ⟨h4, h⟩ | ⟨h4, h⟩
    · skip
      obtain rfl := Option.some.inj h
      exact runB_arr mixed [(10, .int (s0.length : Int)), (11, .bit true), (18, .el (TSlot.D x1)), (21, .ret (.tup [.d (TValue.D r2.1), .d (D.b r2.2)])), (26, .bit true)] [] [.live [4], .keep []] (And.intro (len_map TSlot.D s0) (And.intro h1 (And.intro (elem_map TSlot.D h2) (And.intro (ref05_Get_ok s1 x1.var r2 h3) (And.intro h4 (True.intro)))))) (by kernel_rfl)
    · skip
      replace h := idxE_some h
      obtain ⟨x3, h5, h⟩ := h
      replace h := iteE_some h
      rcases h with ⟨h6, h⟩ | ⟨h6, h⟩
      · skip
        obtain rfl := Option.some.inj h
        exact runB_arr mixed [(10, .int (s0.length : Int)), (11, .bit true), (18, .el (TSlot.D x1)), (21, .ret (.tup [.d (TValue.D r2.1), .d (D.b r2.2)])), (26, .bit false), (30, .el (TSlot.D x3)), (34, .bit true)] [] [.live [4], .keep []] (And.intro (len_map TSlot.D s0) (And.intro h1 (And.intro (elem_map TSlot.D h2) (And.intro (ref05_Get_ok s1 x1.var r2 h3) (And.intro h4 (And.intro (elem_map TSlot.D h5) (And.intro h6 (True.intro)))))))) (by kernel_rfl)
      · skip
        obtain rfl := Option.some.inj h
        exact runB_arr mixed [(10, .int (s0.length : Int)), (11, .bit true), (18, .el (TSlot.D x1)), (21, .ret (.tup [.d (TValue.D r2.1), .d (D.b r2.2)])), (26, .bit false), (30, .el (TSlot.D x3)), (34, .bit false)] [] [.live [0, 1, 5], .keep []] (And.intro (len_map TSlot.D s0) (And.intro h1 (And.intro (elem_map TSlot.D h2) (And.intro (ref05_Get_ok s1 x1.var r2 h3) (And.intro h4 (And.intro (elem_map TSlot.D h5) (And.intro h6 (True.intro)))))))) (by kernel_rfl)
  · skip
    obtain rfl := Option.some.inj h
    exact runB_arr mixed [(10, .int (s0.length : Int)), (11, .bit false)] [] [.live [], .keep []] (And.intro (len_map TSlot.D s0) (And.intro h1 (True.intro))) (by kernel_rfl)
theorem ref05_Under_l1_ok (rd : Option Nat) (s0 : List TSlot) (s1 : List TSlot) (s5 : Int) (t : Unit ⊕ Unit) (h : ref05_Under_l1 s0 s1 s5 = some t) : LpOf Try.prog rd (fbody Try.prog 33) [0, 1, 0, 1] (ref05_Under_l1_I s0 s1 s5) ((ref05_Under_l1_O s0 s1) t).1 ((ref05_Under_l1_O s0 s1) t).2 :=
  loopE_lpR (fun s : Int => ref05_Under_l1_I s0 s1 s) (ref05_Under_l1_O s0 s1) (by kernel_rfl) (fun t => isN_ne (by rcases t with (_ | _) <;> rfl)) (fun s o h => ref05_Under_l1_rnd rd s0 s1 s o h) (s := s5) (t := t) h
theorem ref05_Under_ok (a0 : List TSlot) (a1 : List TSlot) (r : Bool) (h : ref05_Under a0 a1 = some r) : ACall Try.prog 33 [.d ((D.l TSlot.D) a0), .d ((D.l TSlot.D) a1)] [] (.d (D.b r)) [] := by
  unfold ref05_Under at h
  replace h := bndE_some h
  obtain ⟨o4, h7, h⟩ := h
  replace h := sumE_some h
  rcases h with ⟨o5, rfl, h⟩ | ⟨o6, rfl, h⟩
  · skip
    obtain rfl := Option.some.inj h
    exact runF_call mixed [] [⟨[0, 1, 0, 1], [.live [0, 1, 5], .keep []], .exit 0, (ref05_Under_l1_O a0 a1 (Sum.inl o5)).2⟩] [] (And.intro (ref05_Under_l1_ok none a0 a1 0 (Sum.inl o5) h7) (True.intro)) (by kernel_rfl)
  · skip
    obtain rfl := Option.some.inj h
    exact runF_call mixed [] [⟨[0, 1, 0, 1], [.live [0, 1, 5], .keep []], .ret, (ref05_Under_l1_O a0 a1 (Sum.inr o6)).2⟩] [] (And.intro (ref05_Under_l1_ok none a0 a1 0 (Sum.inr o6) h7) (True.intro)) (by kernel_rfl)
def ref26_Most_b5_I (s0 : List TRow) (s1 : List TSlot) (s2 : Bool) (s8 : Int) (s40 : Bool) (w7 : List Int) : St := ⟨sp 92 0 [(0, .d ((D.l TRow.D) s0)), (1, .d ((D.l TSlot.D) s1)), (2, .d (D.b s2)), (7, .row 7), (8, .d ((D.i .i64) s8)), (40, .d (D.b s40))], [(7, .row 3 1 (w7.map (D.i .i64)))], []⟩
def ref26_Most_b5_O (s0 : List TRow) (s1 : List TSlot) (s2 : Bool) (s8 : Int) (s40 : Bool) (w7 : List Int) (o : (List Int)) : Ex × St := (.normal, ⟨sp 92 0 [(0, .d ((D.l TRow.D) s0)), (1, .d ((D.l TSlot.D) s1)), (2, .d (D.b s2)), (7, .row 7), (8, .d ((D.i .i64) s8))], [(7, .row 3 1 (o.map (D.i .i64)))], []⟩)
theorem ref26_Most_b5_ok (rd : Option Nat) (s0 : List TRow) (s1 : List TSlot) (s2 : Bool) (s8 : Int) (s40 : Bool) (w7 : List Int) (o : (List Int)) (h : ref26_Most_b5 s0 s1 s2 s8 s40 w7 = some o) : LpOf Try.prog rd (fbody Try.prog 13) [1, 0, 0, 1, 0, 0, 1, 0, 1, 1] (ref26_Most_b5_I s0 s1 s2 s8 s40 w7) (ref26_Most_b5_O s0 s1 s2 s8 s40 w7 o).1 (ref26_Most_b5_O s0 s1 s2 s8 s40 w7 o).2 := by
  unfold ref26_Most_b5 at h
  cases s40 with
  | true =>
    replace h := iteT h
    replace h := chkE_some h
    obtain ⟨h22, h⟩ := h
    obtain rfl := Option.some.inj h
    exact (runB_arr mixed [(44, .sl ((w7 ++ [s8]).map (D.i .i64)))] [] [.live [0, 1, 2, 7, 8], .keep [44], .ren 44 7, .sort] (And.intro (nc_ok (D.i .i64) [s8]) (And.intro (nc_ok (D.i .i64) [s8]) (And.intro (fit_map (D.i .i64) h22) (And.intro (app_map (D.i .i64) w7 [s8]) (True.intro))))) (by kernel_rfl)).lp
  | false =>
    replace h := iteF h
    obtain rfl := Option.some.inj h
    exact (runB_arr mixed [] [] [.live [0, 1, 2, 7, 8], .keep [7]] (True.intro) (by kernel_rfl)).lp
def ref26_Most_b4_I (s0 : List TRow) (s1 : List TSlot) (s2 : Bool) (s8 : Int) (w7 : List Int) : St := ⟨sp 92 0 [(0, .d ((D.l TRow.D) s0)), (1, .d ((D.l TSlot.D) s1)), (2, .d (D.b s2)), (7, .row 7), (8, .d ((D.i .i64) s8))], [(7, .row 3 1 (w7.map (D.i .i64)))], []⟩
def ref26_Most_b4_O (s0 : List TRow) (s1 : List TSlot) (s2 : Bool) (s8 : Int) (w7 : List Int) (o : (List Int)) : Ex × St := (.normal, ⟨sp 92 0 [(0, .d ((D.l TRow.D) s0)), (1, .d ((D.l TSlot.D) s1)), (2, .d (D.b s2)), (7, .row 7), (8, .d ((D.i .i64) s8))], [(7, .row 3 1 (o.map (D.i .i64)))], []⟩)
theorem ref26_Most_b4_ok (rd : Option Nat) (s0 : List TRow) (s1 : List TSlot) (s2 : Bool) (s8 : Int) (w7 : List Int) (o : (List Int)) (h : ref26_Most_b4 s0 s1 s2 s8 w7 = some o) : LpOf Try.prog rd (fbody Try.prog 13) [0, 1, 0, 0, 1, 0, 1, 1] (ref26_Most_b4_I s0 s1 s2 s8 w7) (ref26_Most_b4_O s0 s1 s2 s8 w7 o).1 (ref26_Most_b4_O s0 s1 s2 s8 w7 o).2 := by
  unfold ref26_Most_b4 at h
  replace h := idxE_some h
  obtain ⟨x9, h15, h⟩ := h
  replace h := bndE_some h
  obtain ⟨r10, h16, h⟩ := h
  cases r10 with
  | true =>
    replace h := iteT h
    replace h := iteE_some h
    rcases h with ⟨h18, h⟩ | ⟨h18, h⟩
    · skip
      replace h := idxE_some h
      obtain ⟨x11, h19, h⟩ := h
      replace h := bndE_some h
      obtain ⟨r12, h20, h⟩ := h
      replace h := bndE_some h
      obtain ⟨o13, h23, h⟩ := h
      obtain rfl := Option.some.inj h
      exact (runB_arr mixed [(23, .el (TRow.D x9)), (27, .ret (.d (D.b true))), (30, .bit true), (33, .el (TRow.D x11)), (37, .ret (.d (D.b r12)))] [⟨[1, 0, 0, 1, 0, 0, 1, 0, 1, 1], [.live [0, 1, 2, 7, 8, 40], .keep [7]], .normal, (ref26_Most_b5_O s0 s1 s2 s8 (!r12) w7 o13).2⟩] [.live [0, 1, 2, 7, 8], .keep [7]] (And.intro (elem_map TRow.D h15) (And.intro (ref05_Under_ok x9.bind s1 true h16) (And.intro h18 (And.intro (elem_map TRow.D h19) (And.intro (ref05_Same_ok x11.bind s1 r12 h20) (And.intro (ref26_Most_b5_ok rd s0 s1 s2 s8 (!r12) w7 o13 h23) (True.intro))))))) (by kernel_rfl)).lp
    · skip
      replace h := bndE_some h
      obtain ⟨o14, h24, h⟩ := h
      obtain rfl := Option.some.inj h
      exact (runB_arr mixed [(23, .el (TRow.D x9)), (27, .ret (.d (D.b true))), (30, .bit false)] [⟨[1, 0, 0, 1, 0, 0, 1, 0, 1, 1], [.live [0, 1, 2, 7, 8, 40], .keep [7]], .normal, (ref26_Most_b5_O s0 s1 s2 s8 true w7 o14).2⟩] [.live [0, 1, 2, 7, 8], .keep [7]] (And.intro (elem_map TRow.D h15) (And.intro (ref05_Under_ok x9.bind s1 true h16) (And.intro h18 (And.intro (ref26_Most_b5_ok rd s0 s1 s2 s8 true w7 o14 h24) (True.intro))))) (by kernel_rfl)).lp
  | false =>
    replace h := iteF h
    replace h := bndE_some h
    obtain ⟨o15, h25, h⟩ := h
    obtain rfl := Option.some.inj h
    exact (runB_arr mixed [(23, .el (TRow.D x9)), (27, .ret (.d (D.b false)))] [⟨[1, 0, 0, 1, 0, 0, 1, 0, 1, 1], [.live [0, 1, 2, 7, 8, 40], .keep [7]], .normal, (ref26_Most_b5_O s0 s1 s2 s8 false w7 o15).2⟩] [.live [0, 1, 2, 7, 8], .keep [7]] (And.intro (elem_map TRow.D h15) (And.intro (ref05_Under_ok x9.bind s1 false h16) (And.intro (ref26_Most_b5_ok rd s0 s1 s2 s8 false w7 o15 h25) (True.intro)))) (by kernel_rfl)).lp
def ref26_Most_l1_I (s0 : List TRow) (s1 : List TSlot) (s2 : Bool) (s8 : Int) (w7 : List Int) : St := ⟨sp 92 0 [(0, .d ((D.l TRow.D) s0)), (1, .d ((D.l TSlot.D) s1)), (2, .d (D.b s2)), (7, .row 7), (8, .d ((D.i .i64) s8))], [(7, .row 3 1 (w7.map (D.i .i64)))], []⟩
def ref26_Most_l1_O (s0 : List TRow) (s1 : List TSlot) (s2 : Bool) (o : (List Int)) : Ex × St := (.exit 0, ⟨sp 92 0 [(0, .d ((D.l TRow.D) s0)), (7, .row 7)], [(7, .row 3 1 (o.map (D.i .i64)))], []⟩)
theorem ref26_Most_l1_rnd (rd : Option Nat) (s0 : List TRow) (s1 : List TSlot) (s2 : Bool) (s8 : Int) (w7 : List Int) (o : (Int × List Int) ⊕ ((List Int))) (h : ref26_Most_l1_s s0 s1 s2 s8 w7 = some o) : Arr Try.prog rd (fbody Try.prog 13) (0 :: [0, 1, 0, 1, 1]) (ref26_Most_l1_I s0 s1 s2 s8 w7) (rR (fun s : Int × List Int => ref26_Most_l1_I s0 s1 s2 s.1 s.2) (ref26_Most_l1_O s0 s1 s2) o).1 (rR (fun s : Int × List Int => ref26_Most_l1_I s0 s1 s2 s.1 s.2) (ref26_Most_l1_O s0 s1 s2) o).2 := by
  unfold ref26_Most_l1_s at h
  replace h := iteE_some h
  rcases h with ⟨h14, h⟩ | ⟨h14, h⟩
  · skip
    replace h := bndE_some h
    obtain ⟨o16, h26, h⟩ := h
    obtain rfl := Option.some.inj h
    exact runB_arr mixed [(17, .int (s0.length : Int)), (18, .bit true)] [⟨[0, 1, 0, 0, 1, 0, 1, 1], [.live [0, 1, 2, 7, 8], .keep [7]], .normal, (ref26_Most_b4_O s0 s1 s2 s8 w7 o16).2⟩] [.live [0, 1, 2, 7, 8], .keep [7]] (And.intro (len_map TRow.D s0) (And.intro h14 (And.intro (ref26_Most_b4_ok rd s0 s1 s2 s8 w7 o16 h26) (True.intro)))) (by kernel_rfl)
  · skip
    obtain rfl := Option.some.inj h
    exact runB_arr mixed [(17, .int (s0.length : Int)), (18, .bit false)] [] [.live [0, 7], .keep [7]] (And.intro (len_map TRow.D s0) (And.intro h14 (True.intro))) (by kernel_rfl)
theorem ref26_Most_l1_ok (rd : Option Nat) (s0 : List TRow) (s1 : List TSlot) (s2 : Bool) (s8 : Int) (w7 : List Int) (t : (List Int)) (h : ref26_Most_l1 s0 s1 s2 s8 w7 = some t) : LpOf Try.prog rd (fbody Try.prog 13) [0, 1, 0, 1, 1] (ref26_Most_l1_I s0 s1 s2 s8 w7) ((ref26_Most_l1_O s0 s1 s2) t).1 ((ref26_Most_l1_O s0 s1 s2) t).2 :=
  loopE_lpR (fun s : Int × List Int => ref26_Most_l1_I s0 s1 s2 s.1 s.2) (ref26_Most_l1_O s0 s1 s2) (by kernel_rfl) (fun t => isN_ne (by rfl)) (fun s o h => ref26_Most_l1_rnd rd s0 s1 s2 s.1 s.2 o h) (s := (s8, w7)) (t := t) h
def ref26_Most_b15_I (s0 : List TRow) (s10 : Int) (s11 : Bool) (s12 : Int) (s82 : Bool) (w7 : List Int) (w9 : List Int) : St := ⟨sp 92 0 [(0, .d ((D.l TRow.D) s0)), (7, .row 7), (9, .row 9), (10, .d ((D.i .i64) s10)), (11, .d (D.b s11)), (12, .d ((D.i .i64) s12)), (82, .d (D.b s82))], [(7, .row 3 1 (w7.map (D.i .i64))), (9, .row 3 1 (w9.map (D.i .i64)))], []⟩
def ref26_Most_b15_O (s0 : List TRow) (s10 : Int) (s11 : Bool) (s12 : Int) (s82 : Bool) (w7 : List Int) (w9 : List Int) (o : Bool) : Ex × St := (.normal, ⟨sp 92 0 [(0, .d ((D.l TRow.D) s0)), (7, .row 7), (9, .row 9), (10, .d ((D.i .i64) s10)), (11, .d (D.b o)), (12, .d ((D.i .i64) s12))], [(7, .row 3 1 (w7.map (D.i .i64))), (9, .row 3 1 (w9.map (D.i .i64)))], []⟩)
theorem ref26_Most_b15_ok (rd : Option Nat) (s0 : List TRow) (s10 : Int) (s11 : Bool) (s12 : Int) (s82 : Bool) (w7 : List Int) (w9 : List Int) (o : Bool) (h : ref26_Most_b15 s0 s10 s11 s12 s82 w7 w9 = some o) : LpOf Try.prog rd (fbody Try.prog 13) [1, 1, 1, 0, 0, 1, 0, 0, 1, 0, 1, 0, 0, 1, 0, 0, 1, 0, 1, 1, 1, 1] (ref26_Most_b15_I s0 s10 s11 s12 s82 w7 w9) (ref26_Most_b15_O s0 s10 s11 s12 s82 w7 w9 o).1 (ref26_Most_b15_O s0 s10 s11 s12 s82 w7 w9 o).2 := by
  unfold ref26_Most_b15 at h
  cases s82 with
  | true =>
    replace h := iteT h
    obtain rfl := Option.some.inj h
    exact (runB_arr mixed [] [] [.live [0, 7, 9, 10, 11, 12], .keep [7, 9]] (True.intro) (by kernel_rfl)).lp
  | false =>
    replace h := iteF h
    obtain rfl := Option.some.inj h
    exact (runB_arr mixed [] [] [.live [0, 7, 9, 10, 11, 12], .keep [7, 9]] (True.intro) (by kernel_rfl)).lp
def ref26_Most_b14_I (s0 : List TRow) (s10 : Int) (s11 : Bool) (s12 : Int) (w7 : List Int) (w9 : List Int) : St := ⟨sp 92 0 [(0, .d ((D.l TRow.D) s0)), (7, .row 7), (9, .row 9), (10, .d ((D.i .i64) s10)), (11, .d (D.b s11)), (12, .d ((D.i .i64) s12))], [(7, .row 3 1 (w7.map (D.i .i64))), (9, .row 3 1 (w9.map (D.i .i64)))], []⟩
def ref26_Most_b14_O (s0 : List TRow) (s10 : Int) (s11 : Bool) (s12 : Int) (w7 : List Int) (w9 : List Int) (o : Bool) : Ex × St := (.normal, ⟨sp 92 0 [(0, .d ((D.l TRow.D) s0)), (7, .row 7), (9, .row 9), (10, .d ((D.i .i64) s10)), (11, .d (D.b o)), (12, .d ((D.i .i64) s12))], [(7, .row 3 1 (w7.map (D.i .i64))), (9, .row 3 1 (w9.map (D.i .i64)))], []⟩)
theorem ref26_Most_b14_ok (rd : Option Nat) (s0 : List TRow) (s10 : Int) (s11 : Bool) (s12 : Int) (w7 : List Int) (w9 : List Int) (o : Bool) (h : ref26_Most_b14 s0 s10 s11 s12 w7 w9 = some o) : LpOf Try.prog rd (fbody Try.prog 13) [0, 1, 0, 0, 1, 0, 1, 0, 0, 1, 0, 0, 1, 0, 1, 1, 1, 1] (ref26_Most_b14_I s0 s10 s11 s12 w7 w9) (ref26_Most_b14_O s0 s10 s11 s12 w7 w9 o).1 (ref26_Most_b14_O s0 s10 s11 s12 w7 w9 o).2 := by
  unfold ref26_Most_b14 at h
  replace h := idxE_some h
  obtain ⟨x30, h48, h⟩ := h
  replace h := idxE_some h
  obtain ⟨x31, h49, h⟩ := h
  replace h := idxE_some h
  obtain ⟨x32, h50, h⟩ := h
  replace h := idxE_some h
  obtain ⟨x33, h51, h⟩ := h
  replace h := iteE_some h
  rcases h with ⟨h52, h⟩ | ⟨h52, h⟩
  · skip
    replace h := bndE_some h
    obtain ⟨r34, h53, h⟩ := h
    replace h := bndE_some h
    obtain ⟨o35, h55, h⟩ := h
    obtain rfl := Option.some.inj h
    exact (runB_arr mixed [(60, .el ((D.i .i64) x30)), (62, .el (TRow.D x31)), (68, .el ((D.i .i64) x32)), (70, .el (TRow.D x33)), (74, .int (x33.bind.length : Int)), (76, .int (x31.bind.length : Int)), (78, .bit true), (81, .ret (.d (D.b r34)))] [⟨[1, 1, 1, 0, 0, 1, 0, 0, 1, 0, 1, 0, 0, 1, 0, 0, 1, 0, 1, 1, 1, 1], [.live [0, 7, 9, 10, 11, 12, 82], .keep [7, 9]], .normal, (ref26_Most_b15_O s0 s10 s11 s12 r34 w7 w9 o35).2⟩] [.live [0, 7, 9, 10, 11, 12], .keep [7, 9]] (And.intro (elem_map (D.i .i64) h48) (And.intro (elem_map TRow.D h49) (And.intro (elem_map (D.i .i64) h50) (And.intro (elem_map TRow.D h51) (And.intro (len_map TSlot.D x33.bind) (And.intro (len_map TSlot.D x31.bind) (And.intro h52 (And.intro (ref05_Under_ok x31.bind x33.bind r34 h53) (And.intro (ref26_Most_b15_ok rd s0 s10 s11 s12 r34 w7 w9 o35 h55) (True.intro)))))))))) (by kernel_rfl)).lp
  · skip
    replace h := bndE_some h
    obtain ⟨o36, h56, h⟩ := h
    obtain rfl := Option.some.inj h
    exact (runB_arr mixed [(60, .el ((D.i .i64) x30)), (62, .el (TRow.D x31)), (68, .el ((D.i .i64) x32)), (70, .el (TRow.D x33)), (74, .int (x33.bind.length : Int)), (76, .int (x31.bind.length : Int)), (78, .bit false)] [⟨[1, 1, 1, 0, 0, 1, 0, 0, 1, 0, 1, 0, 0, 1, 0, 0, 1, 0, 1, 1, 1, 1], [.live [0, 7, 9, 10, 11, 12, 82], .keep [7, 9]], .normal, (ref26_Most_b15_O s0 s10 s11 s12 false w7 w9 o36).2⟩] [.live [0, 7, 9, 10, 11, 12], .keep [7, 9]] (And.intro (elem_map (D.i .i64) h48) (And.intro (elem_map TRow.D h49) (And.intro (elem_map (D.i .i64) h50) (And.intro (elem_map TRow.D h51) (And.intro (len_map TSlot.D x33.bind) (And.intro (len_map TSlot.D x31.bind) (And.intro h52 (And.intro (ref26_Most_b15_ok rd s0 s10 s11 s12 false w7 w9 o36 h56) (True.intro))))))))) (by kernel_rfl)).lp
def ref26_Most_l13_I (s0 : List TRow) (s10 : Int) (w7 : List Int) (w9 : List Int) (s11 : Bool) (s12 : Int) : St := ⟨sp 92 0 [(0, .d ((D.l TRow.D) s0)), (7, .row 7), (9, .row 9), (10, .d ((D.i .i64) s10)), (11, .d (D.b s11)), (12, .d ((D.i .i64) s12))], [(7, .row 3 1 (w7.map (D.i .i64))), (9, .row 3 1 (w9.map (D.i .i64)))], []⟩
def ref26_Most_l13_O (s0 : List TRow) (s10 : Int) (w7 : List Int) (w9 : List Int) (o : Bool) : Ex × St := (.exit 4, ⟨sp 92 0 [(0, .d ((D.l TRow.D) s0)), (7, .row 7), (9, .row 9), (10, .d ((D.i .i64) s10)), (11, .d (D.b o))], [(7, .row 3 1 (w7.map (D.i .i64))), (9, .row 3 1 (w9.map (D.i .i64)))], []⟩)
theorem ref26_Most_l13_rnd (rd : Option Nat) (s0 : List TRow) (s10 : Int) (w7 : List Int) (w9 : List Int) (s11 : Bool) (s12 : Int) (o : (Bool × Int) ⊕ (Bool)) (h : ref26_Most_l13_s s0 s10 w7 w9 s11 s12 = some o) : Arr Try.prog rd (fbody Try.prog 13) (0 :: [0, 1, 0, 1, 0, 0, 1, 0, 0, 1, 0, 1, 1, 1, 1]) (ref26_Most_l13_I s0 s10 w7 w9 s11 s12) (rR (fun s : Bool × Int => ref26_Most_l13_I s0 s10 w7 w9 s.1 s.2) (ref26_Most_l13_O s0 s10 w7 w9) o).1 (rR (fun s : Bool × Int => ref26_Most_l13_I s0 s10 w7 w9 s.1 s.2) (ref26_Most_l13_O s0 s10 w7 w9) o).2 := by
  unfold ref26_Most_l13_s at h
  replace h := iteE_some h
  rcases h with ⟨h47, h⟩ | ⟨h47, h⟩
  · skip
    replace h := bndE_some h
    obtain ⟨o37, h57, h⟩ := h
    obtain rfl := Option.some.inj h
    exact runB_arr mixed [(53, .int (w7.length : Int)), (54, .bit true)] [⟨[0, 1, 0, 0, 1, 0, 1, 0, 0, 1, 0, 0, 1, 0, 1, 1, 1, 1], [.live [0, 7, 9, 10, 11, 12], .keep [7, 9]], .normal, (ref26_Most_b14_O s0 s10 s11 s12 w7 w9 o37).2⟩] [.live [0, 7, 9, 10, 11, 12], .keep [7, 9]] (And.intro (len_map (D.i .i64) w7) (And.intro h47 (And.intro (ref26_Most_b14_ok rd s0 s10 s11 s12 w7 w9 o37 h57) (True.intro)))) (by kernel_rfl)
  · skip
    obtain rfl := Option.some.inj h
    exact runB_arr mixed [(53, .int (w7.length : Int)), (54, .bit false)] [] [.live [0, 7, 9, 10, 11], .keep [7, 9]] (And.intro (len_map (D.i .i64) w7) (And.intro h47 (True.intro))) (by kernel_rfl)
theorem ref26_Most_l13_ok (rd : Option Nat) (s0 : List TRow) (s10 : Int) (w7 : List Int) (w9 : List Int) (s11 : Bool) (s12 : Int) (t : Bool) (h : ref26_Most_l13 s0 s10 w7 w9 s11 s12 = some t) : LpOf Try.prog rd (fbody Try.prog 13) [0, 1, 0, 1, 0, 0, 1, 0, 0, 1, 0, 1, 1, 1, 1] (ref26_Most_l13_I s0 s10 w7 w9 s11 s12) ((ref26_Most_l13_O s0 s10 w7 w9) t).1 ((ref26_Most_l13_O s0 s10 w7 w9) t).2 :=
  loopE_lpR (fun s : Bool × Int => ref26_Most_l13_I s0 s10 w7 w9 s.1 s.2) (ref26_Most_l13_O s0 s10 w7 w9) (by kernel_rfl) (fun t => isN_ne (by rfl)) (fun s o h => ref26_Most_l13_rnd rd s0 s10 w7 w9 s.1 s.2 o h) (s := (s11, s12)) (t := t) h
def ref26_Most_b16_I (s0 : List TRow) (s10 : Int) (s83 : Bool) (w7 : List Int) (w9 : List Int) : St := ⟨sp 92 0 [(0, .d ((D.l TRow.D) s0)), (7, .row 7), (9, .row 9), (10, .d ((D.i .i64) s10)), (83, .d (D.b s83))], [(7, .row 3 1 (w7.map (D.i .i64))), (9, .row 3 1 (w9.map (D.i .i64)))], []⟩
def ref26_Most_b16_O (s0 : List TRow) (s10 : Int) (s83 : Bool) (w7 : List Int) (w9 : List Int) (o : (List Int)) : Ex × St := (.normal, ⟨sp 92 0 [(0, .d ((D.l TRow.D) s0)), (7, .row 7), (9, .row 9), (10, .d ((D.i .i64) s10))], [(7, .row 3 1 (w7.map (D.i .i64))), (9, .row 3 1 (o.map (D.i .i64)))], []⟩)
theorem ref26_Most_b16_ok (rd : Option Nat) (s0 : List TRow) (s10 : Int) (s83 : Bool) (w7 : List Int) (w9 : List Int) (o : (List Int)) (h : ref26_Most_b16 s0 s10 s83 w7 w9 = some o) : LpOf Try.prog rd (fbody Try.prog 13) [1, 1, 1, 0, 0, 1, 0, 0, 1, 0, 1, 1, 1, 1] (ref26_Most_b16_I s0 s10 s83 w7 w9) (ref26_Most_b16_O s0 s10 s83 w7 w9 o).1 (ref26_Most_b16_O s0 s10 s83 w7 w9 o).2 := by
  unfold ref26_Most_b16 at h
  cases s83 with
  | true =>
    replace h := iteT h
    replace h := idxE_some h
    obtain ⟨x39, h60, h⟩ := h
    replace h := chkE_some h
    obtain ⟨h61, h⟩ := h
    obtain rfl := Option.some.inj h
    exact (runB_arr mixed [(87, .el ((D.i .i64) x39)), (90, .sl ((w9 ++ [x39]).map (D.i .i64)))] [] [.live [0, 7, 9, 10], .keep [7, 90], .ren 90 9, .sort] (And.intro (elem_map (D.i .i64) h60) (And.intro (nc_ok (D.i .i64) [x39]) (And.intro (nc_ok (D.i .i64) [x39]) (And.intro (fit_map (D.i .i64) h61) (And.intro (app_map (D.i .i64) w9 [x39]) (True.intro)))))) (by kernel_rfl)).lp
  | false =>
    replace h := iteF h
    obtain rfl := Option.some.inj h
    exact (runB_arr mixed [] [] [.live [0, 7, 9, 10], .keep [7, 9]] (True.intro) (by kernel_rfl)).lp
def ref26_Most_b12_I (s0 : List TRow) (s10 : Int) (w7 : List Int) (w9 : List Int) : St := ⟨sp 92 0 [(0, .d ((D.l TRow.D) s0)), (7, .row 7), (9, .row 9), (10, .d ((D.i .i64) s10))], [(7, .row 3 1 (w7.map (D.i .i64))), (9, .row 3 1 (w9.map (D.i .i64)))], []⟩
def ref26_Most_b12_O (s0 : List TRow) (s10 : Int) (w7 : List Int) (w9 : List Int) (o : (List Int)) : Ex × St := (.normal, ⟨sp 92 0 [(0, .d ((D.l TRow.D) s0)), (7, .row 7), (9, .row 9), (10, .d ((D.i .i64) s10))], [(7, .row 3 1 (w7.map (D.i .i64))), (9, .row 3 1 (o.map (D.i .i64)))], []⟩)
theorem ref26_Most_b12_ok (rd : Option Nat) (s0 : List TRow) (s10 : Int) (w7 : List Int) (w9 : List Int) (o : (List Int)) (h : ref26_Most_b12 s0 s10 w7 w9 = some o) : LpOf Try.prog rd (fbody Try.prog 13) [0, 1, 0, 0, 1, 0, 1, 1, 1, 1] (ref26_Most_b12_I s0 s10 w7 w9) (ref26_Most_b12_O s0 s10 w7 w9 o).1 (ref26_Most_b12_O s0 s10 w7 w9 o).2 := by
  unfold ref26_Most_b12 at h
  replace h := bndE_some h
  obtain ⟨o38, h58, h⟩ := h
  replace h := bndE_some h
  obtain ⟨o40, h62, h⟩ := h
  obtain rfl := Option.some.inj h
  exact (runB_arr mixed [] [⟨[0, 1, 0, 1, 0, 0, 1, 0, 0, 1, 0, 1, 1, 1, 1], [.live [0, 7, 9, 10, 11, 12], .keep [7, 9]], .exit 4, (ref26_Most_l13_O s0 s10 w7 w9 o38).2⟩, ⟨[1, 1, 1, 0, 0, 1, 0, 0, 1, 0, 1, 1, 1, 1], [.live [0, 7, 9, 10, 83], .keep [7, 9]], .normal, (ref26_Most_b16_O s0 s10 o38 w7 w9 o40).2⟩] [.live [0, 7, 9, 10], .keep [7, 9]] (And.intro (ref26_Most_l13_ok rd s0 s10 w7 w9 true 0 o38 h58) (And.intro (ref26_Most_b16_ok rd s0 s10 o38 w7 w9 o40 h62) (True.intro))) (by kernel_rfl)).lp
def ref26_Most_l6_I (s0 : List TRow) (w7 : List Int) (s10 : Int) (w9 : List Int) : St := ⟨sp 92 0 [(0, .d ((D.l TRow.D) s0)), (7, .row 7), (9, .row 9), (10, .d ((D.i .i64) s10))], [(7, .row 3 1 (w7.map (D.i .i64))), (9, .row 3 1 (w9.map (D.i .i64)))], []⟩
def ref26_Most_l6_O (s0 : List TRow) (w7 : List Int) (o : (List Int)) : Ex × St := (.exit 2, ⟨sp 92 0 [(9, .row 9)], [(9, .row 3 1 (o.map (D.i .i64)))], []⟩)
theorem ref26_Most_l6_rnd (rd : Option Nat) (s0 : List TRow) (w7 : List Int) (s10 : Int) (w9 : List Int) (o : (Int × List Int) ⊕ ((List Int))) (h : ref26_Most_l6_s s0 w7 s10 w9 = some o) : Arr Try.prog rd (fbody Try.prog 13) (0 :: [0, 1, 0, 1, 1, 1, 1]) (ref26_Most_l6_I s0 w7 s10 w9) (rR (fun s : Int × List Int => ref26_Most_l6_I s0 w7 s.1 s.2) (ref26_Most_l6_O s0 w7) o).1 (rR (fun s : Int × List Int => ref26_Most_l6_I s0 w7 s.1 s.2) (ref26_Most_l6_O s0 w7) o).2 := by
  unfold ref26_Most_l6_s at h
  replace h := iteE_some h
  rcases h with ⟨h46, h⟩ | ⟨h46, h⟩
  · skip
    replace h := bndE_some h
    obtain ⟨o41, h63, h⟩ := h
    obtain rfl := Option.some.inj h
    exact runB_arr mixed [(47, .int (w7.length : Int)), (48, .bit true)] [⟨[0, 1, 0, 0, 1, 0, 1, 1, 1, 1], [.live [0, 7, 9, 10], .keep [7, 9]], .normal, (ref26_Most_b12_O s0 s10 w7 w9 o41).2⟩] [.live [0, 7, 9, 10], .keep [7, 9]] (And.intro (len_map (D.i .i64) w7) (And.intro h46 (And.intro (ref26_Most_b12_ok rd s0 s10 w7 w9 o41 h63) (True.intro)))) (by kernel_rfl)
  · skip
    obtain rfl := Option.some.inj h
    exact runB_arr mixed [(47, .int (w7.length : Int)), (48, .bit false)] [] [.live [9], .keep [9]] (And.intro (len_map (D.i .i64) w7) (And.intro h46 (True.intro))) (by kernel_rfl)
theorem ref26_Most_l6_ok (rd : Option Nat) (s0 : List TRow) (w7 : List Int) (s10 : Int) (w9 : List Int) (t : (List Int)) (h : ref26_Most_l6 s0 w7 s10 w9 = some t) : LpOf Try.prog rd (fbody Try.prog 13) [0, 1, 0, 1, 1, 1, 1] (ref26_Most_l6_I s0 w7 s10 w9) ((ref26_Most_l6_O s0 w7) t).1 ((ref26_Most_l6_O s0 w7) t).2 :=
  loopE_lpR (fun s : Int × List Int => ref26_Most_l6_I s0 w7 s.1 s.2) (ref26_Most_l6_O s0 w7) (by kernel_rfl) (fun t => isN_ne (by rfl)) (fun s o h => ref26_Most_l6_rnd rd s0 w7 s.1 s.2 o h) (s := (s10, w9)) (t := t) h
theorem ref26_Most_ok (a0 : List TRow) (a1 : List TSlot) (a2 : Bool) (r : List Int) (h : ref26_Most a0 a1 a2 = some r) : ACall Try.prog 13 [.d ((D.l TRow.D) a0), .d ((D.l TSlot.D) a1), .d (D.b a2)] [] (.d ((D.l (D.i .i64)) r)) [] := by
  unfold ref26_Most at h
  replace h := bndE_some h
  obtain ⟨o17, h27, h⟩ := h
  replace h := bndE_some h
  obtain ⟨o42, h64, h⟩ := h
  obtain rfl := Option.some.inj h
  exact runF_call mixed [] [⟨[0, 1, 0, 1, 1], [.live [0, 1, 2, 7, 8], .keep [], .nil 7 7 3 1, .sort], .exit 0, (ref26_Most_l1_O a0 a1 a2 o17).2⟩, ⟨[0, 1, 0, 1, 1, 1, 1], [.live [0, 7, 9, 10], .keep [7], .nil 9 9 3 1, .sort], .exit 2, (ref26_Most_l6_O a0 o17 o42).2⟩] [] (And.intro (ref26_Most_l1_ok none a0 a1 a2 0 ([] : List Int) o17 h27) (And.intro (ref26_Most_l6_ok none a0 o17 0 ([] : List Int) o42 h64) (True.intro))) (by kernel_rfl)
def ref18_Less_l1_I (w2 : TConfig) (w3 : TConfig) (s5 : Int) : St := ⟨sp 59 0 [(2, .box 2 0), (3, .box 3 0), (5, .d ((D.i .i64) s5))], [(2, .cells ((cellsA (TConfig.D w2)))), (3, .cells ((cellsA (TConfig.D w3))))], []⟩
def ref18_Less_l1_O (w2 : TConfig) (w3 : TConfig) (o : Unit ⊕ Bool) : Ex × St := match o with
  | .inl o => (.exit 0, ⟨sp 59 0 [(2, .box 2 0), (3, .box 3 0)], [(2, .cells ((cellsA (TConfig.D w2)))), (3, .cells ((cellsA (TConfig.D w3))))], []⟩)
  | .inr o => (.ret, ⟨sp 59 0 [(4, .d (D.b o))], [], []⟩)
theorem ref18_Less_l1_rnd (rd : Option Nat) (w2 : TConfig) (w3 : TConfig) (s5 : Int) (o : (Int) ⊕ (Unit ⊕ Bool)) (h : ref18_Less_l1_s w2 w3 s5 = some o) : Arr Try.prog rd (fbody Try.prog 44) (0 :: [0, 1, 0, 1, 1]) (ref18_Less_l1_I w2 w3 s5) (rR (fun s : Int => ref18_Less_l1_I w2 w3 s) (ref18_Less_l1_O w2 w3) o).1 (rR (fun s : Int => ref18_Less_l1_I w2 w3 s) (ref18_Less_l1_O w2 w3) o).2 := by
  unfold ref18_Less_l1_s at h
  replace h := iteE_some h
  rcases h with ⟨h2, h⟩ | ⟨h2, h⟩
  · skip
    replace h := iteE_some h
    rcases h with ⟨h3, h⟩ | ⟨h3, h⟩
    · skip
      replace h := idxE_some h
      obtain ⟨x1, h4, h⟩ := h
      replace h := idxE_some h
      obtain ⟨x2, h5, h⟩ := h
      replace h := iteE_some h
      rcases h with ⟨h6, h⟩ | ⟨h6, h⟩
      · skip
        replace h := idxE_some h
        obtain ⟨x3, h7, h⟩ := h
        replace h := idxE_some h
        obtain ⟨x4, h8, h⟩ := h
        replace h := bndE_some h
        obtain ⟨r5, h9, h⟩ := h
        obtain rfl := Option.some.inj h
        exact runB_arr mixed [(19, .int (w2.vals.length : Int)), (21, .bit true), (25, .int (w3.vals.length : Int)), (27, .bit true), (33, .el (TValue.D x1)), (38, .el (TValue.D x2)), (40, .bit true), (44, .el (TValue.D x3)), (49, .el (TValue.D x4)), (51, .ret (.d (D.b r5)))] [] [.live [4], .keep []] (And.intro (len_map TValue.D w2.vals) (And.intro h2 (And.intro (len_map TValue.D w3.vals) (And.intro h3 (And.intro (elem_map TValue.D h4) (And.intro (elem_map TValue.D h5) (And.intro h6 (And.intro (elem_map TValue.D h7) (And.intro (elem_map TValue.D h8) (And.intro (ref03_Less_ok x3 x4 r5 h9) (True.intro))))))))))) (by kernel_rfl)
      · skip
        obtain rfl := Option.some.inj h
        exact runB_arr mixed [(19, .int (w2.vals.length : Int)), (21, .bit true), (25, .int (w3.vals.length : Int)), (27, .bit true), (33, .el (TValue.D x1)), (38, .el (TValue.D x2)), (40, .bit false)] [] [.live [2, 3, 5], .keep [2, 3]] (And.intro (len_map TValue.D w2.vals) (And.intro h2 (And.intro (len_map TValue.D w3.vals) (And.intro h3 (And.intro (elem_map TValue.D h4) (And.intro (elem_map TValue.D h5) (And.intro h6 (True.intro)))))))) (by kernel_rfl)
    · skip
      obtain rfl := Option.some.inj h
      exact runB_arr mixed [(19, .int (w2.vals.length : Int)), (21, .bit true), (25, .int (w3.vals.length : Int)), (27, .bit false)] [] [.live [2, 3], .keep [2, 3]] (And.intro (len_map TValue.D w2.vals) (And.intro h2 (And.intro (len_map TValue.D w3.vals) (And.intro h3 (True.intro))))) (by kernel_rfl)
  · skip
    obtain rfl := Option.some.inj h
    exact runB_arr mixed [(19, .int (w2.vals.length : Int)), (21, .bit false)] [] [.live [2, 3], .keep [2, 3]] (And.intro (len_map TValue.D w2.vals) (And.intro h2 (True.intro))) (by kernel_rfl)
theorem ref18_Less_l1_ok (rd : Option Nat) (w2 : TConfig) (w3 : TConfig) (s5 : Int) (t : Unit ⊕ Bool) (h : ref18_Less_l1 w2 w3 s5 = some t) : LpOf Try.prog rd (fbody Try.prog 44) [0, 1, 0, 1, 1] (ref18_Less_l1_I w2 w3 s5) ((ref18_Less_l1_O w2 w3) t).1 ((ref18_Less_l1_O w2 w3) t).2 :=
  loopE_lpR (fun s : Int => ref18_Less_l1_I w2 w3 s) (ref18_Less_l1_O w2 w3) (by kernel_rfl) (fun t => isN_ne (by rcases t with (_ | _) <;> rfl)) (fun s o h => ref18_Less_l1_rnd rd w2 w3 s o h) (s := s5) (t := t) h
theorem ref18_Less_ok (a0 : TConfig) (a1 : TConfig) (r : Bool) (h : ref18_Less a0 a1 = some r) : ACall Try.prog 44 [.d (TConfig.D a0), .d (TConfig.D a1)] [] (.d (D.b r)) [] := by
  unfold ref18_Less at h
  replace h := iteE_some h
  rcases h with ⟨h1, h⟩ | ⟨h1, h⟩
  · skip
    obtain rfl := Option.some.inj h
    exact runF_call mixed [(10, .bit true)] [] [] (And.intro h1 (True.intro)) (by kernel_rfl)
  · skip
    replace h := bndE_some h
    obtain ⟨o6, h10, h⟩ := h
    replace h := sumE_some h
    rcases h with ⟨o7, rfl, h⟩ | ⟨o8, rfl, h⟩
    · skip
      obtain rfl := Option.some.inj h
      exact runF_call mixed [(10, .bit false), (54, .int (a0.vals.length : Int)), (57, .int (a1.vals.length : Int))] [⟨[0, 1, 0, 1, 1], [.live [2, 3, 5], .keep [2, 3]], .exit 0, (ref18_Less_l1_O a0 a1 (Sum.inl o7)).2⟩] [] (And.intro h1 (And.intro (ref18_Less_l1_ok none a0 a1 0 (Sum.inl o7) h10) (And.intro (len_map TValue.D a0.vals) (And.intro (len_map TValue.D a1.vals) (True.intro))))) (by kernel_rfl)
    · skip
      obtain rfl := Option.some.inj h
      exact runF_call mixed [(10, .bit false)] [⟨[0, 1, 0, 1, 1], [.live [2, 3, 5], .keep [2, 3]], .ret, (ref18_Less_l1_O a0 a1 (Sum.inr o8)).2⟩] [] (And.intro h1 (And.intro (ref18_Less_l1_ok none a0 a1 0 (Sum.inr o8) h10) (True.intro))) (by kernel_rfl)
theorem ref18_One_ok (a0 : TConfig) (a1 : TConfig) (r : Bool) (h : ref18_One a0 a1 = some r) : ACall Try.prog 36 [.d (TConfig.D a0), .d (TConfig.D a1)] [] (.d (D.b r)) [] := by
  unfold ref18_One at h
  replace h := bndE_some h
  obtain ⟨r1, h1, h⟩ := h
  replace h := iteE_some h
  rcases h with ⟨h2, h⟩ | ⟨h2, h⟩
  · skip
    replace h := bndE_some h
    obtain ⟨r2, h3, h⟩ := h
    obtain rfl := Option.some.inj h
    exact runF_call mixed [(7, .ret (.d (D.b r1))), (9, .bit true), (12, .ret (.d (D.b r2)))] [] [] (And.intro (ref18_Less_ok a0 a1 r1 h1) (And.intro h2 (And.intro (ref18_Less_ok a1 a0 r2 h3) (True.intro)))) (by kernel_rfl)
  · skip
    obtain rfl := Option.some.inj h
    exact runF_call mixed [(7, .ret (.d (D.b r1))), (9, .bit false)] [] [] (And.intro (ref18_Less_ok a0 a1 r1 h1) (And.intro h2 (True.intro))) (by kernel_rfl)
def ref18_Same_l1_I (s0 : List TConfig) (s1 : List TConfig) (s5 : Int) : St := ⟨sp 27 0 [(0, .d ((D.l TConfig.D) s0)), (1, .d ((D.l TConfig.D) s1)), (5, .d ((D.i .i64) s5))], [], []⟩
def ref18_Same_l1_O (s0 : List TConfig) (s1 : List TConfig) (o : Unit ⊕ Unit) : Ex × St := match o with
  | .inl o => (.exit 0, ⟨sp 27 0 [], [], []⟩)
  | .inr o => (.ret, ⟨sp 27 0 [(4, .d (D.b false))], [], []⟩)
theorem ref18_Same_l1_rnd (rd : Option Nat) (s0 : List TConfig) (s1 : List TConfig) (s5 : Int) (o : (Int) ⊕ (Unit ⊕ Unit)) (h : ref18_Same_l1_s s0 s1 s5 = some o) : Arr Try.prog rd (fbody Try.prog 19) (0 :: [0, 1, 0, 1, 1]) (ref18_Same_l1_I s0 s1 s5) (rR (fun s : Int => ref18_Same_l1_I s0 s1 s) (ref18_Same_l1_O s0 s1) o).1 (rR (fun s : Int => ref18_Same_l1_I s0 s1 s) (ref18_Same_l1_O s0 s1) o).2 := by
  unfold ref18_Same_l1_s at h
  replace h := iteE_some h
  rcases h with ⟨h2, h⟩ | ⟨h2, h⟩
  · skip
    replace h := idxE_some h
    obtain ⟨x1, h3, h⟩ := h
    replace h := idxE_some h
    obtain ⟨x2, h4, h⟩ := h
    replace h := bndE_some h
    obtain ⟨r3, h5, h⟩ := h
    replace h := iteE_some h
    rcases h with ⟨h6, h⟩ | ⟨h6, h⟩
    · skip
      obtain rfl := Option.some.inj h
      exact runB_arr mixed [(13, .int (s0.length : Int)), (14, .bit true), (19, .el (TConfig.D x1)), (23, .el (TConfig.D x2)), (25, .ret (.d (D.b r3))), (26, .bit true)] [] [.live [4], .keep []] (And.intro (len_map TConfig.D s0) (And.intro h2 (And.intro (elem_map TConfig.D h3) (And.intro (elem_map TConfig.D h4) (And.intro (ref18_One_ok x1 x2 r3 h5) (And.intro h6 (True.intro))))))) (by kernel_rfl)
    · skip
      obtain rfl := Option.some.inj h
      exact runB_arr mixed [(13, .int (s0.length : Int)), (14, .bit true), (19, .el (TConfig.D x1)), (23, .el (TConfig.D x2)), (25, .ret (.d (D.b r3))), (26, .bit false)] [] [.live [0, 1, 5], .keep []] (And.intro (len_map TConfig.D s0) (And.intro h2 (And.intro (elem_map TConfig.D h3) (And.intro (elem_map TConfig.D h4) (And.intro (ref18_One_ok x1 x2 r3 h5) (And.intro h6 (True.intro))))))) (by kernel_rfl)
  · skip
    obtain rfl := Option.some.inj h
    exact runB_arr mixed [(13, .int (s0.length : Int)), (14, .bit false)] [] [.live [], .keep []] (And.intro (len_map TConfig.D s0) (And.intro h2 (True.intro))) (by kernel_rfl)
theorem ref18_Same_l1_ok (rd : Option Nat) (s0 : List TConfig) (s1 : List TConfig) (s5 : Int) (t : Unit ⊕ Unit) (h : ref18_Same_l1 s0 s1 s5 = some t) : LpOf Try.prog rd (fbody Try.prog 19) [0, 1, 0, 1, 1] (ref18_Same_l1_I s0 s1 s5) ((ref18_Same_l1_O s0 s1) t).1 ((ref18_Same_l1_O s0 s1) t).2 :=
  loopE_lpR (fun s : Int => ref18_Same_l1_I s0 s1 s) (ref18_Same_l1_O s0 s1) (by kernel_rfl) (fun t => isN_ne (by rcases t with (_ | _) <;> rfl)) (fun s o h => ref18_Same_l1_rnd rd s0 s1 s o h) (s := s5) (t := t) h
theorem ref18_Same_ok (a0 : List TConfig) (a1 : List TConfig) (r : Bool) (h : ref18_Same a0 a1 = some r) : ACall Try.prog 19 [.d ((D.l TConfig.D) a0), .d ((D.l TConfig.D) a1)] [] (.d (D.b r)) [] := by
  unfold ref18_Same at h
  replace h := iteE_some h
  rcases h with ⟨h1, h⟩ | ⟨h1, h⟩
  · skip
    obtain rfl := Option.some.inj h
    exact runF_call mixed [(7, .int (a0.length : Int)), (9, .int (a1.length : Int)), (10, .bit true)] [] [] (And.intro (len_map TConfig.D a0) (And.intro (len_map TConfig.D a1) (And.intro h1 (True.intro)))) (by kernel_rfl)
  · skip
    replace h := bndE_some h
    obtain ⟨o4, h7, h⟩ := h
    replace h := sumE_some h
    rcases h with ⟨o5, rfl, h⟩ | ⟨o6, rfl, h⟩
    · skip
      obtain rfl := Option.some.inj h
      exact runF_call mixed [(7, .int (a0.length : Int)), (9, .int (a1.length : Int)), (10, .bit false)] [⟨[0, 1, 0, 1, 1], [.live [0, 1, 5], .keep []], .exit 0, (ref18_Same_l1_O a0 a1 (Sum.inl o5)).2⟩] [] (And.intro (len_map TConfig.D a0) (And.intro (len_map TConfig.D a1) (And.intro h1 (And.intro (ref18_Same_l1_ok none a0 a1 0 (Sum.inl o5) h7) (True.intro))))) (by kernel_rfl)
    · skip
      obtain rfl := Option.some.inj h
      exact runF_call mixed [(7, .int (a0.length : Int)), (9, .int (a1.length : Int)), (10, .bit false)] [⟨[0, 1, 0, 1, 1], [.live [0, 1, 5], .keep []], .ret, (ref18_Same_l1_O a0 a1 (Sum.inr o6)).2⟩] [] (And.intro (len_map TConfig.D a0) (And.intro (len_map TConfig.D a1) (And.intro h1 (And.intro (ref18_Same_l1_ok none a0 a1 0 (Sum.inr o6) h7) (True.intro))))) (by kernel_rfl)
def ref27_Spare_l1_I (s0 : List TRow) (s1 : Int) (s5 : List Int) (s6 : Int) : St := ⟨sp 38 0 [(0, .d ((D.l TRow.D) s0)), (1, .d ((D.i .i64) s1)), (5, .d ((D.l (D.i .i64)) s5)), (6, .d ((D.i .i64) s6))], [], []⟩
def ref27_Spare_l1_O (s0 : List TRow) (s1 : Int) (s5 : List Int) (o : Unit ⊕ Unit) : Ex × St := match o with
  | .inl o => (.exit 0, ⟨sp 38 0 [(5, .d ((D.l (D.i .i64)) s5))], [], []⟩)
  | .inr o => (.ret, ⟨sp 38 0 [(4, .d (D.b false))], [], []⟩)
theorem ref27_Spare_l1_rnd (rd : Option Nat) (s0 : List TRow) (s1 : Int) (s5 : List Int) (s6 : Int) (o : (Int) ⊕ (Unit ⊕ Unit)) (h : ref27_Spare_l1_s s0 s1 s5 s6 = some o) : Arr Try.prog rd (fbody Try.prog 10) (0 :: [0, 1, 0, 1, 1]) (ref27_Spare_l1_I s0 s1 s5 s6) (rR (fun s : Int => ref27_Spare_l1_I s0 s1 s5 s) (ref27_Spare_l1_O s0 s1 s5) o).1 (rR (fun s : Int => ref27_Spare_l1_I s0 s1 s5 s) (ref27_Spare_l1_O s0 s1 s5) o).2 := by
  unfold ref27_Spare_l1_s at h
  replace h := iteE_some h
  rcases h with ⟨h3, h⟩ | ⟨h3, h⟩
  · skip
    replace h := idxE_some h
    obtain ⟨x3, h4, h⟩ := h
    replace h := idxE_some h
    obtain ⟨x4, h5, h⟩ := h
    replace h := idxE_some h
    obtain ⟨x5, h6, h⟩ := h
    replace h := bndE_some h
    obtain ⟨r6, h7, h⟩ := h
    replace h := iteE_some h
    rcases h with ⟨h8, h⟩ | ⟨h8, h⟩
    · skip
      obtain rfl := Option.some.inj h
      exact runB_arr mixed [(16, .int (s5.length : Int)), (17, .bit true), (23, .el ((D.i .i64) x3)), (25, .el (TRow.D x4)), (30, .el (TRow.D x5)), (33, .ret (.d (D.b r6))), (34, .bit true)] [] [.live [4], .keep []] (And.intro (len_map (D.i .i64) s5) (And.intro h3 (And.intro (elem_map (D.i .i64) h4) (And.intro (elem_map TRow.D h5) (And.intro (elem_map TRow.D h6) (And.intro (ref18_Same_ok x4.set x5.set r6 h7) (And.intro h8 (True.intro)))))))) (by kernel_rfl)
    · skip
      obtain rfl := Option.some.inj h
      exact runB_arr mixed [(16, .int (s5.length : Int)), (17, .bit true), (23, .el ((D.i .i64) x3)), (25, .el (TRow.D x4)), (30, .el (TRow.D x5)), (33, .ret (.d (D.b r6))), (34, .bit false)] [] [.live [0, 1, 5, 6], .keep []] (And.intro (len_map (D.i .i64) s5) (And.intro h3 (And.intro (elem_map (D.i .i64) h4) (And.intro (elem_map TRow.D h5) (And.intro (elem_map TRow.D h6) (And.intro (ref18_Same_ok x4.set x5.set r6 h7) (And.intro h8 (True.intro)))))))) (by kernel_rfl)
  · skip
    obtain rfl := Option.some.inj h
    exact runB_arr mixed [(16, .int (s5.length : Int)), (17, .bit false)] [] [.live [5], .keep []] (And.intro (len_map (D.i .i64) s5) (And.intro h3 (True.intro))) (by kernel_rfl)
theorem ref27_Spare_l1_ok (rd : Option Nat) (s0 : List TRow) (s1 : Int) (s5 : List Int) (s6 : Int) (t : Unit ⊕ Unit) (h : ref27_Spare_l1 s0 s1 s5 s6 = some t) : LpOf Try.prog rd (fbody Try.prog 10) [0, 1, 0, 1, 1] (ref27_Spare_l1_I s0 s1 s5 s6) ((ref27_Spare_l1_O s0 s1 s5) t).1 ((ref27_Spare_l1_O s0 s1 s5) t).2 :=
  loopE_lpR (fun s : Int => ref27_Spare_l1_I s0 s1 s5 s) (ref27_Spare_l1_O s0 s1 s5) (by kernel_rfl) (fun t => isN_ne (by rcases t with (_ | _) <;> rfl)) (fun s o h => ref27_Spare_l1_rnd rd s0 s1 s5 s o h) (s := s6) (t := t) h
theorem ref27_Spare_ok (a0 : List TRow) (a1 : Int) (r : Bool) (h : ref27_Spare a0 a1 = some r) : ACall Try.prog 10 [.d ((D.l TRow.D) a0), .d ((D.i .i64) a1)] [] (.d (D.b r)) [] := by
  unfold ref27_Spare at h
  replace h := idxE_some h
  obtain ⟨x1, h1, h⟩ := h
  replace h := bndE_some h
  obtain ⟨r2, h2, h⟩ := h
  replace h := bndE_some h
  obtain ⟨o7, h9, h⟩ := h
  replace h := sumE_some h
  rcases h with ⟨o8, rfl, h⟩ | ⟨o9, rfl, h⟩
  · skip
    obtain rfl := Option.some.inj h
    exact runF_call mixed [(10, .el (TRow.D x1)), (13, .ret (.d ((D.l (D.i .i64)) r2))), (36, .int (r2.length : Int))] [⟨[0, 1, 0, 1, 1], [.live [0, 1, 5, 6], .keep []], .exit 0, (ref27_Spare_l1_O a0 a1 r2 (Sum.inl o8)).2⟩] [] (And.intro (elem_map TRow.D h1) (And.intro (ref26_Most_ok a0 x1.bind true r2 h2) (And.intro (ref27_Spare_l1_ok none a0 a1 r2 0 (Sum.inl o8) h9) (And.intro (len_map (D.i .i64) r2) (True.intro))))) (by kernel_rfl)
  · skip
    obtain rfl := Option.some.inj h
    exact runF_call mixed [(10, .el (TRow.D x1)), (13, .ret (.d ((D.l (D.i .i64)) r2)))] [⟨[0, 1, 0, 1, 1], [.live [0, 1, 5, 6], .keep []], .ret, (ref27_Spare_l1_O a0 a1 r2 (Sum.inr o9)).2⟩] [] (And.intro (elem_map TRow.D h1) (And.intro (ref26_Most_ok a0 x1.bind true r2 h2) (And.intro (ref27_Spare_l1_ok none a0 a1 r2 0 (Sum.inr o9) h9) (True.intro)))) (by kernel_rfl)
def ref27_All_b3_I (s4 : Int) (s18 : Bool) (w3 : List TRow) : St := ⟨sp 31 0 [(3, .row 3), (4, .d ((D.i .i64) s4)), (18, .d (D.b s18))], [(3, .row 35 2 (w3.map TRow.D))], []⟩
def ref27_All_b3_O (s4 : Int) (s18 : Bool) (w3 : List TRow) (o : (List TRow)) : Ex × St := (.normal, ⟨sp 31 0 [(3, .row 3), (4, .d ((D.i .i64) s4))], [(3, .row 35 2 (o.map TRow.D))], []⟩)
theorem ref27_All_b3_ok (rd : Option Nat) (s4 : Int) (s18 : Bool) (w3 : List TRow) (o : (List TRow)) (h : ref27_All_b3 s4 s18 w3 = some o) : LpOf Try.prog rd (fbody Try.prog 8) [1, 0, 0, 1, 0, 0, 1, 0, 1, 1] (ref27_All_b3_I s4 s18 w3) (ref27_All_b3_O s4 s18 w3 o).1 (ref27_All_b3_O s4 s18 w3 o).2 := by
  unfold ref27_All_b3 at h
  cases s18 with
  | true =>
    replace h := iteT h
    replace h := chkE_some h
    obtain ⟨h5, h⟩ := h
    replace h := chkE_some h
    obtain ⟨h6, h⟩ := h
    replace h := chkE_some h
    obtain ⟨h7, h⟩ := h
    replace h := chkE_some h
    obtain ⟨h8, h⟩ := h
    obtain rfl := Option.some.inj h
    exact (runB_arr mixed [(22, .sl ((sub w3 0 s4).map TRow.D)), (23, .sl ((([] : List TRow) ++ (sub w3 0 s4)).map TRow.D)), (28, .sl ((sub w3 (intVal .add .i64 s4 1) (w3.length : Int)).map TRow.D)), (29, .sl (((([] : List TRow) ++ (sub w3 0 s4)) ++ (sub w3 (intVal .add .i64 s4 1) (w3.length : Int))).map TRow.D))] [] [.live [3, 4], .keep [29], .ren 29 3, .sort] (And.intro (nc_ok TRow.D ([] : List TRow)) (And.intro (cut_some TRow.D h5) (And.intro (nc_ok TRow.D (sub w3 0 s4)) (And.intro (fit_map TRow.D h6) (And.intro (app_map TRow.D ([] : List TRow) (sub w3 0 s4)) (And.intro (cut_none TRow.D h7) (And.intro (nc_ok TRow.D (sub w3 (intVal .add .i64 s4 1) (w3.length : Int))) (And.intro (fit_map TRow.D h8) (And.intro (app_map TRow.D (([] : List TRow) ++ (sub w3 0 s4)) (sub w3 (intVal .add .i64 s4 1) (w3.length : Int))) (True.intro)))))))))) (by kernel_rfl)).lp
  | false =>
    replace h := iteF h
    obtain rfl := Option.some.inj h
    exact (runB_arr mixed [] [] [.live [3, 4], .keep [3]] (True.intro) (by kernel_rfl)).lp
def ref27_All_b2_I (s4 : Int) (w3 : List TRow) : St := ⟨sp 31 0 [(3, .row 3), (4, .d ((D.i .i64) s4))], [(3, .row 35 2 (w3.map TRow.D))], []⟩
def ref27_All_b2_O (s4 : Int) (w3 : List TRow) (o : (List TRow)) : Ex × St := (.normal, ⟨sp 31 0 [(3, .row 3), (4, .d ((D.i .i64) s4))], [(3, .row 35 2 (o.map TRow.D))], []⟩)
theorem ref27_All_b2_ok (rd : Option Nat) (s4 : Int) (w3 : List TRow) (o : (List TRow)) (h : ref27_All_b2 s4 w3 = some o) : LpOf Try.prog rd (fbody Try.prog 8) [0, 1, 0, 0, 1, 0, 1, 1] (ref27_All_b2_I s4 w3) (ref27_All_b2_O s4 w3 o).1 (ref27_All_b2_O s4 w3 o).2 := by
  unfold ref27_All_b2 at h
  replace h := bndE_some h
  obtain ⟨r1, h3, h⟩ := h
  replace h := bndE_some h
  obtain ⟨o2, h9, h⟩ := h
  obtain rfl := Option.some.inj h
  exact (runB_arr mixed [(18, .ret (.d (D.b r1)))] [⟨[1, 0, 0, 1, 0, 0, 1, 0, 1, 1], [.live [3, 4, 18], .keep [3]], .normal, (ref27_All_b3_O s4 r1 w3 o2).2⟩] [.live [3, 4], .keep [3]] (And.intro (ref27_Spare_ok w3 s4 r1 h3) (And.intro (ref27_All_b3_ok rd s4 r1 w3 o2 h9) (True.intro))) (by kernel_rfl)).lp
def ref27_All_l1_I (s4 : Int) (w3 : List TRow) : St := ⟨sp 31 0 [(3, .row 3), (4, .d ((D.i .i64) s4))], [(3, .row 35 2 (w3.map TRow.D))], []⟩
def ref27_All_l1_O (o : (List TRow)) : Ex × St := (.exit 0, ⟨sp 31 0 [(3, .row 3)], [(3, .row 35 2 (o.map TRow.D))], []⟩)
theorem ref27_All_l1_rnd (rd : Option Nat) (s4 : Int) (w3 : List TRow) (o : (Int × List TRow) ⊕ ((List TRow))) (h : ref27_All_l1_s s4 w3 = some o) : Arr Try.prog rd (fbody Try.prog 8) (0 :: [0, 1, 0, 1, 1]) (ref27_All_l1_I s4 w3) (rR (fun s : Int × List TRow => ref27_All_l1_I s.1 s.2) (ref27_All_l1_O) o).1 (rR (fun s : Int × List TRow => ref27_All_l1_I s.1 s.2) (ref27_All_l1_O) o).2 := by
  unfold ref27_All_l1_s at h
  replace h := iteE_some h
  rcases h with ⟨h2, h⟩ | ⟨h2, h⟩
  · skip
    replace h := bndE_some h
    obtain ⟨o3, h10, h⟩ := h
    obtain rfl := Option.some.inj h
    exact runB_arr mixed [(13, .bit true)] [⟨[0, 1, 0, 0, 1, 0, 1, 1], [.live [3, 4], .keep [3]], .normal, (ref27_All_b2_O s4 w3 o3).2⟩] [.live [3, 4], .keep [3]] (And.intro h2 (And.intro (ref27_All_b2_ok rd s4 w3 o3 h10) (True.intro))) (by kernel_rfl)
  · skip
    obtain rfl := Option.some.inj h
    exact runB_arr mixed [(13, .bit false)] [] [.live [3], .keep [3]] (And.intro h2 (True.intro)) (by kernel_rfl)
theorem ref27_All_l1_ok (rd : Option Nat) (s4 : Int) (w3 : List TRow) (t : (List TRow)) (h : ref27_All_l1 s4 w3 = some t) : LpOf Try.prog rd (fbody Try.prog 8) [0, 1, 0, 1, 1] (ref27_All_l1_I s4 w3) ((ref27_All_l1_O) t).1 ((ref27_All_l1_O) t).2 :=
  loopE_lpR (fun s : Int × List TRow => ref27_All_l1_I s.1 s.2) (ref27_All_l1_O) (by kernel_rfl) (fun t => isN_ne (by rfl)) (fun s o h => ref27_All_l1_rnd rd s.1 s.2 o h) (s := (s4, w3)) (t := t) h
theorem ref27_All_ok (a0 : List TRow) (r : List TRow) (h : ref27_All a0 = some r) : ACall Try.prog 8 [.d ((D.l TRow.D) a0)] [] (.d ((D.l TRow.D) r)) [] := by
  unfold ref27_All at h
  replace h := chkE_some h
  obtain ⟨h1, h⟩ := h
  replace h := bndE_some h
  obtain ⟨o4, h11, h⟩ := h
  obtain rfl := Option.some.inj h
  exact runF_call mixed [(8, .sl ((([] : List TRow) ++ a0).map TRow.D)), (10, .int ((([] : List TRow) ++ a0).length : Int))] [⟨[0, 1, 0, 1, 1], [.live [3, 4], .keep [8], .ren 8 3, .sort], .exit 0, (ref27_All_l1_O o4).2⟩] [] (And.intro (nc_ok TRow.D ([] : List TRow)) (And.intro (nc_ok TRow.D a0) (And.intro (fit_map TRow.D h1) (And.intro (app_map TRow.D ([] : List TRow) a0) (And.intro (len_map TRow.D (([] : List TRow) ++ a0)) (And.intro (ref27_All_l1_ok none (intVal .sub .i64 ((([] : List TRow) ++ a0).length : Int) 1) (([] : List TRow) ++ a0) o4 h11) (True.intro))))))) (by kernel_rfl)
def ref24_Same_l1_I (s0 : List TRow) (s1 : List TRow) (s5 : Int) : St := ⟨sp 43 0 [(0, .d ((D.l TRow.D) s0)), (1, .d ((D.l TRow.D) s1)), (5, .d ((D.i .i64) s5))], [], []⟩
def ref24_Same_l1_O (s0 : List TRow) (s1 : List TRow) (o : Unit ⊕ Unit) : Ex × St := match o with
  | .inl o => (.exit 0, ⟨sp 43 0 [], [], []⟩)
  | .inr o => (.ret, ⟨sp 43 0 [(4, .d (D.b false))], [], []⟩)
theorem ref24_Same_l1_rnd (rd : Option Nat) (s0 : List TRow) (s1 : List TRow) (s5 : Int) (o : (Int) ⊕ (Unit ⊕ Unit)) (h : ref24_Same_l1_s s0 s1 s5 = some o) : Arr Try.prog rd (fbody Try.prog 6) (0 :: [0, 1, 0, 1, 1]) (ref24_Same_l1_I s0 s1 s5) (rR (fun s : Int => ref24_Same_l1_I s0 s1 s) (ref24_Same_l1_O s0 s1) o).1 (rR (fun s : Int => ref24_Same_l1_I s0 s1 s) (ref24_Same_l1_O s0 s1) o).2 := by
  unfold ref24_Same_l1_s at h
  replace h := iteE_some h
  rcases h with ⟨h2, h⟩ | ⟨h2, h⟩
  · skip
    replace h := idxE_some h
    obtain ⟨x1, h3, h⟩ := h
    replace h := idxE_some h
    obtain ⟨x2, h4, h⟩ := h
    replace h := bndE_some h
    obtain ⟨r3, h5, h⟩ := h
    replace h := iteE_some h
    rcases h with ⟨h6, h⟩ | ⟨h6, h⟩
    · skip
      obtain rfl := Option.some.inj h
      exact runB_arr mixed [(13, .int (s0.length : Int)), (14, .bit true), (19, .el (TRow.D x1)), (24, .el (TRow.D x2)), (27, .ret (.d (D.b r3))), (29, .bit true)] [] [.live [4], .keep []] (And.intro (len_map TRow.D s0) (And.intro h2 (And.intro (elem_map TRow.D h3) (And.intro (elem_map TRow.D h4) (And.intro (ref05_Same_ok x1.bind x2.bind r3 h5) (And.intro h6 (True.intro))))))) (by kernel_rfl)
    · skip
      replace h := idxE_some h
      obtain ⟨x4, h7, h⟩ := h
      replace h := idxE_some h
      obtain ⟨x5, h8, h⟩ := h
      replace h := bndE_some h
      obtain ⟨r6, h9, h⟩ := h
      replace h := iteE_some h
      rcases h with ⟨h10, h⟩ | ⟨h10, h⟩
      · skip
        obtain rfl := Option.some.inj h
        exact runB_arr mixed [(13, .int (s0.length : Int)), (14, .bit true), (19, .el (TRow.D x1)), (24, .el (TRow.D x2)), (27, .ret (.d (D.b r3))), (29, .bit false), (32, .el (TRow.D x4)), (37, .el (TRow.D x5)), (40, .ret (.d (D.b r6))), (42, .bit true)] [] [.live [4], .keep []] (And.intro (len_map TRow.D s0) (And.intro h2 (And.intro (elem_map TRow.D h3) (And.intro (elem_map TRow.D h4) (And.intro (ref05_Same_ok x1.bind x2.bind r3 h5) (And.intro h6 (And.intro (elem_map TRow.D h7) (And.intro (elem_map TRow.D h8) (And.intro (ref18_Same_ok x4.set x5.set r6 h9) (And.intro h10 (True.intro))))))))))) (by kernel_rfl)
      · skip
        obtain rfl := Option.some.inj h
        exact runB_arr mixed [(13, .int (s0.length : Int)), (14, .bit true), (19, .el (TRow.D x1)), (24, .el (TRow.D x2)), (27, .ret (.d (D.b r3))), (29, .bit false), (32, .el (TRow.D x4)), (37, .el (TRow.D x5)), (40, .ret (.d (D.b r6))), (42, .bit false)] [] [.live [0, 1, 5], .keep []] (And.intro (len_map TRow.D s0) (And.intro h2 (And.intro (elem_map TRow.D h3) (And.intro (elem_map TRow.D h4) (And.intro (ref05_Same_ok x1.bind x2.bind r3 h5) (And.intro h6 (And.intro (elem_map TRow.D h7) (And.intro (elem_map TRow.D h8) (And.intro (ref18_Same_ok x4.set x5.set r6 h9) (And.intro h10 (True.intro))))))))))) (by kernel_rfl)
  · skip
    obtain rfl := Option.some.inj h
    exact runB_arr mixed [(13, .int (s0.length : Int)), (14, .bit false)] [] [.live [], .keep []] (And.intro (len_map TRow.D s0) (And.intro h2 (True.intro))) (by kernel_rfl)
theorem ref24_Same_l1_ok (rd : Option Nat) (s0 : List TRow) (s1 : List TRow) (s5 : Int) (t : Unit ⊕ Unit) (h : ref24_Same_l1 s0 s1 s5 = some t) : LpOf Try.prog rd (fbody Try.prog 6) [0, 1, 0, 1, 1] (ref24_Same_l1_I s0 s1 s5) ((ref24_Same_l1_O s0 s1) t).1 ((ref24_Same_l1_O s0 s1) t).2 :=
  loopE_lpR (fun s : Int => ref24_Same_l1_I s0 s1 s) (ref24_Same_l1_O s0 s1) (by kernel_rfl) (fun t => isN_ne (by rcases t with (_ | _) <;> rfl)) (fun s o h => ref24_Same_l1_rnd rd s0 s1 s o h) (s := s5) (t := t) h
theorem ref24_Same_ok (a0 : List TRow) (a1 : List TRow) (r : Bool) (h : ref24_Same a0 a1 = some r) : ACall Try.prog 6 [.d ((D.l TRow.D) a0), .d ((D.l TRow.D) a1)] [] (.d (D.b r)) [] := by
  unfold ref24_Same at h
  replace h := iteE_some h
  rcases h with ⟨h1, h⟩ | ⟨h1, h⟩
  · skip
    obtain rfl := Option.some.inj h
    exact runF_call mixed [(7, .int (a0.length : Int)), (9, .int (a1.length : Int)), (10, .bit true)] [] [] (And.intro (len_map TRow.D a0) (And.intro (len_map TRow.D a1) (And.intro h1 (True.intro)))) (by kernel_rfl)
  · skip
    replace h := bndE_some h
    obtain ⟨o7, h11, h⟩ := h
    replace h := sumE_some h
    rcases h with ⟨o8, rfl, h⟩ | ⟨o9, rfl, h⟩
    · skip
      obtain rfl := Option.some.inj h
      exact runF_call mixed [(7, .int (a0.length : Int)), (9, .int (a1.length : Int)), (10, .bit false)] [⟨[0, 1, 0, 1, 1], [.live [0, 1, 5], .keep []], .exit 0, (ref24_Same_l1_O a0 a1 (Sum.inl o8)).2⟩] [] (And.intro (len_map TRow.D a0) (And.intro (len_map TRow.D a1) (And.intro h1 (And.intro (ref24_Same_l1_ok none a0 a1 0 (Sum.inl o8) h11) (True.intro))))) (by kernel_rfl)
    · skip
      obtain rfl := Option.some.inj h
      exact runF_call mixed [(7, .int (a0.length : Int)), (9, .int (a1.length : Int)), (10, .bit false)] [⟨[0, 1, 0, 1, 1], [.live [0, 1, 5], .keep []], .ret, (ref24_Same_l1_O a0 a1 (Sum.inr o9)).2⟩] [] (And.intro (len_map TRow.D a0) (And.intro (len_map TRow.D a1) (And.intro h1 (And.intro (ref24_Same_l1_ok none a0 a1 0 (Sum.inr o9) h11) (True.intro))))) (by kernel_rfl)
theorem prune_Below_v2_ok (a0 : List TRow) (a1 : Int) (r : List TRow) (h : prune_Below_v2 a0 a1 = some r) : ACall Try.prog 11 [.d ((D.l TRow.D) a0), .d ((D.i .i64) a1)] [] (.d ((D.l TRow.D) r)) [] := by
  unfold prune_Below_v2 at h
  replace h := iteE_some h
  rcases h with ⟨h1, h⟩ | ⟨h1, h⟩
  · skip
    obtain rfl := Option.some.inj h
    exact runF_call mixed [(8, .bit true)] [] [] (And.intro h1 (True.intro)) (by kernel_rfl)
  · skip
    replace h := iteE_some h
    rcases h with ⟨h2, h⟩ | ⟨h2, h⟩
    · skip
      obtain rfl := Option.some.inj h
      exact runF_call mixed [(8, .bit false), (11, .int (a0.length : Int)), (13, .bit true)] [] [] (And.intro h1 (And.intro (len_map TRow.D a0) (And.intro h2 (True.intro)))) (by kernel_rfl)
    · skip
      replace h := idxE_some h
      obtain ⟨x1, h3, h⟩ := h
      replace h := bndE_some h
      obtain ⟨r2, h4, h⟩ := h
      replace h := bndE_some h
      obtain ⟨r3, h5, h⟩ := h
      obtain rfl := Option.some.inj h
      exact runF_call mixed [(8, .bit false), (11, .int (a0.length : Int)), (13, .bit false), (16, .el (TRow.D x1)), (10005, .frz), (21, .ret (.d ((D.l TRow.D) r2))), (23, .ret (.d ((D.l TRow.D) r3)))] [] [] (And.intro h1 (And.intro (len_map TRow.D a0) (And.intro h2 (And.intro (elem_map TRow.D h3) (And.intro (prune_keep_Row_ok a0 x1.bind r2 h4) (And.intro (extend_Greatest_ok r2 x1.bind r3 h5) (True.intro))))))) (by kernel_rfl)
theorem prune_Spare_v2_ok (a0 : List TRow) (a1 : Int) (r : Bool) (h : prune_Spare_v2 a0 a1 = some r) : ACall Try.prog 9 [.d ((D.l TRow.D) a0), .d ((D.i .i64) a1)] [] (.d (D.b r)) [] := by
  unfold prune_Spare_v2 at h
  replace h := bndE_some h
  obtain ⟨r1, h1, h⟩ := h
  replace h := iteE_some h
  rcases h with ⟨h2, h⟩ | ⟨h2, h⟩
  · skip
    replace h := idxE_some h
    obtain ⟨x2, h3, h⟩ := h
    replace h := bndE_some h
    obtain ⟨r3, h4, h⟩ := h
    obtain rfl := Option.some.inj h
    exact runF_call mixed [(8, .ret (.d ((D.l TRow.D) r1))), (10, .int (r1.length : Int)), (12, .bit true), (16, .el (TRow.D x2)), (18, .ret (.d (D.b r3)))] [] [] (And.intro (prune_Below_v2_ok a0 a1 r1 h1) (And.intro (len_map TRow.D r1) (And.intro h2 (And.intro (elem_map TRow.D h3) (And.intro (prune_alike_Row_ok r1 x2 r3 h4) (True.intro)))))) (by kernel_rfl)
  · skip
    obtain rfl := Option.some.inj h
    exact runF_call mixed [(8, .ret (.d ((D.l TRow.D) r1))), (10, .int (r1.length : Int)), (12, .bit false)] [] [] (And.intro (prune_Below_v2_ok a0 a1 r1 h1) (And.intro (len_map TRow.D r1) (And.intro h2 (True.intro)))) (by kernel_rfl)
def ref27_Spare_v2_l1_I (s0 : List TRow) (s1 : Int) (s5 : List Int) (s6 : Int) : St := ⟨sp 38 0 [(0, .d ((D.l TRow.D) s0)), (1, .d ((D.i .i64) s1)), (5, .d ((D.l (D.i .i64)) s5)), (6, .d ((D.i .i64) s6))], [], []⟩
def ref27_Spare_v2_l1_O (s0 : List TRow) (s1 : Int) (s5 : List Int) (o : Unit ⊕ Unit) : Ex × St := match o with
  | .inl o => (.exit 0, ⟨sp 38 0 [(5, .d ((D.l (D.i .i64)) s5))], [], []⟩)
  | .inr o => (.ret, ⟨sp 38 0 [(4, .d (D.b false))], [], []⟩)
theorem ref27_Spare_v2_l1_rnd (rd : Option Nat) (s0 : List TRow) (s1 : Int) (s5 : List Int) (s6 : Int) (o : (Int) ⊕ (Unit ⊕ Unit)) (h : ref27_Spare_v2_l1_s s0 s1 s5 s6 = some o) : Arr Try.prog rd (fbody Try.prog 10) (0 :: [0, 1, 0, 1, 1]) (ref27_Spare_v2_l1_I s0 s1 s5 s6) (rR (fun s : Int => ref27_Spare_v2_l1_I s0 s1 s5 s) (ref27_Spare_v2_l1_O s0 s1 s5) o).1 (rR (fun s : Int => ref27_Spare_v2_l1_I s0 s1 s5 s) (ref27_Spare_v2_l1_O s0 s1 s5) o).2 := by
  unfold ref27_Spare_v2_l1_s at h
  replace h := iteE_some h
  rcases h with ⟨h3, h⟩ | ⟨h3, h⟩
  · skip
    replace h := idxE_some h
    obtain ⟨x3, h4, h⟩ := h
    replace h := idxE_some h
    obtain ⟨x4, h5, h⟩ := h
    replace h := idxE_some h
    obtain ⟨x5, h6, h⟩ := h
    replace h := bndE_some h
    obtain ⟨r6, h7, h⟩ := h
    replace h := iteE_some h
    rcases h with ⟨h8, h⟩ | ⟨h8, h⟩
    · skip
      obtain rfl := Option.some.inj h
      exact runB_arr mixed [(16, .int (s5.length : Int)), (17, .bit true), (23, .el ((D.i .i64) x3)), (25, .el (TRow.D x4)), (30, .el (TRow.D x5)), (33, .ret (.d (D.b r6))), (34, .bit true)] [] [.live [4], .keep []] (And.intro (len_map (D.i .i64) s5) (And.intro h3 (And.intro (elem_map (D.i .i64) h4) (And.intro (elem_map TRow.D h5) (And.intro (elem_map TRow.D h6) (And.intro (ref18_Same_ok x4.set x5.set r6 h7) (And.intro h8 (True.intro)))))))) (by kernel_rfl)
    · skip
      obtain rfl := Option.some.inj h
      exact runB_arr mixed [(16, .int (s5.length : Int)), (17, .bit true), (23, .el ((D.i .i64) x3)), (25, .el (TRow.D x4)), (30, .el (TRow.D x5)), (33, .ret (.d (D.b r6))), (34, .bit false)] [] [.live [0, 1, 5, 6], .keep []] (And.intro (len_map (D.i .i64) s5) (And.intro h3 (And.intro (elem_map (D.i .i64) h4) (And.intro (elem_map TRow.D h5) (And.intro (elem_map TRow.D h6) (And.intro (ref18_Same_ok x4.set x5.set r6 h7) (And.intro h8 (True.intro)))))))) (by kernel_rfl)
  · skip
    obtain rfl := Option.some.inj h
    exact runB_arr mixed [(16, .int (s5.length : Int)), (17, .bit false)] [] [.live [5], .keep []] (And.intro (len_map (D.i .i64) s5) (And.intro h3 (True.intro))) (by kernel_rfl)
theorem ref27_Spare_v2_l1_ok (rd : Option Nat) (s0 : List TRow) (s1 : Int) (s5 : List Int) (s6 : Int) (t : Unit ⊕ Unit) (h : ref27_Spare_v2_l1 s0 s1 s5 s6 = some t) : LpOf Try.prog rd (fbody Try.prog 10) [0, 1, 0, 1, 1] (ref27_Spare_v2_l1_I s0 s1 s5 s6) ((ref27_Spare_v2_l1_O s0 s1 s5) t).1 ((ref27_Spare_v2_l1_O s0 s1 s5) t).2 :=
  loopE_lpR (fun s : Int => ref27_Spare_v2_l1_I s0 s1 s5 s) (ref27_Spare_v2_l1_O s0 s1 s5) (by kernel_rfl) (fun t => isN_ne (by rcases t with (_ | _) <;> rfl)) (fun s o h => ref27_Spare_v2_l1_rnd rd s0 s1 s5 s o h) (s := s6) (t := t) h
theorem ref27_Spare_v2_ok (a0 : List TRow) (a1 : Int) (r : Bool) (h : ref27_Spare_v2 a0 a1 = some r) : ACall Try.prog 10 [.d ((D.l TRow.D) a0), .d ((D.i .i64) a1)] [] (.d (D.b r)) [] := by
  unfold ref27_Spare_v2 at h
  replace h := idxE_some h
  obtain ⟨x1, h1, h⟩ := h
  replace h := bndE_some h
  obtain ⟨r2, h2, h⟩ := h
  replace h := bndE_some h
  obtain ⟨o7, h9, h⟩ := h
  replace h := sumE_some h
  rcases h with ⟨o8, rfl, h⟩ | ⟨o9, rfl, h⟩
  · skip
    obtain rfl := Option.some.inj h
    exact runF_call mixed [(10, .el (TRow.D x1)), (13, .ret (.d ((D.l (D.i .i64)) r2))), (36, .int (r2.length : Int))] [⟨[0, 1, 0, 1, 1], [.live [0, 1, 5, 6], .keep []], .exit 0, (ref27_Spare_v2_l1_O a0 a1 r2 (Sum.inl o8)).2⟩] [] (And.intro (elem_map TRow.D h1) (And.intro (ref26_Most_ok a0 x1.bind true r2 h2) (And.intro (ref27_Spare_v2_l1_ok none a0 a1 r2 0 (Sum.inl o8) h9) (And.intro (len_map (D.i .i64) r2) (True.intro))))) (by kernel_rfl)
  · skip
    obtain rfl := Option.some.inj h
    exact runF_call mixed [(10, .el (TRow.D x1)), (13, .ret (.d ((D.l (D.i .i64)) r2)))] [⟨[0, 1, 0, 1, 1], [.live [0, 1, 5, 6], .keep []], .ret, (ref27_Spare_v2_l1_O a0 a1 r2 (Sum.inr o9)).2⟩] [] (And.intro (elem_map TRow.D h1) (And.intro (ref26_Most_ok a0 x1.bind true r2 h2) (And.intro (ref27_Spare_v2_l1_ok none a0 a1 r2 0 (Sum.inr o9) h9) (True.intro)))) (by kernel_rfl)
theorem law27_slot_ok (a0 : Int) (a1 : Int) (r : TSlot) (h : law27_slot a0 a1 = some r) : ACall Try.prog 32 [.d ((D.i .i64) a0), .d ((D.i .i64) a1)] [] (.d (TSlot.D r)) [] := by
  unfold law27_slot at h
  obtain rfl := Option.some.inj h
  exact runF_call mixed [] [] [] (True.intro) (by kernel_rfl)
theorem law27_awake_ok (r : Bool) (h : law27_awake = some r) : ACall Try.prog 12 [] [] (.d (D.b r)) [] := by
  unfold law27_awake at h
  replace h := bndE_some h
  obtain ⟨r1, h1, h⟩ := h
  replace h := bndE_some h
  obtain ⟨r2, h2, h⟩ := h
  replace h := bndE_some h
  obtain ⟨r3, h3, h⟩ := h
  replace h := bndE_some h
  obtain ⟨r4, h4, h⟩ := h
  replace h := iteE_some h
  rcases h with ⟨h5, h⟩ | ⟨h5, h⟩
  · skip
    replace h := idxE_some h
    obtain ⟨x5, h6, h⟩ := h
    obtain rfl := Option.some.inj h
    exact runF_call mixed [(7, .ret (.d (TSlot.D r1))), (11, .ret (.d (TSlot.D r2))), (12, .ret (.d (TSlot.D r3))), (17, .ret (.d ((D.l TRow.D) r4))), (19, .int (r4.length : Int)), (21, .bit true), (23, .el (TRow.D x5)), (26, .int (x5.bind.length : Int))] [] [] (And.intro (nc_ok TConfig.D ([TConfig.mk 0 ([] : List TValue)])) (And.intro (law27_slot_ok 0 5 r1 h1) (And.intro (nc_ok TSlot.D [r1]) (And.intro (law27_slot_ok 0 5 r2 h2) (And.intro (law27_slot_ok 1 6 r3 h3) (And.intro (nc_ok TSlot.D [r2, r3]) (And.intro (nc_ok TRow.D ([TRow.mk ([] : List TSlot) ([TConfig.mk 0 ([] : List TValue)]), TRow.mk [r1] ([TConfig.mk 0 ([] : List TValue)]), TRow.mk [r2, r3] ([TConfig.mk 0 ([] : List TValue)])])) (And.intro (prune_All_ok ([TRow.mk ([] : List TSlot) ([TConfig.mk 0 ([] : List TValue)]), TRow.mk [r1] ([TConfig.mk 0 ([] : List TValue)]), TRow.mk [r2, r3] ([TConfig.mk 0 ([] : List TValue)])]) r4 h4) (And.intro (len_map TRow.D r4) (And.intro h5 (And.intro (elem_map TRow.D h6) (And.intro (len_map TSlot.D x5.bind) (True.intro))))))))))))) (by kernel_rfl)
  · skip
    obtain rfl := Option.some.inj h
    exact runF_call mixed [(7, .ret (.d (TSlot.D r1))), (11, .ret (.d (TSlot.D r2))), (12, .ret (.d (TSlot.D r3))), (17, .ret (.d ((D.l TRow.D) r4))), (19, .int (r4.length : Int)), (21, .bit false)] [] [] (And.intro (nc_ok TConfig.D ([TConfig.mk 0 ([] : List TValue)])) (And.intro (law27_slot_ok 0 5 r1 h1) (And.intro (nc_ok TSlot.D [r1]) (And.intro (law27_slot_ok 0 5 r2 h2) (And.intro (law27_slot_ok 1 6 r3 h3) (And.intro (nc_ok TSlot.D [r2, r3]) (And.intro (nc_ok TRow.D ([TRow.mk ([] : List TSlot) ([TConfig.mk 0 ([] : List TValue)]), TRow.mk [r1] ([TConfig.mk 0 ([] : List TValue)]), TRow.mk [r2, r3] ([TConfig.mk 0 ([] : List TValue)])])) (And.intro (prune_All_ok ([TRow.mk ([] : List TSlot) ([TConfig.mk 0 ([] : List TValue)]), TRow.mk [r1] ([TConfig.mk 0 ([] : List TValue)]), TRow.mk [r2, r3] ([TConfig.mk 0 ([] : List TValue)])]) r4 h4) (And.intro (len_map TRow.D r4) (And.intro h5 (True.intro))))))))))) (by kernel_rfl)
def law27_PruneAll_l1_I (s1 : Int) (s5 : List TRow) (s6 : Int) : St := ⟨sp 91 0 [(1, .d ((D.i .i64) s1)), (5, .d ((D.l TRow.D) s5)), (6, .d ((D.i .i64) s6))], [], []⟩
def law27_PruneAll_l1_O (s1 : Int) (s5 : List TRow) (o : Unit ⊕ Unit) : Ex × St := match o with
  | .inl o => (.exit 0, ⟨sp 91 0 [(1, .d ((D.i .i64) s1)), (5, .d ((D.l TRow.D) s5))], [], []⟩)
  | .inr o => (.ret, ⟨sp 91 0 [(4, .d (D.b false))], [], []⟩)
theorem law27_PruneAll_l1_rnd (rd : Option Nat) (s1 : Int) (s5 : List TRow) (s6 : Int) (o : (Int) ⊕ (Unit ⊕ Unit)) (h : law27_PruneAll_l1_s s1 s5 s6 = some o) : Arr Try.prog rd (fbody Try.prog 3) (0 :: [0, 1, 0, 1, 1, 1]) (law27_PruneAll_l1_I s1 s5 s6) (rR (fun s : Int => law27_PruneAll_l1_I s1 s5 s) (law27_PruneAll_l1_O s1 s5) o).1 (rR (fun s : Int => law27_PruneAll_l1_I s1 s5 s) (law27_PruneAll_l1_O s1 s5) o).2 := by
  unfold law27_PruneAll_l1_s at h
  replace h := iteE_some h
  rcases h with ⟨h6, h⟩ | ⟨h6, h⟩
  · skip
    replace h := bndE_some h
    obtain ⟨r5, h7, h⟩ := h
    replace h := bndE_some h
    obtain ⟨r6, h8, h⟩ := h
    replace h := iteE_some h
    rcases h with ⟨h9, h⟩ | ⟨h9, h⟩
    · skip
      obtain rfl := Option.some.inj h
      exact runB_arr mixed [(20, .int (s5.length : Int)), (21, .bit true), (26, .ret (.d (D.b r5))), (29, .ret (.d (D.b r6))), (30, .bit true)] [] [.live [4], .keep []] (And.intro (len_map TRow.D s5) (And.intro h6 (And.intro (prune_Spare_v2_ok s5 s6 r5 h7) (And.intro (ref27_Spare_v2_ok s5 s6 r6 h8) (And.intro h9 (True.intro)))))) (by kernel_rfl)
    · skip
      obtain rfl := Option.some.inj h
      exact runB_arr mixed [(20, .int (s5.length : Int)), (21, .bit true), (26, .ret (.d (D.b r5))), (29, .ret (.d (D.b r6))), (30, .bit false)] [] [.live [1, 5, 6], .keep []] (And.intro (len_map TRow.D s5) (And.intro h6 (And.intro (prune_Spare_v2_ok s5 s6 r5 h7) (And.intro (ref27_Spare_v2_ok s5 s6 r6 h8) (And.intro h9 (True.intro)))))) (by kernel_rfl)
  · skip
    obtain rfl := Option.some.inj h
    exact runB_arr mixed [(20, .int (s5.length : Int)), (21, .bit false)] [] [.live [1, 5], .keep []] (And.intro (len_map TRow.D s5) (And.intro h6 (True.intro))) (by kernel_rfl)
theorem law27_PruneAll_l1_ok (rd : Option Nat) (s1 : Int) (s5 : List TRow) (s6 : Int) (t : Unit ⊕ Unit) (h : law27_PruneAll_l1 s1 s5 s6 = some t) : LpOf Try.prog rd (fbody Try.prog 3) [0, 1, 0, 1, 1, 1] (law27_PruneAll_l1_I s1 s5 s6) ((law27_PruneAll_l1_O s1 s5) t).1 ((law27_PruneAll_l1_O s1 s5) t).2 :=
  loopE_lpR (fun s : Int => law27_PruneAll_l1_I s1 s5 s) (law27_PruneAll_l1_O s1 s5) (by kernel_rfl) (fun t => isN_ne (by rcases t with (_ | _) <;> rfl)) (fun s o h => law27_PruneAll_l1_rnd rd s1 s5 s o h) (s := s6) (t := t) h
def law27_PruneAll_l2_I (s5 : List TRow) (s7 : List TRow) (s8 : List Int) (s9 : Int) : St := ⟨sp 91 0 [(5, .d ((D.l TRow.D) s5)), (7, .d ((D.l TRow.D) s7)), (8, .d ((D.l (D.i .i64)) s8)), (9, .d ((D.i .i64) s9))], [], []⟩
def law27_PruneAll_l2_O (s5 : List TRow) (s7 : List TRow) (s8 : List Int) (o : Unit ⊕ Unit) : Ex × St := match o with
  | .inl o => (.exit 2, ⟨sp 91 0 [], [], []⟩)
  | .inr o => (.ret, ⟨sp 91 0 [(4, .d (D.b false))], [], []⟩)
end Go.Ac
