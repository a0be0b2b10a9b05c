/-
  Part of a proof: each function of the seat computes what its Lean function says (printed by a program).
-/
import Derived.Test.YtclhiklmoenkeaaK1Sh
import Derived.Test.YtclhiklmoenkeaaChecked
set_option linter.unusedVariables false
set_option linter.unusedSimpArgs false
namespace Go.Ac
open Go.Proofs
theorem mixed : Try.prog.follows .mixedOrders = true := by kernel_rfl
theorem ref03_Right_ok (a0 : TValue) (r : Bool) (h : ref03_Right a0 = some r) : ACall Try.prog 17 [.d (TValue.D a0)] [] (.d (D.b r)) [] := by
  unfold ref03_Right at h
  replace h := iteE_some h
  rcases h with ⟨h1, h⟩ | ⟨h1, h⟩
  · skip
    replace h := iteE_some h
    rcases h with ⟨h2, h⟩ | ⟨h2, h⟩
    · skip
      obtain rfl := Option.some.inj h
      exact runF_call mixed [(5, .bit true), (9, .bit true)] [] [] (And.intro h1 (And.intro h2 (True.intro))) (by kernel_rfl)
    · skip
      obtain rfl := Option.some.inj h
      exact runF_call mixed [(5, .bit true), (9, .bit false)] [] [] (And.intro h1 (And.intro h2 (True.intro))) (by kernel_rfl)
  · skip
    replace h := iteE_some h
    rcases h with ⟨h3, h⟩ | ⟨h3, h⟩
    · skip
      replace h := iteE_some h
      rcases h with ⟨h4, h⟩ | ⟨h4, h⟩
      · skip
        replace h := iteE_some h
        rcases h with ⟨h5, h⟩ | ⟨h5, h⟩
        · skip
          obtain rfl := Option.some.inj h
          exact runF_call mixed [(5, .bit false), (16, .bit true), (20, .bit true), (25, .bit true), (28, .int (a0.str.length : Int))] [] [] (And.intro h1 (And.intro h3 (And.intro h4 (And.intro h5 (And.intro (len_str a0.str) (True.intro)))))) (by kernel_rfl)
        · skip
          obtain rfl := Option.some.inj h
          exact runF_call mixed [(5, .bit false), (16, .bit true), (20, .bit true), (25, .bit false)] [] [] (And.intro h1 (And.intro h3 (And.intro h4 (And.intro h5 (True.intro))))) (by kernel_rfl)
      · skip
        obtain rfl := Option.some.inj h
        exact runF_call mixed [(5, .bit false), (16, .bit true), (20, .bit false)] [] [] (And.intro h1 (And.intro h3 (And.intro h4 (True.intro)))) (by kernel_rfl)
    · skip
      replace h := iteE_some h
      rcases h with ⟨h6, h⟩ | ⟨h6, h⟩
      · skip
        replace h := iteE_some h
        rcases h with ⟨h7, h⟩ | ⟨h7, h⟩
        · skip
          obtain rfl := Option.some.inj h
          exact runF_call mixed [(5, .bit false), (16, .bit false), (34, .bit true), (39, .bit true)] [] [] (And.intro h1 (And.intro h3 (And.intro h6 (And.intro h7 (True.intro))))) (by kernel_rfl)
        · skip
          obtain rfl := Option.some.inj h
          exact runF_call mixed [(5, .bit false), (16, .bit false), (34, .bit true), (39, .bit false)] [] [] (And.intro h1 (And.intro h3 (And.intro h6 (And.intro h7 (True.intro))))) (by kernel_rfl)
      · skip
        obtain rfl := Option.some.inj h
        exact runF_call mixed [(5, .bit false), (16, .bit false), (34, .bit false)] [] [] (And.intro h1 (And.intro h3 (And.intro h6 (True.intro)))) (by kernel_rfl)
def law04_right_b3_I (s0 : List TValue) (s3 : Int) (s4 : Int) (s26 : Bool) : St := ⟨sp 28 0 [(0, .d ((D.l TValue.D) s0)), (3, .d ((D.i .i64) s3)), (4, .d ((D.i .i64) s4)), (26, .d (D.b s26))], [], []⟩
def law04_right_b3_O (s0 : List TValue) (s3 : Int) (s4 : Int) (s26 : Bool) (o : Int) : Ex × St := (.normal, ⟨sp 28 0 [(0, .d ((D.l TValue.D) s0)), (3, .d ((D.i .i64) o)), (4, .d ((D.i .i64) s4))], [], []⟩)
theorem law04_right_b3_ok (s0 : List TValue) (s3 : Int) (s4 : Int) (s26 : Bool) (o : Int) (h : law04_right_b3 s0 s3 s4 s26 = some o) : LpOf Try.prog none (fbody Try.prog 7) [1, 1, 0, 0, 1, 0, 0, 1, 0, 1, 1, 1] (law04_right_b3_I s0 s3 s4 s26) (law04_right_b3_O s0 s3 s4 s26 o).1 (law04_right_b3_O s0 s3 s4 s26 o).2 := by
  unfold law04_right_b3 at h
  cases s26 with
  | true =>
    replace h := iteT h
    obtain rfl := Option.some.inj h
    exact (runB_arr mixed [] [] [.live [0, 3, 4], .keep []] (True.intro) (by kernel_rfl)).lp
  | false =>
    replace h := iteF h
    obtain rfl := Option.some.inj h
    exact (runB_arr mixed [] [] [.live [0, 3, 4], .keep []] (True.intro) (by kernel_rfl)).lp
def law04_right_b2_I (s0 : List TValue) (s3 : Int) (s4 : Int) : St := ⟨sp 28 0 [(0, .d ((D.l TValue.D) s0)), (3, .d ((D.i .i64) s3)), (4, .d ((D.i .i64) s4))], [], []⟩
def law04_right_b2_O (s0 : List TValue) (s3 : Int) (s4 : Int) (o : Int ⊕ Unit) : Ex × St := match o with
  | .inl o => (.normal, ⟨sp 28 0 [(0, .d ((D.l TValue.D) s0)), (3, .d ((D.i .i64) o)), (4, .d ((D.i .i64) s4))], [], []⟩)
  | .inr o => (.ret, ⟨sp 28 0 [(2, .d ((D.i .i64) (-1)))], [], []⟩)
theorem law04_right_b2_ok (s0 : List TValue) (s3 : Int) (s4 : Int) (o : Int ⊕ Unit) (h : law04_right_b2 s0 s3 s4 = some o) : LpOf Try.prog none (fbody Try.prog 7) [0, 1, 0, 0, 1, 0, 1, 1, 1] (law04_right_b2_I s0 s3 s4) (law04_right_b2_O s0 s3 s4 o).1 (law04_right_b2_O s0 s3 s4 o).2 := by
  unfold law04_right_b2 at h
  replace h := idxE_some h
  obtain ⟨x1, h3, h⟩ := h
  replace h := iteE_some h
  rcases h with ⟨h4, h⟩ | ⟨h4, h⟩
  · skip
    obtain rfl := Option.some.inj h
    exact (runB_arr mixed [(16, .el (TValue.D x1)), (19, .int (x1.str.length : Int)), (20, .bit true)] [] [.live [2], .keep []] (And.intro (elem_map TValue.D h3) (And.intro (len_str x1.str) (And.intro h4 (True.intro)))) (by kernel_rfl)).lp
  · skip
    replace h := idxE_some h
    obtain ⟨x2, h5, h⟩ := h
    replace h := bndE_some h
    obtain ⟨r3, h6, h⟩ := h
    replace h := bndE_some h
    obtain ⟨o4, h8, h⟩ := h
    obtain rfl := Option.some.inj h
    exact (runB_arr mixed [(16, .el (TValue.D x1)), (19, .int (x1.str.length : Int)), (20, .bit false), (23, .el (TValue.D x2)), (25, .ret (.d (D.b r3)))] [⟨[1, 1, 0, 0, 1, 0, 0, 1, 0, 1, 1, 1], [.live [0, 3, 4, 26], .keep []], .normal, (law04_right_b3_O s0 s3 s4 (!r3) o4).2⟩] [.live [0, 3, 4], .keep []] (And.intro (elem_map TValue.D h3) (And.intro (len_str x1.str) (And.intro h4 (And.intro (elem_map TValue.D h5) (And.intro (ref03_Right_ok x2 r3 h6) (And.intro (law04_right_b3_ok s0 s3 s4 (!r3) o4 h8) (True.intro))))))) (by kernel_rfl)).lp
def law04_right_l1_I (s0 : List TValue) (s3 : Int) (s4 : Int) : St := ⟨sp 28 0 [(0, .d ((D.l TValue.D) s0)), (3, .d ((D.i .i64) s3)), (4, .d ((D.i .i64) s4))], [], []⟩
def law04_right_l1_O (s0 : List TValue) (o : Int ⊕ Unit) : Ex × St := match o with
  | .inl o => (.exit 0, ⟨sp 28 0 [(3, .d ((D.i .i64) o))], [], []⟩)
  | .inr o => (.ret, ⟨sp 28 0 [(2, .d ((D.i .i64) (-1)))], [], []⟩)
def law04_right_l1_R (s0 : List TValue) (o : (Int × Int) ⊕ (Int ⊕ Unit)) : Ex × St := match o with
  | .inl s => (.normal, law04_right_l1_I s0 s.1 s.2)
  | .inr t => law04_right_l1_O s0 t
theorem law04_right_l1_rnd (s0 : List TValue) (s3 : Int) (s4 : Int) (o : (Int × Int) ⊕ (Int ⊕ Unit)) (h : law04_right_l1_s s0 s3 s4 = some o) : Arr Try.prog none (fbody Try.prog 7) (0 :: [0, 1, 0, 1, 1, 1]) (law04_right_l1_I s0 s3 s4) (law04_right_l1_R s0 o).1 (law04_right_l1_R s0 o).2 := by
  unfold law04_right_l1_s at h
  replace h := iteE_some h
  rcases h with ⟨h2, h⟩ | ⟨h2, h⟩
  · skip
    replace h := bndE_some h
    obtain ⟨o5, h9, h⟩ := h
    replace h := sumE_some h
    rcases h with ⟨o6, rfl, h⟩ | ⟨o7, rfl, h⟩
    · skip
      obtain rfl := Option.some.inj h
      exact runB_arr mixed [(10, .int (s0.length : Int)), (11, .bit true)] [⟨[0, 1, 0, 0, 1, 0, 1, 1, 1], [.live [0, 3, 4], .keep []], .normal, (law04_right_b2_O s0 s3 s4 (Sum.inl o6)).2⟩] [.live [0, 3, 4], .keep []] (And.intro (len_map TValue.D s0) (And.intro h2 (And.intro (law04_right_b2_ok s0 s3 s4 (Sum.inl o6) h9) (True.intro)))) (by kernel_rfl)
    · skip
      obtain rfl := Option.some.inj h
      exact runB_arr mixed [(10, .int (s0.length : Int)), (11, .bit true)] [⟨[0, 1, 0, 0, 1, 0, 1, 1, 1], [.live [0, 3, 4], .keep []], .ret, (law04_right_b2_O s0 s3 s4 (Sum.inr o7)).2⟩] [.live [2], .keep []] (And.intro (len_map TValue.D s0) (And.intro h2 (And.intro (law04_right_b2_ok s0 s3 s4 (Sum.inr o7) h9) (True.intro)))) (by kernel_rfl)
  · skip
    obtain rfl := Option.some.inj h
    exact runB_arr mixed [(10, .int (s0.length : Int)), (11, .bit false)] [] [.live [3], .keep []] (And.intro (len_map TValue.D s0) (And.intro h2 (True.intro))) (by kernel_rfl)
theorem law04_right_l1_ok (s0 : List TValue) (s3 : Int) (s4 : Int) (t : Int ⊕ Unit) (h : law04_right_l1 s0 s3 s4 = some t) : LpOf Try.prog none (fbody Try.prog 7) [0, 1, 0, 1, 1, 1] (law04_right_l1_I s0 s3 s4) (law04_right_l1_O s0 t).1 (law04_right_l1_O s0 t).2 :=
  loopE_lp (I := fun s => law04_right_l1_I s0 s.1 s.2) (O := law04_right_l1_O s0) (by kernel_rfl) (fun t => isN_ne (by rcases t with (_ | _) <;> rfl)) (fun s s' h => law04_right_l1_rnd s0 s.1 s.2 (.inl s') h) (fun s t h => law04_right_l1_rnd s0 s.1 s.2 (.inr t) h) h
theorem law04_right_ok (a0 : List TValue) (r : Int) (h : law04_right a0 = some r) : ACall Try.prog 7 [.d ((D.l TValue.D) a0)] [] (.d ((D.i .i64) r)) [] := by
  unfold law04_right at h
  replace h := iteE_some h
  rcases h with ⟨h1, h⟩ | ⟨h1, h⟩
  · skip
    obtain rfl := Option.some.inj h
    exact runF_call mixed [(6, .int (a0.length : Int)), (7, .bit true)] [] [] (And.intro (len_map TValue.D a0) (And.intro h1 (True.intro))) (by kernel_rfl)
  · skip
    replace h := bndE_some h
    obtain ⟨o8, h10, h⟩ := h
    replace h := sumE_some h
    rcases h with ⟨o9, rfl, h⟩ | ⟨o10, rfl, h⟩
    · skip
      obtain rfl := Option.some.inj h
      exact runF_call mixed [(6, .int (a0.length : Int)), (7, .bit false)] [⟨[0, 1, 0, 1, 1, 1], [.live [0, 3, 4], .keep []], .exit 0, (law04_right_l1_O a0 (Sum.inl o9)).2⟩] [] (And.intro (len_map TValue.D a0) (And.intro h1 (And.intro (law04_right_l1_ok a0 1 0 (Sum.inl o9) h10) (True.intro)))) (by kernel_rfl)
    · skip
      obtain rfl := Option.some.inj h
      exact runF_call mixed [(6, .int (a0.length : Int)), (7, .bit false)] [⟨[0, 1, 0, 1, 1, 1], [.live [0, 3, 4], .keep []], .ret, (law04_right_l1_O a0 (Sum.inr o10)).2⟩] [] (And.intro (len_map TValue.D a0) (And.intro h1 (And.intro (law04_right_l1_ok a0 1 0 (Sum.inr o10) h10) (True.intro)))) (by kernel_rfl)
theorem value_Int_ok (a0 : Int) (r : TValue) (h : value_Int a0 = some r) : ACall Try.prog 23 [.d ((D.i .i64) a0)] [] (.d (TValue.D r)) [] := by
  unfold value_Int at h
  obtain rfl := Option.some.inj h
  exact runF_call mixed [] [] [] (True.intro) (by kernel_rfl)
theorem value_Str_ok (a0 : List UInt8) (r : TValue) (h : value_Str a0 = some r) : ACall Try.prog 24 [.d (D.s a0)] [] (.d (TValue.D r)) [] := by
  unfold value_Str at h
  obtain rfl := Option.some.inj h
  exact runF_call mixed [] [] [] (True.intro) (by kernel_rfl)
theorem value_Bool_ok (a0 : Bool) (r : TValue) (h : value_Bool a0 = some r) : ACall Try.prog 25 [.d (D.b a0)] [] (.d (TValue.D r)) [] := by
  unfold value_Bool at h
  obtain rfl := Option.some.inj h
  exact runF_call mixed [] [] [] (True.intro) (by kernel_rfl)
theorem value_Right_ok (a0 : TValue) (r : Bool) (h : value_Right a0 = some r) : ACall Try.prog 18 [.d (TValue.D a0)] [] (.d (D.b r)) [] := by
  unfold value_Right at h
  replace h := iteE_some h
  rcases h with ⟨h1, h⟩ | ⟨h1, h⟩
  · skip
    replace h := bndE_some h
    obtain ⟨r1, h2, h⟩ := h
    obtain rfl := Option.some.inj h
    exact runF_call mixed [(5, .bit true), (10, .ret (.d (TValue.D r1)))] [] [] (And.intro h1 (And.intro (value_Int_ok a0.int r1 h2) (True.intro))) (by kernel_rfl)
  · skip
    replace h := iteE_some h
    rcases h with ⟨h3, h⟩ | ⟨h3, h⟩
    · skip
      replace h := bndE_some h
      obtain ⟨r2, h4, h⟩ := h
      replace h := iteE_some h
      rcases h with ⟨h5, h⟩ | ⟨h5, h⟩
      · skip
        obtain rfl := Option.some.inj h
        exact runF_call mixed [(5, .bit false), (12, .bit true), (17, .ret (.d (TValue.D r2))), (19, .bit true), (22, .int (a0.str.length : Int))] [] [] (And.intro h1 (And.intro h3 (And.intro (value_Str_ok a0.str r2 h4) (And.intro h5 (And.intro (len_str a0.str) (True.intro)))))) (by kernel_rfl)
      · skip
        obtain rfl := Option.some.inj h
        exact runF_call mixed [(5, .bit false), (12, .bit true), (17, .ret (.d (TValue.D r2))), (19, .bit false)] [] [] (And.intro h1 (And.intro h3 (And.intro (value_Str_ok a0.str r2 h4) (And.intro h5 (True.intro))))) (by kernel_rfl)
    · skip
      replace h := iteE_some h
      rcases h with ⟨h6, h⟩ | ⟨h6, h⟩
      · skip
        replace h := bndE_some h
        obtain ⟨r3, h7, h⟩ := h
        obtain rfl := Option.some.inj h
        exact runF_call mixed [(5, .bit false), (12, .bit false), (25, .bit true), (30, .ret (.d (TValue.D r3)))] [] [] (And.intro h1 (And.intro h3 (And.intro h6 (And.intro (value_Bool_ok a0.bool r3 h7) (True.intro))))) (by kernel_rfl)
      · skip
        obtain rfl := Option.some.inj h
        exact runF_call mixed [(5, .bit false), (12, .bit false), (25, .bit false)] [] [] (And.intro h1 (And.intro h3 (And.intro h6 (True.intro)))) (by kernel_rfl)
def key_number_l1_I (s3 : Int) (s10 : Int) (w4 : List UInt8) : St := ⟨sp 27 0 [(3, .d ((D.i .u64) s3)), (4, .box 4 0), (10, .d ((D.i .i64) s10))], [(4, .buf false 52 1 (w4.map dbyte))], []⟩
def key_number_l1_O (s3 : Int) (o : (List UInt8)) : Ex × St := (.exit 0, ⟨sp 27 0 [(4, .box 4 0)], [(4, .buf false 52 1 (o.map dbyte))], []⟩)
def key_number_l1_R (s3 : Int) (o : (Int × List UInt8) ⊕ ((List UInt8))) : Ex × St := match o with
  | .inl s => (.normal, key_number_l1_I s3 s.1 s.2)
  | .inr t => key_number_l1_O s3 t
theorem key_number_l1_rnd (s3 : Int) (s10 : Int) (w4 : List UInt8) (o : (Int × List UInt8) ⊕ ((List UInt8))) (h : key_number_l1_s s3 s10 w4 = some o) : Arr Try.prog none (fbody Try.prog 26) (0 :: [0, 1, 0, 1, 1, 1]) (key_number_l1_I s3 s10 w4) (key_number_l1_R s3 o).1 (key_number_l1_R s3 o).2 := by
  unfold key_number_l1_s at h
  replace h := iteE_some h
  rcases h with ⟨h1, h⟩ | ⟨h1, h⟩
  · skip
    replace h := chkE_some h
    obtain ⟨h2, h⟩ := h
    replace h := chkE_some h
    obtain ⟨h3, h⟩ := h
    replace h := chkE_some h
    obtain ⟨h4, h⟩ := h
    obtain rfl := Option.some.inj h
    exact runB_arr mixed [(11, .bit true), (19, .int (u8w (intVal .shr .u64 s3 (intVal .mul .i64 8 (intVal .sub .i64 7 s10)))).toNat), (10020, .sl ((w4.set s10.toNat (u8w (intVal .shr .u64 s3 (intVal .mul .i64 8 (intVal .sub .i64 7 s10))))).map dbyte))] [] [.live [3, 4, 10], .keep [4]] (And.intro h1 (And.intro h2 (And.intro (u8w_ok (intVal .shr .u64 s3 (intVal .mul .i64 8 (intVal .sub .i64 7 s10)))) (And.intro h3.1 (And.intro h3.2 (And.intro (le_ep dbyte h4) (And.intro (upd_map dbyte w4 s10 (u8w (intVal .shr .u64 s3 (intVal .mul .i64 8 (intVal .sub .i64 7 s10))))) (True.intro)))))))) (by kernel_rfl)
  · skip
    obtain rfl := Option.some.inj h
    exact runB_arr mixed [(11, .bit false)] [] [.live [4], .keep [4]] (And.intro h1 (True.intro)) (by kernel_rfl)
theorem key_number_l1_ok (s3 : Int) (s10 : Int) (w4 : List UInt8) (t : (List UInt8)) (h : key_number_l1 s3 s10 w4 = some t) : LpOf Try.prog none (fbody Try.prog 26) [0, 1, 0, 1, 1, 1] (key_number_l1_I s3 s10 w4) (key_number_l1_O s3 t).1 (key_number_l1_O s3 t).2 :=
  loopE_lp (I := fun s => key_number_l1_I s3 s.1 s.2) (O := key_number_l1_O s3) (by kernel_rfl) (fun t => isN_ne (by rfl)) (fun s s' h => key_number_l1_rnd s3 s.1 s.2 (.inl s') h) (fun s t h => key_number_l1_rnd s3 s.1 s.2 (.inr t) h) h
theorem key_number_ok (a0 : Int) (r : List UInt8) (h : key_number a0 = some r) : ACall Try.prog 26 [.d ((D.i .i64) a0)] [] (.d ((D.l dbyte) r)) [] := by
  unfold key_number at h
  replace h := bndE_some h
  obtain ⟨o1, h5, h⟩ := h
  replace h := chkE_some h
  obtain ⟨h6, h⟩ := h
  replace h := chkE_some h
  obtain ⟨h7, h⟩ := h
  obtain rfl := Option.some.inj h
  exact runF_call mixed [(22, .sl ((List.replicate (8 : Int).toNat (0 : UInt8)).map dbyte)), (25, .sl ((o1.take (List.replicate (8 : Int).toNat (0 : UInt8)).length ++ (List.replicate (8 : Int).toNat (0 : UInt8)).drop o1.length).map dbyte))] [⟨[0, 1, 0, 1, 1, 1], [.live [3, 4, 10], .keep [4]], .exit 0, (key_number_l1_O (intVal .xor .u64 (IntKind.wrap .u64 a0) 9223372036854775808) o1).2⟩] [.frz 22] (And.intro (key_number_l1_ok (intVal .xor .u64 (IntKind.wrap .u64 a0) 9223372036854775808) 0 (List.replicate 8 (0 : UInt8)) o1 h5) (And.intro h6.1 (And.intro (Int.le_refl (8 : Int)) (And.intro (Int.le_refl (8 : Int)) (And.intro (mk_fit dbyte (0 : UInt8) h6.2) (And.intro (mk_app dbyte (8 : Int) (0 : UInt8)) (And.intro (len_eq dbyte h7) (And.intro (copy_app dbyte (List.replicate (8 : Int).toNat (0 : UInt8)) o1) (True.intro))))))))) (by kernel_rfl)
def key_text_b3_I (s0 : List UInt8) (s6 : Int) (s7 : Int) (s19 : Bool) (w3 : List UInt8) : St := ⟨sp 27 0 [(0, .d (D.s s0)), (3, .row 3), (6, .d ((D.i .i64) s6)), (7, .d ((D.i .i64) s7)), (19, .d (D.b s19))], [(3, .row 5 1 (w3.map dbyte))], []⟩
def key_text_b3_O (s0 : List UInt8) (s6 : Int) (s7 : Int) (s19 : Bool) (w3 : List UInt8) (o : (List UInt8)) : Ex × St := (.normal, ⟨sp 27 0 [(0, .d (D.s s0)), (3, .row 3), (6, .d ((D.i .i64) s6)), (7, .d ((D.i .i64) s7))], [(3, .row 5 1 (o.map dbyte))], []⟩)
theorem key_text_b3_ok (s0 : List UInt8) (s6 : Int) (s7 : Int) (s19 : Bool) (w3 : List UInt8) (o : (List UInt8)) (h : key_text_b3 s0 s6 s7 s19 w3 = some o) : LpOf Try.prog none (fbody Try.prog 27) [1, 1, 1, 0, 0, 1, 1, 0, 0, 1, 0, 1, 1] (key_text_b3_I s0 s6 s7 s19 w3) (key_text_b3_O s0 s6 s7 s19 w3 o).1 (key_text_b3_O s0 s6 s7 s19 w3 o).2 := by
  unfold key_text_b3 at h
  cases s19 with
  | true =>
    replace h := iteT h
    replace h := chkE_some h
    obtain ⟨h6, h⟩ := h
    obtain rfl := Option.some.inj h
    exact (runB_arr mixed [(22, .sl ((w3 ++ [(255 : UInt8)]).map dbyte))] [] [.live [0, 3, 6, 7], .keep [22], .ren 22 3] (And.intro (nc_ok dbyte [(255 : UInt8)]) (And.intro (nc_ok dbyte [(255 : UInt8)]) (And.intro (fit_map dbyte h6) (And.intro (app_map dbyte w3 [(255 : UInt8)]) (True.intro))))) (by kernel_rfl)).lp
  | false =>
    replace h := iteF h
    obtain rfl := Option.some.inj h
    exact (runB_arr mixed [] [] [.live [0, 3, 6, 7], .keep [3]] (True.intro) (by kernel_rfl)).lp
def key_text_b4_I (s0 : List UInt8) (s6 : Int) (s7 : Int) (w3 : List UInt8) : St := ⟨sp 27 0 [(0, .d (D.s s0)), (3, .row 3), (6, .d ((D.i .i64) s6)), (7, .d ((D.i .i64) s7))], [(3, .row 5 1 (w3.map dbyte))], []⟩
def key_text_b4_O (s0 : List UInt8) (s6 : Int) (s7 : Int) (w3 : List UInt8) (o : (List UInt8)) : Ex × St := (.normal, ⟨sp 27 0 [(0, .d (D.s s0)), (3, .row 3), (6, .d ((D.i .i64) s6)), (7, .d ((D.i .i64) s7))], [(3, .row 5 1 (o.map dbyte))], []⟩)
theorem key_text_b4_ok (s0 : List UInt8) (s6 : Int) (s7 : Int) (w3 : List UInt8) (o : (List UInt8)) (h : key_text_b4 s0 s6 s7 w3 = some o) : LpOf Try.prog none (fbody Try.prog 27) [0, 1, 1, 0, 0, 1, 0, 1, 1] (key_text_b4_I s0 s6 s7 w3) (key_text_b4_O s0 s6 s7 w3 o).1 (key_text_b4_O s0 s6 s7 w3 o).2 := by
  unfold key_text_b4 at h
  replace h := idxE_some h
  obtain ⟨x5, h10, h⟩ := h
  replace h := chkE_some h
  obtain ⟨h11, h⟩ := h
  replace h := idxE_some h
  obtain ⟨x6, h12, h⟩ := h
  replace h := bndE_some h
  obtain ⟨o7, h13, h⟩ := h
  obtain rfl := Option.some.inj h
  exact (runB_arr mixed [(13, .int x5.toNat), (15, .sl ((w3 ++ [x5]).map dbyte)), (18, .int x6.toNat)] [⟨[1, 1, 1, 0, 0, 1, 1, 0, 0, 1, 0, 1, 1], [.live [0, 3, 6, 7, 19], .keep [15], .ren 15 3], .normal, (key_text_b3_O s0 s6 s7 (decide ((x6.toNat : Int) = ((0 : UInt8).toNat : Int))) (w3 ++ [x5]) o7).2⟩] [.live [0, 3, 6, 7], .keep [3]] (And.intro (byte_ok h10) (And.intro (nc_ok dbyte [x5]) (And.intro (nc_ok dbyte [x5]) (And.intro (fit_map dbyte h11) (And.intro (app_map dbyte w3 [x5]) (And.intro (byte_ok h12) (And.intro (key_text_b3_ok s0 s6 s7 (decide ((x6.toNat : Int) = ((0 : UInt8).toNat : Int))) (w3 ++ [x5]) o7 h13) (True.intro)))))))) (by kernel_rfl)).lp
def key_text_l1_I (s0 : List UInt8) (s6 : Int) (s7 : Int) (w3 : List UInt8) : St := ⟨sp 27 0 [(0, .d (D.s s0)), (3, .row 3), (6, .d ((D.i .i64) s6)), (7, .d ((D.i .i64) s7))], [(3, .row 5 1 (w3.map dbyte))], []⟩
def key_text_l1_O (s0 : List UInt8) (s6 : Int) (o : (List UInt8)) : Ex × St := (.exit 0, ⟨sp 27 0 [(3, .row 3)], [(3, .row 5 1 (o.map dbyte))], []⟩)
def key_text_l1_R (s0 : List UInt8) (s6 : Int) (o : (Int × List UInt8) ⊕ ((List UInt8))) : Ex × St := match o with
  | .inl s => (.normal, key_text_l1_I s0 s6 s.1 s.2)
  | .inr t => key_text_l1_O s0 s6 t
theorem key_text_l1_rnd (s0 : List UInt8) (s6 : Int) (s7 : Int) (w3 : List UInt8) (o : (Int × List UInt8) ⊕ ((List UInt8))) (h : key_text_l1_s s0 s6 s7 w3 = some o) : Arr Try.prog none (fbody Try.prog 27) (0 :: [0, 1, 0, 1, 1]) (key_text_l1_I s0 s6 s7 w3) (key_text_l1_R s0 s6 o).1 (key_text_l1_R s0 s6 o).2 := by
  unfold key_text_l1_s at h
  replace h := iteE_some h
  rcases h with ⟨h9, h⟩ | ⟨h9, h⟩
  · skip
    replace h := bndE_some h
    obtain ⟨o8, h14, h⟩ := h
    obtain rfl := Option.some.inj h
    exact runB_arr mixed [(8, .bit true)] [⟨[0, 1, 1, 0, 0, 1, 0, 1, 1], [.live [0, 3, 6, 7], .keep [3]], .normal, (key_text_b4_O s0 s6 s7 w3 o8).2⟩] [.live [0, 3, 6, 7], .keep [3]] (And.intro h9 (And.intro (key_text_b4_ok s0 s6 s7 w3 o8 h14) (True.intro))) (by kernel_rfl)
  · skip
    obtain rfl := Option.some.inj h
    exact runB_arr mixed [(8, .bit false)] [] [.live [3], .keep [3]] (And.intro h9 (True.intro)) (by kernel_rfl)
theorem key_text_l1_ok (s0 : List UInt8) (s6 : Int) (s7 : Int) (w3 : List UInt8) (t : (List UInt8)) (h : key_text_l1 s0 s6 s7 w3 = some t) : LpOf Try.prog none (fbody Try.prog 27) [0, 1, 0, 1, 1] (key_text_l1_I s0 s6 s7 w3) (key_text_l1_O s0 s6 t).1 (key_text_l1_O s0 s6 t).2 :=
  loopE_lp (I := fun s => key_text_l1_I s0 s6 s.1 s.2) (O := key_text_l1_O s0 s6) (by kernel_rfl) (fun t => isN_ne (by rfl)) (fun s s' h => key_text_l1_rnd s0 s6 s.1 s.2 (.inl s') h) (fun s t h => key_text_l1_rnd s0 s6 s.1 s.2 (.inr t) h) h
theorem key_text_ok (a0 : List UInt8) (r : List UInt8) (h : key_text a0 = some r) : ACall Try.prog 27 [.d (D.s a0)] [] (.d ((D.l dbyte) r)) [] := by
  unfold key_text at h
  replace h := bndE_some h
  obtain ⟨o9, h15, h⟩ := h
  replace h := chkE_some h
  obtain ⟨h16, h⟩ := h
  obtain rfl := Option.some.inj h
  exact runF_call mixed [(6, .int (a0.length : Int)), (26, .sl ((o9 ++ [(0 : UInt8), (1 : UInt8)]).map dbyte))] [⟨[0, 1, 0, 1, 1], [.live [0, 3, 6, 7], .keep [], .nil 3 3 5 1], .exit 0, (key_text_l1_O a0 (a0.length : Int) o9).2⟩] [] (And.intro (len_str a0) (And.intro (key_text_l1_ok a0 (a0.length : Int) 0 ([] : List UInt8) o9 h15) (And.intro (nc_ok dbyte [(0 : UInt8), (1 : UInt8)]) (And.intro (nc_ok dbyte [(0 : UInt8), (1 : UInt8)]) (And.intro (fit_map dbyte h16) (And.intro (app_map dbyte o9 [(0 : UInt8), (1 : UInt8)]) (True.intro))))))) (by kernel_rfl)
theorem key_one_ok (a0 : TValue) (r : List UInt8) (h : key_one a0 = some r) : ACall Try.prog 19 [.d (TValue.D a0)] [] (.d ((D.l dbyte) r)) [] := by
  unfold key_one at h
  replace h := iteE_some h
  rcases h with ⟨h1, h⟩ | ⟨h1, h⟩
  · skip
    replace h := bndE_some h
    obtain ⟨r1, h2, h⟩ := h
    replace h := chkE_some h
    obtain ⟨h3, h⟩ := h
    obtain rfl := Option.some.inj h
    exact runF_call mixed [(6, .int (u8w a0.kind).toNat), (10, .bit true), (15, .ret (.d ((D.l dbyte) r1))), (16, .sl (([u8w a0.kind] ++ r1).map dbyte))] [] [] (And.intro (u8w_ok a0.kind) (And.intro (nc_ok dbyte [u8w a0.kind]) (And.intro h1 (And.intro (key_number_ok a0.int r1 h2) (And.intro (nc_ok dbyte r1) (And.intro (fit_map dbyte h3) (And.intro (app_map dbyte [u8w a0.kind] r1) (True.intro)))))))) (by kernel_rfl)
  · skip
    replace h := iteE_some h
    rcases h with ⟨h4, h⟩ | ⟨h4, h⟩
    · skip
      replace h := bndE_some h
      obtain ⟨r2, h5, h⟩ := h
      replace h := chkE_some h
      obtain ⟨h6, h⟩ := h
      obtain rfl := Option.some.inj h
      exact runF_call mixed [(6, .int (u8w a0.kind).toNat), (10, .bit false), (17, .bit true), (22, .ret (.d ((D.l dbyte) r2))), (23, .sl (([u8w a0.kind] ++ r2).map dbyte))] [] [] (And.intro (u8w_ok a0.kind) (And.intro (nc_ok dbyte [u8w a0.kind]) (And.intro h1 (And.intro h4 (And.intro (key_text_ok a0.str r2 h5) (And.intro (nc_ok dbyte r2) (And.intro (fit_map dbyte h6) (And.intro (app_map dbyte [u8w a0.kind] r2) (True.intro))))))))) (by kernel_rfl)
    · skip
      replace h := iteE_some h
      rcases h with ⟨h7, h⟩ | ⟨h7, h⟩
      · skip
        replace h := chkE_some h
        obtain ⟨h8, h⟩ := h
        obtain rfl := Option.some.inj h
        exact runF_call mixed [(6, .int (u8w a0.kind).toNat), (10, .bit false), (17, .bit false), (25, .bit true), (28, .sl (([u8w a0.kind] ++ [(1 : UInt8)]).map dbyte))] [] [] (And.intro (u8w_ok a0.kind) (And.intro (nc_ok dbyte [u8w a0.kind]) (And.intro h1 (And.intro h4 (And.intro h7 (And.intro (nc_ok dbyte [(1 : UInt8)]) (And.intro (nc_ok dbyte [(1 : UInt8)]) (And.intro (fit_map dbyte h8) (And.intro (app_map dbyte [u8w a0.kind] [(1 : UInt8)]) (True.intro)))))))))) (by kernel_rfl)
      · skip
        replace h := chkE_some h
        obtain ⟨h9, h⟩ := h
        obtain rfl := Option.some.inj h
        exact runF_call mixed [(6, .int (u8w a0.kind).toNat), (10, .bit false), (17, .bit false), (25, .bit false), (31, .sl (([u8w a0.kind] ++ [(0 : UInt8)]).map dbyte))] [] [] (And.intro (u8w_ok a0.kind) (And.intro (nc_ok dbyte [u8w a0.kind]) (And.intro h1 (And.intro h4 (And.intro h7 (And.intro (nc_ok dbyte [(0 : UInt8)]) (And.intro (nc_ok dbyte [(0 : UInt8)]) (And.intro (fit_map dbyte h9) (And.intro (app_map dbyte [u8w a0.kind] [(0 : UInt8)]) (True.intro)))))))))) (by kernel_rfl)
def key_Of_l1_I (s6 : List TValue) (s7 : Int) (s8 : Int) (w3 : List UInt8) : St := ⟨sp 21 0 [(3, .row 3), (6, .d ((D.l TValue.D) s6)), (7, .d ((D.i .i64) s7)), (8, .d ((D.i .i64) s8))], [(3, .row 5 1 (w3.map dbyte))], []⟩
def key_Of_l1_O (s6 : List TValue) (s7 : Int) (o : (List UInt8) ⊕ Unit) : Ex × St := match o with
  | .inl o => (.exit 0, ⟨sp 21 0 [(3, .row 3)], [(3, .row 5 1 (o.map dbyte))], []⟩)
  | .inr o => (.ret, ⟨sp 21 0 [(2, .nil)], [], []⟩)
def key_Of_l1_R (s6 : List TValue) (s7 : Int) (o : (Int × List UInt8) ⊕ ((List UInt8) ⊕ Unit)) : Ex × St := match o with
  | .inl s => (.normal, key_Of_l1_I s6 s7 s.1 s.2)
  | .inr t => key_Of_l1_O s6 s7 t
theorem key_Of_l1_rnd (s6 : List TValue) (s7 : Int) (s8 : Int) (w3 : List UInt8) (o : (Int × List UInt8) ⊕ ((List UInt8) ⊕ Unit)) (h : key_Of_l1_s s6 s7 s8 w3 = some o) : Arr Try.prog none (fbody Try.prog 9) (0 :: [0, 1, 0, 1, 1]) (key_Of_l1_I s6 s7 s8 w3) (key_Of_l1_R s6 s7 o).1 (key_Of_l1_R s6 s7 o).2 := by
  unfold key_Of_l1_s at h
  replace h := iteE_some h
  rcases h with ⟨h7, h⟩ | ⟨h7, h⟩
  · skip
    replace h := idxE_some h
    obtain ⟨x4, h8, h⟩ := h
    replace h := bndE_some h
    obtain ⟨r5, h9, h⟩ := h
    replace h := iteE_some h
    rcases h with ⟨h10, h⟩ | ⟨h10, h⟩
    · skip
      obtain rfl := Option.some.inj h
      exact runB_arr mixed [(9, .bit true), (10, .el (TValue.D x4)), (13, .ret (.d (D.b r5))), (14, .bit true)] [] [.live [2], .keep []] (And.intro h7 (And.intro (elem_map TValue.D h8) (And.intro (value_Right_ok x4 r5 h9) (And.intro h10 (True.intro))))) (by kernel_rfl)
    · skip
      replace h := bndE_some h
      obtain ⟨r6, h11, h⟩ := h
      replace h := chkE_some h
      obtain ⟨h12, h⟩ := h
      obtain rfl := Option.some.inj h
      exact runB_arr mixed [(9, .bit true), (10, .el (TValue.D x4)), (13, .ret (.d (D.b r5))), (14, .bit false), (17, .ret (.d ((D.l dbyte) r6))), (18, .sl ((w3 ++ r6).map dbyte))] [] [.live [3, 6, 7, 8], .keep [18], .ren 18 3] (And.intro h7 (And.intro (elem_map TValue.D h8) (And.intro (value_Right_ok x4 r5 h9) (And.intro h10 (And.intro (key_one_ok x4 r6 h11) (And.intro (nc_ok dbyte r6) (And.intro (fit_map dbyte h12) (And.intro (app_map dbyte w3 r6) (True.intro))))))))) (by kernel_rfl)
  · skip
    obtain rfl := Option.some.inj h
    exact runB_arr mixed [(9, .bit false)] [] [.live [3], .keep [3]] (And.intro h7 (True.intro)) (by kernel_rfl)
theorem key_Of_l1_ok (s6 : List TValue) (s7 : Int) (s8 : Int) (w3 : List UInt8) (t : (List UInt8) ⊕ Unit) (h : key_Of_l1 s6 s7 s8 w3 = some t) : LpOf Try.prog none (fbody Try.prog 9) [0, 1, 0, 1, 1] (key_Of_l1_I s6 s7 s8 w3) (key_Of_l1_O s6 s7 t).1 (key_Of_l1_O s6 s7 t).2 :=
  loopE_lp (I := fun s => key_Of_l1_I s6 s7 s.1 s.2) (O := key_Of_l1_O s6 s7) (by kernel_rfl) (fun t => isN_ne (by rcases t with (_ | _) <;> rfl)) (fun s s' h => key_Of_l1_rnd s6 s7 s.1 s.2 (.inl s') h) (fun s t h => key_Of_l1_rnd s6 s7 s.1 s.2 (.inr t) h) h
theorem key_Of_ok (a0 : List TValue) (r : List UInt8) (h : key_Of a0 = some r) : ACall Try.prog 9 [.d ((D.l TValue.D) a0)] [] (.d ((D.l dbyte) r)) [] := by
  unfold key_Of at h
  replace h := bndE_some h
  obtain ⟨o7, h13, h⟩ := h
  replace h := sumE_some h
  rcases h with ⟨o8, rfl, h⟩ | ⟨o9, rfl, h⟩
  · skip
    obtain rfl := Option.some.inj h
    exact runF_call mixed [(7, .int (a0.length : Int))] [⟨[0, 1, 0, 1, 1], [.live [3, 6, 7, 8], .keep [], .nil 3 3 5 1], .exit 0, (key_Of_l1_O a0 (a0.length : Int) (Sum.inl o8)).2⟩] [] (And.intro (len_map TValue.D a0) (And.intro (key_Of_l1_ok a0 (a0.length : Int) 0 ([] : List UInt8) (Sum.inl o8) h13) (True.intro))) (by kernel_rfl)
  · skip
    obtain rfl := Option.some.inj h
    exact runF_call mixed [(7, .int (a0.length : Int))] [⟨[0, 1, 0, 1, 1], [.live [3, 6, 7, 8], .keep [], .nil 3 3 5 1], .ret, (key_Of_l1_O a0 (a0.length : Int) (Sum.inr o9)).2⟩] [] (And.intro (len_map TValue.D a0) (And.intro (key_Of_l1_ok a0 (a0.length : Int) 0 ([] : List UInt8) (Sum.inr o9) h13) (True.intro))) (by kernel_rfl)
theorem law04_awake_ok (r : Bool) (h : law04_awake = some r) : ACall Try.prog 8 [] [] (.d (D.b r)) [] := by
  unfold law04_awake at h
  replace h := bndE_some h
  obtain ⟨r1, h1, h⟩ := h
  replace h := bndE_some h
  obtain ⟨r2, h2, h⟩ := h
  replace h := iteE_some h
  rcases h with ⟨h3, h⟩ | ⟨h3, h⟩
  · skip
    obtain rfl := Option.some.inj h
    exact runF_call mixed [(5, .ret (.d ((D.l dbyte) r1))), (8, .ret (.d ((D.l dbyte) r2))), (10, .str r1), (12, .bit true), (14, .str r2)] [] [] (And.intro (nc_ok TValue.D ([TValue.mk 3 0 ([] : List UInt8) true])) (And.intro (key_Of_ok ([TValue.mk 3 0 ([] : List UInt8) true]) r1 h1) (And.intro (nc_ok TValue.D ([TValue.mk 1 1 ([] : List UInt8) false])) (And.intro (key_Of_ok ([TValue.mk 1 1 ([] : List UInt8) false]) r2 h2) (And.intro (rfl : r1.map dbyte = r1.map dbyte) (And.intro h3 (And.intro (rfl : r2.map dbyte = r2.map dbyte) (True.intro)))))))) (by kernel_rfl)
  · skip
    obtain rfl := Option.some.inj h
    exact runF_call mixed [(5, .ret (.d ((D.l dbyte) r1))), (8, .ret (.d ((D.l dbyte) r2))), (10, .str r1), (12, .bit false)] [] [] (And.intro (nc_ok TValue.D ([TValue.mk 3 0 ([] : List UInt8) true])) (And.intro (key_Of_ok ([TValue.mk 3 0 ([] : List UInt8) true]) r1 h1) (And.intro (nc_ok TValue.D ([TValue.mk 1 1 ([] : List UInt8) false])) (And.intro (key_Of_ok ([TValue.mk 1 1 ([] : List UInt8) false]) r2 h2) (And.intro (rfl : r1.map dbyte = r1.map dbyte) (And.intro h3 (True.intro))))))) (by kernel_rfl)
def ref03_Below_l1_I (s0 : List UInt8) (s1 : List UInt8) (s5 : Int) : St := ⟨sp 37 0 [(0, .d (D.s s0)), (1, .d (D.s s1)), (5, .d ((D.i .i64) s5))], [], []⟩
def ref03_Below_l1_O (s0 : List UInt8) (s1 : List UInt8) (o : Unit ⊕ Bool) : Ex × St := match o with
  | .inl o => (.exit 0, ⟨sp 37 0 [(0, .d (D.s s0)), (1, .d (D.s s1))], [], []⟩)
  | .inr o => (.ret, ⟨sp 37 0 [(4, .d (D.b o))], [], []⟩)
def ref03_Below_l1_R (s0 : List UInt8) (s1 : List UInt8) (o : (Int) ⊕ (Unit ⊕ Bool)) : Ex × St := match o with
  | .inl s => (.normal, ref03_Below_l1_I s0 s1 s)
  | .inr t => ref03_Below_l1_O s0 s1 t
theorem ref03_Below_l1_rnd (s0 : List UInt8) (s1 : List UInt8) (s5 : Int) (o : (Int) ⊕ (Unit ⊕ Bool)) (h : ref03_Below_l1_s s0 s1 s5 = some o) : Arr Try.prog none (fbody Try.prog 10) (0 :: [0, 1, 0, 1]) (ref03_Below_l1_I s0 s1 s5) (ref03_Below_l1_R s0 s1 o).1 (ref03_Below_l1_R s0 s1 o).2 := by
  unfold ref03_Below_l1_s at h
  replace h := iteE_some h
  rcases h with ⟨h1, h⟩ | ⟨h1, h⟩
  · skip
    replace h := iteE_some h
    rcases h with ⟨h2, h⟩ | ⟨h2, h⟩
    · skip
      replace h := idxE_some h
      obtain ⟨x1, h3, h⟩ := h
      replace h := idxE_some h
      obtain ⟨x2, h4, h⟩ := h
      replace h := iteE_some h
      rcases h with ⟨h5, h⟩ | ⟨h5, h⟩
      · skip
        replace h := idxE_some h
        obtain ⟨x3, h6, h⟩ := h
        replace h := idxE_some h
        obtain ⟨x4, h7, h⟩ := h
        obtain rfl := Option.some.inj h
        exact runB_arr mixed [(8, .int (s0.length : Int)), (10, .bit true), (13, .int (s1.length : Int)), (15, .bit true), (20, .int x1.toNat), (23, .int x2.toNat), (24, .bit true), (27, .int x3.toNat), (30, .int x4.toNat)] [] [.live [4], .keep []] (And.intro (len_str s0) (And.intro h1 (And.intro (len_str s1) (And.intro h2 (And.intro (byte_ok h3) (And.intro (byte_ok h4) (And.intro h5 (And.intro (byte_ok h6) (And.intro (byte_ok h7) (True.intro)))))))))) (by kernel_rfl)
      · skip
        obtain rfl := Option.some.inj h
        exact runB_arr mixed [(8, .int (s0.length : Int)), (10, .bit true), (13, .int (s1.length : Int)), (15, .bit true), (20, .int x1.toNat), (23, .int x2.toNat), (24, .bit false)] [] [.live [0, 1, 5], .keep []] (And.intro (len_str s0) (And.intro h1 (And.intro (len_str s1) (And.intro h2 (And.intro (byte_ok h3) (And.intro (byte_ok h4) (And.intro h5 (True.intro)))))))) (by kernel_rfl)
    · skip
      obtain rfl := Option.some.inj h
      exact runB_arr mixed [(8, .int (s0.length : Int)), (10, .bit true), (13, .int (s1.length : Int)), (15, .bit false)] [] [.live [0, 1], .keep []] (And.intro (len_str s0) (And.intro h1 (And.intro (len_str s1) (And.intro h2 (True.intro))))) (by kernel_rfl)
  · skip
    obtain rfl := Option.some.inj h
    exact runB_arr mixed [(8, .int (s0.length : Int)), (10, .bit false)] [] [.live [0, 1], .keep []] (And.intro (len_str s0) (And.intro h1 (True.intro))) (by kernel_rfl)
theorem ref03_Below_l1_ok (s0 : List UInt8) (s1 : List UInt8) (s5 : Int) (t : Unit ⊕ Bool) (h : ref03_Below_l1 s0 s1 s5 = some t) : LpOf Try.prog none (fbody Try.prog 10) [0, 1, 0, 1] (ref03_Below_l1_I s0 s1 s5) (ref03_Below_l1_O s0 s1 t).1 (ref03_Below_l1_O s0 s1 t).2 :=
  loopE_lp (I := fun s => ref03_Below_l1_I s0 s1 s) (O := ref03_Below_l1_O s0 s1) (by kernel_rfl) (fun t => isN_ne (by rcases t with (_ | _) <;> rfl)) (fun s s' h => ref03_Below_l1_rnd s0 s1 s (.inl s') h) (fun s t h => ref03_Below_l1_rnd s0 s1 s (.inr t) h) h
theorem ref03_Below_ok (a0 : List UInt8) (a1 : List UInt8) (r : Bool) (h : ref03_Below a0 a1 = some r) : ACall Try.prog 10 [.d (D.s a0), .d (D.s a1)] [] (.d (D.b r)) [] := by
  unfold ref03_Below at h
  replace h := bndE_some h
  obtain ⟨o5, h8, h⟩ := h
  replace h := sumE_some h
  rcases h with ⟨o6, rfl, h⟩ | ⟨o7, rfl, h⟩
  · skip
    obtain rfl := Option.some.inj h
    exact runF_call mixed [(33, .int (a0.length : Int)), (35, .int (a1.length : Int))] [⟨[0, 1, 0, 1], [.live [0, 1, 5], .keep []], .exit 0, (ref03_Below_l1_O a0 a1 (Sum.inl o6)).2⟩] [] (And.intro (ref03_Below_l1_ok a0 a1 0 (Sum.inl o6) h8) (And.intro (len_str a0) (And.intro (len_str a1) (True.intro)))) (by kernel_rfl)
  · skip
    obtain rfl := Option.some.inj h
    exact runF_call mixed [] [⟨[0, 1, 0, 1], [.live [0, 1, 5], .keep []], .ret, (ref03_Below_l1_O a0 a1 (Sum.inr o7)).2⟩] [] (And.intro (ref03_Below_l1_ok a0 a1 0 (Sum.inr o7) h8) (True.intro)) (by kernel_rfl)
theorem ref03_Less_ok (a0 : TValue) (a1 : TValue) (r : Bool) (h : ref03_Less a0 a1 = some r) : ACall Try.prog 20 [.d (TValue.D a0), .d (TValue.D a1)] [] (.d (D.b r)) [] := by
  unfold ref03_Less at h
  replace h := iteE_some h
  rcases h with ⟨h1, h⟩ | ⟨h1, h⟩
  · skip
    obtain rfl := Option.some.inj h
    exact runF_call mixed [(9, .bit true)] [] [] (And.intro h1 (True.intro)) (by kernel_rfl)
  · skip
    replace h := iteE_some h
    rcases h with ⟨h2, h⟩ | ⟨h2, h⟩
    · skip
      obtain rfl := Option.some.inj h
      exact runF_call mixed [(9, .bit false), (17, .bit true)] [] [] (And.intro h1 (And.intro h2 (True.intro))) (by kernel_rfl)
    · skip
      replace h := iteE_some h
      rcases h with ⟨h3, h⟩ | ⟨h3, h⟩
      · skip
        replace h := bndE_some h
        obtain ⟨r1, h4, h⟩ := h
        obtain rfl := Option.some.inj h
        exact runF_call mixed [(9, .bit false), (17, .bit false), (25, .bit true), (30, .ret (.d (D.b r1)))] [] [] (And.intro h1 (And.intro h2 (And.intro h3 (And.intro (ref03_Below_ok a0.str a1.str r1 h4) (True.intro))))) (by kernel_rfl)
      · skip
        replace h := iteE_some h
        rcases h with ⟨h5, h⟩ | ⟨h5, h⟩
        · skip
          obtain rfl := Option.some.inj h
          exact runF_call mixed [(9, .bit false), (17, .bit false), (25, .bit false), (34, .bit true)] [] [] (And.intro h1 (And.intro h2 (And.intro h3 (And.intro h5 (True.intro))))) (by kernel_rfl)
        · skip
          obtain rfl := Option.some.inj h
          exact runF_call mixed [(9, .bit false), (17, .bit false), (25, .bit false), (34, .bit false)] [] [] (And.intro h1 (And.intro h2 (And.intro h3 (And.intro h5 (True.intro))))) (by kernel_rfl)
def law04_below_l1_I (s0 : List TValue) (s1 : List TValue) (s5 : Int) : St := ⟨sp 41 0 [(0, .d ((D.l TValue.D) s0)), (1, .d ((D.l TValue.D) s1)), (5, .d ((D.i .i64) s5))], [], []⟩
def law04_below_l1_O (s0 : List TValue) (s1 : List TValue) (o : Unit ⊕ Bool) : Ex × St := match o with
  | .inl o => (.exit 0, ⟨sp 41 0 [(0, .d ((D.l TValue.D) s0)), (1, .d ((D.l TValue.D) s1))], [], []⟩)
  | .inr o => (.ret, ⟨sp 41 0 [(4, .d (D.b o))], [], []⟩)
def law04_below_l1_R (s0 : List TValue) (s1 : List TValue) (o : (Int) ⊕ (Unit ⊕ Bool)) : Ex × St := match o with
  | .inl s => (.normal, law04_below_l1_I s0 s1 s)
  | .inr t => law04_below_l1_O s0 s1 t
theorem law04_below_l1_rnd (s0 : List TValue) (s1 : List TValue) (s5 : Int) (o : (Int) ⊕ (Unit ⊕ Bool)) (h : law04_below_l1_s s0 s1 s5 = some o) : Arr Try.prog none (fbody Try.prog 11) (0 :: [0, 1, 0, 1]) (law04_below_l1_I s0 s1 s5) (law04_below_l1_R s0 s1 o).1 (law04_below_l1_R s0 s1 o).2 := by
  unfold law04_below_l1_s at h
  replace h := iteE_some h
  rcases h with ⟨h1, h⟩ | ⟨h1, h⟩
  · skip
    replace h := iteE_some h
    rcases h with ⟨h2, h⟩ | ⟨h2, h⟩
    · skip
      replace h := idxE_some h
      obtain ⟨x1, h3, h⟩ := h
      replace h := idxE_some h
      obtain ⟨x2, h4, h⟩ := h
      replace h := iteE_some h
      rcases h with ⟨h5, h⟩ | ⟨h5, h⟩
      · skip
        replace h := idxE_some h
        obtain ⟨x3, h6, h⟩ := h
        replace h := idxE_some h
        obtain ⟨x4, h7, h⟩ := h
        replace h := bndE_some h
        obtain ⟨r5, h8, h⟩ := h
        obtain rfl := Option.some.inj h
        exact runB_arr mixed [(8, .int (s0.length : Int)), (10, .bit true), (13, .int (s1.length : Int)), (15, .bit true), (20, .el (TValue.D x1)), (24, .el (TValue.D x2)), (26, .bit true), (29, .el (TValue.D x3)), (33, .el (TValue.D x4)), (35, .ret (.d (D.b r5)))] [] [.live [4], .keep []] (And.intro (len_map TValue.D s0) (And.intro h1 (And.intro (len_map TValue.D s1) (And.intro h2 (And.intro (elem_map TValue.D h3) (And.intro (elem_map TValue.D h4) (And.intro h5 (And.intro (elem_map TValue.D h6) (And.intro (elem_map TValue.D h7) (And.intro (ref03_Less_ok x3 x4 r5 h8) (True.intro))))))))))) (by kernel_rfl)
      · skip
        obtain rfl := Option.some.inj h
        exact runB_arr mixed [(8, .int (s0.length : Int)), (10, .bit true), (13, .int (s1.length : Int)), (15, .bit true), (20, .el (TValue.D x1)), (24, .el (TValue.D x2)), (26, .bit false)] [] [.live [0, 1, 5], .keep []] (And.intro (len_map TValue.D s0) (And.intro h1 (And.intro (len_map TValue.D s1) (And.intro h2 (And.intro (elem_map TValue.D h3) (And.intro (elem_map TValue.D h4) (And.intro h5 (True.intro)))))))) (by kernel_rfl)
    · skip
      obtain rfl := Option.some.inj h
      exact runB_arr mixed [(8, .int (s0.length : Int)), (10, .bit true), (13, .int (s1.length : Int)), (15, .bit false)] [] [.live [0, 1], .keep []] (And.intro (len_map TValue.D s0) (And.intro h1 (And.intro (len_map TValue.D s1) (And.intro h2 (True.intro))))) (by kernel_rfl)
  · skip
    obtain rfl := Option.some.inj h
    exact runB_arr mixed [(8, .int (s0.length : Int)), (10, .bit false)] [] [.live [0, 1], .keep []] (And.intro (len_map TValue.D s0) (And.intro h1 (True.intro))) (by kernel_rfl)
theorem law04_below_l1_ok (s0 : List TValue) (s1 : List TValue) (s5 : Int) (t : Unit ⊕ Bool) (h : law04_below_l1 s0 s1 s5 = some t) : LpOf Try.prog none (fbody Try.prog 11) [0, 1, 0, 1] (law04_below_l1_I s0 s1 s5) (law04_below_l1_O s0 s1 t).1 (law04_below_l1_O s0 s1 t).2 :=
  loopE_lp (I := fun s => law04_below_l1_I s0 s1 s) (O := law04_below_l1_O s0 s1) (by kernel_rfl) (fun t => isN_ne (by rcases t with (_ | _) <;> rfl)) (fun s s' h => law04_below_l1_rnd s0 s1 s (.inl s') h) (fun s t h => law04_below_l1_rnd s0 s1 s (.inr t) h) h
theorem law04_below_ok (a0 : List TValue) (a1 : List TValue) (r : Bool) (h : law04_below a0 a1 = some r) : ACall Try.prog 11 [.d ((D.l TValue.D) a0), .d ((D.l TValue.D) a1)] [] (.d (D.b r)) [] := by
  unfold law04_below at h
  replace h := bndE_some h
  obtain ⟨o6, h9, h⟩ := h
  replace h := sumE_some h
  rcases h with ⟨o7, rfl, h⟩ | ⟨o8, rfl, h⟩
  · skip
    obtain rfl := Option.some.inj h
    exact runF_call mixed [(37, .int (a0.length : Int)), (39, .int (a1.length : Int))] [⟨[0, 1, 0, 1], [.live [0, 1, 5], .keep []], .exit 0, (law04_below_l1_O a0 a1 (Sum.inl o7)).2⟩] [] (And.intro (law04_below_l1_ok a0 a1 0 (Sum.inl o7) h9) (And.intro (len_map TValue.D a0) (And.intro (len_map TValue.D a1) (True.intro)))) (by kernel_rfl)
  · skip
    obtain rfl := Option.some.inj h
    exact runF_call mixed [] [⟨[0, 1, 0, 1], [.live [0, 1, 5], .keep []], .ret, (law04_below_l1_O a0 a1 (Sum.inr o8)).2⟩] [] (And.intro (law04_below_l1_ok a0 a1 0 (Sum.inr o8) h9) (True.intro)) (by kernel_rfl)
def law04_same_l1_I (s0 : List TValue) (s1 : List TValue) (s5 : Int) : St := ⟨sp 26 0 [(0, .d ((D.l TValue.D) s0)), (1, .d ((D.l TValue.D) s1)), (5, .d ((D.i .i64) s5))], [], []⟩
def law04_same_l1_O (s0 : List TValue) (s1 : List TValue) (o : Unit ⊕ Unit) : Ex × St := match o with
  | .inl o => (.exit 0, ⟨sp 26 0 [], [], []⟩)
  | .inr o => (.ret, ⟨sp 26 0 [(4, .d (D.b false))], [], []⟩)
def law04_same_l1_R (s0 : List TValue) (s1 : List TValue) (o : (Int) ⊕ (Unit ⊕ Unit)) : Ex × St := match o with
  | .inl s => (.normal, law04_same_l1_I s0 s1 s)
  | .inr t => law04_same_l1_O s0 s1 t
theorem law04_same_l1_rnd (s0 : List TValue) (s1 : List TValue) (s5 : Int) (o : (Int) ⊕ (Unit ⊕ Unit)) (h : law04_same_l1_s s0 s1 s5 = some o) : Arr Try.prog none (fbody Try.prog 12) (0 :: [0, 1, 0, 1, 1]) (law04_same_l1_I s0 s1 s5) (law04_same_l1_R s0 s1 o).1 (law04_same_l1_R s0 s1 o).2 := by
  unfold law04_same_l1_s at h
  replace h := iteE_some h
  rcases h with ⟨h2, h⟩ | ⟨h2, h⟩
  · skip
    replace h := idxE_some h
    obtain ⟨x1, h3, h⟩ := h
    replace h := idxE_some h
    obtain ⟨x2, h4, h⟩ := h
    replace h := iteE_some h
    rcases h with ⟨h5, h⟩ | ⟨h5, h⟩
    · skip
      obtain rfl := Option.some.inj h
      exact runB_arr mixed [(13, .int (s0.length : Int)), (14, .bit true), (19, .el (TValue.D x1)), (23, .el (TValue.D x2)), (25, .bit true)] [] [.live [4], .keep []] (And.intro (len_map TValue.D s0) (And.intro h2 (And.intro (elem_map TValue.D h3) (And.intro (elem_map TValue.D h4) (And.intro h5 (True.intro)))))) (by kernel_rfl)
    · skip
      obtain rfl := Option.some.inj h
      exact runB_arr mixed [(13, .int (s0.length : Int)), (14, .bit true), (19, .el (TValue.D x1)), (23, .el (TValue.D x2)), (25, .bit false)] [] [.live [0, 1, 5], .keep []] (And.intro (len_map TValue.D s0) (And.intro h2 (And.intro (elem_map TValue.D h3) (And.intro (elem_map TValue.D h4) (And.intro h5 (True.intro)))))) (by kernel_rfl)
  · skip
    obtain rfl := Option.some.inj h
    exact runB_arr mixed [(13, .int (s0.length : Int)), (14, .bit false)] [] [.live [], .keep []] (And.intro (len_map TValue.D s0) (And.intro h2 (True.intro))) (by kernel_rfl)
theorem law04_same_l1_ok (s0 : List TValue) (s1 : List TValue) (s5 : Int) (t : Unit ⊕ Unit) (h : law04_same_l1 s0 s1 s5 = some t) : LpOf Try.prog none (fbody Try.prog 12) [0, 1, 0, 1, 1] (law04_same_l1_I s0 s1 s5) (law04_same_l1_O s0 s1 t).1 (law04_same_l1_O s0 s1 t).2 :=
  loopE_lp (I := fun s => law04_same_l1_I s0 s1 s) (O := law04_same_l1_O s0 s1) (by kernel_rfl) (fun t => isN_ne (by rcases t with (_ | _) <;> rfl)) (fun s s' h => law04_same_l1_rnd s0 s1 s (.inl s') h) (fun s t h => law04_same_l1_rnd s0 s1 s (.inr t) h) h
theorem law04_same_ok (a0 : List TValue) (a1 : List TValue) (r : Bool) (h : law04_same a0 a1 = some r) : ACall Try.prog 12 [.d ((D.l TValue.D) a0), .d ((D.l TValue.D) a1)] [] (.d (D.b r)) [] := by
  unfold law04_same at h
  replace h := iteE_some h
  rcases h with ⟨h1, h⟩ | ⟨h1, h⟩
  · skip
    obtain rfl := Option.some.inj h
    exact runF_call mixed [(7, .int (a0.length : Int)), (9, .int (a1.length : Int)), (10, .bit true)] [] [] (And.intro (len_map TValue.D a0) (And.intro (len_map TValue.D a1) (And.intro h1 (True.intro)))) (by kernel_rfl)
  · skip
    replace h := bndE_some h
    obtain ⟨o3, h6, h⟩ := h
    replace h := sumE_some h
    rcases h with ⟨o4, rfl, h⟩ | ⟨o5, rfl, h⟩
    · skip
      obtain rfl := Option.some.inj h
      exact runF_call mixed [(7, .int (a0.length : Int)), (9, .int (a1.length : Int)), (10, .bit false)] [⟨[0, 1, 0, 1, 1], [.live [0, 1, 5], .keep []], .exit 0, (law04_same_l1_O a0 a1 (Sum.inl o4)).2⟩] [] (And.intro (len_map TValue.D a0) (And.intro (len_map TValue.D a1) (And.intro h1 (And.intro (law04_same_l1_ok a0 a1 0 (Sum.inl o4) h6) (True.intro))))) (by kernel_rfl)
    · skip
      obtain rfl := Option.some.inj h
      exact runF_call mixed [(7, .int (a0.length : Int)), (9, .int (a1.length : Int)), (10, .bit false)] [⟨[0, 1, 0, 1, 1], [.live [0, 1, 5], .keep []], .ret, (law04_same_l1_O a0 a1 (Sum.inr o5)).2⟩] [] (And.intro (len_map TValue.D a0) (And.intro (len_map TValue.D a1) (And.intro h1 (And.intro (law04_same_l1_ok a0 a1 0 (Sum.inr o5) h6) (True.intro))))) (by kernel_rfl)
theorem law04_KeyOrder_ok (a0 : List TValue) (a1 : List TValue) (r : Bool) (h : law04_KeyOrder a0 a1 = some r) : ACall Try.prog 3 [.d ((D.l TValue.D) a0), .d ((D.l TValue.D) a1)] [] (.d (D.b r)) [] := by
  unfold law04_KeyOrder at h
  replace h := bndE_some h
  obtain ⟨r1, h1, h⟩ := h
  replace h := iteE_some h
  rcases h with ⟨h2, h⟩ | ⟨h2, h⟩
  · skip
    replace h := bndE_some h
    obtain ⟨r2, h3, h⟩ := h
    obtain rfl := Option.some.inj h
    exact runF_call mixed [(8, .ret (.d ((D.i .i64) r1))), (10, .bit true), (15, .ret (.d (D.b r2)))] [] [] (And.intro (law04_right_ok a0 r1 h1) (And.intro h2 (And.intro (law04_awake_ok r2 h3) (True.intro)))) (by kernel_rfl)
  · skip
    replace h := bndE_some h
    obtain ⟨r3, h4, h⟩ := h
    replace h := iteE_some h
    rcases h with ⟨h5, h⟩ | ⟨h5, h⟩
    · skip
      replace h := bndE_some h
      obtain ⟨r4, h6, h⟩ := h
      obtain rfl := Option.some.inj h
      exact runF_call mixed [(8, .ret (.d ((D.i .i64) r1))), (10, .bit false), (12, .ret (.d ((D.i .i64) r3))), (14, .bit true), (15, .ret (.d (D.b r4)))] [] [] (And.intro (law04_right_ok a0 r1 h1) (And.intro h2 (And.intro (law04_right_ok a1 r3 h4) (And.intro h5 (And.intro (law04_awake_ok r4 h6) (True.intro)))))) (by kernel_rfl)
    · skip
      replace h := bndE_some h
      obtain ⟨r5, h7, h⟩ := h
      replace h := bndE_some h
      obtain ⟨r6, h8, h⟩ := h
      replace h := bndE_some h
      obtain ⟨r7, h9, h⟩ := h
      replace h := bndE_some h
      obtain ⟨r8, h10, h⟩ := h
      replace h := iteE_some h
      rcases h with ⟨h11, h⟩ | ⟨h11, h⟩
      · skip
        replace h := bndE_some h
        obtain ⟨r9, h12, h⟩ := h
        replace h := iteE_some h
        rcases h with ⟨h13, h⟩ | ⟨h13, h⟩
        · skip
          replace h := bndE_some h
          obtain ⟨r10, h14, h⟩ := h
          obtain rfl := Option.some.inj h
          exact runF_call mixed [(8, .ret (.d ((D.i .i64) r1))), (10, .bit false), (12, .ret (.d ((D.i .i64) r3))), (14, .bit false), (17, .ret (.d ((D.l dbyte) r5))), (18, .str r5), (20, .ret (.d ((D.l dbyte) r6))), (21, .str r6), (24, .ret (.d (D.b r7))), (27, .ret (.d (D.b r8))), (29, .bit true), (35, .ret (.d (D.b r9))), (38, .bit true), (39, .ret (.d (D.b r10)))] [] [] (And.intro (law04_right_ok a0 r1 h1) (And.intro h2 (And.intro (law04_right_ok a1 r3 h4) (And.intro h5 (And.intro (key_Of_ok a0 r5 h7) (And.intro (rfl : r5.map dbyte = r5.map dbyte) (And.intro (key_Of_ok a1 r6 h8) (And.intro (rfl : r6.map dbyte = r6.map dbyte) (And.intro (ref03_Below_ok r5 r6 r7 h9) (And.intro (law04_below_ok a0 a1 r8 h10) (And.intro h11 (And.intro (law04_same_ok a0 a1 r9 h12) (And.intro h13 (And.intro (law04_awake_ok r10 h14) (True.intro))))))))))))))) (by kernel_rfl)
        · skip
          obtain rfl := Option.some.inj h
          exact runF_call mixed [(8, .ret (.d ((D.i .i64) r1))), (10, .bit false), (12, .ret (.d ((D.i .i64) r3))), (14, .bit false), (17, .ret (.d ((D.l dbyte) r5))), (18, .str r5), (20, .ret (.d ((D.l dbyte) r6))), (21, .str r6), (24, .ret (.d (D.b r7))), (27, .ret (.d (D.b r8))), (29, .bit true), (35, .ret (.d (D.b r9))), (38, .bit false)] [] [] (And.intro (law04_right_ok a0 r1 h1) (And.intro h2 (And.intro (law04_right_ok a1 r3 h4) (And.intro h5 (And.intro (key_Of_ok a0 r5 h7) (And.intro (rfl : r5.map dbyte = r5.map dbyte) (And.intro (key_Of_ok a1 r6 h8) (And.intro (rfl : r6.map dbyte = r6.map dbyte) (And.intro (ref03_Below_ok r5 r6 r7 h9) (And.intro (law04_below_ok a0 a1 r8 h10) (And.intro h11 (And.intro (law04_same_ok a0 a1 r9 h12) (And.intro h13 (True.intro)))))))))))))) (by kernel_rfl)
      · skip
        obtain rfl := Option.some.inj h
        exact runF_call mixed [(8, .ret (.d ((D.i .i64) r1))), (10, .bit false), (12, .ret (.d ((D.i .i64) r3))), (14, .bit false), (17, .ret (.d ((D.l dbyte) r5))), (18, .str r5), (20, .ret (.d ((D.l dbyte) r6))), (21, .str r6), (24, .ret (.d (D.b r7))), (27, .ret (.d (D.b r8))), (29, .bit false)] [] [] (And.intro (law04_right_ok a0 r1 h1) (And.intro h2 (And.intro (law04_right_ok a1 r3 h4) (And.intro h5 (And.intro (key_Of_ok a0 r5 h7) (And.intro (rfl : r5.map dbyte = r5.map dbyte) (And.intro (key_Of_ok a1 r6 h8) (And.intro (rfl : r6.map dbyte = r6.map dbyte) (And.intro (ref03_Below_ok r5 r6 r7 h9) (And.intro (law04_below_ok a0 a1 r8 h10) (And.intro h11 (True.intro)))))))))))) (by kernel_rfl)
def key_cutText_b7_I (s0 : List UInt8) (s5 : Int) (s10 : Bool) (w4 : List UInt8) : St := ⟨sp 62 0 [(0, .d ((D.l dbyte) s0)), (4, .row 4), (5, .d ((D.i .i64) s5)), (10, .d (D.b s10))], [(4, .row 5 1 (w4.map dbyte))], []⟩
def key_cutText_b7_O (s0 : List UInt8) (s5 : Int) (s10 : Bool) (w4 : List UInt8) (o : (Int × List UInt8) ⊕ (Unit ⊕ Unit)) : Ex × St := match o with
  | .inl o => (.normal, ⟨sp 62 0 [(0, .d ((D.l dbyte) s0)), (4, .row 4), (5, .d ((D.i .i64) o.1))], [(4, .row 5 1 (o.2.map dbyte))], []⟩)
  | .inr o => match o with
  | .inl o => (.exit 0, ⟨sp 62 0 [], [], []⟩)
  | .inr o => (.ret, ⟨sp 62 0 [(2, .d (D.s w4)), (3, .d ((D.i .i64) (intVal .add .i64 s5 2)))], [], []⟩)
theorem key_cutText_b7_ok (s0 : List UInt8) (s5 : Int) (s10 : Bool) (w4 : List UInt8) (o : (Int × List UInt8) ⊕ (Unit ⊕ Unit)) (h : key_cutText_b7 s0 s5 s10 w4 = some o) : LpOf Try.prog none (fbody Try.prog 28) [1, 0, 0, 1, 0, 0, 0, 1, 1, 1, 0, 1] (key_cutText_b7_I s0 s5 s10 w4) (key_cutText_b7_O s0 s5 s10 w4 o).1 (key_cutText_b7_O s0 s5 s10 w4 o).2 := by
  unfold key_cutText_b7 at h
  cases s10 with
  | true =>
    replace h := iteT h
    replace h := idxE_some h
    obtain ⟨x22, h22, h⟩ := h
    replace h := chkE_some h
    obtain ⟨h23, h⟩ := h
    obtain rfl := Option.some.inj h
    exact (runB_arr mixed [(19, .el (dbyte x22)), (22, .sl ((w4 ++ [x22]).map dbyte))] [] [.live [0, 4, 5], .keep [22], .ren 22 4] (And.intro (elem_map dbyte h22) (And.intro (nc_ok dbyte [x22]) (And.intro (nc_ok dbyte [x22]) (And.intro (fit_map dbyte h23) (And.intro (app_map dbyte w4 [x22]) (True.intro)))))) (by kernel_rfl)).lp
  | false =>
    replace h := iteF h
    replace h := iteE_some h
    rcases h with ⟨h24, h⟩ | ⟨h24, h⟩
    · skip
      replace h := idxE_some h
      obtain ⟨x23, h25, h⟩ := h
      replace h := iteE_some h
      rcases h with ⟨h26, h⟩ | ⟨h26, h⟩
      · skip
        replace h := chkE_some h
        obtain ⟨h27, h⟩ := h
        obtain rfl := Option.some.inj h
        exact (runB_arr mixed [(29, .int (s0.length : Int)), (31, .bit true), (35, .el (dbyte x23)), (25, .bit true), (41, .sl ((w4 ++ [(0 : UInt8)]).map dbyte))] [] [.live [0, 4, 5], .keep [41], .ren 41 4] (And.intro (len_map dbyte s0) (And.intro h24 (And.intro (elem_map dbyte h25) (And.intro h26 (And.intro (nc_ok dbyte [(0 : UInt8)]) (And.intro (nc_ok dbyte [(0 : UInt8)]) (And.intro (fit_map dbyte h27) (And.intro (app_map dbyte w4 [(0 : UInt8)]) (True.intro))))))))) (by kernel_rfl)).lp
      · skip
        replace h := iteE_some h
        rcases h with ⟨h28, h⟩ | ⟨h28, h⟩
        · skip
          replace h := idxE_some h
          obtain ⟨x24, h29, h⟩ := h
          replace h := iteE_some h
          rcases h with ⟨h30, h⟩ | ⟨h30, h⟩
          · skip
            obtain rfl := Option.some.inj h
            exact (runB_arr mixed [(29, .int (s0.length : Int)), (31, .bit true), (35, .el (dbyte x23)), (25, .bit false), (48, .int (s0.length : Int)), (50, .bit true), (54, .el (dbyte x24)), (44, .bit true), (59, .str w4)] [] [.live [2, 3], .keep []] (And.intro (len_map dbyte s0) (And.intro h24 (And.intro (elem_map dbyte h25) (And.intro h26 (And.intro (len_map dbyte s0) (And.intro h28 (And.intro (elem_map dbyte h29) (And.intro h30 (And.intro (rfl : w4.map dbyte = w4.map dbyte) (True.intro)))))))))) (by kernel_rfl)).lp
          · skip
            obtain rfl := Option.some.inj h
            exact (runB_arr mixed [(29, .int (s0.length : Int)), (31, .bit true), (35, .el (dbyte x23)), (25, .bit false), (48, .int (s0.length : Int)), (50, .bit true), (54, .el (dbyte x24)), (44, .bit false)] [] [.live [], .keep []] (And.intro (len_map dbyte s0) (And.intro h24 (And.intro (elem_map dbyte h25) (And.intro h26 (And.intro (len_map dbyte s0) (And.intro h28 (And.intro (elem_map dbyte h29) (And.intro h30 (True.intro))))))))) (by kernel_rfl)).lp
        · skip
          obtain rfl := Option.some.inj h
          exact (runB_arr mixed [(29, .int (s0.length : Int)), (31, .bit true), (35, .el (dbyte x23)), (25, .bit false), (48, .int (s0.length : Int)), (50, .bit false)] [] [.live [], .keep []] (And.intro (len_map dbyte s0) (And.intro h24 (And.intro (elem_map dbyte h25) (And.intro h26 (And.intro (len_map dbyte s0) (And.intro h28 (True.intro))))))) (by kernel_rfl)).lp
    · skip
      replace h := iteE_some h
      rcases h with ⟨h31, h⟩ | ⟨h31, h⟩
      · skip
        replace h := idxE_some h
        obtain ⟨x25, h32, h⟩ := h
        replace h := iteE_some h
        rcases h with ⟨h33, h⟩ | ⟨h33, h⟩
        · skip
          obtain rfl := Option.some.inj h
          exact (runB_arr mixed [(29, .int (s0.length : Int)), (31, .bit false), (48, .int (s0.length : Int)), (50, .bit true), (54, .el (dbyte x25)), (44, .bit true), (59, .str w4)] [] [.live [2, 3], .keep []] (And.intro (len_map dbyte s0) (And.intro h24 (And.intro (len_map dbyte s0) (And.intro h31 (And.intro (elem_map dbyte h32) (And.intro h33 (And.intro (rfl : w4.map dbyte = w4.map dbyte) (True.intro)))))))) (by kernel_rfl)).lp
        · skip
          obtain rfl := Option.some.inj h
          exact (runB_arr mixed [(29, .int (s0.length : Int)), (31, .bit false), (48, .int (s0.length : Int)), (50, .bit true), (54, .el (dbyte x25)), (44, .bit false)] [] [.live [], .keep []] (And.intro (len_map dbyte s0) (And.intro h24 (And.intro (len_map dbyte s0) (And.intro h31 (And.intro (elem_map dbyte h32) (And.intro h33 (True.intro))))))) (by kernel_rfl)).lp
      · skip
        obtain rfl := Option.some.inj h
        exact (runB_arr mixed [(29, .int (s0.length : Int)), (31, .bit false), (48, .int (s0.length : Int)), (50, .bit false)] [] [.live [], .keep []] (And.intro (len_map dbyte s0) (And.intro h24 (And.intro (len_map dbyte s0) (And.intro h31 (True.intro))))) (by kernel_rfl)).lp
def key_cutText_b6_I (s0 : List UInt8) (s5 : Int) (w4 : List UInt8) : St := ⟨sp 62 0 [(0, .d ((D.l dbyte) s0)), (4, .row 4), (5, .d ((D.i .i64) s5))], [(4, .row 5 1 (w4.map dbyte))], []⟩
def key_cutText_b6_O (s0 : List UInt8) (s5 : Int) (w4 : List UInt8) (o : (Int × List UInt8) ⊕ (Unit ⊕ Unit)) : Ex × St := match o with
  | .inl o => (.normal, ⟨sp 62 0 [(0, .d ((D.l dbyte) s0)), (4, .row 4), (5, .d ((D.i .i64) o.1))], [(4, .row 5 1 (o.2.map dbyte))], []⟩)
  | .inr o => match o with
  | .inl o => (.exit 0, ⟨sp 62 0 [], [], []⟩)
  | .inr o => (.ret, ⟨sp 62 0 [(2, .d (D.s w4)), (3, .d ((D.i .i64) (intVal .add .i64 s5 2)))], [], []⟩)
theorem key_cutText_b6_ok (s0 : List UInt8) (s5 : Int) (w4 : List UInt8) (o : (Int × List UInt8) ⊕ (Unit ⊕ Unit)) (h : key_cutText_b6 s0 s5 w4 = some o) : LpOf Try.prog none (fbody Try.prog 28) [0, 1, 0, 0, 0, 1, 1, 1, 0, 1] (key_cutText_b6_I s0 s5 w4) (key_cutText_b6_O s0 s5 w4 o).1 (key_cutText_b6_O s0 s5 w4 o).2 := by
  unfold key_cutText_b6 at h
  replace h := idxE_some h
  obtain ⟨x21, h20, h⟩ := h
  replace h := bndE_some h
  obtain ⟨o26, h34, h⟩ := h
  replace h := sumE_some h
  rcases h with ⟨o27, rfl, h⟩ | ⟨o28, rfl, h⟩
  · skip
    obtain rfl := Option.some.inj h
    exact (runB_arr mixed [(13, .el (dbyte x21))] [⟨[1, 0, 0, 1, 0, 0, 0, 1, 1, 1, 0, 1], [.live [0, 4, 5, 10], .keep [4]], .normal, (key_cutText_b7_O s0 s5 (!decide ((x21.toNat : Int) = ((0 : UInt8).toNat : Int))) w4 (Sum.inl o27)).2⟩] [.live [0, 4, 5], .keep [4]] (And.intro (elem_map dbyte h20) (And.intro (key_cutText_b7_ok s0 s5 (!decide ((x21.toNat : Int) = ((0 : UInt8).toNat : Int))) w4 (Sum.inl o27) h34) (True.intro))) (by kernel_rfl)).lp
  · skip
    replace h := sumE_some h
    rcases h with ⟨o29, rfl, h⟩ | ⟨o30, rfl, h⟩
    · skip
      obtain rfl := Option.some.inj h
      exact (runB_arr mixed [(13, .el (dbyte x21))] [⟨[1, 0, 0, 1, 0, 0, 0, 1, 1, 1, 0, 1], [.live [0, 4, 5, 10], .keep [4]], .exit 0, (key_cutText_b7_O s0 s5 (!decide ((x21.toNat : Int) = ((0 : UInt8).toNat : Int))) w4 (Sum.inr (Sum.inl o29))).2⟩] [.live [], .keep []] (And.intro (elem_map dbyte h20) (And.intro (key_cutText_b7_ok s0 s5 (!decide ((x21.toNat : Int) = ((0 : UInt8).toNat : Int))) w4 (Sum.inr (Sum.inl o29)) h34) (True.intro))) (by kernel_rfl)).lp
    · skip
      obtain rfl := Option.some.inj h
      exact (runB_arr mixed [(13, .el (dbyte x21))] [⟨[1, 0, 0, 1, 0, 0, 0, 1, 1, 1, 0, 1], [.live [0, 4, 5, 10], .keep [4]], .ret, (key_cutText_b7_O s0 s5 (!decide ((x21.toNat : Int) = ((0 : UInt8).toNat : Int))) w4 (Sum.inr (Sum.inr o30))).2⟩] [.live [2, 3], .keep []] (And.intro (elem_map dbyte h20) (And.intro (key_cutText_b7_ok s0 s5 (!decide ((x21.toNat : Int) = ((0 : UInt8).toNat : Int))) w4 (Sum.inr (Sum.inr o30)) h34) (True.intro))) (by kernel_rfl)).lp
def key_cutText_b5_I (s0 : List UInt8) (s5 : Int) (w4 : List UInt8) : St := ⟨sp 62 0 [(0, .d ((D.l dbyte) s0)), (4, .row 4), (5, .d ((D.i .i64) s5))], [(4, .row 5 1 (w4.map dbyte))], []⟩
def key_cutText_b5_O (s0 : List UInt8) (s5 : Int) (w4 : List UInt8) (o : (Int × List UInt8) ⊕ (Unit ⊕ Unit)) : Ex × St := match o with
  | .inl o => (.normal, ⟨sp 62 0 [(0, .d ((D.l dbyte) s0)), (4, .row 4), (5, .d ((D.i .i64) o.1))], [(4, .row 5 1 (o.2.map dbyte))], []⟩)
  | .inr o => match o with
  | .inl o => (.exit 0, ⟨sp 62 0 [], [], []⟩)
  | .inr o => (.ret, ⟨sp 62 0 [(2, .d (D.s w4)), (3, .d ((D.i .i64) (intVal .add .i64 s5 2)))], [], []⟩)
theorem key_cutText_b5_ok (s0 : List UInt8) (s5 : Int) (w4 : List UInt8) (o : (Int × List UInt8) ⊕ (Unit ⊕ Unit)) (h : key_cutText_b5 s0 s5 w4 = some o) : LpOf Try.prog none (fbody Try.prog 28) [1, 0, 0, 0, 1, 1, 1, 0, 1] (key_cutText_b5_I s0 s5 w4) (key_cutText_b5_O s0 s5 w4 o).1 (key_cutText_b5_O s0 s5 w4 o).2 := by
  unfold key_cutText_b5 at h
  replace h := bndE_some h
  obtain ⟨o31, h35, h⟩ := h
  replace h := sumE_some h
  rcases h with ⟨o32, rfl, h⟩ | ⟨o33, rfl, h⟩
  · skip
    obtain rfl := Option.some.inj h
    exact (runB_arr mixed [] [⟨[0, 1, 0, 0, 0, 1, 1, 1, 0, 1], [.live [0, 4, 5], .keep [4]], .normal, (key_cutText_b6_O s0 s5 w4 (Sum.inl o32)).2⟩] [.live [0, 4, 5], .keep [4]] (And.intro (key_cutText_b6_ok s0 s5 w4 (Sum.inl o32) h35) (True.intro)) (by kernel_rfl)).lp
  · skip
    replace h := sumE_some h
    rcases h with ⟨o34, rfl, h⟩ | ⟨o35, rfl, h⟩
    · skip
      obtain rfl := Option.some.inj h
      exact (runB_arr mixed [] [⟨[0, 1, 0, 0, 0, 1, 1, 1, 0, 1], [.live [0, 4, 5], .keep [4]], .exit 0, (key_cutText_b6_O s0 s5 w4 (Sum.inr (Sum.inl o34))).2⟩] [.live [], .keep []] (And.intro (key_cutText_b6_ok s0 s5 w4 (Sum.inr (Sum.inl o34)) h35) (True.intro)) (by kernel_rfl)).lp
    · skip
      obtain rfl := Option.some.inj h
      exact (runB_arr mixed [] [⟨[0, 1, 0, 0, 0, 1, 1, 1, 0, 1], [.live [0, 4, 5], .keep [4]], .ret, (key_cutText_b6_O s0 s5 w4 (Sum.inr (Sum.inr o35))).2⟩] [.live [2, 3], .keep []] (And.intro (key_cutText_b6_ok s0 s5 w4 (Sum.inr (Sum.inr o35)) h35) (True.intro)) (by kernel_rfl)).lp
def key_cutText_l1_I (s0 : List UInt8) (s5 : Int) (w4 : List UInt8) : St := ⟨sp 62 0 [(0, .d ((D.l dbyte) s0)), (4, .row 4), (5, .d ((D.i .i64) s5))], [(4, .row 5 1 (w4.map dbyte))], []⟩
def key_cutText_l1_O (s0 : List UInt8) (o : Unit ⊕ (List UInt8 × Int)) : Ex × St := match o with
  | .inl o => (.exit 0, ⟨sp 62 0 [], [], []⟩)
  | .inr o => (.ret, ⟨sp 62 0 [(2, .d (D.s o.1)), (3, .d ((D.i .i64) o.2))], [], []⟩)
def key_cutText_l1_R (s0 : List UInt8) (o : (Int × List UInt8) ⊕ (Unit ⊕ (List UInt8 × Int))) : Ex × St := match o with
  | .inl s => (.normal, key_cutText_l1_I s0 s.1 s.2)
  | .inr t => key_cutText_l1_O s0 t
theorem key_cutText_l1_rnd (s0 : List UInt8) (s5 : Int) (w4 : List UInt8) (o : (Int × List UInt8) ⊕ (Unit ⊕ (List UInt8 × Int))) (h : key_cutText_l1_s s0 s5 w4 = some o) : Arr Try.prog none (fbody Try.prog 28) (0 :: [0, 0, 1, 1, 1, 0, 1]) (key_cutText_l1_I s0 s5 w4) (key_cutText_l1_R s0 o).1 (key_cutText_l1_R s0 o).2 := by
  unfold key_cutText_l1_s at h
  replace h := iteE_some h
  rcases h with ⟨h19, h⟩ | ⟨h19, h⟩
  · skip
    replace h := bndE_some h
    obtain ⟨o36, h36, h⟩ := h
    replace h := sumE_some h
    rcases h with ⟨o37, rfl, h⟩ | ⟨o38, rfl, h⟩
    · skip
      obtain rfl := Option.some.inj h
      exact runB_arr mixed [(8, .int (s0.length : Int)), (9, .bit true)] [⟨[1, 0, 0, 0, 1, 1, 1, 0, 1], [.live [0, 4, 5], .keep [4]], .normal, (key_cutText_b5_O s0 s5 w4 (Sum.inl o37)).2⟩] [.live [0, 4, 5], .keep [4]] (And.intro (len_map dbyte s0) (And.intro h19 (And.intro (key_cutText_b5_ok s0 s5 w4 (Sum.inl o37) h36) (True.intro)))) (by kernel_rfl)
    · skip
      replace h := sumE_some h
      rcases h with ⟨o39, rfl, h⟩ | ⟨o40, rfl, h⟩
      · skip
        obtain rfl := Option.some.inj h
        exact runB_arr mixed [(8, .int (s0.length : Int)), (9, .bit true)] [⟨[1, 0, 0, 0, 1, 1, 1, 0, 1], [.live [0, 4, 5], .keep [4]], .exit 0, (key_cutText_b5_O s0 s5 w4 (Sum.inr (Sum.inl o39))).2⟩] [.live [], .keep []] (And.intro (len_map dbyte s0) (And.intro h19 (And.intro (key_cutText_b5_ok s0 s5 w4 (Sum.inr (Sum.inl o39)) h36) (True.intro)))) (by kernel_rfl)
      · skip
        obtain rfl := Option.some.inj h
        exact runB_arr mixed [(8, .int (s0.length : Int)), (9, .bit true)] [⟨[1, 0, 0, 0, 1, 1, 1, 0, 1], [.live [0, 4, 5], .keep [4]], .ret, (key_cutText_b5_O s0 s5 w4 (Sum.inr (Sum.inr o40))).2⟩] [.live [2, 3], .keep []] (And.intro (len_map dbyte s0) (And.intro h19 (And.intro (key_cutText_b5_ok s0 s5 w4 (Sum.inr (Sum.inr o40)) h36) (True.intro)))) (by kernel_rfl)
  · skip
    obtain rfl := Option.some.inj h
    exact runB_arr mixed [(8, .int (s0.length : Int)), (9, .bit false)] [] [.live [], .keep []] (And.intro (len_map dbyte s0) (And.intro h19 (True.intro))) (by kernel_rfl)
theorem key_cutText_l1_ok (s0 : List UInt8) (s5 : Int) (w4 : List UInt8) (t : Unit ⊕ (List UInt8 × Int)) (h : key_cutText_l1 s0 s5 w4 = some t) : LpOf Try.prog none (fbody Try.prog 28) [0, 0, 1, 1, 1, 0, 1] (key_cutText_l1_I s0 s5 w4) (key_cutText_l1_O s0 t).1 (key_cutText_l1_O s0 t).2 :=
  loopE_lp (I := fun s => key_cutText_l1_I s0 s.1 s.2) (O := key_cutText_l1_O s0) (by kernel_rfl) (fun t => isN_ne (by rcases t with (_ | _) <;> rfl)) (fun s s' h => key_cutText_l1_rnd s0 s.1 s.2 (.inl s') h) (fun s t h => key_cutText_l1_rnd s0 s.1 s.2 (.inr t) h) h
theorem key_cutText_ok (a0 : List UInt8) (r : List UInt8 × Int) (h : key_cutText a0 = some r) : ACall Try.prog 28 [.d ((D.l dbyte) a0)] [] (.tup [.d (D.s r.1), .d ((D.i .i64) r.2)]) [] := by
  unfold key_cutText at h
  replace h := bndE_some h
  obtain ⟨o41, h37, h⟩ := h
  replace h := sumE_some h
  rcases h with ⟨o42, rfl, h⟩ | ⟨o43, rfl, h⟩
  · skip
    obtain rfl := Option.some.inj h
    exact runF_call mixed [] [⟨[0, 0, 1, 1, 1, 0, 1], [.live [0, 4, 5], .keep [], .nil 4 4 5 1], .exit 0, (key_cutText_l1_O a0 (Sum.inl o42)).2⟩] [] (And.intro (key_cutText_l1_ok a0 0 ([] : List UInt8) (Sum.inl o42) h37) (True.intro)) (by kernel_rfl)
  · skip
    obtain rfl := Option.some.inj h
    exact runF_call mixed [] [⟨[0, 0, 1, 1, 1, 0, 1], [.live [0, 4, 5], .keep [], .nil 4 4 5 1], .ret, (key_cutText_l1_O a0 (Sum.inr o43)).2⟩] [] (And.intro (key_cutText_l1_ok a0 0 ([] : List UInt8) (Sum.inr o43) h37) (True.intro)) (by kernel_rfl)
def key_cut_l5_I (s53 : List UInt8) (s54 : Int) (w2 : TValue) (s6 : Int) (s55 : Int) : St := ⟨sp 70 0 [(2, .box 2 0), (6, .d ((D.i .u64) s6)), (53, .d ((D.l dbyte) s53)), (54, .d ((D.i .i64) s54)), (55, .d ((D.i .i64) s55))], [(2, .cells ((cellsA (TValue.D w2))))], []⟩
def key_cut_l5_O (s53 : List UInt8) (s54 : Int) (w2 : TValue) (o : Int) : Ex × St := (.exit 1, ⟨sp 70 0 [(2, .box 2 0), (6, .d ((D.i .u64) o))], [(2, .cells ((cellsA (TValue.D w2))))], []⟩)
def key_cut_l5_R (s53 : List UInt8) (s54 : Int) (w2 : TValue) (o : (Int × Int) ⊕ (Int)) : Ex × St := match o with
  | .inl s => (.normal, key_cut_l5_I s53 s54 w2 s.1 s.2)
  | .inr t => key_cut_l5_O s53 s54 w2 t
theorem key_cut_l5_rnd (s53 : List UInt8) (s54 : Int) (w2 : TValue) (s6 : Int) (s55 : Int) (o : (Int × Int) ⊕ (Int)) (h : key_cut_l5_s s53 s54 w2 s6 s55 = some o) : Arr Try.prog none (fbody Try.prog 21) (0 :: [0, 1, 0, 1, 0, 1, 0, 1, 1, 1, 1, 1, 0, 1, 0, 1, 1]) (key_cut_l5_I s53 s54 w2 s6 s55) (key_cut_l5_R s53 s54 w2 o).1 (key_cut_l5_R s53 s54 w2 o).2 := by
  unfold key_cut_l5_s at h
  replace h := iteE_some h
  rcases h with ⟨h17, h⟩ | ⟨h17, h⟩
  · skip
    replace h := idxE_some h
    obtain ⟨x7, h18, h⟩ := h
    obtain rfl := Option.some.inj h
    exact runB_arr mixed [(56, .bit true), (57, .el (dbyte x7)), (62, .int x7.toNat)] [] [.live [2, 6, 53, 54, 55], .keep [2]] (And.intro h17 (And.intro (elem_map dbyte h18) (And.intro (of_decide_eq_true rfl : (0 : Int) ≤ 8) (And.intro (wrap_u8_u64 x7) (True.intro))))) (by kernel_rfl)
  · skip
    obtain rfl := Option.some.inj h
    exact runB_arr mixed [(56, .bit false)] [] [.live [2, 6], .keep [2]] (And.intro h17 (True.intro)) (by kernel_rfl)
theorem key_cut_l5_ok (s53 : List UInt8) (s54 : Int) (w2 : TValue) (s6 : Int) (s55 : Int) (t : Int) (h : key_cut_l5 s53 s54 w2 s6 s55 = some t) : LpOf Try.prog none (fbody Try.prog 21) [0, 1, 0, 1, 0, 1, 0, 1, 1, 1, 1, 1, 0, 1, 0, 1, 1] (key_cut_l5_I s53 s54 w2 s6 s55) (key_cut_l5_O s53 s54 w2 t).1 (key_cut_l5_O s53 s54 w2 t).2 :=
  loopE_lp (I := fun s => key_cut_l5_I s53 s54 w2 s.1 s.2) (O := key_cut_l5_O s53 s54 w2) (by kernel_rfl) (fun t => isN_ne (by rfl)) (fun s s' h => key_cut_l5_rnd s53 s54 w2 s.1 s.2 (.inl s') h) (fun s t h => key_cut_l5_rnd s53 s54 w2 s.1 s.2 (.inr t) h) h
def key_cut_b4_I (s0 : List UInt8) (s47 : Bool) (w2 : TValue) : St := ⟨sp 70 0 [(0, .d ((D.l dbyte) s0)), (2, .box 2 0), (47, .d (D.b s47))], [(2, .cells ((cellsA (TValue.D w2))))], []⟩
def key_cut_b4_O (s0 : List UInt8) (s47 : Bool) (w2 : TValue) (o : Unit ⊕ TValue) : Ex × St := match o with
  | .inl o => (.normal, ⟨sp 70 0 [(2, .box 2 0)], [(2, .cells ((cellsA (TValue.D w2))))], []⟩)
  | .inr o => (.ret, ⟨sp 70 0 [(2, .box 2 0), (3, .d ((D.i .i64) 9))], [(2, .cells ((cellsA (TValue.D o))))], []⟩)
theorem key_cut_b4_ok (s0 : List UInt8) (s47 : Bool) (w2 : TValue) (o : Unit ⊕ TValue) (h : key_cut_b4 s0 s47 w2 = some o) : LpOf Try.prog none (fbody Try.prog 21) [1, 1, 1, 1, 1, 0, 1, 0, 1, 1] (key_cut_b4_I s0 s47 w2) (key_cut_b4_O s0 s47 w2 o).1 (key_cut_b4_O s0 s47 w2 o).2 := by
  unfold key_cut_b4 at h
  cases s47 with
  | true =>
    replace h := iteT h
    replace h := iteE_some h
    rcases h with ⟨h15, h⟩ | ⟨h15, h⟩
    · skip
      replace h := chkE_some h
      obtain ⟨h16, h⟩ := h
      replace h := bndE_some h
      obtain ⟨o8, h19, h⟩ := h
      replace h := bndE_some h
      obtain ⟨r9, h20, h⟩ := h
      obtain rfl := Option.some.inj h
      exact (runB_arr mixed [(50, .int (s0.length : Int)), (51, .bit true), (53, .sl ((sub s0 1 9).map dbyte)), (54, .int ((sub s0 1 9).length : Int)), (68, .ret (.d (TValue.D r9)))] [⟨[0, 1, 0, 1, 0, 1, 0, 1, 1, 1, 1, 1, 0, 1, 0, 1, 1], [.live [2, 6, 53, 54, 55], .keep [2]], .exit 1, (key_cut_l5_O (sub s0 1 9) ((sub s0 1 9).length : Int) w2 o8).2⟩] [.live [2, 3], .keep [2]] (And.intro (len_map dbyte s0) (And.intro h15 (And.intro (cut_some dbyte h16) (And.intro (len_map dbyte (sub s0 1 9)) (And.intro (key_cut_l5_ok (sub s0 1 9) ((sub s0 1 9).length : Int) w2 0 0 o8 h19) (And.intro (value_Int_ok (IntKind.wrap .i64 (intVal .xor .u64 o8 9223372036854775808)) r9 h20) (True.intro))))))) (by kernel_rfl)).lp
    · skip
      obtain rfl := Option.some.inj h
      exact (runB_arr mixed [(50, .int (s0.length : Int)), (51, .bit false)] [] [.live [2], .keep [2]] (And.intro (len_map dbyte s0) (And.intro h15 (True.intro))) (by kernel_rfl)).lp
  | false =>
    replace h := iteF h
    obtain rfl := Option.some.inj h
    exact (runB_arr mixed [] [] [.live [2], .keep [2]] (True.intro) (by kernel_rfl)).lp
def key_cut_b3_I (s0 : List UInt8) (s16 : Int) (s28 : Bool) (w2 : TValue) : St := ⟨sp 70 0 [(0, .d ((D.l dbyte) s0)), (2, .box 2 0), (16, .d ((D.i .i64) s16)), (28, .d (D.b s28))], [(2, .cells ((cellsA (TValue.D w2))))], []⟩
def key_cut_b3_O (s0 : List UInt8) (s16 : Int) (s28 : Bool) (w2 : TValue) (o : Unit ⊕ (Int × TValue)) : Ex × St := match o with
  | .inl o => (.normal, ⟨sp 70 0 [(2, .box 2 0)], [(2, .cells ((cellsA (TValue.D w2))))], []⟩)
  | .inr o => (.ret, ⟨sp 70 0 [(2, .box 2 0), (3, .d ((D.i .i64) o.1))], [(2, .cells ((cellsA (TValue.D o.2))))], []⟩)
theorem key_cut_b3_ok (s0 : List UInt8) (s16 : Int) (s28 : Bool) (w2 : TValue) (o : Unit ⊕ (Int × TValue)) (h : key_cut_b3 s0 s16 s28 w2 = some o) : LpOf Try.prog none (fbody Try.prog 21) [1, 1, 1, 0, 1, 0, 1, 1] (key_cut_b3_I s0 s16 s28 w2) (key_cut_b3_O s0 s16 s28 w2 o).1 (key_cut_b3_O s0 s16 s28 w2 o).2 := by
  unfold key_cut_b3 at h
  cases s28 with
  | true =>
    replace h := iteT h
    replace h := chkE_some h
    obtain ⟨h9, h⟩ := h
    replace h := bndE_some h
    obtain ⟨r5, h10, h⟩ := h
    replace h := iteE_some h
    rcases h with ⟨h11, h⟩ | ⟨h11, h⟩
    · skip
      replace h := iteE_some h
      rcases h with ⟨h12, h⟩ | ⟨h12, h⟩
      · skip
        replace h := bndE_some h
        obtain ⟨r6, h13, h⟩ := h
        obtain rfl := Option.some.inj h
        exact (runB_arr mixed [(32, .sl ((sub s0 1 (s0.length : Int)).map dbyte)), (33, .ret (.tup [.d (D.s r5.1), .d ((D.i .i64) r5.2)])), (38, .bit true), (40, .int (r5.1.length : Int)), (42, .bit true), (44, .ret (.d (TValue.D r6)))] [] [.live [2, 3], .keep [2]] (And.intro (cut_none dbyte h9) (And.intro (key_cutText_ok (sub s0 1 (s0.length : Int)) r5 h10) (And.intro h11 (And.intro (len_str r5.1) (And.intro h12 (And.intro (value_Str_ok r5.1 r6 h13) (True.intro))))))) (by kernel_rfl)).lp
      · skip
        obtain rfl := Option.some.inj h
        exact (runB_arr mixed [(32, .sl ((sub s0 1 (s0.length : Int)).map dbyte)), (33, .ret (.tup [.d (D.s r5.1), .d ((D.i .i64) r5.2)])), (38, .bit true), (40, .int (r5.1.length : Int)), (42, .bit false)] [] [.live [2], .keep [2]] (And.intro (cut_none dbyte h9) (And.intro (key_cutText_ok (sub s0 1 (s0.length : Int)) r5 h10) (And.intro h11 (And.intro (len_str r5.1) (And.intro h12 (True.intro)))))) (by kernel_rfl)).lp
    · skip
      obtain rfl := Option.some.inj h
      exact (runB_arr mixed [(32, .sl ((sub s0 1 (s0.length : Int)).map dbyte)), (33, .ret (.tup [.d (D.s r5.1), .d ((D.i .i64) r5.2)])), (38, .bit false)] [] [.live [2], .keep [2]] (And.intro (cut_none dbyte h9) (And.intro (key_cutText_ok (sub s0 1 (s0.length : Int)) r5 h10) (And.intro h11 (True.intro)))) (by kernel_rfl)).lp
  | false =>
    replace h := iteF h
    replace h := bndE_some h
    obtain ⟨o10, h21, h⟩ := h
    replace h := sumE_some h
    rcases h with ⟨o11, rfl, h⟩ | ⟨o12, rfl, h⟩
    · skip
      obtain rfl := Option.some.inj h
      exact (runB_arr mixed [] [⟨[1, 1, 1, 1, 1, 0, 1, 0, 1, 1], [.live [0, 2, 47], .keep [2]], .normal, (key_cut_b4_O s0 (decide (s16 = 1)) w2 (Sum.inl o11)).2⟩] [.live [2], .keep [2]] (And.intro (key_cut_b4_ok s0 (decide (s16 = 1)) w2 (Sum.inl o11) h21) (True.intro)) (by kernel_rfl)).lp
    · skip
      obtain rfl := Option.some.inj h
      exact (runB_arr mixed [] [⟨[1, 1, 1, 1, 1, 0, 1, 0, 1, 1], [.live [0, 2, 47], .keep [2]], .ret, (key_cut_b4_O s0 (decide (s16 = 1)) w2 (Sum.inr o12)).2⟩] [.live [2, 3], .keep [2]] (And.intro (key_cut_b4_ok s0 (decide (s16 = 1)) w2 (Sum.inr o12) h21) (True.intro)) (by kernel_rfl)).lp
def key_cut_b2_I (s0 : List UInt8) (s16 : Int) (s17 : Bool) (w2 : TValue) : St := ⟨sp 70 0 [(0, .d ((D.l dbyte) s0)), (2, .box 2 0), (16, .d ((D.i .i64) s16)), (17, .d (D.b s17))], [(2, .cells ((cellsA (TValue.D w2))))], []⟩
def key_cut_b2_O (s0 : List UInt8) (s16 : Int) (s17 : Bool) (w2 : TValue) (o : Unit ⊕ (Int × TValue)) : Ex × St := match o with
  | .inl o => (.normal, ⟨sp 70 0 [(2, .box 2 0)], [(2, .cells ((cellsA (TValue.D w2))))], []⟩)
  | .inr o => (.ret, ⟨sp 70 0 [(2, .box 2 0), (3, .d ((D.i .i64) o.1))], [(2, .cells ((cellsA (TValue.D o.2))))], []⟩)
theorem key_cut_b2_ok (s0 : List UInt8) (s16 : Int) (s17 : Bool) (w2 : TValue) (o : Unit ⊕ (Int × TValue)) (h : key_cut_b2 s0 s16 s17 w2 = some o) : LpOf Try.prog none (fbody Try.prog 21) [1, 0, 1, 0, 1, 1] (key_cut_b2_I s0 s16 s17 w2) (key_cut_b2_O s0 s16 s17 w2 o).1 (key_cut_b2_O s0 s16 s17 w2 o).2 := by
  unfold key_cut_b2 at h
  cases s17 with
  | true =>
    replace h := iteT h
    replace h := idxE_some h
    obtain ⟨x2, h4, h⟩ := h
    replace h := iteE_some h
    rcases h with ⟨h5, h⟩ | ⟨h5, h⟩
    · skip
      replace h := idxE_some h
      obtain ⟨x3, h6, h⟩ := h
      replace h := bndE_some h
      obtain ⟨r4, h7, h⟩ := h
      obtain rfl := Option.some.inj h
      exact (runB_arr mixed [(20, .el (dbyte x2)), (22, .bit true), (24, .el (dbyte x3)), (27, .ret (.d (TValue.D r4)))] [] [.live [2, 3], .keep [2]] (And.intro (elem_map dbyte h4) (And.intro h5 (And.intro (elem_map dbyte h6) (And.intro (value_Bool_ok (decide ((x3.toNat : Int) = ((1 : UInt8).toNat : Int))) r4 h7) (True.intro))))) (by kernel_rfl)).lp
    · skip
      obtain rfl := Option.some.inj h
      exact (runB_arr mixed [(20, .el (dbyte x2)), (22, .bit false)] [] [.live [2], .keep [2]] (And.intro (elem_map dbyte h4) (And.intro h5 (True.intro))) (by kernel_rfl)).lp
  | false =>
    replace h := iteF h
    replace h := bndE_some h
    obtain ⟨o13, h22, h⟩ := h
    replace h := sumE_some h
    rcases h with ⟨o14, rfl, h⟩ | ⟨o15, rfl, h⟩
    · skip
      obtain rfl := Option.some.inj h
      exact (runB_arr mixed [] [⟨[1, 1, 1, 0, 1, 0, 1, 1], [.live [0, 2, 16, 28], .keep [2]], .normal, (key_cut_b3_O s0 s16 (decide (s16 = 2)) w2 (Sum.inl o14)).2⟩] [.live [2], .keep [2]] (And.intro (key_cut_b3_ok s0 s16 (decide (s16 = 2)) w2 (Sum.inl o14) h22) (True.intro)) (by kernel_rfl)).lp
    · skip
      obtain rfl := Option.some.inj h
      exact (runB_arr mixed [] [⟨[1, 1, 1, 0, 1, 0, 1, 1], [.live [0, 2, 16, 28], .keep [2]], .ret, (key_cut_b3_O s0 s16 (decide (s16 = 2)) w2 (Sum.inr o15)).2⟩] [.live [2, 3], .keep [2]] (And.intro (key_cut_b3_ok s0 s16 (decide (s16 = 2)) w2 (Sum.inr o15) h22) (True.intro)) (by kernel_rfl)).lp
def key_cut_b1_I (s0 : List UInt8) (s16 : Int) (w2 : TValue) : St := ⟨sp 70 0 [(0, .d ((D.l dbyte) s0)), (2, .box 2 0), (16, .d ((D.i .i64) s16))], [(2, .cells ((cellsA (TValue.D w2))))], []⟩
def key_cut_b1_O (s0 : List UInt8) (s16 : Int) (w2 : TValue) (o : Unit ⊕ (Int × TValue)) : Ex × St := match o with
  | .inl o => (.normal, ⟨sp 70 0 [(2, .box 2 0)], [(2, .cells ((cellsA (TValue.D w2))))], []⟩)
  | .inr o => (.ret, ⟨sp 70 0 [(2, .box 2 0), (3, .d ((D.i .i64) o.1))], [(2, .cells ((cellsA (TValue.D o.2))))], []⟩)
theorem key_cut_b1_ok (s0 : List UInt8) (s16 : Int) (w2 : TValue) (o : Unit ⊕ (Int × TValue)) (h : key_cut_b1 s0 s16 w2 = some o) : LpOf Try.prog none (fbody Try.prog 21) [1, 0, 1, 1] (key_cut_b1_I s0 s16 w2) (key_cut_b1_O s0 s16 w2 o).1 (key_cut_b1_O s0 s16 w2 o).2 := by
  unfold key_cut_b1 at h
  replace h := bndE_some h
  obtain ⟨o16, h23, h⟩ := h
  replace h := sumE_some h
  rcases h with ⟨o17, rfl, h⟩ | ⟨o18, rfl, h⟩
  · skip
    obtain rfl := Option.some.inj h
    exact (runB_arr mixed [] [⟨[1, 0, 1, 0, 1, 1], [.live [0, 2, 16, 17], .keep [2]], .normal, (key_cut_b2_O s0 s16 (decide (s16 = 3)) w2 (Sum.inl o17)).2⟩] [.live [2], .keep [2]] (And.intro (key_cut_b2_ok s0 s16 (decide (s16 = 3)) w2 (Sum.inl o17) h23) (True.intro)) (by kernel_rfl)).lp
  · skip
    obtain rfl := Option.some.inj h
    exact (runB_arr mixed [] [⟨[1, 0, 1, 0, 1, 1], [.live [0, 2, 16, 17], .keep [2]], .ret, (key_cut_b2_O s0 s16 (decide (s16 = 3)) w2 (Sum.inr o18)).2⟩] [.live [2, 3], .keep [2]] (And.intro (key_cut_b2_ok s0 s16 (decide (s16 = 3)) w2 (Sum.inr o18) h23) (True.intro)) (by kernel_rfl)).lp
theorem key_cut_ok (a0 : List UInt8) (r : TValue × Int) (h : key_cut a0 = some r) : ACall Try.prog 21 [.d ((D.l dbyte) a0)] [] (.tup [.d (TValue.D r.1), .d ((D.i .i64) r.2)]) [] := by
  unfold key_cut at h
  replace h := iteE_some h
  rcases h with ⟨h1, h⟩ | ⟨h1, h⟩
  · skip
    obtain rfl := Option.some.inj h
    exact runF_call mixed [(10, .int (a0.length : Int)), (11, .bit true)] [] [] (And.intro (len_map dbyte a0) (And.intro h1 (True.intro))) (by kernel_rfl)
  · skip
    replace h := idxE_some h
    obtain ⟨x1, h2, h⟩ := h
    replace h := bndE_some h
    obtain ⟨o19, h24, h⟩ := h
    replace h := sumE_some h
    rcases h with ⟨o20, rfl, h⟩ | ⟨o21, rfl, h⟩
    · skip
      obtain rfl := Option.some.inj h
      exact runF_call mixed [(10, .int (a0.length : Int)), (11, .bit false), (14, .el (dbyte x1)), (16, .int x1.toNat)] [⟨[1, 0, 1, 1], [.live [0, 2, 16], .keep [2]], .normal, (key_cut_b1_O a0 (x1.toNat : Int) (TValue.mk 0 0 ([] : List UInt8) false) (Sum.inl o20)).2⟩] [] (And.intro (len_map dbyte a0) (And.intro h1 (And.intro (elem_map dbyte h2) (And.intro (wrap_u8_i64 x1) (And.intro (key_cut_b1_ok a0 (x1.toNat : Int) (TValue.mk 0 0 ([] : List UInt8) false) (Sum.inl o20) h24) (True.intro)))))) (by kernel_rfl)
    · skip
      obtain rfl := Option.some.inj h
      exact runF_call mixed [(10, .int (a0.length : Int)), (11, .bit false), (14, .el (dbyte x1)), (16, .int x1.toNat)] [⟨[1, 0, 1, 1], [.live [0, 2, 16], .keep [2]], .ret, (key_cut_b1_O a0 (x1.toNat : Int) (TValue.mk 0 0 ([] : List UInt8) false) (Sum.inr o21)).2⟩] [] (And.intro (len_map dbyte a0) (And.intro h1 (And.intro (elem_map dbyte h2) (And.intro (wrap_u8_i64 x1) (And.intro (key_cut_b1_ok a0 (x1.toNat : Int) (TValue.mk 0 0 ([] : List UInt8) false) (Sum.inr o21) h24) (True.intro)))))) (by kernel_rfl)
theorem key_Cut_ok (a0 : List UInt8) (r : TValue × Int × Bool) (h : key_Cut a0 = some r) : ACall Try.prog 13 [.d ((D.l dbyte) a0)] [] (.tup [.d (TValue.D r.1), .d ((D.i .i64) r.2.1), .d (D.b r.2.2)]) [] := by
  unfold key_Cut at h
  replace h := bndE_some h
  obtain ⟨r1, h1, h⟩ := h
  obtain rfl := Option.some.inj h
  exact runF_call mixed [(9, .ret (.tup [.d (TValue.D r1.1), .d ((D.i .i64) r1.2)]))] [] [] (And.intro (key_cut_ok a0 r1 h1) (True.intro)) (by kernel_rfl)
def ref04_Read_l1_I (s0 : List UInt8) (w2 : TValue) (s5 : Int) (s6 : Int) : St := ⟨sp 123 0 [(0, .d ((D.l dbyte) s0)), (2, .box 2 0), (5, .d ((D.i .u64) s5)), (6, .d ((D.i .i64) s6))], [(2, .cells ((cellsA (TValue.D w2))))], []⟩
def ref04_Read_l1_O (s0 : List UInt8) (w2 : TValue) (o : Int) : Ex × St := (.exit 0, ⟨sp 123 0 [(2, .box 2 0), (5, .d ((D.i .u64) o))], [(2, .cells ((cellsA (TValue.D w2))))], []⟩)
def ref04_Read_l1_R (s0 : List UInt8) (w2 : TValue) (o : (Int × Int) ⊕ (Int)) : Ex × St := match o with
  | .inl s => (.normal, ref04_Read_l1_I s0 w2 s.1 s.2)
  | .inr t => ref04_Read_l1_O s0 w2 t
theorem ref04_Read_l1_rnd (s0 : List UInt8) (w2 : TValue) (s5 : Int) (s6 : Int) (o : (Int × Int) ⊕ (Int)) (h : ref04_Read_l1_s s0 w2 s5 s6 = some o) : Arr Try.prog none (fbody Try.prog 14) (0 :: [0, 1, 0, 1, 1, 0, 1, 0, 1, 1, 1, 1]) (ref04_Read_l1_I s0 w2 s5 s6) (ref04_Read_l1_R s0 w2 o).1 (ref04_Read_l1_R s0 w2 o).2 := by
  unfold ref04_Read_l1_s at h
  replace h := iteE_some h
  rcases h with ⟨h11, h⟩ | ⟨h11, h⟩
  · skip
    replace h := idxE_some h
    obtain ⟨x5, h12, h⟩ := h
    obtain rfl := Option.some.inj h
    exact runB_arr mixed [(42, .bit true), (49, .el (dbyte x5)), (51, .int x5.toNat)] [] [.live [0, 2, 5, 6], .keep [2]] (And.intro h11 (And.intro (elem_map dbyte h12) (And.intro (wrap_u8_u64 x5) (True.intro)))) (by kernel_rfl)
  · skip
    obtain rfl := Option.some.inj h
    exact runB_arr mixed [(42, .bit false)] [] [.live [2, 5], .keep [2]] (And.intro h11 (True.intro)) (by kernel_rfl)
theorem ref04_Read_l1_ok (s0 : List UInt8) (w2 : TValue) (s5 : Int) (s6 : Int) (t : Int) (h : ref04_Read_l1 s0 w2 s5 s6 = some t) : LpOf Try.prog none (fbody Try.prog 14) [0, 1, 0, 1, 1, 0, 1, 0, 1, 1, 1, 1] (ref04_Read_l1_I s0 w2 s5 s6) (ref04_Read_l1_O s0 w2 t).1 (ref04_Read_l1_O s0 w2 t).2 :=
  loopE_lp (I := fun s => ref04_Read_l1_I s0 w2 s.1 s.2) (O := ref04_Read_l1_O s0 w2) (by kernel_rfl) (fun t => isN_ne (by rfl)) (fun s s' h => ref04_Read_l1_rnd s0 w2 s.1 s.2 (.inl s') h) (fun s t h => ref04_Read_l1_rnd s0 w2 s.1 s.2 (.inr t) h) h
def ref04_Read_b4_I (s0 : List UInt8) (s8 : Int) (w2 : TValue) (w4 : TValue) (w7 : List UInt8) : St := ⟨sp 123 0 [(0, .d ((D.l dbyte) s0)), (2, .box 2 0), (4, .box 4 0), (7, .row 7), (8, .d ((D.i .i64) s8))], [(2, .cells ((cellsA (TValue.D w2)))), (4, .cells ((cellsA (TValue.D w4)))), (7, .row 5 1 (w7.map dbyte))], []⟩
def ref04_Read_b4_O (s0 : List UInt8) (s8 : Int) (w2 : TValue) (w4 : TValue) (w7 : List UInt8) (o : (Int × List UInt8) ⊕ (Int × TValue)) : Ex × St := match o with
  | .inl o => (.normal, ⟨sp 123 0 [(0, .d ((D.l dbyte) s0)), (2, .box 2 0), (4, .box 4 0), (7, .row 7), (8, .d ((D.i .i64) o.1))], [(2, .cells ((cellsA (TValue.D w2)))), (4, .cells ((cellsA (TValue.D w4)))), (7, .row 5 1 (o.2.map dbyte))], []⟩)
  | .inr o => (.ret, ⟨sp 123 0 [(2, .box 2 0), (3, .d ((D.i .i64) o.1))], [(2, .cells ((cellsA (TValue.D o.2))))], []⟩)
theorem ref04_Read_b4_ok (s0 : List UInt8) (s8 : Int) (w2 : TValue) (w4 : TValue) (w7 : List UInt8) (o : (Int × List UInt8) ⊕ (Int × TValue)) (h : ref04_Read_b4 s0 s8 w2 w4 w7 = some o) : LpOf Try.prog none (fbody Try.prog 14) [0, 1, 0, 0, 1, 0, 1, 1, 1, 1, 1, 1, 1] (ref04_Read_b4_I s0 s8 w2 w4 w7) (ref04_Read_b4_O s0 s8 w2 w4 w7 o).1 (ref04_Read_b4_O s0 s8 w2 w4 w7 o).2 := by
  unfold ref04_Read_b4 at h
  replace h := idxE_some h
  obtain ⟨x17, h36, h⟩ := h
  replace h := iteE_some h
  rcases h with ⟨h37, h⟩ | ⟨h37, h⟩
  · skip
    replace h := idxE_some h
    obtain ⟨x18, h38, h⟩ := h
    replace h := chkE_some h
    obtain ⟨h39, h⟩ := h
    obtain rfl := Option.some.inj h
    exact (runB_arr mixed [(70, .el (dbyte x17)), (72, .bit true), (76, .el (dbyte x18)), (79, .sl ((w7 ++ [x18]).map dbyte))] [] [.live [0, 2, 4, 7, 8], .keep [2, 4, 79], .ren 79 7] (And.intro (elem_map dbyte h36) (And.intro h37 (And.intro (elem_map dbyte h38) (And.intro (nc_ok dbyte [x18]) (And.intro (nc_ok dbyte [x18]) (And.intro (fit_map dbyte h39) (And.intro (app_map dbyte w7 [x18]) (True.intro)))))))) (by kernel_rfl)).lp
  · skip
    replace h := iteE_some h
    rcases h with ⟨h40, h⟩ | ⟨h40, h⟩
    · skip
      obtain rfl := Option.some.inj h
      exact (runB_arr mixed [(70, .el (dbyte x17)), (72, .bit false), (82, .int (s0.length : Int)), (85, .bit true)] [] [.live [2, 3], .keep [2]] (And.intro (elem_map dbyte h36) (And.intro h37 (And.intro (len_map dbyte s0) (And.intro h40 (True.intro))))) (by kernel_rfl)).lp
    · skip
      replace h := idxE_some h
      obtain ⟨x19, h41, h⟩ := h
      replace h := iteE_some h
      rcases h with ⟨h42, h⟩ | ⟨h42, h⟩
      · skip
        replace h := idxE_some h
        obtain ⟨x20, h43, h⟩ := h
        replace h := iteE_some h
        rcases h with ⟨h44, h⟩ | ⟨h44, h⟩
        · skip
          obtain rfl := Option.some.inj h
          exact (runB_arr mixed [(70, .el (dbyte x17)), (72, .bit false), (82, .int (s0.length : Int)), (85, .bit false), (89, .el (dbyte x19)), (92, .bit true), (96, .el (dbyte x20)), (100, .bit true)] [] [.live [2, 3], .keep [2]] (And.intro (elem_map dbyte h36) (And.intro h37 (And.intro (len_map dbyte s0) (And.intro h40 (And.intro (elem_map dbyte h41) (And.intro h42 (And.intro (elem_map dbyte h43) (And.intro h44 (True.intro))))))))) (by kernel_rfl)).lp
        · skip
          replace h := idxE_some h
          obtain ⟨x21, h45, h⟩ := h
          replace h := iteE_some h
          rcases h with ⟨h46, h⟩ | ⟨h46, h⟩
          · skip
            replace h := iteE_some h
            rcases h with ⟨h47, h⟩ | ⟨h47, h⟩
            · skip
              obtain rfl := Option.some.inj h
              exact (runB_arr mixed [(70, .el (dbyte x17)), (72, .bit false), (82, .int (s0.length : Int)), (85, .bit false), (89, .el (dbyte x19)), (92, .bit true), (96, .el (dbyte x20)), (100, .bit false), (105, .el (dbyte x21)), (107, .bit true), (109, .int (w7.length : Int)), (110, .bit true)] [] [.live [2, 3], .keep [2]] (And.intro (elem_map dbyte h36) (And.intro h37 (And.intro (len_map dbyte s0) (And.intro h40 (And.intro (elem_map dbyte h41) (And.intro h42 (And.intro (elem_map dbyte h43) (And.intro h44 (And.intro (elem_map dbyte h45) (And.intro h46 (And.intro (len_map dbyte w7) (And.intro h47 (True.intro))))))))))))) (by kernel_rfl)).lp
            · skip
              obtain rfl := Option.some.inj h
              exact (runB_arr mixed [(70, .el (dbyte x17)), (72, .bit false), (82, .int (s0.length : Int)), (85, .bit false), (89, .el (dbyte x19)), (92, .bit true), (96, .el (dbyte x20)), (100, .bit false), (105, .el (dbyte x21)), (107, .bit true), (109, .int (w7.length : Int)), (110, .bit false), (113, .str w7)] [] [.live [2, 3], .keep [2]] (And.intro (elem_map dbyte h36) (And.intro h37 (And.intro (len_map dbyte s0) (And.intro h40 (And.intro (elem_map dbyte h41) (And.intro h42 (And.intro (elem_map dbyte h43) (And.intro h44 (And.intro (elem_map dbyte h45) (And.intro h46 (And.intro (len_map dbyte w7) (And.intro h47 (And.intro (rfl : w7.map dbyte = w7.map dbyte) (True.intro)))))))))))))) (by kernel_rfl)).lp
          · skip
            replace h := chkE_some h
            obtain ⟨h48, h⟩ := h
            obtain rfl := Option.some.inj h
            exact (runB_arr mixed [(70, .el (dbyte x17)), (72, .bit false), (82, .int (s0.length : Int)), (85, .bit false), (89, .el (dbyte x19)), (92, .bit true), (96, .el (dbyte x20)), (100, .bit false), (105, .el (dbyte x21)), (107, .bit false), (119, .sl ((w7 ++ [(0 : UInt8)]).map dbyte))] [] [.live [0, 2, 4, 7, 8], .keep [2, 4, 119], .ren 119 7] (And.intro (elem_map dbyte h36) (And.intro h37 (And.intro (len_map dbyte s0) (And.intro h40 (And.intro (elem_map dbyte h41) (And.intro h42 (And.intro (elem_map dbyte h43) (And.intro h44 (And.intro (elem_map dbyte h45) (And.intro h46 (And.intro (nc_ok dbyte [(0 : UInt8)]) (And.intro (nc_ok dbyte [(0 : UInt8)]) (And.intro (fit_map dbyte h48) (And.intro (app_map dbyte w7 [(0 : UInt8)]) (True.intro))))))))))))))) (by kernel_rfl)).lp
      · skip
        replace h := idxE_some h
        obtain ⟨x22, h49, h⟩ := h
        replace h := iteE_some h
        rcases h with ⟨h50, h⟩ | ⟨h50, h⟩
        · skip
          replace h := iteE_some h
          rcases h with ⟨h51, h⟩ | ⟨h51, h⟩
          · skip
            obtain rfl := Option.some.inj h
            exact (runB_arr mixed [(70, .el (dbyte x17)), (72, .bit false), (82, .int (s0.length : Int)), (85, .bit false), (89, .el (dbyte x19)), (92, .bit false), (105, .el (dbyte x22)), (107, .bit true), (109, .int (w7.length : Int)), (110, .bit true)] [] [.live [2, 3], .keep [2]] (And.intro (elem_map dbyte h36) (And.intro h37 (And.intro (len_map dbyte s0) (And.intro h40 (And.intro (elem_map dbyte h41) (And.intro h42 (And.intro (elem_map dbyte h49) (And.intro h50 (And.intro (len_map dbyte w7) (And.intro h51 (True.intro))))))))))) (by kernel_rfl)).lp
          · skip
            obtain rfl := Option.some.inj h
            exact (runB_arr mixed [(70, .el (dbyte x17)), (72, .bit false), (82, .int (s0.length : Int)), (85, .bit false), (89, .el (dbyte x19)), (92, .bit false), (105, .el (dbyte x22)), (107, .bit true), (109, .int (w7.length : Int)), (110, .bit false), (113, .str w7)] [] [.live [2, 3], .keep [2]] (And.intro (elem_map dbyte h36) (And.intro h37 (And.intro (len_map dbyte s0) (And.intro h40 (And.intro (elem_map dbyte h41) (And.intro h42 (And.intro (elem_map dbyte h49) (And.intro h50 (And.intro (len_map dbyte w7) (And.intro h51 (And.intro (rfl : w7.map dbyte = w7.map dbyte) (True.intro)))))))))))) (by kernel_rfl)).lp
        · skip
          replace h := chkE_some h
          obtain ⟨h52, h⟩ := h
          obtain rfl := Option.some.inj h
          exact (runB_arr mixed [(70, .el (dbyte x17)), (72, .bit false), (82, .int (s0.length : Int)), (85, .bit false), (89, .el (dbyte x19)), (92, .bit false), (105, .el (dbyte x22)), (107, .bit false), (119, .sl ((w7 ++ [(0 : UInt8)]).map dbyte))] [] [.live [0, 2, 4, 7, 8], .keep [2, 4, 119], .ren 119 7] (And.intro (elem_map dbyte h36) (And.intro h37 (And.intro (len_map dbyte s0) (And.intro h40 (And.intro (elem_map dbyte h41) (And.intro h42 (And.intro (elem_map dbyte h49) (And.intro h50 (And.intro (nc_ok dbyte [(0 : UInt8)]) (And.intro (nc_ok dbyte [(0 : UInt8)]) (And.intro (fit_map dbyte h52) (And.intro (app_map dbyte w7 [(0 : UInt8)]) (True.intro))))))))))))) (by kernel_rfl)).lp
def ref04_Read_l2_I (s0 : List UInt8) (w2 : TValue) (w4 : TValue) (s8 : Int) (w7 : List UInt8) : St := ⟨sp 123 0 [(0, .d ((D.l dbyte) s0)), (2, .box 2 0), (4, .box 4 0), (7, .row 7), (8, .d ((D.i .i64) s8))], [(2, .cells ((cellsA (TValue.D w2)))), (4, .cells ((cellsA (TValue.D w4)))), (7, .row 5 1 (w7.map dbyte))], []⟩
def ref04_Read_l2_O (s0 : List UInt8) (w2 : TValue) (w4 : TValue) (o : Unit ⊕ (Int × TValue)) : Ex × St := match o with
  | .inl o => (.exit 2, ⟨sp 123 0 [(2, .box 2 0), (4, .box 4 0)], [(2, .cells ((cellsA (TValue.D w2)))), (4, .cells ((cellsA (TValue.D w4))))], []⟩)
  | .inr o => (.ret, ⟨sp 123 0 [(2, .box 2 0), (3, .d ((D.i .i64) o.1))], [(2, .cells ((cellsA (TValue.D o.2))))], []⟩)
def ref04_Read_l2_R (s0 : List UInt8) (w2 : TValue) (w4 : TValue) (o : (Int × List UInt8) ⊕ (Unit ⊕ (Int × TValue))) : Ex × St := match o with
  | .inl s => (.normal, ref04_Read_l2_I s0 w2 w4 s.1 s.2)
  | .inr t => ref04_Read_l2_O s0 w2 w4 t
theorem ref04_Read_l2_rnd (s0 : List UInt8) (w2 : TValue) (w4 : TValue) (s8 : Int) (w7 : List UInt8) (o : (Int × List UInt8) ⊕ (Unit ⊕ (Int × TValue))) (h : ref04_Read_l2_s s0 w2 w4 s8 w7 = some o) : Arr Try.prog none (fbody Try.prog 14) (0 :: [0, 1, 0, 1, 1, 1, 1, 1, 1, 1]) (ref04_Read_l2_I s0 w2 w4 s8 w7) (ref04_Read_l2_R s0 w2 w4 o).1 (ref04_Read_l2_R s0 w2 w4 o).2 := by
  unfold ref04_Read_l2_s at h
  replace h := iteE_some h
  rcases h with ⟨h35, h⟩ | ⟨h35, h⟩
  · skip
    replace h := bndE_some h
    obtain ⟨o23, h53, h⟩ := h
    replace h := sumE_some h
    rcases h with ⟨o24, rfl, h⟩ | ⟨o25, rfl, h⟩
    · skip
      obtain rfl := Option.some.inj h
      exact runB_arr mixed [(64, .int (s0.length : Int)), (65, .bit true)] [⟨[0, 1, 0, 0, 1, 0, 1, 1, 1, 1, 1, 1, 1], [.live [0, 2, 4, 7, 8], .keep [2, 4, 7]], .normal, (ref04_Read_b4_O s0 s8 w2 w4 w7 (Sum.inl o24)).2⟩] [.live [0, 2, 4, 7, 8], .keep [2, 4, 7]] (And.intro (len_map dbyte s0) (And.intro h35 (And.intro (ref04_Read_b4_ok s0 s8 w2 w4 w7 (Sum.inl o24) h53) (True.intro)))) (by kernel_rfl)
    · skip
      obtain rfl := Option.some.inj h
      exact runB_arr mixed [(64, .int (s0.length : Int)), (65, .bit true)] [⟨[0, 1, 0, 0, 1, 0, 1, 1, 1, 1, 1, 1, 1], [.live [0, 2, 4, 7, 8], .keep [2, 4, 7]], .ret, (ref04_Read_b4_O s0 s8 w2 w4 w7 (Sum.inr o25)).2⟩] [.live [2, 3], .keep [2]] (And.intro (len_map dbyte s0) (And.intro h35 (And.intro (ref04_Read_b4_ok s0 s8 w2 w4 w7 (Sum.inr o25) h53) (True.intro)))) (by kernel_rfl)
  · skip
    obtain rfl := Option.some.inj h
    exact runB_arr mixed [(64, .int (s0.length : Int)), (65, .bit false)] [] [.live [2, 4], .keep [2, 4]] (And.intro (len_map dbyte s0) (And.intro h35 (True.intro))) (by kernel_rfl)
theorem ref04_Read_l2_ok (s0 : List UInt8) (w2 : TValue) (w4 : TValue) (s8 : Int) (w7 : List UInt8) (t : Unit ⊕ (Int × TValue)) (h : ref04_Read_l2 s0 w2 w4 s8 w7 = some t) : LpOf Try.prog none (fbody Try.prog 14) [0, 1, 0, 1, 1, 1, 1, 1, 1, 1] (ref04_Read_l2_I s0 w2 w4 s8 w7) (ref04_Read_l2_O s0 w2 w4 t).1 (ref04_Read_l2_O s0 w2 w4 t).2 :=
  loopE_lp (I := fun s => ref04_Read_l2_I s0 w2 w4 s.1 s.2) (O := ref04_Read_l2_O s0 w2 w4) (by kernel_rfl) (fun t => isN_ne (by rcases t with (_ | _) <;> rfl)) (fun s s' h => ref04_Read_l2_rnd s0 w2 w4 s.1 s.2 (.inl s') h) (fun s t h => ref04_Read_l2_rnd s0 w2 w4 s.1 s.2 (.inr t) h) h
theorem ref04_Read_ok (a0 : List UInt8) (r : TValue × Int) (h : ref04_Read a0 = some r) : ACall Try.prog 14 [.d ((D.l dbyte) a0)] [] (.tup [.d (TValue.D r.1), .d ((D.i .i64) r.2)]) [] := by
  unfold ref04_Read at h
  replace h := iteE_some h
  rcases h with ⟨h1, h⟩ | ⟨h1, h⟩
  · skip
    obtain rfl := Option.some.inj h
    exact runF_call mixed [(11, .int (a0.length : Int)), (12, .bit true)] [] [] (And.intro (len_map dbyte a0) (And.intro h1 (True.intro))) (by kernel_rfl)
  · skip
    replace h := idxE_some h
    obtain ⟨x1, h2, h⟩ := h
    replace h := iteE_some h
    rcases h with ⟨h3, h⟩ | ⟨h3, h⟩
    · skip
      replace h := iteE_some h
      rcases h with ⟨h4, h⟩ | ⟨h4, h⟩
      · skip
        obtain rfl := Option.some.inj h
        exact runF_call mixed [(11, .int (a0.length : Int)), (12, .bit false), (15, .el (dbyte x1)), (17, .bit true), (19, .int (a0.length : Int)), (21, .bit true)] [] [] (And.intro (len_map dbyte a0) (And.intro h1 (And.intro (elem_map dbyte h2) (And.intro h3 (And.intro (len_map dbyte a0) (And.intro h4 (True.intro))))))) (by kernel_rfl)
      · skip
        replace h := idxE_some h
        obtain ⟨x2, h5, h⟩ := h
        replace h := iteE_some h
        rcases h with ⟨h6, h⟩ | ⟨h6, h⟩
        · skip
          obtain rfl := Option.some.inj h
          exact runF_call mixed [(11, .int (a0.length : Int)), (12, .bit false), (15, .el (dbyte x1)), (17, .bit true), (19, .int (a0.length : Int)), (21, .bit false), (23, .el (dbyte x2)), (26, .bit true)] [] [] (And.intro (len_map dbyte a0) (And.intro h1 (And.intro (elem_map dbyte h2) (And.intro h3 (And.intro (len_map dbyte a0) (And.intro h4 (And.intro (elem_map dbyte h5) (And.intro h6 (True.intro))))))))) (by kernel_rfl)
        · skip
          replace h := idxE_some h
          obtain ⟨x3, h7, h⟩ := h
          obtain rfl := Option.some.inj h
          exact runF_call mixed [(11, .int (a0.length : Int)), (12, .bit false), (15, .el (dbyte x1)), (17, .bit true), (19, .int (a0.length : Int)), (21, .bit false), (23, .el (dbyte x2)), (26, .bit false), (29, .el (dbyte x3))] [] [] (And.intro (len_map dbyte a0) (And.intro h1 (And.intro (elem_map dbyte h2) (And.intro h3 (And.intro (len_map dbyte a0) (And.intro h4 (And.intro (elem_map dbyte h5) (And.intro h6 (And.intro (elem_map dbyte h7) (True.intro)))))))))) (by kernel_rfl)
    · skip
      replace h := idxE_some h
      obtain ⟨x4, h8, h⟩ := h
      replace h := iteE_some h
      rcases h with ⟨h9, h⟩ | ⟨h9, h⟩
      · skip
        replace h := iteE_some h
        rcases h with ⟨h10, h⟩ | ⟨h10, h⟩
        · skip
          obtain rfl := Option.some.inj h
          exact runF_call mixed [(11, .int (a0.length : Int)), (12, .bit false), (15, .el (dbyte x1)), (17, .bit false), (34, .el (dbyte x4)), (36, .bit true), (38, .int (a0.length : Int)), (39, .bit true)] [] [] (And.intro (len_map dbyte a0) (And.intro h1 (And.intro (elem_map dbyte h2) (And.intro h3 (And.intro (elem_map dbyte h8) (And.intro h9 (And.intro (len_map dbyte a0) (And.intro h10 (True.intro))))))))) (by kernel_rfl)
        · skip
          replace h := bndE_some h
          obtain ⟨o6, h13, h⟩ := h
          obtain rfl := Option.some.inj h
          exact runF_call mixed [(11, .int (a0.length : Int)), (12, .bit false), (15, .el (dbyte x1)), (17, .bit false), (34, .el (dbyte x4)), (36, .bit true), (38, .int (a0.length : Int)), (39, .bit false)] [⟨[0, 1, 0, 1, 1, 0, 1, 0, 1, 1, 1, 1], [.live [0, 2, 5, 6], .keep [2]], .exit 0, (ref04_Read_l1_O a0 (TValue.mk 0 0 ([] : List UInt8) false) o6).2⟩] [] (And.intro (len_map dbyte a0) (And.intro h1 (And.intro (elem_map dbyte h2) (And.intro h3 (And.intro (elem_map dbyte h8) (And.intro h9 (And.intro (len_map dbyte a0) (And.intro h10 (And.intro (ref04_Read_l1_ok a0 (TValue.mk 0 0 ([] : List UInt8) false) 0 1 o6 h13) (True.intro)))))))))) (by kernel_rfl)
      · skip
        replace h := idxE_some h
        obtain ⟨x7, h14, h⟩ := h
        replace h := iteE_some h
        rcases h with ⟨h15, h⟩ | ⟨h15, h⟩
        · skip
          obtain rfl := Option.some.inj h
          exact runF_call mixed [(11, .int (a0.length : Int)), (12, .bit false), (15, .el (dbyte x1)), (17, .bit false), (34, .el (dbyte x4)), (36, .bit false), (58, .el (dbyte x7)), (60, .bit true)] [] [] (And.intro (len_map dbyte a0) (And.intro h1 (And.intro (elem_map dbyte h2) (And.intro h3 (And.intro (elem_map dbyte h8) (And.intro h9 (And.intro (elem_map dbyte h14) (And.intro h15 (True.intro))))))))) (by kernel_rfl)
        · skip
          replace h := bndE_some h
          obtain ⟨o26, h54, h⟩ := h
          replace h := sumE_some h
          rcases h with ⟨o27, rfl, h⟩ | ⟨o28, rfl, h⟩
          · skip
            obtain rfl := Option.some.inj h
            exact runF_call mixed [(11, .int (a0.length : Int)), (12, .bit false), (15, .el (dbyte x1)), (17, .bit false), (34, .el (dbyte x4)), (36, .bit false), (58, .el (dbyte x7)), (60, .bit false)] [⟨[0, 1, 0, 1, 1, 1, 1, 1, 1, 1], [.live [0, 2, 4, 7, 8], .keep [2, 4], .nil 7 7 5 1], .exit 2, (ref04_Read_l2_O a0 (TValue.mk 0 0 ([] : List UInt8) false) (TValue.mk 0 0 ([] : List UInt8) false) (Sum.inl o27)).2⟩] [] (And.intro (len_map dbyte a0) (And.intro h1 (And.intro (elem_map dbyte h2) (And.intro h3 (And.intro (elem_map dbyte h8) (And.intro h9 (And.intro (elem_map dbyte h14) (And.intro h15 (And.intro (ref04_Read_l2_ok a0 (TValue.mk 0 0 ([] : List UInt8) false) (TValue.mk 0 0 ([] : List UInt8) false) 1 ([] : List UInt8) (Sum.inl o27) h54) (True.intro)))))))))) (by kernel_rfl)
          · skip
            obtain rfl := Option.some.inj h
            exact runF_call mixed [(11, .int (a0.length : Int)), (12, .bit false), (15, .el (dbyte x1)), (17, .bit false), (34, .el (dbyte x4)), (36, .bit false), (58, .el (dbyte x7)), (60, .bit false)] [⟨[0, 1, 0, 1, 1, 1, 1, 1, 1, 1], [.live [0, 2, 4, 7, 8], .keep [2, 4], .nil 7 7 5 1], .ret, (ref04_Read_l2_O a0 (TValue.mk 0 0 ([] : List UInt8) false) (TValue.mk 0 0 ([] : List UInt8) false) (Sum.inr o28)).2⟩] [] (And.intro (len_map dbyte a0) (And.intro h1 (And.intro (elem_map dbyte h2) (And.intro h3 (And.intro (elem_map dbyte h8) (And.intro h9 (And.intro (elem_map dbyte h14) (And.intro h15 (And.intro (ref04_Read_l2_ok a0 (TValue.mk 0 0 ([] : List UInt8) false) (TValue.mk 0 0 ([] : List UInt8) false) 1 ([] : List UInt8) (Sum.inr o28) h54) (True.intro)))))))))) (by kernel_rfl)
theorem law04_KeyCuts_ok (a0 : List UInt8) (r : Bool) (h : law04_KeyCuts a0 = some r) : ACall Try.prog 4 [.d ((D.l dbyte) a0)] [] (.d (D.b r)) [] := by
  unfold law04_KeyCuts at h
  replace h := iteE_some h
  rcases h with ⟨h1, h⟩ | ⟨h1, h⟩
  · skip
    replace h := bndE_some h
    obtain ⟨r1, h2, h⟩ := h
    obtain rfl := Option.some.inj h
    exact runF_call mixed [(9, .int (a0.length : Int)), (10, .bit true), (11, .ret (.d (D.b r1)))] [] [] (And.intro (len_map dbyte a0) (And.intro h1 (And.intro (law04_awake_ok r1 h2) (True.intro)))) (by kernel_rfl)
  · skip
    replace h := bndE_some h
    obtain ⟨r2, h3, h⟩ := h
    replace h := bndE_some h
    obtain ⟨r3, h4, h⟩ := h
    replace h := iteE_some h
    rcases h with ⟨h5, h⟩ | ⟨h5, h⟩
    · skip
      replace h := iteE_some h
      rcases h with ⟨h6, h⟩ | ⟨h6, h⟩
      · skip
        replace h := iteE_some h
        rcases h with ⟨h7, h⟩ | ⟨h7, h⟩
        · skip
          replace h := iteE_some h
          rcases h with ⟨h8, h⟩ | ⟨h8, h⟩
          · skip
            replace h := bndE_some h
            obtain ⟨r4, h9, h⟩ := h
            obtain rfl := Option.some.inj h
            exact runF_call mixed [(9, .int (a0.length : Int)), (10, .bit false), (14, .ret (.tup [.d (TValue.D r2.1), .d ((D.i .i64) r2.2.1), .d (D.b r2.2.2)])), (20, .ret (.tup [.d (TValue.D r3.1), .d ((D.i .i64) r3.2)])), (26, .bit true), (31, .bit true), (37, .bit true), (40, .bit true), (53, .ret (.d (D.b r4)))] [] [] (And.intro (len_map dbyte a0) (And.intro h1 (And.intro (key_Cut_ok a0 r2 h3) (And.intro (ref04_Read_ok a0 r3 h4) (And.intro h5 (And.intro h6 (And.intro h7 (And.intro h8 (And.intro (law04_awake_ok r4 h9) (True.intro)))))))))) (by kernel_rfl)
          · skip
            replace h := bndE_some h
            obtain ⟨r5, h10, h⟩ := h
            replace h := chkE_some h
            obtain ⟨h11, h⟩ := h
            replace h := iteE_some h
            rcases h with ⟨h12, h⟩ | ⟨h12, h⟩
            · skip
              replace h := bndE_some h
              obtain ⟨r6, h13, h⟩ := h
              obtain rfl := Option.some.inj h
              exact runF_call mixed [(9, .int (a0.length : Int)), (10, .bit false), (14, .ret (.tup [.d (TValue.D r2.1), .d ((D.i .i64) r2.2.1), .d (D.b r2.2.2)])), (20, .ret (.tup [.d (TValue.D r3.1), .d ((D.i .i64) r3.2)])), (26, .bit true), (31, .bit true), (37, .bit true), (40, .bit false), (43, .ret (.d ((D.l dbyte) r5))), (44, .str r5), (47, .sl ((sub a0 0 r3.2).map dbyte)), (48, .str (sub a0 0 r3.2)), (52, .bit true), (53, .ret (.d (D.b r6)))] [] [] (And.intro (len_map dbyte a0) (And.intro h1 (And.intro (key_Cut_ok a0 r2 h3) (And.intro (ref04_Read_ok a0 r3 h4) (And.intro h5 (And.intro h6 (And.intro h7 (And.intro h8 (And.intro (nc_ok TValue.D [r2.1]) (And.intro (key_Of_ok [r2.1] r5 h10) (And.intro (rfl : r5.map dbyte = r5.map dbyte) (And.intro (cut_some dbyte h11) (And.intro (rfl : (sub a0 0 r3.2).map dbyte = (sub a0 0 r3.2).map dbyte) (And.intro h12 (And.intro (law04_awake_ok r6 h13) (True.intro)))))))))))))))) (by kernel_rfl)
            · skip
              obtain rfl := Option.some.inj h
              exact runF_call mixed [(9, .int (a0.length : Int)), (10, .bit false), (14, .ret (.tup [.d (TValue.D r2.1), .d ((D.i .i64) r2.2.1), .d (D.b r2.2.2)])), (20, .ret (.tup [.d (TValue.D r3.1), .d ((D.i .i64) r3.2)])), (26, .bit true), (31, .bit true), (37, .bit true), (40, .bit false), (43, .ret (.d ((D.l dbyte) r5))), (44, .str r5), (47, .sl ((sub a0 0 r3.2).map dbyte)), (48, .str (sub a0 0 r3.2)), (52, .bit false)] [] [] (And.intro (len_map dbyte a0) (And.intro h1 (And.intro (key_Cut_ok a0 r2 h3) (And.intro (ref04_Read_ok a0 r3 h4) (And.intro h5 (And.intro h6 (And.intro h7 (And.intro h8 (And.intro (nc_ok TValue.D [r2.1]) (And.intro (key_Of_ok [r2.1] r5 h10) (And.intro (rfl : r5.map dbyte = r5.map dbyte) (And.intro (cut_some dbyte h11) (And.intro (rfl : (sub a0 0 r3.2).map dbyte = (sub a0 0 r3.2).map dbyte) (And.intro h12 (True.intro))))))))))))))) (by kernel_rfl)
        · skip
          obtain rfl := Option.some.inj h
          exact runF_call mixed [(9, .int (a0.length : Int)), (10, .bit false), (14, .ret (.tup [.d (TValue.D r2.1), .d ((D.i .i64) r2.2.1), .d (D.b r2.2.2)])), (20, .ret (.tup [.d (TValue.D r3.1), .d ((D.i .i64) r3.2)])), (26, .bit true), (31, .bit true), (37, .bit false)] [] [] (And.intro (len_map dbyte a0) (And.intro h1 (And.intro (key_Cut_ok a0 r2 h3) (And.intro (ref04_Read_ok a0 r3 h4) (And.intro h5 (And.intro h6 (And.intro h7 (True.intro)))))))) (by kernel_rfl)
      · skip
        obtain rfl := Option.some.inj h
        exact runF_call mixed [(9, .int (a0.length : Int)), (10, .bit false), (14, .ret (.tup [.d (TValue.D r2.1), .d ((D.i .i64) r2.2.1), .d (D.b r2.2.2)])), (20, .ret (.tup [.d (TValue.D r3.1), .d ((D.i .i64) r3.2)])), (26, .bit true), (31, .bit false)] [] [] (And.intro (len_map dbyte a0) (And.intro h1 (And.intro (key_Cut_ok a0 r2 h3) (And.intro (ref04_Read_ok a0 r3 h4) (And.intro h5 (And.intro h6 (True.intro))))))) (by kernel_rfl)
    · skip
      obtain rfl := Option.some.inj h
      exact runF_call mixed [(9, .int (a0.length : Int)), (10, .bit false), (14, .ret (.tup [.d (TValue.D r2.1), .d ((D.i .i64) r2.2.1), .d (D.b r2.2.2)])), (20, .ret (.tup [.d (TValue.D r3.1), .d ((D.i .i64) r3.2)])), (26, .bit false)] [] [] (And.intro (len_map dbyte a0) (And.intro h1 (And.intro (key_Cut_ok a0 r2 h3) (And.intro (ref04_Read_ok a0 r3 h4) (And.intro h5 (True.intro)))))) (by kernel_rfl)
def key_Read_l1_I (s0 : List UInt8) (w4 : List TValue) : St := ⟨sp 25 0 [(0, .d ((D.l dbyte) s0)), (4, .row 4)], [(4, .row 30 4 (w4.map TValue.D))], []⟩
def key_Read_l1_O (o : (List TValue) ⊕ Unit) : Ex × St := match o with
  | .inl o => (.exit 0, ⟨sp 25 0 [(4, .row 4)], [(4, .row 30 4 (o.map TValue.D))], []⟩)
  | .inr o => (.ret, ⟨sp 25 0 [(2, .nil), (3, .d (D.b false))], [], []⟩)
def key_Read_l1_R (o : (List UInt8 × List TValue) ⊕ ((List TValue) ⊕ Unit)) : Ex × St := match o with
  | .inl s => (.normal, key_Read_l1_I s.1 s.2)
  | .inr t => key_Read_l1_O t
theorem key_Read_l1_rnd (s0 : List UInt8) (w4 : List TValue) (o : (List UInt8 × List TValue) ⊕ ((List TValue) ⊕ Unit)) (h : key_Read_l1_s s0 w4 = some o) : Arr Try.prog none (fbody Try.prog 15) (0 :: [0, 0, 1, 1]) (key_Read_l1_I s0 w4) (key_Read_l1_R o).1 (key_Read_l1_R o).2 := by
  unfold key_Read_l1_s at h
  replace h := iteE_some h
  rcases h with ⟨h6, h⟩ | ⟨h6, h⟩
  · skip
    replace h := bndE_some h
    obtain ⟨r2, h7, h⟩ := h
    replace h := iteE_some h
    rcases h with ⟨h8, h⟩ | ⟨h8, h⟩
    · skip
      obtain rfl := Option.some.inj h
      exact runB_arr mixed [(8, .int (s0.length : Int)), (9, .bit true), (12, .ret (.tup [.d (TValue.D r2.1), .d ((D.i .i64) r2.2)])), (16, .bit true)] [] [.live [2, 3], .keep []] (And.intro (len_map dbyte s0) (And.intro h6 (And.intro (key_cut_ok s0 r2 h7) (And.intro h8 (True.intro))))) (by kernel_rfl)
    · skip
      replace h := chkE_some h
      obtain ⟨h9, h⟩ := h
      replace h := chkE_some h
      obtain ⟨h10, h⟩ := h
      obtain rfl := Option.some.inj h
      exact runB_arr mixed [(8, .int (s0.length : Int)), (9, .bit true), (12, .ret (.tup [.d (TValue.D r2.1), .d ((D.i .i64) r2.2)])), (16, .bit false), (20, .sl ((w4 ++ [r2.1]).map TValue.D)), (23, .sl ((sub s0 r2.2 (s0.length : Int)).map dbyte))] [] [.live [0, 4], .keep [20], .ren 20 4] (And.intro (len_map dbyte s0) (And.intro h6 (And.intro (key_cut_ok s0 r2 h7) (And.intro h8 (And.intro (nc_ok TValue.D [r2.1]) (And.intro (nc_ok TValue.D [r2.1]) (And.intro (fit_map TValue.D h9) (And.intro (app_map TValue.D w4 [r2.1]) (And.intro (cut_none dbyte h10) (True.intro)))))))))) (by kernel_rfl)
  · skip
    obtain rfl := Option.some.inj h
    exact runB_arr mixed [(8, .int (s0.length : Int)), (9, .bit false)] [] [.live [4], .keep [4]] (And.intro (len_map dbyte s0) (And.intro h6 (True.intro))) (by kernel_rfl)
theorem key_Read_l1_ok (s0 : List UInt8) (w4 : List TValue) (t : (List TValue) ⊕ Unit) (h : key_Read_l1 s0 w4 = some t) : LpOf Try.prog none (fbody Try.prog 15) [0, 0, 1, 1] (key_Read_l1_I s0 w4) (key_Read_l1_O t).1 (key_Read_l1_O t).2 :=
  loopE_lp (I := fun s => key_Read_l1_I s.1 s.2) (O := key_Read_l1_O) (by kernel_rfl) (fun t => isN_ne (by rcases t with (_ | _) <;> rfl)) (fun s s' h => key_Read_l1_rnd s.1 s.2 (.inl s') h) (fun s t h => key_Read_l1_rnd s.1 s.2 (.inr t) h) h
theorem key_Read_ok (a0 : List UInt8) (r : List TValue × Bool) (h : key_Read a0 = some r) : ACall Try.prog 15 [.d ((D.l dbyte) a0)] [] (.tup [.d ((D.l TValue.D) r.1), .d (D.b r.2)]) [] := by
  unfold key_Read at h
  replace h := bndE_some h
  obtain ⟨o3, h11, h⟩ := h
  replace h := sumE_some h
  rcases h with ⟨o4, rfl, h⟩ | ⟨o5, rfl, h⟩
  · skip
    obtain rfl := Option.some.inj h
    exact runF_call mixed [] [⟨[0, 0, 1, 1], [.live [0, 4], .keep [], .nil 4 4 30 4], .exit 0, (key_Read_l1_O (Sum.inl o4)).2⟩] [] (And.intro (key_Read_l1_ok a0 ([] : List TValue) (Sum.inl o4) h11) (True.intro)) (by kernel_rfl)
  · skip
    obtain rfl := Option.some.inj h
    exact runF_call mixed [] [⟨[0, 0, 1, 1], [.live [0, 4], .keep [], .nil 4 4 30 4], .ret, (key_Read_l1_O (Sum.inr o5)).2⟩] [] (And.intro (key_Read_l1_ok a0 ([] : List TValue) (Sum.inr o5) h11) (True.intro)) (by kernel_rfl)
def ref04_Key_b3_I (s4 : Int) (s44 : Bool) (w1 : TValue) (w3 : List UInt8) : St := ⟨sp 70 0 [(1, .box 1 0), (3, .row 3), (4, .d ((D.i .i64) s4)), (44, .d (D.b s44))], [(1, .cells ((cellsA (TValue.D w1)))), (3, .row 5 1 (w3.map dbyte))], []⟩
def ref04_Key_b3_O (s4 : Int) (s44 : Bool) (w1 : TValue) (w3 : List UInt8) (o : (List UInt8)) : Ex × St := (.normal, ⟨sp 70 0 [(1, .box 1 0), (3, .row 3), (4, .d ((D.i .i64) s4))], [(1, .cells ((cellsA (TValue.D w1)))), (3, .row 5 1 (o.map dbyte))], []⟩)
theorem ref04_Key_b3_ok (s4 : Int) (s44 : Bool) (w1 : TValue) (w3 : List UInt8) (o : (List UInt8)) (h : ref04_Key_b3 s4 s44 w1 w3 = some o) : LpOf Try.prog none (fbody Try.prog 22) [1, 1, 0, 0, 1, 0, 0, 1, 0, 0, 1, 0, 1, 1, 1] (ref04_Key_b3_I s4 s44 w1 w3) (ref04_Key_b3_O s4 s44 w1 w3 o).1 (ref04_Key_b3_O s4 s44 w1 w3 o).2 := by
  unfold ref04_Key_b3 at h
  cases s44 with
  | true =>
    replace h := iteT h
    replace h := chkE_some h
    obtain ⟨h11, h⟩ := h
    obtain rfl := Option.some.inj h
    exact (runB_arr mixed [(47, .sl ((w3 ++ [(255 : UInt8)]).map dbyte))] [] [.live [1, 3, 4], .keep [1, 47], .ren 47 3] (And.intro (nc_ok dbyte [(255 : UInt8)]) (And.intro (nc_ok dbyte [(255 : UInt8)]) (And.intro (fit_map dbyte h11) (And.intro (app_map dbyte w3 [(255 : UInt8)]) (True.intro))))) (by kernel_rfl)).lp
  | false =>
    replace h := iteF h
    obtain rfl := Option.some.inj h
    exact (runB_arr mixed [] [] [.live [1, 3, 4], .keep [1, 3]] (True.intro) (by kernel_rfl)).lp
def ref04_Key_b2_I (s4 : Int) (w1 : TValue) (w3 : List UInt8) : St := ⟨sp 70 0 [(1, .box 1 0), (3, .row 3), (4, .d ((D.i .i64) s4))], [(1, .cells ((cellsA (TValue.D w1)))), (3, .row 5 1 (w3.map dbyte))], []⟩
def ref04_Key_b2_O (s4 : Int) (w1 : TValue) (w3 : List UInt8) (o : (List UInt8)) : Ex × St := (.normal, ⟨sp 70 0 [(1, .box 1 0), (3, .row 3), (4, .d ((D.i .i64) s4))], [(1, .cells ((cellsA (TValue.D w1)))), (3, .row 5 1 (o.map dbyte))], []⟩)
theorem ref04_Key_b2_ok (s4 : Int) (w1 : TValue) (w3 : List UInt8) (o : (List UInt8)) (h : ref04_Key_b2 s4 w1 w3 = some o) : LpOf Try.prog none (fbody Try.prog 22) [0, 1, 0, 0, 1, 0, 0, 1, 0, 1, 1, 1] (ref04_Key_b2_I s4 w1 w3) (ref04_Key_b2_O s4 w1 w3 o).1 (ref04_Key_b2_O s4 w1 w3 o).2 := by
  unfold ref04_Key_b2 at h
  replace h := idxE_some h
  obtain ⟨x1, h7, h⟩ := h
  replace h := chkE_some h
  obtain ⟨h8, h⟩ := h
  replace h := idxE_some h
  obtain ⟨x2, h9, h⟩ := h
  replace h := bndE_some h
  obtain ⟨o3, h12, h⟩ := h
  obtain rfl := Option.some.inj h
  exact (runB_arr mixed [(37, .int x1.toNat), (39, .sl ((w3 ++ [x1]).map dbyte)), (43, .int x2.toNat)] [⟨[1, 1, 0, 0, 1, 0, 0, 1, 0, 0, 1, 0, 1, 1, 1], [.live [1, 3, 4, 44], .keep [1, 39], .ren 39 3], .normal, (ref04_Key_b3_O s4 (decide ((x2.toNat : Int) = ((0 : UInt8).toNat : Int))) w1 (w3 ++ [x1]) o3).2⟩] [.live [1, 3, 4], .keep [1, 3]] (And.intro (byte_ok h7) (And.intro (nc_ok dbyte [x1]) (And.intro (nc_ok dbyte [x1]) (And.intro (fit_map dbyte h8) (And.intro (app_map dbyte w3 [x1]) (And.intro (byte_ok h9) (And.intro (ref04_Key_b3_ok s4 (decide ((x2.toNat : Int) = ((0 : UInt8).toNat : Int))) w1 (w3 ++ [x1]) o3 h12) (True.intro)))))))) (by kernel_rfl)).lp
def ref04_Key_l1_I (w1 : TValue) (s4 : Int) (w3 : List UInt8) : St := ⟨sp 70 0 [(1, .box 1 0), (3, .row 3), (4, .d ((D.i .i64) s4))], [(1, .cells ((cellsA (TValue.D w1)))), (3, .row 5 1 (w3.map dbyte))], []⟩
def ref04_Key_l1_O (w1 : TValue) (o : (List UInt8)) : Ex × St := (.exit 0, ⟨sp 70 0 [(3, .row 3)], [(3, .row 5 1 (o.map dbyte))], []⟩)
def ref04_Key_l1_R (w1 : TValue) (o : (Int × List UInt8) ⊕ ((List UInt8))) : Ex × St := match o with
  | .inl s => (.normal, ref04_Key_l1_I w1 s.1 s.2)
  | .inr t => ref04_Key_l1_O w1 t
theorem ref04_Key_l1_rnd (w1 : TValue) (s4 : Int) (w3 : List UInt8) (o : (Int × List UInt8) ⊕ ((List UInt8))) (h : ref04_Key_l1_s w1 s4 w3 = some o) : Arr Try.prog none (fbody Try.prog 22) (0 :: [0, 1, 0, 0, 1, 0, 1, 1, 1]) (ref04_Key_l1_I w1 s4 w3) (ref04_Key_l1_R w1 o).1 (ref04_Key_l1_R w1 o).2 := by
  unfold ref04_Key_l1_s at h
  replace h := iteE_some h
  rcases h with ⟨h6, h⟩ | ⟨h6, h⟩
  · skip
    replace h := bndE_some h
    obtain ⟨o4, h13, h⟩ := h
    obtain rfl := Option.some.inj h
    exact runB_arr mixed [(29, .int (w1.str.length : Int)), (30, .bit true)] [⟨[0, 1, 0, 0, 1, 0, 0, 1, 0, 1, 1, 1], [.live [1, 3, 4], .keep [1, 3]], .normal, (ref04_Key_b2_O s4 w1 w3 o4).2⟩] [.live [1, 3, 4], .keep [1, 3]] (And.intro (len_str w1.str) (And.intro h6 (And.intro (ref04_Key_b2_ok s4 w1 w3 o4 h13) (True.intro)))) (by kernel_rfl)
  · skip
    obtain rfl := Option.some.inj h
    exact runB_arr mixed [(29, .int (w1.str.length : Int)), (30, .bit false)] [] [.live [3], .keep [3]] (And.intro (len_str w1.str) (And.intro h6 (True.intro))) (by kernel_rfl)
theorem ref04_Key_l1_ok (w1 : TValue) (s4 : Int) (w3 : List UInt8) (t : (List UInt8)) (h : ref04_Key_l1 w1 s4 w3 = some t) : LpOf Try.prog none (fbody Try.prog 22) [0, 1, 0, 0, 1, 0, 1, 1, 1] (ref04_Key_l1_I w1 s4 w3) (ref04_Key_l1_O w1 t).1 (ref04_Key_l1_O w1 t).2 :=
  loopE_lp (I := fun s => ref04_Key_l1_I w1 s.1 s.2) (O := ref04_Key_l1_O w1) (by kernel_rfl) (fun t => isN_ne (by rfl)) (fun s s' h => ref04_Key_l1_rnd w1 s.1 s.2 (.inl s') h) (fun s t h => ref04_Key_l1_rnd w1 s.1 s.2 (.inr t) h) h
def ref04_Key_l4_I (s5 : Int) (s6 : Int) (s7 : Int) (w3 : List UInt8) : St := ⟨sp 70 0 [(3, .row 3), (5, .d ((D.i .u64) s5)), (6, .d ((D.i .u64) s6)), (7, .d ((D.i .i64) s7))], [(3, .row 5 1 (w3.map dbyte))], []⟩
def ref04_Key_l4_O (s5 : Int) (o : (List UInt8)) : Ex × St := (.exit 2, ⟨sp 70 0 [(3, .row 3)], [(3, .row 5 1 (o.map dbyte))], []⟩)
def ref04_Key_l4_R (s5 : Int) (o : (Int × Int × List UInt8) ⊕ ((List UInt8))) : Ex × St := match o with
  | .inl s => (.normal, ref04_Key_l4_I s5 s.1 s.2.1 s.2.2)
  | .inr t => ref04_Key_l4_O s5 t
theorem ref04_Key_l4_rnd (s5 : Int) (s6 : Int) (s7 : Int) (w3 : List UInt8) (o : (Int × Int × List UInt8) ⊕ ((List UInt8))) (h : ref04_Key_l4_s s5 s6 s7 w3 = some o) : Arr Try.prog none (fbody Try.prog 22) (0 :: [0, 1, 0, 1, 1, 1, 1, 1, 1]) (ref04_Key_l4_I s5 s6 s7 w3) (ref04_Key_l4_R s5 o).1 (ref04_Key_l4_R s5 o).2 := by
  unfold ref04_Key_l4_s at h
  replace h := iteE_some h
  rcases h with ⟨h16, h⟩ | ⟨h16, h⟩
  · skip
    replace h := chkE_some h
    obtain ⟨h17, h⟩ := h
    replace h := chkE_some h
    obtain ⟨h18, h⟩ := h
    obtain rfl := Option.some.inj h
    exact runB_arr mixed [(56, .bit true), (64, .int (u8w (intVal .rem .u64 (intVal .quo .u64 s5 s6) 256)).toNat), (66, .sl ((w3 ++ [u8w (intVal .rem .u64 (intVal .quo .u64 s5 s6) 256)]).map dbyte))] [] [.live [3, 5, 6, 7], .keep [66], .ren 66 3] (And.intro h16 (And.intro h17 (And.intro (of_decide_eq_true rfl : (256 : Int) ≠ 0) (And.intro (u8w_ok (intVal .rem .u64 (intVal .quo .u64 s5 s6) 256)) (And.intro (nc_ok dbyte [u8w (intVal .rem .u64 (intVal .quo .u64 s5 s6) 256)]) (And.intro (nc_ok dbyte [u8w (intVal .rem .u64 (intVal .quo .u64 s5 s6) 256)]) (And.intro (fit_map dbyte h18) (And.intro (app_map dbyte w3 [u8w (intVal .rem .u64 (intVal .quo .u64 s5 s6) 256)]) (And.intro (of_decide_eq_true rfl : (256 : Int) ≠ 0) (True.intro)))))))))) (by kernel_rfl)
  · skip
    obtain rfl := Option.some.inj h
    exact runB_arr mixed [(56, .bit false)] [] [.live [3], .keep [3]] (And.intro h16 (True.intro)) (by kernel_rfl)
theorem ref04_Key_l4_ok (s5 : Int) (s6 : Int) (s7 : Int) (w3 : List UInt8) (t : (List UInt8)) (h : ref04_Key_l4 s5 s6 s7 w3 = some t) : LpOf Try.prog none (fbody Try.prog 22) [0, 1, 0, 1, 1, 1, 1, 1, 1] (ref04_Key_l4_I s5 s6 s7 w3) (ref04_Key_l4_O s5 t).1 (ref04_Key_l4_O s5 t).2 :=
  loopE_lp (I := fun s => ref04_Key_l4_I s5 s.1 s.2.1 s.2.2) (O := ref04_Key_l4_O s5) (by kernel_rfl) (fun t => isN_ne (by rfl)) (fun s s' h => ref04_Key_l4_rnd s5 s.1 s.2.1 s.2.2 (.inl s') h) (fun s t h => ref04_Key_l4_rnd s5 s.1 s.2.1 s.2.2 (.inr t) h) h
end Go.Ac
