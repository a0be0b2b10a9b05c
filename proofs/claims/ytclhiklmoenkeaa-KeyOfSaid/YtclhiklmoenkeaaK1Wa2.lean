/-
  Part of a proof: each function of the seat computes what its Lean function says (printed by a program).
-/
import Derived.Test.YtclhiklmoenkeaaK1Wa1
set_option linter.unusedVariables false
set_option linter.unusedSimpArgs false
namespace Go.Ac
open Go.Proofs
theorem ref04_Key_ok (a0 : TValue) (r : List UInt8) (h : ref04_Key a0 = some r) : ACall Try.prog 22 [.d (TValue.D a0)] [] (.d ((D.l dbyte) r)) [] := by
  unfold ref04_Key at h
  replace h := iteE_some h
  rcases h with ⟨h1, h⟩ | ⟨h1, h⟩
  · skip
    replace h := iteE_some h
    rcases h with ⟨h2, h⟩ | ⟨h2, h⟩
    · skip
      replace h := chkE_some h
      obtain ⟨h3, h⟩ := h
      obtain rfl := Option.some.inj h
      exact runF_call mixed [(10, .int (u8w a0.kind).toNat), (14, .bit true), (16, .bit true), (19, .sl (([u8w a0.kind] ++ [(1 : UInt8)]).map dbyte))] [] [] (And.intro (u8w_ok a0.kind) (And.intro (nc_ok dbyte [u8w a0.kind]) (And.intro h1 (And.intro h2 (And.intro (nc_ok dbyte [(1 : UInt8)]) (And.intro (nc_ok dbyte [(1 : UInt8)]) (And.intro (fit_map dbyte h3) (And.intro (app_map dbyte [u8w a0.kind] [(1 : UInt8)]) (True.intro))))))))) (by kernel_rfl)
    · skip
      replace h := chkE_some h
      obtain ⟨h4, h⟩ := h
      obtain rfl := Option.some.inj h
      exact runF_call mixed [(10, .int (u8w a0.kind).toNat), (14, .bit true), (16, .bit false), (22, .sl (([u8w a0.kind] ++ [(0 : UInt8)]).map dbyte))] [] [] (And.intro (u8w_ok a0.kind) (And.intro (nc_ok dbyte [u8w a0.kind]) (And.intro h1 (And.intro h2 (And.intro (nc_ok dbyte [(0 : UInt8)]) (And.intro (nc_ok dbyte [(0 : UInt8)]) (And.intro (fit_map dbyte h4) (And.intro (app_map dbyte [u8w a0.kind] [(0 : UInt8)]) (True.intro))))))))) (by kernel_rfl)
  · skip
    replace h := iteE_some h
    rcases h with ⟨h5, h⟩ | ⟨h5, h⟩
    · skip
      replace h := bndE_some h
      obtain ⟨o5, h14, h⟩ := h
      replace h := chkE_some h
      obtain ⟨h15, h⟩ := h
      obtain rfl := Option.some.inj h
      exact runF_call mixed [(10, .int (u8w a0.kind).toNat), (14, .bit false), (25, .bit true), (50, .sl ((o5 ++ [(0 : UInt8), (1 : UInt8)]).map dbyte))] [⟨[0, 1, 0, 0, 1, 0, 1, 1, 1], [.live [1, 3, 4], .keep [1, 11], .ren 11 3], .exit 0, (ref04_Key_l1_O a0 o5).2⟩] [] (And.intro (u8w_ok a0.kind) (And.intro (nc_ok dbyte [u8w a0.kind]) (And.intro h1 (And.intro h5 (And.intro (ref04_Key_l1_ok a0 0 [u8w a0.kind] o5 h14) (And.intro (nc_ok dbyte [(0 : UInt8), (1 : UInt8)]) (And.intro (nc_ok dbyte [(0 : UInt8), (1 : UInt8)]) (And.intro (fit_map dbyte h15) (And.intro (app_map dbyte o5 [(0 : UInt8), (1 : UInt8)]) (True.intro)))))))))) (by kernel_rfl)
    · skip
      replace h := bndE_some h
      obtain ⟨o6, h19, h⟩ := h
      obtain rfl := Option.some.inj h
      exact runF_call mixed [(10, .int (u8w a0.kind).toNat), (14, .bit false), (25, .bit false)] [⟨[0, 1, 0, 1, 1, 1, 1, 1, 1], [.live [3, 5, 6, 7], .keep [11], .ren 11 3], .exit 2, (ref04_Key_l4_O (intVal .add .u64 (IntKind.wrap .u64 a0.int) 9223372036854775808) o6).2⟩] [] (And.intro (u8w_ok a0.kind) (And.intro (nc_ok dbyte [u8w a0.kind]) (And.intro h1 (And.intro h5 (And.intro (ref04_Key_l4_ok (intVal .add .u64 (IntKind.wrap .u64 a0.int) 9223372036854775808) 72057594037927936 0 [u8w a0.kind] o6 h19) (True.intro)))))) (by kernel_rfl)
def ref04_Keys_l1_I (s0 : List TValue) (s4 : Int) (w3 : List UInt8) : St := ⟨sp 19 0 [(0, .d ((D.l TValue.D) s0)), (3, .row 3), (4, .d ((D.i .i64) s4))], [(3, .row 5 1 (w3.map dbyte))], []⟩
def ref04_Keys_l1_O (s0 : List TValue) (o : (List UInt8)) : Ex × St := (.exit 0, ⟨sp 19 0 [(3, .row 3)], [(3, .row 5 1 (o.map dbyte))], []⟩)
def ref04_Keys_l1_R (s0 : List TValue) (o : (Int × List UInt8) ⊕ ((List UInt8))) : Ex × St := match o with
  | .inl s => (.normal, ref04_Keys_l1_I s0 s.1 s.2)
  | .inr t => ref04_Keys_l1_O s0 t
theorem ref04_Keys_l1_rnd (s0 : List TValue) (s4 : Int) (w3 : List UInt8) (o : (Int × List UInt8) ⊕ ((List UInt8))) (h : ref04_Keys_l1_s s0 s4 w3 = some o) : Arr Try.prog none (fbody Try.prog 16) (0 :: [0, 1, 0, 1, 1]) (ref04_Keys_l1_I s0 s4 w3) (ref04_Keys_l1_R s0 o).1 (ref04_Keys_l1_R s0 o).2 := by
  unfold ref04_Keys_l1_s at h
  replace h := iteE_some h
  rcases h with ⟨h5, h⟩ | ⟨h5, h⟩
  · skip
    replace h := idxE_some h
    obtain ⟨x3, h6, h⟩ := h
    replace h := bndE_some h
    obtain ⟨r4, h7, h⟩ := h
    replace h := chkE_some h
    obtain ⟨h8, h⟩ := h
    obtain rfl := Option.some.inj h
    exact runB_arr mixed [(7, .int (s0.length : Int)), (8, .bit true), (14, .el (TValue.D x3)), (16, .ret (.d ((D.l dbyte) r4))), (17, .sl ((w3 ++ r4).map dbyte))] [] [.live [0, 3, 4], .keep [17], .ren 17 3] (And.intro (len_map TValue.D s0) (And.intro h5 (And.intro (elem_map TValue.D h6) (And.intro (ref04_Key_ok x3 r4 h7) (And.intro (nc_ok dbyte r4) (And.intro (fit_map dbyte h8) (And.intro (app_map dbyte w3 r4) (True.intro)))))))) (by kernel_rfl)
  · skip
    obtain rfl := Option.some.inj h
    exact runB_arr mixed [(7, .int (s0.length : Int)), (8, .bit false)] [] [.live [3], .keep [3]] (And.intro (len_map TValue.D s0) (And.intro h5 (True.intro))) (by kernel_rfl)
theorem ref04_Keys_l1_ok (s0 : List TValue) (s4 : Int) (w3 : List UInt8) (t : (List UInt8)) (h : ref04_Keys_l1 s0 s4 w3 = some t) : LpOf Try.prog none (fbody Try.prog 16) [0, 1, 0, 1, 1] (ref04_Keys_l1_I s0 s4 w3) (ref04_Keys_l1_O s0 t).1 (ref04_Keys_l1_O s0 t).2 :=
  loopE_lp (I := fun s => ref04_Keys_l1_I s0 s.1 s.2) (O := ref04_Keys_l1_O s0) (by kernel_rfl) (fun t => isN_ne (by rfl)) (fun s s' h => ref04_Keys_l1_rnd s0 s.1 s.2 (.inl s') h) (fun s t h => ref04_Keys_l1_rnd s0 s.1 s.2 (.inr t) h) h
theorem ref04_Keys_ok (a0 : List TValue) (r : List UInt8) (h : ref04_Keys a0 = some r) : ACall Try.prog 16 [.d ((D.l TValue.D) a0)] [] (.d ((D.l dbyte) r)) [] := by
  unfold ref04_Keys at h
  replace h := bndE_some h
  obtain ⟨o5, h9, h⟩ := h
  obtain rfl := Option.some.inj h
  exact runF_call mixed [] [⟨[0, 1, 0, 1, 1], [.live [0, 3, 4], .keep [], .nil 3 3 5 1], .exit 0, (ref04_Keys_l1_O a0 o5).2⟩] [] (And.intro (ref04_Keys_l1_ok a0 0 ([] : List UInt8) o5 h9) (True.intro)) (by kernel_rfl)
theorem law04_KeyOf_ok (a0 : List TValue) (r : Bool) (h : law04_KeyOf a0 = some r) : ACall Try.prog 5 [.d ((D.l TValue.D) a0)] [] (.d (D.b r)) [] := by
  unfold law04_KeyOf at h
  replace h := bndE_some h
  obtain ⟨r1, h1, h⟩ := h
  replace h := iteE_some h
  rcases h with ⟨h2, h⟩ | ⟨h2, h⟩
  · skip
    replace h := bndE_some h
    obtain ⟨r2, h3, h⟩ := h
    obtain rfl := Option.some.inj h
    exact runF_call mixed [(8, .ret (.d ((D.i .i64) r1))), (10, .bit true), (11, .ret (.d (D.b r2)))] [] [] (And.intro (law04_right_ok a0 r1 h1) (And.intro h2 (And.intro (law04_awake_ok r2 h3) (True.intro)))) (by kernel_rfl)
  · skip
    replace h := bndE_some h
    obtain ⟨r3, h4, h⟩ := h
    replace h := iteE_some h
    rcases h with ⟨h5, h⟩ | ⟨h5, h⟩
    · skip
      replace h := iteE_some h
      rcases h with ⟨h6, h⟩ | ⟨h6, h⟩
      · skip
        replace h := bndE_some h
        obtain ⟨r4, h7, h⟩ := h
        obtain rfl := Option.some.inj h
        exact runF_call mixed [(8, .ret (.d ((D.i .i64) r1))), (10, .bit false), (13, .ret (.d ((D.l dbyte) r3))), (15, .bit true), (17, .int (r3.length : Int)), (19, .bit true), (20, .ret (.d (D.b r4)))] [] [] (And.intro (law04_right_ok a0 r1 h1) (And.intro h2 (And.intro (key_Of_ok a0 r3 h4) (And.intro h5 (And.intro (len_map dbyte r3) (And.intro h6 (And.intro (law04_awake_ok r4 h7) (True.intro)))))))) (by kernel_rfl)
      · skip
        obtain rfl := Option.some.inj h
        exact runF_call mixed [(8, .ret (.d ((D.i .i64) r1))), (10, .bit false), (13, .ret (.d ((D.l dbyte) r3))), (15, .bit true), (17, .int (r3.length : Int)), (19, .bit false)] [] [] (And.intro (law04_right_ok a0 r1 h1) (And.intro h2 (And.intro (key_Of_ok a0 r3 h4) (And.intro h5 (And.intro (len_map dbyte r3) (And.intro h6 (True.intro))))))) (by kernel_rfl)
    · skip
      replace h := bndE_some h
      obtain ⟨r5, h8, h⟩ := h
      replace h := bndE_some h
      obtain ⟨r6, h9, h⟩ := h
      replace h := iteE_some h
      rcases h with ⟨h10, h⟩ | ⟨h10, h⟩
      · skip
        replace h := iteE_some h
        rcases h with ⟨h11, h⟩ | ⟨h11, h⟩
        · skip
          replace h := bndE_some h
          obtain ⟨r7, h12, h⟩ := h
          replace h := iteE_some h
          rcases h with ⟨h13, h⟩ | ⟨h13, h⟩
          · skip
            replace h := bndE_some h
            obtain ⟨r8, h14, h⟩ := h
            obtain rfl := Option.some.inj h
            exact runF_call mixed [(8, .ret (.d ((D.i .i64) r1))), (10, .bit false), (13, .ret (.d ((D.l dbyte) r3))), (15, .bit false), (24, .ret (.tup [.d ((D.l TValue.D) r5.1), .d (D.b r5.2)])), (28, .str r3), (30, .ret (.d ((D.l dbyte) r6))), (31, .str r6), (33, .bit true), (36, .bit true), (39, .ret (.d (D.b r7))), (41, .bit true), (42, .ret (.d (D.b r8)))] [] [] (And.intro (law04_right_ok a0 r1 h1) (And.intro h2 (And.intro (key_Of_ok a0 r3 h4) (And.intro h5 (And.intro (key_Read_ok r3 r5 h8) (And.intro (rfl : r3.map dbyte = r3.map dbyte) (And.intro (ref04_Keys_ok a0 r6 h9) (And.intro (rfl : r6.map dbyte = r6.map dbyte) (And.intro h10 (And.intro h11 (And.intro (law04_same_ok a0 r5.1 r7 h12) (And.intro h13 (And.intro (law04_awake_ok r8 h14) (True.intro)))))))))))))) (by kernel_rfl)
          · skip
            obtain rfl := Option.some.inj h
            exact runF_call mixed [(8, .ret (.d ((D.i .i64) r1))), (10, .bit false), (13, .ret (.d ((D.l dbyte) r3))), (15, .bit false), (24, .ret (.tup [.d ((D.l TValue.D) r5.1), .d (D.b r5.2)])), (28, .str r3), (30, .ret (.d ((D.l dbyte) r6))), (31, .str r6), (33, .bit true), (36, .bit true), (39, .ret (.d (D.b r7))), (41, .bit false)] [] [] (And.intro (law04_right_ok a0 r1 h1) (And.intro h2 (And.intro (key_Of_ok a0 r3 h4) (And.intro h5 (And.intro (key_Read_ok r3 r5 h8) (And.intro (rfl : r3.map dbyte = r3.map dbyte) (And.intro (ref04_Keys_ok a0 r6 h9) (And.intro (rfl : r6.map dbyte = r6.map dbyte) (And.intro h10 (And.intro h11 (And.intro (law04_same_ok a0 r5.1 r7 h12) (And.intro h13 (True.intro))))))))))))) (by kernel_rfl)
        · skip
          obtain rfl := Option.some.inj h
          exact runF_call mixed [(8, .ret (.d ((D.i .i64) r1))), (10, .bit false), (13, .ret (.d ((D.l dbyte) r3))), (15, .bit false), (24, .ret (.tup [.d ((D.l TValue.D) r5.1), .d (D.b r5.2)])), (28, .str r3), (30, .ret (.d ((D.l dbyte) r6))), (31, .str r6), (33, .bit true), (36, .bit false)] [] [] (And.intro (law04_right_ok a0 r1 h1) (And.intro h2 (And.intro (key_Of_ok a0 r3 h4) (And.intro h5 (And.intro (key_Read_ok r3 r5 h8) (And.intro (rfl : r3.map dbyte = r3.map dbyte) (And.intro (ref04_Keys_ok a0 r6 h9) (And.intro (rfl : r6.map dbyte = r6.map dbyte) (And.intro h10 (And.intro h11 (True.intro))))))))))) (by kernel_rfl)
      · skip
        obtain rfl := Option.some.inj h
        exact runF_call mixed [(8, .ret (.d ((D.i .i64) r1))), (10, .bit false), (13, .ret (.d ((D.l dbyte) r3))), (15, .bit false), (24, .ret (.tup [.d ((D.l TValue.D) r5.1), .d (D.b r5.2)])), (28, .str r3), (30, .ret (.d ((D.l dbyte) r6))), (31, .str r6), (33, .bit false)] [] [] (And.intro (law04_right_ok a0 r1 h1) (And.intro h2 (And.intro (key_Of_ok a0 r3 h4) (And.intro h5 (And.intro (key_Read_ok r3 r5 h8) (And.intro (rfl : r3.map dbyte = r3.map dbyte) (And.intro (ref04_Keys_ok a0 r6 h9) (And.intro (rfl : r6.map dbyte = r6.map dbyte) (And.intro h10 (True.intro)))))))))) (by kernel_rfl)
def law04_KeyReads_l1_I (s0 : List UInt8) (s3 : List TValue) (s4 : Bool) (s6 : Int) (s7 : Bool) (w5 : List TValue) : St := ⟨sp 63 0 [(0, .d ((D.l dbyte) s0)), (3, .d ((D.l TValue.D) s3)), (4, .d (D.b s4)), (5, .row 5), (6, .d ((D.i .i64) s6)), (7, .d (D.b s7))], [(5, .row 30 4 (w5.map TValue.D))], []⟩
def law04_KeyReads_l1_O (s0 : List UInt8) (s3 : List TValue) (s4 : Bool) (o : (Bool × List TValue)) : Ex × St := (.exit 0, ⟨sp 63 0 [(3, .d ((D.l TValue.D) s3)), (4, .d (D.b s4)), (5, .row 5), (7, .d (D.b o.1))], [(5, .row 30 4 (o.2.map TValue.D))], []⟩)
def law04_KeyReads_l1_R (s0 : List UInt8) (s3 : List TValue) (s4 : Bool) (o : (Int × Bool × List TValue) ⊕ ((Bool × List TValue))) : Ex × St := match o with
  | .inl s => (.normal, law04_KeyReads_l1_I s0 s3 s4 s.1 s.2.1 s.2.2)
  | .inr t => law04_KeyReads_l1_O s0 s3 s4 t
theorem law04_KeyReads_l1_rnd (s0 : List UInt8) (s3 : List TValue) (s4 : Bool) (s6 : Int) (s7 : Bool) (w5 : List TValue) (o : (Int × Bool × List TValue) ⊕ ((Bool × List TValue))) (h : law04_KeyReads_l1_s s0 s3 s4 s6 s7 w5 = some o) : Arr Try.prog none (fbody Try.prog 6) (0 :: [0, 0, 1, 1, 1, 1, 1, 1]) (law04_KeyReads_l1_I s0 s3 s4 s6 s7 w5) (law04_KeyReads_l1_R s0 s3 s4 o).1 (law04_KeyReads_l1_R s0 s3 s4 o).2 := by
  unfold law04_KeyReads_l1_s at h
  replace h := iteE_some h
  rcases h with ⟨h9, h⟩ | ⟨h9, h⟩
  · skip
    replace h := iteE_some h
    rcases h with ⟨h10, h⟩ | ⟨h10, h⟩
    · skip
      replace h := chkE_some h
      obtain ⟨h11, h⟩ := h
      replace h := bndE_some h
      obtain ⟨r4, h12, h⟩ := h
      replace h := chkE_some h
      obtain ⟨h13, h⟩ := h
      obtain rfl := Option.some.inj h
      exact runB_arr mixed [(21, .int (s0.length : Int)), (23, .bit true), (25, .bit true), (29, .sl ((sub s0 s6 (s0.length : Int)).map dbyte)), (30, .ret (.tup [.d (TValue.D r4.1), .d ((D.i .i64) r4.2)])), (41, .sl ((w5 ++ [r4.1]).map TValue.D))] [] [.live [0, 3, 4, 5, 6, 7], .keep [41], .ren 41 5] (And.intro (len_map dbyte s0) (And.intro h9 (And.intro h10 (And.intro (cut_none dbyte h11) (And.intro (ref04_Read_ok (sub s0 s6 (s0.length : Int)) r4 h12) (And.intro (nc_ok TValue.D [r4.1]) (And.intro (nc_ok TValue.D [r4.1]) (And.intro (fit_map TValue.D h13) (And.intro (app_map TValue.D w5 [r4.1]) (True.intro)))))))))) (by kernel_rfl)
    · skip
      obtain rfl := Option.some.inj h
      exact runB_arr mixed [(21, .int (s0.length : Int)), (23, .bit true), (25, .bit false)] [] [.live [3, 4, 5, 7], .keep [5]] (And.intro (len_map dbyte s0) (And.intro h9 (And.intro h10 (True.intro)))) (by kernel_rfl)
  · skip
    obtain rfl := Option.some.inj h
    exact runB_arr mixed [(21, .int (s0.length : Int)), (23, .bit false)] [] [.live [3, 4, 5, 7], .keep [5]] (And.intro (len_map dbyte s0) (And.intro h9 (True.intro))) (by kernel_rfl)
theorem law04_KeyReads_l1_ok (s0 : List UInt8) (s3 : List TValue) (s4 : Bool) (s6 : Int) (s7 : Bool) (w5 : List TValue) (t : (Bool × List TValue)) (h : law04_KeyReads_l1 s0 s3 s4 s6 s7 w5 = some t) : LpOf Try.prog none (fbody Try.prog 6) [0, 0, 1, 1, 1, 1, 1, 1] (law04_KeyReads_l1_I s0 s3 s4 s6 s7 w5) (law04_KeyReads_l1_O s0 s3 s4 t).1 (law04_KeyReads_l1_O s0 s3 s4 t).2 :=
  loopE_lp (I := fun s => law04_KeyReads_l1_I s0 s3 s4 s.1 s.2.1 s.2.2) (O := law04_KeyReads_l1_O s0 s3 s4) (by kernel_rfl) (fun t => isN_ne (by rfl)) (fun s s' h => law04_KeyReads_l1_rnd s0 s3 s4 s.1 s.2.1 s.2.2 (.inl s') h) (fun s t h => law04_KeyReads_l1_rnd s0 s3 s4 s.1 s.2.1 s.2.2 (.inr t) h) h
theorem law04_KeyReads_ok (a0 : List UInt8) (r : Bool) (h : law04_KeyReads a0 = some r) : ACall Try.prog 6 [.d ((D.l dbyte) a0)] [] (.d (D.b r)) [] := by
  unfold law04_KeyReads at h
  replace h := iteE_some h
  rcases h with ⟨h1, h⟩ | ⟨h1, h⟩
  · skip
    replace h := bndE_some h
    obtain ⟨r1, h2, h⟩ := h
    obtain rfl := Option.some.inj h
    exact runF_call mixed [(11, .int (a0.length : Int)), (12, .bit true), (13, .ret (.d (D.b r1)))] [] [] (And.intro (len_map dbyte a0) (And.intro h1 (And.intro (law04_awake_ok r1 h2) (True.intro)))) (by kernel_rfl)
  · skip
    replace h := bndE_some h
    obtain ⟨r2, h3, h⟩ := h
    replace h := bndE_some h
    obtain ⟨o5, h14, h⟩ := h
    replace h := iteE_some h
    rcases h with ⟨h15, h⟩ | ⟨h15, h⟩
    · skip
      replace h := iteE_some h
      rcases h with ⟨h16, h⟩ | ⟨h16, h⟩
      · skip
        replace h := iteE_some h
        rcases h with ⟨h17, h⟩ | ⟨h17, h⟩
        · skip
          replace h := bndE_some h
          obtain ⟨r6, h18, h⟩ := h
          obtain rfl := Option.some.inj h
          exact runF_call mixed [(11, .int (a0.length : Int)), (12, .bit false), (16, .ret (.tup [.d ((D.l TValue.D) r2.1), .d (D.b r2.2)])), (43, .bit true), (45, .int (r2.1.length : Int)), (47, .bit true), (51, .bit true), (52, .ret (.d (D.b r6)))] [⟨[0, 0, 1, 1, 1, 1, 1, 1], [.live [0, 3, 4, 5, 6, 7], .keep [], .nil 5 5 30 4], .exit 0, (law04_KeyReads_l1_O a0 r2.1 r2.2 o5).2⟩] [] (And.intro (len_map dbyte a0) (And.intro h1 (And.intro (key_Read_ok a0 r2 h3) (And.intro (law04_KeyReads_l1_ok a0 r2.1 r2.2 0 true ([] : List TValue) o5 h14) (And.intro h15 (And.intro (len_map TValue.D r2.1) (And.intro h16 (And.intro h17 (And.intro (law04_awake_ok r6 h18) (True.intro)))))))))) (by kernel_rfl)
        · skip
          obtain rfl := Option.some.inj h
          exact runF_call mixed [(11, .int (a0.length : Int)), (12, .bit false), (16, .ret (.tup [.d ((D.l TValue.D) r2.1), .d (D.b r2.2)])), (43, .bit true), (45, .int (r2.1.length : Int)), (47, .bit true), (51, .bit false)] [⟨[0, 0, 1, 1, 1, 1, 1, 1], [.live [0, 3, 4, 5, 6, 7], .keep [], .nil 5 5 30 4], .exit 0, (law04_KeyReads_l1_O a0 r2.1 r2.2 o5).2⟩] [] (And.intro (len_map dbyte a0) (And.intro h1 (And.intro (key_Read_ok a0 r2 h3) (And.intro (law04_KeyReads_l1_ok a0 r2.1 r2.2 0 true ([] : List TValue) o5 h14) (And.intro h15 (And.intro (len_map TValue.D r2.1) (And.intro h16 (And.intro h17 (True.intro))))))))) (by kernel_rfl)
      · skip
        obtain rfl := Option.some.inj h
        exact runF_call mixed [(11, .int (a0.length : Int)), (12, .bit false), (16, .ret (.tup [.d ((D.l TValue.D) r2.1), .d (D.b r2.2)])), (43, .bit true), (45, .int (r2.1.length : Int)), (47, .bit false)] [⟨[0, 0, 1, 1, 1, 1, 1, 1], [.live [0, 3, 4, 5, 6, 7], .keep [], .nil 5 5 30 4], .exit 0, (law04_KeyReads_l1_O a0 r2.1 r2.2 o5).2⟩] [] (And.intro (len_map dbyte a0) (And.intro h1 (And.intro (key_Read_ok a0 r2 h3) (And.intro (law04_KeyReads_l1_ok a0 r2.1 r2.2 0 true ([] : List TValue) o5 h14) (And.intro h15 (And.intro (len_map TValue.D r2.1) (And.intro h16 (True.intro)))))))) (by kernel_rfl)
    · skip
      replace h := iteE_some h
      rcases h with ⟨h19, h⟩ | ⟨h19, h⟩
      · skip
        replace h := bndE_some h
        obtain ⟨r7, h20, h⟩ := h
        replace h := iteE_some h
        rcases h with ⟨h21, h⟩ | ⟨h21, h⟩
        · skip
          replace h := bndE_some h
          obtain ⟨r8, h22, h⟩ := h
          obtain rfl := Option.some.inj h
          exact runF_call mixed [(11, .int (a0.length : Int)), (12, .bit false), (16, .ret (.tup [.d ((D.l TValue.D) r2.1), .d (D.b r2.2)])), (43, .bit false), (55, .bit true), (58, .ret (.d (D.b r7))), (60, .bit true), (61, .ret (.d (D.b r8)))] [⟨[0, 0, 1, 1, 1, 1, 1, 1], [.live [0, 3, 4, 5, 6, 7], .keep [], .nil 5 5 30 4], .exit 0, (law04_KeyReads_l1_O a0 r2.1 r2.2 o5).2⟩] [] (And.intro (len_map dbyte a0) (And.intro h1 (And.intro (key_Read_ok a0 r2 h3) (And.intro (law04_KeyReads_l1_ok a0 r2.1 r2.2 0 true ([] : List TValue) o5 h14) (And.intro h15 (And.intro h19 (And.intro (law04_same_ok r2.1 o5.2 r7 h20) (And.intro h21 (And.intro (law04_awake_ok r8 h22) (True.intro)))))))))) (by kernel_rfl)
        · skip
          obtain rfl := Option.some.inj h
          exact runF_call mixed [(11, .int (a0.length : Int)), (12, .bit false), (16, .ret (.tup [.d ((D.l TValue.D) r2.1), .d (D.b r2.2)])), (43, .bit false), (55, .bit true), (58, .ret (.d (D.b r7))), (60, .bit false)] [⟨[0, 0, 1, 1, 1, 1, 1, 1], [.live [0, 3, 4, 5, 6, 7], .keep [], .nil 5 5 30 4], .exit 0, (law04_KeyReads_l1_O a0 r2.1 r2.2 o5).2⟩] [] (And.intro (len_map dbyte a0) (And.intro h1 (And.intro (key_Read_ok a0 r2 h3) (And.intro (law04_KeyReads_l1_ok a0 r2.1 r2.2 0 true ([] : List TValue) o5 h14) (And.intro h15 (And.intro h19 (And.intro (law04_same_ok r2.1 o5.2 r7 h20) (And.intro h21 (True.intro))))))))) (by kernel_rfl)
      · skip
        obtain rfl := Option.some.inj h
        exact runF_call mixed [(11, .int (a0.length : Int)), (12, .bit false), (16, .ret (.tup [.d ((D.l TValue.D) r2.1), .d (D.b r2.2)])), (43, .bit false), (55, .bit false)] [⟨[0, 0, 1, 1, 1, 1, 1, 1], [.live [0, 3, 4, 5, 6, 7], .keep [], .nil 5 5 30 4], .exit 0, (law04_KeyReads_l1_O a0 r2.1 r2.2 o5).2⟩] [] (And.intro (len_map dbyte a0) (And.intro h1 (And.intro (key_Read_ok a0 r2 h3) (And.intro (law04_KeyReads_l1_ok a0 r2.1 r2.2 0 true ([] : List TValue) o5 h14) (And.intro h15 (And.intro h19 (True.intro))))))) (by kernel_rfl)
end Go.Ac
