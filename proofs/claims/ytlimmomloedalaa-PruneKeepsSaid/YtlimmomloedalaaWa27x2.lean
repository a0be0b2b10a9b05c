/-
  Part of a proof: each function of the seat computes what its Lean function says (printed by a program).
-/
import Derived.Test.YtlimmomloedalaaWa27x1
set_option linter.unusedVariables false
set_option linter.unusedSimpArgs false
set_option linter.unusedVariables false
set_option linter.unusedSimpArgs false
namespace Go.Ac
open Go.Proofs
theorem law27_PruneAll_l2_rnd (rd : Option Nat) (s5 : List TRow) (s7 : List TRow) (s8 : List Int) (s9 : Int) (o : (Int) ⊕ (Unit ⊕ Unit)) (h : law27_PruneAll_l2_s s5 s7 s8 s9 = some o) : Arr Try.prog rd (fbody Try.prog 3) (0 :: [0, 1, 0, 1, 1, 1, 1, 1, 1, 1, 1]) (law27_PruneAll_l2_I s5 s7 s8 s9) (rR (fun s : Int => law27_PruneAll_l2_I s5 s7 s8 s) (law27_PruneAll_l2_O s5 s7 s8) o).1 (rR (fun s : Int => law27_PruneAll_l2_I s5 s7 s8 s) (law27_PruneAll_l2_O s5 s7 s8) o).2 := by
  unfold law27_PruneAll_l2_s at h
  replace h := iteE_some h
  rcases h with ⟨h25, h⟩ | ⟨h25, h⟩
  · skip
    replace h := chkE_some h
    obtain ⟨h26, h⟩ := h
    replace h := idxE_some h
    obtain ⟨x17, h27, h⟩ := h
    replace h := idxE_some h
    obtain ⟨x18, h28, h⟩ := h
    replace h := chkE_some h
    obtain ⟨h29, h⟩ := h
    replace h := bndE_some h
    obtain ⟨r19, h30, h⟩ := h
    replace h := iteE_some h
    rcases h with ⟨h31, h⟩ | ⟨h31, h⟩
    · skip
      obtain rfl := Option.some.inj h
      exact runB_arr mixed [(68, .int (s7.length : Int)), (69, .bit true), (76, .sl ((sub s7 s9 (intVal .add .i64 s9 1)).map TRow.D)), (80, .el ((D.i .i64) x17)), (84, .el ((D.i .i64) x18)), (87, .sl ((sub s5 x17 (intVal .add .i64 x18 1)).map TRow.D)), (88, .ret (.d (D.b r19))), (89, .bit true)] [] [.live [4], .keep []] (And.intro (len_map TRow.D s7) (And.intro h25 (And.intro (cut_some TRow.D h26) (And.intro (elem_map (D.i .i64) h27) (And.intro (elem_map (D.i .i64) h28) (And.intro (cut_some TRow.D h29) (And.intro (ref24_Same_ok (sub s7 s9 (intVal .add .i64 s9 1)) (sub s5 x17 (intVal .add .i64 x18 1)) r19 h30) (And.intro h31 (True.intro))))))))) (by kernel_rfl)
    · skip
      obtain rfl := Option.some.inj h
      exact runB_arr mixed [(68, .int (s7.length : Int)), (69, .bit true), (76, .sl ((sub s7 s9 (intVal .add .i64 s9 1)).map TRow.D)), (80, .el ((D.i .i64) x17)), (84, .el ((D.i .i64) x18)), (87, .sl ((sub s5 x17 (intVal .add .i64 x18 1)).map TRow.D)), (88, .ret (.d (D.b r19))), (89, .bit false)] [] [.live [5, 7, 8, 9], .keep []] (And.intro (len_map TRow.D s7) (And.intro h25 (And.intro (cut_some TRow.D h26) (And.intro (elem_map (D.i .i64) h27) (And.intro (elem_map (D.i .i64) h28) (And.intro (cut_some TRow.D h29) (And.intro (ref24_Same_ok (sub s7 s9 (intVal .add .i64 s9 1)) (sub s5 x17 (intVal .add .i64 x18 1)) r19 h30) (And.intro h31 (True.intro))))))))) (by kernel_rfl)
  · skip
    obtain rfl := Option.some.inj h
    exact runB_arr mixed [(68, .int (s7.length : Int)), (69, .bit false)] [] [.live [], .keep []] (And.intro (len_map TRow.D s7) (And.intro h25 (True.intro))) (by kernel_rfl)
theorem law27_PruneAll_l2_ok (rd : Option Nat) (s5 : List TRow) (s7 : List TRow) (s8 : List Int) (s9 : Int) (t : Unit ⊕ Unit) (h : law27_PruneAll_l2 s5 s7 s8 s9 = some t) : LpOf Try.prog rd (fbody Try.prog 3) [0, 1, 0, 1, 1, 1, 1, 1, 1, 1, 1] (law27_PruneAll_l2_I s5 s7 s8 s9) ((law27_PruneAll_l2_O s5 s7 s8) t).1 ((law27_PruneAll_l2_O s5 s7 s8) t).2 :=
  loopE_lpR (fun s : Int => law27_PruneAll_l2_I s5 s7 s8 s) (law27_PruneAll_l2_O s5 s7 s8) (by kernel_rfl) (fun t => isN_ne (by rcases t with (_ | _) <;> rfl)) (fun s o h => law27_PruneAll_l2_rnd rd s5 s7 s8 s o h) (s := s9) (t := t) h
theorem law27_PruneAll_ok (a0 : List Tproctorlaw27_Seed) (a1 : Int) (r : Bool) (h : law27_PruneAll a0 a1 = some r) : ACall Try.prog 3 [.d ((D.l Tproctorlaw27_Seed.D) a0), .d ((D.i .i64) a1)] [] (.d (D.b r)) [] := by
  unfold law27_PruneAll at h
  replace h := bndE_some h
  obtain ⟨r1, h1, h⟩ := h
  replace h := bndE_some h
  obtain ⟨r2, h2, h⟩ := h
  replace h := bndE_some h
  obtain ⟨r3, h3, h⟩ := h
  replace h := bndE_some h
  obtain ⟨r4, h4, h⟩ := h
  replace h := iteE_some h
  rcases h with ⟨h5, h⟩ | ⟨h5, h⟩
  · skip
    obtain rfl := Option.some.inj h
    exact runF_call mixed [(11, .ret (.d ((D.l TRow.D) r1))), (13, .ret (.d ((D.l TRow.D) r2))), (15, .ret (.d ((D.l TRow.D) r3))), (16, .ret (.d (D.b r4))), (17, .bit true)] [] [] (And.intro (law27_rows_ok a0 r1 h1) (And.intro (prune_All_ok r1 r2 h2) (And.intro (ref27_All_ok r1 r3 h3) (And.intro (ref24_Same_ok r2 r3 r4 h4) (And.intro h5 (True.intro)))))) (by kernel_rfl)
  · skip
    replace h := bndE_some h
    obtain ⟨o7, h10, h⟩ := h
    replace h := sumE_some h
    rcases h with ⟨o8, rfl, h⟩ | ⟨o9, rfl, h⟩
    · skip
      replace h := bndE_some h
      obtain ⟨r10, h11, h⟩ := h
      replace h := iteE_some h
      rcases h with ⟨h12, h⟩ | ⟨h12, h⟩
      · skip
        replace h := iteE_some h
        rcases h with ⟨h13, h⟩ | ⟨h13, h⟩
        · skip
          replace h := bndE_some h
          obtain ⟨r11, h14, h⟩ := h
          replace h := iteE_some h
          rcases h with ⟨h15, h⟩ | ⟨h15, h⟩
          · skip
            replace h := bndE_some h
            obtain ⟨r12, h16, h⟩ := h
            obtain rfl := Option.some.inj h
            exact runF_call mixed [(11, .ret (.d ((D.l TRow.D) r1))), (13, .ret (.d ((D.l TRow.D) r2))), (15, .ret (.d ((D.l TRow.D) r3))), (16, .ret (.d (D.b r4))), (17, .bit false), (33, .ret (.d ((D.l TRow.D) r10))), (36, .bit true), (43, .int (r10.length : Int)), (45, .bit true), (48, .ret (.d (D.b r11))), (51, .bit true), (52, .ret (.d (D.b r12)))] [⟨[0, 1, 0, 1, 1, 1], [.live [1, 5, 6], .keep []], .exit 0, (law27_PruneAll_l1_O a1 r1 (Sum.inl o8)).2⟩] [] (And.intro (law27_rows_ok a0 r1 h1) (And.intro (prune_All_ok r1 r2 h2) (And.intro (ref27_All_ok r1 r3 h3) (And.intro (ref24_Same_ok r2 r3 r4 h4) (And.intro h5 (And.intro (law27_PruneAll_l1_ok none a1 r1 0 (Sum.inl o8) h10) (And.intro (prune_Below_ok r1 a1 r10 h11) (And.intro h12 (And.intro (len_map TRow.D r10) (And.intro h13 (And.intro (prune_Spare_ok r1 a1 r11 h14) (And.intro h15 (And.intro (law27_awake_ok r12 h16) (True.intro)))))))))))))) (by kernel_rfl)
          · skip
            obtain rfl := Option.some.inj h
            exact runF_call mixed [(11, .ret (.d ((D.l TRow.D) r1))), (13, .ret (.d ((D.l TRow.D) r2))), (15, .ret (.d ((D.l TRow.D) r3))), (16, .ret (.d (D.b r4))), (17, .bit false), (33, .ret (.d ((D.l TRow.D) r10))), (36, .bit true), (43, .int (r10.length : Int)), (45, .bit true), (48, .ret (.d (D.b r11))), (51, .bit false)] [⟨[0, 1, 0, 1, 1, 1], [.live [1, 5, 6], .keep []], .exit 0, (law27_PruneAll_l1_O a1 r1 (Sum.inl o8)).2⟩] [] (And.intro (law27_rows_ok a0 r1 h1) (And.intro (prune_All_ok r1 r2 h2) (And.intro (ref27_All_ok r1 r3 h3) (And.intro (ref24_Same_ok r2 r3 r4 h4) (And.intro h5 (And.intro (law27_PruneAll_l1_ok none a1 r1 0 (Sum.inl o8) h10) (And.intro (prune_Below_ok r1 a1 r10 h11) (And.intro h12 (And.intro (len_map TRow.D r10) (And.intro h13 (And.intro (prune_Spare_ok r1 a1 r11 h14) (And.intro h15 (True.intro))))))))))))) (by kernel_rfl)
        · skip
          obtain rfl := Option.some.inj h
          exact runF_call mixed [(11, .ret (.d ((D.l TRow.D) r1))), (13, .ret (.d ((D.l TRow.D) r2))), (15, .ret (.d ((D.l TRow.D) r3))), (16, .ret (.d (D.b r4))), (17, .bit false), (33, .ret (.d ((D.l TRow.D) r10))), (36, .bit true), (43, .int (r10.length : Int)), (45, .bit false)] [⟨[0, 1, 0, 1, 1, 1], [.live [1, 5, 6], .keep []], .exit 0, (law27_PruneAll_l1_O a1 r1 (Sum.inl o8)).2⟩] [] (And.intro (law27_rows_ok a0 r1 h1) (And.intro (prune_All_ok r1 r2 h2) (And.intro (ref27_All_ok r1 r3 h3) (And.intro (ref24_Same_ok r2 r3 r4 h4) (And.intro h5 (And.intro (law27_PruneAll_l1_ok none a1 r1 0 (Sum.inl o8) h10) (And.intro (prune_Below_ok r1 a1 r10 h11) (And.intro h12 (And.intro (len_map TRow.D r10) (And.intro h13 (True.intro))))))))))) (by kernel_rfl)
      · skip
        replace h := iteE_some h
        rcases h with ⟨h17, h⟩ | ⟨h17, h⟩
        · skip
          replace h := iteE_some h
          rcases h with ⟨h18, h⟩ | ⟨h18, h⟩
          · skip
            replace h := bndE_some h
            obtain ⟨r13, h19, h⟩ := h
            replace h := iteE_some h
            rcases h with ⟨h20, h⟩ | ⟨h20, h⟩
            · skip
              replace h := bndE_some h
              obtain ⟨r14, h21, h⟩ := h
              obtain rfl := Option.some.inj h
              exact runF_call mixed [(11, .ret (.d ((D.l TRow.D) r1))), (13, .ret (.d ((D.l TRow.D) r2))), (15, .ret (.d ((D.l TRow.D) r3))), (16, .ret (.d (D.b r4))), (17, .bit false), (33, .ret (.d ((D.l TRow.D) r10))), (36, .bit false), (39, .int (r1.length : Int)), (41, .bit true), (43, .int (r10.length : Int)), (45, .bit true), (48, .ret (.d (D.b r13))), (51, .bit true), (52, .ret (.d (D.b r14)))] [⟨[0, 1, 0, 1, 1, 1], [.live [1, 5, 6], .keep []], .exit 0, (law27_PruneAll_l1_O a1 r1 (Sum.inl o8)).2⟩] [] (And.intro (law27_rows_ok a0 r1 h1) (And.intro (prune_All_ok r1 r2 h2) (And.intro (ref27_All_ok r1 r3 h3) (And.intro (ref24_Same_ok r2 r3 r4 h4) (And.intro h5 (And.intro (law27_PruneAll_l1_ok none a1 r1 0 (Sum.inl o8) h10) (And.intro (prune_Below_ok r1 a1 r10 h11) (And.intro h12 (And.intro (len_map TRow.D r1) (And.intro h17 (And.intro (len_map TRow.D r10) (And.intro h18 (And.intro (prune_Spare_ok r1 a1 r13 h19) (And.intro h20 (And.intro (law27_awake_ok r14 h21) (True.intro)))))))))))))))) (by kernel_rfl)
            · skip
              obtain rfl := Option.some.inj h
              exact runF_call mixed [(11, .ret (.d ((D.l TRow.D) r1))), (13, .ret (.d ((D.l TRow.D) r2))), (15, .ret (.d ((D.l TRow.D) r3))), (16, .ret (.d (D.b r4))), (17, .bit false), (33, .ret (.d ((D.l TRow.D) r10))), (36, .bit false), (39, .int (r1.length : Int)), (41, .bit true), (43, .int (r10.length : Int)), (45, .bit true), (48, .ret (.d (D.b r13))), (51, .bit false)] [⟨[0, 1, 0, 1, 1, 1], [.live [1, 5, 6], .keep []], .exit 0, (law27_PruneAll_l1_O a1 r1 (Sum.inl o8)).2⟩] [] (And.intro (law27_rows_ok a0 r1 h1) (And.intro (prune_All_ok r1 r2 h2) (And.intro (ref27_All_ok r1 r3 h3) (And.intro (ref24_Same_ok r2 r3 r4 h4) (And.intro h5 (And.intro (law27_PruneAll_l1_ok none a1 r1 0 (Sum.inl o8) h10) (And.intro (prune_Below_ok r1 a1 r10 h11) (And.intro h12 (And.intro (len_map TRow.D r1) (And.intro h17 (And.intro (len_map TRow.D r10) (And.intro h18 (And.intro (prune_Spare_ok r1 a1 r13 h19) (And.intro h20 (True.intro))))))))))))))) (by kernel_rfl)
          · skip
            obtain rfl := Option.some.inj h
            exact runF_call mixed [(11, .ret (.d ((D.l TRow.D) r1))), (13, .ret (.d ((D.l TRow.D) r2))), (15, .ret (.d ((D.l TRow.D) r3))), (16, .ret (.d (D.b r4))), (17, .bit false), (33, .ret (.d ((D.l TRow.D) r10))), (36, .bit false), (39, .int (r1.length : Int)), (41, .bit true), (43, .int (r10.length : Int)), (45, .bit false)] [⟨[0, 1, 0, 1, 1, 1], [.live [1, 5, 6], .keep []], .exit 0, (law27_PruneAll_l1_O a1 r1 (Sum.inl o8)).2⟩] [] (And.intro (law27_rows_ok a0 r1 h1) (And.intro (prune_All_ok r1 r2 h2) (And.intro (ref27_All_ok r1 r3 h3) (And.intro (ref24_Same_ok r2 r3 r4 h4) (And.intro h5 (And.intro (law27_PruneAll_l1_ok none a1 r1 0 (Sum.inl o8) h10) (And.intro (prune_Below_ok r1 a1 r10 h11) (And.intro h12 (And.intro (len_map TRow.D r1) (And.intro h17 (And.intro (len_map TRow.D r10) (And.intro h18 (True.intro))))))))))))) (by kernel_rfl)
        · skip
          replace h := idxE_some h
          obtain ⟨x15, h22, h⟩ := h
          replace h := bndE_some h
          obtain ⟨r16, h23, h⟩ := h
          replace h := iteE_some h
          rcases h with ⟨h24, h⟩ | ⟨h24, h⟩
          · skip
            obtain rfl := Option.some.inj h
            exact runF_call mixed [(11, .ret (.d ((D.l TRow.D) r1))), (13, .ret (.d ((D.l TRow.D) r2))), (15, .ret (.d ((D.l TRow.D) r3))), (16, .ret (.d (D.b r4))), (17, .bit false), (33, .ret (.d ((D.l TRow.D) r10))), (36, .bit false), (39, .int (r1.length : Int)), (41, .bit false), (57, .el (TRow.D x15)), (60, .ret (.d ((D.l (D.i .i64)) r16))), (62, .int (r10.length : Int)), (64, .int (r16.length : Int)), (65, .bit true)] [⟨[0, 1, 0, 1, 1, 1], [.live [1, 5, 6], .keep []], .exit 0, (law27_PruneAll_l1_O a1 r1 (Sum.inl o8)).2⟩] [] (And.intro (law27_rows_ok a0 r1 h1) (And.intro (prune_All_ok r1 r2 h2) (And.intro (ref27_All_ok r1 r3 h3) (And.intro (ref24_Same_ok r2 r3 r4 h4) (And.intro h5 (And.intro (law27_PruneAll_l1_ok none a1 r1 0 (Sum.inl o8) h10) (And.intro (prune_Below_ok r1 a1 r10 h11) (And.intro h12 (And.intro (len_map TRow.D r1) (And.intro h17 (And.intro (elem_map TRow.D h22) (And.intro (ref26_Most_ok r1 x15.bind true r16 h23) (And.intro (len_map TRow.D r10) (And.intro (len_map (D.i .i64) r16) (And.intro h24 (True.intro)))))))))))))))) (by kernel_rfl)
          · skip
            replace h := bndE_some h
            obtain ⟨o20, h32, h⟩ := h
            replace h := sumE_some h
            rcases h with ⟨o21, rfl, h⟩ | ⟨o22, rfl, h⟩
            · skip
              replace h := bndE_some h
              obtain ⟨r23, h33, h⟩ := h
              obtain rfl := Option.some.inj h
              exact runF_call mixed [(11, .ret (.d ((D.l TRow.D) r1))), (13, .ret (.d ((D.l TRow.D) r2))), (15, .ret (.d ((D.l TRow.D) r3))), (16, .ret (.d (D.b r4))), (17, .bit false), (33, .ret (.d ((D.l TRow.D) r10))), (36, .bit false), (39, .int (r1.length : Int)), (41, .bit false), (57, .el (TRow.D x15)), (60, .ret (.d ((D.l (D.i .i64)) r16))), (62, .int (r10.length : Int)), (64, .int (r16.length : Int)), (65, .bit false), (90, .ret (.d (D.b r23)))] [⟨[0, 1, 0, 1, 1, 1], [.live [1, 5, 6], .keep []], .exit 0, (law27_PruneAll_l1_O a1 r1 (Sum.inl o8)).2⟩, ⟨[0, 1, 0, 1, 1, 1, 1, 1, 1, 1, 1], [.live [5, 7, 8, 9], .keep []], .exit 2, (law27_PruneAll_l2_O r1 r10 r16 (Sum.inl o21)).2⟩] [] (And.intro (law27_rows_ok a0 r1 h1) (And.intro (prune_All_ok r1 r2 h2) (And.intro (ref27_All_ok r1 r3 h3) (And.intro (ref24_Same_ok r2 r3 r4 h4) (And.intro h5 (And.intro (law27_PruneAll_l1_ok none a1 r1 0 (Sum.inl o8) h10) (And.intro (prune_Below_ok r1 a1 r10 h11) (And.intro h12 (And.intro (len_map TRow.D r1) (And.intro h17 (And.intro (elem_map TRow.D h22) (And.intro (ref26_Most_ok r1 x15.bind true r16 h23) (And.intro (len_map TRow.D r10) (And.intro (len_map (D.i .i64) r16) (And.intro h24 (And.intro (law27_PruneAll_l2_ok none r1 r10 r16 0 (Sum.inl o21) h32) (And.intro (law27_awake_ok r23 h33) (True.intro)))))))))))))))))) (by kernel_rfl)
            · skip
              obtain rfl := Option.some.inj h
              exact runF_call mixed [(11, .ret (.d ((D.l TRow.D) r1))), (13, .ret (.d ((D.l TRow.D) r2))), (15, .ret (.d ((D.l TRow.D) r3))), (16, .ret (.d (D.b r4))), (17, .bit false), (33, .ret (.d ((D.l TRow.D) r10))), (36, .bit false), (39, .int (r1.length : Int)), (41, .bit false), (57, .el (TRow.D x15)), (60, .ret (.d ((D.l (D.i .i64)) r16))), (62, .int (r10.length : Int)), (64, .int (r16.length : Int)), (65, .bit false)] [⟨[0, 1, 0, 1, 1, 1], [.live [1, 5, 6], .keep []], .exit 0, (law27_PruneAll_l1_O a1 r1 (Sum.inl o8)).2⟩, ⟨[0, 1, 0, 1, 1, 1, 1, 1, 1, 1, 1], [.live [5, 7, 8, 9], .keep []], .ret, (law27_PruneAll_l2_O r1 r10 r16 (Sum.inr o22)).2⟩] [] (And.intro (law27_rows_ok a0 r1 h1) (And.intro (prune_All_ok r1 r2 h2) (And.intro (ref27_All_ok r1 r3 h3) (And.intro (ref24_Same_ok r2 r3 r4 h4) (And.intro h5 (And.intro (law27_PruneAll_l1_ok none a1 r1 0 (Sum.inl o8) h10) (And.intro (prune_Below_ok r1 a1 r10 h11) (And.intro h12 (And.intro (len_map TRow.D r1) (And.intro h17 (And.intro (elem_map TRow.D h22) (And.intro (ref26_Most_ok r1 x15.bind true r16 h23) (And.intro (len_map TRow.D r10) (And.intro (len_map (D.i .i64) r16) (And.intro h24 (And.intro (law27_PruneAll_l2_ok none r1 r10 r16 0 (Sum.inr o22) h32) (True.intro))))))))))))))))) (by kernel_rfl)
    · skip
      obtain rfl := Option.some.inj h
      exact runF_call mixed [(11, .ret (.d ((D.l TRow.D) r1))), (13, .ret (.d ((D.l TRow.D) r2))), (15, .ret (.d ((D.l TRow.D) r3))), (16, .ret (.d (D.b r4))), (17, .bit false)] [⟨[0, 1, 0, 1, 1, 1], [.live [1, 5, 6], .keep []], .ret, (law27_PruneAll_l1_O a1 r1 (Sum.inr o9)).2⟩] [] (And.intro (law27_rows_ok a0 r1 h1) (And.intro (prune_All_ok r1 r2 h2) (And.intro (ref27_All_ok r1 r3 h3) (And.intro (ref24_Same_ok r2 r3 r4 h4) (And.intro h5 (And.intro (law27_PruneAll_l1_ok none a1 r1 0 (Sum.inr o9) h10) (True.intro))))))) (by kernel_rfl)
theorem prune_Agree_ok (a0 : List TRow) (a1 : List TSlot) (r : Bool) (h : prune_Agree a0 a1 = some r) : ACall Try.prog 15 [.d ((D.l TRow.D) a0), .d ((D.l TSlot.D) a1)] [] (.d (D.b r)) [] := by
  unfold prune_Agree at h
  replace h := bndE_some h
  obtain ⟨r1, h1, h⟩ := h
  replace h := iteE_some h
  rcases h with ⟨h2, h⟩ | ⟨h2, h⟩
  · skip
    obtain rfl := Option.some.inj h
    exact runF_call mixed [(8, .ret (.d ((D.l TRow.D) r1))), (10, .int (r1.length : Int)), (12, .bit true)] [] [] (And.intro (extend_Greatest_ok a0 a1 r1 h1) (And.intro (len_map TRow.D r1) (And.intro h2 (True.intro)))) (by kernel_rfl)
  · skip
    replace h := idxE_some h
    obtain ⟨x2, h3, h⟩ := h
    replace h := bndE_some h
    obtain ⟨r3, h4, h⟩ := h
    obtain rfl := Option.some.inj h
    exact runF_call mixed [(8, .ret (.d ((D.l TRow.D) r1))), (10, .int (r1.length : Int)), (12, .bit false), (15, .el (TRow.D x2)), (17, .ret (.d (D.b r3)))] [] [] (And.intro (extend_Greatest_ok a0 a1 r1 h1) (And.intro (len_map TRow.D r1) (And.intro h2 (And.intro (elem_map TRow.D h3) (And.intro (prune_alike_Row_ok r1 x2 r3 h4) (True.intro)))))) (by kernel_rfl)
def law27_agree_l1_I (s0 : List TRow) (s5 : List Int) (s6 : Int) : St := ⟨sp 33 0 [(0, .d ((D.l TRow.D) s0)), (5, .d ((D.l (D.i .i64)) s5)), (6, .d ((D.i .i64) s6))], [], []⟩
def law27_agree_l1_O (s0 : List TRow) (s5 : List Int) (o : Unit ⊕ Unit) : Ex × St := match o with
  | .inl o => (.exit 0, ⟨sp 33 0 [], [], []⟩)
  | .inr o => (.ret, ⟨sp 33 0 [(4, .d (D.b false))], [], []⟩)
theorem law27_agree_l1_rnd (rd : Option Nat) (s0 : List TRow) (s5 : List Int) (s6 : Int) (o : (Int) ⊕ (Unit ⊕ Unit)) (h : law27_agree_l1_s s0 s5 s6 = some o) : Arr Try.prog rd (fbody Try.prog 16) (0 :: [0, 1, 0, 1, 1]) (law27_agree_l1_I s0 s5 s6) (rR (fun s : Int => law27_agree_l1_I s0 s5 s) (law27_agree_l1_O s0 s5) o).1 (rR (fun s : Int => law27_agree_l1_I s0 s5 s) (law27_agree_l1_O s0 s5) o).2 := by
  unfold law27_agree_l1_s at h
  replace h := iteE_some h
  rcases h with ⟨h2, h⟩ | ⟨h2, h⟩
  · skip
    replace h := idxE_some h
    obtain ⟨x2, h3, h⟩ := h
    replace h := idxE_some h
    obtain ⟨x3, h4, h⟩ := h
    replace h := idxE_some h
    obtain ⟨x4, h5, h⟩ := h
    replace h := idxE_some h
    obtain ⟨x5, h6, h⟩ := h
    replace h := bndE_some h
    obtain ⟨r6, h7, h⟩ := h
    replace h := iteE_some h
    rcases h with ⟨h8, h⟩ | ⟨h8, h⟩
    · skip
      obtain rfl := Option.some.inj h
      exact runB_arr mixed [(12, .int (s5.length : Int)), (13, .bit true), (19, .el ((D.i .i64) x2)), (21, .el (TRow.D x3)), (26, .el ((D.i .i64) x4)), (28, .el (TRow.D x5)), (31, .ret (.d (D.b r6))), (32, .bit true)] [] [.live [4], .keep []] (And.intro (len_map (D.i .i64) s5) (And.intro h2 (And.intro (elem_map (D.i .i64) h3) (And.intro (elem_map TRow.D h4) (And.intro (elem_map (D.i .i64) h5) (And.intro (elem_map TRow.D h6) (And.intro (ref18_Same_ok x3.set x5.set r6 h7) (And.intro h8 (True.intro))))))))) (by kernel_rfl)
    · skip
      obtain rfl := Option.some.inj h
      exact runB_arr mixed [(12, .int (s5.length : Int)), (13, .bit true), (19, .el ((D.i .i64) x2)), (21, .el (TRow.D x3)), (26, .el ((D.i .i64) x4)), (28, .el (TRow.D x5)), (31, .ret (.d (D.b r6))), (32, .bit false)] [] [.live [0, 5, 6], .keep []] (And.intro (len_map (D.i .i64) s5) (And.intro h2 (And.intro (elem_map (D.i .i64) h3) (And.intro (elem_map TRow.D h4) (And.intro (elem_map (D.i .i64) h5) (And.intro (elem_map TRow.D h6) (And.intro (ref18_Same_ok x3.set x5.set r6 h7) (And.intro h8 (True.intro))))))))) (by kernel_rfl)
  · skip
    obtain rfl := Option.some.inj h
    exact runB_arr mixed [(12, .int (s5.length : Int)), (13, .bit false)] [] [.live [], .keep []] (And.intro (len_map (D.i .i64) s5) (And.intro h2 (True.intro))) (by kernel_rfl)
theorem law27_agree_l1_ok (rd : Option Nat) (s0 : List TRow) (s5 : List Int) (s6 : Int) (t : Unit ⊕ Unit) (h : law27_agree_l1 s0 s5 s6 = some t) : LpOf Try.prog rd (fbody Try.prog 16) [0, 1, 0, 1, 1] (law27_agree_l1_I s0 s5 s6) ((law27_agree_l1_O s0 s5) t).1 ((law27_agree_l1_O s0 s5) t).2 :=
  loopE_lpR (fun s : Int => law27_agree_l1_I s0 s5 s) (law27_agree_l1_O s0 s5) (by kernel_rfl) (fun t => isN_ne (by rcases t with (_ | _) <;> rfl)) (fun s o h => law27_agree_l1_rnd rd s0 s5 s o h) (s := s6) (t := t) h
theorem law27_agree_ok (a0 : List TRow) (a1 : List TSlot) (r : Bool) (h : law27_agree a0 a1 = some r) : ACall Try.prog 16 [.d ((D.l TRow.D) a0), .d ((D.l TSlot.D) a1)] [] (.d (D.b r)) [] := by
  unfold law27_agree at h
  replace h := bndE_some h
  obtain ⟨r1, h1, h⟩ := h
  replace h := bndE_some h
  obtain ⟨o7, h9, h⟩ := h
  replace h := sumE_some h
  rcases h with ⟨o8, rfl, h⟩ | ⟨o9, rfl, h⟩
  · skip
    obtain rfl := Option.some.inj h
    exact runF_call mixed [(9, .ret (.d ((D.l (D.i .i64)) r1)))] [⟨[0, 1, 0, 1, 1], [.live [0, 5, 6], .keep []], .exit 0, (law27_agree_l1_O a0 r1 (Sum.inl o8)).2⟩] [] (And.intro (ref26_Most_ok a0 a1 false r1 h1) (And.intro (law27_agree_l1_ok none a0 r1 1 (Sum.inl o8) h9) (True.intro))) (by kernel_rfl)
  · skip
    obtain rfl := Option.some.inj h
    exact runF_call mixed [(9, .ret (.d ((D.l (D.i .i64)) r1)))] [⟨[0, 1, 0, 1, 1], [.live [0, 5, 6], .keep []], .ret, (law27_agree_l1_O a0 r1 (Sum.inr o9)).2⟩] [] (And.intro (ref26_Most_ok a0 a1 false r1 h1) (And.intro (law27_agree_l1_ok none a0 r1 1 (Sum.inr o9) h9) (True.intro))) (by kernel_rfl)
def law27_all_v2_l5_I (s0 : List TRow) (s1 : List TSlot) (s2 : Int) (s8 : Int) (s10 : Bool) (w7 : List TValue) (w9 : TValue) (s11 : Bool) (s12 : Int) : St := ⟨sp 77 0 [(0, .d ((D.l TRow.D) s0)), (1, .d ((D.l TSlot.D) s1)), (2, .d ((D.i .i64) s2)), (7, .row 7), (8, .d ((D.i .i64) s8)), (9, .box 9 0), (10, .d (D.b s10)), (11, .d (D.b s11)), (12, .d ((D.i .i64) s12))], [(7, .row 39 4 (w7.map TValue.D)), (9, .cells ((cellsA (TValue.D w9))))], []⟩
def law27_all_v2_l5_O (s0 : List TRow) (s1 : List TSlot) (s2 : Int) (s8 : Int) (s10 : Bool) (w7 : List TValue) (w9 : TValue) (o : Bool) : Ex × St := (.exit 2, ⟨sp 77 0 [(0, .d ((D.l TRow.D) s0)), (1, .d ((D.l TSlot.D) s1)), (2, .d ((D.i .i64) s2)), (7, .row 7), (8, .d ((D.i .i64) s8)), (9, .box 9 0), (10, .d (D.b s10)), (11, .d (D.b o))], [(7, .row 39 4 (w7.map TValue.D)), (9, .cells ((cellsA (TValue.D w9))))], []⟩)
theorem law27_all_v2_l5_rnd (rd : Option Nat) (self : (List TRow) → (List TSlot) → Int → Option Bool) (hs : ∀ (a0 : List TRow) (a1 : List TSlot) (a2 : Int) (r : Bool), self a0 a1 a2 = some r → ACall Try.prog 17 [.d ((D.l TRow.D) a0), .d ((D.l TSlot.D) a1), .d ((D.i .i64) a2)] [] (.d (D.b r)) []) (s0 : List TRow) (s1 : List TSlot) (s2 : Int) (s8 : Int) (s10 : Bool) (w7 : List TValue) (w9 : TValue) (s11 : Bool) (s12 : Int) (o : (Bool × Int) ⊕ (Bool)) (h : law27_all_v2_l5_s self s0 s1 s2 s8 s10 w7 w9 s11 s12 = some o) : Arr Try.prog rd (fbody Try.prog 17) (0 :: [0, 1, 0, 1, 1, 0, 0, 1, 0, 0, 1, 0, 1, 1, 1, 1]) (law27_all_v2_l5_I s0 s1 s2 s8 s10 w7 w9 s11 s12) (rR (fun s : Bool × Int => law27_all_v2_l5_I s0 s1 s2 s8 s10 w7 w9 s.1 s.2) (law27_all_v2_l5_O s0 s1 s2 s8 s10 w7 w9) o).1 (rR (fun s : Bool × Int => law27_all_v2_l5_I s0 s1 s2 s8 s10 w7 w9 s.1 s.2) (law27_all_v2_l5_O s0 s1 s2 s8 s10 w7 w9) o).2 := by
  unfold law27_all_v2_l5_s at h
  replace h := iteE_some h
  rcases h with ⟨h23, h⟩ | ⟨h23, h⟩
  · skip
    replace h := iteE_some h
    rcases h with ⟨h24, h⟩ | ⟨h24, h⟩
    · skip
      obtain rfl := Option.some.inj h
      exact runB_arr mixed [(42, .int (w7.length : Int)), (43, .bit true), (47, .bit true)] [] [.live [0, 1, 2, 7, 8, 9, 10, 11, 12], .keep [7, 9]] (And.intro (len_map TValue.D w7) (And.intro h23 (And.intro h24 (True.intro)))) (by kernel_rfl)
    · skip
      replace h := idxE_some h
      obtain ⟨x13, h25, h⟩ := h
      obtain rfl := Option.some.inj h
      exact runB_arr mixed [(42, .int (w7.length : Int)), (43, .bit true), (47, .bit false), (50, .el (TValue.D x13))] [] [.live [0, 1, 2, 7, 8, 9, 10, 11, 12], .keep [7, 9]] (And.intro (len_map TValue.D w7) (And.intro h23 (And.intro h24 (And.intro (elem_map TValue.D h25) (True.intro))))) (by kernel_rfl)
  · skip
    obtain rfl := Option.some.inj h
    exact runB_arr mixed [(42, .int (w7.length : Int)), (43, .bit false)] [] [.live [0, 1, 2, 7, 8, 9, 10, 11], .keep [7, 9]] (And.intro (len_map TValue.D w7) (And.intro h23 (True.intro))) (by kernel_rfl)
theorem law27_all_v2_l5_ok (rd : Option Nat) (self : (List TRow) → (List TSlot) → Int → Option Bool) (hs : ∀ (a0 : List TRow) (a1 : List TSlot) (a2 : Int) (r : Bool), self a0 a1 a2 = some r → ACall Try.prog 17 [.d ((D.l TRow.D) a0), .d ((D.l TSlot.D) a1), .d ((D.i .i64) a2)] [] (.d (D.b r)) []) (s0 : List TRow) (s1 : List TSlot) (s2 : Int) (s8 : Int) (s10 : Bool) (w7 : List TValue) (w9 : TValue) (s11 : Bool) (s12 : Int) (t : Bool) (h : law27_all_v2_l5 self s0 s1 s2 s8 s10 w7 w9 s11 s12 = some t) : LpOf Try.prog rd (fbody Try.prog 17) [0, 1, 0, 1, 1, 0, 0, 1, 0, 0, 1, 0, 1, 1, 1, 1] (law27_all_v2_l5_I s0 s1 s2 s8 s10 w7 w9 s11 s12) ((law27_all_v2_l5_O s0 s1 s2 s8 s10 w7 w9) t).1 ((law27_all_v2_l5_O s0 s1 s2 s8 s10 w7 w9) t).2 :=
  loopE_lpR (fun s : Bool × Int => law27_all_v2_l5_I s0 s1 s2 s8 s10 w7 w9 s.1 s.2) (law27_all_v2_l5_O s0 s1 s2 s8 s10 w7 w9) (by kernel_rfl) (fun t => isN_ne (by rfl)) (fun s o h => law27_all_v2_l5_rnd rd self hs s0 s1 s2 s8 s10 w7 w9 s.1 s.2 o h) (s := (s11, s12)) (t := t) h
def law27_all_v2_b4_I (s0 : List TRow) (s1 : List TSlot) (s2 : Int) (s8 : Int) (w7 : List TValue) : St := ⟨sp 77 0 [(0, .d ((D.l TRow.D) s0)), (1, .d ((D.l TSlot.D) s1)), (2, .d ((D.i .i64) s2)), (7, .row 7), (8, .d ((D.i .i64) s8))], [(7, .row 39 4 (w7.map TValue.D))], []⟩
def law27_all_v2_b4_O (s0 : List TRow) (s1 : List TSlot) (s2 : Int) (s8 : Int) (w7 : List TValue) (o : (List TValue) ⊕ Unit) : Ex × St := match o with
  | .inl o => (.normal, ⟨sp 77 0 [(0, .d ((D.l TRow.D) s0)), (1, .d ((D.l TSlot.D) s1)), (2, .d ((D.i .i64) s2)), (7, .row 7), (8, .d ((D.i .i64) s8))], [(7, .row 39 4 (o.map TValue.D))], []⟩)
  | .inr o => (.ret, ⟨sp 77 0 [(6, .d (D.b false))], [], []⟩)
theorem law27_all_v2_b4_ok (rd : Option Nat) (self : (List TRow) → (List TSlot) → Int → Option Bool) (hs : ∀ (a0 : List TRow) (a1 : List TSlot) (a2 : Int) (r : Bool), self a0 a1 a2 = some r → ACall Try.prog 17 [.d ((D.l TRow.D) a0), .d ((D.l TSlot.D) a1), .d ((D.i .i64) a2)] [] (.d (D.b r)) []) (s0 : List TRow) (s1 : List TSlot) (s2 : Int) (s8 : Int) (w7 : List TValue) (o : (List TValue) ⊕ Unit) (h : law27_all_v2_b4 self s0 s1 s2 s8 w7 = some o) : LpOf Try.prog rd (fbody Try.prog 17) [0, 1, 0, 0, 1, 0, 1, 1, 1, 1] (law27_all_v2_b4_I s0 s1 s2 s8 w7) (law27_all_v2_b4_O s0 s1 s2 s8 w7 o).1 (law27_all_v2_b4_O s0 s1 s2 s8 w7 o).2 := by
  unfold law27_all_v2_b4 at h
  replace h := idxE_some h
  obtain ⟨x11, h21, h⟩ := h
  replace h := bndE_some h
  obtain ⟨r12, h22, h⟩ := h
  replace h := bndE_some h
  obtain ⟨o14, h26, h⟩ := h
  replace h := iteE_some h
  rcases h with ⟨h27, h⟩ | ⟨h27, h⟩
  · skip
    obtain rfl := Option.some.inj h
    exact (runB_arr mixed [(33, .el (TRow.D x11)), (37, .ret (.tup [.d (TValue.D r12.1), .d (D.b r12.2)])), (57, .bit true)] [⟨[0, 1, 0, 1, 1, 0, 0, 1, 0, 0, 1, 0, 1, 1, 1, 1], [.live [0, 1, 2, 7, 8, 9, 10, 11, 12], .keep [7, 9]], .exit 2, (law27_all_v2_l5_O s0 s1 s2 s8 r12.2 w7 r12.1 o14).2⟩] [.live [0, 1, 2, 7, 8], .keep [7]] (And.intro (elem_map TRow.D h21) (And.intro (ref05_Get_ok x11.bind s2 r12 h22) (And.intro (law27_all_v2_l5_ok rd self hs s0 s1 s2 s8 r12.2 w7 r12.1 false 0 o14 h26) (And.intro h27 (True.intro))))) (by kernel_rfl)).lp
  · skip
    replace h := iteE_some h
    rcases h with ⟨h28, h⟩ | ⟨h28, h⟩
    · skip
      obtain rfl := Option.some.inj h
      exact (runB_arr mixed [(33, .el (TRow.D x11)), (37, .ret (.tup [.d (TValue.D r12.1), .d (D.b r12.2)])), (57, .bit false), (59, .bit true)] [⟨[0, 1, 0, 1, 1, 0, 0, 1, 0, 0, 1, 0, 1, 1, 1, 1], [.live [0, 1, 2, 7, 8, 9, 10, 11, 12], .keep [7, 9]], .exit 2, (law27_all_v2_l5_O s0 s1 s2 s8 r12.2 w7 r12.1 o14).2⟩] [.live [0, 1, 2, 7, 8], .keep [7]] (And.intro (elem_map TRow.D h21) (And.intro (ref05_Get_ok x11.bind s2 r12 h22) (And.intro (law27_all_v2_l5_ok rd self hs s0 s1 s2 s8 r12.2 w7 r12.1 false 0 o14 h26) (And.intro h27 (And.intro h28 (True.intro)))))) (by kernel_rfl)).lp
    · skip
      replace h := chkE_some h
      obtain ⟨h29, h⟩ := h
      replace h := chkE_some h
      obtain ⟨h30, h⟩ := h
      replace h := chkE_some h
      obtain ⟨h31, h⟩ := h
      replace h := bndE_some h
      obtain ⟨r15, h32, h⟩ := h
      replace h := iteE_some h
      rcases h with ⟨h33, h⟩ | ⟨h33, h⟩
      · skip
        obtain rfl := Option.some.inj h
        exact (runB_arr mixed [(33, .el (TRow.D x11)), (37, .ret (.tup [.d (TValue.D r12.1), .d (D.b r12.2)])), (57, .bit false), (59, .bit false), (63, .sl ((w7 ++ [r12.1]).map TValue.D)), (67, .sl ((([] : List TSlot) ++ s1).map TSlot.D)), (72, .sl (((([] : List TSlot) ++ s1) ++ [TSlot.mk s2 r12.1]).map TSlot.D)), (75, .ret (.d (D.b r15))), (76, .bit true)] [⟨[0, 1, 0, 1, 1, 0, 0, 1, 0, 0, 1, 0, 1, 1, 1, 1], [.live [0, 1, 2, 7, 8, 9, 10, 11, 12], .keep [7, 9]], .exit 2, (law27_all_v2_l5_O s0 s1 s2 s8 r12.2 w7 r12.1 o14).2⟩] [.live [6], .keep []] (And.intro (elem_map TRow.D h21) (And.intro (ref05_Get_ok x11.bind s2 r12 h22) (And.intro (law27_all_v2_l5_ok rd self hs s0 s1 s2 s8 r12.2 w7 r12.1 false 0 o14 h26) (And.intro h27 (And.intro h28 (And.intro (nc_ok TValue.D [r12.1]) (And.intro (nc_ok TValue.D [r12.1]) (And.intro (fit_map TValue.D h29) (And.intro (app_map TValue.D w7 [r12.1]) (And.intro (nc_ok TSlot.D ([] : List TSlot)) (And.intro (nc_ok TSlot.D s1) (And.intro (fit_map TSlot.D h30) (And.intro (app_map TSlot.D ([] : List TSlot) s1) (And.intro (nc_ok TSlot.D [TSlot.mk s2 r12.1]) (And.intro (nc_ok TSlot.D [TSlot.mk s2 r12.1]) (And.intro (fit_map TSlot.D h31) (And.intro (app_map TSlot.D (([] : List TSlot) ++ s1) [TSlot.mk s2 r12.1]) (And.intro (hs s0 ((([] : List TSlot) ++ s1) ++ [TSlot.mk s2 r12.1]) (intVal .add .i64 s2 1) r15 h32) (And.intro h33 (True.intro)))))))))))))))))))) (by kernel_rfl)).lp
      · skip
        obtain rfl := Option.some.inj h
        exact (runB_arr mixed [(33, .el (TRow.D x11)), (37, .ret (.tup [.d (TValue.D r12.1), .d (D.b r12.2)])), (57, .bit false), (59, .bit false), (63, .sl ((w7 ++ [r12.1]).map TValue.D)), (67, .sl ((([] : List TSlot) ++ s1).map TSlot.D)), (72, .sl (((([] : List TSlot) ++ s1) ++ [TSlot.mk s2 r12.1]).map TSlot.D)), (75, .ret (.d (D.b r15))), (76, .bit false)] [⟨[0, 1, 0, 1, 1, 0, 0, 1, 0, 0, 1, 0, 1, 1, 1, 1], [.live [0, 1, 2, 7, 8, 9, 10, 11, 12], .keep [7, 9]], .exit 2, (law27_all_v2_l5_O s0 s1 s2 s8 r12.2 w7 r12.1 o14).2⟩] [.live [0, 1, 2, 7, 8], .keep [63], .ren 63 7, .sort] (And.intro (elem_map TRow.D h21) (And.intro (ref05_Get_ok x11.bind s2 r12 h22) (And.intro (law27_all_v2_l5_ok rd self hs s0 s1 s2 s8 r12.2 w7 r12.1 false 0 o14 h26) (And.intro h27 (And.intro h28 (And.intro (nc_ok TValue.D [r12.1]) (And.intro (nc_ok TValue.D [r12.1]) (And.intro (fit_map TValue.D h29) (And.intro (app_map TValue.D w7 [r12.1]) (And.intro (nc_ok TSlot.D ([] : List TSlot)) (And.intro (nc_ok TSlot.D s1) (And.intro (fit_map TSlot.D h30) (And.intro (app_map TSlot.D ([] : List TSlot) s1) (And.intro (nc_ok TSlot.D [TSlot.mk s2 r12.1]) (And.intro (nc_ok TSlot.D [TSlot.mk s2 r12.1]) (And.intro (fit_map TSlot.D h31) (And.intro (app_map TSlot.D (([] : List TSlot) ++ s1) [TSlot.mk s2 r12.1]) (And.intro (hs s0 ((([] : List TSlot) ++ s1) ++ [TSlot.mk s2 r12.1]) (intVal .add .i64 s2 1) r15 h32) (And.intro h33 (True.intro)))))))))))))))))))) (by kernel_rfl)).lp
def law27_all_v2_l1_I (s0 : List TRow) (s1 : List TSlot) (s2 : Int) (s8 : Int) (w7 : List TValue) : St := ⟨sp 77 0 [(0, .d ((D.l TRow.D) s0)), (1, .d ((D.l TSlot.D) s1)), (2, .d ((D.i .i64) s2)), (7, .row 7), (8, .d ((D.i .i64) s8))], [(7, .row 39 4 (w7.map TValue.D))], []⟩
def law27_all_v2_l1_O (s0 : List TRow) (s1 : List TSlot) (s2 : Int) (o : Unit ⊕ Unit) : Ex × St := match o with
  | .inl o => (.exit 0, ⟨sp 77 0 [], [], []⟩)
  | .inr o => (.ret, ⟨sp 77 0 [(6, .d (D.b false))], [], []⟩)
theorem law27_all_v2_l1_rnd (rd : Option Nat) (self : (List TRow) → (List TSlot) → Int → Option Bool) (hs : ∀ (a0 : List TRow) (a1 : List TSlot) (a2 : Int) (r : Bool), self a0 a1 a2 = some r → ACall Try.prog 17 [.d ((D.l TRow.D) a0), .d ((D.l TSlot.D) a1), .d ((D.i .i64) a2)] [] (.d (D.b r)) []) (s0 : List TRow) (s1 : List TSlot) (s2 : Int) (s8 : Int) (w7 : List TValue) (o : (Int × List TValue) ⊕ (Unit ⊕ Unit)) (h : law27_all_v2_l1_s self s0 s1 s2 s8 w7 = some o) : Arr Try.prog rd (fbody Try.prog 17) (0 :: [0, 1, 0, 1, 1, 1, 1]) (law27_all_v2_l1_I s0 s1 s2 s8 w7) (rR (fun s : Int × List TValue => law27_all_v2_l1_I s0 s1 s2 s.1 s.2) (law27_all_v2_l1_O s0 s1 s2) o).1 (rR (fun s : Int × List TValue => law27_all_v2_l1_I s0 s1 s2 s.1 s.2) (law27_all_v2_l1_O s0 s1 s2) o).2 := by
  unfold law27_all_v2_l1_s at h
  replace h := iteE_some h
  rcases h with ⟨h20, h⟩ | ⟨h20, h⟩
  · skip
    replace h := bndE_some h
    obtain ⟨o16, h34, h⟩ := h
    replace h := sumE_some h
    rcases h with ⟨o17, rfl, h⟩ | ⟨o18, rfl, h⟩
    · skip
      obtain rfl := Option.some.inj h
      exact runB_arr mixed [(26, .int (s0.length : Int)), (27, .bit true)] [⟨[0, 1, 0, 0, 1, 0, 1, 1, 1, 1], [.live [0, 1, 2, 7, 8], .keep [7]], .normal, (law27_all_v2_b4_O s0 s1 s2 s8 w7 (Sum.inl o17)).2⟩] [.live [0, 1, 2, 7, 8], .keep [7]] (And.intro (len_map TRow.D s0) (And.intro h20 (And.intro (law27_all_v2_b4_ok rd self hs s0 s1 s2 s8 w7 (Sum.inl o17) h34) (True.intro)))) (by kernel_rfl)
    · skip
      obtain rfl := Option.some.inj h
      exact runB_arr mixed [(26, .int (s0.length : Int)), (27, .bit true)] [⟨[0, 1, 0, 0, 1, 0, 1, 1, 1, 1], [.live [0, 1, 2, 7, 8], .keep [7]], .ret, (law27_all_v2_b4_O s0 s1 s2 s8 w7 (Sum.inr o18)).2⟩] [.live [6], .keep []] (And.intro (len_map TRow.D s0) (And.intro h20 (And.intro (law27_all_v2_b4_ok rd self hs s0 s1 s2 s8 w7 (Sum.inr o18) h34) (True.intro)))) (by kernel_rfl)
  · skip
    obtain rfl := Option.some.inj h
    exact runB_arr mixed [(26, .int (s0.length : Int)), (27, .bit false)] [] [.live [], .keep []] (And.intro (len_map TRow.D s0) (And.intro h20 (True.intro))) (by kernel_rfl)
theorem law27_all_v2_l1_ok (rd : Option Nat) (self : (List TRow) → (List TSlot) → Int → Option Bool) (hs : ∀ (a0 : List TRow) (a1 : List TSlot) (a2 : Int) (r : Bool), self a0 a1 a2 = some r → ACall Try.prog 17 [.d ((D.l TRow.D) a0), .d ((D.l TSlot.D) a1), .d ((D.i .i64) a2)] [] (.d (D.b r)) []) (s0 : List TRow) (s1 : List TSlot) (s2 : Int) (s8 : Int) (w7 : List TValue) (t : Unit ⊕ Unit) (h : law27_all_v2_l1 self s0 s1 s2 s8 w7 = some t) : LpOf Try.prog rd (fbody Try.prog 17) [0, 1, 0, 1, 1, 1, 1] (law27_all_v2_l1_I s0 s1 s2 s8 w7) ((law27_all_v2_l1_O s0 s1 s2) t).1 ((law27_all_v2_l1_O s0 s1 s2) t).2 :=
  loopE_lpR (fun s : Int × List TValue => law27_all_v2_l1_I s0 s1 s2 s.1 s.2) (law27_all_v2_l1_O s0 s1 s2) (by kernel_rfl) (fun t => isN_ne (by rcases t with (_ | _) <;> rfl)) (fun s o h => law27_all_v2_l1_rnd rd self hs s0 s1 s2 s.1 s.2 o h) (s := (s8, w7)) (t := t) h
theorem law27_all_v2_F_ok (self : (List TRow) → (List TSlot) → Int → Option Bool) (hs : ∀ (a0 : List TRow) (a1 : List TSlot) (a2 : Int) (r : Bool), self a0 a1 a2 = some r → ACall Try.prog 17 [.d ((D.l TRow.D) a0), .d ((D.l TSlot.D) a1), .d ((D.i .i64) a2)] [] (.d (D.b r)) []) (a0 : List TRow) (a1 : List TSlot) (a2 : Int) (r : Bool) (h : law27_all_v2_F self a0 a1 a2 = some r) : ACall Try.prog 17 [.d ((D.l TRow.D) a0), .d ((D.l TSlot.D) a1), .d ((D.i .i64) a2)] [] (.d (D.b r)) [] := by
  unfold law27_all_v2_F at h
  replace h := iteE_some h
  rcases h with ⟨h1, h⟩ | ⟨h1, h⟩
  · skip
    replace h := bndE_some h
    obtain ⟨r1, h2, h⟩ := h
    obtain rfl := Option.some.inj h
    exact runF_call mixed [(14, .bit true), (17, .ret (.d (D.b r1)))] [] [] (And.intro h1 (And.intro (law27_agree_ok a0 a1 r1 h2) (True.intro))) (by kernel_rfl)
  · skip
    replace h := bndE_some h
    obtain ⟨r2, h3, h⟩ := h
    replace h := iteE_some h
    rcases h with ⟨h4, h⟩ | ⟨h4, h⟩
    · skip
      obtain rfl := Option.some.inj h
      exact runF_call mixed [(14, .bit false), (22, .ret (.d (D.b r2))), (23, .bit true)] [] [] (And.intro h1 (And.intro (hs a0 a1 (intVal .add .i64 a2 1) r2 h3) (And.intro h4 (True.intro)))) (by kernel_rfl)
    · skip
      replace h := bndE_some h
      obtain ⟨o19, h35, h⟩ := h
      replace h := sumE_some h
      rcases h with ⟨o20, rfl, h⟩ | ⟨o21, rfl, h⟩
      · skip
        obtain rfl := Option.some.inj h
        exact runF_call mixed [(14, .bit false), (22, .ret (.d (D.b r2))), (23, .bit false)] [⟨[0, 1, 0, 1, 1, 1, 1], [.live [0, 1, 2, 7, 8], .keep [], .nil 7 7 39 4, .sort], .exit 0, (law27_all_v2_l1_O a0 a1 a2 (Sum.inl o20)).2⟩] [] (And.intro h1 (And.intro (hs a0 a1 (intVal .add .i64 a2 1) r2 h3) (And.intro h4 (And.intro (law27_all_v2_l1_ok none self hs a0 a1 a2 0 ([] : List TValue) (Sum.inl o20) h35) (True.intro))))) (by kernel_rfl)
      · skip
        obtain rfl := Option.some.inj h
        exact runF_call mixed [(14, .bit false), (22, .ret (.d (D.b r2))), (23, .bit false)] [⟨[0, 1, 0, 1, 1, 1, 1], [.live [0, 1, 2, 7, 8], .keep [], .nil 7 7 39 4, .sort], .ret, (law27_all_v2_l1_O a0 a1 a2 (Sum.inr o21)).2⟩] [] (And.intro h1 (And.intro (hs a0 a1 (intVal .add .i64 a2 1) r2 h3) (And.intro h4 (And.intro (law27_all_v2_l1_ok none self hs a0 a1 a2 0 ([] : List TValue) (Sum.inr o21) h35) (True.intro))))) (by kernel_rfl)
theorem law27_all_v2_n_ok : ∀ (n : Nat) (a0 : List TRow) (a1 : List TSlot) (a2 : Int) (r : Bool), law27_all_v2_n n a0 a1 a2 = some r → ACall Try.prog 17 [.d ((D.l TRow.D) a0), .d ((D.l TSlot.D) a1), .d ((D.i .i64) a2)] [] (.d (D.b r)) []
  | 0, a0, a1, a2, r, h => by simp [law27_all_v2_n] at h
  | n + 1, a0, a1, a2, r, h => law27_all_v2_F_ok _ (law27_all_v2_n_ok n) a0 a1 a2 r h
theorem law27_all_v2_ok (a0 : List TRow) (a1 : List TSlot) (a2 : Int) (r : Bool) (h : law27_all_v2 a0 a1 a2 = some r) : ACall Try.prog 17 [.d ((D.l TRow.D) a0), .d ((D.l TSlot.D) a1), .d ((D.i .i64) a2)] [] (.d (D.b r)) [] := law27_all_v2_n_ok 100000 a0 a1 a2 r h
def ref05_Get_v2_l1_I (s0 : List TSlot) (s1 : Int) (w4 : TValue) (s6 : Int) : St := ⟨sp 26 0 [(0, .d ((D.l TSlot.D) s0)), (1, .d ((D.i .i64) s1)), (4, .box 4 0), (6, .d ((D.i .i64) s6))], [(4, .cells ((cellsA (TValue.D w4))))], []⟩
def ref05_Get_v2_l1_O (s0 : List TSlot) (s1 : Int) (w4 : TValue) (o : Unit ⊕ TValue) : Ex × St := match o with
  | .inl o => (.exit 0, ⟨sp 26 0 [(4, .box 4 0)], [(4, .cells ((cellsA (TValue.D w4))))], []⟩)
  | .inr o => (.ret, ⟨sp 26 0 [(4, .box 4 0), (5, .d (D.b true))], [(4, .cells ((cellsA (TValue.D o))))], []⟩)
theorem ref05_Get_v2_l1_rnd (rd : Option Nat) (s0 : List TSlot) (s1 : Int) (w4 : TValue) (s6 : Int) (o : (Int) ⊕ (Unit ⊕ TValue)) (h : ref05_Get_v2_l1_s s0 s1 w4 s6 = some o) : Arr Try.prog rd (fbody Try.prog 35) (0 :: [0, 1, 0, 1]) (ref05_Get_v2_l1_I s0 s1 w4 s6) (rR (fun s : Int => ref05_Get_v2_l1_I s0 s1 w4 s) (ref05_Get_v2_l1_O s0 s1 w4) o).1 (rR (fun s : Int => ref05_Get_v2_l1_I s0 s1 w4 s) (ref05_Get_v2_l1_O s0 s1 w4) o).2 := by
  unfold ref05_Get_v2_l1_s at h
  replace h := iteE_some h
  rcases h with ⟨h1, h⟩ | ⟨h1, h⟩
  · skip
    replace h := idxE_some h
    obtain ⟨x1, h2, h⟩ := h
    replace h := iteE_some h
    rcases h with ⟨h3, h⟩ | ⟨h3, h⟩
    · skip
      replace h := idxE_some h
      obtain ⟨x2, h4, h⟩ := h
      obtain rfl := Option.some.inj h
      exact runB_arr mixed [(9, .int (s0.length : Int)), (10, .bit true), (15, .el (TSlot.D x1)), (19, .bit true), (22, .el (TSlot.D x2))] [] [.live [4, 5], .keep [4]] (And.intro (len_map TSlot.D s0) (And.intro h1 (And.intro (elem_map TSlot.D h2) (And.intro h3 (And.intro (elem_map TSlot.D h4) (True.intro)))))) (by kernel_rfl)
    · skip
      obtain rfl := Option.some.inj h
      exact runB_arr mixed [(9, .int (s0.length : Int)), (10, .bit true), (15, .el (TSlot.D x1)), (19, .bit false)] [] [.live [0, 1, 4, 6], .keep [4]] (And.intro (len_map TSlot.D s0) (And.intro h1 (And.intro (elem_map TSlot.D h2) (And.intro h3 (True.intro))))) (by kernel_rfl)
  · skip
    obtain rfl := Option.some.inj h
    exact runB_arr mixed [(9, .int (s0.length : Int)), (10, .bit false)] [] [.live [4], .keep [4]] (And.intro (len_map TSlot.D s0) (And.intro h1 (True.intro))) (by kernel_rfl)
theorem ref05_Get_v2_l1_ok (rd : Option Nat) (s0 : List TSlot) (s1 : Int) (w4 : TValue) (s6 : Int) (t : Unit ⊕ TValue) (h : ref05_Get_v2_l1 s0 s1 w4 s6 = some t) : LpOf Try.prog rd (fbody Try.prog 35) [0, 1, 0, 1] (ref05_Get_v2_l1_I s0 s1 w4 s6) ((ref05_Get_v2_l1_O s0 s1 w4) t).1 ((ref05_Get_v2_l1_O s0 s1 w4) t).2 :=
  loopE_lpR (fun s : Int => ref05_Get_v2_l1_I s0 s1 w4 s) (ref05_Get_v2_l1_O s0 s1 w4) (by kernel_rfl) (fun t => isN_ne (by rcases t with (_ | _) <;> rfl)) (fun s o h => ref05_Get_v2_l1_rnd rd s0 s1 w4 s o h) (s := s6) (t := t) h
theorem ref05_Get_v2_ok (a0 : List TSlot) (a1 : Int) (r : TValue × Bool) (h : ref05_Get_v2 a0 a1 = some r) : ACall Try.prog 35 [.d ((D.l TSlot.D) a0), .d ((D.i .i64) a1)] [] (.tup [.d (TValue.D r.1), .d (D.b r.2)]) [] := by
  unfold ref05_Get_v2 at h
  replace h := bndE_some h
  obtain ⟨o3, h5, h⟩ := h
  replace h := sumE_some h
  rcases h with ⟨o4, rfl, h⟩ | ⟨o5, rfl, h⟩
  · skip
    obtain rfl := Option.some.inj h
    exact runF_call mixed [] [⟨[0, 1, 0, 1], [.live [0, 1, 4, 6], .keep [4]], .exit 0, (ref05_Get_v2_l1_O a0 a1 (TValue.mk 0 0 ([] : List UInt8) false) (Sum.inl o4)).2⟩] [] (And.intro (ref05_Get_v2_l1_ok none a0 a1 (TValue.mk 0 0 ([] : List UInt8) false) 0 (Sum.inl o4) h5) (True.intro)) (by kernel_rfl)
  · skip
    obtain rfl := Option.some.inj h
    exact runF_call mixed [] [⟨[0, 1, 0, 1], [.live [0, 1, 4, 6], .keep [4]], .ret, (ref05_Get_v2_l1_O a0 a1 (TValue.mk 0 0 ([] : List UInt8) false) (Sum.inr o5)).2⟩] [] (And.intro (ref05_Get_v2_l1_ok none a0 a1 (TValue.mk 0 0 ([] : List UInt8) false) 0 (Sum.inr o5) h5) (True.intro)) (by kernel_rfl)
def law27_all_l5_I (s0 : List TRow) (s1 : List TSlot) (s2 : Int) (s8 : Int) (s10 : Bool) (w7 : List TValue) (w9 : TValue) (s11 : Bool) (s12 : Int) : St := ⟨sp 77 0 [(0, .d ((D.l TRow.D) s0)), (1, .d ((D.l TSlot.D) s1)), (2, .d ((D.i .i64) s2)), (7, .row 7), (8, .d ((D.i .i64) s8)), (9, .box 9 0), (10, .d (D.b s10)), (11, .d (D.b s11)), (12, .d ((D.i .i64) s12))], [(7, .row 39 4 (w7.map TValue.D)), (9, .cells ((cellsA (TValue.D w9))))], []⟩
def law27_all_l5_O (s0 : List TRow) (s1 : List TSlot) (s2 : Int) (s8 : Int) (s10 : Bool) (w7 : List TValue) (w9 : TValue) (o : Bool) : Ex × St := (.exit 2, ⟨sp 77 0 [(0, .d ((D.l TRow.D) s0)), (1, .d ((D.l TSlot.D) s1)), (2, .d ((D.i .i64) s2)), (7, .row 7), (8, .d ((D.i .i64) s8)), (9, .box 9 0), (10, .d (D.b s10)), (11, .d (D.b o))], [(7, .row 39 4 (w7.map TValue.D)), (9, .cells ((cellsA (TValue.D w9))))], []⟩)
theorem law27_all_l5_rnd (rd : Option Nat) (s0 : List TRow) (s1 : List TSlot) (s2 : Int) (s8 : Int) (s10 : Bool) (w7 : List TValue) (w9 : TValue) (s11 : Bool) (s12 : Int) (o : (Bool × Int) ⊕ (Bool)) (h : law27_all_l5_s s0 s1 s2 s8 s10 w7 w9 s11 s12 = some o) : Arr Try.prog rd (fbody Try.prog 17) (0 :: [0, 1, 0, 1, 1, 0, 0, 1, 0, 0, 1, 0, 1, 1, 1, 1]) (law27_all_l5_I s0 s1 s2 s8 s10 w7 w9 s11 s12) (rR (fun s : Bool × Int => law27_all_l5_I s0 s1 s2 s8 s10 w7 w9 s.1 s.2) (law27_all_l5_O s0 s1 s2 s8 s10 w7 w9) o).1 (rR (fun s : Bool × Int => law27_all_l5_I s0 s1 s2 s8 s10 w7 w9 s.1 s.2) (law27_all_l5_O s0 s1 s2 s8 s10 w7 w9) o).2 := by
  unfold law27_all_l5_s at h
  replace h := iteE_some h
  rcases h with ⟨h23, h⟩ | ⟨h23, h⟩
  · skip
    replace h := iteE_some h
    rcases h with ⟨h24, h⟩ | ⟨h24, h⟩
    · skip
      obtain rfl := Option.some.inj h
      exact runB_arr mixed [(42, .int (w7.length : Int)), (43, .bit true), (47, .bit true)] [] [.live [0, 1, 2, 7, 8, 9, 10, 11, 12], .keep [7, 9]] (And.intro (len_map TValue.D w7) (And.intro h23 (And.intro h24 (True.intro)))) (by kernel_rfl)
    · skip
      replace h := idxE_some h
      obtain ⟨x13, h25, h⟩ := h
      obtain rfl := Option.some.inj h
      exact runB_arr mixed [(42, .int (w7.length : Int)), (43, .bit true), (47, .bit false), (50, .el (TValue.D x13))] [] [.live [0, 1, 2, 7, 8, 9, 10, 11, 12], .keep [7, 9]] (And.intro (len_map TValue.D w7) (And.intro h23 (And.intro h24 (And.intro (elem_map TValue.D h25) (True.intro))))) (by kernel_rfl)
  · skip
    obtain rfl := Option.some.inj h
    exact runB_arr mixed [(42, .int (w7.length : Int)), (43, .bit false)] [] [.live [0, 1, 2, 7, 8, 9, 10, 11], .keep [7, 9]] (And.intro (len_map TValue.D w7) (And.intro h23 (True.intro))) (by kernel_rfl)
theorem law27_all_l5_ok (rd : Option Nat) (s0 : List TRow) (s1 : List TSlot) (s2 : Int) (s8 : Int) (s10 : Bool) (w7 : List TValue) (w9 : TValue) (s11 : Bool) (s12 : Int) (t : Bool) (h : law27_all_l5 s0 s1 s2 s8 s10 w7 w9 s11 s12 = some t) : LpOf Try.prog rd (fbody Try.prog 17) [0, 1, 0, 1, 1, 0, 0, 1, 0, 0, 1, 0, 1, 1, 1, 1] (law27_all_l5_I s0 s1 s2 s8 s10 w7 w9 s11 s12) ((law27_all_l5_O s0 s1 s2 s8 s10 w7 w9) t).1 ((law27_all_l5_O s0 s1 s2 s8 s10 w7 w9) t).2 :=
  loopE_lpR (fun s : Bool × Int => law27_all_l5_I s0 s1 s2 s8 s10 w7 w9 s.1 s.2) (law27_all_l5_O s0 s1 s2 s8 s10 w7 w9) (by kernel_rfl) (fun t => isN_ne (by rfl)) (fun s o h => law27_all_l5_rnd rd s0 s1 s2 s8 s10 w7 w9 s.1 s.2 o h) (s := (s11, s12)) (t := t) h
def law27_all_b4_I (s0 : List TRow) (s1 : List TSlot) (s2 : Int) (s8 : Int) (w7 : List TValue) : St := ⟨sp 77 0 [(0, .d ((D.l TRow.D) s0)), (1, .d ((D.l TSlot.D) s1)), (2, .d ((D.i .i64) s2)), (7, .row 7), (8, .d ((D.i .i64) s8))], [(7, .row 39 4 (w7.map TValue.D))], []⟩
def law27_all_b4_O (s0 : List TRow) (s1 : List TSlot) (s2 : Int) (s8 : Int) (w7 : List TValue) (o : (List TValue) ⊕ Unit) : Ex × St := match o with
  | .inl o => (.normal, ⟨sp 77 0 [(0, .d ((D.l TRow.D) s0)), (1, .d ((D.l TSlot.D) s1)), (2, .d ((D.i .i64) s2)), (7, .row 7), (8, .d ((D.i .i64) s8))], [(7, .row 39 4 (o.map TValue.D))], []⟩)
  | .inr o => (.ret, ⟨sp 77 0 [(6, .d (D.b false))], [], []⟩)
theorem law27_all_b4_ok (rd : Option Nat) (s0 : List TRow) (s1 : List TSlot) (s2 : Int) (s8 : Int) (w7 : List TValue) (o : (List TValue) ⊕ Unit) (h : law27_all_b4 s0 s1 s2 s8 w7 = some o) : LpOf Try.prog rd (fbody Try.prog 17) [0, 1, 0, 0, 1, 0, 1, 1, 1, 1] (law27_all_b4_I s0 s1 s2 s8 w7) (law27_all_b4_O s0 s1 s2 s8 w7 o).1 (law27_all_b4_O s0 s1 s2 s8 w7 o).2 := by
  unfold law27_all_b4 at h
  replace h := idxE_some h
  obtain ⟨x11, h21, h⟩ := h
  replace h := bndE_some h
  obtain ⟨r12, h22, h⟩ := h
  replace h := bndE_some h
  obtain ⟨o14, h26, h⟩ := h
  replace h := iteE_some h
  rcases h with ⟨h27, h⟩ | ⟨h27, h⟩
  · skip
    obtain rfl := Option.some.inj h
    exact (runB_arr mixed [(33, .el (TRow.D x11)), (37, .ret (.tup [.d (TValue.D r12.1), .d (D.b r12.2)])), (57, .bit true)] [⟨[0, 1, 0, 1, 1, 0, 0, 1, 0, 0, 1, 0, 1, 1, 1, 1], [.live [0, 1, 2, 7, 8, 9, 10, 11, 12], .keep [7, 9]], .exit 2, (law27_all_l5_O s0 s1 s2 s8 r12.2 w7 r12.1 o14).2⟩] [.live [0, 1, 2, 7, 8], .keep [7]] (And.intro (elem_map TRow.D h21) (And.intro (ref05_Get_v2_ok x11.bind s2 r12 h22) (And.intro (law27_all_l5_ok rd s0 s1 s2 s8 r12.2 w7 r12.1 false 0 o14 h26) (And.intro h27 (True.intro))))) (by kernel_rfl)).lp
  · skip
    replace h := iteE_some h
    rcases h with ⟨h28, h⟩ | ⟨h28, h⟩
    · skip
      obtain rfl := Option.some.inj h
      exact (runB_arr mixed [(33, .el (TRow.D x11)), (37, .ret (.tup [.d (TValue.D r12.1), .d (D.b r12.2)])), (57, .bit false), (59, .bit true)] [⟨[0, 1, 0, 1, 1, 0, 0, 1, 0, 0, 1, 0, 1, 1, 1, 1], [.live [0, 1, 2, 7, 8, 9, 10, 11, 12], .keep [7, 9]], .exit 2, (law27_all_l5_O s0 s1 s2 s8 r12.2 w7 r12.1 o14).2⟩] [.live [0, 1, 2, 7, 8], .keep [7]] (And.intro (elem_map TRow.D h21) (And.intro (ref05_Get_v2_ok x11.bind s2 r12 h22) (And.intro (law27_all_l5_ok rd s0 s1 s2 s8 r12.2 w7 r12.1 false 0 o14 h26) (And.intro h27 (And.intro h28 (True.intro)))))) (by kernel_rfl)).lp
    · skip
      replace h := chkE_some h
      obtain ⟨h29, h⟩ := h
      replace h := chkE_some h
      obtain ⟨h30, h⟩ := h
      replace h := chkE_some h
      obtain ⟨h31, h⟩ := h
      replace h := bndE_some h
      obtain ⟨r15, h32, h⟩ := h
      replace h := iteE_some h
      rcases h with ⟨h33, h⟩ | ⟨h33, h⟩
      · skip
        obtain rfl := Option.some.inj h
        exact (runB_arr mixed [(33, .el (TRow.D x11)), (37, .ret (.tup [.d (TValue.D r12.1), .d (D.b r12.2)])), (57, .bit false), (59, .bit false), (63, .sl ((w7 ++ [r12.1]).map TValue.D)), (67, .sl ((([] : List TSlot) ++ s1).map TSlot.D)), (72, .sl (((([] : List TSlot) ++ s1) ++ [TSlot.mk s2 r12.1]).map TSlot.D)), (75, .ret (.d (D.b r15))), (76, .bit true)] [⟨[0, 1, 0, 1, 1, 0, 0, 1, 0, 0, 1, 0, 1, 1, 1, 1], [.live [0, 1, 2, 7, 8, 9, 10, 11, 12], .keep [7, 9]], .exit 2, (law27_all_l5_O s0 s1 s2 s8 r12.2 w7 r12.1 o14).2⟩] [.live [6], .keep []] (And.intro (elem_map TRow.D h21) (And.intro (ref05_Get_v2_ok x11.bind s2 r12 h22) (And.intro (law27_all_l5_ok rd s0 s1 s2 s8 r12.2 w7 r12.1 false 0 o14 h26) (And.intro h27 (And.intro h28 (And.intro (nc_ok TValue.D [r12.1]) (And.intro (nc_ok TValue.D [r12.1]) (And.intro (fit_map TValue.D h29) (And.intro (app_map TValue.D w7 [r12.1]) (And.intro (nc_ok TSlot.D ([] : List TSlot)) (And.intro (nc_ok TSlot.D s1) (And.intro (fit_map TSlot.D h30) (And.intro (app_map TSlot.D ([] : List TSlot) s1) (And.intro (nc_ok TSlot.D [TSlot.mk s2 r12.1]) (And.intro (nc_ok TSlot.D [TSlot.mk s2 r12.1]) (And.intro (fit_map TSlot.D h31) (And.intro (app_map TSlot.D (([] : List TSlot) ++ s1) [TSlot.mk s2 r12.1]) (And.intro (law27_all_v2_ok s0 ((([] : List TSlot) ++ s1) ++ [TSlot.mk s2 r12.1]) (intVal .add .i64 s2 1) r15 h32) (And.intro h33 (True.intro)))))))))))))))))))) (by kernel_rfl)).lp
      · skip
        obtain rfl := Option.some.inj h
        exact (runB_arr mixed [(33, .el (TRow.D x11)), (37, .ret (.tup [.d (TValue.D r12.1), .d (D.b r12.2)])), (57, .bit false), (59, .bit false), (63, .sl ((w7 ++ [r12.1]).map TValue.D)), (67, .sl ((([] : List TSlot) ++ s1).map TSlot.D)), (72, .sl (((([] : List TSlot) ++ s1) ++ [TSlot.mk s2 r12.1]).map TSlot.D)), (75, .ret (.d (D.b r15))), (76, .bit false)] [⟨[0, 1, 0, 1, 1, 0, 0, 1, 0, 0, 1, 0, 1, 1, 1, 1], [.live [0, 1, 2, 7, 8, 9, 10, 11, 12], .keep [7, 9]], .exit 2, (law27_all_l5_O s0 s1 s2 s8 r12.2 w7 r12.1 o14).2⟩] [.live [0, 1, 2, 7, 8], .keep [63], .ren 63 7, .sort] (And.intro (elem_map TRow.D h21) (And.intro (ref05_Get_v2_ok x11.bind s2 r12 h22) (And.intro (law27_all_l5_ok rd s0 s1 s2 s8 r12.2 w7 r12.1 false 0 o14 h26) (And.intro h27 (And.intro h28 (And.intro (nc_ok TValue.D [r12.1]) (And.intro (nc_ok TValue.D [r12.1]) (And.intro (fit_map TValue.D h29) (And.intro (app_map TValue.D w7 [r12.1]) (And.intro (nc_ok TSlot.D ([] : List TSlot)) (And.intro (nc_ok TSlot.D s1) (And.intro (fit_map TSlot.D h30) (And.intro (app_map TSlot.D ([] : List TSlot) s1) (And.intro (nc_ok TSlot.D [TSlot.mk s2 r12.1]) (And.intro (nc_ok TSlot.D [TSlot.mk s2 r12.1]) (And.intro (fit_map TSlot.D h31) (And.intro (app_map TSlot.D (([] : List TSlot) ++ s1) [TSlot.mk s2 r12.1]) (And.intro (law27_all_v2_ok s0 ((([] : List TSlot) ++ s1) ++ [TSlot.mk s2 r12.1]) (intVal .add .i64 s2 1) r15 h32) (And.intro h33 (True.intro)))))))))))))))))))) (by kernel_rfl)).lp
def law27_all_l1_I (s0 : List TRow) (s1 : List TSlot) (s2 : Int) (s8 : Int) (w7 : List TValue) : St := ⟨sp 77 0 [(0, .d ((D.l TRow.D) s0)), (1, .d ((D.l TSlot.D) s1)), (2, .d ((D.i .i64) s2)), (7, .row 7), (8, .d ((D.i .i64) s8))], [(7, .row 39 4 (w7.map TValue.D))], []⟩
def law27_all_l1_O (s0 : List TRow) (s1 : List TSlot) (s2 : Int) (o : Unit ⊕ Unit) : Ex × St := match o with
  | .inl o => (.exit 0, ⟨sp 77 0 [], [], []⟩)
  | .inr o => (.ret, ⟨sp 77 0 [(6, .d (D.b false))], [], []⟩)
theorem law27_all_l1_rnd (rd : Option Nat) (s0 : List TRow) (s1 : List TSlot) (s2 : Int) (s8 : Int) (w7 : List TValue) (o : (Int × List TValue) ⊕ (Unit ⊕ Unit)) (h : law27_all_l1_s s0 s1 s2 s8 w7 = some o) : Arr Try.prog rd (fbody Try.prog 17) (0 :: [0, 1, 0, 1, 1, 1, 1]) (law27_all_l1_I s0 s1 s2 s8 w7) (rR (fun s : Int × List TValue => law27_all_l1_I s0 s1 s2 s.1 s.2) (law27_all_l1_O s0 s1 s2) o).1 (rR (fun s : Int × List TValue => law27_all_l1_I s0 s1 s2 s.1 s.2) (law27_all_l1_O s0 s1 s2) o).2 := by
  unfold law27_all_l1_s at h
  replace h := iteE_some h
  rcases h with ⟨h20, h⟩ | ⟨h20, h⟩
  · skip
    replace h := bndE_some h
    obtain ⟨o16, h34, h⟩ := h
    replace h := sumE_some h
    rcases h with ⟨o17, rfl, h⟩ | ⟨o18, rfl, h⟩
    · skip
      obtain rfl := Option.some.inj h
      exact runB_arr mixed [(26, .int (s0.length : Int)), (27, .bit true)] [⟨[0, 1, 0, 0, 1, 0, 1, 1, 1, 1], [.live [0, 1, 2, 7, 8], .keep [7]], .normal, (law27_all_b4_O s0 s1 s2 s8 w7 (Sum.inl o17)).2⟩] [.live [0, 1, 2, 7, 8], .keep [7]] (And.intro (len_map TRow.D s0) (And.intro h20 (And.intro (law27_all_b4_ok rd s0 s1 s2 s8 w7 (Sum.inl o17) h34) (True.intro)))) (by kernel_rfl)
    · skip
      obtain rfl := Option.some.inj h
      exact runB_arr mixed [(26, .int (s0.length : Int)), (27, .bit true)] [⟨[0, 1, 0, 0, 1, 0, 1, 1, 1, 1], [.live [0, 1, 2, 7, 8], .keep [7]], .ret, (law27_all_b4_O s0 s1 s2 s8 w7 (Sum.inr o18)).2⟩] [.live [6], .keep []] (And.intro (len_map TRow.D s0) (And.intro h20 (And.intro (law27_all_b4_ok rd s0 s1 s2 s8 w7 (Sum.inr o18) h34) (True.intro)))) (by kernel_rfl)
  · skip
    obtain rfl := Option.some.inj h
    exact runB_arr mixed [(26, .int (s0.length : Int)), (27, .bit false)] [] [.live [], .keep []] (And.intro (len_map TRow.D s0) (And.intro h20 (True.intro))) (by kernel_rfl)
theorem law27_all_l1_ok (rd : Option Nat) (s0 : List TRow) (s1 : List TSlot) (s2 : Int) (s8 : Int) (w7 : List TValue) (t : Unit ⊕ Unit) (h : law27_all_l1 s0 s1 s2 s8 w7 = some t) : LpOf Try.prog rd (fbody Try.prog 17) [0, 1, 0, 1, 1, 1, 1] (law27_all_l1_I s0 s1 s2 s8 w7) ((law27_all_l1_O s0 s1 s2) t).1 ((law27_all_l1_O s0 s1 s2) t).2 :=
  loopE_lpR (fun s : Int × List TValue => law27_all_l1_I s0 s1 s2 s.1 s.2) (law27_all_l1_O s0 s1 s2) (by kernel_rfl) (fun t => isN_ne (by rcases t with (_ | _) <;> rfl)) (fun s o h => law27_all_l1_rnd rd s0 s1 s2 s.1 s.2 o h) (s := (s8, w7)) (t := t) h
theorem law27_all_ok (a0 : List TRow) (a1 : List TSlot) (a2 : Int) (r : Bool) (h : law27_all a0 a1 a2 = some r) : ACall Try.prog 17 [.d ((D.l TRow.D) a0), .d ((D.l TSlot.D) a1), .d ((D.i .i64) a2)] [] (.d (D.b r)) [] := by
  unfold law27_all at h
  replace h := iteE_some h
  rcases h with ⟨h1, h⟩ | ⟨h1, h⟩
  · skip
    replace h := bndE_some h
    obtain ⟨r1, h2, h⟩ := h
    obtain rfl := Option.some.inj h
    exact runF_call mixed [(14, .bit true), (17, .ret (.d (D.b r1)))] [] [] (And.intro h1 (And.intro (law27_agree_ok a0 a1 r1 h2) (True.intro))) (by kernel_rfl)
  · skip
    replace h := bndE_some h
    obtain ⟨r2, h3, h⟩ := h
    replace h := iteE_some h
    rcases h with ⟨h4, h⟩ | ⟨h4, h⟩
    · skip
      obtain rfl := Option.some.inj h
      exact runF_call mixed [(14, .bit false), (22, .ret (.d (D.b r2))), (23, .bit true)] [] [] (And.intro h1 (And.intro (law27_all_v2_ok a0 a1 (intVal .add .i64 a2 1) r2 h3) (And.intro h4 (True.intro)))) (by kernel_rfl)
    · skip
      replace h := bndE_some h
      obtain ⟨o19, h35, h⟩ := h
      replace h := sumE_some h
      rcases h with ⟨o20, rfl, h⟩ | ⟨o21, rfl, h⟩
      · skip
        obtain rfl := Option.some.inj h
        exact runF_call mixed [(14, .bit false), (22, .ret (.d (D.b r2))), (23, .bit false)] [⟨[0, 1, 0, 1, 1, 1, 1], [.live [0, 1, 2, 7, 8], .keep [], .nil 7 7 39 4, .sort], .exit 0, (law27_all_l1_O a0 a1 a2 (Sum.inl o20)).2⟩] [] (And.intro h1 (And.intro (law27_all_v2_ok a0 a1 (intVal .add .i64 a2 1) r2 h3) (And.intro h4 (And.intro (law27_all_l1_ok none a0 a1 a2 0 ([] : List TValue) (Sum.inl o20) h35) (True.intro))))) (by kernel_rfl)
      · skip
        obtain rfl := Option.some.inj h
        exact runF_call mixed [(14, .bit false), (22, .ret (.d (D.b r2))), (23, .bit false)] [⟨[0, 1, 0, 1, 1, 1, 1], [.live [0, 1, 2, 7, 8], .keep [], .nil 7 7 39 4, .sort], .ret, (law27_all_l1_O a0 a1 a2 (Sum.inr o21)).2⟩] [] (And.intro h1 (And.intro (law27_all_v2_ok a0 a1 (intVal .add .i64 a2 1) r2 h3) (And.intro h4 (And.intro (law27_all_l1_ok none a0 a1 a2 0 ([] : List TValue) (Sum.inr o21) h35) (True.intro))))) (by kernel_rfl)
theorem ref26_Copy_ok (a0 : List TRow) (a1 : List TSlot) (r : List TConfig × Bool) (h : ref26_Copy a0 a1 = some r) : ACall Try.prog 18 [.d ((D.l TRow.D) a0), .d ((D.l TSlot.D) a1)] [] (.tup [.d ((D.l TConfig.D) r.1), .d (D.b r.2)]) [] := by
  unfold ref26_Copy at h
  replace h := bndE_some h
  obtain ⟨r1, h1, h⟩ := h
  replace h := iteE_some h
  rcases h with ⟨h2, h⟩ | ⟨h2, h⟩
  · skip
    obtain rfl := Option.some.inj h
    exact runF_call mixed [(9, .ret (.d ((D.l (D.i .i64)) r1))), (11, .int (r1.length : Int)), (12, .bit true)] [] [] (And.intro (ref26_Most_ok a0 a1 false r1 h1) (And.intro (len_map (D.i .i64) r1) (And.intro h2 (True.intro)))) (by kernel_rfl)
  · skip
    replace h := idxE_some h
    obtain ⟨x2, h3, h⟩ := h
    replace h := idxE_some h
    obtain ⟨x3, h4, h⟩ := h
    obtain rfl := Option.some.inj h
    exact runF_call mixed [(9, .ret (.d ((D.l (D.i .i64)) r1))), (11, .int (r1.length : Int)), (12, .bit false), (15, .el ((D.i .i64) x2)), (17, .el (TRow.D x3))] [] [] (And.intro (ref26_Most_ok a0 a1 false r1 h1) (And.intro (len_map (D.i .i64) r1) (And.intro h2 (And.intro (elem_map (D.i .i64) h3) (And.intro (elem_map TRow.D h4) (True.intro)))))) (by kernel_rfl)
def law27_PruneKeeps_l1_I (s1 : List TSlot) (s5 : List TRow) (s6 : Int) : St := ⟨sp 101 0 [(1, .d ((D.l TSlot.D) s1)), (5, .d ((D.l TRow.D) s5)), (6, .d ((D.i .i64) s6))], [], []⟩
def law27_PruneKeeps_l1_O (s1 : List TSlot) (s5 : List TRow) (o : Unit ⊕ Bool) : Ex × St := match o with
  | .inl o => (.exit 0, ⟨sp 101 0 [(1, .d ((D.l TSlot.D) s1)), (5, .d ((D.l TRow.D) s5))], [], []⟩)
  | .inr o => (.ret, ⟨sp 101 0 [(4, .d (D.b o))], [], []⟩)
theorem law27_PruneKeeps_l1_rnd (rd : Option Nat) (s1 : List TSlot) (s5 : List TRow) (s6 : Int) (o : (Int) ⊕ (Unit ⊕ Bool)) (h : law27_PruneKeeps_l1_s s1 s5 s6 = some o) : Arr Try.prog rd (fbody Try.prog 4) (0 :: [0, 1, 0, 1, 1, 1]) (law27_PruneKeeps_l1_I s1 s5 s6) (rR (fun s : Int => law27_PruneKeeps_l1_I s1 s5 s) (law27_PruneKeeps_l1_O s1 s5) o).1 (rR (fun s : Int => law27_PruneKeeps_l1_I s1 s5 s) (law27_PruneKeeps_l1_O s1 s5) o).2 := by
  unfold law27_PruneKeeps_l1_s at h
  replace h := iteE_some h
  rcases h with ⟨h9, h⟩ | ⟨h9, h⟩
  · skip
    replace h := idxE_some h
    obtain ⟨x6, h10, h⟩ := h
    replace h := iteE_some h
    rcases h with ⟨h11, h⟩ | ⟨h11, h⟩
    · skip
      replace h := idxE_some h
      obtain ⟨x7, h12, h⟩ := h
      replace h := idxE_some h
      obtain ⟨x8, h13, h⟩ := h
      replace h := idxE_some h
      obtain ⟨x9, h14, h⟩ := h
      replace h := iteE_some h
      rcases h with ⟨h15, h⟩ | ⟨h15, h⟩
      · skip
        replace h := bndE_some h
        obtain ⟨r10, h16, h⟩ := h
        obtain rfl := Option.some.inj h
        exact runB_arr mixed [(30, .int (s5.length : Int)), (31, .bit true), (36, .el (TRow.D x6)), (39, .int (x6.bind.length : Int)), (41, .bit true), (44, .el (TRow.D x7)), (49, .el (TRow.D x8)), (52, .int (x8.bind.length : Int)), (54, .el (TSlot.D x9)), (58, .bit true), (59, .ret (.d (D.b r10)))] [] [.live [4], .keep []] (And.intro (len_map TRow.D s5) (And.intro h9 (And.intro (elem_map TRow.D h10) (And.intro (len_map TSlot.D x6.bind) (And.intro h11 (And.intro (elem_map TRow.D h12) (And.intro (elem_map TRow.D h13) (And.intro (len_map TSlot.D x8.bind) (And.intro (elem_map TSlot.D h14) (And.intro h15 (And.intro (law27_awake_ok r10 h16) (True.intro)))))))))))) (by kernel_rfl)
      · skip
        obtain rfl := Option.some.inj h
        exact runB_arr mixed [(30, .int (s5.length : Int)), (31, .bit true), (36, .el (TRow.D x6)), (39, .int (x6.bind.length : Int)), (41, .bit true), (44, .el (TRow.D x7)), (49, .el (TRow.D x8)), (52, .int (x8.bind.length : Int)), (54, .el (TSlot.D x9)), (58, .bit false)] [] [.live [1, 5, 6], .keep []] (And.intro (len_map TRow.D s5) (And.intro h9 (And.intro (elem_map TRow.D h10) (And.intro (len_map TSlot.D x6.bind) (And.intro h11 (And.intro (elem_map TRow.D h12) (And.intro (elem_map TRow.D h13) (And.intro (len_map TSlot.D x8.bind) (And.intro (elem_map TSlot.D h14) (And.intro h15 (True.intro))))))))))) (by kernel_rfl)
    · skip
      obtain rfl := Option.some.inj h
      exact runB_arr mixed [(30, .int (s5.length : Int)), (31, .bit true), (36, .el (TRow.D x6)), (39, .int (x6.bind.length : Int)), (41, .bit false)] [] [.live [1, 5, 6], .keep []] (And.intro (len_map TRow.D s5) (And.intro h9 (And.intro (elem_map TRow.D h10) (And.intro (len_map TSlot.D x6.bind) (And.intro h11 (True.intro)))))) (by kernel_rfl)
  · skip
    obtain rfl := Option.some.inj h
    exact runB_arr mixed [(30, .int (s5.length : Int)), (31, .bit false)] [] [.live [1, 5], .keep []] (And.intro (len_map TRow.D s5) (And.intro h9 (True.intro))) (by kernel_rfl)
theorem law27_PruneKeeps_l1_ok (rd : Option Nat) (s1 : List TSlot) (s5 : List TRow) (s6 : Int) (t : Unit ⊕ Bool) (h : law27_PruneKeeps_l1 s1 s5 s6 = some t) : LpOf Try.prog rd (fbody Try.prog 4) [0, 1, 0, 1, 1, 1] (law27_PruneKeeps_l1_I s1 s5 s6) ((law27_PruneKeeps_l1_O s1 s5) t).1 ((law27_PruneKeeps_l1_O s1 s5) t).2 :=
  loopE_lpR (fun s : Int => law27_PruneKeeps_l1_I s1 s5 s) (law27_PruneKeeps_l1_O s1 s5) (by kernel_rfl) (fun t => isN_ne (by rcases t with (_ | _) <;> rfl)) (fun s o h => law27_PruneKeeps_l1_rnd rd s1 s5 s o h) (s := s6) (t := t) h
theorem law27_PruneKeeps_ok (a0 : List Tproctorlaw27_Seed) (a1 : List TSlot) (r : Bool) (h : law27_PruneKeeps a0 a1 = some r) : ACall Try.prog 4 [.d ((D.l Tproctorlaw27_Seed.D) a0), .d ((D.l TSlot.D) a1)] [] (.d (D.b r)) [] := by
  unfold law27_PruneKeeps at h
  replace h := iteE_some h
  rcases h with ⟨h1, h⟩ | ⟨h1, h⟩
  · skip
    replace h := bndE_some h
    obtain ⟨r1, h2, h⟩ := h
    obtain rfl := Option.some.inj h
    exact runF_call mixed [(13, .int (a0.length : Int)), (15, .bit true), (25, .ret (.d (D.b r1)))] [] [] (And.intro (len_map Tproctorlaw27_Seed.D a0) (And.intro h1 (And.intro (law27_awake_ok r1 h2) (True.intro)))) (by kernel_rfl)
  · skip
    replace h := iteE_some h
    rcases h with ⟨h3, h⟩ | ⟨h3, h⟩
    · skip
      replace h := bndE_some h
      obtain ⟨r2, h4, h⟩ := h
      obtain rfl := Option.some.inj h
      exact runF_call mixed [(13, .int (a0.length : Int)), (15, .bit false), (17, .int (a1.length : Int)), (20, .bit true), (25, .ret (.d (D.b r2)))] [] [] (And.intro (len_map Tproctorlaw27_Seed.D a0) (And.intro h1 (And.intro (len_map TSlot.D a1) (And.intro h3 (And.intro (law27_awake_ok r2 h4) (True.intro)))))) (by kernel_rfl)
    · skip
      replace h := bndE_some h
      obtain ⟨r3, h5, h⟩ := h
      replace h := iteE_some h
      rcases h with ⟨h6, h⟩ | ⟨h6, h⟩
      · skip
        replace h := bndE_some h
        obtain ⟨r4, h7, h⟩ := h
        obtain rfl := Option.some.inj h
        exact runF_call mixed [(13, .int (a0.length : Int)), (15, .bit false), (17, .int (a1.length : Int)), (20, .bit false), (22, .ret (.d (D.b r3))), (24, .bit true), (25, .ret (.d (D.b r4)))] [] [] (And.intro (len_map Tproctorlaw27_Seed.D a0) (And.intro h1 (And.intro (len_map TSlot.D a1) (And.intro h3 (And.intro (ref05_Right_ok a1 r3 h5) (And.intro h6 (And.intro (law27_awake_ok r4 h7) (True.intro)))))))) (by kernel_rfl)
      · skip
        replace h := bndE_some h
        obtain ⟨r5, h8, h⟩ := h
        replace h := bndE_some h
        obtain ⟨o11, h17, h⟩ := h
        replace h := sumE_some h
        rcases h with ⟨o12, rfl, h⟩ | ⟨o13, rfl, h⟩
        · skip
          replace h := bndE_some h
          obtain ⟨r14, h18, h⟩ := h
          replace h := bndE_some h
          obtain ⟨r15, h19, h⟩ := h
          replace h := iteE_some h
          rcases h with ⟨h20, h⟩ | ⟨h20, h⟩
          · skip
            obtain rfl := Option.some.inj h
            exact runF_call mixed [(13, .int (a0.length : Int)), (15, .bit false), (17, .int (a1.length : Int)), (20, .bit false), (22, .ret (.d (D.b r3))), (24, .bit false), (27, .ret (.d ((D.l TRow.D) r5))), (62, .ret (.d (D.b r14))), (65, .ret (.d (D.b r15))), (66, .bit true)] [⟨[0, 1, 0, 1, 1, 1], [.live [1, 5, 6], .keep []], .exit 0, (law27_PruneKeeps_l1_O a1 r5 (Sum.inl o12)).2⟩] [] (And.intro (len_map Tproctorlaw27_Seed.D a0) (And.intro h1 (And.intro (len_map TSlot.D a1) (And.intro h3 (And.intro (ref05_Right_ok a1 r3 h5) (And.intro h6 (And.intro (law27_rows_ok a0 r5 h8) (And.intro (law27_PruneKeeps_l1_ok none a1 r5 0 (Sum.inl o12) h17) (And.intro (prune_Agree_ok r5 a1 r14 h18) (And.intro (law27_agree_ok r5 a1 r15 h19) (And.intro h20 (True.intro)))))))))))) (by kernel_rfl)
          · skip
            replace h := bndE_some h
            obtain ⟨r16, h21, h⟩ := h
            replace h := iteE_some h
            rcases h with ⟨h22, h⟩ | ⟨h22, h⟩
            · skip
              replace h := bndE_some h
              obtain ⟨r17, h23, h⟩ := h
              obtain rfl := Option.some.inj h
              exact runF_call mixed [(13, .int (a0.length : Int)), (15, .bit false), (17, .int (a1.length : Int)), (20, .bit false), (22, .ret (.d (D.b r3))), (24, .bit false), (27, .ret (.d ((D.l TRow.D) r5))), (62, .ret (.d (D.b r14))), (65, .ret (.d (D.b r15))), (66, .bit false), (68, .ret (.d (D.b r16))), (69, .bit true), (70, .ret (.d (D.b r17)))] [⟨[0, 1, 0, 1, 1, 1], [.live [1, 5, 6], .keep []], .exit 0, (law27_PruneKeeps_l1_O a1 r5 (Sum.inl o12)).2⟩] [] (And.intro (len_map Tproctorlaw27_Seed.D a0) (And.intro h1 (And.intro (len_map TSlot.D a1) (And.intro h3 (And.intro (ref05_Right_ok a1 r3 h5) (And.intro h6 (And.intro (law27_rows_ok a0 r5 h8) (And.intro (law27_PruneKeeps_l1_ok none a1 r5 0 (Sum.inl o12) h17) (And.intro (prune_Agree_ok r5 a1 r14 h18) (And.intro (law27_agree_ok r5 a1 r15 h19) (And.intro h20 (And.intro (law27_all_ok r5 ([] : List TSlot) 0 r16 h21) (And.intro h22 (And.intro (law27_awake_ok r17 h23) (True.intro))))))))))))))) (by kernel_rfl)
            · skip
              replace h := bndE_some h
              obtain ⟨r18, h24, h⟩ := h
              replace h := bndE_some h
              obtain ⟨r19, h25, h⟩ := h
              replace h := bndE_some h
              obtain ⟨r20, h26, h⟩ := h
              replace h := iteE_some h
              rcases h with ⟨h27, h⟩ | ⟨h27, h⟩
              · skip
                replace h := bndE_some h
                obtain ⟨r21, h28, h⟩ := h
                cases r21 with
                | true =>
                  replace h := iteT h
                  replace h := bndE_some h
                  obtain ⟨r22, h30, h⟩ := h
                  cases r22 with
                  | true =>
                    replace h := iteT h
                    replace h := bndE_some h
                    obtain ⟨r23, h32, h⟩ := h
                    obtain rfl := Option.some.inj h
                    exact runF_call mixed [(13, .int (a0.length : Int)), (15, .bit false), (17, .int (a1.length : Int)), (20, .bit false), (22, .ret (.d (D.b r3))), (24, .bit false), (27, .ret (.d ((D.l TRow.D) r5))), (62, .ret (.d (D.b r14))), (65, .ret (.d (D.b r15))), (66, .bit false), (68, .ret (.d (D.b r16))), (69, .bit false), (72, .ret (.d ((D.l TRow.D) r18))), (76, .ret (.tup [.d ((D.l TConfig.D) r19.1), .d (D.b r19.2)])), (82, .ret (.tup [.d ((D.l TConfig.D) r20.1), .d (D.b r20.2)])), (88, .bit true), (91, .ret (.d (D.b true))), (96, .ret (.d (D.b true))), (99, .ret (.d (D.b r23)))] [⟨[0, 1, 0, 1, 1, 1], [.live [1, 5, 6], .keep []], .exit 0, (law27_PruneKeeps_l1_O a1 r5 (Sum.inl o12)).2⟩] [] (And.intro (len_map Tproctorlaw27_Seed.D a0) (And.intro h1 (And.intro (len_map TSlot.D a1) (And.intro h3 (And.intro (ref05_Right_ok a1 r3 h5) (And.intro h6 (And.intro (law27_rows_ok a0 r5 h8) (And.intro (law27_PruneKeeps_l1_ok none a1 r5 0 (Sum.inl o12) h17) (And.intro (prune_Agree_ok r5 a1 r14 h18) (And.intro (law27_agree_ok r5 a1 r15 h19) (And.intro h20 (And.intro (law27_all_ok r5 ([] : List TSlot) 0 r16 h21) (And.intro h22 (And.intro (prune_All_ok r5 r18 h24) (And.intro (ref26_Copy_ok r5 a1 r19 h25) (And.intro (ref26_Copy_ok r18 a1 r20 h26) (And.intro h27 (And.intro (ref18_Same_ok r19.1 r20.1 true h28) (And.intro (prune_Agree_ok r18 a1 true h30) (And.intro (law27_awake_ok r23 h32) (True.intro))))))))))))))))))))) (by kernel_rfl)
                  | false =>
                    replace h := iteF h
                    obtain rfl := Option.some.inj h
                    exact runF_call mixed [(13, .int (a0.length : Int)), (15, .bit false), (17, .int (a1.length : Int)), (20, .bit false), (22, .ret (.d (D.b r3))), (24, .bit false), (27, .ret (.d ((D.l TRow.D) r5))), (62, .ret (.d (D.b r14))), (65, .ret (.d (D.b r15))), (66, .bit false), (68, .ret (.d (D.b r16))), (69, .bit false), (72, .ret (.d ((D.l TRow.D) r18))), (76, .ret (.tup [.d ((D.l TConfig.D) r19.1), .d (D.b r19.2)])), (82, .ret (.tup [.d ((D.l TConfig.D) r20.1), .d (D.b r20.2)])), (88, .bit true), (91, .ret (.d (D.b true))), (96, .ret (.d (D.b false)))] [⟨[0, 1, 0, 1, 1, 1], [.live [1, 5, 6], .keep []], .exit 0, (law27_PruneKeeps_l1_O a1 r5 (Sum.inl o12)).2⟩] [] (And.intro (len_map Tproctorlaw27_Seed.D a0) (And.intro h1 (And.intro (len_map TSlot.D a1) (And.intro h3 (And.intro (ref05_Right_ok a1 r3 h5) (And.intro h6 (And.intro (law27_rows_ok a0 r5 h8) (And.intro (law27_PruneKeeps_l1_ok none a1 r5 0 (Sum.inl o12) h17) (And.intro (prune_Agree_ok r5 a1 r14 h18) (And.intro (law27_agree_ok r5 a1 r15 h19) (And.intro h20 (And.intro (law27_all_ok r5 ([] : List TSlot) 0 r16 h21) (And.intro h22 (And.intro (prune_All_ok r5 r18 h24) (And.intro (ref26_Copy_ok r5 a1 r19 h25) (And.intro (ref26_Copy_ok r18 a1 r20 h26) (And.intro h27 (And.intro (ref18_Same_ok r19.1 r20.1 true h28) (And.intro (prune_Agree_ok r18 a1 false h30) (True.intro)))))))))))))))))))) (by kernel_rfl)
                | false =>
                  replace h := iteF h
                  obtain rfl := Option.some.inj h
                  exact runF_call mixed [(13, .int (a0.length : Int)), (15, .bit false), (17, .int (a1.length : Int)), (20, .bit false), (22, .ret (.d (D.b r3))), (24, .bit false), (27, .ret (.d ((D.l TRow.D) r5))), (62, .ret (.d (D.b r14))), (65, .ret (.d (D.b r15))), (66, .bit false), (68, .ret (.d (D.b r16))), (69, .bit false), (72, .ret (.d ((D.l TRow.D) r18))), (76, .ret (.tup [.d ((D.l TConfig.D) r19.1), .d (D.b r19.2)])), (82, .ret (.tup [.d ((D.l TConfig.D) r20.1), .d (D.b r20.2)])), (88, .bit true), (91, .ret (.d (D.b false)))] [⟨[0, 1, 0, 1, 1, 1], [.live [1, 5, 6], .keep []], .exit 0, (law27_PruneKeeps_l1_O a1 r5 (Sum.inl o12)).2⟩] [] (And.intro (len_map Tproctorlaw27_Seed.D a0) (And.intro h1 (And.intro (len_map TSlot.D a1) (And.intro h3 (And.intro (ref05_Right_ok a1 r3 h5) (And.intro h6 (And.intro (law27_rows_ok a0 r5 h8) (And.intro (law27_PruneKeeps_l1_ok none a1 r5 0 (Sum.inl o12) h17) (And.intro (prune_Agree_ok r5 a1 r14 h18) (And.intro (law27_agree_ok r5 a1 r15 h19) (And.intro h20 (And.intro (law27_all_ok r5 ([] : List TSlot) 0 r16 h21) (And.intro h22 (And.intro (prune_All_ok r5 r18 h24) (And.intro (ref26_Copy_ok r5 a1 r19 h25) (And.intro (ref26_Copy_ok r18 a1 r20 h26) (And.intro h27 (And.intro (ref18_Same_ok r19.1 r20.1 false h28) (True.intro))))))))))))))))))) (by kernel_rfl)
              · skip
                obtain rfl := Option.some.inj h
                exact runF_call mixed [(13, .int (a0.length : Int)), (15, .bit false), (17, .int (a1.length : Int)), (20, .bit false), (22, .ret (.d (D.b r3))), (24, .bit false), (27, .ret (.d ((D.l TRow.D) r5))), (62, .ret (.d (D.b r14))), (65, .ret (.d (D.b r15))), (66, .bit false), (68, .ret (.d (D.b r16))), (69, .bit false), (72, .ret (.d ((D.l TRow.D) r18))), (76, .ret (.tup [.d ((D.l TConfig.D) r19.1), .d (D.b r19.2)])), (82, .ret (.tup [.d ((D.l TConfig.D) r20.1), .d (D.b r20.2)])), (88, .bit false)] [⟨[0, 1, 0, 1, 1, 1], [.live [1, 5, 6], .keep []], .exit 0, (law27_PruneKeeps_l1_O a1 r5 (Sum.inl o12)).2⟩] [] (And.intro (len_map Tproctorlaw27_Seed.D a0) (And.intro h1 (And.intro (len_map TSlot.D a1) (And.intro h3 (And.intro (ref05_Right_ok a1 r3 h5) (And.intro h6 (And.intro (law27_rows_ok a0 r5 h8) (And.intro (law27_PruneKeeps_l1_ok none a1 r5 0 (Sum.inl o12) h17) (And.intro (prune_Agree_ok r5 a1 r14 h18) (And.intro (law27_agree_ok r5 a1 r15 h19) (And.intro h20 (And.intro (law27_all_ok r5 ([] : List TSlot) 0 r16 h21) (And.intro h22 (And.intro (prune_All_ok r5 r18 h24) (And.intro (ref26_Copy_ok r5 a1 r19 h25) (And.intro (ref26_Copy_ok r18 a1 r20 h26) (And.intro h27 (True.intro)))))))))))))))))) (by kernel_rfl)
        · skip
          obtain rfl := Option.some.inj h
          exact runF_call mixed [(13, .int (a0.length : Int)), (15, .bit false), (17, .int (a1.length : Int)), (20, .bit false), (22, .ret (.d (D.b r3))), (24, .bit false), (27, .ret (.d ((D.l TRow.D) r5)))] [⟨[0, 1, 0, 1, 1, 1], [.live [1, 5, 6], .keep []], .ret, (law27_PruneKeeps_l1_O a1 r5 (Sum.inr o13)).2⟩] [] (And.intro (len_map Tproctorlaw27_Seed.D a0) (And.intro h1 (And.intro (len_map TSlot.D a1) (And.intro h3 (And.intro (ref05_Right_ok a1 r3 h5) (And.intro h6 (And.intro (law27_rows_ok a0 r5 h8) (And.intro (law27_PruneKeeps_l1_ok none a1 r5 0 (Sum.inr o13) h17) (True.intro))))))))) (by kernel_rfl)
end Go.Ac
