/- Own work, printed: the functions compute these. -/
import Derived.Test.YtpmebmbfkmgjjaaWa26nx1
set_option linter.unusedVariables false
set_option linter.unusedSimpArgs false
set_option linter.unusedVariables false
set_option linter.unusedSimpArgs false
namespace Go.Ac
open Go.Proofs
theorem ref05_Less_l1_rnd (rd : Option Nat) (s0 : List TSlot) (s1 : List TSlot) (s5 : Int) (o : (Int) ⊕ (Unit ⊕ Bool)) (h : ref05_Less_l1_s s0 s1 s5 = some o) : Arr Try.prog rd (fbody Try.prog 33) (0 :: [0, 1, 0, 1, 1]) (ref05_Less_l1_I s0 s1 s5) (rR (fun s : Int => ref05_Less_l1_I s0 s1 s) (ref05_Less_l1_O s0 s1) o).1 (rR (fun s : Int => ref05_Less_l1_I s0 s1 s) (ref05_Less_l1_O s0 s1) o).2 := by
  unfold ref05_Less_l1_s at h
  rcases iS h with ⟨h2, h⟩ | ⟨h2, h⟩
  ·
   obtain ⟨x1, h3, h⟩ := xS h
   obtain ⟨x2, h4, h⟩ := xS h
   rcases iS h with ⟨h5, h⟩ | ⟨h5, h⟩
   ·
    obtain ⟨x3, h6, h⟩ := xS h
    obtain ⟨x4, h7, h⟩ := xS h
    obtain rfl := si h
    exact runB_arr mixed [(18, .int (s0.length : Int)), (19, .bit true), (24, .el (TSlot.D x1)), (29, .el (TSlot.D x2)), (32, .bit true), (35, .el (TSlot.D x3)), (40, .el (TSlot.D x4))] [] [.live [4], .keep []] (ai (len_map TSlot.D s0) (ai h2 (ai (elem_map TSlot.D h3) (ai (elem_map TSlot.D h4) (ai h5 (ai (elem_map TSlot.D h6) (ai (elem_map TSlot.D h7) (ti)))))))) (by kernel_rfl)
   ·
    obtain ⟨x5, h8, h⟩ := xS h
    obtain ⟨x6, h9, h⟩ := xS h
    rcases iS h with ⟨h10, h⟩ | ⟨h10, h⟩
    ·
     obtain ⟨x7, h11, h⟩ := xS h
     obtain ⟨x8, h12, h⟩ := xS h
     obtain ⟨r9, h13, h⟩ := bS h
     obtain rfl := si h
     exact runB_arr mixed [(18, .int (s0.length : Int)), (19, .bit true), (24, .el (TSlot.D x1)), (29, .el (TSlot.D x2)), (32, .bit false), (46, .el (TSlot.D x5)), (51, .el (TSlot.D x6)), (54, .bit true), (57, .el (TSlot.D x7)), (62, .el (TSlot.D x8)), (65, .ret (.d (D.b r9)))] [] [.live [4], .keep []] (ai (len_map TSlot.D s0) (ai h2 (ai (elem_map TSlot.D h3) (ai (elem_map TSlot.D h4) (ai h5 (ai (elem_map TSlot.D h8) (ai (elem_map TSlot.D h9) (ai h10 (ai (elem_map TSlot.D h11) (ai (elem_map TSlot.D h12) (ai (ref03_Less_ok x7.value x8.value r9 h13) (ti)))))))))))) (by kernel_rfl)
    ·
     obtain rfl := si h
     exact runB_arr mixed [(18, .int (s0.length : Int)), (19, .bit true), (24, .el (TSlot.D x1)), (29, .el (TSlot.D x2)), (32, .bit false), (46, .el (TSlot.D x5)), (51, .el (TSlot.D x6)), (54, .bit false)] [] [.live [0, 1, 5], .keep []] (ai (len_map TSlot.D s0) (ai h2 (ai (elem_map TSlot.D h3) (ai (elem_map TSlot.D h4) (ai h5 (ai (elem_map TSlot.D h8) (ai (elem_map TSlot.D h9) (ai h10 (ti))))))))) (by kernel_rfl)
  ·
   obtain rfl := si h
   exact runB_arr mixed [(18, .int (s0.length : Int)), (19, .bit false)] [] [.live [], .keep []] (ai (len_map TSlot.D s0) (ai h2 (ti))) (by kernel_rfl)
theorem ref05_Less_l1_ok (rd : Option Nat) (s0 : List TSlot) (s1 : List TSlot) (s5 : Int) (t : Unit ⊕ Bool) (h : ref05_Less_l1 s0 s1 s5 = some t) : LpOf Try.prog rd (fbody Try.prog 33) [0, 1, 0, 1, 1] (ref05_Less_l1_I s0 s1 s5) ((ref05_Less_l1_O s0 s1) t).1 ((ref05_Less_l1_O s0 s1) t).2 :=
  loopE_lpR (fun s : Int => ref05_Less_l1_I s0 s1 s) (ref05_Less_l1_O s0 s1) (by kernel_rfl) (fun t => isN_ne (by rcases t with (_ | _) <;> rfl)) (fun s o h => ref05_Less_l1_rnd rd s0 s1 s o h) (s := s5) (t := t) h
theorem ref05_Less_ok (a0 : List TSlot) (a1 : List TSlot) (r : Bool) (h : ref05_Less a0 a1 = some r) : ACall Try.prog 33 [.d ((D.l TSlot.D) a0), .d ((D.l TSlot.D) a1)] [] (.d (D.b r)) [] := by
  unfold ref05_Less at h
  rcases iS h with ⟨h1, h⟩ | ⟨h1, h⟩
  ·
   obtain rfl := si h
   exact runF_call mixed [(7, .int (a0.length : Int)), (9, .int (a1.length : Int)), (10, .bit true), (12, .int (a0.length : Int)), (14, .int (a1.length : Int))] [] [] (ai (len_map TSlot.D a0) (ai (len_map TSlot.D a1) (ai h1 (ai (len_map TSlot.D a0) (ai (len_map TSlot.D a1) (ti)))))) (by kernel_rfl)
  ·
   obtain ⟨o10, h14, h⟩ := bS h
   replace h := sumE_some h
   rcases h with ⟨o11, rfl, h⟩ | ⟨o12, rfl, h⟩
   ·
    obtain rfl := si h
    exact runF_call mixed [(7, .int (a0.length : Int)), (9, .int (a1.length : Int)), (10, .bit false)] [⟨[0, 1, 0, 1, 1], [.live [0, 1, 5], .keep []], .exit 0, (ref05_Less_l1_O a0 a1 (Sum.inl o11)).2⟩] [] (ai (len_map TSlot.D a0) (ai (len_map TSlot.D a1) (ai h1 (ai (ref05_Less_l1_ok none a0 a1 0 (Sum.inl o11) h14) (ti))))) (by kernel_rfl)
   ·
    obtain rfl := si h
    exact runF_call mixed [(7, .int (a0.length : Int)), (9, .int (a1.length : Int)), (10, .bit false)] [⟨[0, 1, 0, 1, 1], [.live [0, 1, 5], .keep []], .ret, (ref05_Less_l1_O a0 a1 (Sum.inr o12)).2⟩] [] (ai (len_map TSlot.D a0) (ai (len_map TSlot.D a1) (ai h1 (ai (ref05_Less_l1_ok none a0 a1 0 (Sum.inr o12) h14) (ti))))) (by kernel_rfl)
def ref24_Insert_l1_I (s0 : List TRow) (w3 : TRow) (s5 : Int) : St := ⟨sp 38 0 [(0, .d ((D.l TRow.D) s0)), (3, .box 3 0), (5, .d ((D.i .i64) s5))], [(3, .cells ((cellsA (TRow.D w3))))], []⟩
def ref24_Insert_l1_O (s0 : List TRow) (w3 : TRow) (o : Int) : Ex × St := (.exit 0, ⟨sp 38 0 [(0, .d ((D.l TRow.D) s0)), (3, .box 3 0), (5, .d ((D.i .i64) o))], [(3, .cells ((cellsA (TRow.D w3))))], []⟩)
theorem ref24_Insert_l1_rnd (rd : Option Nat) (s0 : List TRow) (w3 : TRow) (s5 : Int) (o : (Int) ⊕ (Int)) (h : ref24_Insert_l1_s s0 w3 s5 = some o) : Arr Try.prog rd (fbody Try.prog 26) (0 :: [0, 0, 1, 1]) (ref24_Insert_l1_I s0 w3 s5) (rR (fun s : Int => ref24_Insert_l1_I s0 w3 s) (ref24_Insert_l1_O s0 w3) o).1 (rR (fun s : Int => ref24_Insert_l1_I s0 w3 s) (ref24_Insert_l1_O s0 w3) o).2 := by
  unfold ref24_Insert_l1_s at h
  rcases iS h with ⟨h1, h⟩ | ⟨h1, h⟩
  ·
   obtain ⟨x1, h2, h⟩ := xS h
   obtain ⟨r2, h3, h⟩ := bS h
   cases r2 with
   | true =>
    replace h := iteT h
    obtain rfl := si h
    exact runB_arr mixed [(11, .bit true), (17, .el (TRow.D x1)), (20, .ret (.d (D.b true)))] [] [.live [0, 3, 5], .keep [3]] (ai h1 (ai (elem_map TRow.D h2) (ai (ref05_Less_ok w3.bind x1.bind true h3) (ti)))) (by kernel_rfl)
   | false =>
    replace h := iteF h
    obtain rfl := si h
    exact runB_arr mixed [(11, .bit true), (17, .el (TRow.D x1)), (20, .ret (.d (D.b false)))] [] [.live [0, 3, 5], .keep [3]] (ai h1 (ai (elem_map TRow.D h2) (ai (ref05_Less_ok w3.bind x1.bind false h3) (ti)))) (by kernel_rfl)
  ·
   obtain rfl := si h
   exact runB_arr mixed [(11, .bit false)] [] [.live [0, 3, 5], .keep [3]] (ai h1 (ti)) (by kernel_rfl)
theorem ref24_Insert_l1_ok (rd : Option Nat) (s0 : List TRow) (w3 : TRow) (s5 : Int) (t : Int) (h : ref24_Insert_l1 s0 w3 s5 = some t) : LpOf Try.prog rd (fbody Try.prog 26) [0, 0, 1, 1] (ref24_Insert_l1_I s0 w3 s5) ((ref24_Insert_l1_O s0 w3) t).1 ((ref24_Insert_l1_O s0 w3) t).2 :=
  loopE_lpR (fun s : Int => ref24_Insert_l1_I s0 w3 s) (ref24_Insert_l1_O s0 w3) (by kernel_rfl) (fun t => isN_ne (by rfl)) (fun s o h => ref24_Insert_l1_rnd rd s0 w3 s o h) (s := s5) (t := t) h
theorem ref24_Insert_ok (a0 : List TRow) (a1 : TRow) (r : List TRow) (h : ref24_Insert a0 a1 = some r) : ACall Try.prog 26 [.d ((D.l TRow.D) a0), .d (TRow.D a1)] [] (.d ((D.l TRow.D) r)) [] := by
  unfold ref24_Insert at h
  obtain ⟨o3, h5, h⟩ := bS h
  obtain ⟨h6, h⟩ := cS h
  obtain ⟨h7, h⟩ := cS h
  obtain ⟨h8, h⟩ := cS h
  obtain ⟨h9, h⟩ := cS h
  obtain ⟨h10, h⟩ := cS h
  obtain rfl := si h
  exact runF_call mixed [(8, .int (a0.length : Int)), (27, .sl ((sub a0 0 o3).map TRow.D)), (28, .sl ((([] : List TRow) ++ (sub a0 0 o3)).map TRow.D)), (32, .sl (((([] : List TRow) ++ (sub a0 0 o3)) ++ [a1]).map TRow.D)), (36, .sl ((sub a0 o3 (a0.length : Int)).map TRow.D)), (37, .sl ((((([] : List TRow) ++ (sub a0 0 o3)) ++ [a1]) ++ (sub a0 o3 (a0.length : Int))).map TRow.D))] [⟨[0, 0, 1, 1], [.live [0, 3, 5], .keep [3]], .exit 0, (ref24_Insert_l1_O a0 a1 o3).2⟩] [] (ai (len_map TRow.D a0) (ai (ref24_Insert_l1_ok none a0 a1 (a0.length : Int) o3 h5) (ai (nc_ok TRow.D ([] : List TRow)) (ai (cut_some TRow.D h6) (ai (nc_ok TRow.D (sub a0 0 o3)) (ai (fit_map TRow.D h7) (ai (app_map TRow.D ([] : List TRow) (sub a0 0 o3)) (ai (nc_ok TRow.D [a1]) (ai (nc_ok TRow.D [a1]) (ai (fit_map TRow.D h8) (ai (app_map TRow.D (([] : List TRow) ++ (sub a0 0 o3)) [a1]) (ai (cut_none TRow.D h9) (ai (nc_ok TRow.D (sub a0 o3 (a0.length : Int))) (ai (fit_map TRow.D h10) (ai (app_map TRow.D ((([] : List TRow) ++ (sub a0 0 o3)) ++ [a1]) (sub a0 o3 (a0.length : Int))) (ti)))))))))))))))) (by kernel_rfl)
def law26_rows_b5_I (s0 : List (List TSlot)) (s3 : List TRow) (s4 : Int) (s18 : Bool) : St := ⟨sp 30 0 [(0, .d ((D.l (D.l TSlot.D)) s0)), (3, .d ((D.l TRow.D) s3)), (4, .d ((D.i .i64) s4)), (18, .d (D.b s18))], [], []⟩
def law26_rows_b5_O (s0 : List (List TSlot)) (s3 : List TRow) (s4 : Int) (s18 : Bool) (o : (List TRow)) : Ex × St := (.normal, ⟨sp 30 0 [(0, .d ((D.l (D.l TSlot.D)) s0)), (3, .d ((D.l TRow.D) o)), (4, .d ((D.i .i64) s4))], [], []⟩)
theorem law26_rows_b5_ok (rd : Option Nat) (s0 : List (List TSlot)) (s3 : List TRow) (s4 : Int) (s18 : Bool) (o : (List TRow)) (h : law26_rows_b5 s0 s3 s4 s18 = some o) : LpOf Try.prog rd (fbody Try.prog 17) [1, 0, 0, 1, 0, 0, 1, 0, 1, 1] (law26_rows_b5_I s0 s3 s4 s18) (law26_rows_b5_O s0 s3 s4 s18 o).1 (law26_rows_b5_O s0 s3 s4 s18 o).2 := by
  unfold law26_rows_b5 at h
  cases s18 with
  | true =>
   replace h := iteT h
   obtain ⟨x11, h15, h⟩ := xS h
   obtain ⟨r12, h16, h⟩ := bS h
   obtain rfl := si h
   exact (runB_arr mixed [(22, .el ((D.l TSlot.D) x11)), (28, .ret (.d ((D.l TRow.D) r12)))] [] [.live [0, 3, 4], .keep []] (ai (elem_map (D.l TSlot.D) h15) (ai (nc_ok TConfig.D ([TConfig.mk s4 ([] : List TValue)])) (ai (ref24_Insert_ok s3 (TRow.mk x11 ([TConfig.mk s4 ([] : List TValue)])) r12 h16) (ti)))) (by kernel_rfl)).lp
  | false =>
   replace h := iteF h
   obtain rfl := si h
   exact (runB_arr mixed [] [] [.live [0, 3, 4], .keep []] (ti) (by kernel_rfl)).lp
def law26_rows_b4_I (s0 : List (List TSlot)) (s3 : List TRow) (s4 : Int) : St := ⟨sp 30 0 [(0, .d ((D.l (D.l TSlot.D)) s0)), (3, .d ((D.l TRow.D) s3)), (4, .d ((D.i .i64) s4))], [], []⟩
def law26_rows_b4_O (s0 : List (List TSlot)) (s3 : List TRow) (s4 : Int) (o : (List TRow)) : Ex × St := (.normal, ⟨sp 30 0 [(0, .d ((D.l (D.l TSlot.D)) s0)), (3, .d ((D.l TRow.D) o)), (4, .d ((D.i .i64) s4))], [], []⟩)
theorem law26_rows_b4_ok (rd : Option Nat) (s0 : List (List TSlot)) (s3 : List TRow) (s4 : Int) (o : (List TRow)) (h : law26_rows_b4 s0 s3 s4 = some o) : LpOf Try.prog rd (fbody Try.prog 17) [0, 1, 0, 0, 1, 0, 1, 1] (law26_rows_b4_I s0 s3 s4) (law26_rows_b4_O s0 s3 s4 o).1 (law26_rows_b4_O s0 s3 s4 o).2 := by
  unfold law26_rows_b4 at h
  obtain ⟨r8, h11, h⟩ := bS h
  obtain ⟨x9, h12, h⟩ := xS h
  obtain ⟨r10, h13, h⟩ := bS h
  obtain ⟨o13, h17, h⟩ := bS h
  obtain rfl := si h
  exact (runB_arr mixed [(12, .ret (.d ((D.l (D.l TSlot.D)) r8))), (15, .el ((D.l TSlot.D) x9)), (17, .ret (.d (D.b r10)))] [⟨[1, 0, 0, 1, 0, 0, 1, 0, 1, 1], [.live [0, 3, 4, 18], .keep []], .normal, (law26_rows_b5_O s0 s3 s4 (!r10) o13).2⟩] [.live [0, 3, 4], .keep []] (ai (ref26_Binds_ok s3 r8 h11) (ai (elem_map (D.l TSlot.D) h12) (ai (ref05_Has_ok r8 x9 r10 h13) (ai (law26_rows_b5_ok rd s0 s3 s4 (!r10) o13 h17) (ti))))) (by kernel_rfl)).lp
def law26_rows_l1_I (s0 : List (List TSlot)) (s3 : List TRow) (s4 : Int) : St := ⟨sp 30 0 [(0, .d ((D.l (D.l TSlot.D)) s0)), (3, .d ((D.l TRow.D) s3)), (4, .d ((D.i .i64) s4))], [], []⟩
def law26_rows_l1_O (s0 : List (List TSlot)) (o : (List TRow)) : Ex × St := (.exit 0, ⟨sp 30 0 [(3, .d ((D.l TRow.D) o))], [], []⟩)
theorem law26_rows_l1_rnd (rd : Option Nat) (s0 : List (List TSlot)) (s3 : List TRow) (s4 : Int) (o : (List TRow × Int) ⊕ ((List TRow))) (h : law26_rows_l1_s s0 s3 s4 = some o) : Arr Try.prog rd (fbody Try.prog 17) (0 :: [0, 1, 0, 1, 1]) (law26_rows_l1_I s0 s3 s4) (rR (fun s : List TRow × Int => law26_rows_l1_I s0 s.1 s.2) (law26_rows_l1_O s0) o).1 (rR (fun s : List TRow × Int => law26_rows_l1_I s0 s.1 s.2) (law26_rows_l1_O s0) o).2 := by
  unfold law26_rows_l1_s at h
  rcases iS h with ⟨h10, h⟩ | ⟨h10, h⟩
  ·
   obtain ⟨o14, h18, h⟩ := bS h
   obtain rfl := si h
   exact runB_arr mixed [(7, .int (s0.length : Int)), (8, .bit true)] [⟨[0, 1, 0, 0, 1, 0, 1, 1], [.live [0, 3, 4], .keep []], .normal, (law26_rows_b4_O s0 s3 s4 o14).2⟩] [.live [0, 3, 4], .keep []] (ai (len_map (D.l TSlot.D) s0) (ai h10 (ai (law26_rows_b4_ok rd s0 s3 s4 o14 h18) (ti)))) (by kernel_rfl)
  ·
   obtain rfl := si h
   exact runB_arr mixed [(7, .int (s0.length : Int)), (8, .bit false)] [] [.live [3], .keep []] (ai (len_map (D.l TSlot.D) s0) (ai h10 (ti))) (by kernel_rfl)
theorem law26_rows_l1_ok (rd : Option Nat) (s0 : List (List TSlot)) (s3 : List TRow) (s4 : Int) (t : (List TRow)) (h : law26_rows_l1 s0 s3 s4 = some t) : LpOf Try.prog rd (fbody Try.prog 17) [0, 1, 0, 1, 1] (law26_rows_l1_I s0 s3 s4) ((law26_rows_l1_O s0) t).1 ((law26_rows_l1_O s0) t).2 :=
  loopE_lpR (fun s : List TRow × Int => law26_rows_l1_I s0 s.1 s.2) (law26_rows_l1_O s0) (by kernel_rfl) (fun t => isN_ne (by rfl)) (fun s o h => law26_rows_l1_rnd rd s0 s.1 s.2 o h) (s := (s3, s4)) (t := t) h
theorem law26_rows_ok (a0 : List (List TSlot)) (r : List TRow) (h : law26_rows a0 = some r) : ACall Try.prog 17 [.d ((D.l (D.l TSlot.D)) a0)] [] (.d ((D.l TRow.D) r)) [] := by
  unfold law26_rows at h
  obtain ⟨o15, h19, h⟩ := bS h
  obtain rfl := si h
  exact runF_call mixed [] [⟨[0, 1, 0, 1, 1], [.look 3, .live [0, 3, 4], .keep []], .exit 0, (law26_rows_l1_O a0 o15).2⟩] [] (ai (law26_rows_l1_ok none a0 ([] : List TRow) 0 o15 h19) (ti)) (by kernel_rfl)
def law26_hits_l1_I (s0 : List (List TSlot)) (s4 : Int) (w3 : List THit) : St := ⟨sp 21 0 [(0, .d ((D.l (D.l TSlot.D)) s0)), (3, .row 3), (4, .d ((D.i .i64) s4))], [(3, .row 63 3 (w3.map THit.D))], []⟩
def law26_hits_l1_O (s0 : List (List TSlot)) (o : (List THit)) : Ex × St := (.exit 0, ⟨sp 21 0 [(3, .row 3)], [(3, .row 63 3 (o.map THit.D))], []⟩)
theorem law26_hits_l1_rnd (rd : Option Nat) (s0 : List (List TSlot)) (s4 : Int) (w3 : List THit) (o : (Int × List THit) ⊕ ((List THit))) (h : law26_hits_l1_s s0 s4 w3 = some o) : Arr Try.prog rd (fbody Try.prog 9) (0 :: [0, 1, 0, 1, 1]) (law26_hits_l1_I s0 s4 w3) (rR (fun s : Int × List THit => law26_hits_l1_I s0 s.1 s.2) (law26_hits_l1_O s0) o).1 (rR (fun s : Int × List THit => law26_hits_l1_I s0 s.1 s.2) (law26_hits_l1_O s0) o).2 := by
  unfold law26_hits_l1_s at h
  rcases iS h with ⟨h4, h⟩ | ⟨h4, h⟩
  ·
   obtain ⟨x2, h5, h⟩ := xS h
   obtain ⟨h6, h⟩ := cS h
   obtain rfl := si h
   exact runB_arr mixed [(7, .int (s0.length : Int)), (8, .bit true), (15, .el ((D.l TSlot.D) x2)), (19, .sl ((w3 ++ ([THit.mk s4 x2 ([] : List TSlot)])).map THit.D))] [] [.live [0, 3, 4], .keep [19], .ren 19 3, .sort] (ai (len_map (D.l TSlot.D) s0) (ai h4 (ai (elem_map (D.l TSlot.D) h5) (ai (nc_ok THit.D ([THit.mk s4 x2 ([] : List TSlot)])) (ai (nc_ok THit.D ([THit.mk s4 x2 ([] : List TSlot)])) (ai (fit_map THit.D h6) (ai (app_map THit.D w3 ([THit.mk s4 x2 ([] : List TSlot)])) (ti)))))))) (by kernel_rfl)
  ·
   obtain rfl := si h
   exact runB_arr mixed [(7, .int (s0.length : Int)), (8, .bit false)] [] [.live [3], .keep [3]] (ai (len_map (D.l TSlot.D) s0) (ai h4 (ti))) (by kernel_rfl)
theorem law26_hits_l1_ok (rd : Option Nat) (s0 : List (List TSlot)) (s4 : Int) (w3 : List THit) (t : (List THit)) (h : law26_hits_l1 s0 s4 w3 = some t) : LpOf Try.prog rd (fbody Try.prog 9) [0, 1, 0, 1, 1] (law26_hits_l1_I s0 s4 w3) ((law26_hits_l1_O s0) t).1 ((law26_hits_l1_O s0) t).2 :=
  loopE_lpR (fun s : Int × List THit => law26_hits_l1_I s0 s.1 s.2) (law26_hits_l1_O s0) (by kernel_rfl) (fun t => isN_ne (by rfl)) (fun s o h => law26_hits_l1_rnd rd s0 s.1 s.2 o h) (s := (s4, w3)) (t := t) h
theorem law26_hits_ok (a0 : List (List TSlot)) (r : List THit) (h : law26_hits a0 = some r) : ACall Try.prog 9 [.d ((D.l (D.l TSlot.D)) a0)] [] (.d ((D.l THit.D) r)) [] := by
  unfold law26_hits at h
  obtain ⟨o3, h7, h⟩ := bS h
  obtain rfl := si h
  exact runF_call mixed [] [⟨[0, 1, 0, 1, 1], [.live [0, 3, 4], .keep [], .nil 3 3 63 3, .sort], .exit 0, (law26_hits_l1_O a0 o3).2⟩] [] (ai (law26_hits_l1_ok none a0 0 ([] : List THit) o3 h7) (ti)) (by kernel_rfl)
def ref05_Get_l1_I (s0 : List TSlot) (s1 : Int) (w4 : TValue) (s6 : Int) : St := ⟨sp 26 0 [(0, .d ((D.l TSlot.D) s0)), (1, .d ((D.i .i64) s1)), (4, .box 4 0), (6, .d ((D.i .i64) s6))], [(4, .cells ((cellsA (TValue.D w4))))], []⟩
def ref05_Get_l1_O (s0 : List TSlot) (s1 : Int) (w4 : TValue) (o : Unit ⊕ TValue) : Ex × St := match o with
  | .inl o => (.exit 0, ⟨sp 26 0 [(4, .box 4 0)], [(4, .cells ((cellsA (TValue.D w4))))], []⟩)
  | .inr o => (.ret, ⟨sp 26 0 [(4, .box 4 0), (5, .d (D.b true))], [(4, .cells ((cellsA (TValue.D o))))], []⟩)
theorem ref05_Get_l1_rnd (rd : Option Nat) (s0 : List TSlot) (s1 : Int) (w4 : TValue) (s6 : Int) (o : (Int) ⊕ (Unit ⊕ TValue)) (h : ref05_Get_l1_s s0 s1 w4 s6 = some o) : Arr Try.prog rd (fbody Try.prog 31) (0 :: [0, 1, 0, 1]) (ref05_Get_l1_I s0 s1 w4 s6) (rR (fun s : Int => ref05_Get_l1_I s0 s1 w4 s) (ref05_Get_l1_O s0 s1 w4) o).1 (rR (fun s : Int => ref05_Get_l1_I s0 s1 w4 s) (ref05_Get_l1_O s0 s1 w4) o).2 := by
  unfold ref05_Get_l1_s at h
  rcases iS h with ⟨h1, h⟩ | ⟨h1, h⟩
  ·
   obtain ⟨x1, h2, h⟩ := xS h
   rcases iS h with ⟨h3, h⟩ | ⟨h3, h⟩
   ·
    obtain ⟨x2, h4, h⟩ := xS h
    obtain rfl := si h
    exact runB_arr mixed [(9, .int (s0.length : Int)), (10, .bit true), (15, .el (TSlot.D x1)), (19, .bit true), (22, .el (TSlot.D x2))] [] [.live [4, 5], .keep [4]] (ai (len_map TSlot.D s0) (ai h1 (ai (elem_map TSlot.D h2) (ai h3 (ai (elem_map TSlot.D h4) (ti)))))) (by kernel_rfl)
   ·
    obtain rfl := si h
    exact runB_arr mixed [(9, .int (s0.length : Int)), (10, .bit true), (15, .el (TSlot.D x1)), (19, .bit false)] [] [.live [0, 1, 4, 6], .keep [4]] (ai (len_map TSlot.D s0) (ai h1 (ai (elem_map TSlot.D h2) (ai h3 (ti))))) (by kernel_rfl)
  ·
   obtain rfl := si h
   exact runB_arr mixed [(9, .int (s0.length : Int)), (10, .bit false)] [] [.live [4], .keep [4]] (ai (len_map TSlot.D s0) (ai h1 (ti))) (by kernel_rfl)
theorem ref05_Get_l1_ok (rd : Option Nat) (s0 : List TSlot) (s1 : Int) (w4 : TValue) (s6 : Int) (t : Unit ⊕ TValue) (h : ref05_Get_l1 s0 s1 w4 s6 = some t) : LpOf Try.prog rd (fbody Try.prog 31) [0, 1, 0, 1] (ref05_Get_l1_I s0 s1 w4 s6) ((ref05_Get_l1_O s0 s1 w4) t).1 ((ref05_Get_l1_O s0 s1 w4) t).2 :=
  loopE_lpR (fun s : Int => ref05_Get_l1_I s0 s1 w4 s) (ref05_Get_l1_O s0 s1 w4) (by kernel_rfl) (fun t => isN_ne (by rcases t with (_ | _) <;> rfl)) (fun s o h => ref05_Get_l1_rnd rd s0 s1 w4 s o h) (s := s6) (t := t) h
theorem ref05_Get_ok (a0 : List TSlot) (a1 : Int) (r : TValue × Bool) (h : ref05_Get a0 a1 = some r) : ACall Try.prog 31 [.d ((D.l TSlot.D) a0), .d ((D.i .i64) a1)] [] (.tup [.d (TValue.D r.1), .d (D.b r.2)]) [] := by
  unfold ref05_Get at h
  obtain ⟨o3, h5, h⟩ := bS h
  replace h := sumE_some h
  rcases h with ⟨o4, rfl, h⟩ | ⟨o5, rfl, h⟩
  ·
   obtain rfl := si h
   exact runF_call mixed [] [⟨[0, 1, 0, 1], [.live [0, 1, 4, 6], .keep [4]], .exit 0, (ref05_Get_l1_O a0 a1 (TValue.mk 0 0 ([] : List UInt8) false) (Sum.inl o4)).2⟩] [] (ai (ref05_Get_l1_ok none a0 a1 (TValue.mk 0 0 ([] : List UInt8) false) 0 (Sum.inl o4) h5) (ti)) (by kernel_rfl)
  ·
   obtain rfl := si h
   exact runF_call mixed [] [⟨[0, 1, 0, 1], [.live [0, 1, 4, 6], .keep [4]], .ret, (ref05_Get_l1_O a0 a1 (TValue.mk 0 0 ([] : List UInt8) false) (Sum.inr o5)).2⟩] [] (ai (ref05_Get_l1_ok none a0 a1 (TValue.mk 0 0 ([] : List UInt8) false) 0 (Sum.inr o5) h5) (ti)) (by kernel_rfl)
def ref05_Fits_l1_I (s0 : List TSlot) (s1 : List TSlot) (s5 : Int) : St := ⟨sp 34 0 [(0, .d ((D.l TSlot.D) s0)), (1, .d ((D.l TSlot.D) s1)), (5, .d ((D.i .i64) s5))], [], []⟩
def ref05_Fits_l1_O (s0 : List TSlot) (s1 : List TSlot) (o : Unit ⊕ Unit) : Ex × St := match o with
  | .inl o => (.exit 0, ⟨sp 34 0 [], [], []⟩)
  | .inr o => (.ret, ⟨sp 34 0 [(4, .d (D.b false))], [], []⟩)
theorem ref05_Fits_l1_rnd (rd : Option Nat) (s0 : List TSlot) (s1 : List TSlot) (s5 : Int) (o : (Int) ⊕ (Unit ⊕ Unit)) (h : ref05_Fits_l1_s s0 s1 s5 = some o) : Arr Try.prog rd (fbody Try.prog 10) (0 :: [0, 1, 0, 1]) (ref05_Fits_l1_I s0 s1 s5) (rR (fun s : Int => ref05_Fits_l1_I s0 s1 s) (ref05_Fits_l1_O s0 s1) o).1 (rR (fun s : Int => ref05_Fits_l1_I s0 s1 s) (ref05_Fits_l1_O s0 s1) o).2 := by
  unfold ref05_Fits_l1_s at h
  rcases iS h with ⟨h1, h⟩ | ⟨h1, h⟩
  ·
   obtain ⟨x1, h2, h⟩ := xS h
   obtain ⟨r2, h3, h⟩ := bS h
   rcases iS h with ⟨h4, h⟩ | ⟨h4, h⟩
   ·
    obtain ⟨x3, h5, h⟩ := xS h
    rcases iS h with ⟨h6, h⟩ | ⟨h6, h⟩
    ·
     obtain rfl := si h
     exact runB_arr mixed [(10, .int (s0.length : Int)), (11, .bit true), (18, .el (TSlot.D x1)), (21, .ret (.tup [.d (TValue.D r2.1), .d (D.b r2.2)])), (25, .bit true), (29, .el (TSlot.D x3)), (33, .bit true)] [] [.live [4], .keep []] (ai (len_map TSlot.D s0) (ai h1 (ai (elem_map TSlot.D h2) (ai (ref05_Get_ok s1 x1.var r2 h3) (ai h4 (ai (elem_map TSlot.D h5) (ai h6 (ti)))))))) (by kernel_rfl)
    ·
     obtain rfl := si h
     exact runB_arr mixed [(10, .int (s0.length : Int)), (11, .bit true), (18, .el (TSlot.D x1)), (21, .ret (.tup [.d (TValue.D r2.1), .d (D.b r2.2)])), (25, .bit true), (29, .el (TSlot.D x3)), (33, .bit false)] [] [.live [0, 1, 5], .keep []] (ai (len_map TSlot.D s0) (ai h1 (ai (elem_map TSlot.D h2) (ai (ref05_Get_ok s1 x1.var r2 h3) (ai h4 (ai (elem_map TSlot.D h5) (ai h6 (ti)))))))) (by kernel_rfl)
   ·
    obtain rfl := si h
    exact runB_arr mixed [(10, .int (s0.length : Int)), (11, .bit true), (18, .el (TSlot.D x1)), (21, .ret (.tup [.d (TValue.D r2.1), .d (D.b r2.2)])), (25, .bit false)] [] [.live [0, 1, 5], .keep []] (ai (len_map TSlot.D s0) (ai h1 (ai (elem_map TSlot.D h2) (ai (ref05_Get_ok s1 x1.var r2 h3) (ai h4 (ti)))))) (by kernel_rfl)
  ·
   obtain rfl := si h
   exact runB_arr mixed [(10, .int (s0.length : Int)), (11, .bit false)] [] [.live [], .keep []] (ai (len_map TSlot.D s0) (ai h1 (ti))) (by kernel_rfl)
theorem ref05_Fits_l1_ok (rd : Option Nat) (s0 : List TSlot) (s1 : List TSlot) (s5 : Int) (t : Unit ⊕ Unit) (h : ref05_Fits_l1 s0 s1 s5 = some t) : LpOf Try.prog rd (fbody Try.prog 10) [0, 1, 0, 1] (ref05_Fits_l1_I s0 s1 s5) ((ref05_Fits_l1_O s0 s1) t).1 ((ref05_Fits_l1_O s0 s1) t).2 :=
  loopE_lpR (fun s : Int => ref05_Fits_l1_I s0 s1 s) (ref05_Fits_l1_O s0 s1) (by kernel_rfl) (fun t => isN_ne (by rcases t with (_ | _) <;> rfl)) (fun s o h => ref05_Fits_l1_rnd rd s0 s1 s o h) (s := s5) (t := t) h
theorem ref05_Fits_ok (a0 : List TSlot) (a1 : List TSlot) (r : Bool) (h : ref05_Fits a0 a1 = some r) : ACall Try.prog 10 [.d ((D.l TSlot.D) a0), .d ((D.l TSlot.D) a1)] [] (.d (D.b r)) [] := by
  unfold ref05_Fits at h
  obtain ⟨o4, h7, h⟩ := bS h
  replace h := sumE_some h
  rcases h with ⟨o5, rfl, h⟩ | ⟨o6, rfl, h⟩
  ·
   obtain rfl := si h
   exact runF_call mixed [] [⟨[0, 1, 0, 1], [.live [0, 1, 5], .keep []], .exit 0, (ref05_Fits_l1_O a0 a1 (Sum.inl o5)).2⟩] [] (ai (ref05_Fits_l1_ok none a0 a1 0 (Sum.inl o5) h7) (ti)) (by kernel_rfl)
  ·
   obtain rfl := si h
   exact runF_call mixed [] [⟨[0, 1, 0, 1], [.live [0, 1, 5], .keep []], .ret, (ref05_Fits_l1_O a0 a1 (Sum.inr o6)).2⟩] [] (ai (ref05_Fits_l1_ok none a0 a1 0 (Sum.inr o6) h7) (ti)) (by kernel_rfl)
def ref05_Union_b7_I (s0 : List TSlot) (s1 : List TSlot) (s6 : Int) (s34 : Bool) (w5 : List TSlot) (w9 : TValue) : St := ⟨sp 42 0 [(0, .d ((D.l TSlot.D) s0)), (1, .d ((D.l TSlot.D) s1)), (5, .row 5), (6, .d ((D.i .i64) s6)), (9, .box 9 0), (34, .d (D.b s34))], [(5, .row 60 5 (w5.map TSlot.D)), (9, .cells ((cellsA (TValue.D w9))))], []⟩
def ref05_Union_b7_O (s0 : List TSlot) (s1 : List TSlot) (s6 : Int) (s34 : Bool) (w5 : List TSlot) (w9 : TValue) (o : (List TSlot)) : Ex × St := (.normal, ⟨sp 42 0 [(0, .d ((D.l TSlot.D) s0)), (1, .d ((D.l TSlot.D) s1)), (5, .row 5), (6, .d ((D.i .i64) s6))], [(5, .row 60 5 (o.map TSlot.D))], []⟩)
theorem ref05_Union_b7_ok (rd : Option Nat) (s0 : List TSlot) (s1 : List TSlot) (s6 : Int) (s34 : Bool) (w5 : List TSlot) (w9 : TValue) (o : (List TSlot)) (h : ref05_Union_b7 s0 s1 s6 s34 w5 w9 = some o) : LpOf Try.prog rd (fbody Try.prog 12) [1, 1, 1, 1, 1, 0, 0, 1, 0, 0, 1, 0, 1, 1] (ref05_Union_b7_I s0 s1 s6 s34 w5 w9) (ref05_Union_b7_O s0 s1 s6 s34 w5 w9 o).1 (ref05_Union_b7_O s0 s1 s6 s34 w5 w9 o).2 := by
  unfold ref05_Union_b7 at h
  cases s34 with
  | true =>
   replace h := iteT h
   obtain ⟨h17, h⟩ := cS h
   obtain rfl := si h
   exact (runB_arr mixed [(40, .sl ((w5 ++ [TSlot.mk s6 w9]).map TSlot.D))] [] [.live [0, 1, 5, 6], .keep [40], .ren 40 5, .sort] (ai (nc_ok TSlot.D [TSlot.mk s6 w9]) (ai (nc_ok TSlot.D [TSlot.mk s6 w9]) (ai (fit_map TSlot.D h17) (ai (app_map TSlot.D w5 [TSlot.mk s6 w9]) (ti))))) (by kernel_rfl)).lp
  | false =>
   replace h := iteF h
   obtain rfl := si h
   exact (runB_arr mixed [] [] [.live [0, 1, 5, 6], .keep [5]] (ti) (by kernel_rfl)).lp
def ref05_Union_b6_I (s0 : List TSlot) (s1 : List TSlot) (s6 : Int) (s10 : Bool) (s27 : Bool) (w5 : List TSlot) (w7 : TValue) (w9 : TValue) : St := ⟨sp 42 0 [(0, .d ((D.l TSlot.D) s0)), (1, .d ((D.l TSlot.D) s1)), (5, .row 5), (6, .d ((D.i .i64) s6)), (7, .box 7 0), (9, .box 9 0), (10, .d (D.b s10)), (27, .d (D.b s27))], [(5, .row 60 5 (w5.map TSlot.D)), (7, .cells ((cellsA (TValue.D w7)))), (9, .cells ((cellsA (TValue.D w9))))], []⟩
def ref05_Union_b6_O (s0 : List TSlot) (s1 : List TSlot) (s6 : Int) (s10 : Bool) (s27 : Bool) (w5 : List TSlot) (w7 : TValue) (w9 : TValue) (o : (List TSlot)) : Ex × St := (.normal, ⟨sp 42 0 [(0, .d ((D.l TSlot.D) s0)), (1, .d ((D.l TSlot.D) s1)), (5, .row 5), (6, .d ((D.i .i64) s6))], [(5, .row 60 5 (o.map TSlot.D))], []⟩)
theorem ref05_Union_b6_ok (rd : Option Nat) (s0 : List TSlot) (s1 : List TSlot) (s6 : Int) (s10 : Bool) (s27 : Bool) (w5 : List TSlot) (w7 : TValue) (w9 : TValue) (o : (List TSlot)) (h : ref05_Union_b6 s0 s1 s6 s10 s27 w5 w7 w9 = some o) : LpOf Try.prog rd (fbody Try.prog 12) [1, 1, 1, 0, 0, 1, 0, 0, 1, 0, 1, 1] (ref05_Union_b6_I s0 s1 s6 s10 s27 w5 w7 w9) (ref05_Union_b6_O s0 s1 s6 s10 s27 w5 w7 w9 o).1 (ref05_Union_b6_O s0 s1 s6 s10 s27 w5 w7 w9 o).2 := by
  unfold ref05_Union_b6 at h
  cases s27 with
  | true =>
   replace h := iteT h
   obtain ⟨h15, h⟩ := cS h
   obtain rfl := si h
   exact (runB_arr mixed [(33, .sl ((w5 ++ [TSlot.mk s6 w7]).map TSlot.D))] [] [.live [0, 1, 5, 6], .keep [33], .ren 33 5, .sort] (ai (nc_ok TSlot.D [TSlot.mk s6 w7]) (ai (nc_ok TSlot.D [TSlot.mk s6 w7]) (ai (fit_map TSlot.D h15) (ai (app_map TSlot.D w5 [TSlot.mk s6 w7]) (ti))))) (by kernel_rfl)).lp
  | false =>
   replace h := iteF h
   obtain ⟨o8, h18, h⟩ := bS h
   obtain rfl := si h
   exact (runB_arr mixed [] [⟨[1, 1, 1, 1, 1, 0, 0, 1, 0, 0, 1, 0, 1, 1], [.live [0, 1, 5, 6, 9, 34], .keep [5, 9]], .normal, (ref05_Union_b7_O s0 s1 s6 s10 w5 w9 o8).2⟩] [.live [0, 1, 5, 6], .keep [5]] (ai (ref05_Union_b7_ok rd s0 s1 s6 s10 w5 w9 o8 h18) (ti)) (by kernel_rfl)).lp
def ref05_Union_b5_I (s0 : List TSlot) (s1 : List TSlot) (s6 : Int) (w5 : List TSlot) : St := ⟨sp 42 0 [(0, .d ((D.l TSlot.D) s0)), (1, .d ((D.l TSlot.D) s1)), (5, .row 5), (6, .d ((D.i .i64) s6))], [(5, .row 60 5 (w5.map TSlot.D))], []⟩
def ref05_Union_b5_O (s0 : List TSlot) (s1 : List TSlot) (s6 : Int) (w5 : List TSlot) (o : (List TSlot)) : Ex × St := (.normal, ⟨sp 42 0 [(0, .d ((D.l TSlot.D) s0)), (1, .d ((D.l TSlot.D) s1)), (5, .row 5), (6, .d ((D.i .i64) s6))], [(5, .row 60 5 (o.map TSlot.D))], []⟩)
theorem ref05_Union_b5_ok (rd : Option Nat) (s0 : List TSlot) (s1 : List TSlot) (s6 : Int) (w5 : List TSlot) (o : (List TSlot)) (h : ref05_Union_b5 s0 s1 s6 w5 = some o) : LpOf Try.prog rd (fbody Try.prog 12) [0, 1, 0, 0, 1, 0, 1, 1] (ref05_Union_b5_I s0 s1 s6 w5) (ref05_Union_b5_O s0 s1 s6 w5 o).1 (ref05_Union_b5_O s0 s1 s6 w5 o).2 := by
  unfold ref05_Union_b5 at h
  obtain ⟨r6, h12, h⟩ := bS h
  obtain ⟨r7, h13, h⟩ := bS h
  obtain ⟨o9, h19, h⟩ := bS h
  obtain rfl := si h
  exact (runB_arr mixed [(18, .ret (.tup [.d (TValue.D r6.1), .d (D.b r6.2)])), (24, .ret (.tup [.d (TValue.D r7.1), .d (D.b r7.2)]))] [⟨[1, 1, 1, 0, 0, 1, 0, 0, 1, 0, 1, 1], [.live [0, 1, 5, 6, 7, 9, 10, 27], .keep [5, 7, 9]], .normal, (ref05_Union_b6_O s0 s1 s6 r7.2 r6.2 w5 r6.1 r7.1 o9).2⟩] [.live [0, 1, 5, 6], .keep [5]] (ai (ref05_Get_ok s0 s6 r6 h12) (ai (ref05_Get_ok s1 s6 r7 h13) (ai (ref05_Union_b6_ok rd s0 s1 s6 r7.2 r6.2 w5 r6.1 r7.1 o9 h19) (ti)))) (by kernel_rfl)).lp
def ref05_Union_l1_I (s0 : List TSlot) (s1 : List TSlot) (s6 : Int) (w5 : List TSlot) : St := ⟨sp 42 0 [(0, .d ((D.l TSlot.D) s0)), (1, .d ((D.l TSlot.D) s1)), (5, .row 5), (6, .d ((D.i .i64) s6))], [(5, .row 60 5 (w5.map TSlot.D))], []⟩
def ref05_Union_l1_O (s0 : List TSlot) (s1 : List TSlot) (o : (List TSlot)) : Ex × St := (.exit 0, ⟨sp 42 0 [(5, .row 5)], [(5, .row 60 5 (o.map TSlot.D))], []⟩)
theorem ref05_Union_l1_rnd (rd : Option Nat) (s0 : List TSlot) (s1 : List TSlot) (s6 : Int) (w5 : List TSlot) (o : (Int × List TSlot) ⊕ ((List TSlot))) (h : ref05_Union_l1_s s0 s1 s6 w5 = some o) : Arr Try.prog rd (fbody Try.prog 12) (0 :: [0, 1, 0, 1, 1]) (ref05_Union_l1_I s0 s1 s6 w5) (rR (fun s : Int × List TSlot => ref05_Union_l1_I s0 s1 s.1 s.2) (ref05_Union_l1_O s0 s1) o).1 (rR (fun s : Int × List TSlot => ref05_Union_l1_I s0 s1 s.1 s.2) (ref05_Union_l1_O s0 s1) o).2 := by
  unfold ref05_Union_l1_s at h
  rcases iS h with ⟨h11, h⟩ | ⟨h11, h⟩
  ·
   obtain ⟨o10, h20, h⟩ := bS h
   obtain rfl := si h
   exact runB_arr mixed [(12, .bit true)] [⟨[0, 1, 0, 0, 1, 0, 1, 1], [.live [0, 1, 5, 6], .keep [5]], .normal, (ref05_Union_b5_O s0 s1 s6 w5 o10).2⟩] [.live [0, 1, 5, 6], .keep [5]] (ai h11 (ai (ref05_Union_b5_ok rd s0 s1 s6 w5 o10 h20) (ti))) (by kernel_rfl)
  ·
   obtain rfl := si h
   exact runB_arr mixed [(12, .bit false)] [] [.live [5], .keep [5]] (ai h11 (ti)) (by kernel_rfl)
theorem ref05_Union_l1_ok (rd : Option Nat) (s0 : List TSlot) (s1 : List TSlot) (s6 : Int) (w5 : List TSlot) (t : (List TSlot)) (h : ref05_Union_l1 s0 s1 s6 w5 = some t) : LpOf Try.prog rd (fbody Try.prog 12) [0, 1, 0, 1, 1] (ref05_Union_l1_I s0 s1 s6 w5) ((ref05_Union_l1_O s0 s1) t).1 ((ref05_Union_l1_O s0 s1) t).2 :=
  loopE_lpR (fun s : Int × List TSlot => ref05_Union_l1_I s0 s1 s.1 s.2) (ref05_Union_l1_O s0 s1) (by kernel_rfl) (fun t => isN_ne (by rfl)) (fun s o h => ref05_Union_l1_rnd rd s0 s1 s.1 s.2 o h) (s := (s6, w5)) (t := t) h
theorem ref05_Union_ok (a0 : List TSlot) (a1 : List TSlot) (r : List TSlot) (h : ref05_Union a0 a1 = some r) : ACall Try.prog 12 [.d ((D.l TSlot.D) a0), .d ((D.l TSlot.D) a1)] [] (.d ((D.l TSlot.D) r)) [] := by
  unfold ref05_Union at h
  obtain ⟨o11, h21, h⟩ := bS h
  obtain rfl := si h
  exact runF_call mixed [] [⟨[0, 1, 0, 1, 1], [.live [0, 1, 5, 6], .keep [], .nil 5 5 60 5, .sort], .exit 0, (ref05_Union_l1_O a0 a1 o11).2⟩] [] (ai (ref05_Union_l1_ok none a0 a1 0 ([] : List TSlot) o11 h21) (ti)) (by kernel_rfl)
def ref26_join_b2_I (s1 : List THit) (s2 : Int) (s8 : List TSlot) (s9 : Int) : St := ⟨sp 39 0 [(1, .d ((D.l THit.D) s1)), (2, .d ((D.i .i64) s2)), (8, .d ((D.l TSlot.D) s8)), (9, .d ((D.i .i64) s9))], [], []⟩
def ref26_join_b2_O (s1 : List THit) (s2 : Int) (s8 : List TSlot) (s9 : Int) (o : (List TSlot) ⊕ Unit) : Ex × St := match o with
  | .inl o => (.normal, ⟨sp 39 0 [(1, .d ((D.l THit.D) s1)), (2, .d ((D.i .i64) s2)), (8, .d ((D.l TSlot.D) o)), (9, .d ((D.i .i64) s9))], [], []⟩)
  | .inr o => (.ret, ⟨sp 39 0 [(6, .nil), (7, .d (D.b false))], [], []⟩)
theorem ref26_join_b2_ok (rd : Option Nat) (s1 : List THit) (s2 : Int) (s8 : List TSlot) (s9 : Int) (o : (List TSlot) ⊕ Unit) (h : ref26_join_b2 s1 s2 s8 s9 = some o) : LpOf Try.prog rd (fbody Try.prog 46) [0, 1, 0, 0, 1, 0, 1, 1] (ref26_join_b2_I s1 s2 s8 s9) (ref26_join_b2_O s1 s2 s8 s9 o).1 (ref26_join_b2_O s1 s2 s8 s9 o).2 := by
  unfold ref26_join_b2 at h
  obtain ⟨h2, h⟩ := cS h
  rcases iS h with ⟨h3, h⟩ | ⟨h3, h⟩
  ·
   obtain rfl := si h
   exact (runB_arr mixed [(22, .bit true)] [] [.live [1, 2, 8, 9], .keep []] (ai h2 (ai (of_decide_eq_true rfl : (2 : Int) ≠ 0) (ai h3 (ti)))) (by kernel_rfl)).lp
  ·
   obtain ⟨x1, h4, h⟩ := xS h
   obtain ⟨r2, h5, h⟩ := bS h
   rcases iS h with ⟨h6, h⟩ | ⟨h6, h⟩
   ·
    obtain rfl := si h
    exact (runB_arr mixed [(22, .bit false), (26, .el (THit.D x1)), (29, .ret (.d (D.b r2))), (30, .bit true)] [] [.live [6, 7], .keep []] (ai h2 (ai (of_decide_eq_true rfl : (2 : Int) ≠ 0) (ai h3 (ai (elem_map THit.D h4) (ai (ref05_Fits_ok s8 x1.bind r2 h5) (ai h6 (ti))))))) (by kernel_rfl)).lp
   ·
    obtain ⟨x3, h7, h⟩ := xS h
    obtain ⟨r4, h8, h⟩ := bS h
    obtain rfl := si h
    exact (runB_arr mixed [(22, .bit false), (26, .el (THit.D x1)), (29, .ret (.d (D.b r2))), (30, .bit false), (34, .el (THit.D x3)), (37, .ret (.d ((D.l TSlot.D) r4)))] [] [.live [1, 2, 8, 9], .keep []] (ai h2 (ai (of_decide_eq_true rfl : (2 : Int) ≠ 0) (ai h3 (ai (elem_map THit.D h4) (ai (ref05_Fits_ok s8 x1.bind r2 h5) (ai h6 (ai (elem_map THit.D h7) (ai (ref05_Union_ok s8 x3.bind r4 h8) (ti))))))))) (by kernel_rfl)).lp
def ref26_join_l1_I (s1 : List THit) (s2 : Int) (s8 : List TSlot) (s9 : Int) : St := ⟨sp 39 0 [(1, .d ((D.l THit.D) s1)), (2, .d ((D.i .i64) s2)), (8, .d ((D.l TSlot.D) s8)), (9, .d ((D.i .i64) s9))], [], []⟩
def ref26_join_l1_O (s1 : List THit) (s2 : Int) (o : (List TSlot) ⊕ Unit) : Ex × St := match o with
  | .inl o => (.exit 0, ⟨sp 39 0 [(8, .d ((D.l TSlot.D) o))], [], []⟩)
  | .inr o => (.ret, ⟨sp 39 0 [(6, .nil), (7, .d (D.b false))], [], []⟩)
theorem ref26_join_l1_rnd (rd : Option Nat) (s1 : List THit) (s2 : Int) (s8 : List TSlot) (s9 : Int) (o : (List TSlot × Int) ⊕ ((List TSlot) ⊕ Unit)) (h : ref26_join_l1_s s1 s2 s8 s9 = some o) : Arr Try.prog rd (fbody Try.prog 46) (0 :: [0, 1, 0, 1, 1]) (ref26_join_l1_I s1 s2 s8 s9) (rR (fun s : List TSlot × Int => ref26_join_l1_I s1 s2 s.1 s.2) (ref26_join_l1_O s1 s2) o).1 (rR (fun s : List TSlot × Int => ref26_join_l1_I s1 s2 s.1 s.2) (ref26_join_l1_O s1 s2) o).2 := by
  unfold ref26_join_l1_s at h
  rcases iS h with ⟨h1, h⟩ | ⟨h1, h⟩
  ·
   obtain ⟨o5, h9, h⟩ := bS h
   replace h := sumE_some h
   rcases h with ⟨o6, rfl, h⟩ | ⟨o7, rfl, h⟩
   ·
    obtain rfl := si h
    exact runB_arr mixed [(13, .int (s1.length : Int)), (14, .bit true)] [⟨[0, 1, 0, 0, 1, 0, 1, 1], [.live [1, 2, 8, 9], .keep []], .normal, (ref26_join_b2_O s1 s2 s8 s9 (Sum.inl o6)).2⟩] [.live [1, 2, 8, 9], .keep []] (ai (len_map THit.D s1) (ai h1 (ai (ref26_join_b2_ok rd s1 s2 s8 s9 (Sum.inl o6) h9) (ti)))) (by kernel_rfl)
   ·
    obtain rfl := si h
    exact runB_arr mixed [(13, .int (s1.length : Int)), (14, .bit true)] [⟨[0, 1, 0, 0, 1, 0, 1, 1], [.live [1, 2, 8, 9], .keep []], .ret, (ref26_join_b2_O s1 s2 s8 s9 (Sum.inr o7)).2⟩] [.live [6, 7], .keep []] (ai (len_map THit.D s1) (ai h1 (ai (ref26_join_b2_ok rd s1 s2 s8 s9 (Sum.inr o7) h9) (ti)))) (by kernel_rfl)
  ·
   obtain rfl := si h
   exact runB_arr mixed [(13, .int (s1.length : Int)), (14, .bit false)] [] [.live [8], .keep []] (ai (len_map THit.D s1) (ai h1 (ti))) (by kernel_rfl)
theorem ref26_join_l1_ok (rd : Option Nat) (s1 : List THit) (s2 : Int) (s8 : List TSlot) (s9 : Int) (t : (List TSlot) ⊕ Unit) (h : ref26_join_l1 s1 s2 s8 s9 = some t) : LpOf Try.prog rd (fbody Try.prog 46) [0, 1, 0, 1, 1] (ref26_join_l1_I s1 s2 s8 s9) ((ref26_join_l1_O s1 s2) t).1 ((ref26_join_l1_O s1 s2) t).2 :=
  loopE_lpR (fun s : List TSlot × Int => ref26_join_l1_I s1 s2 s.1 s.2) (ref26_join_l1_O s1 s2) (by kernel_rfl) (fun t => isN_ne (by rcases t with (_ | _) <;> rfl)) (fun s o h => ref26_join_l1_rnd rd s1 s2 s.1 s.2 o h) (s := (s8, s9)) (t := t) h
theorem ref26_join_ok (a0 : List TSlot) (a1 : List THit) (a2 : Int) (r : List TSlot × Bool) (h : ref26_join a0 a1 a2 = some r) : ACall Try.prog 46 [.d ((D.l TSlot.D) a0), .d ((D.l THit.D) a1), .d ((D.i .i64) a2)] [] (.tup [.d ((D.l TSlot.D) r.1), .d (D.b r.2)]) [] := by
  unfold ref26_join at h
  obtain ⟨o8, h10, h⟩ := bS h
  replace h := sumE_some h
  rcases h with ⟨o9, rfl, h⟩ | ⟨o10, rfl, h⟩
  ·
   obtain rfl := si h
   exact runF_call mixed [] [⟨[0, 1, 0, 1, 1], [.live [1, 2, 8, 9], .keep []], .exit 0, (ref26_join_l1_O a1 a2 (Sum.inl o9)).2⟩] [] (ai (ref26_join_l1_ok none a1 a2 a0 0 (Sum.inl o9) h10) (ti)) (by kernel_rfl)
  ·
   obtain rfl := si h
   exact runF_call mixed [] [⟨[0, 1, 0, 1, 1], [.live [1, 2, 8, 9], .keep []], .ret, (ref26_join_l1_O a1 a2 (Sum.inr o10)).2⟩] [] (ai (ref26_join_l1_ok none a1 a2 a0 0 (Sum.inr o10) h10) (ti)) (by kernel_rfl)
def ref05_Put_l1_I (s0 : List (List TSlot)) (s1 : List TSlot) (s5 : Int) : St := ⟨sp 40 0 [(0, .d ((D.l (D.l TSlot.D)) s0)), (1, .d ((D.l TSlot.D) s1)), (5, .d ((D.i .i64) s5))], [], []⟩
def ref05_Put_l1_O (s0 : List (List TSlot)) (s1 : List TSlot) (o : Int) : Ex × St := (.exit 0, ⟨sp 40 0 [(0, .d ((D.l (D.l TSlot.D)) s0)), (1, .d ((D.l TSlot.D) s1)), (5, .d ((D.i .i64) o))], [], []⟩)
theorem ref05_Put_l1_rnd (rd : Option Nat) (s0 : List (List TSlot)) (s1 : List TSlot) (s5 : Int) (o : (Int) ⊕ (Int)) (h : ref05_Put_l1_s s0 s1 s5 = some o) : Arr Try.prog rd (fbody Try.prog 11) (0 :: [0, 0, 1, 1, 1]) (ref05_Put_l1_I s0 s1 s5) (rR (fun s : Int => ref05_Put_l1_I s0 s1 s) (ref05_Put_l1_O s0 s1) o).1 (rR (fun s : Int => ref05_Put_l1_I s0 s1 s) (ref05_Put_l1_O s0 s1) o).2 := by
  unfold ref05_Put_l1_s at h
  rcases iS h with ⟨h3, h⟩ | ⟨h3, h⟩
  ·
   obtain ⟨x2, h4, h⟩ := xS h
   obtain ⟨r3, h5, h⟩ := bS h
   cases r3 with
   | true =>
    replace h := iteT h
    obtain rfl := si h
    exact runB_arr mixed [(15, .bit true), (20, .el ((D.l TSlot.D) x2)), (22, .ret (.d (D.b true)))] [] [.live [0, 1, 5], .keep []] (ai h3 (ai (elem_map (D.l TSlot.D) h4) (ai (ref05_Less_ok s1 x2 true h5) (ti)))) (by kernel_rfl)
   | false =>
    replace h := iteF h
    obtain rfl := si h
    exact runB_arr mixed [(15, .bit true), (20, .el ((D.l TSlot.D) x2)), (22, .ret (.d (D.b false)))] [] [.live [0, 1, 5], .keep []] (ai h3 (ai (elem_map (D.l TSlot.D) h4) (ai (ref05_Less_ok s1 x2 false h5) (ti)))) (by kernel_rfl)
  ·
   obtain rfl := si h
   exact runB_arr mixed [(15, .bit false)] [] [.live [0, 1, 5], .keep []] (ai h3 (ti)) (by kernel_rfl)
theorem ref05_Put_l1_ok (rd : Option Nat) (s0 : List (List TSlot)) (s1 : List TSlot) (s5 : Int) (t : Int) (h : ref05_Put_l1 s0 s1 s5 = some t) : LpOf Try.prog rd (fbody Try.prog 11) [0, 0, 1, 1, 1] (ref05_Put_l1_I s0 s1 s5) ((ref05_Put_l1_O s0 s1) t).1 ((ref05_Put_l1_O s0 s1) t).2 :=
  loopE_lpR (fun s : Int => ref05_Put_l1_I s0 s1 s) (ref05_Put_l1_O s0 s1) (by kernel_rfl) (fun t => isN_ne (by rfl)) (fun s o h => ref05_Put_l1_rnd rd s0 s1 s o h) (s := s5) (t := t) h
theorem ref05_Put_ok (a0 : List (List TSlot)) (a1 : List TSlot) (r : List (List TSlot)) (h : ref05_Put a0 a1 = some r) : ACall Try.prog 11 [.d ((D.l (D.l TSlot.D)) a0), .d ((D.l TSlot.D) a1)] [] (.d ((D.l (D.l TSlot.D)) r)) [] := by
  unfold ref05_Put at h
  obtain ⟨r1, h1, h⟩ := bS h
  cases r1 with
  | true =>
   replace h := iteT h
   obtain rfl := si h
   exact runF_call mixed [(9, .ret (.d (D.b true)))] [] [] (ai (ref05_Has_ok a0 a1 true h1) (ti)) (by kernel_rfl)
  | false =>
   replace h := iteF h
   obtain ⟨o4, h7, h⟩ := bS h
   obtain ⟨h8, h⟩ := cS h
   obtain ⟨h9, h⟩ := cS h
   obtain ⟨h10, h⟩ := cS h
   obtain ⟨h11, h⟩ := cS h
   obtain ⟨h12, h⟩ := cS h
   obtain rfl := si h
   exact runF_call mixed [(9, .ret (.d (D.b false))), (12, .int (a0.length : Int)), (29, .sl ((sub a0 0 o4).map (D.l TSlot.D))), (30, .sl ((([] : List (List TSlot)) ++ (sub a0 0 o4)).map (D.l TSlot.D))), (34, .sl (((([] : List (List TSlot)) ++ (sub a0 0 o4)) ++ [a1]).map (D.l TSlot.D))), (38, .sl ((sub a0 o4 (a0.length : Int)).map (D.l TSlot.D))), (39, .sl ((((([] : List (List TSlot)) ++ (sub a0 0 o4)) ++ [a1]) ++ (sub a0 o4 (a0.length : Int))).map (D.l TSlot.D)))] [⟨[0, 0, 1, 1, 1], [.live [0, 1, 5], .keep []], .exit 0, (ref05_Put_l1_O a0 a1 o4).2⟩] [] (ai (ref05_Has_ok a0 a1 false h1) (ai (len_map (D.l TSlot.D) a0) (ai (ref05_Put_l1_ok none a0 a1 (a0.length : Int) o4 h7) (ai (nc_ok (D.l TSlot.D) ([] : List (List TSlot))) (ai (cut_some (D.l TSlot.D) h8) (ai (nc_ok (D.l TSlot.D) (sub a0 0 o4)) (ai (fit_map (D.l TSlot.D) h9) (ai (app_map (D.l TSlot.D) ([] : List (List TSlot)) (sub a0 0 o4)) (ai (nc_ok (D.l TSlot.D) [a1]) (ai (nc_ok (D.l TSlot.D) [a1]) (ai (fit_map (D.l TSlot.D) h10) (ai (app_map (D.l TSlot.D) (([] : List (List TSlot)) ++ (sub a0 0 o4)) [a1]) (ai (cut_none (D.l TSlot.D) h11) (ai (nc_ok (D.l TSlot.D) (sub a0 o4 (a0.length : Int))) (ai (fit_map (D.l TSlot.D) h12) (ai (app_map (D.l TSlot.D) ((([] : List (List TSlot)) ++ (sub a0 0 o4)) ++ [a1]) (sub a0 o4 (a0.length : Int))) (ti))))))))))))))))) (by kernel_rfl)
def ref26_Grow_l1_I (s0 : List (List TSlot)) (s1 : List THit) (s6 : Int) (s7 : Int) : St := ⟨sp 52 0 [(0, .d ((D.l (D.l TSlot.D)) s0)), (1, .d ((D.l THit.D) s1)), (5, .nil), (6, .d ((D.i .i64) s6)), (7, .d ((D.i .i64) s7))], [], []⟩
def ref26_Grow_l1_O (s0 : List (List TSlot)) (s1 : List THit) (o : Int) : Ex × St := (.exit 0, ⟨sp 52 0 [(0, .d ((D.l (D.l TSlot.D)) s0)), (1, .d ((D.l THit.D) s1)), (5, .nil), (6, .d ((D.i .i64) o))], [], []⟩)
theorem ref26_Grow_l1_rnd (rd : Option Nat) (s0 : List (List TSlot)) (s1 : List THit) (s6 : Int) (s7 : Int) (o : (Int × Int) ⊕ (Int)) (h : ref26_Grow_l1_s s0 s1 s6 s7 = some o) : Arr Try.prog rd (fbody Try.prog 15) (0 :: [0, 1, 0, 1, 1, 1]) (ref26_Grow_l1_I s0 s1 s6 s7) (rR (fun s : Int × Int => ref26_Grow_l1_I s0 s1 s.1 s.2) (ref26_Grow_l1_O s0 s1) o).1 (rR (fun s : Int × Int => ref26_Grow_l1_I s0 s1 s.1 s.2) (ref26_Grow_l1_O s0 s1) o).2 := by
  unfold ref26_Grow_l1_s at h
  rcases iS h with ⟨h1, h⟩ | ⟨h1, h⟩
  ·
   obtain rfl := si h
   exact runB_arr mixed [(14, .int (s1.length : Int)), (15, .bit true)] [] [.live [0, 1, 5, 6, 7], .keep []] (ai (len_map THit.D s1) (ai h1 (ti))) (by kernel_rfl)
  ·
   obtain rfl := si h
   exact runB_arr mixed [(14, .int (s1.length : Int)), (15, .bit false)] [] [.live [0, 1, 5, 6], .keep []] (ai (len_map THit.D s1) (ai h1 (ti))) (by kernel_rfl)
theorem ref26_Grow_l1_ok (rd : Option Nat) (s0 : List (List TSlot)) (s1 : List THit) (s6 : Int) (s7 : Int) (t : Int) (h : ref26_Grow_l1 s0 s1 s6 s7 = some t) : LpOf Try.prog rd (fbody Try.prog 15) [0, 1, 0, 1, 1, 1] (ref26_Grow_l1_I s0 s1 s6 s7) ((ref26_Grow_l1_O s0 s1) t).1 ((ref26_Grow_l1_O s0 s1) t).2 :=
  loopE_lpR (fun s : Int × Int => ref26_Grow_l1_I s0 s1 s.1 s.2) (ref26_Grow_l1_O s0 s1) (by kernel_rfl) (fun t => isN_ne (by rfl)) (fun s o h => ref26_Grow_l1_rnd rd s0 s1 s.1 s.2 o h) (s := (s6, s7)) (t := t) h
def ref26_Grow_b7_I (s0 : List (List TSlot)) (s1 : List THit) (s5 : List (List TSlot)) (s6 : Int) (s8 : Int) (s9 : Int) (s10 : List TSlot) (s47 : Bool) : St := ⟨sp 52 0 [(0, .d ((D.l (D.l TSlot.D)) s0)), (1, .d ((D.l THit.D) s1)), (5, .d ((D.l (D.l TSlot.D)) s5)), (6, .d ((D.i .i64) s6)), (8, .d ((D.i .i64) s8)), (9, .d ((D.i .i64) s9)), (10, .d ((D.l TSlot.D) s10)), (47, .d (D.b s47))], [], []⟩
def ref26_Grow_b7_O (s0 : List (List TSlot)) (s1 : List THit) (s5 : List (List TSlot)) (s6 : Int) (s8 : Int) (s9 : Int) (s10 : List TSlot) (s47 : Bool) (o : (List (List TSlot))) : Ex × St := (.normal, ⟨sp 52 0 [(0, .d ((D.l (D.l TSlot.D)) s0)), (1, .d ((D.l THit.D) s1)), (5, .d ((D.l (D.l TSlot.D)) o)), (6, .d ((D.i .i64) s6)), (8, .d ((D.i .i64) s8)), (9, .d ((D.i .i64) s9))], [], []⟩)
theorem ref26_Grow_b7_ok (rd : Option Nat) (s0 : List (List TSlot)) (s1 : List THit) (s5 : List (List TSlot)) (s6 : Int) (s8 : Int) (s9 : Int) (s10 : List TSlot) (s47 : Bool) (o : (List (List TSlot))) (h : ref26_Grow_b7 s0 s1 s5 s6 s8 s9 s10 s47 = some o) : LpOf Try.prog rd (fbody Try.prog 15) [1, 1, 0, 0, 1, 0, 0, 1, 0, 0, 1, 0, 0, 1, 0, 1, 1, 1, 1] (ref26_Grow_b7_I s0 s1 s5 s6 s8 s9 s10 s47) (ref26_Grow_b7_O s0 s1 s5 s6 s8 s9 s10 s47 o).1 (ref26_Grow_b7_O s0 s1 s5 s6 s8 s9 s10 s47 o).2 := by
  unfold ref26_Grow_b7 at h
  cases s47 with
  | true =>
   replace h := iteT h
   obtain ⟨r12, h20, h⟩ := bS h
   obtain rfl := si h
   exact (runB_arr mixed [(50, .ret (.d ((D.l (D.l TSlot.D)) r12)))] [] [.live [0, 1, 5, 6, 8, 9], .keep []] (ai (ref05_Put_ok s5 s10 r12 h20) (ti)) (by kernel_rfl)).lp
  | false =>
   replace h := iteF h
   obtain rfl := si h
   exact (runB_arr mixed [] [] [.live [0, 1, 5, 6, 8, 9], .keep []] (ti) (by kernel_rfl)).lp
def ref26_Grow_b6_I (s0 : List (List TSlot)) (s1 : List THit) (s5 : List (List TSlot)) (s6 : Int) (s8 : Int) (s9 : Int) : St := ⟨sp 52 0 [(0, .d ((D.l (D.l TSlot.D)) s0)), (1, .d ((D.l THit.D) s1)), (5, .d ((D.l (D.l TSlot.D)) s5)), (6, .d ((D.i .i64) s6)), (8, .d ((D.i .i64) s8)), (9, .d ((D.i .i64) s9))], [], []⟩
def ref26_Grow_b6_O (s0 : List (List TSlot)) (s1 : List THit) (s5 : List (List TSlot)) (s6 : Int) (s8 : Int) (s9 : Int) (o : (List (List TSlot))) : Ex × St := (.normal, ⟨sp 52 0 [(0, .d ((D.l (D.l TSlot.D)) s0)), (1, .d ((D.l THit.D) s1)), (5, .d ((D.l (D.l TSlot.D)) o)), (6, .d ((D.i .i64) s6)), (8, .d ((D.i .i64) s8)), (9, .d ((D.i .i64) s9))], [], []⟩)
theorem ref26_Grow_b6_ok (rd : Option Nat) (s0 : List (List TSlot)) (s1 : List THit) (s5 : List (List TSlot)) (s6 : Int) (s8 : Int) (s9 : Int) (o : (List (List TSlot))) (h : ref26_Grow_b6 s0 s1 s5 s6 s8 s9 = some o) : LpOf Try.prog rd (fbody Try.prog 15) [0, 1, 0, 0, 1, 0, 0, 1, 0, 0, 1, 0, 1, 1, 1, 1] (ref26_Grow_b6_I s0 s1 s5 s6 s8 s9) (ref26_Grow_b6_O s0 s1 s5 s6 s8 s9 o).1 (ref26_Grow_b6_O s0 s1 s5 s6 s8 s9 o).2 := by
  unfold ref26_Grow_b6 at h
  obtain ⟨x9, h15, h⟩ := xS h
  obtain ⟨r10, h16, h⟩ := bS h
  rcases iS h with ⟨h17, h⟩ | ⟨h17, h⟩
  ·
   obtain ⟨r11, h18, h⟩ := bS h
   obtain ⟨o13, h21, h⟩ := bS h
   obtain rfl := si h
   exact (runB_arr mixed [(34, .el ((D.l TSlot.D) x9)), (38, .ret (.tup [.d ((D.l TSlot.D) r10.1), .d (D.b r10.2)])), (42, .bit true), (45, .ret (.d (D.b r11)))] [⟨[1, 1, 0, 0, 1, 0, 0, 1, 0, 0, 1, 0, 0, 1, 0, 1, 1, 1, 1], [.live [0, 1, 5, 6, 8, 9, 10, 47], .keep []], .normal, (ref26_Grow_b7_O s0 s1 s5 s6 s8 s9 r10.1 (!r11) o13).2⟩] [.live [0, 1, 5, 6, 8, 9], .keep []] (ai (elem_map (D.l TSlot.D) h15) (ai (ref26_join_ok x9 s1 s9 r10 h16) (ai h17 (ai (ref05_Has_ok s0 r10.1 r11 h18) (ai (ref26_Grow_b7_ok rd s0 s1 s5 s6 s8 s9 r10.1 (!r11) o13 h21) (ti)))))) (by kernel_rfl)).lp
  ·
   obtain ⟨o14, h22, h⟩ := bS h
   obtain rfl := si h
   exact (runB_arr mixed [(34, .el ((D.l TSlot.D) x9)), (38, .ret (.tup [.d ((D.l TSlot.D) r10.1), .d (D.b r10.2)])), (42, .bit false)] [⟨[1, 1, 0, 0, 1, 0, 0, 1, 0, 0, 1, 0, 0, 1, 0, 1, 1, 1, 1], [.live [0, 1, 5, 6, 8, 9, 10, 47], .keep []], .normal, (ref26_Grow_b7_O s0 s1 s5 s6 s8 s9 r10.1 false o14).2⟩] [.live [0, 1, 5, 6, 8, 9], .keep []] (ai (elem_map (D.l TSlot.D) h15) (ai (ref26_join_ok x9 s1 s9 r10 h16) (ai h17 (ai (ref26_Grow_b7_ok rd s0 s1 s5 s6 s8 s9 r10.1 false o14 h22) (ti))))) (by kernel_rfl)).lp
def ref26_Grow_l8_I (s0 : List (List TSlot)) (s1 : List THit) (s6 : Int) (s8 : Int) (s5 : List (List TSlot)) (s9 : Int) : St := ⟨sp 52 0 [(0, .d ((D.l (D.l TSlot.D)) s0)), (1, .d ((D.l THit.D) s1)), (5, .d ((D.l (D.l TSlot.D)) s5)), (6, .d ((D.i .i64) s6)), (8, .d ((D.i .i64) s8)), (9, .d ((D.i .i64) s9))], [], []⟩
def ref26_Grow_l8_O (s0 : List (List TSlot)) (s1 : List THit) (s6 : Int) (s8 : Int) (o : (List (List TSlot))) : Ex × St := (.exit 4, ⟨sp 52 0 [(0, .d ((D.l (D.l TSlot.D)) s0)), (1, .d ((D.l THit.D) s1)), (5, .d ((D.l (D.l TSlot.D)) o)), (6, .d ((D.i .i64) s6)), (8, .d ((D.i .i64) s8))], [], []⟩)
theorem ref26_Grow_l8_rnd (rd : Option Nat) (s0 : List (List TSlot)) (s1 : List THit) (s6 : Int) (s8 : Int) (s5 : List (List TSlot)) (s9 : Int) (o : (List (List TSlot) × Int) ⊕ ((List (List TSlot)))) (h : ref26_Grow_l8_s s0 s1 s6 s8 s5 s9 = some o) : Arr Try.prog rd (fbody Try.prog 15) (0 :: [0, 1, 0, 0, 1, 0, 0, 1, 0, 1, 1, 1, 1]) (ref26_Grow_l8_I s0 s1 s6 s8 s5 s9) (rR (fun s : List (List TSlot) × Int => ref26_Grow_l8_I s0 s1 s6 s8 s.1 s.2) (ref26_Grow_l8_O s0 s1 s6 s8) o).1 (rR (fun s : List (List TSlot) × Int => ref26_Grow_l8_I s0 s1 s6 s8 s.1 s.2) (ref26_Grow_l8_O s0 s1 s6 s8) o).2 := by
  unfold ref26_Grow_l8_s at h
  rcases iS h with ⟨h26, h⟩ | ⟨h26, h⟩
  ·
   obtain ⟨o17, h27, h⟩ := bS h
   obtain rfl := si h
   exact runB_arr mixed [(28, .bit true)] [⟨[0, 1, 0, 0, 1, 0, 0, 1, 0, 0, 1, 0, 1, 1, 1, 1], [.live [0, 1, 5, 6, 8, 9], .keep []], .normal, (ref26_Grow_b6_O s0 s1 s5 s6 s8 s9 o17).2⟩] [.live [0, 1, 5, 6, 8, 9], .keep []] (ai h26 (ai (ref26_Grow_b6_ok rd s0 s1 s5 s6 s8 s9 o17 h27) (ti))) (by kernel_rfl)
  ·
   obtain rfl := si h
   exact runB_arr mixed [(28, .bit false)] [] [.live [0, 1, 5, 6, 8], .keep []] (ai h26 (ti)) (by kernel_rfl)
theorem ref26_Grow_l8_ok (rd : Option Nat) (s0 : List (List TSlot)) (s1 : List THit) (s6 : Int) (s8 : Int) (s5 : List (List TSlot)) (s9 : Int) (t : (List (List TSlot))) (h : ref26_Grow_l8 s0 s1 s6 s8 s5 s9 = some t) : LpOf Try.prog rd (fbody Try.prog 15) [0, 1, 0, 0, 1, 0, 0, 1, 0, 1, 1, 1, 1] (ref26_Grow_l8_I s0 s1 s6 s8 s5 s9) ((ref26_Grow_l8_O s0 s1 s6 s8) t).1 ((ref26_Grow_l8_O s0 s1 s6 s8) t).2 :=
  loopE_lpR (fun s : List (List TSlot) × Int => ref26_Grow_l8_I s0 s1 s6 s8 s.1 s.2) (ref26_Grow_l8_O s0 s1 s6 s8) (by kernel_rfl) (fun t => isN_ne (by rfl)) (fun s o h => ref26_Grow_l8_rnd rd s0 s1 s6 s8 s.1 s.2 o h) (s := (s5, s9)) (t := t) h
def ref26_Grow_l2_I (s0 : List (List TSlot)) (s1 : List THit) (s6 : Int) (s5 : List (List TSlot)) (s8 : Int) : St := ⟨sp 52 0 [(0, .d ((D.l (D.l TSlot.D)) s0)), (1, .d ((D.l THit.D) s1)), (5, .d ((D.l (D.l TSlot.D)) s5)), (6, .d ((D.i .i64) s6)), (8, .d ((D.i .i64) s8))], [], []⟩
def ref26_Grow_l2_O (s0 : List (List TSlot)) (s1 : List THit) (s6 : Int) (o : (List (List TSlot))) : Ex × St := (.exit 2, ⟨sp 52 0 [(5, .d ((D.l (D.l TSlot.D)) o))], [], []⟩)
theorem ref26_Grow_l2_rnd (rd : Option Nat) (s0 : List (List TSlot)) (s1 : List THit) (s6 : Int) (s5 : List (List TSlot)) (s8 : Int) (o : (List (List TSlot) × Int) ⊕ ((List (List TSlot)))) (h : ref26_Grow_l2_s s0 s1 s6 s5 s8 = some o) : Arr Try.prog rd (fbody Try.prog 15) (0 :: [0, 1, 0, 1, 1, 1, 1]) (ref26_Grow_l2_I s0 s1 s6 s5 s8) (rR (fun s : List (List TSlot) × Int => ref26_Grow_l2_I s0 s1 s6 s.1 s.2) (ref26_Grow_l2_O s0 s1 s6) o).1 (rR (fun s : List (List TSlot) × Int => ref26_Grow_l2_I s0 s1 s6 s.1 s.2) (ref26_Grow_l2_O s0 s1 s6) o).2 := by
  unfold ref26_Grow_l2_s at h
  rcases iS h with ⟨h25, h⟩ | ⟨h25, h⟩
  ·
   obtain ⟨o18, h28, h⟩ := bS h
   obtain rfl := si h
   exact runB_arr mixed [(22, .int (s0.length : Int)), (23, .bit true)] [⟨[0, 1, 0, 0, 1, 0, 0, 1, 0, 1, 1, 1, 1], [.live [0, 1, 5, 6, 8, 9], .keep []], .exit 4, (ref26_Grow_l8_O s0 s1 s6 s8 o18).2⟩] [.live [0, 1, 5, 6, 8], .keep []] (ai (len_map (D.l TSlot.D) s0) (ai h25 (ai (ref26_Grow_l8_ok rd s0 s1 s6 s8 s5 1 o18 h28) (ti)))) (by kernel_rfl)
  ·
   obtain rfl := si h
   exact runB_arr mixed [(22, .int (s0.length : Int)), (23, .bit false)] [] [.live [5], .keep []] (ai (len_map (D.l TSlot.D) s0) (ai h25 (ti))) (by kernel_rfl)
theorem ref26_Grow_l2_ok (rd : Option Nat) (s0 : List (List TSlot)) (s1 : List THit) (s6 : Int) (s5 : List (List TSlot)) (s8 : Int) (t : (List (List TSlot))) (h : ref26_Grow_l2 s0 s1 s6 s5 s8 = some t) : LpOf Try.prog rd (fbody Try.prog 15) [0, 1, 0, 1, 1, 1, 1] (ref26_Grow_l2_I s0 s1 s6 s5 s8) ((ref26_Grow_l2_O s0 s1 s6) t).1 ((ref26_Grow_l2_O s0 s1 s6) t).2 :=
  loopE_lpR (fun s : List (List TSlot) × Int => ref26_Grow_l2_I s0 s1 s6 s.1 s.2) (ref26_Grow_l2_O s0 s1 s6) (by kernel_rfl) (fun t => isN_ne (by rfl)) (fun s o h => ref26_Grow_l2_rnd rd s0 s1 s6 s.1 s.2 o h) (s := (s5, s8)) (t := t) h
theorem ref26_Grow_ok (a0 : List (List TSlot)) (a1 : List THit) (r : List (List TSlot)) (h : ref26_Grow a0 a1 = some r) : ACall Try.prog 15 [.d ((D.l (D.l TSlot.D)) a0), .d ((D.l THit.D) a1)] [] (.d ((D.l (D.l TSlot.D)) r)) [] := by
  unfold ref26_Grow at h
  obtain ⟨o1, h2, h⟩ := bS h
  obtain ⟨o19, h29, h⟩ := bS h
  obtain rfl := si h
  exact runF_call mixed [] [⟨[0, 1, 0, 1, 1, 1], [.live [0, 1, 5, 6, 7], .keep []], .exit 0, (ref26_Grow_l1_O a0 a1 o1).2⟩, ⟨[0, 1, 0, 1, 1, 1, 1], [.look 5, .live [0, 1, 5, 6, 8], .keep []], .exit 2, (ref26_Grow_l2_O a0 a1 o1 o19).2⟩] [] (ai (ref26_Grow_l1_ok none a0 a1 1 0 o1 h2) (ai (ref26_Grow_l2_ok none a0 a1 o1 ([] : List (List TSlot)) 0 o19 h29) (ti))) (by kernel_rfl)
def ref05_Under_l1_I (s0 : List TSlot) (s1 : List TSlot) (s5 : Int) : St := ⟨sp 35 0 [(0, .d ((D.l TSlot.D) s0)), (1, .d ((D.l TSlot.D) s1)), (5, .d ((D.i .i64) s5))], [], []⟩
def ref05_Under_l1_O (s0 : List TSlot) (s1 : List TSlot) (o : Unit ⊕ Unit) : Ex × St := match o with
  | .inl o => (.exit 0, ⟨sp 35 0 [], [], []⟩)
  | .inr o => (.ret, ⟨sp 35 0 [(4, .d (D.b false))], [], []⟩)
theorem ref05_Under_l1_rnd (rd : Option Nat) (s0 : List TSlot) (s1 : List TSlot) (s5 : Int) (o : (Int) ⊕ (Unit ⊕ Unit)) (h : ref05_Under_l1_s s0 s1 s5 = some o) : Arr Try.prog rd (fbody Try.prog 47) (0 :: [0, 1, 0, 1]) (ref05_Under_l1_I s0 s1 s5) (rR (fun s : Int => ref05_Under_l1_I s0 s1 s) (ref05_Under_l1_O s0 s1) o).1 (rR (fun s : Int => ref05_Under_l1_I s0 s1 s) (ref05_Under_l1_O s0 s1) o).2 := by
  unfold ref05_Under_l1_s at h
  rcases iS h with ⟨h1, h⟩ | ⟨h1, h⟩
  ·
   obtain ⟨x1, h2, h⟩ := xS h
   obtain ⟨r2, h3, h⟩ := bS h
   rcases iS h with ⟨h4, h⟩ | ⟨h4, h⟩
   ·
    obtain rfl := si h
    exact runB_arr mixed [(10, .int (s0.length : Int)), (11, .bit true), (18, .el (TSlot.D x1)), (21, .ret (.tup [.d (TValue.D r2.1), .d (D.b r2.2)])), (26, .bit true)] [] [.live [4], .keep []] (ai (len_map TSlot.D s0) (ai h1 (ai (elem_map TSlot.D h2) (ai (ref05_Get_ok s1 x1.var r2 h3) (ai h4 (ti)))))) (by kernel_rfl)
   ·
    obtain ⟨x3, h5, h⟩ := xS h
    rcases iS h with ⟨h6, h⟩ | ⟨h6, h⟩
    ·
     obtain rfl := si h
     exact runB_arr mixed [(10, .int (s0.length : Int)), (11, .bit true), (18, .el (TSlot.D x1)), (21, .ret (.tup [.d (TValue.D r2.1), .d (D.b r2.2)])), (26, .bit false), (30, .el (TSlot.D x3)), (34, .bit true)] [] [.live [4], .keep []] (ai (len_map TSlot.D s0) (ai h1 (ai (elem_map TSlot.D h2) (ai (ref05_Get_ok s1 x1.var r2 h3) (ai h4 (ai (elem_map TSlot.D h5) (ai h6 (ti)))))))) (by kernel_rfl)
    ·
     obtain rfl := si h
     exact runB_arr mixed [(10, .int (s0.length : Int)), (11, .bit true), (18, .el (TSlot.D x1)), (21, .ret (.tup [.d (TValue.D r2.1), .d (D.b r2.2)])), (26, .bit false), (30, .el (TSlot.D x3)), (34, .bit false)] [] [.live [0, 1, 5], .keep []] (ai (len_map TSlot.D s0) (ai h1 (ai (elem_map TSlot.D h2) (ai (ref05_Get_ok s1 x1.var r2 h3) (ai h4 (ai (elem_map TSlot.D h5) (ai h6 (ti)))))))) (by kernel_rfl)
  ·
   obtain rfl := si h
   exact runB_arr mixed [(10, .int (s0.length : Int)), (11, .bit false)] [] [.live [], .keep []] (ai (len_map TSlot.D s0) (ai h1 (ti))) (by kernel_rfl)
theorem ref05_Under_l1_ok (rd : Option Nat) (s0 : List TSlot) (s1 : List TSlot) (s5 : Int) (t : Unit ⊕ Unit) (h : ref05_Under_l1 s0 s1 s5 = some t) : LpOf Try.prog rd (fbody Try.prog 47) [0, 1, 0, 1] (ref05_Under_l1_I s0 s1 s5) ((ref05_Under_l1_O s0 s1) t).1 ((ref05_Under_l1_O s0 s1) t).2 :=
  loopE_lpR (fun s : Int => ref05_Under_l1_I s0 s1 s) (ref05_Under_l1_O s0 s1) (by kernel_rfl) (fun t => isN_ne (by rcases t with (_ | _) <;> rfl)) (fun s o h => ref05_Under_l1_rnd rd s0 s1 s o h) (s := s5) (t := t) h
theorem ref05_Under_ok (a0 : List TSlot) (a1 : List TSlot) (r : Bool) (h : ref05_Under a0 a1 = some r) : ACall Try.prog 47 [.d ((D.l TSlot.D) a0), .d ((D.l TSlot.D) a1)] [] (.d (D.b r)) [] := by
  unfold ref05_Under at h
  obtain ⟨o4, h7, h⟩ := bS h
  replace h := sumE_some h
  rcases h with ⟨o5, rfl, h⟩ | ⟨o6, rfl, h⟩
  ·
   obtain rfl := si h
   exact runF_call mixed [] [⟨[0, 1, 0, 1], [.live [0, 1, 5], .keep []], .exit 0, (ref05_Under_l1_O a0 a1 (Sum.inl o5)).2⟩] [] (ai (ref05_Under_l1_ok none a0 a1 0 (Sum.inl o5) h7) (ti)) (by kernel_rfl)
  ·
   obtain rfl := si h
   exact runF_call mixed [] [⟨[0, 1, 0, 1], [.live [0, 1, 5], .keep []], .ret, (ref05_Under_l1_O a0 a1 (Sum.inr o6)).2⟩] [] (ai (ref05_Under_l1_ok none a0 a1 0 (Sum.inr o6) h7) (ti)) (by kernel_rfl)
def ref26_Most_b5_I (s0 : List TRow) (s1 : List TSlot) (s2 : Bool) (s8 : Int) (s40 : Bool) (w7 : List Int) : St := ⟨sp 92 0 [(0, .d ((D.l TRow.D) s0)), (1, .d ((D.l TSlot.D) s1)), (2, .d (D.b s2)), (7, .row 7), (8, .d ((D.i .i64) s8)), (40, .d (D.b s40))], [(7, .row 3 1 (w7.map (D.i .i64)))], []⟩
def ref26_Most_b5_O (s0 : List TRow) (s1 : List TSlot) (s2 : Bool) (s8 : Int) (s40 : Bool) (w7 : List Int) (o : (List Int)) : Ex × St := (.normal, ⟨sp 92 0 [(0, .d ((D.l TRow.D) s0)), (1, .d ((D.l TSlot.D) s1)), (2, .d (D.b s2)), (7, .row 7), (8, .d ((D.i .i64) s8))], [(7, .row 3 1 (o.map (D.i .i64)))], []⟩)
theorem ref26_Most_b5_ok (rd : Option Nat) (s0 : List TRow) (s1 : List TSlot) (s2 : Bool) (s8 : Int) (s40 : Bool) (w7 : List Int) (o : (List Int)) (h : ref26_Most_b5 s0 s1 s2 s8 s40 w7 = some o) : LpOf Try.prog rd (fbody Try.prog 18) [1, 0, 0, 1, 0, 0, 1, 0, 1, 1] (ref26_Most_b5_I s0 s1 s2 s8 s40 w7) (ref26_Most_b5_O s0 s1 s2 s8 s40 w7 o).1 (ref26_Most_b5_O s0 s1 s2 s8 s40 w7 o).2 := by
  unfold ref26_Most_b5 at h
  cases s40 with
  | true =>
   replace h := iteT h
   obtain ⟨h22, h⟩ := cS h
   obtain rfl := si h
   exact (runB_arr mixed [(44, .sl ((w7 ++ [s8]).map (D.i .i64)))] [] [.live [0, 1, 2, 7, 8], .keep [44], .ren 44 7, .sort] (ai (nc_ok (D.i .i64) [s8]) (ai (nc_ok (D.i .i64) [s8]) (ai (fit_map (D.i .i64) h22) (ai (app_map (D.i .i64) w7 [s8]) (ti))))) (by kernel_rfl)).lp
  | false =>
   replace h := iteF h
   obtain rfl := si h
   exact (runB_arr mixed [] [] [.live [0, 1, 2, 7, 8], .keep [7]] (ti) (by kernel_rfl)).lp
def ref26_Most_b4_I (s0 : List TRow) (s1 : List TSlot) (s2 : Bool) (s8 : Int) (w7 : List Int) : St := ⟨sp 92 0 [(0, .d ((D.l TRow.D) s0)), (1, .d ((D.l TSlot.D) s1)), (2, .d (D.b s2)), (7, .row 7), (8, .d ((D.i .i64) s8))], [(7, .row 3 1 (w7.map (D.i .i64)))], []⟩
def ref26_Most_b4_O (s0 : List TRow) (s1 : List TSlot) (s2 : Bool) (s8 : Int) (w7 : List Int) (o : (List Int)) : Ex × St := (.normal, ⟨sp 92 0 [(0, .d ((D.l TRow.D) s0)), (1, .d ((D.l TSlot.D) s1)), (2, .d (D.b s2)), (7, .row 7), (8, .d ((D.i .i64) s8))], [(7, .row 3 1 (o.map (D.i .i64)))], []⟩)
theorem ref26_Most_b4_ok (rd : Option Nat) (s0 : List TRow) (s1 : List TSlot) (s2 : Bool) (s8 : Int) (w7 : List Int) (o : (List Int)) (h : ref26_Most_b4 s0 s1 s2 s8 w7 = some o) : LpOf Try.prog rd (fbody Try.prog 18) [0, 1, 0, 0, 1, 0, 1, 1] (ref26_Most_b4_I s0 s1 s2 s8 w7) (ref26_Most_b4_O s0 s1 s2 s8 w7 o).1 (ref26_Most_b4_O s0 s1 s2 s8 w7 o).2 := by
  unfold ref26_Most_b4 at h
  obtain ⟨x9, h15, h⟩ := xS h
  obtain ⟨r10, h16, h⟩ := bS h
  cases r10 with
  | true =>
   replace h := iteT h
   rcases iS h with ⟨h18, h⟩ | ⟨h18, h⟩
   ·
    obtain ⟨x11, h19, h⟩ := xS h
    obtain ⟨r12, h20, h⟩ := bS h
    obtain ⟨o13, h23, h⟩ := bS h
    obtain rfl := si h
    exact (runB_arr mixed [(23, .el (TRow.D x9)), (27, .ret (.d (D.b true))), (30, .bit true), (33, .el (TRow.D x11)), (37, .ret (.d (D.b r12)))] [⟨[1, 0, 0, 1, 0, 0, 1, 0, 1, 1], [.live [0, 1, 2, 7, 8, 40], .keep [7]], .normal, (ref26_Most_b5_O s0 s1 s2 s8 (!r12) w7 o13).2⟩] [.live [0, 1, 2, 7, 8], .keep [7]] (ai (elem_map TRow.D h15) (ai (ref05_Under_ok x9.bind s1 true h16) (ai h18 (ai (elem_map TRow.D h19) (ai (ref05_Same_ok x11.bind s1 r12 h20) (ai (ref26_Most_b5_ok rd s0 s1 s2 s8 (!r12) w7 o13 h23) (ti))))))) (by kernel_rfl)).lp
   ·
    obtain ⟨o14, h24, h⟩ := bS h
    obtain rfl := si h
    exact (runB_arr mixed [(23, .el (TRow.D x9)), (27, .ret (.d (D.b true))), (30, .bit false)] [⟨[1, 0, 0, 1, 0, 0, 1, 0, 1, 1], [.live [0, 1, 2, 7, 8, 40], .keep [7]], .normal, (ref26_Most_b5_O s0 s1 s2 s8 true w7 o14).2⟩] [.live [0, 1, 2, 7, 8], .keep [7]] (ai (elem_map TRow.D h15) (ai (ref05_Under_ok x9.bind s1 true h16) (ai h18 (ai (ref26_Most_b5_ok rd s0 s1 s2 s8 true w7 o14 h24) (ti))))) (by kernel_rfl)).lp
  | false =>
   replace h := iteF h
   obtain ⟨o15, h25, h⟩ := bS h
   obtain rfl := si h
   exact (runB_arr mixed [(23, .el (TRow.D x9)), (27, .ret (.d (D.b false)))] [⟨[1, 0, 0, 1, 0, 0, 1, 0, 1, 1], [.live [0, 1, 2, 7, 8, 40], .keep [7]], .normal, (ref26_Most_b5_O s0 s1 s2 s8 false w7 o15).2⟩] [.live [0, 1, 2, 7, 8], .keep [7]] (ai (elem_map TRow.D h15) (ai (ref05_Under_ok x9.bind s1 false h16) (ai (ref26_Most_b5_ok rd s0 s1 s2 s8 false w7 o15 h25) (ti)))) (by kernel_rfl)).lp
def ref26_Most_l1_I (s0 : List TRow) (s1 : List TSlot) (s2 : Bool) (s8 : Int) (w7 : List Int) : St := ⟨sp 92 0 [(0, .d ((D.l TRow.D) s0)), (1, .d ((D.l TSlot.D) s1)), (2, .d (D.b s2)), (7, .row 7), (8, .d ((D.i .i64) s8))], [(7, .row 3 1 (w7.map (D.i .i64)))], []⟩
def ref26_Most_l1_O (s0 : List TRow) (s1 : List TSlot) (s2 : Bool) (o : (List Int)) : Ex × St := (.exit 0, ⟨sp 92 0 [(0, .d ((D.l TRow.D) s0)), (7, .row 7)], [(7, .row 3 1 (o.map (D.i .i64)))], []⟩)
theorem ref26_Most_l1_rnd (rd : Option Nat) (s0 : List TRow) (s1 : List TSlot) (s2 : Bool) (s8 : Int) (w7 : List Int) (o : (Int × List Int) ⊕ ((List Int))) (h : ref26_Most_l1_s s0 s1 s2 s8 w7 = some o) : Arr Try.prog rd (fbody Try.prog 18) (0 :: [0, 1, 0, 1, 1]) (ref26_Most_l1_I s0 s1 s2 s8 w7) (rR (fun s : Int × List Int => ref26_Most_l1_I s0 s1 s2 s.1 s.2) (ref26_Most_l1_O s0 s1 s2) o).1 (rR (fun s : Int × List Int => ref26_Most_l1_I s0 s1 s2 s.1 s.2) (ref26_Most_l1_O s0 s1 s2) o).2 := by
  unfold ref26_Most_l1_s at h
  rcases iS h with ⟨h14, h⟩ | ⟨h14, h⟩
  ·
   obtain ⟨o16, h26, h⟩ := bS h
   obtain rfl := si h
   exact runB_arr mixed [(17, .int (s0.length : Int)), (18, .bit true)] [⟨[0, 1, 0, 0, 1, 0, 1, 1], [.live [0, 1, 2, 7, 8], .keep [7]], .normal, (ref26_Most_b4_O s0 s1 s2 s8 w7 o16).2⟩] [.live [0, 1, 2, 7, 8], .keep [7]] (ai (len_map TRow.D s0) (ai h14 (ai (ref26_Most_b4_ok rd s0 s1 s2 s8 w7 o16 h26) (ti)))) (by kernel_rfl)
  ·
   obtain rfl := si h
   exact runB_arr mixed [(17, .int (s0.length : Int)), (18, .bit false)] [] [.live [0, 7], .keep [7]] (ai (len_map TRow.D s0) (ai h14 (ti))) (by kernel_rfl)
theorem ref26_Most_l1_ok (rd : Option Nat) (s0 : List TRow) (s1 : List TSlot) (s2 : Bool) (s8 : Int) (w7 : List Int) (t : (List Int)) (h : ref26_Most_l1 s0 s1 s2 s8 w7 = some t) : LpOf Try.prog rd (fbody Try.prog 18) [0, 1, 0, 1, 1] (ref26_Most_l1_I s0 s1 s2 s8 w7) ((ref26_Most_l1_O s0 s1 s2) t).1 ((ref26_Most_l1_O s0 s1 s2) t).2 :=
  loopE_lpR (fun s : Int × List Int => ref26_Most_l1_I s0 s1 s2 s.1 s.2) (ref26_Most_l1_O s0 s1 s2) (by kernel_rfl) (fun t => isN_ne (by rfl)) (fun s o h => ref26_Most_l1_rnd rd s0 s1 s2 s.1 s.2 o h) (s := (s8, w7)) (t := t) h
def ref26_Most_b15_I (s0 : List TRow) (s10 : Int) (s11 : Bool) (s12 : Int) (s82 : Bool) (w7 : List Int) (w9 : List Int) : St := ⟨sp 92 0 [(0, .d ((D.l TRow.D) s0)), (7, .row 7), (9, .row 9), (10, .d ((D.i .i64) s10)), (11, .d (D.b s11)), (12, .d ((D.i .i64) s12)), (82, .d (D.b s82))], [(7, .row 3 1 (w7.map (D.i .i64))), (9, .row 3 1 (w9.map (D.i .i64)))], []⟩
def ref26_Most_b15_O (s0 : List TRow) (s10 : Int) (s11 : Bool) (s12 : Int) (s82 : Bool) (w7 : List Int) (w9 : List Int) (o : Bool) : Ex × St := (.normal, ⟨sp 92 0 [(0, .d ((D.l TRow.D) s0)), (7, .row 7), (9, .row 9), (10, .d ((D.i .i64) s10)), (11, .d (D.b o)), (12, .d ((D.i .i64) s12))], [(7, .row 3 1 (w7.map (D.i .i64))), (9, .row 3 1 (w9.map (D.i .i64)))], []⟩)
theorem ref26_Most_b15_ok (rd : Option Nat) (s0 : List TRow) (s10 : Int) (s11 : Bool) (s12 : Int) (s82 : Bool) (w7 : List Int) (w9 : List Int) (o : Bool) (h : ref26_Most_b15 s0 s10 s11 s12 s82 w7 w9 = some o) : LpOf Try.prog rd (fbody Try.prog 18) [1, 1, 1, 0, 0, 1, 0, 0, 1, 0, 1, 0, 0, 1, 0, 0, 1, 0, 1, 1, 1, 1] (ref26_Most_b15_I s0 s10 s11 s12 s82 w7 w9) (ref26_Most_b15_O s0 s10 s11 s12 s82 w7 w9 o).1 (ref26_Most_b15_O s0 s10 s11 s12 s82 w7 w9 o).2 := by
  unfold ref26_Most_b15 at h
  cases s82 with
  | true =>
   replace h := iteT h
   obtain rfl := si h
   exact (runB_arr mixed [] [] [.live [0, 7, 9, 10, 11, 12], .keep [7, 9]] (ti) (by kernel_rfl)).lp
  | false =>
   replace h := iteF h
   obtain rfl := si h
   exact (runB_arr mixed [] [] [.live [0, 7, 9, 10, 11, 12], .keep [7, 9]] (ti) (by kernel_rfl)).lp
def ref26_Most_b14_I (s0 : List TRow) (s10 : Int) (s11 : Bool) (s12 : Int) (w7 : List Int) (w9 : List Int) : St := ⟨sp 92 0 [(0, .d ((D.l TRow.D) s0)), (7, .row 7), (9, .row 9), (10, .d ((D.i .i64) s10)), (11, .d (D.b s11)), (12, .d ((D.i .i64) s12))], [(7, .row 3 1 (w7.map (D.i .i64))), (9, .row 3 1 (w9.map (D.i .i64)))], []⟩
def ref26_Most_b14_O (s0 : List TRow) (s10 : Int) (s11 : Bool) (s12 : Int) (w7 : List Int) (w9 : List Int) (o : Bool) : Ex × St := (.normal, ⟨sp 92 0 [(0, .d ((D.l TRow.D) s0)), (7, .row 7), (9, .row 9), (10, .d ((D.i .i64) s10)), (11, .d (D.b o)), (12, .d ((D.i .i64) s12))], [(7, .row 3 1 (w7.map (D.i .i64))), (9, .row 3 1 (w9.map (D.i .i64)))], []⟩)
theorem ref26_Most_b14_ok (rd : Option Nat) (s0 : List TRow) (s10 : Int) (s11 : Bool) (s12 : Int) (w7 : List Int) (w9 : List Int) (o : Bool) (h : ref26_Most_b14 s0 s10 s11 s12 w7 w9 = some o) : LpOf Try.prog rd (fbody Try.prog 18) [0, 1, 0, 0, 1, 0, 1, 0, 0, 1, 0, 0, 1, 0, 1, 1, 1, 1] (ref26_Most_b14_I s0 s10 s11 s12 w7 w9) (ref26_Most_b14_O s0 s10 s11 s12 w7 w9 o).1 (ref26_Most_b14_O s0 s10 s11 s12 w7 w9 o).2 := by
  unfold ref26_Most_b14 at h
  obtain ⟨x30, h48, h⟩ := xS h
  obtain ⟨x31, h49, h⟩ := xS h
  obtain ⟨x32, h50, h⟩ := xS h
  obtain ⟨x33, h51, h⟩ := xS h
  rcases iS h with ⟨h52, h⟩ | ⟨h52, h⟩
  ·
   obtain ⟨r34, h53, h⟩ := bS h
   obtain ⟨o35, h55, h⟩ := bS h
   obtain rfl := si h
   exact (runB_arr mixed [(60, .el ((D.i .i64) x30)), (62, .el (TRow.D x31)), (68, .el ((D.i .i64) x32)), (70, .el (TRow.D x33)), (74, .int (x33.bind.length : Int)), (76, .int (x31.bind.length : Int)), (78, .bit true), (81, .ret (.d (D.b r34)))] [⟨[1, 1, 1, 0, 0, 1, 0, 0, 1, 0, 1, 0, 0, 1, 0, 0, 1, 0, 1, 1, 1, 1], [.live [0, 7, 9, 10, 11, 12, 82], .keep [7, 9]], .normal, (ref26_Most_b15_O s0 s10 s11 s12 r34 w7 w9 o35).2⟩] [.live [0, 7, 9, 10, 11, 12], .keep [7, 9]] (ai (elem_map (D.i .i64) h48) (ai (elem_map TRow.D h49) (ai (elem_map (D.i .i64) h50) (ai (elem_map TRow.D h51) (ai (len_map TSlot.D x33.bind) (ai (len_map TSlot.D x31.bind) (ai h52 (ai (ref05_Under_ok x31.bind x33.bind r34 h53) (ai (ref26_Most_b15_ok rd s0 s10 s11 s12 r34 w7 w9 o35 h55) (ti)))))))))) (by kernel_rfl)).lp
  ·
   obtain ⟨o36, h56, h⟩ := bS h
   obtain rfl := si h
   exact (runB_arr mixed [(60, .el ((D.i .i64) x30)), (62, .el (TRow.D x31)), (68, .el ((D.i .i64) x32)), (70, .el (TRow.D x33)), (74, .int (x33.bind.length : Int)), (76, .int (x31.bind.length : Int)), (78, .bit false)] [⟨[1, 1, 1, 0, 0, 1, 0, 0, 1, 0, 1, 0, 0, 1, 0, 0, 1, 0, 1, 1, 1, 1], [.live [0, 7, 9, 10, 11, 12, 82], .keep [7, 9]], .normal, (ref26_Most_b15_O s0 s10 s11 s12 false w7 w9 o36).2⟩] [.live [0, 7, 9, 10, 11, 12], .keep [7, 9]] (ai (elem_map (D.i .i64) h48) (ai (elem_map TRow.D h49) (ai (elem_map (D.i .i64) h50) (ai (elem_map TRow.D h51) (ai (len_map TSlot.D x33.bind) (ai (len_map TSlot.D x31.bind) (ai h52 (ai (ref26_Most_b15_ok rd s0 s10 s11 s12 false w7 w9 o36 h56) (ti))))))))) (by kernel_rfl)).lp
def ref26_Most_l13_I (s0 : List TRow) (s10 : Int) (w7 : List Int) (w9 : List Int) (s11 : Bool) (s12 : Int) : St := ⟨sp 92 0 [(0, .d ((D.l TRow.D) s0)), (7, .row 7), (9, .row 9), (10, .d ((D.i .i64) s10)), (11, .d (D.b s11)), (12, .d ((D.i .i64) s12))], [(7, .row 3 1 (w7.map (D.i .i64))), (9, .row 3 1 (w9.map (D.i .i64)))], []⟩
def ref26_Most_l13_O (s0 : List TRow) (s10 : Int) (w7 : List Int) (w9 : List Int) (o : Bool) : Ex × St := (.exit 4, ⟨sp 92 0 [(0, .d ((D.l TRow.D) s0)), (7, .row 7), (9, .row 9), (10, .d ((D.i .i64) s10)), (11, .d (D.b o))], [(7, .row 3 1 (w7.map (D.i .i64))), (9, .row 3 1 (w9.map (D.i .i64)))], []⟩)
theorem ref26_Most_l13_rnd (rd : Option Nat) (s0 : List TRow) (s10 : Int) (w7 : List Int) (w9 : List Int) (s11 : Bool) (s12 : Int) (o : (Bool × Int) ⊕ (Bool)) (h : ref26_Most_l13_s s0 s10 w7 w9 s11 s12 = some o) : Arr Try.prog rd (fbody Try.prog 18) (0 :: [0, 1, 0, 1, 0, 0, 1, 0, 0, 1, 0, 1, 1, 1, 1]) (ref26_Most_l13_I s0 s10 w7 w9 s11 s12) (rR (fun s : Bool × Int => ref26_Most_l13_I s0 s10 w7 w9 s.1 s.2) (ref26_Most_l13_O s0 s10 w7 w9) o).1 (rR (fun s : Bool × Int => ref26_Most_l13_I s0 s10 w7 w9 s.1 s.2) (ref26_Most_l13_O s0 s10 w7 w9) o).2 := by
  unfold ref26_Most_l13_s at h
  rcases iS h with ⟨h47, h⟩ | ⟨h47, h⟩
  ·
   obtain ⟨o37, h57, h⟩ := bS h
   obtain rfl := si h
   exact runB_arr mixed [(53, .int (w7.length : Int)), (54, .bit true)] [⟨[0, 1, 0, 0, 1, 0, 1, 0, 0, 1, 0, 0, 1, 0, 1, 1, 1, 1], [.live [0, 7, 9, 10, 11, 12], .keep [7, 9]], .normal, (ref26_Most_b14_O s0 s10 s11 s12 w7 w9 o37).2⟩] [.live [0, 7, 9, 10, 11, 12], .keep [7, 9]] (ai (len_map (D.i .i64) w7) (ai h47 (ai (ref26_Most_b14_ok rd s0 s10 s11 s12 w7 w9 o37 h57) (ti)))) (by kernel_rfl)
  ·
   obtain rfl := si h
   exact runB_arr mixed [(53, .int (w7.length : Int)), (54, .bit false)] [] [.live [0, 7, 9, 10, 11], .keep [7, 9]] (ai (len_map (D.i .i64) w7) (ai h47 (ti))) (by kernel_rfl)
theorem ref26_Most_l13_ok (rd : Option Nat) (s0 : List TRow) (s10 : Int) (w7 : List Int) (w9 : List Int) (s11 : Bool) (s12 : Int) (t : Bool) (h : ref26_Most_l13 s0 s10 w7 w9 s11 s12 = some t) : LpOf Try.prog rd (fbody Try.prog 18) [0, 1, 0, 1, 0, 0, 1, 0, 0, 1, 0, 1, 1, 1, 1] (ref26_Most_l13_I s0 s10 w7 w9 s11 s12) ((ref26_Most_l13_O s0 s10 w7 w9) t).1 ((ref26_Most_l13_O s0 s10 w7 w9) t).2 :=
  loopE_lpR (fun s : Bool × Int => ref26_Most_l13_I s0 s10 w7 w9 s.1 s.2) (ref26_Most_l13_O s0 s10 w7 w9) (by kernel_rfl) (fun t => isN_ne (by rfl)) (fun s o h => ref26_Most_l13_rnd rd s0 s10 w7 w9 s.1 s.2 o h) (s := (s11, s12)) (t := t) h
def ref26_Most_b16_I (s0 : List TRow) (s10 : Int) (s83 : Bool) (w7 : List Int) (w9 : List Int) : St := ⟨sp 92 0 [(0, .d ((D.l TRow.D) s0)), (7, .row 7), (9, .row 9), (10, .d ((D.i .i64) s10)), (83, .d (D.b s83))], [(7, .row 3 1 (w7.map (D.i .i64))), (9, .row 3 1 (w9.map (D.i .i64)))], []⟩
def ref26_Most_b16_O (s0 : List TRow) (s10 : Int) (s83 : Bool) (w7 : List Int) (w9 : List Int) (o : (List Int)) : Ex × St := (.normal, ⟨sp 92 0 [(0, .d ((D.l TRow.D) s0)), (7, .row 7), (9, .row 9), (10, .d ((D.i .i64) s10))], [(7, .row 3 1 (w7.map (D.i .i64))), (9, .row 3 1 (o.map (D.i .i64)))], []⟩)
theorem ref26_Most_b16_ok (rd : Option Nat) (s0 : List TRow) (s10 : Int) (s83 : Bool) (w7 : List Int) (w9 : List Int) (o : (List Int)) (h : ref26_Most_b16 s0 s10 s83 w7 w9 = some o) : LpOf Try.prog rd (fbody Try.prog 18) [1, 1, 1, 0, 0, 1, 0, 0, 1, 0, 1, 1, 1, 1] (ref26_Most_b16_I s0 s10 s83 w7 w9) (ref26_Most_b16_O s0 s10 s83 w7 w9 o).1 (ref26_Most_b16_O s0 s10 s83 w7 w9 o).2 := by
  unfold ref26_Most_b16 at h
  cases s83 with
  | true =>
   replace h := iteT h
   obtain ⟨x39, h60, h⟩ := xS h
   obtain ⟨h61, h⟩ := cS h
   obtain rfl := si h
   exact (runB_arr mixed [(87, .el ((D.i .i64) x39)), (90, .sl ((w9 ++ [x39]).map (D.i .i64)))] [] [.live [0, 7, 9, 10], .keep [7, 90], .ren 90 9, .sort] (ai (elem_map (D.i .i64) h60) (ai (nc_ok (D.i .i64) [x39]) (ai (nc_ok (D.i .i64) [x39]) (ai (fit_map (D.i .i64) h61) (ai (app_map (D.i .i64) w9 [x39]) (ti)))))) (by kernel_rfl)).lp
  | false =>
   replace h := iteF h
   obtain rfl := si h
   exact (runB_arr mixed [] [] [.live [0, 7, 9, 10], .keep [7, 9]] (ti) (by kernel_rfl)).lp
def ref26_Most_b12_I (s0 : List TRow) (s10 : Int) (w7 : List Int) (w9 : List Int) : St := ⟨sp 92 0 [(0, .d ((D.l TRow.D) s0)), (7, .row 7), (9, .row 9), (10, .d ((D.i .i64) s10))], [(7, .row 3 1 (w7.map (D.i .i64))), (9, .row 3 1 (w9.map (D.i .i64)))], []⟩
def ref26_Most_b12_O (s0 : List TRow) (s10 : Int) (w7 : List Int) (w9 : List Int) (o : (List Int)) : Ex × St := (.normal, ⟨sp 92 0 [(0, .d ((D.l TRow.D) s0)), (7, .row 7), (9, .row 9), (10, .d ((D.i .i64) s10))], [(7, .row 3 1 (w7.map (D.i .i64))), (9, .row 3 1 (o.map (D.i .i64)))], []⟩)
theorem ref26_Most_b12_ok (rd : Option Nat) (s0 : List TRow) (s10 : Int) (w7 : List Int) (w9 : List Int) (o : (List Int)) (h : ref26_Most_b12 s0 s10 w7 w9 = some o) : LpOf Try.prog rd (fbody Try.prog 18) [0, 1, 0, 0, 1, 0, 1, 1, 1, 1] (ref26_Most_b12_I s0 s10 w7 w9) (ref26_Most_b12_O s0 s10 w7 w9 o).1 (ref26_Most_b12_O s0 s10 w7 w9 o).2 := by
  unfold ref26_Most_b12 at h
  obtain ⟨o38, h58, h⟩ := bS h
  obtain ⟨o40, h62, h⟩ := bS h
  obtain rfl := si h
  exact (runB_arr mixed [] [⟨[0, 1, 0, 1, 0, 0, 1, 0, 0, 1, 0, 1, 1, 1, 1], [.live [0, 7, 9, 10, 11, 12], .keep [7, 9]], .exit 4, (ref26_Most_l13_O s0 s10 w7 w9 o38).2⟩, ⟨[1, 1, 1, 0, 0, 1, 0, 0, 1, 0, 1, 1, 1, 1], [.live [0, 7, 9, 10, 83], .keep [7, 9]], .normal, (ref26_Most_b16_O s0 s10 o38 w7 w9 o40).2⟩] [.live [0, 7, 9, 10], .keep [7, 9]] (ai (ref26_Most_l13_ok rd s0 s10 w7 w9 true 0 o38 h58) (ai (ref26_Most_b16_ok rd s0 s10 o38 w7 w9 o40 h62) (ti))) (by kernel_rfl)).lp
def ref26_Most_l6_I (s0 : List TRow) (w7 : List Int) (s10 : Int) (w9 : List Int) : St := ⟨sp 92 0 [(0, .d ((D.l TRow.D) s0)), (7, .row 7), (9, .row 9), (10, .d ((D.i .i64) s10))], [(7, .row 3 1 (w7.map (D.i .i64))), (9, .row 3 1 (w9.map (D.i .i64)))], []⟩
def ref26_Most_l6_O (s0 : List TRow) (w7 : List Int) (o : (List Int)) : Ex × St := (.exit 2, ⟨sp 92 0 [(9, .row 9)], [(9, .row 3 1 (o.map (D.i .i64)))], []⟩)
theorem ref26_Most_l6_rnd (rd : Option Nat) (s0 : List TRow) (w7 : List Int) (s10 : Int) (w9 : List Int) (o : (Int × List Int) ⊕ ((List Int))) (h : ref26_Most_l6_s s0 w7 s10 w9 = some o) : Arr Try.prog rd (fbody Try.prog 18) (0 :: [0, 1, 0, 1, 1, 1, 1]) (ref26_Most_l6_I s0 w7 s10 w9) (rR (fun s : Int × List Int => ref26_Most_l6_I s0 w7 s.1 s.2) (ref26_Most_l6_O s0 w7) o).1 (rR (fun s : Int × List Int => ref26_Most_l6_I s0 w7 s.1 s.2) (ref26_Most_l6_O s0 w7) o).2 := by
  unfold ref26_Most_l6_s at h
  rcases iS h with ⟨h46, h⟩ | ⟨h46, h⟩
  ·
   obtain ⟨o41, h63, h⟩ := bS h
   obtain rfl := si h
   exact runB_arr mixed [(47, .int (w7.length : Int)), (48, .bit true)] [⟨[0, 1, 0, 0, 1, 0, 1, 1, 1, 1], [.live [0, 7, 9, 10], .keep [7, 9]], .normal, (ref26_Most_b12_O s0 s10 w7 w9 o41).2⟩] [.live [0, 7, 9, 10], .keep [7, 9]] (ai (len_map (D.i .i64) w7) (ai h46 (ai (ref26_Most_b12_ok rd s0 s10 w7 w9 o41 h63) (ti)))) (by kernel_rfl)
  ·
   obtain rfl := si h
   exact runB_arr mixed [(47, .int (w7.length : Int)), (48, .bit false)] [] [.live [9], .keep [9]] (ai (len_map (D.i .i64) w7) (ai h46 (ti))) (by kernel_rfl)
theorem ref26_Most_l6_ok (rd : Option Nat) (s0 : List TRow) (w7 : List Int) (s10 : Int) (w9 : List Int) (t : (List Int)) (h : ref26_Most_l6 s0 w7 s10 w9 = some t) : LpOf Try.prog rd (fbody Try.prog 18) [0, 1, 0, 1, 1, 1, 1] (ref26_Most_l6_I s0 w7 s10 w9) ((ref26_Most_l6_O s0 w7) t).1 ((ref26_Most_l6_O s0 w7) t).2 :=
  loopE_lpR (fun s : Int × List Int => ref26_Most_l6_I s0 w7 s.1 s.2) (ref26_Most_l6_O s0 w7) (by kernel_rfl) (fun t => isN_ne (by rfl)) (fun s o h => ref26_Most_l6_rnd rd s0 w7 s.1 s.2 o h) (s := (s10, w9)) (t := t) h
theorem ref26_Most_ok (a0 : List TRow) (a1 : List TSlot) (a2 : Bool) (r : List Int) (h : ref26_Most a0 a1 a2 = some r) : ACall Try.prog 18 [.d ((D.l TRow.D) a0), .d ((D.l TSlot.D) a1), .d (D.b a2)] [] (.d ((D.l (D.i .i64)) r)) [] := by
  unfold ref26_Most at h
  obtain ⟨o17, h27, h⟩ := bS h
  obtain ⟨o42, h64, h⟩ := bS h
  obtain rfl := si h
  exact runF_call mixed [] [⟨[0, 1, 0, 1, 1], [.live [0, 1, 2, 7, 8], .keep [], .nil 7 7 3 1, .sort], .exit 0, (ref26_Most_l1_O a0 a1 a2 o17).2⟩, ⟨[0, 1, 0, 1, 1, 1, 1], [.live [0, 7, 9, 10], .keep [7], .nil 9 9 3 1, .sort], .exit 2, (ref26_Most_l6_O a0 o17 o42).2⟩] [] (ai (ref26_Most_l1_ok none a0 a1 a2 0 ([] : List Int) o17 h27) (ai (ref26_Most_l6_ok none a0 o17 0 ([] : List Int) o42 h64) (ti))) (by kernel_rfl)
theorem ref26_Copy_ok (a0 : List TRow) (a1 : List TSlot) (r : List TConfig × Bool) (h : ref26_Copy a0 a1 = some r) : ACall Try.prog 22 [.d ((D.l TRow.D) a0), .d ((D.l TSlot.D) a1)] [] (.tup [.d ((D.l TConfig.D) r.1), .d (D.b r.2)]) [] := by
  unfold ref26_Copy at h
  obtain ⟨r1, h1, h⟩ := bS h
  rcases iS h with ⟨h2, h⟩ | ⟨h2, h⟩
  ·
   obtain rfl := si h
   exact runF_call mixed [(9, .ret (.d ((D.l (D.i .i64)) r1))), (11, .int (r1.length : Int)), (12, .bit true)] [] [] (ai (ref26_Most_ok a0 a1 false r1 h1) (ai (len_map (D.i .i64) r1) (ai h2 (ti)))) (by kernel_rfl)
  ·
   obtain ⟨x2, h3, h⟩ := xS h
   obtain ⟨x3, h4, h⟩ := xS h
   obtain rfl := si h
   exact runF_call mixed [(9, .ret (.d ((D.l (D.i .i64)) r1))), (11, .int (r1.length : Int)), (12, .bit false), (15, .el ((D.i .i64) x2)), (17, .el (TRow.D x3))] [] [] (ai (ref26_Most_ok a0 a1 false r1 h1) (ai (len_map (D.i .i64) r1) (ai h2 (ai (elem_map (D.i .i64) h3) (ai (elem_map TRow.D h4) (ti)))))) (by kernel_rfl)
def binding_Under_b2_I (uz : List Value) (s9_1 : List TSlot) (s9_2 : List TSlot) (s10 : TSlot) (s11 : TValue) (w4 : Bool) (w998_1 : List TSlot) (w998_2 : List TSlot) : St := ⟨sp 22 0 [(4, .box 4 0), (9, .clo (.func 75) [] [.eptr (D.cells ((D.l TSlot.D) s9_1)), .eptr (D.cells ((D.l TSlot.D) s9_2))]), (10, .d (TSlot.D s10)), (11, .eptr (D.cells (TValue.D s11)))], [(4, .cells ([.d (D.b w4)])), (998, .vals (sp 22 0 [(4, .box 4 0), (9, .clo (.func 75) [] [.eptr (D.cells ((D.l TSlot.D) w998_1)), .eptr (D.cells ((D.l TSlot.D) w998_2))])]) uz)], []⟩
def binding_Under_b2_O (uz : List Value) (s9_1 : List TSlot) (s9_2 : List TSlot) (s10 : TSlot) (s11 : TValue) (w4 : Bool) (w998_1 : List TSlot) (w998_2 : List TSlot) (o : Unit) : Ex × St := (.normal, ⟨sp 22 0 [(4, .box 4 0), (5, .box 5 0), (6, .eptr (D.cells (TValue.D s11))), (9, .clo (.func 75) [] [.eptr (D.cells ((D.l TSlot.D) s9_1)), .eptr (D.cells ((D.l TSlot.D) s9_2))])], [(4, .cells ([.d (D.b w4)])), (5, .cells ((cellsA (TSlot.D s10)))), (998, .vals (sp 22 0 [(4, .box 4 0), (9, .clo (.func 75) [] [.eptr (D.cells ((D.l TSlot.D) w998_1)), .eptr (D.cells ((D.l TSlot.D) w998_2))])]) uz)], []⟩)
theorem binding_Under_b2_ok (rd : Option Nat) (uz : List Value) (s9_1 : List TSlot) (s9_2 : List TSlot) (s10 : TSlot) (s11 : TValue) (w4 : Bool) (w998_1 : List TSlot) (w998_2 : List TSlot) (o : Unit) (h : binding_Under_b2 s9_1 s9_2 s10 s11 w4 w998_1 w998_2 = some o) : LpOf Try.prog rd (fbody Try.prog 48) [0, 0, 1, 0, 1] (binding_Under_b2_I uz s9_1 s9_2 s10 s11 w4 w998_1 w998_2) (binding_Under_b2_O uz s9_1 s9_2 s10 s11 w4 w998_1 w998_2 o).1 (binding_Under_b2_O uz s9_1 s9_2 s10 s11 w4 w998_1 w998_2 o).2 := by
  unfold binding_Under_b2 at h
  obtain rfl := si h
  exact (runB_arr mixed [] [] [.live [4, 5, 6, 9], .keep [4, 5, 998]] (ti) (by kernel_rfl)).lp
def binding_Under_b4_I (uz : List Value) (s9_1 : List TSlot) (s9_2 : List TSlot) (s10 : TSlot) (w4 : Bool) (w998_1 : List TSlot) (w998_2 : List TSlot) : St := ⟨sp 22 0 [(4, .box 4 0), (9, .clo (.func 75) [] [.eptr (D.cells ((D.l TSlot.D) s9_1)), .eptr (D.cells ((D.l TSlot.D) s9_2))]), (10, .d (TSlot.D s10)), (11, .d (.v (.pointer none)))], [(4, .cells ([.d (D.b w4)])), (998, .vals (sp 22 0 [(4, .box 4 0), (9, .clo (.func 75) [] [.eptr (D.cells ((D.l TSlot.D) w998_1)), .eptr (D.cells ((D.l TSlot.D) w998_2))])]) uz)], []⟩
def binding_Under_b4_O (uz : List Value) (s9_1 : List TSlot) (s9_2 : List TSlot) (s10 : TSlot) (w4 : Bool) (w998_1 : List TSlot) (w998_2 : List TSlot) (o : Unit) : Ex × St := (.normal, ⟨sp 22 0 [(4, .box 4 0), (5, .box 5 0), (6, .d (.v (.pointer none))), (9, .clo (.func 75) [] [.eptr (D.cells ((D.l TSlot.D) s9_1)), .eptr (D.cells ((D.l TSlot.D) s9_2))])], [(4, .cells ([.d (D.b w4)])), (5, .cells ((cellsA (TSlot.D s10)))), (998, .vals (sp 22 0 [(4, .box 4 0), (9, .clo (.func 75) [] [.eptr (D.cells ((D.l TSlot.D) w998_1)), .eptr (D.cells ((D.l TSlot.D) w998_2))])]) uz)], []⟩)
theorem binding_Under_b4_ok (rd : Option Nat) (uz : List Value) (s9_1 : List TSlot) (s9_2 : List TSlot) (s10 : TSlot) (w4 : Bool) (w998_1 : List TSlot) (w998_2 : List TSlot) (o : Unit) (h : binding_Under_b4 s9_1 s9_2 s10 w4 w998_1 w998_2 = some o) : LpOf Try.prog rd (fbody Try.prog 48) [0, 0, 1, 0, 1] (binding_Under_b4_I uz s9_1 s9_2 s10 w4 w998_1 w998_2) (binding_Under_b4_O uz s9_1 s9_2 s10 w4 w998_1 w998_2 o).1 (binding_Under_b4_O uz s9_1 s9_2 s10 w4 w998_1 w998_2 o).2 := by
  unfold binding_Under_b4 at h
  obtain rfl := si h
  exact (runB_arr mixed [] [] [.live [4, 5, 6, 9], .keep [4, 5, 998]] (ti) (by kernel_rfl)).lp
def binding_Under_b6_I (uz : List Value) (s6 : TValue) (s9_1 : List TSlot) (s9_2 : List TSlot) (w4 : Bool) (w5 : TSlot) (w998_1 : List TSlot) (w998_2 : List TSlot) : St := ⟨sp 22 0 [(4, .box 4 0), (5, .box 5 0), (6, .eptr (D.cells (TValue.D s6))), (9, .clo (.func 75) [] [.eptr (D.cells ((D.l TSlot.D) s9_1)), .eptr (D.cells ((D.l TSlot.D) s9_2))])], [(4, .cells ([.d (D.b w4)])), (5, .cells ((cellsA (TSlot.D w5)))), (998, .vals (sp 22 0 [(4, .box 4 0), (9, .clo (.func 75) [] [.eptr (D.cells ((D.l TSlot.D) w998_1)), .eptr (D.cells ((D.l TSlot.D) w998_2))])]) uz)], []⟩
def binding_Under_b6_O (uz : List Value) (s6 : TValue) (s9_1 : List TSlot) (s9_2 : List TSlot) (w4 : Bool) (w5 : TSlot) (w998_1 : List TSlot) (w998_2 : List TSlot) (o : Unit ⊕ Unit) : Ex × St := match o with
  | .inl o => (.normal, ⟨sp 22 0 [], [(4, .cells ([.d (D.b w4)])), (998, .vals (sp 22 0 [(4, .box 4 0), (9, .clo (.func 75) [] [.eptr (D.cells ((D.l TSlot.D) w998_1)), .eptr (D.cells ((D.l TSlot.D) w998_2))])]) uz)], []⟩)
  | .inr o => (.ret, ⟨sp 22 0 [], [(4, .cells ([.d (D.b false)])), (998, .vals (sp 22 0 [(4, .box 4 0), (9, .clo (.func 75) [] [.eptr (D.cells ((D.l TSlot.D) w998_1)), .eptr (D.cells ((D.l TSlot.D) w998_2))])]) uz)], []⟩)
theorem binding_Under_b6_ok (rd : Option Nat) (uz : List Value) (s6 : TValue) (s9_1 : List TSlot) (s9_2 : List TSlot) (w4 : Bool) (w5 : TSlot) (w998_1 : List TSlot) (w998_2 : List TSlot) (o : Unit ⊕ Unit) (h : binding_Under_b6 s6 s9_1 s9_2 w4 w5 w998_1 w998_2 = some o) : LpOf Try.prog rd (fbody Try.prog 48) [1, 0, 1, 0, 1] (binding_Under_b6_I uz s6 s9_1 s9_2 w4 w5 w998_1 w998_2) (binding_Under_b6_O uz s6 s9_1 s9_2 w4 w5 w998_1 w998_2 o).1 (binding_Under_b6_O uz s6 s9_1 s9_2 w4 w5 w998_1 w998_2 o).2 := by
  unfold binding_Under_b6 at h
  rcases iS h with ⟨h3, h⟩ | ⟨h3, h⟩
  ·
   obtain rfl := si h
   exact (runB_arr mixed [(21, .bit true)] [] [.live [], .keep [4, 998]] (ai h3 (ti)) (by kernel_rfl)).lp
  ·
   obtain rfl := si h
   exact (runB_arr mixed [(21, .bit false)] [] [.live [], .keep [4, 998]] (ai h3 (ti)) (by kernel_rfl)).lp
def binding_Under_b7_I (uz : List Value) (s9_1 : List TSlot) (s9_2 : List TSlot) (w4 : Bool) (w5 : TSlot) (w998_1 : List TSlot) (w998_2 : List TSlot) : St := ⟨sp 22 0 [(4, .box 4 0), (5, .box 5 0), (6, .d (.v (.pointer none))), (9, .clo (.func 75) [] [.eptr (D.cells ((D.l TSlot.D) s9_1)), .eptr (D.cells ((D.l TSlot.D) s9_2))])], [(4, .cells ([.d (D.b w4)])), (5, .cells ((cellsA (TSlot.D w5)))), (998, .vals (sp 22 0 [(4, .box 4 0), (9, .clo (.func 75) [] [.eptr (D.cells ((D.l TSlot.D) w998_1)), .eptr (D.cells ((D.l TSlot.D) w998_2))])]) uz)], []⟩
def binding_Under_b7_O (uz : List Value) (s9_1 : List TSlot) (s9_2 : List TSlot) (w4 : Bool) (w5 : TSlot) (w998_1 : List TSlot) (w998_2 : List TSlot) (o : Unit) : Ex × St := (.ret, ⟨sp 22 0 [], [(4, .cells ([.d (D.b false)])), (998, .vals (sp 22 0 [(4, .box 4 0), (9, .clo (.func 75) [] [.eptr (D.cells ((D.l TSlot.D) w998_1)), .eptr (D.cells ((D.l TSlot.D) w998_2))])]) uz)], []⟩)
theorem binding_Under_b7_ok (rd : Option Nat) (uz : List Value) (s9_1 : List TSlot) (s9_2 : List TSlot) (w4 : Bool) (w5 : TSlot) (w998_1 : List TSlot) (w998_2 : List TSlot) (o : Unit) (h : binding_Under_b7 s9_1 s9_2 w4 w5 w998_1 w998_2 = some o) : LpOf Try.prog rd (fbody Try.prog 48) [1, 0, 1, 0, 1] (binding_Under_b7_I uz s9_1 s9_2 w4 w5 w998_1 w998_2) (binding_Under_b7_O uz s9_1 s9_2 w4 w5 w998_1 w998_2 o).1 (binding_Under_b7_O uz s9_1 s9_2 w4 w5 w998_1 w998_2 o).2 := by
  unfold binding_Under_b7 at h
  obtain rfl := si h
  exact (runB_arr mixed [] [] [.live [], .keep [4, 998]] (ti) (by kernel_rfl)).lp
def binding_Under_r1_E (s9_1 : List TSlot) (s9_2 : List TSlot) : List A := sp 22 0 [(4, .box 4 0), (9, .clo (.func 75) [] [.eptr (D.cells ((D.l TSlot.D) s9_1)), .eptr (D.cells ((D.l TSlot.D) s9_2))])]
def binding_Under_r1_BL (s9_1 : List TSlot) (s9_2 : List TSlot) (s : Bool) : Bx := [(4, .cells ([.d (D.b s)]))]
def binding_Under_r1_BT (s9_1 : List TSlot) (s9_2 : List TSlot) (t : Bool) : Bx := [(4, .cells ([.d (D.b t)]))]
def binding_Under_r1_X (t : Bool) : Ex := .ret
def binding_Under_r1_O (s9_1 : List TSlot) (s9_2 : List TSlot) (o : (Bool) ⊕ (Bool)) : Ex × St := (rex binding_Under_r1_X o, ⟨binding_Under_r1_E s9_1 s9_2, rbx (binding_Under_r1_BL s9_1 s9_2) (binding_Under_r1_BT s9_1 s9_2) o, rbx (fun _ => []) (fun _ => []) o⟩)
theorem binding_Under_r1_rnd (s9_1 : List TSlot) (s9_2 : List TSlot) (s : Bool) (x : (TSlot × TValue) ⊕ TSlot) (o : (Bool) ⊕ (Bool)) (h : binding_Under_r1_rd s9_1 s9_2 s x = some o) (m : Nat) (uz : List Value) : ∃ M E1, LpOf Try.prog (some m) (fbody Try.prog 48) (0 :: [0, 1, 0, 1]) ⟨setPs (binding_Under_r1_E s9_1 s9_2) ((Array.toList #[10, 11]).zip (binding_both_1_enc x)), binding_Under_r1_BL s9_1 s9_2 s ++ [(vn, .vals (binding_Under_r1_E s9_1 s9_2) uz)], (fun _ => []) s⟩ .normal M ∧
    LpOf Try.prog (some m) (fbody Try.prog 48) (1 :: [0, 1, 0, 1]) M (rex binding_Under_r1_X o) ⟨E1, rbx (binding_Under_r1_BL s9_1 s9_2) (binding_Under_r1_BT s9_1 s9_2) o ++ [(vn, .vals (binding_Under_r1_E s9_1 s9_2) uz)], rbx (fun _ => []) (fun _ => []) o⟩ := by
  unfold binding_Under_r1_rd at h
  replace h := sumE_some h
  rcases h with ⟨z13, rfl, h⟩ | ⟨z14, rfl, h⟩
  ·
   obtain ⟨o6, h5, h⟩ := bS h
   obtain ⟨o7, h6, h⟩ := bS h
   replace h := sumE_some h
   rcases h with ⟨o15, rfl, h⟩ | ⟨o16, rfl, h⟩
   ·
    obtain rfl := si h
    exact ⟨(binding_Under_b2_O uz s9_1 s9_2 z13.1 z13.2 s s9_1 s9_2 o6).2, sp 22 0 [], lp_wks (w := [.live [4, 9, 10, 11], .keep [4, 998]]) (s1 := binding_Under_b2_I uz s9_1 s9_2 z13.1 z13.2 s s9_1 s9_2) (by kernel_rfl) (lp_cast (binding_Under_b2_ok (some m) uz s9_1 s9_2 z13.1 z13.2 s s9_1 s9_2 o6 h5) rfl (by kernel_rfl) rfl), lp_wks (w := [.live [4, 5, 6, 9], .keep [4, 5, 998]]) (s1 := binding_Under_b6_I uz z13.2 s9_1 s9_2 s z13.1 s9_1 s9_2) (by kernel_rfl) (lp_cast (binding_Under_b6_ok (some m) uz z13.2 s9_1 s9_2 s z13.1 s9_1 s9_2 (Sum.inl o15) h6) rfl (by kernel_rfl) (by kernel_rfl))⟩
   ·
    obtain rfl := si h
    exact ⟨(binding_Under_b2_O uz s9_1 s9_2 z13.1 z13.2 s s9_1 s9_2 o6).2, sp 22 0 [], lp_wks (w := [.live [4, 9, 10, 11], .keep [4, 998]]) (s1 := binding_Under_b2_I uz s9_1 s9_2 z13.1 z13.2 s s9_1 s9_2) (by kernel_rfl) (lp_cast (binding_Under_b2_ok (some m) uz s9_1 s9_2 z13.1 z13.2 s s9_1 s9_2 o6 h5) rfl (by kernel_rfl) rfl), lp_wks (w := [.live [4, 5, 6, 9], .keep [4, 5, 998]]) (s1 := binding_Under_b6_I uz z13.2 s9_1 s9_2 s z13.1 s9_1 s9_2) (by kernel_rfl) (lp_cast (binding_Under_b6_ok (some m) uz z13.2 s9_1 s9_2 s z13.1 s9_1 s9_2 (Sum.inr o16) h6) rfl (by kernel_rfl) (by kernel_rfl))⟩
  ·
   obtain ⟨o8, h7, h⟩ := bS h
   obtain ⟨o9, h8, h⟩ := bS h
   obtain rfl := si h
   exact ⟨(binding_Under_b4_O uz s9_1 s9_2 z14 s s9_1 s9_2 o8).2, sp 22 0 [], lp_wks (w := [.live [4, 9, 10, 11], .keep [4, 998]]) (s1 := binding_Under_b4_I uz s9_1 s9_2 z14 s s9_1 s9_2) (by kernel_rfl) (lp_cast (binding_Under_b4_ok (some m) uz s9_1 s9_2 z14 s s9_1 s9_2 o8 h7) rfl (by kernel_rfl) rfl), lp_wks (w := [.live [4, 5, 6, 9], .keep [4, 5, 998]]) (s1 := binding_Under_b7_I uz s9_1 s9_2 s z14 s9_1 s9_2) (by kernel_rfl) (lp_cast (binding_Under_b7_ok (some m) uz s9_1 s9_2 s z14 s9_1 s9_2 o9 h8) rfl (by kernel_rfl) (by kernel_rfl))⟩
theorem binding_Under_r1_ok (s9_1 : List TSlot) (s9_2 : List TSlot) (s : Bool) (o : (Bool) ⊕ (Bool)) (h : binding_both_1 (stepOf (binding_Under_r1_rd s9_1 s9_2)) s9_1 s9_2 (.inl s) = some o) : LpOf Try.prog none (fbody Try.prog 48) [0, 1, 0, 1] ⟨binding_Under_r1_E s9_1 s9_2, binding_Under_r1_BL s9_1 s9_2 s, (fun _ => []) s⟩ (binding_Under_r1_O s9_1 s9_2 o).1 (binding_Under_r1_O s9_1 s9_2 o).2 :=
  range_ok (p := [0, 1, 0, 1]) (g := .tmp 9) (ps := #[10, 11]) (assign := codeAt (fbody Try.prog 48) (0 :: [0, 1, 0, 1])) (body := codeAt (fbody Try.prog 48) (1 :: [0, 1, 0, 1])) (by kernel_rfl) (binding_Under_r1_BL s9_1 s9_2) (binding_Under_r1_BT s9_1 s9_2) (fun _ => []) (fun _ => []) binding_Under_r1_X binding_both_1_enc (binding_Under_r1_rd s9_1 s9_2) (gf := 75) (cs := [.eptr (D.cells ((D.l TSlot.D) s9_1)), .eptr (D.cells ((D.l TSlot.D) s9_2))]) (by kernel_rfl) (by kernel_rfl) (by kernel_rfl) (fun x => by rcases x with (_ | _) <;> exact ⟨by kernel_rfl, by kernel_rfl⟩) (fun s us => by kernel_rfl) (fun t us => by kernel_rfl) (fun s => rfl) (fun t => rfl) (by kernel_rfl) (fun t => rfl) (fun s => FOk.nil) (fun t => FOk.nil) (fun s x o h m us => binding_Under_r1_rnd s9_1 s9_2 s x o h m us) (binding_both_1_ok (stepOf (binding_Under_r1_rd s9_1 s9_2)) s9_1 s9_2 (.inl s) o h)
theorem binding_Under_ok (a0 : List TSlot) (a1 : List TSlot) (r : Bool) (h : binding_Under a0 a1 = some r) : ACall Try.prog 48 [.d ((D.l TSlot.D) a0), .d ((D.l TSlot.D) a1)] [] (.d (D.b r)) [] := by
  unfold binding_Under at h
  obtain ⟨r1, h1, h⟩ := bS h
  obtain ⟨o10, h4, h⟩ := bS h
  replace h := sumE_some h
  rcases h with ⟨o11, rfl, h⟩ | ⟨o12, rfl, h⟩
  ·
   obtain rfl := si h
   exact runF_call mixed [(9, .ret (.clo (.func 75) [] [.eptr (D.cells ((D.l TSlot.D) r1.1)), .eptr (D.cells ((D.l TSlot.D) r1.2))]))] [⟨[0, 1, 0, 1], [.live [4, 9], .keep [4]], .normal, (binding_Under_r1_O r1.1 r1.2 (Sum.inl o11)).2⟩] [] (ai (binding_both_ok a0 a1 r1 h1) (ai (binding_Under_r1_ok r1.1 r1.2 false (Sum.inl o11) h4) (ti))) (by kernel_rfl)
  ·
   obtain rfl := si h
   exact runF_call mixed [(9, .ret (.clo (.func 75) [] [.eptr (D.cells ((D.l TSlot.D) r1.1)), .eptr (D.cells ((D.l TSlot.D) r1.2))]))] [⟨[0, 1, 0, 1], [.live [4, 9], .keep [4]], .ret, (binding_Under_r1_O r1.1 r1.2 (Sum.inr o12)).2⟩] [] (ai (binding_both_ok a0 a1 r1 h1) (ai (binding_Under_r1_ok r1.1 r1.2 false (Sum.inr o12) h4) (ti))) (by kernel_rfl)
theorem extend_Greatest_1_ok (a0 : TRow) (a1 : TRow) (r : Bool) (h : extend_Greatest_1 a0 a1 = some r) : ACall Try.prog 49 [.d (TRow.D a0), .eptr (D.cells (TRow.D a1))] [] (.d (D.b r)) [] := by
  unfold extend_Greatest_1 at h
  rcases iS h with ⟨h1, h⟩ | ⟨h1, h⟩
  ·
   obtain ⟨r1, h2, h⟩ := bS h
   obtain rfl := si h
   exact runF_call mixed [(6, .int (a0.bind.length : Int)), (9, .int (a1.bind.length : Int)), (11, .bit true), (16, .ret (.d (D.b r1)))] [] [] (ai (len_map TSlot.D a0.bind) (ai (len_map TSlot.D a1.bind) (ai h1 (ai (binding_Under_ok a1.bind a0.bind r1 h2) (ti))))) (by kernel_rfl)
  ·
   obtain rfl := si h
   exact runF_call mixed [(6, .int (a0.bind.length : Int)), (9, .int (a1.bind.length : Int)), (11, .bit false)] [] [] (ai (len_map TSlot.D a0.bind) (ai (len_map TSlot.D a1.bind) (ai h1 (ti)))) (by kernel_rfl)
def slices_IndexFunc_Row_Row_l1_I (s0 : List TRow) (s1 : TRow) (s7 : Int) (s8 : Int) : St := ⟨sp 19 0 [(0, .d ((D.l TRow.D) s0)), (1, .clo (.func 49) [] [.eptr (D.cells (TRow.D s1))]), (7, .d ((D.i .i64) s7)), (8, .d ((D.i .i64) s8))], [], []⟩
def slices_IndexFunc_Row_Row_l1_O (s0 : List TRow) (s1 : TRow) (s7 : Int) (o : Unit ⊕ Int) : Ex × St := match o with
  | .inl o => (.exit 0, ⟨sp 19 0 [], [], []⟩)
  | .inr o => (.ret, ⟨sp 19 0 [(4, .d ((D.i .i64) o))], [], []⟩)
theorem slices_IndexFunc_Row_Row_l1_rnd (rd : Option Nat) (s0 : List TRow) (s1 : TRow) (s7 : Int) (s8 : Int) (o : (Int) ⊕ (Unit ⊕ Int)) (h : slices_IndexFunc_Row_Row_l1_s s0 s1 s7 s8 = some o) : Arr Try.prog rd (fbody Try.prog 67) (0 :: [0, 1, 0, 1]) (slices_IndexFunc_Row_Row_l1_I s0 s1 s7 s8) (rR (fun s : Int => slices_IndexFunc_Row_Row_l1_I s0 s1 s7 s) (slices_IndexFunc_Row_Row_l1_O s0 s1 s7) o).1 (rR (fun s : Int => slices_IndexFunc_Row_Row_l1_I s0 s1 s7 s) (slices_IndexFunc_Row_Row_l1_O s0 s1 s7) o).2 := by
  unfold slices_IndexFunc_Row_Row_l1_s at h
  rcases iS h with ⟨h1, h⟩ | ⟨h1, h⟩
  ·
   obtain ⟨x1, h2, h⟩ := xS h
   obtain ⟨r2, h3, h⟩ := bS h
   cases r2 with
   | true =>
    replace h := iteT h
    obtain rfl := si h
    exact runB_arr mixed [(9, .bit true), (14, .el (TRow.D x1)), (16, .ret (.d (D.b true)))] [] [.live [4], .keep []] (ai h1 (ai (elem_map TRow.D h2) (ai (extend_Greatest_1_ok x1 s1 true h3) (ti)))) (by kernel_rfl)
   | false =>
    replace h := iteF h
    obtain rfl := si h
    exact runB_arr mixed [(9, .bit true), (14, .el (TRow.D x1)), (16, .ret (.d (D.b false)))] [] [.live [0, 1, 7, 8], .keep []] (ai h1 (ai (elem_map TRow.D h2) (ai (extend_Greatest_1_ok x1 s1 false h3) (ti)))) (by kernel_rfl)
  ·
   obtain rfl := si h
   exact runB_arr mixed [(9, .bit false)] [] [.live [], .keep []] (ai h1 (ti)) (by kernel_rfl)
theorem slices_IndexFunc_Row_Row_l1_ok (rd : Option Nat) (s0 : List TRow) (s1 : TRow) (s7 : Int) (s8 : Int) (t : Unit ⊕ Int) (h : slices_IndexFunc_Row_Row_l1 s0 s1 s7 s8 = some t) : LpOf Try.prog rd (fbody Try.prog 67) [0, 1, 0, 1] (slices_IndexFunc_Row_Row_l1_I s0 s1 s7 s8) ((slices_IndexFunc_Row_Row_l1_O s0 s1 s7) t).1 ((slices_IndexFunc_Row_Row_l1_O s0 s1 s7) t).2 :=
  loopE_lpR (fun s : Int => slices_IndexFunc_Row_Row_l1_I s0 s1 s7 s) (slices_IndexFunc_Row_Row_l1_O s0 s1 s7) (by kernel_rfl) (fun t => isN_ne (by rcases t with (_ | _) <;> rfl)) (fun s o h => slices_IndexFunc_Row_Row_l1_rnd rd s0 s1 s7 s o h) (s := s8) (t := t) h
theorem slices_IndexFunc_Row_Row_ok (a0 : List TRow) (a1 : TRow) (r : Int) (h : slices_IndexFunc_Row_Row a0 a1 = some r) : ACall Try.prog 67 [.d ((D.l TRow.D) a0), .clo (.func 49) [] [.eptr (D.cells (TRow.D a1))]] [] (.d ((D.i .i64) r)) [] := by
  unfold slices_IndexFunc_Row_Row at h
  obtain ⟨o3, h5, h⟩ := bS h
  replace h := sumE_some h
  rcases h with ⟨o4, rfl, h⟩ | ⟨o5, rfl, h⟩
  ·
   obtain rfl := si h
   exact runF_call mixed [(7, .int (a0.length : Int))] [⟨[0, 1, 0, 1], [.live [0, 1, 7, 8], .keep []], .exit 0, (slices_IndexFunc_Row_Row_l1_O a0 a1 (a0.length : Int) (Sum.inl o4)).2⟩] [] (ai (len_map TRow.D a0) (ai (slices_IndexFunc_Row_Row_l1_ok none a0 a1 (a0.length : Int) 0 (Sum.inl o4) h5) (ti))) (by kernel_rfl)
  ·
   obtain rfl := si h
   exact runF_call mixed [(7, .int (a0.length : Int))] [⟨[0, 1, 0, 1], [.live [0, 1, 7, 8], .keep []], .ret, (slices_IndexFunc_Row_Row_l1_O a0 a1 (a0.length : Int) (Sum.inr o5)).2⟩] [] (ai (len_map TRow.D a0) (ai (slices_IndexFunc_Row_Row_l1_ok none a0 a1 (a0.length : Int) 0 (Sum.inr o5) h5) (ti))) (by kernel_rfl)
theorem slices_ContainsFunc_Row_Row_ok (a0 : List TRow) (a1 : TRow) (r : Bool) (h : slices_ContainsFunc_Row_Row a0 a1 = some r) : ACall Try.prog 50 [.d ((D.l TRow.D) a0), .clo (.func 49) [] [.eptr (D.cells (TRow.D a1))]] [] (.d (D.b r)) [] := by
  unfold slices_ContainsFunc_Row_Row at h
  obtain ⟨r1, h1, h⟩ := bS h
  obtain rfl := si h
  exact runF_call mixed [(7, .ret (.d ((D.i .i64) r1)))] [] [] (ai (slices_IndexFunc_Row_Row_ok a0 a1 r1 h1) (ti)) (by kernel_rfl)
def extend_Greatest_b5_I (s1 : List TSlot) (s12 : List TRow) (s13 : Int) (s14 : Int) (s21 : Bool) (w5 : List TRow) (w8 : TRow) : St := ⟨sp 44 0 [(1, .d ((D.l TSlot.D) s1)), (5, .row 5), (6, .nil), (8, .box 8 0), (12, .d ((D.l TRow.D) s12)), (13, .d ((D.i .i64) s13)), (14, .d ((D.i .i64) s14)), (21, .d (D.b s21))], [(5, .row 48 2 (w5.map TRow.D)), (8, .cells ((cellsA (TRow.D w8))))], []⟩
def extend_Greatest_b5_O (s1 : List TSlot) (s12 : List TRow) (s13 : Int) (s14 : Int) (s21 : Bool) (w5 : List TRow) (w8 : TRow) (o : (List TRow)) : Ex × St := (.normal, ⟨sp 44 0 [(1, .d ((D.l TSlot.D) s1)), (5, .row 5), (6, .nil), (12, .d ((D.l TRow.D) s12)), (13, .d ((D.i .i64) s13)), (14, .d ((D.i .i64) s14))], [(5, .row 48 2 (o.map TRow.D))], []⟩)
theorem extend_Greatest_b5_ok (rd : Option Nat) (s1 : List TSlot) (s12 : List TRow) (s13 : Int) (s14 : Int) (s21 : Bool) (w5 : List TRow) (w8 : TRow) (o : (List TRow)) (h : extend_Greatest_b5 s1 s12 s13 s14 s21 w5 w8 = some o) : LpOf Try.prog rd (fbody Try.prog 19) [1, 1, 0, 0, 1, 1, 0, 0, 1, 0, 1, 1] (extend_Greatest_b5_I s1 s12 s13 s14 s21 w5 w8) (extend_Greatest_b5_O s1 s12 s13 s14 s21 w5 w8 o).1 (extend_Greatest_b5_O s1 s12 s13 s14 s21 w5 w8 o).2 := by
  unfold extend_Greatest_b5 at h
  cases s21 with
  | true =>
   replace h := iteT h
   obtain ⟨h12, h⟩ := cS h
   obtain rfl := si h
   exact (runB_arr mixed [(25, .sl ((w5 ++ [w8]).map TRow.D))] [] [.live [1, 5, 6, 12, 13, 14], .keep [25], .ren 25 5, .sort] (ai (nc_ok TRow.D [w8]) (ai (nc_ok TRow.D [w8]) (ai (fit_map TRow.D h12) (ai (app_map TRow.D w5 [w8]) (ti))))) (by kernel_rfl)).lp
  | false =>
   replace h := iteF h
   obtain rfl := si h
   exact (runB_arr mixed [] [] [.live [1, 5, 6, 12, 13, 14], .keep [5]] (ti) (by kernel_rfl)).lp
def extend_Greatest_b4_I (s1 : List TSlot) (s12 : List TRow) (s13 : Int) (s14 : Int) (w5 : List TRow) : St := ⟨sp 44 0 [(1, .d ((D.l TSlot.D) s1)), (5, .row 5), (6, .nil), (12, .d ((D.l TRow.D) s12)), (13, .d ((D.i .i64) s13)), (14, .d ((D.i .i64) s14))], [(5, .row 48 2 (w5.map TRow.D))], []⟩
def extend_Greatest_b4_O (s1 : List TSlot) (s12 : List TRow) (s13 : Int) (s14 : Int) (w5 : List TRow) (o : (List TRow)) : Ex × St := (.normal, ⟨sp 44 0 [(1, .d ((D.l TSlot.D) s1)), (5, .row 5), (6, .nil), (12, .d ((D.l TRow.D) s12)), (13, .d ((D.i .i64) s13)), (14, .d ((D.i .i64) s14))], [(5, .row 48 2 (o.map TRow.D))], []⟩)
theorem extend_Greatest_b4_ok (rd : Option Nat) (s1 : List TSlot) (s12 : List TRow) (s13 : Int) (s14 : Int) (w5 : List TRow) (o : (List TRow)) (h : extend_Greatest_b4 s1 s12 s13 s14 w5 = some o) : LpOf Try.prog rd (fbody Try.prog 19) [0, 1, 1, 0, 0, 1, 0, 1, 1] (extend_Greatest_b4_I s1 s12 s13 s14 w5) (extend_Greatest_b4_O s1 s12 s13 s14 w5 o).1 (extend_Greatest_b4_O s1 s12 s13 s14 w5 o).2 := by
  unfold extend_Greatest_b4 at h
  obtain ⟨x5, h9, h⟩ := xS h
  obtain ⟨r6, h10, h⟩ := bS h
  obtain ⟨o7, h13, h⟩ := bS h
  obtain rfl := si h
  exact (runB_arr mixed [(16, .el (TRow.D x5)), (21, .ret (.d (D.b r6)))] [⟨[1, 1, 0, 0, 1, 1, 0, 0, 1, 0, 1, 1], [.live [1, 5, 6, 8, 12, 13, 14, 21], .keep [5, 8]], .normal, (extend_Greatest_b5_O s1 s12 s13 s14 r6 w5 x5 o7).2⟩] [.live [1, 5, 6, 12, 13, 14], .keep [5]] (ai (elem_map TRow.D h9) (ai (binding_Under_ok x5.bind s1 r6 h10) (ai (extend_Greatest_b5_ok rd s1 s12 s13 s14 r6 w5 x5 o7 h13) (ti)))) (by kernel_rfl)).lp
def extend_Greatest_l1_I (s1 : List TSlot) (s12 : List TRow) (s13 : Int) (s14 : Int) (w5 : List TRow) : St := ⟨sp 44 0 [(1, .d ((D.l TSlot.D) s1)), (5, .row 5), (6, .nil), (12, .d ((D.l TRow.D) s12)), (13, .d ((D.i .i64) s13)), (14, .d ((D.i .i64) s14))], [(5, .row 48 2 (w5.map TRow.D))], []⟩
def extend_Greatest_l1_O (s1 : List TSlot) (s12 : List TRow) (s13 : Int) (o : (List TRow)) : Ex × St := (.exit 0, ⟨sp 44 0 [(5, .row 5), (6, .nil)], [(5, .row 48 2 (o.map TRow.D))], []⟩)
theorem extend_Greatest_l1_rnd (rd : Option Nat) (s1 : List TSlot) (s12 : List TRow) (s13 : Int) (s14 : Int) (w5 : List TRow) (o : (Int × List TRow) ⊕ ((List TRow))) (h : extend_Greatest_l1_s s1 s12 s13 s14 w5 = some o) : Arr Try.prog rd (fbody Try.prog 19) (0 :: [0, 1, 0, 1, 1]) (extend_Greatest_l1_I s1 s12 s13 s14 w5) (rR (fun s : Int × List TRow => extend_Greatest_l1_I s1 s12 s13 s.1 s.2) (extend_Greatest_l1_O s1 s12 s13) o).1 (rR (fun s : Int × List TRow => extend_Greatest_l1_I s1 s12 s13 s.1 s.2) (extend_Greatest_l1_O s1 s12 s13) o).2 := by
  unfold extend_Greatest_l1_s at h
  rcases iS h with ⟨h8, h⟩ | ⟨h8, h⟩
  ·
   obtain ⟨o8, h14, h⟩ := bS h
   obtain rfl := si h
   exact runB_arr mixed [(15, .bit true)] [⟨[0, 1, 1, 0, 0, 1, 0, 1, 1], [.live [1, 5, 6, 12, 13, 14], .keep [5]], .normal, (extend_Greatest_b4_O s1 s12 s13 s14 w5 o8).2⟩] [.live [1, 5, 6, 12, 13, 14], .keep [5]] (ai h8 (ai (extend_Greatest_b4_ok rd s1 s12 s13 s14 w5 o8 h14) (ti))) (by kernel_rfl)
  ·
   obtain rfl := si h
   exact runB_arr mixed [(15, .bit false)] [] [.live [5, 6], .keep [5]] (ai h8 (ti)) (by kernel_rfl)
theorem extend_Greatest_l1_ok (rd : Option Nat) (s1 : List TSlot) (s12 : List TRow) (s13 : Int) (s14 : Int) (w5 : List TRow) (t : (List TRow)) (h : extend_Greatest_l1 s1 s12 s13 s14 w5 = some t) : LpOf Try.prog rd (fbody Try.prog 19) [0, 1, 0, 1, 1] (extend_Greatest_l1_I s1 s12 s13 s14 w5) ((extend_Greatest_l1_O s1 s12 s13) t).1 ((extend_Greatest_l1_O s1 s12 s13) t).2 :=
  loopE_lpR (fun s : Int × List TRow => extend_Greatest_l1_I s1 s12 s13 s.1 s.2) (extend_Greatest_l1_O s1 s12 s13) (by kernel_rfl) (fun t => isN_ne (by rfl)) (fun s o h => extend_Greatest_l1_rnd rd s1 s12 s13 s.1 s.2 o h) (s := (s14, w5)) (t := t) h
def extend_Greatest_b10_I (s28 : Int) (s29 : Int) (s37 : Bool) (w5 : List TRow) (w6 : List TRow) (w10 : TRow) : St := ⟨sp 44 0 [(5, .row 5), (6, .row 6), (10, .box 10 0), (27, .row 5), (28, .d ((D.i .i64) s28)), (29, .d ((D.i .i64) s29)), (37, .d (D.b s37))], [(5, .row 48 2 (w5.map TRow.D)), (6, .row 48 2 (w6.map TRow.D)), (10, .fz (D.cells (TRow.D w10)))], []⟩
def extend_Greatest_b10_O (s28 : Int) (s29 : Int) (s37 : Bool) (w5 : List TRow) (w6 : List TRow) (w10 : TRow) (o : (List TRow)) : Ex × St := (.normal, ⟨sp 44 0 [(5, .row 5), (6, .row 6), (27, .row 5), (28, .d ((D.i .i64) s28)), (29, .d ((D.i .i64) s29))], [(5, .row 48 2 (w5.map TRow.D)), (6, .row 48 2 (o.map TRow.D))], []⟩)
theorem extend_Greatest_b10_ok (rd : Option Nat) (s28 : Int) (s29 : Int) (s37 : Bool) (w5 : List TRow) (w6 : List TRow) (w10 : TRow) (o : (List TRow)) (h : extend_Greatest_b10 s28 s29 s37 w5 w6 w10 = some o) : LpOf Try.prog rd (fbody Try.prog 19) [1, 1, 1, 0, 0, 1, 1, 0, 0, 1, 0, 1, 1, 1] (extend_Greatest_b10_I s28 s29 s37 w5 w6 w10) (extend_Greatest_b10_O s28 s29 s37 w5 w6 w10 o).1 (extend_Greatest_b10_O s28 s29 s37 w5 w6 w10 o).2 := by
  unfold extend_Greatest_b10 at h
  cases s37 with
  | true =>
   replace h := iteT h
   obtain ⟨h27, h⟩ := cS h
   obtain rfl := si h
   exact (runB_arr mixed [(41, .sl ((w6 ++ [w10]).map TRow.D))] [] [.live [5, 6, 27, 28, 29], .keep [5, 41], .ren 41 6, .sort] (ai (nc_ok TRow.D [w10]) (ai (nc_ok TRow.D [w10]) (ai (fit_map TRow.D h27) (ai (app_map TRow.D w6 [w10]) (ti))))) (by kernel_rfl)).lp
  | false =>
   replace h := iteF h
   obtain rfl := si h
   exact (runB_arr mixed [] [] [.live [5, 6, 27, 28, 29], .keep [5, 6]] (ti) (by kernel_rfl)).lp
def extend_Greatest_b9_I (s28 : Int) (s29 : Int) (w5 : List TRow) (w6 : List TRow) : St := ⟨sp 44 0 [(5, .row 5), (6, .row 6), (27, .row 5), (28, .d ((D.i .i64) s28)), (29, .d ((D.i .i64) s29))], [(5, .row 48 2 (w5.map TRow.D)), (6, .row 48 2 (w6.map TRow.D))], []⟩
def extend_Greatest_b9_O (s28 : Int) (s29 : Int) (w5 : List TRow) (w6 : List TRow) (o : (List TRow)) : Ex × St := (.normal, ⟨sp 44 0 [(5, .row 5), (6, .row 6), (27, .row 5), (28, .d ((D.i .i64) s28)), (29, .d ((D.i .i64) s29))], [(5, .row 48 2 (w5.map TRow.D)), (6, .row 48 2 (o.map TRow.D))], []⟩)
theorem extend_Greatest_b9_ok (rd : Option Nat) (s28 : Int) (s29 : Int) (w5 : List TRow) (w6 : List TRow) (o : (List TRow)) (h : extend_Greatest_b9 s28 s29 w5 w6 = some o) : LpOf Try.prog rd (fbody Try.prog 19) [0, 1, 1, 0, 0, 1, 0, 1, 1, 1] (extend_Greatest_b9_I s28 s29 w5 w6) (extend_Greatest_b9_O s28 s29 w5 w6 o).1 (extend_Greatest_b9_O s28 s29 w5 w6 o).2 := by
  unfold extend_Greatest_b9 at h
  obtain ⟨x14, h24, h⟩ := xS h
  obtain ⟨r15, h25, h⟩ := bS h
  obtain ⟨o16, h28, h⟩ := bS h
  obtain rfl := si h
  exact (runB_arr mixed [(31, .el (TRow.D x14)), (10010, .frz), (36, .ret (.d (D.b r15)))] [⟨[1, 1, 1, 0, 0, 1, 1, 0, 0, 1, 0, 1, 1, 1], [.live [5, 6, 10, 27, 28, 29, 37], .keep [5, 6, 10]], .normal, (extend_Greatest_b10_O s28 s29 (!r15) w5 w6 x14 o16).2⟩] [.live [5, 6, 27, 28, 29], .keep [5, 6]] (ai (elem_map TRow.D h24) (ai (slices_ContainsFunc_Row_Row_ok w5 x14 r15 h25) (ai (extend_Greatest_b10_ok rd s28 s29 (!r15) w5 w6 x14 o16 h28) (ti)))) (by kernel_rfl)).lp
def extend_Greatest_l6_I (s28 : Int) (w5 : List TRow) (s29 : Int) (w6 : List TRow) : St := ⟨sp 44 0 [(5, .row 5), (6, .row 6), (27, .row 5), (28, .d ((D.i .i64) s28)), (29, .d ((D.i .i64) s29))], [(5, .row 48 2 (w5.map TRow.D)), (6, .row 48 2 (w6.map TRow.D))], []⟩
def extend_Greatest_l6_O (s28 : Int) (w5 : List TRow) (o : (List TRow)) : Ex × St := (.exit 2, ⟨sp 44 0 [(6, .row 6)], [(6, .row 48 2 (o.map TRow.D))], []⟩)
theorem extend_Greatest_l6_rnd (rd : Option Nat) (s28 : Int) (w5 : List TRow) (s29 : Int) (w6 : List TRow) (o : (Int × List TRow) ⊕ ((List TRow))) (h : extend_Greatest_l6_s s28 w5 s29 w6 = some o) : Arr Try.prog rd (fbody Try.prog 19) (0 :: [0, 1, 0, 1, 1, 1]) (extend_Greatest_l6_I s28 w5 s29 w6) (rR (fun s : Int × List TRow => extend_Greatest_l6_I s28 w5 s.1 s.2) (extend_Greatest_l6_O s28 w5) o).1 (rR (fun s : Int × List TRow => extend_Greatest_l6_I s28 w5 s.1 s.2) (extend_Greatest_l6_O s28 w5) o).2 := by
  unfold extend_Greatest_l6_s at h
  rcases iS h with ⟨h23, h⟩ | ⟨h23, h⟩
  ·
   obtain ⟨o17, h29, h⟩ := bS h
   obtain rfl := si h
   exact runB_arr mixed [(30, .bit true)] [⟨[0, 1, 1, 0, 0, 1, 0, 1, 1, 1], [.live [5, 6, 27, 28, 29], .keep [5, 6]], .normal, (extend_Greatest_b9_O s28 s29 w5 w6 o17).2⟩] [.live [5, 6, 27, 28, 29], .keep [5, 6]] (ai h23 (ai (extend_Greatest_b9_ok rd s28 s29 w5 w6 o17 h29) (ti))) (by kernel_rfl)
  ·
   obtain rfl := si h
   exact runB_arr mixed [(30, .bit false)] [] [.live [6], .keep [6]] (ai h23 (ti)) (by kernel_rfl)
theorem extend_Greatest_l6_ok (rd : Option Nat) (s28 : Int) (w5 : List TRow) (s29 : Int) (w6 : List TRow) (t : (List TRow)) (h : extend_Greatest_l6 s28 w5 s29 w6 = some t) : LpOf Try.prog rd (fbody Try.prog 19) [0, 1, 0, 1, 1, 1] (extend_Greatest_l6_I s28 w5 s29 w6) ((extend_Greatest_l6_O s28 w5) t).1 ((extend_Greatest_l6_O s28 w5) t).2 :=
  loopE_lpR (fun s : Int × List TRow => extend_Greatest_l6_I s28 w5 s.1 s.2) (extend_Greatest_l6_O s28 w5) (by kernel_rfl) (fun t => isN_ne (by rfl)) (fun s o h => extend_Greatest_l6_rnd rd s28 w5 s.1 s.2 o h) (s := (s29, w6)) (t := t) h
theorem extend_Greatest_ok (a0 : List TRow) (a1 : List TSlot) (r : List TRow) (h : extend_Greatest a0 a1 = some r) : ACall Try.prog 19 [.d ((D.l TRow.D) a0), .d ((D.l TSlot.D) a1)] [] (.d ((D.l TRow.D) r)) [] := by
  unfold extend_Greatest at h
  obtain ⟨o9, h15, h⟩ := bS h
  obtain ⟨o18, h30, h⟩ := bS h
  obtain rfl := si h
  exact runF_call mixed [(13, .int (a0.length : Int)), (28, .int (o9.length : Int))] [⟨[0, 1, 0, 1, 1], [.live [1, 5, 6, 12, 13, 14], .keep [], .nil 5 5 48 2, .sort], .exit 0, (extend_Greatest_l1_O a1 a0 (a0.length : Int) o9).2⟩, ⟨[0, 1, 0, 1, 1, 1], [.live [5, 6, 27, 28, 29], .keep [5], .nil 6 6 48 2, .sort], .exit 2, (extend_Greatest_l6_O (o9.length : Int) o9 o18).2⟩] [] (ai (len_map TRow.D a0) (ai (extend_Greatest_l1_ok none a1 a0 (a0.length : Int) 0 ([] : List TRow) o9 h15) (ai (len_map TRow.D o9) (ai (extend_Greatest_l6_ok none (o9.length : Int) o9 0 ([] : List TRow) o18 h30) (ti))))) (by kernel_rfl)
theorem slices_Clone_Config_Config_ok (l r : List TConfig) (h : slices_Clone_Config_Config l = some r) : ACall Try.prog 51 [.d (D.l TConfig.D l)] [] (.d (D.l TConfig.D r)) [] :=
  cloneE_d (ρ := ⟨fun _ => 51, fun n => if n = 4 then 4 else if n = 22 then 41 else 53, id⟩) (by_ := 32) TConfig.D rfl (cloneL mixed ⟨ "slices.Clone[[]proctor/api.Config,proctor/api.Config]", by decide, (Try.func51).trans (by kernel_rfl)⟩ Try.underlying4 Try.underlying41 (by kernel_rfl) (by kernel_rfl) (by kernel_rfl) (by kernel_rfl)) (by kernel_rfl) (by decide) l r h
theorem extend_Copy_ok (a0 : List TRow) (a1 : List TSlot) (r : List TConfig × Bool) (h : extend_Copy a0 a1 = some r) : ACall Try.prog 21 [.d ((D.l TRow.D) a0), .d ((D.l TSlot.D) a1)] [] (.tup [.d ((D.l TConfig.D) r.1), .d (D.b r.2)]) [] := by
  unfold extend_Copy at h
  obtain ⟨r1, h1, h⟩ := bS h
  rcases iS h with ⟨h2, h⟩ | ⟨h2, h⟩
  ·
   obtain rfl := si h
   exact runF_call mixed [(9, .ret (.d ((D.l TRow.D) r1))), (11, .int (r1.length : Int)), (12, .bit true)] [] [] (ai (extend_Greatest_ok a0 a1 r1 h1) (ai (len_map TRow.D r1) (ai h2 (ti)))) (by kernel_rfl)
  ·
   obtain ⟨x2, h3, h⟩ := xS h
   obtain ⟨r3, h4, h⟩ := bS h
   obtain rfl := si h
   exact runF_call mixed [(9, .ret (.d ((D.l TRow.D) r1))), (11, .int (r1.length : Int)), (12, .bit false), (14, .el (TRow.D x2)), (17, .ret (.d ((D.l TConfig.D) r3)))] [] [] (ai (extend_Greatest_ok a0 a1 r1 h1) (ai (len_map TRow.D r1) (ai h2 (ai (elem_map TRow.D h3) (ai (slices_Clone_Config_Config_ok x2.set r3 h4) (ti)))))) (by kernel_rfl)
def extend_New_l1_I (s0 : List TRow) (s1 : List THit) (s13 : List TRow) (s14 : Int) (s15 : Int) (w5 : List (List TSlot)) : St := ⟨sp 47 0 [(0, .d ((D.l TRow.D) s0)), (1, .d ((D.l THit.D) s1)), (5, .row 5), (13, .d ((D.l TRow.D) s13)), (14, .d ((D.i .i64) s14)), (15, .d ((D.i .i64) s15))], [(5, .row 23 1 (w5.map (D.l TSlot.D)))], []⟩
def extend_New_l1_O (s0 : List TRow) (s1 : List THit) (s13 : List TRow) (s14 : Int) (o : (List (List TSlot))) : Ex × St := (.exit 0, ⟨sp 47 0 [(0, .d ((D.l TRow.D) s0)), (1, .d ((D.l THit.D) s1)), (5, .row 5)], [(5, .row 23 1 (o.map (D.l TSlot.D)))], []⟩)
theorem extend_New_l1_rnd (rd : Option Nat) (s0 : List TRow) (s1 : List THit) (s13 : List TRow) (s14 : Int) (s15 : Int) (w5 : List (List TSlot)) (o : (Int × List (List TSlot)) ⊕ ((List (List TSlot)))) (h : extend_New_l1_s s0 s1 s13 s14 s15 w5 = some o) : Arr Try.prog rd (fbody Try.prog 25) (0 :: [0, 1, 0, 1, 1]) (extend_New_l1_I s0 s1 s13 s14 s15 w5) (rR (fun s : Int × List (List TSlot) => extend_New_l1_I s0 s1 s13 s14 s.1 s.2) (extend_New_l1_O s0 s1 s13 s14) o).1 (rR (fun s : Int × List (List TSlot) => extend_New_l1_I s0 s1 s13 s14 s.1 s.2) (extend_New_l1_O s0 s1 s13 s14) o).2 := by
  unfold extend_New_l1_s at h
  rcases iS h with ⟨h4, h⟩ | ⟨h4, h⟩
  ·
   obtain ⟨x2, h5, h⟩ := xS h
   obtain ⟨h6, h⟩ := cS h
   obtain rfl := si h
   exact runB_arr mixed [(16, .bit true), (17, .el (TRow.D x2)), (23, .sl ((w5 ++ [x2.bind]).map (D.l TSlot.D)))] [] [.live [0, 1, 5, 13, 14, 15], .keep [23], .ren 23 5, .sort] (ai h4 (ai (elem_map TRow.D h5) (ai (nc_ok (D.l TSlot.D) [x2.bind]) (ai (nc_ok (D.l TSlot.D) [x2.bind]) (ai (fit_map (D.l TSlot.D) h6) (ai (app_map (D.l TSlot.D) w5 [x2.bind]) (ti))))))) (by kernel_rfl)
  ·
   obtain rfl := si h
   exact runB_arr mixed [(16, .bit false)] [] [.live [0, 1, 5], .keep [5]] (ai h4 (ti)) (by kernel_rfl)
theorem extend_New_l1_ok (rd : Option Nat) (s0 : List TRow) (s1 : List THit) (s13 : List TRow) (s14 : Int) (s15 : Int) (w5 : List (List TSlot)) (t : (List (List TSlot))) (h : extend_New_l1 s0 s1 s13 s14 s15 w5 = some t) : LpOf Try.prog rd (fbody Try.prog 25) [0, 1, 0, 1, 1] (extend_New_l1_I s0 s1 s13 s14 s15 w5) ((extend_New_l1_O s0 s1 s13 s14) t).1 ((extend_New_l1_O s0 s1 s13 s14) t).2 :=
  loopE_lpR (fun s : Int × List (List TSlot) => extend_New_l1_I s0 s1 s13 s14 s.1 s.2) (extend_New_l1_O s0 s1 s13 s14) (by kernel_rfl) (fun t => isN_ne (by rfl)) (fun s o h => extend_New_l1_rnd rd s0 s1 s13 s14 s.1 s.2 o h) (s := (s15, w5)) (t := t) h
def extend_New_l2_I (s0 : List TRow) (s27 : List (List TSlot)) (s28 : Int) (s29 : Int) (w8 : List TRow) : St := ⟨sp 47 0 [(0, .d ((D.l TRow.D) s0)), (8, .row 8), (27, .d ((D.l (D.l TSlot.D)) s27)), (28, .d ((D.i .i64) s28)), (29, .d ((D.i .i64) s29))], [(8, .row 48 2 (w8.map TRow.D))], []⟩
def extend_New_l2_O (s0 : List TRow) (s27 : List (List TSlot)) (s28 : Int) (o : (List TRow)) : Ex × St := (.exit 2, ⟨sp 47 0 [(8, .row 8)], [(8, .row 48 2 (o.map TRow.D))], []⟩)
theorem extend_New_l2_rnd (rd : Option Nat) (s0 : List TRow) (s27 : List (List TSlot)) (s28 : Int) (s29 : Int) (w8 : List TRow) (o : (Int × List TRow) ⊕ ((List TRow))) (h : extend_New_l2_s s0 s27 s28 s29 w8 = some o) : Arr Try.prog rd (fbody Try.prog 25) (0 :: [0, 1, 0, 1, 1, 1, 1]) (extend_New_l2_I s0 s27 s28 s29 w8) (rR (fun s : Int × List TRow => extend_New_l2_I s0 s27 s28 s.1 s.2) (extend_New_l2_O s0 s27 s28) o).1 (rR (fun s : Int × List TRow => extend_New_l2_I s0 s27 s28 s.1 s.2) (extend_New_l2_O s0 s27 s28) o).2 := by
  unfold extend_New_l2_s at h
  rcases iS h with ⟨h13, h⟩ | ⟨h13, h⟩
  ·
   obtain ⟨x7, h14, h⟩ := xS h
   obtain ⟨r8, h15, h⟩ := bS h
   obtain ⟨h16, h⟩ := cS h
   obtain rfl := si h
   exact runB_arr mixed [(30, .bit true), (31, .el ((D.l TSlot.D) x7)), (36, .ret (.tup [.d ((D.l TConfig.D) r8.1), .d (D.b r8.2)])), (44, .sl ((w8 ++ [TRow.mk x7 r8.1]).map TRow.D))] [] [.live [0, 8, 27, 28, 29], .keep [44], .ren 44 8, .sort] (ai h13 (ai (elem_map (D.l TSlot.D) h14) (ai (extend_Copy_ok s0 x7 r8 h15) (ai (nc_ok TRow.D [TRow.mk x7 r8.1]) (ai (nc_ok TRow.D [TRow.mk x7 r8.1]) (ai (fit_map TRow.D h16) (ai (app_map TRow.D w8 [TRow.mk x7 r8.1]) (ti)))))))) (by kernel_rfl)
  ·
   obtain rfl := si h
   exact runB_arr mixed [(30, .bit false)] [] [.live [8], .keep [8]] (ai h13 (ti)) (by kernel_rfl)
theorem extend_New_l2_ok (rd : Option Nat) (s0 : List TRow) (s27 : List (List TSlot)) (s28 : Int) (s29 : Int) (w8 : List TRow) (t : (List TRow)) (h : extend_New_l2 s0 s27 s28 s29 w8 = some t) : LpOf Try.prog rd (fbody Try.prog 25) [0, 1, 0, 1, 1, 1, 1] (extend_New_l2_I s0 s27 s28 s29 w8) ((extend_New_l2_O s0 s27 s28) t).1 ((extend_New_l2_O s0 s27 s28) t).2 :=
  loopE_lpR (fun s : Int × List TRow => extend_New_l2_I s0 s27 s28 s.1 s.2) (extend_New_l2_O s0 s27 s28) (by kernel_rfl) (fun t => isN_ne (by rfl)) (fun s o h => extend_New_l2_rnd rd s0 s27 s28 s.1 s.2 o h) (s := (s29, w8)) (t := t) h
theorem extend_New_ok (a0 : List TRow) (a1 : List THit) (r : List TRow) (h : extend_New a0 a1 = some r) : ACall Try.prog 25 [.d ((D.l TRow.D) a0), .d ((D.l THit.D) a1)] [] (.d ((D.l TRow.D) r)) [] := by
  unfold extend_New at h
  obtain ⟨o3, h7, h⟩ := bS h
  obtain ⟨r4, h8, h⟩ := bS h
  obtain ⟨o9, h17, h⟩ := bS h
  obtain rfl := si h
  exact runF_call mixed [(14, .int (a0.length : Int)), (27, .ret (.d ((D.l (D.l TSlot.D)) r4))), (28, .int (r4.length : Int))] [⟨[0, 1, 0, 1, 1], [.live [0, 1, 5, 13, 14, 15], .keep [], .nil 5 5 23 1, .sort], .exit 0, (extend_New_l1_O a0 a1 a0 (a0.length : Int) o3).2⟩, ⟨[0, 1, 0, 1, 1, 1, 1], [.live [0, 8, 27, 28, 29], .keep [], .nil 8 8 48 2, .sort], .exit 2, (extend_New_l2_O a0 r4 (r4.length : Int) o9).2⟩] [] (ai (len_map TRow.D a0) (ai (extend_New_l1_ok none a0 a1 a0 (a0.length : Int) 0 ([] : List (List TSlot)) o3 h7) (ai (extend_Grow_ok o3 a1 r4 h8) (ai (len_map (D.l TSlot.D) r4) (ai (extend_New_l2_ok none a0 r4 (r4.length : Int) 0 ([] : List TRow) o9 h17) (ti)))))) (by kernel_rfl)
def ref18_Less_l1_I (w2 : TConfig) (w3 : TConfig) (s5 : Int) : St := ⟨sp 59 0 [(2, .box 2 0), (3, .box 3 0), (5, .d ((D.i .i64) s5))], [(2, .cells ((cellsA (TConfig.D w2)))), (3, .cells ((cellsA (TConfig.D w3))))], []⟩
def ref18_Less_l1_O (w2 : TConfig) (w3 : TConfig) (o : Unit ⊕ Bool) : Ex × St := match o with
  | .inl o => (.exit 0, ⟨sp 59 0 [(2, .box 2 0), (3, .box 3 0)], [(2, .cells ((cellsA (TConfig.D w2)))), (3, .cells ((cellsA (TConfig.D w3))))], []⟩)
  | .inr o => (.ret, ⟨sp 59 0 [(4, .d (D.b o))], [], []⟩)
theorem ref18_Less_l1_rnd (rd : Option Nat) (w2 : TConfig) (w3 : TConfig) (s5 : Int) (o : (Int) ⊕ (Unit ⊕ Bool)) (h : ref18_Less_l1_s w2 w3 s5 = some o) : Arr Try.prog rd (fbody Try.prog 68) (0 :: [0, 1, 0, 1, 1]) (ref18_Less_l1_I w2 w3 s5) (rR (fun s : Int => ref18_Less_l1_I w2 w3 s) (ref18_Less_l1_O w2 w3) o).1 (rR (fun s : Int => ref18_Less_l1_I w2 w3 s) (ref18_Less_l1_O w2 w3) o).2 := by
  unfold ref18_Less_l1_s at h
  rcases iS h with ⟨h2, h⟩ | ⟨h2, h⟩
  ·
   rcases iS h with ⟨h3, h⟩ | ⟨h3, h⟩
   ·
    obtain ⟨x1, h4, h⟩ := xS h
    obtain ⟨x2, h5, h⟩ := xS h
    rcases iS h with ⟨h6, h⟩ | ⟨h6, h⟩
    ·
     obtain ⟨x3, h7, h⟩ := xS h
     obtain ⟨x4, h8, h⟩ := xS h
     obtain ⟨r5, h9, h⟩ := bS h
     obtain rfl := si h
     exact runB_arr mixed [(19, .int (w2.vals.length : Int)), (21, .bit true), (25, .int (w3.vals.length : Int)), (27, .bit true), (33, .el (TValue.D x1)), (38, .el (TValue.D x2)), (40, .bit true), (44, .el (TValue.D x3)), (49, .el (TValue.D x4)), (51, .ret (.d (D.b r5)))] [] [.live [4], .keep []] (ai (len_map TValue.D w2.vals) (ai h2 (ai (len_map TValue.D w3.vals) (ai h3 (ai (elem_map TValue.D h4) (ai (elem_map TValue.D h5) (ai h6 (ai (elem_map TValue.D h7) (ai (elem_map TValue.D h8) (ai (ref03_Less_ok x3 x4 r5 h9) (ti))))))))))) (by kernel_rfl)
    ·
     obtain rfl := si h
     exact runB_arr mixed [(19, .int (w2.vals.length : Int)), (21, .bit true), (25, .int (w3.vals.length : Int)), (27, .bit true), (33, .el (TValue.D x1)), (38, .el (TValue.D x2)), (40, .bit false)] [] [.live [2, 3, 5], .keep [2, 3]] (ai (len_map TValue.D w2.vals) (ai h2 (ai (len_map TValue.D w3.vals) (ai h3 (ai (elem_map TValue.D h4) (ai (elem_map TValue.D h5) (ai h6 (ti)))))))) (by kernel_rfl)
   ·
    obtain rfl := si h
    exact runB_arr mixed [(19, .int (w2.vals.length : Int)), (21, .bit true), (25, .int (w3.vals.length : Int)), (27, .bit false)] [] [.live [2, 3], .keep [2, 3]] (ai (len_map TValue.D w2.vals) (ai h2 (ai (len_map TValue.D w3.vals) (ai h3 (ti))))) (by kernel_rfl)
  ·
   obtain rfl := si h
   exact runB_arr mixed [(19, .int (w2.vals.length : Int)), (21, .bit false)] [] [.live [2, 3], .keep [2, 3]] (ai (len_map TValue.D w2.vals) (ai h2 (ti))) (by kernel_rfl)
theorem ref18_Less_l1_ok (rd : Option Nat) (w2 : TConfig) (w3 : TConfig) (s5 : Int) (t : Unit ⊕ Bool) (h : ref18_Less_l1 w2 w3 s5 = some t) : LpOf Try.prog rd (fbody Try.prog 68) [0, 1, 0, 1, 1] (ref18_Less_l1_I w2 w3 s5) ((ref18_Less_l1_O w2 w3) t).1 ((ref18_Less_l1_O w2 w3) t).2 :=
  loopE_lpR (fun s : Int => ref18_Less_l1_I w2 w3 s) (ref18_Less_l1_O w2 w3) (by kernel_rfl) (fun t => isN_ne (by rcases t with (_ | _) <;> rfl)) (fun s o h => ref18_Less_l1_rnd rd w2 w3 s o h) (s := s5) (t := t) h
theorem ref18_Less_ok (a0 : TConfig) (a1 : TConfig) (r : Bool) (h : ref18_Less a0 a1 = some r) : ACall Try.prog 68 [.d (TConfig.D a0), .d (TConfig.D a1)] [] (.d (D.b r)) [] := by
  unfold ref18_Less at h
  rcases iS h with ⟨h1, h⟩ | ⟨h1, h⟩
  ·
   obtain rfl := si h
   exact runF_call mixed [(10, .bit true)] [] [] (ai h1 (ti)) (by kernel_rfl)
  ·
   obtain ⟨o6, h10, h⟩ := bS h
   replace h := sumE_some h
   rcases h with ⟨o7, rfl, h⟩ | ⟨o8, rfl, h⟩
   ·
    obtain rfl := si h
    exact runF_call mixed [(10, .bit false), (54, .int (a0.vals.length : Int)), (57, .int (a1.vals.length : Int))] [⟨[0, 1, 0, 1, 1], [.live [2, 3, 5], .keep [2, 3]], .exit 0, (ref18_Less_l1_O a0 a1 (Sum.inl o7)).2⟩] [] (ai h1 (ai (ref18_Less_l1_ok none a0 a1 0 (Sum.inl o7) h10) (ai (len_map TValue.D a0.vals) (ai (len_map TValue.D a1.vals) (ti))))) (by kernel_rfl)
   ·
    obtain rfl := si h
    exact runF_call mixed [(10, .bit false)] [⟨[0, 1, 0, 1, 1], [.live [2, 3, 5], .keep [2, 3]], .ret, (ref18_Less_l1_O a0 a1 (Sum.inr o8)).2⟩] [] (ai h1 (ai (ref18_Less_l1_ok none a0 a1 0 (Sum.inr o8) h10) (ti))) (by kernel_rfl)
theorem ref18_One_ok (a0 : TConfig) (a1 : TConfig) (r : Bool) (h : ref18_One a0 a1 = some r) : ACall Try.prog 52 [.d (TConfig.D a0), .d (TConfig.D a1)] [] (.d (D.b r)) [] := by
  unfold ref18_One at h
  obtain ⟨r1, h1, h⟩ := bS h
  rcases iS h with ⟨h2, h⟩ | ⟨h2, h⟩
  ·
   obtain ⟨r2, h3, h⟩ := bS h
   obtain rfl := si h
   exact runF_call mixed [(7, .ret (.d (D.b r1))), (9, .bit true), (12, .ret (.d (D.b r2)))] [] [] (ai (ref18_Less_ok a0 a1 r1 h1) (ai h2 (ai (ref18_Less_ok a1 a0 r2 h3) (ti)))) (by kernel_rfl)
  ·
   obtain rfl := si h
   exact runF_call mixed [(7, .ret (.d (D.b r1))), (9, .bit false)] [] [] (ai (ref18_Less_ok a0 a1 r1 h1) (ai h2 (ti))) (by kernel_rfl)
def ref18_Same_l1_I (s0 : List TConfig) (s1 : List TConfig) (s5 : Int) : St := ⟨sp 27 0 [(0, .d ((D.l TConfig.D) s0)), (1, .d ((D.l TConfig.D) s1)), (5, .d ((D.i .i64) s5))], [], []⟩
def ref18_Same_l1_O (s0 : List TConfig) (s1 : List TConfig) (o : Unit ⊕ Unit) : Ex × St := match o with
  | .inl o => (.exit 0, ⟨sp 27 0 [], [], []⟩)
  | .inr o => (.ret, ⟨sp 27 0 [(4, .d (D.b false))], [], []⟩)
theorem ref18_Same_l1_rnd (rd : Option Nat) (s0 : List TConfig) (s1 : List TConfig) (s5 : Int) (o : (Int) ⊕ (Unit ⊕ Unit)) (h : ref18_Same_l1_s s0 s1 s5 = some o) : Arr Try.prog rd (fbody Try.prog 23) (0 :: [0, 1, 0, 1, 1]) (ref18_Same_l1_I s0 s1 s5) (rR (fun s : Int => ref18_Same_l1_I s0 s1 s) (ref18_Same_l1_O s0 s1) o).1 (rR (fun s : Int => ref18_Same_l1_I s0 s1 s) (ref18_Same_l1_O s0 s1) o).2 := by
  unfold ref18_Same_l1_s at h
  rcases iS h with ⟨h2, h⟩ | ⟨h2, h⟩
  ·
   obtain ⟨x1, h3, h⟩ := xS h
   obtain ⟨x2, h4, h⟩ := xS h
   obtain ⟨r3, h5, h⟩ := bS h
   rcases iS h with ⟨h6, h⟩ | ⟨h6, h⟩
   ·
    obtain rfl := si h
    exact runB_arr mixed [(13, .int (s0.length : Int)), (14, .bit true), (19, .el (TConfig.D x1)), (23, .el (TConfig.D x2)), (25, .ret (.d (D.b r3))), (26, .bit true)] [] [.live [4], .keep []] (ai (len_map TConfig.D s0) (ai h2 (ai (elem_map TConfig.D h3) (ai (elem_map TConfig.D h4) (ai (ref18_One_ok x1 x2 r3 h5) (ai h6 (ti))))))) (by kernel_rfl)
   ·
    obtain rfl := si h
    exact runB_arr mixed [(13, .int (s0.length : Int)), (14, .bit true), (19, .el (TConfig.D x1)), (23, .el (TConfig.D x2)), (25, .ret (.d (D.b r3))), (26, .bit false)] [] [.live [0, 1, 5], .keep []] (ai (len_map TConfig.D s0) (ai h2 (ai (elem_map TConfig.D h3) (ai (elem_map TConfig.D h4) (ai (ref18_One_ok x1 x2 r3 h5) (ai h6 (ti))))))) (by kernel_rfl)
  ·
   obtain rfl := si h
   exact runB_arr mixed [(13, .int (s0.length : Int)), (14, .bit false)] [] [.live [], .keep []] (ai (len_map TConfig.D s0) (ai h2 (ti))) (by kernel_rfl)
theorem ref18_Same_l1_ok (rd : Option Nat) (s0 : List TConfig) (s1 : List TConfig) (s5 : Int) (t : Unit ⊕ Unit) (h : ref18_Same_l1 s0 s1 s5 = some t) : LpOf Try.prog rd (fbody Try.prog 23) [0, 1, 0, 1, 1] (ref18_Same_l1_I s0 s1 s5) ((ref18_Same_l1_O s0 s1) t).1 ((ref18_Same_l1_O s0 s1) t).2 :=
  loopE_lpR (fun s : Int => ref18_Same_l1_I s0 s1 s) (ref18_Same_l1_O s0 s1) (by kernel_rfl) (fun t => isN_ne (by rcases t with (_ | _) <;> rfl)) (fun s o h => ref18_Same_l1_rnd rd s0 s1 s o h) (s := s5) (t := t) h
theorem ref18_Same_ok (a0 : List TConfig) (a1 : List TConfig) (r : Bool) (h : ref18_Same a0 a1 = some r) : ACall Try.prog 23 [.d ((D.l TConfig.D) a0), .d ((D.l TConfig.D) a1)] [] (.d (D.b r)) [] := by
  unfold ref18_Same at h
  rcases iS h with ⟨h1, h⟩ | ⟨h1, h⟩
  ·
   obtain rfl := si h
   exact runF_call mixed [(7, .int (a0.length : Int)), (9, .int (a1.length : Int)), (10, .bit true)] [] [] (ai (len_map TConfig.D a0) (ai (len_map TConfig.D a1) (ai h1 (ti)))) (by kernel_rfl)
  ·
   obtain ⟨o4, h7, h⟩ := bS h
   replace h := sumE_some h
   rcases h with ⟨o5, rfl, h⟩ | ⟨o6, rfl, h⟩
   ·
    obtain rfl := si h
    exact runF_call mixed [(7, .int (a0.length : Int)), (9, .int (a1.length : Int)), (10, .bit false)] [⟨[0, 1, 0, 1, 1], [.live [0, 1, 5], .keep []], .exit 0, (ref18_Same_l1_O a0 a1 (Sum.inl o5)).2⟩] [] (ai (len_map TConfig.D a0) (ai (len_map TConfig.D a1) (ai h1 (ai (ref18_Same_l1_ok none a0 a1 0 (Sum.inl o5) h7) (ti))))) (by kernel_rfl)
   ·
    obtain rfl := si h
    exact runF_call mixed [(7, .int (a0.length : Int)), (9, .int (a1.length : Int)), (10, .bit false)] [⟨[0, 1, 0, 1, 1], [.live [0, 1, 5], .keep []], .ret, (ref18_Same_l1_O a0 a1 (Sum.inr o6)).2⟩] [] (ai (len_map TConfig.D a0) (ai (len_map TConfig.D a1) (ai h1 (ai (ref18_Same_l1_ok none a0 a1 0 (Sum.inr o6) h7) (ti))))) (by kernel_rfl)
def ref24_Same_l1_I (s0 : List TRow) (s1 : List TRow) (s5 : Int) : St := ⟨sp 43 0 [(0, .d ((D.l TRow.D) s0)), (1, .d ((D.l TRow.D) s1)), (5, .d ((D.i .i64) s5))], [], []⟩
def ref24_Same_l1_O (s0 : List TRow) (s1 : List TRow) (o : Unit ⊕ Unit) : Ex × St := match o with
  | .inl o => (.exit 0, ⟨sp 43 0 [], [], []⟩)
  | .inr o => (.ret, ⟨sp 43 0 [(4, .d (D.b false))], [], []⟩)
theorem ref24_Same_l1_rnd (rd : Option Nat) (s0 : List TRow) (s1 : List TRow) (s5 : Int) (o : (Int) ⊕ (Unit ⊕ Unit)) (h : ref24_Same_l1_s s0 s1 s5 = some o) : Arr Try.prog rd (fbody Try.prog 20) (0 :: [0, 1, 0, 1, 1]) (ref24_Same_l1_I s0 s1 s5) (rR (fun s : Int => ref24_Same_l1_I s0 s1 s) (ref24_Same_l1_O s0 s1) o).1 (rR (fun s : Int => ref24_Same_l1_I s0 s1 s) (ref24_Same_l1_O s0 s1) o).2 := by
  unfold ref24_Same_l1_s at h
  rcases iS h with ⟨h2, h⟩ | ⟨h2, h⟩
  ·
   obtain ⟨x1, h3, h⟩ := xS h
   obtain ⟨x2, h4, h⟩ := xS h
   obtain ⟨r3, h5, h⟩ := bS h
   rcases iS h with ⟨h6, h⟩ | ⟨h6, h⟩
   ·
    obtain rfl := si h
    exact runB_arr mixed [(13, .int (s0.length : Int)), (14, .bit true), (19, .el (TRow.D x1)), (24, .el (TRow.D x2)), (27, .ret (.d (D.b r3))), (29, .bit true)] [] [.live [4], .keep []] (ai (len_map TRow.D s0) (ai h2 (ai (elem_map TRow.D h3) (ai (elem_map TRow.D h4) (ai (ref05_Same_ok x1.bind x2.bind r3 h5) (ai h6 (ti))))))) (by kernel_rfl)
   ·
    obtain ⟨x4, h7, h⟩ := xS h
    obtain ⟨x5, h8, h⟩ := xS h
    obtain ⟨r6, h9, h⟩ := bS h
    rcases iS h with ⟨h10, h⟩ | ⟨h10, h⟩
    ·
     obtain rfl := si h
     exact runB_arr mixed [(13, .int (s0.length : Int)), (14, .bit true), (19, .el (TRow.D x1)), (24, .el (TRow.D x2)), (27, .ret (.d (D.b r3))), (29, .bit false), (32, .el (TRow.D x4)), (37, .el (TRow.D x5)), (40, .ret (.d (D.b r6))), (42, .bit true)] [] [.live [4], .keep []] (ai (len_map TRow.D s0) (ai h2 (ai (elem_map TRow.D h3) (ai (elem_map TRow.D h4) (ai (ref05_Same_ok x1.bind x2.bind r3 h5) (ai h6 (ai (elem_map TRow.D h7) (ai (elem_map TRow.D h8) (ai (ref18_Same_ok x4.set x5.set r6 h9) (ai h10 (ti))))))))))) (by kernel_rfl)
    ·
     obtain rfl := si h
     exact runB_arr mixed [(13, .int (s0.length : Int)), (14, .bit true), (19, .el (TRow.D x1)), (24, .el (TRow.D x2)), (27, .ret (.d (D.b r3))), (29, .bit false), (32, .el (TRow.D x4)), (37, .el (TRow.D x5)), (40, .ret (.d (D.b r6))), (42, .bit false)] [] [.live [0, 1, 5], .keep []] (ai (len_map TRow.D s0) (ai h2 (ai (elem_map TRow.D h3) (ai (elem_map TRow.D h4) (ai (ref05_Same_ok x1.bind x2.bind r3 h5) (ai h6 (ai (elem_map TRow.D h7) (ai (elem_map TRow.D h8) (ai (ref18_Same_ok x4.set x5.set r6 h9) (ai h10 (ti))))))))))) (by kernel_rfl)
  ·
   obtain rfl := si h
   exact runB_arr mixed [(13, .int (s0.length : Int)), (14, .bit false)] [] [.live [], .keep []] (ai (len_map TRow.D s0) (ai h2 (ti))) (by kernel_rfl)
theorem ref24_Same_l1_ok (rd : Option Nat) (s0 : List TRow) (s1 : List TRow) (s5 : Int) (t : Unit ⊕ Unit) (h : ref24_Same_l1 s0 s1 s5 = some t) : LpOf Try.prog rd (fbody Try.prog 20) [0, 1, 0, 1, 1] (ref24_Same_l1_I s0 s1 s5) ((ref24_Same_l1_O s0 s1) t).1 ((ref24_Same_l1_O s0 s1) t).2 :=
  loopE_lpR (fun s : Int => ref24_Same_l1_I s0 s1 s) (ref24_Same_l1_O s0 s1) (by kernel_rfl) (fun t => isN_ne (by rcases t with (_ | _) <;> rfl)) (fun s o h => ref24_Same_l1_rnd rd s0 s1 s o h) (s := s5) (t := t) h
theorem ref24_Same_ok (a0 : List TRow) (a1 : List TRow) (r : Bool) (h : ref24_Same a0 a1 = some r) : ACall Try.prog 20 [.d ((D.l TRow.D) a0), .d ((D.l TRow.D) a1)] [] (.d (D.b r)) [] := by
  unfold ref24_Same at h
  rcases iS h with ⟨h1, h⟩ | ⟨h1, h⟩
  ·
   obtain rfl := si h
   exact runF_call mixed [(7, .int (a0.length : Int)), (9, .int (a1.length : Int)), (10, .bit true)] [] [] (ai (len_map TRow.D a0) (ai (len_map TRow.D a1) (ai h1 (ti)))) (by kernel_rfl)
  ·
   obtain ⟨o7, h11, h⟩ := bS h
   replace h := sumE_some h
   rcases h with ⟨o8, rfl, h⟩ | ⟨o9, rfl, h⟩
   ·
    obtain rfl := si h
    exact runF_call mixed [(7, .int (a0.length : Int)), (9, .int (a1.length : Int)), (10, .bit false)] [⟨[0, 1, 0, 1, 1], [.live [0, 1, 5], .keep []], .exit 0, (ref24_Same_l1_O a0 a1 (Sum.inl o8)).2⟩] [] (ai (len_map TRow.D a0) (ai (len_map TRow.D a1) (ai h1 (ai (ref24_Same_l1_ok none a0 a1 0 (Sum.inl o8) h11) (ti))))) (by kernel_rfl)
   ·
    obtain rfl := si h
    exact runF_call mixed [(7, .int (a0.length : Int)), (9, .int (a1.length : Int)), (10, .bit false)] [⟨[0, 1, 0, 1, 1], [.live [0, 1, 5], .keep []], .ret, (ref24_Same_l1_O a0 a1 (Sum.inr o9)).2⟩] [] (ai (len_map TRow.D a0) (ai (len_map TRow.D a1) (ai h1 (ai (ref24_Same_l1_ok none a0 a1 0 (Sum.inr o9) h11) (ti))))) (by kernel_rfl)
def law26_ExtendNew_l1_I (s5 : List TRow) (s6 : List THit) (s8 : List (List TSlot)) (s9 : Int) (w7 : List TRow) : St := ⟨sp 71 0 [(5, .d ((D.l TRow.D) s5)), (6, .d ((D.l THit.D) s6)), (7, .row 7), (8, .d ((D.l (D.l TSlot.D)) s8)), (9, .d ((D.i .i64) s9))], [(7, .row 48 2 (w7.map TRow.D))], []⟩
def law26_ExtendNew_l1_O (s5 : List TRow) (s6 : List THit) (s8 : List (List TSlot)) (o : (List TRow)) : Ex × St := (.exit 0, ⟨sp 71 0 [(5, .d ((D.l TRow.D) s5)), (6, .d ((D.l THit.D) s6)), (7, .row 7)], [(7, .row 48 2 (o.map TRow.D))], []⟩)
theorem law26_ExtendNew_l1_rnd (rd : Option Nat) (s5 : List TRow) (s6 : List THit) (s8 : List (List TSlot)) (s9 : Int) (w7 : List TRow) (o : (Int × List TRow) ⊕ ((List TRow))) (h : law26_ExtendNew_l1_s s5 s6 s8 s9 w7 = some o) : Arr Try.prog rd (fbody Try.prog 5) (0 :: [0, 1, 0, 1, 1, 1, 1, 1, 1]) (law26_ExtendNew_l1_I s5 s6 s8 s9 w7) (rR (fun s : Int × List TRow => law26_ExtendNew_l1_I s5 s6 s8 s.1 s.2) (law26_ExtendNew_l1_O s5 s6 s8) o).1 (rR (fun s : Int × List TRow => law26_ExtendNew_l1_I s5 s6 s8 s.1 s.2) (law26_ExtendNew_l1_O s5 s6 s8) o).2 := by
  unfold law26_ExtendNew_l1_s at h
  rcases iS h with ⟨h20, h⟩ | ⟨h20, h⟩
  ·
   obtain ⟨x14, h21, h⟩ := xS h
   obtain ⟨r15, h22, h⟩ := bS h
   obtain ⟨x16, h23, h⟩ := xS h
   obtain ⟨h24, h⟩ := cS h
   obtain rfl := si h
   exact runB_arr mixed [(41, .int (s8.length : Int)), (42, .bit true), (49, .el ((D.l TSlot.D) x14)), (51, .ret (.tup [.d ((D.l TConfig.D) r15.1), .d (D.b r15.2)])), (57, .el ((D.l TSlot.D) x16)), (62, .sl ((w7 ++ [TRow.mk x16 r15.1]).map TRow.D))] [] [.live [5, 6, 7, 8, 9], .keep [62], .ren 62 7, .sort] (ai (len_map (D.l TSlot.D) s8) (ai h20 (ai (elem_map (D.l TSlot.D) h21) (ai (ref26_Copy_ok s5 x14 r15 h22) (ai (elem_map (D.l TSlot.D) h23) (ai (nc_ok TRow.D [TRow.mk x16 r15.1]) (ai (nc_ok TRow.D [TRow.mk x16 r15.1]) (ai (fit_map TRow.D h24) (ai (app_map TRow.D w7 [TRow.mk x16 r15.1]) (ti)))))))))) (by kernel_rfl)
  ·
   obtain rfl := si h
   exact runB_arr mixed [(41, .int (s8.length : Int)), (42, .bit false)] [] [.live [5, 6, 7], .keep [7]] (ai (len_map (D.l TSlot.D) s8) (ai h20 (ti))) (by kernel_rfl)
theorem law26_ExtendNew_l1_ok (rd : Option Nat) (s5 : List TRow) (s6 : List THit) (s8 : List (List TSlot)) (s9 : Int) (w7 : List TRow) (t : (List TRow)) (h : law26_ExtendNew_l1 s5 s6 s8 s9 w7 = some t) : LpOf Try.prog rd (fbody Try.prog 5) [0, 1, 0, 1, 1, 1, 1, 1, 1] (law26_ExtendNew_l1_I s5 s6 s8 s9 w7) ((law26_ExtendNew_l1_O s5 s6 s8) t).1 ((law26_ExtendNew_l1_O s5 s6 s8) t).2 :=
  loopE_lpR (fun s : Int × List TRow => law26_ExtendNew_l1_I s5 s6 s8 s.1 s.2) (law26_ExtendNew_l1_O s5 s6 s8) (by kernel_rfl) (fun t => isN_ne (by rfl)) (fun s o h => law26_ExtendNew_l1_rnd rd s5 s6 s8 s.1 s.2 o h) (s := (s9, w7)) (t := t) h
theorem law26_ExtendNew_ok (a0 : List (List TSlot)) (a1 : List (List TSlot)) (r : Bool) (h : law26_ExtendNew a0 a1 = some r) : ACall Try.prog 5 [.d ((D.l (D.l TSlot.D)) a0), .d ((D.l (D.l TSlot.D)) a1)] [] (.d (D.b r)) [] := by
  unfold law26_ExtendNew at h
  rcases iS h with ⟨h1, h⟩ | ⟨h1, h⟩
  ·
   obtain ⟨r1, h2, h⟩ := bS h
   obtain rfl := si h
   exact runF_call mixed [(13, .int (a0.length : Int)), (15, .bit true), (30, .ret (.d (D.b r1)))] [] [] (ai (len_map (D.l TSlot.D) a0) (ai h1 (ai (law26_awake_ok r1 h2) (ti)))) (by kernel_rfl)
  ·
   rcases iS h with ⟨h3, h⟩ | ⟨h3, h⟩
   ·
    obtain ⟨r2, h4, h⟩ := bS h
    obtain rfl := si h
    exact runF_call mixed [(13, .int (a0.length : Int)), (15, .bit false), (17, .int (a1.length : Int)), (20, .bit true), (30, .ret (.d (D.b r2)))] [] [] (ai (len_map (D.l TSlot.D) a0) (ai h1 (ai (len_map (D.l TSlot.D) a1) (ai h3 (ai (law26_awake_ok r2 h4) (ti)))))) (by kernel_rfl)
   ·
    obtain ⟨r3, h5, h⟩ := bS h
    rcases iS h with ⟨h6, h⟩ | ⟨h6, h⟩
    ·
     obtain ⟨r4, h7, h⟩ := bS h
     obtain rfl := si h
     exact runF_call mixed [(13, .int (a0.length : Int)), (15, .bit false), (17, .int (a1.length : Int)), (20, .bit false), (22, .ret (.d (D.b r3))), (25, .bit true), (30, .ret (.d (D.b r4)))] [] [] (ai (len_map (D.l TSlot.D) a0) (ai h1 (ai (len_map (D.l TSlot.D) a1) (ai h3 (ai (law26_right_ok a0 r3 h5) (ai h6 (ai (law26_awake_ok r4 h7) (ti)))))))) (by kernel_rfl)
    ·
     obtain ⟨r5, h8, h⟩ := bS h
     rcases iS h with ⟨h9, h⟩ | ⟨h9, h⟩
     ·
      obtain ⟨r6, h10, h⟩ := bS h
      obtain rfl := si h
      exact runF_call mixed [(13, .int (a0.length : Int)), (15, .bit false), (17, .int (a1.length : Int)), (20, .bit false), (22, .ret (.d (D.b r3))), (25, .bit false), (27, .ret (.d (D.b r5))), (29, .bit true), (30, .ret (.d (D.b r6)))] [] [] (ai (len_map (D.l TSlot.D) a0) (ai h1 (ai (len_map (D.l TSlot.D) a1) (ai h3 (ai (law26_right_ok a0 r3 h5) (ai h6 (ai (law26_right_ok a1 r5 h8) (ai h9 (ai (law26_awake_ok r6 h10) (ti)))))))))) (by kernel_rfl)
     ·
      obtain ⟨r7, h11, h⟩ := bS h
      obtain ⟨r8, h12, h⟩ := bS h
      obtain ⟨r9, h13, h⟩ := bS h
      obtain ⟨r10, h14, h⟩ := bS h
      obtain ⟨o17, h25, h⟩ := bS h
      obtain ⟨r18, h26, h⟩ := bS h
      obtain ⟨r19, h27, h⟩ := bS h
      cases r19 with
      | true =>
       replace h := iteT h
       obtain ⟨r20, h29, h⟩ := bS h
       obtain rfl := si h
       exact runF_call mixed [(13, .int (a0.length : Int)), (15, .bit false), (17, .int (a1.length : Int)), (20, .bit false), (22, .ret (.d (D.b r3))), (25, .bit false), (27, .ret (.d (D.b r5))), (29, .bit false), (32, .ret (.d ((D.l TRow.D) r7))), (34, .ret (.d ((D.l THit.D) r8))), (36, .ret (.d ((D.l (D.l TSlot.D)) r9))), (38, .ret (.d ((D.l (D.l TSlot.D)) r10))), (65, .ret (.d ((D.l TRow.D) r18))), (67, .ret (.d (D.b true))), (69, .ret (.d (D.b r20)))] [⟨[0, 1, 0, 1, 1, 1, 1, 1, 1], [.live [5, 6, 7, 8, 9], .keep [], .nil 7 7 48 2, .sort], .exit 0, (law26_ExtendNew_l1_O r7 r8 r10 o17).2⟩] [] (ai (len_map (D.l TSlot.D) a0) (ai h1 (ai (len_map (D.l TSlot.D) a1) (ai h3 (ai (law26_right_ok a0 r3 h5) (ai h6 (ai (law26_right_ok a1 r5 h8) (ai h9 (ai (law26_rows_ok a0 r7 h11) (ai (law26_hits_ok a1 r8 h12) (ai (ref26_Binds_ok r7 r9 h13) (ai (ref26_Grow_ok r9 r8 r10 h14) (ai (law26_ExtendNew_l1_ok none r7 r8 r10 0 ([] : List TRow) o17 h25) (ai (extend_New_ok r7 r8 r18 h26) (ai (ref24_Same_ok r18 o17 true h27) (ai (law26_awake_ok r20 h29) (ti))))))))))))))))) (by kernel_rfl)
      | false =>
       replace h := iteF h
       obtain rfl := si h
       exact runF_call mixed [(13, .int (a0.length : Int)), (15, .bit false), (17, .int (a1.length : Int)), (20, .bit false), (22, .ret (.d (D.b r3))), (25, .bit false), (27, .ret (.d (D.b r5))), (29, .bit false), (32, .ret (.d ((D.l TRow.D) r7))), (34, .ret (.d ((D.l THit.D) r8))), (36, .ret (.d ((D.l (D.l TSlot.D)) r9))), (38, .ret (.d ((D.l (D.l TSlot.D)) r10))), (65, .ret (.d ((D.l TRow.D) r18))), (67, .ret (.d (D.b false)))] [⟨[0, 1, 0, 1, 1, 1, 1, 1, 1], [.live [5, 6, 7, 8, 9], .keep [], .nil 7 7 48 2, .sort], .exit 0, (law26_ExtendNew_l1_O r7 r8 r10 o17).2⟩] [] (ai (len_map (D.l TSlot.D) a0) (ai h1 (ai (len_map (D.l TSlot.D) a1) (ai h3 (ai (law26_right_ok a0 r3 h5) (ai h6 (ai (law26_right_ok a1 r5 h8) (ai h9 (ai (law26_rows_ok a0 r7 h11) (ai (law26_hits_ok a1 r8 h12) (ai (ref26_Binds_ok r7 r9 h13) (ai (ref26_Grow_ok r9 r8 r10 h14) (ai (law26_ExtendNew_l1_ok none r7 r8 r10 0 ([] : List TRow) o17 h25) (ai (extend_New_ok r7 r8 r18 h26) (ai (ref24_Same_ok r18 o17 false h27) (ti)))))))))))))))) (by kernel_rfl)
end Go.Ac
